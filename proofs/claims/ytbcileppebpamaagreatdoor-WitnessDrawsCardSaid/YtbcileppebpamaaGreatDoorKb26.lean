/- Lemmas for WitnessDraws: part 26. -/
import Derived.SliceStrings
import Derived.Shelf.Vars
import Derived.Deep.Slices
import Derived.Test.YtbcileppebpamaaGreatDoorKb08
import Derived.Test.YtbcileppebpamaaGreatDoorKb10
import Derived.Test.YtbcileppebpamaaGreatDoorKb20
import Derived.Test.YtbcileppebpamaaGreatDoorKb24
set_option linter.unusedSimpArgs false
set_option linter.unusedVariables false
namespace Go.Proofs.YtbcileppebpamaaGreatDoor
open Go Go.RowKit Go.ChangeShapes Go.WideShapes
set_option maxRecDepth 100000
def laidW7 : List (String × DataW Unit) := [("math/bits.deBruijn32tab", Rows.laid_math_bits_deBruijn32tab), ("math/bits.deBruijn64tab", Rows.laid_math_bits_deBruijn64tab), ("internal/strconv.uint64pow10", Rows.laid_internal_strconv_uint64pow10), ("unicode/utf8.acceptRanges", Rows.laid_unicode_utf8_acceptRanges), ("strconv.ErrRange", Rows.laid_strconv_ErrRange), ("strconv.ErrSyntax", Rows.laid_strconv_ErrSyntax), ("unicode/utf8.first", Rows.laid_unicode_utf8_first)]
theorem of_laidW7 {W : World} (h : laidMetH Tryz.prog laidW7 W) : LaidW W := by
  rw [MakeChecks.laidMetH_plain _ _ _ (by kernel_rfl)] at h
  exact of_laidM h
theorem layW7 (os : Os) (args : Array Value) : laidMetH Tryz.prog laidW7 ((World.laidAll Tryz.prog os laidW7).forCall (fun _ _ => 0) ⟨#[], args, []⟩).memory := by
  rw [MakeChecks.laidMetH_plain _ _ _ (by kernel_rfl)]
  exact laidMet_laidAll _ (by kernel_rfl) (by kernel_rfl)
end Go.Proofs.YtbcileppebpamaaGreatDoor
set_option linter.unusedSimpArgs false
set_option linter.unusedVariables false
namespace Go.Proofs.YtbcileppebpamaaGreatDoor
open Go Go.RowKit
theorem handed_sh {H : Type} {enc : TypeId × Value → H} {a : Assume} {C : Checked} {os : Os} {f : FuncId} {fn : Func} {s : ChangeSpec} {X : World → Array Value → Prop}
    (hX : ∀ (w w' : World) (args : Array Value), w.heap = w'.heap → X w args → X w' args) (own : ownKnob C.prog.godebug = none) (started : os.Started) (noInit : C.prog.inits.idxOf? f = none) (hfn : C.prog.funcs[f]? = some fn)
    (witness : ∃ (w : World) (tape : Tape) (i : Input), w.os = os ∧ (w.forCall tape i).Shaped C.prog ∧ i.vars = [] ∧ Input.okWide C.prog (w.forCall tape i) .any w.heap.size f i ∧
      ((s.pre enc C.prog fn [] false (w.forCall tape i).memory i.args ∧ X (w.forCall tape i).memory i.args) ∧ sizedMet enc C.prog fn (OpenSpec.ofChange s) false (w.forCall tape i).memory i.args) ∧ a.holds C.prog (lone (Frame.enter C.prog f i.args .normal) [] (w.forCall tape i)))
    (contract : ∀ (W : World) (base : Nat) (args : Array Value) (ds gs : List (DataW H)) (before : List MemPlace),
      (∀ (j : Nat) t v, fn.params[j]? = some t → args[j]? = some v → Value.okWide C.prog W .any base t v) →
      DataW.Whole enc C.prog fn.params.toList s.vars false W args.toList ds gs before → X W args → W.ShapedOpen C.prog →
      Calls C.prog f args W fun e W' => ∃ v, e = .returned v ∧ s.post enc C.prog fn false true false false W args v W') :
    ReturnsInHanded a C os f .any (fun w args => (s.pre enc C.prog fn [] false w args ∧ X w args) ∧ sizedMet enc C.prog fn (OpenSpec.ofChange s) false w args) (s.post enc C.prog fn false true false false) := by
  refine returnsInHanded_of_calls own started noInit witness fun w tape i _ hsh _ hok hpre _ => ?_
  obtain ⟨_, _, _, fn2, hfn2, _, _, _, _, hval⟩ := hok
  obtain rfl : fn2 = fn := Option.some.inj (hfn2.symm.trans hfn)
  obtain ⟨⟨⟨ds, gs, before, hw, _⟩, hx⟩, _⟩ := hpre
  refine (contract (w.forCall tape i) w.heap.size i.args ds gs before hval (DataW.Whole.of_heap (w' := w.forCall tape i) (by rfl) hw) (hX _ _ _ (by rfl) hx) hsh).mono ?_
  rintro e W' ⟨v, rfl, hp⟩
  exact ChangeSpec.post_blind hp
/-- The library's own variable holds a number. -/
theorem max_len {W : World} (h : W.ShapedOpen Tryz.prog) : ∃ m, W.cell? ⟨2, 0, none⟩ = some (.int .i64 m) :=
  Go.Proofs.cell_of_shapedOpen_int (P := Tryz.prog) (g := 2) (t := 3) (zero := #[.int .i64 0]) h (of_decide_eq_true (by kernel_rfl)) (by kernel_rfl) rfl (by kernel_rfl) (by kernel_rfl) Tryz.underlying3
end Go.Proofs.YtbcileppebpamaaGreatDoor
set_option linter.unusedSimpArgs false
set_option linter.unusedVariables false
namespace Go.Proofs.YtbcileppebpamaaGreatDoor
open Go Go.RowKit Go.ChangeShapes Go.WideShapes
set_option maxRecDepth 100000
def OkDd (x : Dd) : Prop := x.k < 256 ∧ x.h.size ≤ maxLen ∧ x.s.size ≤ maxLen
instance : Inhabited Dd := ⟨⟨0, 0, ⟨#[]⟩, 0, 0, ⟨#[]⟩⟩⟩
theorem box_rd {H : Type} {enc : TypeId × Value → H} {W : World} {fuel : Nat} {a b c : Value} {y : DataW H × List MemPlace} (h : DataW.trod enc Tryz.prog W 0 (fun _ => true) true fuel 27 [a, b, c] = some y) : ∃ (p v : Int) (s : ByteArray), a = .int .i64 p ∧ b = .int .i64 v ∧ c = .string s ∧ s.size ≤ maxLen := by
  obtain ⟨xs, m, _, _, _, hn, hel⟩ := DataW.trod_struct Tryz.underlying27 h
  have e0 := hel 0 _ rfl
  have e1 := hel 1 _ rfl
  have e2 := hel 2 _ rfl
  have hn3 : xs.length = 3 := hn
  clear hel hn
  match xs, hn3 with
  | [y0, y1, y2], _ =>
    have f0 : DataW.trod enc Tryz.prog W 0 (fun _ => true) true m 3 [a] = some y0 := e0
    have f1 : DataW.trod enc Tryz.prog W 0 (fun _ => true) true m 3 [b] = some y1 := e1
    have f2 : DataW.trod enc Tryz.prog W 0 (fun _ => true) true m 9 [c] = some y2 := e2
    obtain ⟨z0, h0, _, _⟩ := DataW.trod_int (k := .i64) Tryz.underlying3 f0
    obtain ⟨z1, h1, _, _⟩ := DataW.trod_int (k := .i64) Tryz.underlying3 f1
    obtain ⟨z2, h2, _, w2⟩ := DataW.trod_string Tryz.underlying9 f2
    injection h0 with h0
    injection h1 with h1
    injection h2 with h2
    exact ⟨z0, z1, z2, h0, h1, h2, w2⟩
theorem deed_rd {H : Type} {enc : TypeId × Value → H} {W : World} {fuel : Nat} {cs : List Value} {y : DataW H × List MemPlace} (hc : cs.length = 6) (h : DataW.trod enc Tryz.prog W 0 (fun _ => true) true fuel 51 cs = some y) : ∃ x : Dd, cs = x.cells ∧ OkDd x := by
  match cs, hc with
  | [v0, v1, v2, v3, v4, v5], _ =>
    obtain ⟨xs, m, _, _, _, hn, hel⟩ := DataW.trod_struct Tryz.underlying51 h
    have e0 := hel 0 _ rfl
    have e1 := hel 1 _ rfl
    have e2 := hel 2 _ rfl
    have e3 := hel 3 _ rfl
    have hn4 : xs.length = 4 := hn
    clear hel hn
    match xs, hn4 with
    | [y0, y1, y2, y3], _ =>
      have f0 : DataW.trod enc Tryz.prog W 0 (fun _ => true) true m 5 [v0] = some y0 := e0
      have f1 : DataW.trod enc Tryz.prog W 0 (fun _ => true) true m 3 [v1] = some y1 := e1
      have f2 : DataW.trod enc Tryz.prog W 0 (fun _ => true) true m 9 [v2] = some y2 := e2
      have f3 : DataW.trod enc Tryz.prog W 0 (fun _ => true) true m 27 [v3, v4, v5] = some y3 := e3
      obtain ⟨z0, h0, _, w0⟩ := DataW.trod_int (k := .u8) Tryz.underlying5 f0
      obtain ⟨z1, h1, _, _⟩ := DataW.trod_int (k := .i64) Tryz.underlying3 f1
      obtain ⟨z2, h2, _, w2⟩ := DataW.trod_string Tryz.underlying9 f2
      obtain ⟨q, v, s, rfl, rfl, rfl, w5⟩ := box_rd f3
      injection h0 with h0
      injection h1 with h1
      injection h2 with h2
      subst h0 h1 h2
      have b0 := bounds_u8 w0
      obtain ⟨n0, rfl⟩ : ∃ n : Nat, z0 = n := ⟨z0.toNat, by omega⟩
      exact ⟨⟨n0, z1, z2, q, v, s⟩, rfl, by show n0 < 256; omega, w2, w5⟩
theorem deeds_rd {H : Type} {enc : TypeId × Value → H} {W : World} {fuel : Nat} {cs : List Value} {y : DataW H × List MemPlace} (h : DataW.trod enc Tryz.prog W 0 (fun _ => true) true fuel 42 cs = some y) : ∃ v ds, cs = [v] ∧ ReadsDd W v ds ∧ ds.length ≤ maxLen ∧ ∀ x ∈ ds, x.k < 256 ∧ x.h.size ≤ maxLen ∧ x.s.size ≤ maxLen := by
  rcases Go.Deep.open_slice Tryz.underlying42 h with ⟨hcs, _⟩ | ⟨a, len, cap, m, n, D, Pl, hcs, _, hl, hm, hmm, _, hel⟩
  · exact ⟨_, [], hcs, .inl ⟨rfl, none, 0, rfl⟩, by simp, fun x hx => by simp at hx⟩
  · have hm' : m = cap := by simpa using hmm
    have key : ∀ i, i < len → ∃ x : Dd, OkDd x ∧ ∀ k, k < 6 → W.cell? (a.add (i * 6 + k)) = x.cells[k]? := fun i hi => by
      obtain ⟨cs', h1, h2⟩ := hel i (by omega)
      rw [show Tryz.prog.cellsOf 51 = 6 by kernel_rfl] at h1
      obtain ⟨_, hlen, hcell⟩ := World.cells?_some h1
      obtain ⟨x, rfl, hok⟩ := deed_rd hlen h2
      refine ⟨x, hok, fun k hk => ?_⟩
      have e := hcell k hk
      rw [Go.Deep.add_add] at e
      exact e
    obtain ⟨F, hF⟩ := Go.Deep.choose_lt key
    have hl0 : ((List.range len).map F).length = len := by simp
    have hok : ∀ x ∈ (List.range len).map F, OkDd x := fun x hx => by
      obtain ⟨i, hi, rfl⟩ := List.mem_map.1 hx
      exact (hF i (List.mem_range.1 hi)).1
    refine ⟨_, (List.range len).map F, hcs, ?_, by rw [hl0]; omega, hok⟩
    rcases Nat.eq_zero_or_pos len with h0 | h0
    · subst h0
      exact .inl ⟨by simp, some a, cap, rfl⟩
    · obtain ⟨g, o, sp⟩ := a
      have hspot : sp = none := by
        have h1 := (hF 0 h0).2 0 (by omega)
        simp only [Dd.cells, List.getElem?_cons_zero] at h1
        simpa [Addr.add] using World.cell?_spot h1
      subst hspot
      refine .inr ⟨g, o, cap, by rw [hl0], ?_, fun i x hx k hk => ?_⟩
      · rcases Nat.lt_or_ge g W.heap.size with hg | hg
        · exact hg
        · have h1 := (hF 0 h0).2 0 (by omega)
          rw [show (⟨g, o, none⟩ : Addr).add (0 * 6 + 0) = ⟨g, o + 0, none⟩ by unfold Addr.add; split <;> simp_all] at h1
          simp [World.cell?, Array.getElem?_eq_none hg, Dd.cells] at h1
      · have hi := (List.getElem?_eq_some_iff.1 hx).1
        rw [hl0] at hi
        rw [List.getElem?_map, List.getElem?_range hi] at hx
        obtain rfl := Option.some.inj hx
        have h1 := (hF i hi).2 k hk
        rw [show (⟨g, o, none⟩ : Addr).add (i * 6 + k) = ⟨g, o + (i * 6 + k), none⟩ by unfold Addr.add; split <;> simp_all] at h1
        rw [Nat.add_assoc]
        exact h1
theorem open_deeds {H : Type} {enc : TypeId × Value → H} {W : World} {b0 : Nat} {v : Value} {d : DataW H} {ps : List MemPlace} (hv : Value.okWide Tryz.prog W .any b0 42 v) (h : DataW.Trod enc Tryz.prog W 0 (fun _ => true) true 42 v d ps) : ∃ ds, ReadsDd W v ds ∧ ds.length ≤ maxLen ∧ ∀ x ∈ ds, x.k < 256 ∧ x.h.size ≤ maxLen ∧ x.s.size ≤ maxLen := by
  obtain ⟨a0, len, cap, rfl⟩ := okWide_slice Tryz.underlying42 hv
  obtain ⟨fuel, hf⟩ := h
  have hf' : DataW.trod enc Tryz.prog W 0 (fun _ => true) true fuel 42 [.slice a0 len cap] = some (d, ps) := hf
  obtain ⟨v, ds, h1, h2⟩ := deeds_rd hf'
  injection h1 with h1
  subst h1
  exact ⟨ds, h2⟩
end Go.Proofs.YtbcileppebpamaaGreatDoor
