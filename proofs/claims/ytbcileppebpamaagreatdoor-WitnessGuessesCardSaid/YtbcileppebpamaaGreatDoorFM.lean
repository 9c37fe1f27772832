/- The frame of the Witness laws: the arguments opened, the tables read, the post paid. -/
import Derived.Test.YtbcileppebpamaaGreatDoorRows
import Derived.Test.YtbcileppebpamaaGreatDoorTie
import Derived.Test.YtbcileppebpamaaGreatDoorWD
import Derived.ProofKit
import Derived.LaidMore
import Derived.OpenShut
import Derived.Carry
import Derived.Stop.Joined
import Derived.ChangeSlices
import Derived.ChangeMaps5
import Derived.Lay
import Derived.Lib.LaidTab
set_option linter.unusedSimpArgs false
set_option linter.unusedVariables false
namespace Go.Proofs.YtbcileppebpamaaGreatDoor
open Go Go.RowKit Go.ChangeShapes Go.WideShapes
set_option maxRecDepth 100000

section
variable {H : Type} {enc : TypeId × Value → H} {P : Program}
theorem trodAll_below (hl : laidOutB P = true) {W W' : World} (hb : Below W.heap.size W W') : ∀ {ts : List TypeId} {vs : List Value} {ds : List (DataW H)} {ps : List MemPlace},
    (∀ t ∈ ts, P.readableRec t = true ∧ t < P.types.size) → DataW.TrodAll enc P W 0 (fun _ => true) true ts vs ds ps → (∀ x ∈ ps, x.block < W.heap.size) → DataW.TrodAll enc P W' 0 (fun b => decide (b < W.heap.size)) true ts vs ds ps
  | [], [], [], _, _, h, _ => h
  | t :: ts, v :: vs, d :: ds, ps, ht, h, hp => by
    obtain ⟨p, q, h1, h2, rfl⟩ := h
    have := ht t (by simp)
    exact ⟨p, q, Below.trod hl this.1 this.2 h1 hb (fun x hx => hp x (by simp [hx])), trodAll_below hl hb (fun t' h' => ht t' (by simp [h'])) h2 (fun x hx => hp x (by simp [hx])), rfl⟩
  | [], _ :: _, _, _, _, h, _ => by cases h
  | [], [], _ :: _, _, _, h, _ => by cases h
  | _ :: _, [], _, _, _, h, _ => by cases h
  | _ :: _, _ :: _, [], _, _, h, _ => by cases h
/-- A law's post: true, and what came in as it was. -/
theorem law_post {f : Func} {s : ChangeSpec} (hl : laidOutB P = true) {W W' : World} (hb : Below W.heap.size W W') {args : Array Value} {ds : List (DataW H)} {before : List MemPlace} (hr : f.resultTypes = #[4]) (hbool : P.underlying 4 = some .bool) (hs : s.vars = [])
    (hts : ∀ t ∈ f.params.toList, P.readableRec t = true ∧ t < P.types.size)
    (hW : DataW.Whole enc P f.params.toList s.vars false W args.toList ds [] before)
    (hfn : s.fn H (ds ++ []) = { results := [.lit (.bool true)], args := ds }) : s.post enc P f false true false false W args (.bool true) W' := by
  have hlt : ∀ x ∈ before, x.block < W.heap.size := fun x hx => by simpa using hW.lt x hx
  have hW' := hW
  obtain ⟨p, q, hA, hV, rfl, hfz, _⟩ := hW
  rw [hs] at hV
  obtain ⟨_, rfl⟩ := trodVars_none hV
  rw [List.append_nil] at hlt
  refine ⟨ds, [], p ++ [], [], p, [], hW', ?_, ?_, ?_, hb.frame _, fun h => by cases h⟩
  · rw [hfn, hr]; exact trodAll_mk1 (shut_bool hbool true)
  · rw [hfn]; exact trodAll_below hl hb hts hA hlt
  · rw [hfn, hs]; rfl

/-- One cell of a list. -/
theorem one_at {cs : List Value} {i : Nat} {v : Value} (h : (cs.drop i).take 1 = [v]) : cs[i]? = some v := by
  have : ((cs.drop i).take 1)[0]? = some v := by rw [h]; rfl
  rw [List.getElem?_take, if_pos (by omega), List.getElem?_drop] at this
  simpa using this
theorem two_at {cs : List Value} {i j : Nat} {v : Value} (hj : j < 2) (h : ((cs.drop i).take 2)[j]? = some v) : cs[i + j]? = some v := by
  rw [List.getElem?_take, if_pos hj, List.getElem?_drop] at h
  exact h

variable {w : World} {base : Nat} {spare : Nat → Bool} {held : Bool} {fuel : Nat} {t e e2 n : Nat} {cs : List Value} {ds : List (DataW H)} {p : List MemPlace}
/-- A row of ints that reads as data. -/
theorem ints_of (hu : P.underlying t = some (.array n e)) (hue : P.underlying e = some (.int .i64)) (ce : P.cellsOf e = 1) (h : DataW.trod enc P w base spare held fuel t cs = some (.agg ds, p)) :
    p = [] ∧ ds.length = n ∧ ∀ i, i < n → ∃ z, cs[i]? = some (.int .i64 z) ∧ ds[i]? = some (.lit (.int .i64 z)) ∧ (Lit.int .i64 z).wf = true := by
  obtain ⟨xs, m, rfl, hx, hlen, hn, hel⟩ := DataW.trod_array hu h
  simp only [Prod.mk.injEq, DataW.agg.injEq] at hx
  obtain ⟨rfl, rfl⟩ := hx
  have key : ∀ i, i < n → ∃ z, cs[i]? = some (.int .i64 z) ∧ xs[i]? = some (.lit (.int .i64 z), []) ∧ (Lit.int .i64 z).wf = true := fun i hi => by
    have h1 := hel i hi
    rw [ce, Nat.mul_one] at h1
    have hix : i < xs.length := by omega
    rw [List.getElem?_eq_getElem hix] at h1 ⊢
    obtain ⟨z, hz, hx, hw⟩ := DataW.trod_int hue h1
    exact ⟨z, one_at hz, by rw [hx], hw⟩
  refine ⟨?_, by simp [hn], fun i hi => ?_⟩
  · rw [List.flatMap_eq_nil_iff]
    intro x hx
    obtain ⟨i, hi, rfl⟩ := List.getElem_of_mem hx
    obtain ⟨z, _, h2, _⟩ := key i (by omega)
    rw [List.getElem?_eq_getElem hi] at h2
    rw [Option.some.inj h2]
  · obtain ⟨z, h1, h2, h3⟩ := key i hi
    exact ⟨z, h1, by rw [List.getElem?_map, h2]; rfl, h3⟩
/-- A table of strings. -/
theorem strs_of (hu : P.underlying t = some (.array n e)) (hue : P.underlying e = some .string) (ce : P.cellsOf e = 1) (h : DataW.trod enc P w base spare held fuel t cs = some (.agg ds, p)) :
    ∀ i, i < n → ∃ s : ByteArray, cs[i]? = some (.string s) ∧ ds[i]? = some (.lit (.string s.data.toList)) := by
  obtain ⟨xs, m, rfl, hx, hlen, hn, hel⟩ := DataW.trod_array hu h
  simp only [Prod.mk.injEq, DataW.agg.injEq] at hx
  obtain ⟨rfl, rfl⟩ := hx
  intro i hi
  have h1 := hel i hi
  rw [ce, Nat.mul_one] at h1
  have hix : i < xs.length := by omega
  rw [List.getElem?_eq_getElem hix] at h1
  obtain ⟨z, hz, hx, hw⟩ := DataW.trod_string hue h1
  exact ⟨z, one_at hz, by rw [List.getElem?_map, List.getElem?_eq_getElem hix, hx]; rfl⟩
/-- A table of pairs. -/
theorem pairs_of (hu : P.underlying t = some (.array n e)) (hue : P.underlying e = some (.array 2 e2)) (hu2 : P.underlying e2 = some (.int .i64)) (ce : P.cellsOf e = 2) (ce2 : P.cellsOf e2 = 1) (h : DataW.trod enc P w base spare held fuel t cs = some (.agg ds, p)) :
    ∀ i, i < n → ∃ ys : List (DataW H), ds[i]? = some (.agg ys) ∧ ∀ j, j < 2 → ∃ z, cs[i * 2 + j]? = some (.int .i64 z) ∧ ys[j]? = some (.lit (.int .i64 z)) := by
  obtain ⟨xs, m, rfl, hx, hlen, hn, hel⟩ := DataW.trod_array hu h
  simp only [Prod.mk.injEq, DataW.agg.injEq] at hx
  obtain ⟨rfl, rfl⟩ := hx
  intro i hi
  have h1 := hel i hi
  rw [ce] at h1
  have hix : i < xs.length := by omega
  rw [List.getElem?_eq_getElem hix] at h1
  obtain ⟨zs, m2, rfl, hx, _⟩ := DataW.trod_array hue h1
  rw [hx] at h1
  obtain ⟨_, _, hz⟩ := ints_of hue hu2 ce2 h1
  refine ⟨zs.map (·.1), by rw [List.getElem?_map, List.getElem?_eq_getElem hix, hx]; rfl, fun j hj => ?_⟩
  obtain ⟨z, e1, e3, _⟩ := hz j hj
  exact ⟨z, two_at hj e1, e3⟩
end
end Go.Proofs.YtbcileppebpamaaGreatDoor
/- What the laid tables give the walks; an array argument opened. -/
namespace Go.Proofs.YtbcileppebpamaaGreatDoor
open Go Go.RowKit Go.ChangeShapes Go.WideShapes
set_option maxRecDepth 100000

/-- A table of bytes. -/
theorem bytes_of {H : Type} {enc : TypeId × Value → H} {P : Program} {w : World} {base : Nat} {spare : Nat → Bool} {held : Bool} {fuel : Nat} {t e n : Nat} {cs : List Value} {ds : List (DataW H)} {p : List MemPlace} (hu : P.underlying t = some (.array n e)) (hue : P.underlying e = some (.int .u8)) (ce : P.cellsOf e = 1) (h : DataW.trod enc P w base spare held fuel t cs = some (.agg ds, p)) :
    ∀ i, i < n → ∃ z, cs[i]? = some (.int .u8 z) ∧ ds[i]? = some (.lit (.int .u8 z)) := by
  obtain ⟨xs, m, rfl, hx, hlen, hn, hel⟩ := DataW.trod_array hu h
  simp only [Prod.mk.injEq, DataW.agg.injEq] at hx
  obtain ⟨rfl, rfl⟩ := hx
  intro i hi
  have h1 := hel i hi
  rw [ce, Nat.mul_one] at h1
  have hix : i < xs.length := by omega
  rw [List.getElem?_eq_getElem hix] at h1
  obtain ⟨z, hz, hx, hw⟩ := DataW.trod_int hue h1
  exact ⟨z, one_at hz, by rw [List.getElem?_map, List.getElem?_eq_getElem hix, hx]; rfl⟩

def laidW5 : List (String × DataW Unit) := [("math/bits.deBruijn32tab", Rows.laid_math_bits_deBruijn32tab), ("math/bits.deBruijn64tab", Rows.laid_math_bits_deBruijn64tab), ("internal/strconv.uint64pow10", Rows.laid_internal_strconv_uint64pow10), ("unicode/utf8.acceptRanges", Rows.laid_unicode_utf8_acceptRanges), ("unicode/utf8.first", Rows.laid_unicode_utf8_first)]
theorem g64 : Tryz.prog.globalNamed "math/bits.deBruijn64tab" = some 7 := by kernel_rfl
theorem t64 : (Tryz.prog.globals[7]?).map (·.type) = some 210 := by kernel_rfl
theorem tPow : (Tryz.prog.globals[3]?).map (·.type) = some 198 := by kernel_rfl
theorem pow_lit : (Rows.laid_internal_strconv_uint64pow10 : DataW Unit) = Lib.tabData .u64 Lib.pow10Tab := by kernel_rfl
theorem size_of_cell {W : World} (g o : Nat) (v : Value) (h : W.cell? ⟨g, o, none⟩ = some v) : g < W.heap.size := by
  rcases Nat.lt_or_ge g W.heap.size with hg | hg
  · exact hg
  · simp [World.cell?, Array.getElem?_eq_none hg] at h
theorem of_laidM {W : World} {rest : List (String × DataW Unit)} (h : laidMet Tryz.prog (("math/bits.deBruijn32tab", Rows.laid_math_bits_deBruijn32tab) :: ("math/bits.deBruijn64tab", Rows.laid_math_bits_deBruijn64tab) :: ("internal/strconv.uint64pow10", Rows.laid_internal_strconv_uint64pow10) :: rest) W) : LaidW W := by
  obtain ⟨ps, ⟨g2, t2, cs2, f2, p2, q2, hg2, ht2, hv2, hd2, ⟨g3, t3, cs3, f3, p3, q3, hg3, ht3, hv3, hd3, ⟨g0, t0, cs0, f0, p0, q0, hg0, ht0, hv0, hd0, _, _⟩, _⟩, _⟩, _, _⟩ := h
  obtain rfl := Option.some.inj (gPow.symm.trans hg0)
  obtain rfl := Option.some.inj (tPow.symm.trans ht0)
  obtain rfl := Option.some.inj (g64.symm.trans hg3)
  obtain rfl := Option.some.inj (t64.symm.trans ht3)
  have hb := bytes_of Tryz.underlying210 Tryz.underlying5 (by kernel_rfl) hd3
  have h15 : W.cell? ⟨7, 15, none⟩ = some (.int .u8 4) := by
    rw [World.var?_cell g64 hv3 15, ← Array.getElem?_toList]
    obtain ⟨z, e1, e2⟩ := hb 15 (by omega)
    rw [e1]
    have e3 : z = 4 := by
      have := e2
      simp at this
      omega
    rw [e3]
  refine ⟨size_of_cell _ _ _ h15, h15, ?_⟩
  rw [pow_lit] at hd0
  unfold Lib.TabIs
  rw [hv0, ← Lib.cells_of_tab Tryz.underlying198 Tryz.underlying81 (by kernel_rfl) (by kernel_rfl) hd0]
theorem of_laidW {W : World} (h : laidMetH Tryz.prog laidW5 W) : LaidW W := by
  rw [MakeChecks.laidMetH_plain _ _ _ (by kernel_rfl)] at h
  exact of_laidM h
theorem own : ownKnob Tryz.prog.godebug = none := by kernel_rfl
theorem laidB : laidOutB Tryz.prog = true := by kernel_rfl
theorem layW5 (os : Os) (args : Array Value) : laidMetH Tryz.prog laidW5 ((World.laidAll Tryz.prog os laidW5).forCall (fun _ _ => 0) ⟨#[], args, []⟩).memory := by
  rw [MakeChecks.laidMetH_plain _ _ _ (by kernel_rfl)]
  exact laidMet_laidAll _ (by kernel_rfl) (by kernel_rfl)
theorem of_intx {a : Int} (h : (Lit.int .i64 a).wf = true) : -9223372036854775808 ≤ a ∧ a ≤ 9223372036854775807 := by
  have := bounds_i64 h
  omega
/-- Slices of ints among the arguments. -/
theorem open_readsA {H : Type} {enc : TypeId × Value → H} {P : Program} {W : World} {b0 : Nat} {t e : TypeId} {v : Value} {d : DataW H} {ps : List MemPlace} (hu : P.underlying t = some (.slice e)) (hue : P.underlying e = some (.int .i64)) (ce : P.cellsOf e = 1)
    (hv : Value.okWide P W .any b0 t v) (h : DataW.Trod enc P W 0 (fun _ => true) true t v d ps) : ∃ xs, ReadsA W v xs ∧ xs.length ≤ maxLen := by
  obtain ⟨a0, len, cap, rfl⟩ := okWide_slice hu hv
  obtain ⟨fuel, hf⟩ := h
  rcases open_ints hu hue ce hf with ⟨hcs, hx⟩ | ⟨a, len', cap', zs, hcs, _, hl, hm, hz, hx, hcell, _⟩
  · have hcs' : Value.slice a0 len cap = .slice none 0 0 := by simpa [Value.cells] using hcs
    rw [hcs']
    exact ⟨[], .inl ⟨rfl, rfl⟩, by simp⟩
  · have hcs' : Value.slice a0 len cap = .slice (some a) len' cap' := by simpa [Value.cells] using hcs
    rw [hcs']
    have hz' : zs.length = cap' := by simpa using hz
    have hl0 : (zs.take len').length = len' := by simp; omega
    refine ⟨zs.take len', .inr ⟨a, cap', by rw [hl0], fun h0 => ?_, fun k hk => ?_⟩, by simp; omega⟩
    · rcases Nat.lt_or_ge a.block W.heap.size with hg | hg
      · exact hg
      · obtain ⟨g, o, rfl, hc2⟩ := ints_at hcell (by omega)
        have := hc2 0 (by omega)
        have hg' : W.heap.size ≤ g := hg
        simp [World.cell?, Array.getElem?_eq_none hg'] at this
    · rw [hcell k (by omega)]
      have : k < zs.length := by omega
      simp [List.getElem?_eq_getElem this]
end Go.Proofs.YtbcileppebpamaaGreatDoor
