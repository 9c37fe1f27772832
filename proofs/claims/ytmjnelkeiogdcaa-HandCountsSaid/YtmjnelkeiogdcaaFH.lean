/- The frame of the Hand laws: the arguments opened, the post paid. -/
import Derived.Test.YtmjnelkeiogdcaaRows
import Derived.Test.YtmjnelkeiogdcaaJQ
import Derived.Test.YtmjnelkeiogdcaaJT
import Derived.ProofKit
import Derived.LaidMore
import Derived.OpenShut
import Derived.Carry
import Derived.Stop.Joined
import Derived.ChangeSlices
import Derived.ChangeMaps5
import Derived.Deep.SlicePairs
set_option linter.unusedSimpArgs false
set_option linter.unusedVariables false
namespace Go.Proofs.Ytmjnelkeiogdcaa
open Go Go.RowKit Go.ChangeShapes Go.WideShapes
set_option maxRecDepth 100000

section
variable {H : Type} {enc : TypeId × Value → H} {P : Program}
theorem trodAll_below (hl : laidOutB P = true) {W W' : World} (hb : Below W.heap.size W W') : ∀ {ts : List TypeId} {vs : List Value} {ds : List (DataW H)} {ps : List MemPlace},
    (∀ t ∈ ts, P.readableRec t = true ∧ t < P.types.size) → DataW.TrodAll enc P W 0 (fun _ => true) true ts vs ds ps → (∀ x ∈ ps, x.block < W.heap.size) → DataW.TrodAll enc P W' 0 (fun b => decide (b < W.heap.size)) true ts vs ds ps
  | [], [], [], _, _, h, _ => h
  | t :: ts, v :: vs, d :: ds, ps, ht, h, hp => by
    obtain ⟨p, q, h1, h2, rfl⟩ := h
    have := ht t (by simp)
    exact ⟨p, q, Below.trod hl this.1 this.2 h1 hb (fun x hx => hp x (by simp [hx])), trodAll_below hl hb (fun t' h' => ht t' (by simp [h'])) h2 (fun x hx => hp x (by simp [hx])), rfl⟩
  | [], _ :: _, _, _, _, h, _ => by cases h
  | [], [], _ :: _, _, _, h, _ => by cases h
  | _ :: _, [], _, _, _, h, _ => by cases h
  | _ :: _, _ :: _, [], _, _, h, _ => by cases h
/-- A law's post: true, and what came in as it was. -/
theorem law_post {f : Func} {s : ChangeSpec} (hl : laidOutB P = true) {W W' : World} (hb : Below W.heap.size W W') {args : Array Value} {ds : List (DataW H)} {before : List MemPlace} (hr : f.resultTypes = #[4]) (hbool : P.underlying 4 = some .bool) (hs : s.vars = [])
    (hts : ∀ t ∈ f.params.toList, P.readableRec t = true ∧ t < P.types.size)
    (hW : DataW.Whole enc P f.params.toList s.vars false W args.toList ds [] before)
    (hfn : s.fn H (ds ++ []) = { results := [.lit (.bool true)], args := ds }) : s.post enc P f false true false false W args (.bool true) W' := by
  have hlt : ∀ x ∈ before, x.block < W.heap.size := fun x hx => by simpa using hW.lt x hx
  have hW' := hW
  obtain ⟨p, q, hA, hV, rfl, hfz, _⟩ := hW
  rw [hs] at hV
  obtain ⟨_, rfl⟩ := trodVars_none hV
  rw [List.append_nil] at hlt
  refine ⟨ds, [], p ++ [], [], p, [], hW', ?_, ?_, ?_, hb.frame _, fun h => by cases h⟩
  · rw [hfn, hr]; exact trodAll_mk1 (shut_bool hbool true)
  · rw [hfn]; exact trodAll_below hl hb hts hA hlt
  · rw [hfn, hs]; rfl

/-- One cell of a list. -/
theorem one_at {cs : List Value} {i : Nat} {v : Value} (h : (cs.drop i).take 1 = [v]) : cs[i]? = some v := by
  have : ((cs.drop i).take 1)[0]? = some v := by rw [h]; rfl
  rw [List.getElem?_take, if_pos (by omega), List.getElem?_drop] at this
  simpa using this
end
theorem own : ownKnob Try.prog.godebug = none := by kernel_rfl
theorem laidB : laidOutB Try.prog = true := by kernel_rfl
section
variable {H : Type} {enc : TypeId × Value → H} {W : World} {fuel : Nat} {cs : List Value} {x : DataW H × List MemPlace}
theorem ints_rd {t e : TypeId} (hu : Try.prog.underlying t = some (.slice e)) (hue : Try.prog.underlying e = some (.int .i64)) (ce : Try.prog.cellsOf e = 1) (h : DataW.trod enc Try.prog W 0 (fun _ => true) true fuel t cs = some x) : ∃ v xs, cs = [v] ∧ ReadsA W v xs ∧ (∀ z ∈ xs, (Lit.int .i64 z).wf = true) ∧ xs.length ≤ maxLen := by
  rcases open_ints hu hue ce h with ⟨hcs, hx⟩ | ⟨a, len, cap, zs, hcs, _, hl, hm, hz, hx, hcell, hwf⟩
  · exact ⟨_, [], hcs, .inl ⟨rfl, rfl⟩, by simp, by simp⟩
  · have hz' : zs.length = cap := by simpa using hz
    have hl0 : (zs.take len).length = len := by simp; omega
    refine ⟨_, zs.take len, hcs, .inr ⟨a, cap, by rw [hl0], fun h0 => ?_, fun k hk => ?_⟩, fun z hz => hwf z (List.mem_of_mem_take hz), by simp; omega⟩
    · rcases Nat.lt_or_ge a.block W.heap.size with hg | hg
      · exact hg
      · obtain ⟨g, o, rfl, hc2⟩ := ints_at hcell (by omega)
        have := hc2 0 (by omega)
        have hg' : W.heap.size ≤ g := hg
        simp [World.cell?, Array.getElem?_eq_none hg'] at this
    · rw [hcell k (by omega)]
      have : k < zs.length := by omega
      simp [List.getElem?_eq_getElem this]
theorem u16_rd {t e : TypeId} (hu : Try.prog.underlying t = some (.slice e)) (hue : Try.prog.underlying e = some (.int .u16)) (ce : Try.prog.cellsOf e = 1) (h : DataW.trod enc Try.prog W 0 (fun _ => true) true fuel t cs = some x) : ∃ v xs, cs = [v] ∧ ReadsU W v xs := by
  rcases open_ints hu hue ce h with ⟨hcs, hx⟩ | ⟨a, len, cap, zs, hcs, _, hl, hm, hz, hx, hcell, hwf⟩
  · exact ⟨_, [], hcs, .inl ⟨rfl, rfl⟩⟩
  · have hz' : zs.length = cap := by simpa using hz
    have hl0 : ((zs.take len).map Int.toNat).length = len := by simp; omega
    refine ⟨_, (zs.take len).map Int.toNat, hcs, .inr ⟨a, cap, by rw [hl0], fun h0 => ?_, fun k hk => ?_⟩⟩
    · rcases Nat.lt_or_ge a.block W.heap.size with hg | hg
      · exact hg
      · obtain ⟨g, o, rfl, hc2⟩ := ints_at hcell (by omega)
        have := hc2 0 (by omega)
        have hg' : W.heap.size ≤ g := hg
        simp [World.cell?, Array.getElem?_eq_none hg'] at this
    · have hkz : k < zs.length := by omega
      have hb := bounds_u16 (hwf _ (List.getElem_mem hkz))
      rw [hcell k (by omega)]
      simp only [List.getElem_map, List.getElem_take]
      refine ⟨by omega, ?_⟩
      rw [List.getD_eq_getElem?_getD, List.getElem?_eq_getElem hkz]
      simp only [Option.getD_some]
      congr 2
      omega
theorem faces_rd (h : DataW.trod enc Try.prog W 0 (fun _ => true) true fuel 23 cs = some x) : ∃ v fs, cs = [v] ∧ ReadsF W v fs := by
  rcases Go.Deep.open_slice_pairs Try.underlying23 Try.underlying50 (by kernel_rfl) rfl rfl (by kernel_rfl) (by kernel_rfl) h with ⟨hcs, hx⟩ | ⟨a, len, cap, m, n, V0, V1, D0, D1, P0, P1, hcs, _, hl, hm, hmm, hx, hel⟩
  · exact ⟨_, [], hcs, .inl ⟨rfl, rfl⟩⟩
  · have hm' : m = cap := by simpa using hmm
    have key : ∀ i, i < len → ∃ z0 z1 : Int, W.cell? (a.add (i * 2)) = some (.int .i64 z0) ∧ W.cell? (a.add (i * 2 + 1)) = some (.int .i64 z1) := fun i hi => by
      obtain ⟨h1, h2, h3, h4⟩ := hel i (by omega)
      obtain ⟨z0, hz0, _, _⟩ := DataW.trod_int (k := .i64) Try.underlying3 h3
      obtain ⟨z1, hz1, _, _⟩ := DataW.trod_int (k := .i64) Try.underlying3 h4
      injection hz0 with e0
      injection hz1 with e1
      exact ⟨z0, z1, by rw [h1, e0], by rw [h2, e1]⟩
    obtain ⟨F, hF⟩ : ∃ F : Nat → Int × Int, ∀ i, i < len → W.cell? (a.add (i * 2)) = some (.int .i64 (F i).1) ∧ W.cell? (a.add (i * 2 + 1)) = some (.int .i64 (F i).2) := by
      refine ⟨fun i => if h : i < len then ((key i h).choose, (key i h).choose_spec.choose) else (0, 0), fun i hi => ?_⟩
      simp only [dif_pos hi]
      exact (key i hi).choose_spec.choose_spec
    have hl0 : ((List.range len).map F).length = len := by simp
    refine ⟨_, (List.range len).map F, hcs, .inr ⟨a, cap, by rw [hl0], fun h0 => ?_, fun j u hj => ?_⟩⟩
    · obtain ⟨b, off, spot⟩ := a
      have h1 := (hF 0 (by omega)).1
      have hspot : spot = none := by simpa [Addr.add] using World.cell?_spot h1
      subst hspot
      rcases Nat.lt_or_ge b W.heap.size with hg | hg
      · exact hg
      · simp [Addr.add, World.cell?, Array.getElem?_eq_none hg] at h1
    · obtain ⟨i, hi, h1 | h1⟩ := fcells_split _ j u hj
      · obtain ⟨rfl, rfl⟩ := h1
        rw [(hF i (by omega)).1]
        simp
      · obtain ⟨rfl, rfl⟩ := h1
        rw [(hF i (by omega)).2]
        simp
end
/-- A hand that comes in. -/
theorem open_hand {H : Type} {enc : TypeId × Value → H} {W : World} {base : Nat} {v : Value} {d : DataW H} {p : List MemPlace}
    (hv : Value.okWide Try.prog W .any base 26 v) (h : DataW.Trod enc Try.prog W 0 (fun _ => true) true 26 v d p) :
    ∃ R fv cv, v = .agg (handR R fv cv) ∧ ReadsF W fv R.faces ∧ ReadsA W cv R.cards := by
  obtain ⟨cs, rfl, hsz, _⟩ : ∃ cs, v = .agg cs ∧ cs.size = Try.prog.cellsOf 26 ∧ Row.okWide Try.prog W .any base 26 cs := by
    simpa [Value.okWide, Try.underlying26] using hv
  have hs8 : cs.size = 8 := by rw [hsz]; kernel_rfl
  obtain ⟨fuel, hf⟩ := h
  have hf' : DataW.trod enc Try.prog W 0 (fun _ => true) true fuel 26 cs.toList = some (d, p) := hf
  obtain ⟨xs, m, rfl, hx, hl, hn, hel⟩ := DataW.trod_struct Try.underlying26 hf'
  obtain ⟨v0, v1, v2, v3, v4, v5, v6, v7, hc⟩ : ∃ v0 v1 v2 v3 v4 v5 v6 v7, cs = #[v0, v1, v2, v3, v4, v5, v6, v7] := by
    obtain ⟨l⟩ := cs
    match l, hs8 with
    | [a, b, c, d, e, f, g, h], _ => exact ⟨a, b, c, d, e, f, g, h, rfl⟩
  subst hc
  have e0 := hel 0 _ rfl
  have e1 := hel 1 _ rfl
  have e2 := hel 2 _ rfl
  have e3 := hel 3 _ rfl
  have e4 := hel 4 _ rfl
  have e5 := hel 5 _ rfl
  have e6 := hel 6 _ rfl
  have e7 := hel 7 _ rfl
  have hn8 : xs.length = 8 := hn
  clear hel hn hx
  match xs, hn8 with
  | [y0, y1, y2, y3, y4, y5, y6, y7], _ =>
    have f0 : DataW.trod enc Try.prog W 0 (fun _ => true) true m 22 [v0] = some y0 := e0
    have f1 : DataW.trod enc Try.prog W 0 (fun _ => true) true m 3 [v1] = some y1 := e1
    have f2 : DataW.trod enc Try.prog W 0 (fun _ => true) true m 23 [v2] = some y2 := e2
    have f3 : DataW.trod enc Try.prog W 0 (fun _ => true) true m 3 [v3] = some y3 := e3
    have f4 : DataW.trod enc Try.prog W 0 (fun _ => true) true m 3 [v4] = some y4 := e4
    have f5 : DataW.trod enc Try.prog W 0 (fun _ => true) true m 3 [v5] = some y5 := e5
    have f6 : DataW.trod enc Try.prog W 0 (fun _ => true) true m 3 [v6] = some y6 := e6
    have f7 : DataW.trod enc Try.prog W 0 (fun _ => true) true m 24 [v7] = some y7 := e7
    obtain ⟨z0, h0, _, _⟩ := DataW.trod_int (k := .i64) Try.underlying22 f0
    obtain ⟨z1, h1, _, _⟩ := DataW.trod_int (k := .i64) Try.underlying3 f1
    obtain ⟨z3, h3, _, _⟩ := DataW.trod_int (k := .i64) Try.underlying3 f3
    obtain ⟨z4, h4, _, _⟩ := DataW.trod_int (k := .i64) Try.underlying3 f4
    obtain ⟨z5, h5, _, _⟩ := DataW.trod_int (k := .i64) Try.underlying3 f5
    obtain ⟨z6, h6, _, _⟩ := DataW.trod_int (k := .i64) Try.underlying3 f6
    obtain ⟨fv, fs, hfv, hfr⟩ := faces_rd f2
    obtain ⟨cv, cd, hcv, hcr, _, _⟩ := ints_rd Try.underlying24 Try.underlying3 (by kernel_rfl) f7
    injection h0 with h0
    injection h1 with h1
    injection hfv with hfv
    injection h3 with h3
    injection h4 with h4
    injection h5 with h5
    injection h6 with h6
    injection hcv with hcv
    subst h0 h1 hfv h3 h4 h5 h6 hcv
    exact ⟨⟨z0, z1, fs, z3, z4, z5, z6, cd⟩, v2, v7, rfl, hfr, hcr⟩
theorem open_u16s {H : Type} {enc : TypeId × Value → H} {W : World} {b0 : Nat} {v : Value} {d : DataW H} {ps : List MemPlace} (hv : Value.okWide Try.prog W .any b0 52 v) (h : DataW.Trod enc Try.prog W 0 (fun _ => true) true 52 v d ps) : ∃ xs, ReadsU W v xs := by
  obtain ⟨a0, len, cap, rfl⟩ := okWide_slice Try.underlying52 hv
  obtain ⟨fuel, hf⟩ := h
  have hf' : DataW.trod enc Try.prog W 0 (fun _ => true) true fuel 52 [.slice a0 len cap] = some (d, ps) := hf
  obtain ⟨v, xs, h1, h2⟩ := u16_rd Try.underlying52 Try.underlying92 (by kernel_rfl) hf'
  injection h1 with h1
  subst h1
  exact ⟨xs, h2⟩
theorem open_intsA {H : Type} {enc : TypeId × Value → H} {W : World} {b0 : Nat} {v : Value} {d : DataW H} {ps : List MemPlace} (hv : Value.okWide Try.prog W .any b0 24 v) (h : DataW.Trod enc Try.prog W 0 (fun _ => true) true 24 v d ps) : ∃ xs, ReadsA W v xs ∧ (∀ z ∈ xs, (Lit.int .i64 z).wf = true) ∧ xs.length ≤ maxLen := by
  obtain ⟨a0, len, cap, rfl⟩ := okWide_slice Try.underlying24 hv
  obtain ⟨fuel, hf⟩ := h
  have hf' : DataW.trod enc Try.prog W 0 (fun _ => true) true fuel 24 [.slice a0 len cap] = some (d, ps) := hf
  obtain ⟨v, xs, h1, h2, h3, h4⟩ := ints_rd Try.underlying24 Try.underlying3 (by kernel_rfl) hf'
  injection h1 with h1
  subst h1
  exact ⟨xs, h2, h3, h4⟩
end Go.Proofs.Ytmjnelkeiogdcaa
