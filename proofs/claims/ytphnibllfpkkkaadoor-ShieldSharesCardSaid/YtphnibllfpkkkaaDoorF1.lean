/- The frame of the Shield laws: the arguments opened, the tables read, the post paid. -/
import Derived.Test.YtphnibllfpkkkaaDoorRows
import Derived.Test.YtphnibllfpkkkaaDoorTie
import Derived.Test.YtphnibllfpkkkaaDoorRowk
import Derived.ProofKit
import Derived.LaidMore
import Derived.OpenShut
import Derived.Carry
import Derived.Stop.Joined
namespace Go.Proofs.YtphnibllfpkkkaaDoor
open Go Go.RowKit Go.ChangeShapes Go.WideShapes
set_option maxRecDepth 100000

section
variable {H : Type} {enc : TypeId × Value → H} {P : Program}
theorem trodAll_below (hl : laidOutB P = true) {W W' : World} (hb : Below W.heap.size W W') : ∀ {ts : List TypeId} {vs : List Value} {ds : List (DataW H)} {ps : List MemPlace},
    (∀ t ∈ ts, P.readableRec t = true ∧ t < P.types.size) → DataW.TrodAll enc P W 0 (fun _ => true) true ts vs ds ps → (∀ x ∈ ps, x.block < W.heap.size) → DataW.TrodAll enc P W' 0 (fun b => decide (b < W.heap.size)) true ts vs ds ps
  | [], [], [], _, _, h, _ => h
  | t :: ts, v :: vs, d :: ds, ps, ht, h, hp => by
    obtain ⟨p, q, h1, h2, rfl⟩ := h
    have := ht t (by simp)
    exact ⟨p, q, Below.trod hl this.1 this.2 h1 hb (fun x hx => hp x (by simp [hx])), trodAll_below hl hb (fun t' h' => ht t' (by simp [h'])) h2 (fun x hx => hp x (by simp [hx])), rfl⟩
  | [], _ :: _, _, _, _, h, _ => by cases h
  | [], [], _ :: _, _, _, h, _ => by cases h
  | _ :: _, [], _, _, _, h, _ => by cases h
  | _ :: _, _ :: _, [], _, _, h, _ => by cases h
/-- A law's post: true, and what came in as it was. -/
theorem law_post {f : Func} {s : ChangeSpec} (hl : laidOutB P = true) {W W' : World} (hb : Below W.heap.size W W') {args : Array Value} {ds : List (DataW H)} {before : List MemPlace} (hr : f.resultTypes = #[4]) (hbool : P.underlying 4 = some .bool) (hs : s.vars = [])
    (hts : ∀ t ∈ f.params.toList, P.readableRec t = true ∧ t < P.types.size)
    (hW : DataW.Whole enc P f.params.toList s.vars false W args.toList ds [] before)
    (hfn : s.fn H (ds ++ []) = { results := [.lit (.bool true)], args := ds }) : s.post enc P f false true false false W args (.bool true) W' := by
  have hlt : ∀ x ∈ before, x.block < W.heap.size := fun x hx => by simpa using hW.lt x hx
  have hW' := hW
  obtain ⟨p, q, hA, hV, rfl, hfz, _⟩ := hW
  rw [hs] at hV
  obtain ⟨_, rfl⟩ := trodVars_none hV
  rw [List.append_nil] at hlt
  refine ⟨ds, [], p ++ [], [], p, [], hW', ?_, ?_, ?_, hb.frame _, fun h => by cases h⟩
  · rw [hfn, hr]; exact trodAll_mk1 (shut_bool hbool true)
  · rw [hfn]; exact trodAll_below hl hb hts hA hlt
  · rw [hfn, hs]; rfl

/-- One cell of a list. -/
theorem one_at {cs : List Value} {i : Nat} {v : Value} (h : (cs.drop i).take 1 = [v]) : cs[i]? = some v := by
  have : ((cs.drop i).take 1)[0]? = some v := by rw [h]; rfl
  rw [List.getElem?_take, if_pos (by omega), List.getElem?_drop] at this
  simpa using this
theorem two_at {cs : List Value} {i j : Nat} {v : Value} (hj : j < 2) (h : ((cs.drop i).take 2)[j]? = some v) : cs[i + j]? = some v := by
  rw [List.getElem?_take, if_pos hj, List.getElem?_drop] at h
  exact h

variable {w : World} {base : Nat} {spare : Nat → Bool} {held : Bool} {fuel : Nat} {t e e2 n : Nat} {cs : List Value} {ds : List (DataW H)} {p : List MemPlace}
/-- A row of ints that reads as data. -/
theorem ints_of (hu : P.underlying t = some (.array n e)) (hue : P.underlying e = some (.int .i64)) (ce : P.cellsOf e = 1) (h : DataW.trod enc P w base spare held fuel t cs = some (.agg ds, p)) :
    p = [] ∧ ds.length = n ∧ ∀ i, i < n → ∃ z, cs[i]? = some (.int .i64 z) ∧ ds[i]? = some (.lit (.int .i64 z)) ∧ (Lit.int .i64 z).wf = true := by
  obtain ⟨xs, m, rfl, hx, hlen, hn, hel⟩ := DataW.trod_array hu h
  simp only [Prod.mk.injEq, DataW.agg.injEq] at hx
  obtain ⟨rfl, rfl⟩ := hx
  have key : ∀ i, i < n → ∃ z, cs[i]? = some (.int .i64 z) ∧ xs[i]? = some (.lit (.int .i64 z), []) ∧ (Lit.int .i64 z).wf = true := fun i hi => by
    have h1 := hel i hi
    rw [ce, Nat.mul_one] at h1
    have hix : i < xs.length := by omega
    rw [List.getElem?_eq_getElem hix] at h1 ⊢
    obtain ⟨z, hz, hx, hw⟩ := DataW.trod_int hue h1
    exact ⟨z, one_at hz, by rw [hx], hw⟩
  refine ⟨?_, by simp [hn], fun i hi => ?_⟩
  · rw [List.flatMap_eq_nil_iff]
    intro x hx
    obtain ⟨i, hi, rfl⟩ := List.getElem_of_mem hx
    obtain ⟨z, _, h2, _⟩ := key i (by omega)
    rw [List.getElem?_eq_getElem hi] at h2
    rw [Option.some.inj h2]
  · obtain ⟨z, h1, h2, h3⟩ := key i hi
    exact ⟨z, h1, by rw [List.getElem?_map, h2]; rfl, h3⟩
/-- A table of strings. -/
theorem strs_of (hu : P.underlying t = some (.array n e)) (hue : P.underlying e = some .string) (ce : P.cellsOf e = 1) (h : DataW.trod enc P w base spare held fuel t cs = some (.agg ds, p)) :
    ∀ i, i < n → ∃ s : ByteArray, cs[i]? = some (.string s) ∧ ds[i]? = some (.lit (.string s.data.toList)) := by
  obtain ⟨xs, m, rfl, hx, hlen, hn, hel⟩ := DataW.trod_array hu h
  simp only [Prod.mk.injEq, DataW.agg.injEq] at hx
  obtain ⟨rfl, rfl⟩ := hx
  intro i hi
  have h1 := hel i hi
  rw [ce, Nat.mul_one] at h1
  have hix : i < xs.length := by omega
  rw [List.getElem?_eq_getElem hix] at h1
  obtain ⟨z, hz, hx, hw⟩ := DataW.trod_string hue h1
  exact ⟨z, one_at hz, by rw [List.getElem?_map, List.getElem?_eq_getElem hix, hx]; rfl⟩
/-- A table of pairs. -/
theorem pairs_of (hu : P.underlying t = some (.array n e)) (hue : P.underlying e = some (.array 2 e2)) (hu2 : P.underlying e2 = some (.int .i64)) (ce : P.cellsOf e = 2) (ce2 : P.cellsOf e2 = 1) (h : DataW.trod enc P w base spare held fuel t cs = some (.agg ds, p)) :
    ∀ i, i < n → ∃ ys : List (DataW H), ds[i]? = some (.agg ys) ∧ ∀ j, j < 2 → ∃ z, cs[i * 2 + j]? = some (.int .i64 z) ∧ ys[j]? = some (.lit (.int .i64 z)) := by
  obtain ⟨xs, m, rfl, hx, hlen, hn, hel⟩ := DataW.trod_array hu h
  simp only [Prod.mk.injEq, DataW.agg.injEq] at hx
  obtain ⟨rfl, rfl⟩ := hx
  intro i hi
  have h1 := hel i hi
  rw [ce] at h1
  have hix : i < xs.length := by omega
  rw [List.getElem?_eq_getElem hix] at h1
  obtain ⟨zs, m2, rfl, hx, _⟩ := DataW.trod_array hue h1
  rw [hx] at h1
  obtain ⟨_, _, hz⟩ := ints_of hue hu2 ce2 h1
  refine ⟨zs.map (·.1), by rw [List.getElem?_map, List.getElem?_eq_getElem hix, hx]; rfl, fun j hj => ?_⟩
  obtain ⟨z, e1, e3, _⟩ := hz j hj
  exact ⟨z, two_at hj e1, e3⟩
end
end Go.Proofs.YtphnibllfpkkkaaDoor
