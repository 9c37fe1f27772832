/- The frame of the Shield laws: the arguments opened, the tables read, the post paid. -/
import Derived.Test.YtcdbkgpgjjeoiaaDoorRows
import Derived.Test.YtcdbkgpgjjeoiaaDoorTie
import Derived.Test.YtcdbkgpgjjeoiaaDoorPlain
import Derived.ProofKit
import Derived.LaidMore
import Derived.OpenShut
import Derived.Carry
import Derived.Stop.Joined
import Derived.Test.YtcdbkgpgjjeoiaaDoorSm
import Derived.Test.YtcdbkgpgjjeoiaaDoorHK
import Derived.ChangeSlices
import Derived.ChangeMaps5
namespace Go.Proofs.YtcdbkgpgjjeoiaaDoor
open Go Go.RowKit Go.ChangeShapes Go.WideShapes
set_option maxRecDepth 100000
set_option linter.unusedSimpArgs false
set_option linter.unusedVariables false

section
variable {H : Type} {enc : TypeId × Value → H} {P : Program}
theorem trodAll_below (hl : laidOutB P = true) {W W' : World} (hb : Below W.heap.size W W') : ∀ {ts : List TypeId} {vs : List Value} {ds : List (DataW H)} {ps : List MemPlace},
    (∀ t ∈ ts, P.readableRec t = true ∧ t < P.types.size) → DataW.TrodAll enc P W 0 (fun _ => true) true ts vs ds ps → (∀ x ∈ ps, x.block < W.heap.size) → DataW.TrodAll enc P W' 0 (fun b => decide (b < W.heap.size)) true ts vs ds ps
  | [], [], [], _, _, h, _ => h
  | t :: ts, v :: vs, d :: ds, ps, ht, h, hp => by
    obtain ⟨p, q, h1, h2, rfl⟩ := h
    have := ht t (by simp)
    exact ⟨p, q, Below.trod hl this.1 this.2 h1 hb (fun x hx => hp x (by simp [hx])), trodAll_below hl hb (fun t' h' => ht t' (by simp [h'])) h2 (fun x hx => hp x (by simp [hx])), rfl⟩
  | [], _ :: _, _, _, _, h, _ => by cases h
  | [], [], _ :: _, _, _, h, _ => by cases h
  | _ :: _, [], _, _, _, h, _ => by cases h
  | _ :: _, _ :: _, [], _, _, h, _ => by cases h
/-- A law's post: true, and what came in as it was. -/
theorem law_post {f : Func} {s : ChangeSpec} (hl : laidOutB P = true) {W W' : World} (hb : Below W.heap.size W W') {args : Array Value} {ds : List (DataW H)} {before : List MemPlace} (hr : f.resultTypes = #[4]) (hbool : P.underlying 4 = some .bool) (hs : s.vars = [])
    (hts : ∀ t ∈ f.params.toList, P.readableRec t = true ∧ t < P.types.size)
    (hW : DataW.Whole enc P f.params.toList s.vars false W args.toList ds [] before)
    (hfn : s.fn H (ds ++ []) = { results := [.lit (.bool true)], args := ds }) : s.post enc P f false true false false W args (.bool true) W' := by
  have hlt : ∀ x ∈ before, x.block < W.heap.size := fun x hx => by simpa using hW.lt x hx
  have hW' := hW
  obtain ⟨p, q, hA, hV, rfl, hfz, _⟩ := hW
  rw [hs] at hV
  obtain ⟨_, rfl⟩ := trodVars_none hV
  rw [List.append_nil] at hlt
  refine ⟨ds, [], p ++ [], [], p, [], hW', ?_, ?_, ?_, hb.frame _, fun h => by cases h⟩
  · rw [hfn, hr]; exact trodAll_mk1 (shut_bool hbool true)
  · rw [hfn]; exact trodAll_below hl hb hts hA hlt
  · rw [hfn, hs]; rfl

/-- One cell of a list. -/
theorem one_at {cs : List Value} {i : Nat} {v : Value} (h : (cs.drop i).take 1 = [v]) : cs[i]? = some v := by
  have : ((cs.drop i).take 1)[0]? = some v := by rw [h]; rfl
  rw [List.getElem?_take, if_pos (by omega), List.getElem?_drop] at this
  simpa using this
theorem two_at {cs : List Value} {i j : Nat} {v : Value} (hj : j < 2) (h : ((cs.drop i).take 2)[j]? = some v) : cs[i + j]? = some v := by
  rw [List.getElem?_take, if_pos hj, List.getElem?_drop] at h
  exact h

variable {w : World} {base : Nat} {spare : Nat → Bool} {held : Bool} {fuel : Nat} {t e e2 n : Nat} {cs : List Value} {ds : List (DataW H)} {p : List MemPlace}
/-- A row of ints that reads as data. -/
theorem ints_of (hu : P.underlying t = some (.array n e)) (hue : P.underlying e = some (.int .i64)) (ce : P.cellsOf e = 1) (h : DataW.trod enc P w base spare held fuel t cs = some (.agg ds, p)) :
    p = [] ∧ ds.length = n ∧ ∀ i, i < n → ∃ z, cs[i]? = some (.int .i64 z) ∧ ds[i]? = some (.lit (.int .i64 z)) ∧ (Lit.int .i64 z).wf = true := by
  obtain ⟨xs, m, rfl, hx, hlen, hn, hel⟩ := DataW.trod_array hu h
  simp only [Prod.mk.injEq, DataW.agg.injEq] at hx
  obtain ⟨rfl, rfl⟩ := hx
  have key : ∀ i, i < n → ∃ z, cs[i]? = some (.int .i64 z) ∧ xs[i]? = some (.lit (.int .i64 z), []) ∧ (Lit.int .i64 z).wf = true := fun i hi => by
    have h1 := hel i hi
    rw [ce, Nat.mul_one] at h1
    have hix : i < xs.length := by omega
    rw [List.getElem?_eq_getElem hix] at h1 ⊢
    obtain ⟨z, hz, hx, hw⟩ := DataW.trod_int hue h1
    exact ⟨z, one_at hz, by rw [hx], hw⟩
  refine ⟨?_, by simp [hn], fun i hi => ?_⟩
  · rw [List.flatMap_eq_nil_iff]
    intro x hx
    obtain ⟨i, hi, rfl⟩ := List.getElem_of_mem hx
    obtain ⟨z, _, h2, _⟩ := key i (by omega)
    rw [List.getElem?_eq_getElem hi] at h2
    rw [Option.some.inj h2]
  · obtain ⟨z, h1, h2, h3⟩ := key i hi
    exact ⟨z, h1, by rw [List.getElem?_map, h2]; rfl, h3⟩
/-- A table of strings. -/
theorem strs_of (hu : P.underlying t = some (.array n e)) (hue : P.underlying e = some .string) (ce : P.cellsOf e = 1) (h : DataW.trod enc P w base spare held fuel t cs = some (.agg ds, p)) :
    ∀ i, i < n → ∃ s : ByteArray, cs[i]? = some (.string s) ∧ ds[i]? = some (.lit (.string s.data.toList)) := by
  obtain ⟨xs, m, rfl, hx, hlen, hn, hel⟩ := DataW.trod_array hu h
  simp only [Prod.mk.injEq, DataW.agg.injEq] at hx
  obtain ⟨rfl, rfl⟩ := hx
  intro i hi
  have h1 := hel i hi
  rw [ce, Nat.mul_one] at h1
  have hix : i < xs.length := by omega
  rw [List.getElem?_eq_getElem hix] at h1
  obtain ⟨z, hz, hx, hw⟩ := DataW.trod_string hue h1
  exact ⟨z, one_at hz, by rw [List.getElem?_map, List.getElem?_eq_getElem hix, hx]; rfl⟩
/-- A table of pairs. -/
theorem pairs_of (hu : P.underlying t = some (.array n e)) (hue : P.underlying e = some (.array 2 e2)) (hu2 : P.underlying e2 = some (.int .i64)) (ce : P.cellsOf e = 2) (ce2 : P.cellsOf e2 = 1) (h : DataW.trod enc P w base spare held fuel t cs = some (.agg ds, p)) :
    ∀ i, i < n → ∃ ys : List (DataW H), ds[i]? = some (.agg ys) ∧ ∀ j, j < 2 → ∃ z, cs[i * 2 + j]? = some (.int .i64 z) ∧ ys[j]? = some (.lit (.int .i64 z)) := by
  obtain ⟨xs, m, rfl, hx, hlen, hn, hel⟩ := DataW.trod_array hu h
  simp only [Prod.mk.injEq, DataW.agg.injEq] at hx
  obtain ⟨rfl, rfl⟩ := hx
  intro i hi
  have h1 := hel i hi
  rw [ce] at h1
  have hix : i < xs.length := by omega
  rw [List.getElem?_eq_getElem hix] at h1
  obtain ⟨zs, m2, rfl, hx, _⟩ := DataW.trod_array hue h1
  rw [hx] at h1
  obtain ⟨_, _, hz⟩ := ints_of hue hu2 ce2 h1
  refine ⟨zs.map (·.1), by rw [List.getElem?_map, List.getElem?_eq_getElem hix, hx]; rfl, fun j hj => ?_⟩
  obtain ⟨z, e1, e3, _⟩ := hz j hj
  exact ⟨z, two_at hj e1, e3⟩
end
end Go.Proofs.YtcdbkgpgjjeoiaaDoor
/- What the laid tables give the walks; an array argument opened. -/
namespace Go.Proofs.YtcdbkgpgjjeoiaaDoor
open Go Go.RowKit Go.ChangeShapes Go.WideShapes
set_option maxRecDepth 100000
set_option linter.unusedSimpArgs false
set_option linter.unusedVariables false

/-- A table of bytes. -/
theorem bytes_of {H : Type} {enc : TypeId × Value → H} {P : Program} {w : World} {base : Nat} {spare : Nat → Bool} {held : Bool} {fuel : Nat} {t e n : Nat} {cs : List Value} {ds : List (DataW H)} {p : List MemPlace} (hu : P.underlying t = some (.array n e)) (hue : P.underlying e = some (.int .u8)) (ce : P.cellsOf e = 1) (h : DataW.trod enc P w base spare held fuel t cs = some (.agg ds, p)) :
    ∀ i, i < n → ∃ z, cs[i]? = some (.int .u8 z) ∧ ds[i]? = some (.lit (.int .u8 z)) := by
  obtain ⟨xs, m, rfl, hx, hlen, hn, hel⟩ := DataW.trod_array hu h
  simp only [Prod.mk.injEq, DataW.agg.injEq] at hx
  obtain ⟨rfl, rfl⟩ := hx
  intro i hi
  have h1 := hel i hi
  rw [ce, Nat.mul_one] at h1
  have hix : i < xs.length := by omega
  rw [List.getElem?_eq_getElem hix] at h1
  obtain ⟨z, hz, hx, hw⟩ := DataW.trod_int hue h1
  exact ⟨z, one_at hz, by rw [List.getElem?_map, List.getElem?_eq_getElem hix, hx]; rfl⟩
theorem gParents : Tryd.prog.globalNamed "astragal/shield.parents" = some 1 := by kernel_rfl
theorem tParents : (Tryd.prog.globals[1]?).map (·.type) = some 165 := by kernel_rfl
theorem g64 : Tryd.prog.globalNamed "math/bits.deBruijn64tab" = some 3 := by kernel_rfl
theorem t64 : (Tryd.prog.globals[3]?).map (·.type) = some 167 := by kernel_rfl
theorem gRul : Tryd.prog.globalNamed "astragal/house.rulers" = some 0 := by kernel_rfl
theorem tRul : (Tryd.prog.globals[0]?).map (·.type) = some 118 := by kernel_rfl
theorem parents_lit : (Rows.laid_astragal_shield_parents : DataW Unit) = .agg ((List.range 16).map fun i => .agg ((List.range 2).map fun j => .lit (.int .i64 (par (i * 2 + j))))) := rfl
theorem tab_lit : (Rows.laid_math_bits_deBruijn64tab : DataW Unit) = .agg (tzT.map fun n => .lit (.int .u8 ((n : Nat) : Int))) := rfl
theorem rul_lit : (Rows.laid_astragal_house_rulers : DataW Unit) = .agg ((List.range 16).map fun i => .lit (.int .i64 ((rulN i : Nat) : Int))) := rfl
theorem size_of_cell {W : World} (g o : Nat) (v : Value) (h : W.cell? ⟨g, o, none⟩ = some v) : g < W.heap.size := by
  rcases Nat.lt_or_ge g W.heap.size with hg | hg
  · exact hg
  · simp [World.cell?, Array.getElem?_eq_none hg] at h
theorem par_of {W : World} {ps : Array Value} (hp : W.var? Tryd.prog "astragal/shield.parents" = some ps) {fp : Nat} {qp : List MemPlace} {ep : TypeId × Value → Unit} {bp : Nat} {sp : Nat → Bool} {kp : Bool}
    (hd : DataW.trod ep Tryd.prog W bp sp kp fp 165 ps.toList = some (Rows.laid_astragal_shield_parents, qp)) : Laid W := by
  rw [parents_lit] at hd
  have hpar := pairs_of Tryd.underlying165 Tryd.underlying77 Tryd.underlying3 (by kernel_rfl) (by kernel_rfl) hd
  have c1 : ∀ i, i < 32 → W.cell? ⟨1, i, none⟩ = some (.int .i64 (par i)) := fun i hi => by
    rw [World.var?_cell gParents hp i, ← Array.getElem?_toList]
    obtain ⟨ys, e1, e2⟩ := hpar (i / 2) (by omega)
    obtain ⟨z, e3, e4⟩ := e2 (i % 2) (by omega)
    rw [List.getElem?_map, List.getElem?_range (by omega)] at e1
    obtain rfl : (List.range 2).map (fun j => DataW.lit (.int .i64 (par (i / 2 * 2 + j)))) = ys := by simpa using e1
    rw [List.getElem?_map, List.getElem?_range (by omega)] at e4
    have e5 : i / 2 * 2 + i % 2 = i := by omega
    rw [e5] at e3
    simp only [Option.map_some, e5] at e4
    have e6 : par i = z := by simpa using e4
    rw [e3, e6]
  have hs := size_of_cell _ 0 _ (c1 0 (by omega))
  exact ⟨⟨hs, hs⟩, c1, trivial⟩
theorem tab_of {W : World} {ps : Array Value} (hp : W.var? Tryd.prog "math/bits.deBruijn64tab" = some ps) {fp : Nat} {qp : List MemPlace} {ep : TypeId × Value → Unit} {bp : Nat} {sp : Nat → Bool} {kp : Bool}
    (hd : DataW.trod ep Tryd.prog W bp sp kp fp 167 ps.toList = some (Rows.laid_math_bits_deBruijn64tab, qp)) : LaidB W := by
  rw [tab_lit] at hd
  have hb := bytes_of Tryd.underlying167 Tryd.underlying5 (by kernel_rfl) hd
  have hc : ∀ i, i < 64 → W.cell? ⟨3, i, none⟩ = some (.int .u8 ((tzT.getD i 0 : Nat) : Int)) := fun i hi => by
    rw [World.var?_cell g64 hp i, ← Array.getElem?_toList]
    obtain ⟨z, e1, e2⟩ := hb i hi
    rw [e1]
    have hlen : tzT.length = 64 := rfl
    rw [List.getElem?_map, List.getElem?_eq_getElem (by omega)] at e2
    have e3 : ((tzT[i]'(by omega) : Nat) : Int) = z := by simpa using e2
    rw [List.getD_eq_getElem?_getD, List.getElem?_eq_getElem (by omega), Option.getD_some, e3]
  exact ⟨size_of_cell _ 0 _ (hc 0 (by omega)), hc⟩
theorem rul_of {W : World} {ps : Array Value} (hp : W.var? Tryd.prog "astragal/house.rulers" = some ps) {fp : Nat} {qp : List MemPlace} {ep : TypeId × Value → Unit} {bp : Nat} {sp : Nat → Bool} {kp : Bool}
    (hd : DataW.trod ep Tryd.prog W bp sp kp fp 118 ps.toList = some (Rows.laid_astragal_house_rulers, qp)) : LaidR W := by
  rw [rul_lit] at hd
  obtain ⟨_, _, hz⟩ := ints_of Tryd.underlying118 Tryd.underlying76 (by kernel_rfl) hd
  have hc : ∀ i, i < 16 → W.cell? ⟨0, i, none⟩ = some (.int .i64 ((rulN i : Nat) : Int)) := fun i hi => by
    rw [World.var?_cell gRul hp i, ← Array.getElem?_toList]
    obtain ⟨z, e1, e2, _⟩ := hz i hi
    rw [e1]
    rw [List.getElem?_map, List.getElem?_range hi] at e2
    have e3 : ((rulN i : Nat) : Int) = z := by simpa using e2
    rw [e3]
  exact ⟨size_of_cell _ 0 _ (hc 0 (by omega)), hc⟩
def laidA : List (String × DataW Unit) := [("math/bits.deBruijn32tab", Rows.laid_math_bits_deBruijn32tab), ("math/bits.deBruijn64tab", Rows.laid_math_bits_deBruijn64tab), ("astragal/house.rulers", Rows.laid_astragal_house_rulers)]
def laidC : List (String × DataW Unit) := [("math/bits.deBruijn32tab", Rows.laid_math_bits_deBruijn32tab), ("math/bits.deBruijn64tab", Rows.laid_math_bits_deBruijn64tab), ("astragal/shield.parents", Rows.laid_astragal_shield_parents), ("astragal/house.rulers", Rows.laid_astragal_house_rulers)]
theorem of_laidA {W : World} (h : laidMetH Tryd.prog laidA W) : LaidH W := by
  rw [MakeChecks.laidMetH_plain _ _ _ (by kernel_rfl)] at h
  obtain ⟨ps, ⟨g2, t2, cs2, f2, p2, q2, hg2, ht2, hv2, hd2, ⟨g3, t3, cs3, f3, p3, q3, hg3, ht3, hv3, hd3, ⟨g0, t0, cs0, f0, p0, q0, hg0, ht0, hv0, hd0, _, _⟩, _⟩, _⟩, _, _⟩ := h
  obtain rfl := Option.some.inj (gRul.symm.trans hg0)
  obtain rfl := Option.some.inj (tRul.symm.trans ht0)
  obtain rfl := Option.some.inj (g64.symm.trans hg3)
  obtain rfl := Option.some.inj (t64.symm.trans ht3)
  exact ⟨tab_of hv3 hd3, rul_of hv0 hd0⟩
theorem of_laidC {W : World} (h : laidMetH Tryd.prog laidC W) : LaidP W := by
  rw [MakeChecks.laidMetH_plain _ _ _ (by kernel_rfl)] at h
  obtain ⟨ps, ⟨g2, t2, cs2, f2, p2, q2, hg2, ht2, hv2, hd2, ⟨g3, t3, cs3, f3, p3, q3, hg3, ht3, hv3, hd3, ⟨g1, t1, cs1, f1, p1, q1, hg1, ht1, hv1, hd1, ⟨g0, t0, cs0, f0, p0, q0, hg0, ht0, hv0, hd0, _, _⟩, _⟩, _⟩, _⟩, _, _⟩ := h
  obtain rfl := Option.some.inj (gParents.symm.trans hg1)
  obtain rfl := Option.some.inj (tParents.symm.trans ht1)
  obtain rfl := Option.some.inj (gRul.symm.trans hg0)
  obtain rfl := Option.some.inj (tRul.symm.trans ht0)
  obtain rfl := Option.some.inj (g64.symm.trans hg3)
  obtain rfl := Option.some.inj (t64.symm.trans ht3)
  exact ⟨par_of hv1 hd1, tab_of hv3 hd3, rul_of hv0 hd0⟩
theorem door_metA (os : Os) (args : Array Value) : laidMetH Tryd.prog laidA ((World.doorLaid Tryd.prog 400 os).forCall (fun _ _ => 0) ⟨#[], args, []⟩).memory :=
  laidMetH_of_parts3 (fuel := 8) (laidMet_of_run' 8 (by kernel_rfl) (by kernel_rfl)) (by kernel_rfl) (by kernel_rfl)
theorem door_metC (os : Os) (args : Array Value) : laidMetH Tryd.prog laidC ((World.doorLaid Tryd.prog 400 os).forCall (fun _ _ => 0) ⟨#[], args, []⟩).memory :=
  laidMetH_of_parts3 (fuel := 8) (laidMet_of_run' 8 (by kernel_rfl) (by kernel_rfl)) (by kernel_rfl) (by kernel_rfl)
/-- An array of ints by value. -/
theorem open_irow {H : Type} {enc : TypeId × Value → H} {P : Program} {W : World} {base n : Nat} {t e : TypeId} {v : Value} {d : DataW H} {p : List MemPlace} (hu : P.underlying t = some (.array n e)) (hue : P.underlying e = some (.int .i64)) (ce : P.cellsOf e = 1) (ct : P.cellsOf t = n)
    (hv : Value.okWide P W .any base t v) (h : DataW.Trod enc P W 0 (fun _ => true) true t v d p) : ∃ S : Nat → Int, v = .agg (irow n S) ∧ p = [] := by
  obtain ⟨cs, rfl, hsz, _⟩ : ∃ cs, v = .agg cs ∧ cs.size = P.cellsOf t ∧ Row.okWide P W .any base t cs := by
    simpa [Value.okWide, hu] using hv
  obtain ⟨fuel, hf⟩ := h
  have hf' : DataW.trod enc P W 0 (fun _ => true) true fuel t cs.toList = some (d, p) := hf
  obtain ⟨xs, m, hm, hx, _⟩ := DataW.trod_array hu hf'
  simp only [Prod.mk.injEq] at hx
  obtain ⟨rfl, _⟩ := hx
  obtain ⟨hp, _, hel⟩ := ints_of hu hue ce hf'
  refine ⟨fun i => match cs[i]? with | some (.int .i64 z) => z | _ => 0, ?_, hp⟩
  congr 1
  apply Array.ext_getElem?
  intro i
  by_cases hi : i < n
  · obtain ⟨z, h1, _⟩ := hel i hi
    rw [Array.getElem?_toList] at h1
    rw [irow_get _ _ _ hi, h1]
  · rw [Array.getElem?_eq_none (by omega), Array.getElem?_eq_none (by rw [irow_size]; omega)]
end Go.Proofs.YtcdbkgpgjjeoiaaDoor
/- The door's own heap meets the laid condition. -/
namespace Go.Proofs.YtcdbkgpgjjeoiaaDoor
open Go Go.RowKit Go.ChangeShapes Go.WideShapes
set_option maxRecDepth 100000
set_option linter.unusedSimpArgs false
set_option linter.unusedVariables false

theorem own : ownKnob Tryd.prog.godebug = none := by kernel_rfl
theorem laidB : laidOutB Tryd.prog = true := by kernel_rfl
end Go.Proofs.YtcdbkgpgjjeoiaaDoor
/- Slices of ints and strings among the arguments. -/
namespace Go.Proofs.YtcdbkgpgjjeoiaaDoor
open Go Go.RowKit Go.ChangeShapes Go.WideShapes
set_option maxRecDepth 100000
set_option linter.unusedSimpArgs false
set_option linter.unusedVariables false

theorem open_reads {H : Type} {enc : TypeId × Value → H} {P : Program} {W : World} {b0 : Nat} {t e : TypeId} {v : Value} {d : DataW H} {ps : List MemPlace} (hu : P.underlying t = some (.slice e)) (hue : P.underlying e = some (.int .i64)) (ce : P.cellsOf e = 1)
    (hv : Value.okWide P W .any b0 t v) (h : DataW.Trod enc P W 0 (fun _ => true) true t v d ps) : ∃ xs, Reads W v xs ∧ xs.length ≤ maxLen := by
  obtain ⟨a0, len, cap, rfl⟩ := okWide_slice hu hv
  obtain ⟨fuel, hf⟩ := h
  rcases open_ints hu hue ce hf with ⟨hcs, hx⟩ | ⟨a, len', cap', zs, hcs, _, hl, hm, hz, hx, hcell, _⟩
  · have hcs' : Value.slice a0 len cap = .slice none 0 0 := by simpa [Value.cells] using hcs
    rw [hcs']
    exact ⟨[], .inl ⟨rfl, _, _, rfl⟩, by simp⟩
  · have hcs' : Value.slice a0 len cap = .slice (some a) len' cap' := by simpa [Value.cells] using hcs
    rw [hcs']
    have hz' : zs.length = cap' := by simpa using hz
    refine ⟨zs.take len', ?_, by simp; omega⟩
    by_cases h0 : len' = 0
    · subst h0; exact .inl ⟨by simp, _, _, rfl⟩
    · obtain ⟨g, o, rfl, hc⟩ := ints_at hcell (by omega)
      have hl0 : (zs.take len').length = len' := by simp; omega
      have hg : g < W.heap.size := by
        rcases Nat.lt_or_ge g W.heap.size with hg | hg
        · exact hg
        · have := hc 0 (by omega)
          simp [World.cell?, Array.getElem?_eq_none hg] at this
      refine .inr ⟨g, o, cap', by rw [hl0], hg, fun k hk => ?_⟩
      rw [hc k (by omega)]
      have : k < zs.length := by omega
      simp [List.getElem?_eq_getElem this]
end Go.Proofs.YtcdbkgpgjjeoiaaDoor
/- Slices of ints among the arguments. -/
namespace Go.Proofs.YtcdbkgpgjjeoiaaDoor
open Go Go.RowKit Go.ChangeShapes Go.WideShapes
set_option maxRecDepth 100000
set_option linter.unusedSimpArgs false
set_option linter.unusedVariables false

theorem open_readsA {H : Type} {enc : TypeId × Value → H} {P : Program} {W : World} {b0 : Nat} {t e : TypeId} {v : Value} {d : DataW H} {ps : List MemPlace} (hu : P.underlying t = some (.slice e)) (hue : P.underlying e = some (.int .i64)) (ce : P.cellsOf e = 1)
    (hv : Value.okWide P W .any b0 t v) (h : DataW.Trod enc P W 0 (fun _ => true) true t v d ps) : ∃ xs, ReadsA W v xs ∧ xs.length ≤ maxLen := by
  obtain ⟨a0, len, cap, rfl⟩ := okWide_slice hu hv
  obtain ⟨fuel, hf⟩ := h
  rcases open_ints hu hue ce hf with ⟨hcs, hx⟩ | ⟨a, len', cap', zs, hcs, _, hl, hm, hz, hx, hcell, _⟩
  · have hcs' : Value.slice a0 len cap = .slice none 0 0 := by simpa [Value.cells] using hcs
    rw [hcs']
    exact ⟨[], .inl ⟨rfl, rfl⟩, by simp⟩
  · have hcs' : Value.slice a0 len cap = .slice (some a) len' cap' := by simpa [Value.cells] using hcs
    rw [hcs']
    have hz' : zs.length = cap' := by simpa using hz
    have hl0 : (zs.take len').length = len' := by simp; omega
    refine ⟨zs.take len', .inr ⟨a, cap', by rw [hl0], fun h0 => ?_, fun k hk => ?_⟩, by simp; omega⟩
    · rcases Nat.lt_or_ge a.block W.heap.size with hg | hg
      · exact hg
      · obtain ⟨g, o, rfl, hc2⟩ := ints_at hcell (by omega)
        have := hc2 0 (by omega)
        have hg' : W.heap.size ≤ g := hg
        simp [World.cell?, Array.getElem?_eq_none hg'] at this
    · rw [hcell k (by omega)]
      have : k < zs.length := by omega
      simp [List.getElem?_eq_getElem this]
end Go.Proofs.YtcdbkgpgjjeoiaaDoor
