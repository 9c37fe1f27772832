/- The four laid tables. -/
import Derived.Test.YtphnibllfpkkkaaDoorF7
import Derived.Test.YtphnibllfpkkkaaDoorV12
namespace Go.Proofs.YtphnibllfpkkkaaDoor
open Go Go.RowKit Go.ChangeShapes Go.WideShapes
set_option maxRecDepth 100000

def laid4 : List (String × DataW Unit) := [("math/bits.deBruijn32tab", Rows.laid_math_bits_deBruijn32tab), ("math/bits.deBruijn64tab", Rows.laid_math_bits_deBruijn64tab), ("astragal/shield.names", Rows.laid_astragal_shield_names), ("astragal/shield.parents", Rows.laid_astragal_shield_parents)]
theorem g64 : Tryd.prog.globalNamed "math/bits.deBruijn64tab" = some 3 := by kernel_rfl
theorem t64 : (Tryd.prog.globals[3]?).map (·.type) = some 136 := by kernel_rfl
theorem tab_lit : (Rows.laid_math_bits_deBruijn64tab : DataW Unit) = .agg (tzT.map fun n => .lit (.int .u8 ((n : Nat) : Int))) := rfl
/-- A table of bytes. -/
theorem bytes_of {H : Type} {enc : TypeId × Value → H} {P : Program} {w : World} {base : Nat} {spare : Nat → Bool} {held : Bool} {fuel : Nat} {t e n : Nat} {cs : List Value} {ds : List (DataW H)} {p : List MemPlace} (hu : P.underlying t = some (.array n e)) (hue : P.underlying e = some (.int .u8)) (ce : P.cellsOf e = 1) (h : DataW.trod enc P w base spare held fuel t cs = some (.agg ds, p)) :
    ∀ i, i < n → ∃ z, cs[i]? = some (.int .u8 z) ∧ ds[i]? = some (.lit (.int .u8 z)) := by
  obtain ⟨xs, m, rfl, hx, hlen, hn, hel⟩ := DataW.trod_array hu h
  simp only [Prod.mk.injEq, DataW.agg.injEq] at hx
  obtain ⟨rfl, rfl⟩ := hx
  intro i hi
  have h1 := hel i hi
  rw [ce, Nat.mul_one] at h1
  have hix : i < xs.length := by omega
  rw [List.getElem?_eq_getElem hix] at h1
  obtain ⟨z, hz, hx, hw⟩ := DataW.trod_int hue h1
  exact ⟨z, one_at hz, by rw [List.getElem?_map, List.getElem?_eq_getElem hix, hx]; rfl⟩
theorem of_laid4 {W : World} (h : laidMetH Tryd.prog laid4 W) : Base2 W := by
  rw [MakeChecks.laidMetH_plain _ _ _ (by kernel_rfl)] at h
  obtain ⟨ps, ⟨g2, t2, cs2, f2, p2, q2, hg2, ht2, hv2, hd2, ⟨g3, t3, cs3, f3, p3, q3, hg3, ht3, hv3, hd3, ⟨g0, t0, cs0, f0, p0, q0, hg0, ht0, hv0, hd0, ⟨g1, t1, cs1, f1, p1, q1, hg1, ht1, hv1, hd1, _, _⟩, _⟩, _⟩, _⟩, _, _⟩ := h
  obtain rfl := Option.some.inj (gNames.symm.trans hg0)
  obtain rfl := Option.some.inj (gParents.symm.trans hg1)
  obtain rfl := Option.some.inj (tNames.symm.trans ht0)
  obtain rfl := Option.some.inj (tParents.symm.trans ht1)
  obtain rfl := Option.some.inj (g64.symm.trans hg3)
  obtain rfl := Option.some.inj (t64.symm.trans ht3)
  rw [names_lit] at hd0
  rw [parents_lit] at hd1
  rw [tab_lit] at hd3
  have hb := bytes_of Tryd.underlying136 Tryd.underlying5 (by kernel_rfl) hd3
  have hc : ∀ i, i < 64 → W.cell? ⟨3, i, none⟩ = some (.int .u8 ((tzT.getD i 0 : Nat) : Int)) := fun i hi => by
    rw [World.var?_cell g64 hv3 i, ← Array.getElem?_toList]
    obtain ⟨z, e1, e2⟩ := hb i hi
    rw [e1]
    have hlen : tzT.length = 64 := rfl
    rw [List.getElem?_map, List.getElem?_eq_getElem (by omega)] at e2
    have e3 : ((tzT[i]'(by omega) : Nat) : Int) = z := by simpa using e2
    rw [List.getD_eq_getElem?_getD, List.getElem?_eq_getElem (by omega), Option.getD_some, e3]
  refine ⟨laid_of hv0 hv1 hd0 hd1, ?_, hc⟩
  have := hc 0 (by omega)
  rcases Nat.lt_or_ge 3 W.heap.size with hg | hg
  · exact hg
  · simp [World.cell?, Array.getElem?_eq_none hg] at this
theorem door_met4 (os : Os) (args : Array Value) : laidMetH Tryd.prog laid4 ((World.doorLaid Tryd.prog 400 os).forCall (fun _ _ => 0) ⟨#[], args, []⟩).memory :=
  laidMetH_of_parts3 (fuel := 8) (laidMet_of_run' 8 (by kernel_rfl) (by kernel_rfl)) (by kernel_rfl) (by kernel_rfl)
end Go.Proofs.YtphnibllfpkkkaaDoor
