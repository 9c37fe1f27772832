/- What the laid tables give the walks; an array argument opened. -/
import Derived.Test.YtphnibllfpkkkaaDoorF1
import Derived.Test.YtphnibllfpkkkaaDoorBase
namespace Go.Proofs.YtphnibllfpkkkaaDoor
open Go Go.RowKit Go.ChangeShapes Go.WideShapes
set_option maxRecDepth 100000

def laid2 : List (String × DataW Unit) := [("astragal/shield.names", Rows.laid_astragal_shield_names), ("astragal/shield.parents", Rows.laid_astragal_shield_parents)]
theorem gNames : Tryd.prog.globalNamed "astragal/shield.names" = some 1 := by kernel_rfl
theorem gParents : Tryd.prog.globalNamed "astragal/shield.parents" = some 0 := by kernel_rfl
theorem tNames : (Tryd.prog.globals[1]?).map (·.type) = some 105 := by kernel_rfl
theorem tParents : (Tryd.prog.globals[0]?).map (·.type) = some 99 := by kernel_rfl

theorem names_lit : (Rows.laid_astragal_shield_names : DataW Unit) = .agg (namT.map fun s => .lit (.string s)) := rfl
theorem parents_lit : (Rows.laid_astragal_shield_parents : DataW Unit) = .agg ((List.range 16).map fun i => .agg ((List.range 2).map fun j => .lit (.int .i64 (par (i * 2 + j))))) := rfl

theorem laid_of {W : World} {ns ps : Array Value} (hn : W.var? Tryd.prog "astragal/shield.names" = some ns) (hp : W.var? Tryd.prog "astragal/shield.parents" = some ps) {fn fp : Nat} {qn qp : List MemPlace} {en ep : TypeId × Value → Unit} {bn bp : Nat} {sn sp : Nat → Bool} {kn kp : Bool}
    (h1 : DataW.trod en Tryd.prog W bn sn kn fn 105 ns.toList = some (.agg (namT.map fun s => .lit (.string s)), qn))
    (h2 : DataW.trod ep Tryd.prog W bp sp kp fp 99 ps.toList = some (.agg ((List.range 16).map fun i => .agg ((List.range 2).map fun j => .lit (.int .i64 (par (i * 2 + j))))), qp)) : Laid W := by
  have hnam := strs_of Tryd.underlying105 Tryd.underlying9 (by kernel_rfl) h1
  have hpar := pairs_of Tryd.underlying99 Tryd.underlying98 Tryd.underlying3 (by kernel_rfl) (by kernel_rfl) h2
  have c1 : ∀ i, i < 32 → W.cell? ⟨0, i, none⟩ = some (.int .i64 (par i)) := fun i hi => by
    rw [World.var?_cell gParents hp i, ← Array.getElem?_toList]
    obtain ⟨ys, e1, e2⟩ := hpar (i / 2) (by omega)
    obtain ⟨z, e3, e4⟩ := e2 (i % 2) (by omega)
    rw [List.getElem?_map, List.getElem?_range (by omega)] at e1
    obtain rfl : (List.range 2).map (fun j => DataW.lit (.int .i64 (par (i / 2 * 2 + j)))) = ys := by simpa using e1
    rw [List.getElem?_map, List.getElem?_range (by omega)] at e4
    have e5 : i / 2 * 2 + i % 2 = i := by omega
    rw [e5] at e3
    simp only [Option.map_some, e5] at e4
    have e6 : par i = z := by simpa using e4
    rw [e3, e6]
  have c2 : ∀ i, i < 16 → W.cell? ⟨1, i, none⟩ = some (.string (nam i)) := fun i hi => by
    rw [World.var?_cell gNames hn i, ← Array.getElem?_toList]
    obtain ⟨s, e1, e2⟩ := hnam i hi
    rw [e1]
    have hlen : namT.length = 16 := rfl
    rw [List.getElem?_map, List.getElem?_eq_getElem (by omega)] at e2
    have e3 : namT[i]'(by omega) = s.data.toList := by simpa using e2
    have e4 : nam i = s := by
      unfold nam
      rw [List.getD_eq_getElem?_getD, List.getElem?_eq_getElem (by omega), Option.getD_some, e3]
    rw [e4]
  have lt : ∀ g o v, W.cell? ⟨g, o, none⟩ = some v → g < W.heap.size := fun g o v h => by
    rcases Nat.lt_or_ge g W.heap.size with hg | hg
    · exact hg
    · simp [World.cell?, Array.getElem?_eq_none hg] at h
  exact ⟨⟨lt _ 0 _ (c1 0 (by omega)), lt _ 0 _ (c2 0 (by omega))⟩, c1, c2⟩

theorem of_laid {W : World} (h : laidMetH Tryd.prog laid2 W) : Laid W := by
  rw [MakeChecks.laidMetH_plain _ _ _ (by kernel_rfl)] at h
  obtain ⟨ps, ⟨g0, t0, cs0, f0, p0, q0, hg0, ht0, hv0, hd0, ⟨g1, t1, cs1, f1, p1, q1, hg1, ht1, hv1, hd1, _, _⟩, _⟩, _, _⟩ := h
  obtain rfl := Option.some.inj (gNames.symm.trans hg0)
  obtain rfl := Option.some.inj (gParents.symm.trans hg1)
  obtain rfl := Option.some.inj (tNames.symm.trans ht0)
  obtain rfl := Option.some.inj (tParents.symm.trans ht1)
  rw [names_lit] at hd0
  rw [parents_lit] at hd1
  exact laid_of hv0 hv1 hd0 hd1

/-- An array of ints by value. -/
theorem open_irow {H : Type} {enc : TypeId × Value → H} {P : Program} {W : World} {base n : Nat} {t e : TypeId} {v : Value} {d : DataW H} {p : List MemPlace} (hu : P.underlying t = some (.array n e)) (hue : P.underlying e = some (.int .i64)) (ce : P.cellsOf e = 1) (ct : P.cellsOf t = n)
    (hv : Value.okWide P W .any base t v) (h : DataW.Trod enc P W 0 (fun _ => true) true t v d p) : ∃ S : Nat → Int, v = .agg (irow n S) ∧ p = [] := by
  obtain ⟨cs, rfl, hsz, _⟩ : ∃ cs, v = .agg cs ∧ cs.size = P.cellsOf t ∧ Row.okWide P W .any base t cs := by
    simpa [Value.okWide, hu] using hv
  obtain ⟨fuel, hf⟩ := h
  have hf' : DataW.trod enc P W 0 (fun _ => true) true fuel t cs.toList = some (d, p) := hf
  obtain ⟨xs, m, hm, hx, _⟩ := DataW.trod_array hu hf'
  simp only [Prod.mk.injEq] at hx
  obtain ⟨rfl, _⟩ := hx
  obtain ⟨hp, _, hel⟩ := ints_of hu hue ce hf'
  refine ⟨fun i => match cs[i]? with | some (.int .i64 z) => z | _ => 0, ?_, hp⟩
  congr 1
  apply Array.ext_getElem?
  intro i
  by_cases hi : i < n
  · obtain ⟨z, h1, _⟩ := hel i hi
    rw [Array.getElem?_toList] at h1
    rw [irow_get _ _ _ hi, h1]
  · rw [Array.getElem?_eq_none (by omega), Array.getElem?_eq_none (by rw [irow_size]; omega)]
end Go.Proofs.YtphnibllfpkkkaaDoor
