/- Slices of ints among the arguments. -/
import Derived.Test.YtphnibllfpkkkaaDoorF6
import Derived.Test.YtphnibllfpkkkaaDoorSm
namespace Go.Proofs.YtphnibllfpkkkaaDoor
open Go Go.RowKit Go.ChangeShapes Go.WideShapes
set_option maxRecDepth 100000

theorem open_readsA {H : Type} {enc : TypeId × Value → H} {P : Program} {W : World} {b0 : Nat} {t e : TypeId} {v : Value} {d : DataW H} {ps : List MemPlace} (hu : P.underlying t = some (.slice e)) (hue : P.underlying e = some (.int .i64)) (ce : P.cellsOf e = 1)
    (hv : Value.okWide P W .any b0 t v) (h : DataW.Trod enc P W 0 (fun _ => true) true t v d ps) : ∃ xs, ReadsA W v xs ∧ xs.length ≤ maxLen := by
  obtain ⟨a0, len, cap, rfl⟩ := okWide_slice hu hv
  obtain ⟨fuel, hf⟩ := h
  rcases open_ints hu hue ce hf with ⟨hcs, hx⟩ | ⟨a, len', cap', zs, hcs, _, hl, hm, hz, hx, hcell, _⟩
  · have hcs' : Value.slice a0 len cap = .slice none 0 0 := by simpa [Value.cells] using hcs
    rw [hcs']
    exact ⟨[], .inl ⟨rfl, rfl⟩, by simp⟩
  · have hcs' : Value.slice a0 len cap = .slice (some a) len' cap' := by simpa [Value.cells] using hcs
    rw [hcs']
    have hz' : zs.length = cap' := by simpa using hz
    have hl0 : (zs.take len').length = len' := by simp; omega
    refine ⟨zs.take len', .inr ⟨a, cap', by rw [hl0], fun h0 => ?_, fun k hk => ?_⟩, by simp; omega⟩
    · rcases Nat.lt_or_ge a.block W.heap.size with hg | hg
      · exact hg
      · obtain ⟨g, o, rfl, hc2⟩ := ints_at hcell (by omega)
        have := hc2 0 (by omega)
        have hg' : W.heap.size ≤ g := hg
        simp [World.cell?, Array.getElem?_eq_none hg'] at this
    · rw [hcell k (by omega)]
      have : k < zs.length := by omega
      simp [List.getElem?_eq_getElem this]
end Go.Proofs.YtphnibllfpkkkaaDoor
