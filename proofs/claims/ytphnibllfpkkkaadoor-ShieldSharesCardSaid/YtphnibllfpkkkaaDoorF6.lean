/- Slices of ints and strings among the arguments. -/
import Derived.Test.YtphnibllfpkkkaaDoorF3
import Derived.Test.YtphnibllfpkkkaaDoorSl
import Derived.ChangeSlices
import Derived.OpenShut
import Derived.ChangeMaps5
namespace Go.Proofs.YtphnibllfpkkkaaDoor
open Go Go.RowKit Go.ChangeShapes Go.WideShapes
set_option maxRecDepth 100000

theorem open_reads {H : Type} {enc : TypeId × Value → H} {P : Program} {W : World} {b0 : Nat} {t e : TypeId} {v : Value} {d : DataW H} {ps : List MemPlace} (hu : P.underlying t = some (.slice e)) (hue : P.underlying e = some (.int .i64)) (ce : P.cellsOf e = 1)
    (hv : Value.okWide P W .any b0 t v) (h : DataW.Trod enc P W 0 (fun _ => true) true t v d ps) : ∃ xs, Reads W v xs ∧ xs.length ≤ maxLen := by
  obtain ⟨a0, len, cap, rfl⟩ := okWide_slice hu hv
  obtain ⟨fuel, hf⟩ := h
  rcases open_ints hu hue ce hf with ⟨hcs, hx⟩ | ⟨a, len', cap', zs, hcs, _, hl, hm, hz, hx, hcell, _⟩
  · have hcs' : Value.slice a0 len cap = .slice none 0 0 := by simpa [Value.cells] using hcs
    rw [hcs']
    exact ⟨[], .inl ⟨rfl, _, _, rfl⟩, by simp⟩
  · have hcs' : Value.slice a0 len cap = .slice (some a) len' cap' := by simpa [Value.cells] using hcs
    rw [hcs']
    have hz' : zs.length = cap' := by simpa using hz
    refine ⟨zs.take len', ?_, by simp; omega⟩
    by_cases h0 : len' = 0
    · subst h0; exact .inl ⟨by simp, _, _, rfl⟩
    · obtain ⟨g, o, rfl, hc⟩ := ints_at hcell (by omega)
      have hl0 : (zs.take len').length = len' := by simp; omega
      have hg : g < W.heap.size := by
        rcases Nat.lt_or_ge g W.heap.size with hg | hg
        · exact hg
        · have := hc 0 (by omega)
          simp [World.cell?, Array.getElem?_eq_none hg] at this
      refine .inr ⟨g, o, cap', by rw [hl0], hg, fun k hk => ?_⟩
      rw [hc k (by omega)]
      have : k < zs.length := by omega
      simp [List.getElem?_eq_getElem this]
end Go.Proofs.YtphnibllfpkkkaaDoor
