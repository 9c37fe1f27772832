/- The frame of the Witness laws: lists of bytes among the arguments. -/
import Derived.Test.YtbcileppebpamaaGreatDoorFM
import Derived.Test.YtbcileppebpamaaGreatDoorWV
set_option linter.unusedSimpArgs false
set_option linter.unusedVariables false
namespace Go.Proofs.YtbcileppebpamaaGreatDoor
open Go Go.RowKit Go.ChangeShapes Go.WideShapes
set_option maxRecDepth 100000

theorem lits_u8 {zs : List Int} (h : ∀ z ∈ zs, (Lit.int .u8 z).wf = true) : (∀ x ∈ zs.map Int.toNat, x < 256) ∧ ∀ z ∈ zs, ((z.toNat : Nat) : Int) = z := by
  constructor
  · intro x hx
    obtain ⟨z, hz, rfl⟩ := List.mem_map.1 hx
    have := bounds_u8 (h z hz)
    omega
  · intro z hz
    have := bounds_u8 (h z hz)
    omega
theorem open_u8s {H : Type} {enc : TypeId × Value → H} {P : Program} {W : World} {b0 : Nat} {t e : TypeId} {v : Value} {d : DataW H} {ps : List MemPlace} (hu : P.underlying t = some (.slice e)) (hue : P.underlying e = some (.int .u8)) (ce : P.cellsOf e = 1)
    (hv : Value.okWide P W .any b0 t v) (h : DataW.Trod enc P W 0 (fun _ => true) true t v d ps) : ∃ bs, ReadsU W v bs := by
  obtain ⟨a0, len, cap, rfl⟩ := okWide_slice hu hv
  obtain ⟨fuel, hf⟩ := h
  rcases open_ints hu hue ce hf with ⟨hcs, hx⟩ | ⟨a, len', cap', zs, hcs, _, hl, hm, hz, hx, hcell, hwf⟩
  · have hcs' : Value.slice a0 len cap = .slice none 0 0 := by simpa [Value.cells] using hcs
    rw [hcs']
    exact ⟨[], fun x hx => by simp at hx, by simp, .inl ⟨rfl, rfl⟩⟩
  · have hcs' : Value.slice a0 len cap = .slice (some a) len' cap' := by simpa [Value.cells] using hcs
    rw [hcs']
    have hz' : zs.length = cap' := by simpa using hz
    obtain ⟨h1, h2⟩ := lits_u8 (zs := zs.take len') fun z hz => hwf z (List.mem_of_mem_take hz)
    have hl0 : ((zs.take len').map Int.toNat).length = len' := by simp; omega
    refine ⟨(zs.take len').map Int.toNat, h1, by rw [hl0]; omega, .inr ⟨a, cap', by rw [hl0], fun h0 => ?_, fun k hk => ?_⟩⟩
    · rw [hl0] at h0
      rcases Nat.lt_or_ge a.block W.heap.size with hg | hg
      · exact hg
      · have := hcell 0 (by omega)
        have hg' : W.heap.size ≤ (a.add 0).block := by
          have : (a.add 0).block = a.block := by unfold Addr.add; split <;> simp_all
          omega
        simp [World.cell?, Array.getElem?_eq_none hg'] at this
    · rw [hl0] at hk
      have hkz : k < zs.length := by omega
      rw [hcell k hkz, List.getElem_map, List.getElem_take, h2 zs[k] (by rw [List.mem_take_iff_getElem]; exact ⟨k, by omega, rfl⟩)]
      simp [List.getD_eq_getElem?_getD, List.getElem?_eq_getElem hkz]
end Go.Proofs.YtbcileppebpamaaGreatDoor
