/- The frame of the Witness laws: a struct with a list of bytes and three bytes among the arguments. -/
import Derived.Test.YtbcileppebpamaaGreatDoorFN
set_option linter.unusedSimpArgs false
set_option linter.unusedVariables false
namespace Go.Proofs.YtbcileppebpamaaGreatDoor
open Go Go.RowKit Go.ChangeShapes Go.WideShapes
set_option maxRecDepth 100000

theorem u8_rd {H : Type} {enc : TypeId × Value → H} {P : Program} {W : World} {t e : TypeId} {fuel : Nat} {cs : List Value} {x : DataW H × List MemPlace} (hu : P.underlying t = some (.slice e)) (hue : P.underlying e = some (.int .u8)) (ce : P.cellsOf e = 1)
    (hf : DataW.trod enc P W 0 (fun _ => true) true fuel t cs = some x) : ∃ v bs, cs = [v] ∧ ReadsU W v bs := by
  rcases open_ints hu hue ce hf with ⟨rfl, hx⟩ | ⟨a, len', cap', zs, rfl, _, hl, hm, hz, hx, hcell, hwf⟩
  · exact ⟨_, [], rfl, fun x hx => by simp at hx, by simp, .inl ⟨rfl, rfl⟩⟩
  · have hz' : zs.length = cap' := by simpa using hz
    obtain ⟨h1, h2⟩ := lits_u8 (zs := zs.take len') fun z hz => hwf z (List.mem_of_mem_take hz)
    have hl0 : ((zs.take len').map Int.toNat).length = len' := by simp; omega
    refine ⟨_, (zs.take len').map Int.toNat, rfl, h1, by rw [hl0]; omega, .inr ⟨a, cap', by rw [hl0], fun h0 => ?_, fun k hk => ?_⟩⟩
    · rw [hl0] at h0
      rcases Nat.lt_or_ge a.block W.heap.size with hg | hg
      · exact hg
      · have := hcell 0 (by omega)
        have hg' : W.heap.size ≤ (a.add 0).block := by
          have : (a.add 0).block = a.block := by unfold Addr.add; split <;> simp_all
          omega
        simp [World.cell?, Array.getElem?_eq_none hg'] at this
    · rw [hl0] at hk
      have hkz : k < zs.length := by omega
      rw [hcell k hkz, List.getElem_map, List.getElem_take, h2 zs[k] (by rw [List.mem_take_iff_getElem]; exact ⟨k, by omega, rfl⟩)]
      simp [List.getD_eq_getElem?_getD, List.getElem?_eq_getElem hkz]
end Go.Proofs.YtbcileppebpamaaGreatDoor
