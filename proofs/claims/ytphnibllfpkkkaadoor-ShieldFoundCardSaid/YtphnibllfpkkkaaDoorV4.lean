/- The plain law of the way. -/
import Derived.Test.YtphnibllfpkkkaaDoorV3
namespace Go.Proofs.YtphnibllfpkkkaaDoor
open Go Go.RowKit
set_option maxRecDepth 100000

theorem chart_der (M : Nat → Nat) : Chart (der M) := fun i hi => der_unique (der M) (der M) (fun _ _ => rfl) (fun j hj h4 => der_fol M j h4 hj) i hi
theorem bit_xor (a b l : Nat) : bitB (a ^^^ b) l = (bitB a l ^^ bitB b l) := by
  have t : ∀ x : Nat, bitB x l = x.testBit l := fun x => by
    unfold bitB
    rw [Nat.testBit_eq_decide_div_mod_eq]
  rw [t, t, t, Nat.testBit_xor]
/-- One step of the way. -/
theorem way_step (F : Nat → Nat) (hch : Chart F) (l k : Nat) (h8 : 8 ≤ k) (h16 : k < 16) (hk : bitB (F k) l = true) :
    (if bitB (F (pa k)) l then pa k else pb k) = pa k ∧ bitB (F (pa k)) l = true ∧ bitB (F (pb k)) l = false ∨
    (if bitB (F (pa k)) l then pa k else pb k) = pb k ∧ bitB (F (pa k)) l = false ∧ bitB (F (pb k)) l = true := by
  have hfol : F k = F (pa k) ^^^ F (pb k) := by
    have h1 := der_fol F k (by omega) h16
    have h2 : fol (der F) k = der F (pa k) ^^^ der F (pb k) := by unfold fol; rw [if_pos h8]
    rw [hch k h16] at h1
    rw [h1, h2, hch _ (pa_lt k), hch _ (pb_lt k)]
  rw [hfol, bit_xor] at hk
  cases hb : bitB (F (pa k)) l <;> rw [hb] at hk <;> simp at hk ⊢ <;> exact hk
end Go.Proofs.YtphnibllfpkkkaaDoor
