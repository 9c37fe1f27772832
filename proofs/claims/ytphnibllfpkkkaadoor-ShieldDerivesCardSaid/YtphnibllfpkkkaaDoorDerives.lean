/- ShieldDerives returns true for every four mothers, where the tables of names and of parents hold what the program's text lays into them. -/
import Derived.Test.YtphnibllfpkkkaaDoorV3
import Derived.Test.YtphnibllfpkkkaaDoorF5
import Derived.Test.YtphnibllfpkkkaaDoorCards
import Derived.SevenTiedAt
namespace Go.Proofs.YtphnibllfpkkkaaDoor
open Go

set_option maxRecDepth 100000 in
theorem shieldDerives_holds : Rows.ShieldDerivesSaid :=
  OpenClaim.holds_of_wide 4 Tryd.f4 rfl rfl rfl rfl rfl rfl rfl ⟨rfl, rfl, rfl, rfl, rfl⟩ rfl rfl rfl rfl rfl (by kernel_rfl) Tryd.func4 (by kernel_rfl)
    (of_decide_eq_true (by kernel_rfl)) (by unfold Func.isWrapper; first | (rw [if_pos (by decide +kernel)]; kernel_rfl) | (rw [if_neg (by decide +kernel)]; exact ⟨rfl, rfl⟩))
    (fun os started H enc _ => shieldDerives_lifted lawDerives os started H enc)

/-- The statement. -/
theorem shieldDerives_card : Rows.ShieldDerivesCardSaid :=
  Claim7.holds_tied_plain_at .later [] [.widerDeep, .data] true (true, "9ce119a66925efebf64ca1cbef93c1e527820d00bdd494fbe10945d5ea719782") false
    shieldDerives_holds (fun _ h => by cases h) (by kernel_rfl) (fun _ h => by cases h) shieldDerives_row_tie rfl ⟨rfl, rfl⟩ (by kernel_rfl) rfl
    (fun f fn hf hfn => by
      obtain rfl : f = 4 := Option.some.inj ((show Tryd.prog.funcNamed "astragal/astragallaw03.ShieldDerives" = some 4 by kernel_rfl).symm.trans hf) |>.symm
      obtain rfl : fn = Tryd.f4 := (Option.some.inj (Tryd.func4.symm.trans hfn)).symm
      exact ⟨by kernel_rfl, fun j t ht => by
        rw [Tryd.params4] at ht
        have hm : t ∈ [37] := by simpa using Array.mem_of_getElem? ht
        have hall : ([37].all fun u => !Tryd.prog.wantsStandIn u) = true := by kernel_rfl
        exact (show Tryd.prog.wantsStandIn t = false by simpa using List.all_eq_true.1 hall t hm)⟩)
    (by kernel_rfl)
#print axioms shieldDerives_card
end Go.Proofs.YtphnibllfpkkkaaDoor
