/- ShieldWays returns true for every copy of a chart and every line, where the tables of names and of parents hold what the program's text lays into them. -/
import Derived.Test.YtphnibllfpkkkaaDoorV2
import Derived.Test.YtphnibllfpkkkaaDoorF4
import Derived.Test.YtphnibllfpkkkaaDoorCards
import Derived.SevenTiedAt
namespace Go.Proofs.YtphnibllfpkkkaaDoor
open Go

set_option maxRecDepth 100000 in
theorem shieldWays_holds : Rows.ShieldWaysSaid :=
  OpenClaim.holds_of_wide 3 Tryd.f3 rfl rfl rfl rfl rfl rfl rfl ⟨rfl, rfl, rfl, rfl, rfl⟩ rfl rfl rfl rfl rfl (by kernel_rfl) Tryd.func3 (by kernel_rfl)
    (of_decide_eq_true (by kernel_rfl)) (by unfold Func.isWrapper; first | (rw [if_pos (by decide +kernel)]; kernel_rfl) | (rw [if_neg (by decide +kernel)]; exact ⟨rfl, rfl⟩))
    (fun os started H enc _ => shieldWays_lifted lawWays os started H enc)

/-- The statement. -/
theorem shieldWays_card : Rows.ShieldWaysCardSaid :=
  Claim7.holds_tied_plain_at .later [] [.widerDeep, .data] true (true, "9ce119a66925efebf64ca1cbef93c1e527820d00bdd494fbe10945d5ea719782") false
    shieldWays_holds (fun _ h => by cases h) (by kernel_rfl) (fun _ h => by cases h) shieldWays_row_tie rfl ⟨rfl, rfl⟩ (by kernel_rfl) rfl
    (fun f fn hf hfn => by
      obtain rfl : f = 3 := Option.some.inj ((show Tryd.prog.funcNamed "astragal/astragallaw03.ShieldWays" = some 3 by kernel_rfl).symm.trans hf) |>.symm
      obtain rfl : fn = Tryd.f3 := (Option.some.inj (Tryd.func3.symm.trans hfn)).symm
      exact ⟨by kernel_rfl, fun j t ht => by
        rw [Tryd.params3] at ht
        have hm : t ∈ [24, 3] := by simpa using Array.mem_of_getElem? ht
        have hall : ([24, 3].all fun u => !Tryd.prog.wantsStandIn u) = true := by kernel_rfl
        exact (show Tryd.prog.wantsStandIn t = false by simpa using List.all_eq_true.1 hall t hm)⟩)
    (by kernel_rfl)
#print axioms shieldWays_card
end Go.Proofs.YtphnibllfpkkkaaDoor
