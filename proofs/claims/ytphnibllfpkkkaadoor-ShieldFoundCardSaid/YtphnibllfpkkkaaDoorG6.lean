/- Mend as a contract; the law ShieldCopies: the walk. -/
import Derived.Test.YtphnibllfpkkkaaDoorW19
import Derived.Test.YtphnibllfpkkkaaDoorR11
import Derived.Test.YtphnibllfpkkkaaDoorEq2
import Derived.Test.YtphnibllfpkkkaaDoorV12
namespace Go.Proofs.YtphnibllfpkkkaaDoor
open Go Go.RowKit
set_option maxRecDepth 100000

theorem Mend_yes (F : Nat → Nat) (hF : ∀ i, i < 16 → F i < 16) (N : Nat) (hN : 65536 = N) (mm cc ll : Nat) (hst : rst (DF F) N = (mm, cc, ll)) (w : World) (L : Laid w) (LB : LaidB w) :
    Calls Tryd.prog 47 #[.agg (irow 16 (cst F))] w fun e w' => e = .returned (.tuple #[.agg (irow 18 (cst (rep mm cc (der (mths ll))))), .int .i64 0]) ∧ Below w.heap.size w w' := by
  obtain ⟨hb, he⟩ := rst_mL (DF F) (DF_le F hF) N hN
  rw [hst] at hb he
  exact callsIn_wide.1 (Mend_in F hF 9 (by omega) w L LB gAll rfl mm cc ll he (by have : ll < N := hb.at1; omega))

set_option maxHeartbeats 1000000 in
theorem Mend_no (S : Nat → Int) (hS : ¬ ∀ i, i < 16 → Fig (S i)) (w : World) :
    Calls Tryd.prog 47 #[.agg (irow 16 S)] w fun e w' => e = .returned (.tuple #[.agg (irow 18 (cst (rep 0 0 (fun _ => 0)))), .int .i64 2]) ∧ Below w.heap.size w w' := by
  have hs0 := heap_alloc2_old w (.cells (irow 16 S) 24) (.cells (irow 18 (cst (rep 0 0 (fun _ => 0)))) 87)
  have hr0 := heap_alloc2_new w (.cells (irow 16 S) 24) (.cells (irow 18 (cst (rep 0 0 (fun _ => 0)))) 87)
  have hb0 : Below w.heap.size w ((w.alloc (.cells (irow 16 S) 24)).alloc (.cells (irow 18 (cst (rep 0 0 (fun _ => 0)))) 87)) := ((Below.refl _ _).alloc (Nat.le_refl _) _).alloc (by simp) _
  have HV := hid (validS_no S hS w.heap.size 16 _ _ hs0)
  clear hS
  go_enter Tryd.func47, Tryd.ntmps47
  go_wp2_with (first
    | (go_at_call 50; rw [rep_zero]; generalize (w.alloc (.cells (irow 16 S) 24)).alloc (.cells (irow 18 (cst (rep 0 0 (fun _ => 0)))) 87) = w1 at hs0 hr0 hb0 HV ⊢; refine HV.out.mono ?_; rintro e w' ⟨rfl, rfl⟩)
    | (rw [rep_zero]; refine strec recRepair _ _ rfl rfl _ _ rfl rfl _ _ hr0 ?_))
  refine bodyPost_ret (results_rec2 recRepair Tryd.results47 _ _ (w.heap.size + 1) (cst (rep 0 0 (fun _ => 0))) _ (.int .i64 2) rfl rfl (setRow_heap _ _ _ _ _ _ hr0)) rfl ⟨rfl, below_setRow hb0 (by omega) _⟩
end Go.Proofs.YtphnibllfpkkkaaDoor
