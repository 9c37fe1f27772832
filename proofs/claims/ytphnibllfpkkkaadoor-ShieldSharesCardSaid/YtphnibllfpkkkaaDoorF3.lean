/- The door's own heap meets the laid condition. -/
import Derived.Test.YtphnibllfpkkkaaDoorF2
namespace Go.Proofs.YtphnibllfpkkkaaDoor
open Go Go.RowKit Go.ChangeShapes Go.WideShapes
set_option maxRecDepth 100000

theorem own : ownKnob Tryd.prog.godebug = none := by kernel_rfl
theorem door_met (os : Os) (args : Array Value) : laidMetH Tryd.prog laid2 ((World.doorLaid Tryd.prog 400 os).forCall (fun _ _ => 0) ⟨#[], args, []⟩).memory :=
  laidMetH_of_parts3 (fuel := 8) (laidMet_of_run' 8 (by kernel_rfl) (by kernel_rfl)) (by kernel_rfl) (by kernel_rfl)
theorem laidB : laidOutB Tryd.prog = true := by kernel_rfl
end Go.Proofs.YtphnibllfpkkkaaDoor
