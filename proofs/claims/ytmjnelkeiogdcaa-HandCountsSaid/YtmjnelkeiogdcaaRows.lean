/-
  No cell of these rows narrows 'for every input' (looked for: loops, veiled, ifaces, maps, wideKeys, modest, calm, conditions, laid).
  DERIVED. THE GIVEN ROWS OF THIS SEAT. 8 by the template 'for every input the law returns true; each argument reads behind the call as it read before'; 0 by the template 'total and deterministic' (their statements: YtmjnelkeiogdcaaTotals.lean).
  GIVEN WITH THE SEED: the statements are not yours to turn. If you find one false, say at which input.
  Laid BY PROGRAM, IN A SANDBOX (cutbox-rows.mjs): the forced cells as the released guide's own fill.sh prints them over the translation bcbb8651ff1fda5d… (all of the seat's roots in one cut). By AI agents, Wed Nov 11 2026. No macro, syntax, notation, axiom, sorry.
-/
import Derived.Test.YtmjnelkeiogdcaaChecked
import GoSem.Claim
import GoSem.ClaimJoined
import GoSem.ClaimMapViews
import Derived.JoinedTies
import Derived.KernelRfl
namespace Go.Proofs.Ytmjnelkeiogdcaa
/- THE CELL 'sum', in the pinned program and in every row, IS THE sha256 OF THE DUMP (.gsa) THAT YtmjnelkeiogdcaaProg.lean LOADS. Nothing in Lean hashes anything: it is a label: what it is worth is what the hold of that sum in a sandbox is worth. -/
noncomputable def Try.pinned : Pinned := { name := "ytmjnelkeiogdcaa", sum := "bcbb8651ff1fda5dc13c42a0ecd5d77a445ece4426e2880f3a70e606f5c73b42", checked := Try.checked }
namespace Rows
def none {H : Type} : Left H := { results := [], args := [] }

/-- 'astragallaw02.HandWeights': WHATEVER THE INPUT: true; the input reads as it did. -/
def handWeightsSpec : ChangeSpec := { name := "handWeights", fn := fun _ => fun
  | [d] => { results := [.lit (.bool true)], args := [d] }
  | _ => none }
def handWeightsRow : OpenClaim := { program := "ytmjnelkeiogdcaa", sum := "bcbb8651ff1fda5dc13c42a0ecd5d77a445ece4426e2880f3a70e606f5c73b42", func := "astragal/astragallaw02.HandWeights", spec := "handWeights", unfollowed := true, recurses := true, apart := false }
def HandWeightsSaid : Prop := handWeightsRow.holds Try.pinned (OpenSpec.ofChange handWeightsSpec)

/-- ITS FALSE NEIGHBOUR: 'it returns false'. Refute it at one input. -/
def handWeightsWrong : ChangeSpec := { name := "handWeights", fn := fun _ => fun
  | [d] => { results := [.lit (.bool false)], args := [d] }
  | _ => none }
def HandWeightsWrongFalsely : Prop := handWeightsRow.holds Try.pinned (OpenSpec.ofChange handWeightsWrong)

/-- 'astragallaw02.HandCounts': WHATEVER THE INPUT: true; the input reads as it did. -/
def handCountsSpec : ChangeSpec := { name := "handCounts", fn := fun _ => fun
  | [d1, d2, d3] => { results := [.lit (.bool true)], args := [d1, d2, d3] }
  | _ => none }
def handCountsRow : OpenClaim := { program := "ytmjnelkeiogdcaa", sum := "bcbb8651ff1fda5dc13c42a0ecd5d77a445ece4426e2880f3a70e606f5c73b42", func := "astragal/astragallaw02.HandCounts", spec := "handCounts", unfollowed := true, recurses := true, apart := false }
def HandCountsSaid : Prop := handCountsRow.holds Try.pinned (OpenSpec.ofChange handCountsSpec)

/-- ITS FALSE NEIGHBOUR: 'it returns false'. Refute it at one input. -/
def handCountsWrong : ChangeSpec := { name := "handCounts", fn := fun _ => fun
  | [d1, d2, d3] => { results := [.lit (.bool false)], args := [d1, d2, d3] }
  | _ => none }
def HandCountsWrongFalsely : Prop := handCountsRow.holds Try.pinned (OpenSpec.ofChange handCountsWrong)

/-- 'astragallaw02.HandTurned': WHATEVER THE INPUT: true; the input reads as it did. -/
def handTurnedSpec : ChangeSpec := { name := "handTurned", fn := fun _ => fun
  | [d] => { results := [.lit (.bool true)], args := [d] }
  | _ => none }
def handTurnedRow : OpenClaim := { program := "ytmjnelkeiogdcaa", sum := "bcbb8651ff1fda5dc13c42a0ecd5d77a445ece4426e2880f3a70e606f5c73b42", func := "astragal/astragallaw02.HandTurned", spec := "handTurned", unfollowed := true, recurses := true, apart := false }
def HandTurnedSaid : Prop := handTurnedRow.holds Try.pinned (OpenSpec.ofChange handTurnedSpec)

/-- ITS FALSE NEIGHBOUR: 'it returns false'. Refute it at one input. -/
def handTurnedWrong : ChangeSpec := { name := "handTurned", fn := fun _ => fun
  | [d] => { results := [.lit (.bool false)], args := [d] }
  | _ => none }
def HandTurnedWrongFalsely : Prop := handTurnedRow.holds Try.pinned (OpenSpec.ofChange handTurnedWrong)

/-- 'astragallaw02.HandCounting': WHATEVER THE INPUT: true; the input reads as it did. -/
def handCountingSpec : ChangeSpec := { name := "handCounting", fn := fun _ => fun
  | [d] => { results := [.lit (.bool true)], args := [d] }
  | _ => none }
def handCountingRow : OpenClaim := { program := "ytmjnelkeiogdcaa", sum := "bcbb8651ff1fda5dc13c42a0ecd5d77a445ece4426e2880f3a70e606f5c73b42", func := "astragal/astragallaw02.HandCounting", spec := "handCounting", unfollowed := true, recurses := true, apart := false }
def HandCountingSaid : Prop := handCountingRow.holds Try.pinned (OpenSpec.ofChange handCountingSpec)

/-- ITS FALSE NEIGHBOUR: 'it returns false'. Refute it at one input. -/
def handCountingWrong : ChangeSpec := { name := "handCounting", fn := fun _ => fun
  | [d] => { results := [.lit (.bool false)], args := [d] }
  | _ => none }
def HandCountingWrongFalsely : Prop := handCountingRow.holds Try.pinned (OpenSpec.ofChange handCountingWrong)

/-- 'astragallaw02.HandBack': WHATEVER THE INPUT: true; the input reads as it did. -/
def handBackSpec : ChangeSpec := { name := "handBack", fn := fun _ => fun
  | [d1, d2] => { results := [.lit (.bool true)], args := [d1, d2] }
  | _ => none }
def handBackRow : OpenClaim := { program := "ytmjnelkeiogdcaa", sum := "bcbb8651ff1fda5dc13c42a0ecd5d77a445ece4426e2880f3a70e606f5c73b42", func := "astragal/astragallaw02.HandBack", spec := "handBack", unfollowed := true, recurses := true, apart := false }
def HandBackSaid : Prop := handBackRow.holds Try.pinned (OpenSpec.ofChange handBackSpec)

/-- ITS FALSE NEIGHBOUR: 'it returns false'. Refute it at one input. -/
def handBackWrong : ChangeSpec := { name := "handBack", fn := fun _ => fun
  | [d1, d2] => { results := [.lit (.bool false)], args := [d1, d2] }
  | _ => none }
def HandBackWrongFalsely : Prop := handBackRow.holds Try.pinned (OpenSpec.ofChange handBackWrong)

/-- 'astragallaw02.HandAudits': WHATEVER THE INPUT: true; the input reads as it did. -/
def handAuditsSpec : ChangeSpec := { name := "handAudits", fn := fun _ => fun
  | [d1, d2] => { results := [.lit (.bool true)], args := [d1, d2] }
  | _ => none }
def handAuditsRow : OpenClaim := { program := "ytmjnelkeiogdcaa", sum := "bcbb8651ff1fda5dc13c42a0ecd5d77a445ece4426e2880f3a70e606f5c73b42", func := "astragal/astragallaw02.HandAudits", spec := "handAudits", unfollowed := true, recurses := true, apart := false }
def HandAuditsSaid : Prop := handAuditsRow.holds Try.pinned (OpenSpec.ofChange handAuditsSpec)

/-- ITS FALSE NEIGHBOUR: 'it returns false'. Refute it at one input. -/
def handAuditsWrong : ChangeSpec := { name := "handAudits", fn := fun _ => fun
  | [d1, d2] => { results := [.lit (.bool false)], args := [d1, d2] }
  | _ => none }
def HandAuditsWrongFalsely : Prop := handAuditsRow.holds Try.pinned (OpenSpec.ofChange handAuditsWrong)

/-- 'astragallaw02.HandSteps': WHATEVER THE INPUT: true; the input reads as it did. -/
def handStepsSpec : ChangeSpec := { name := "handSteps", fn := fun _ => fun
  | [d1, d2] => { results := [.lit (.bool true)], args := [d1, d2] }
  | _ => none }
def handStepsRow : OpenClaim := { program := "ytmjnelkeiogdcaa", sum := "bcbb8651ff1fda5dc13c42a0ecd5d77a445ece4426e2880f3a70e606f5c73b42", func := "astragal/astragallaw02.HandSteps", spec := "handSteps", unfollowed := true, recurses := true, apart := false }
def HandStepsSaid : Prop := handStepsRow.holds Try.pinned (OpenSpec.ofChange handStepsSpec)

/-- ITS FALSE NEIGHBOUR: 'it returns false'. Refute it at one input. -/
def handStepsWrong : ChangeSpec := { name := "handSteps", fn := fun _ => fun
  | [d1, d2] => { results := [.lit (.bool false)], args := [d1, d2] }
  | _ => none }
def HandStepsWrongFalsely : Prop := handStepsRow.holds Try.pinned (OpenSpec.ofChange handStepsWrong)

/-- 'astragallaw02.HandRuns': WHATEVER THE INPUT: true; the input reads as it did. -/
def handRunsSpec : ChangeSpec := { name := "handRuns", fn := fun _ => fun
  | [d1, d2] => { results := [.lit (.bool true)], args := [d1, d2] }
  | _ => none }
def handRunsRow : OpenClaim := { program := "ytmjnelkeiogdcaa", sum := "bcbb8651ff1fda5dc13c42a0ecd5d77a445ece4426e2880f3a70e606f5c73b42", func := "astragal/astragallaw02.HandRuns", spec := "handRuns", unfollowed := true, recurses := true, apart := false }
def HandRunsSaid : Prop := handRunsRow.holds Try.pinned (OpenSpec.ofChange handRunsSpec)

/-- ITS FALSE NEIGHBOUR: 'it returns false'. Refute it at one input. -/
def handRunsWrong : ChangeSpec := { name := "handRuns", fn := fun _ => fun
  | [d1, d2] => { results := [.lit (.bool false)], args := [d1, d2] }
  | _ => none }
def HandRunsWrongFalsely : Prop := handRunsRow.holds Try.pinned (OpenSpec.ofChange handRunsWrong)

/- THE SECOND FORM. 'bulk': how many values and letters a reading holds, each counted each time it is reached (what is shared counts as often as it is met; a slice's spare places count too). A statement '..UptoSaid' is the law's where the arguments, and the package variables that the reading takes, are together of bulk at most 1048576: NARROWER than '..Said'. Prove '..Said' where nothing that the law and all that it calls make is longer than what came in: it says more and counts as full. Else prove '..UptoSaid'. A law counts once. -/
mutual
def uptoBulk {H : Type} : DataW H → Nat
  | .lit (.string bytes) => bytes.length + 1
  | .lit _ => 1
  | .nil => 1
  | .ptr d => uptoBulk d + 1
  | .slice elems spare => uptoBulkAll elems + uptoBulkAll spare + 1
  | .agg parts => uptoBulkAll parts + 1
  | .iface _ d => uptoBulk d + 1
  | .map entries => uptoBulkEntries entries + 1
  | .held _ => 1
def uptoBulkAll {H : Type} : List (DataW H) → Nat
  | [] => 0
  | d :: r => uptoBulk d + uptoBulkAll r
def uptoBulkEntries {H : Type} : List (Lit × DataW H) → Nat
  | [] => 0
  | x :: r => uptoBulkEntry x + uptoBulkEntries r
def uptoBulkEntry {H : Type} : Lit × DataW H → Nat
  | (.string bytes, d) => bytes.length + uptoBulk d + 1
  | (_, d) => uptoBulk d + 1
 end
def uptoSmall : (H : Type) → List (DataW H) → Bool := fun _ ds => decide (uptoBulkAll ds ≤ 1048576)
def OpenSpec.upto (s : _root_.Go.ChangeSpec) : _root_.Go.OpenSpec := { _root_.Go.OpenSpec.ofChange s with cond := some uptoSmall }

/-- 'astragallaw02.HandWeights', WHERE WHAT IT READS IS OF BULK AT MOST 1048576: true; the input reads as it did. -/
def handWeightsUptoRow : OpenClaim := { program := "ytmjnelkeiogdcaa", sum := "bcbb8651ff1fda5dc13c42a0ecd5d77a445ece4426e2880f3a70e606f5c73b42", func := "astragal/astragallaw02.HandWeights", spec := "handWeights", unfollowed := true, recurses := true, apart := false, narrowed := true }
def HandWeightsUptoSaid : Prop := handWeightsUptoRow.holds Try.pinned (OpenSpec.upto handWeightsSpec)

/-- 'astragallaw02.HandCounts', WHERE WHAT IT READS IS OF BULK AT MOST 1048576: true; the input reads as it did. -/
def handCountsUptoRow : OpenClaim := { program := "ytmjnelkeiogdcaa", sum := "bcbb8651ff1fda5dc13c42a0ecd5d77a445ece4426e2880f3a70e606f5c73b42", func := "astragal/astragallaw02.HandCounts", spec := "handCounts", unfollowed := true, recurses := true, apart := false, narrowed := true }
def HandCountsUptoSaid : Prop := handCountsUptoRow.holds Try.pinned (OpenSpec.upto handCountsSpec)

/-- 'astragallaw02.HandTurned', WHERE WHAT IT READS IS OF BULK AT MOST 1048576: true; the input reads as it did. -/
def handTurnedUptoRow : OpenClaim := { program := "ytmjnelkeiogdcaa", sum := "bcbb8651ff1fda5dc13c42a0ecd5d77a445ece4426e2880f3a70e606f5c73b42", func := "astragal/astragallaw02.HandTurned", spec := "handTurned", unfollowed := true, recurses := true, apart := false, narrowed := true }
def HandTurnedUptoSaid : Prop := handTurnedUptoRow.holds Try.pinned (OpenSpec.upto handTurnedSpec)

/-- 'astragallaw02.HandCounting', WHERE WHAT IT READS IS OF BULK AT MOST 1048576: true; the input reads as it did. -/
def handCountingUptoRow : OpenClaim := { program := "ytmjnelkeiogdcaa", sum := "bcbb8651ff1fda5dc13c42a0ecd5d77a445ece4426e2880f3a70e606f5c73b42", func := "astragal/astragallaw02.HandCounting", spec := "handCounting", unfollowed := true, recurses := true, apart := false, narrowed := true }
def HandCountingUptoSaid : Prop := handCountingUptoRow.holds Try.pinned (OpenSpec.upto handCountingSpec)

/-- 'astragallaw02.HandBack', WHERE WHAT IT READS IS OF BULK AT MOST 1048576: true; the input reads as it did. -/
def handBackUptoRow : OpenClaim := { program := "ytmjnelkeiogdcaa", sum := "bcbb8651ff1fda5dc13c42a0ecd5d77a445ece4426e2880f3a70e606f5c73b42", func := "astragal/astragallaw02.HandBack", spec := "handBack", unfollowed := true, recurses := true, apart := false, narrowed := true }
def HandBackUptoSaid : Prop := handBackUptoRow.holds Try.pinned (OpenSpec.upto handBackSpec)

/-- 'astragallaw02.HandAudits', WHERE WHAT IT READS IS OF BULK AT MOST 1048576: true; the input reads as it did. -/
def handAuditsUptoRow : OpenClaim := { program := "ytmjnelkeiogdcaa", sum := "bcbb8651ff1fda5dc13c42a0ecd5d77a445ece4426e2880f3a70e606f5c73b42", func := "astragal/astragallaw02.HandAudits", spec := "handAudits", unfollowed := true, recurses := true, apart := false, narrowed := true }
def HandAuditsUptoSaid : Prop := handAuditsUptoRow.holds Try.pinned (OpenSpec.upto handAuditsSpec)

/-- 'astragallaw02.HandSteps', WHERE WHAT IT READS IS OF BULK AT MOST 1048576: true; the input reads as it did. -/
def handStepsUptoRow : OpenClaim := { program := "ytmjnelkeiogdcaa", sum := "bcbb8651ff1fda5dc13c42a0ecd5d77a445ece4426e2880f3a70e606f5c73b42", func := "astragal/astragallaw02.HandSteps", spec := "handSteps", unfollowed := true, recurses := true, apart := false, narrowed := true }
def HandStepsUptoSaid : Prop := handStepsUptoRow.holds Try.pinned (OpenSpec.upto handStepsSpec)

/-- 'astragallaw02.HandRuns', WHERE WHAT IT READS IS OF BULK AT MOST 1048576: true; the input reads as it did. -/
def handRunsUptoRow : OpenClaim := { program := "ytmjnelkeiogdcaa", sum := "bcbb8651ff1fda5dc13c42a0ecd5d77a445ece4426e2880f3a70e606f5c73b42", func := "astragal/astragallaw02.HandRuns", spec := "handRuns", unfollowed := true, recurses := true, apart := false, narrowed := true }
def HandRunsUptoSaid : Prop := handRunsUptoRow.holds Try.pinned (OpenSpec.upto handRunsSpec)

end Rows
end Go.Proofs.Ytmjnelkeiogdcaa
