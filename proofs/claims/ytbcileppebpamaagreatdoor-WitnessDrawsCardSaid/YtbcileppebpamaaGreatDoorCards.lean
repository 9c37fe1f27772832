/-
  DERIVED. GIVEN WITH THE SEED: THE CARDS: each row of YtbcileppebpamaaGreatDoorRows.lean that lists a variable, with what it lists TIED to the program's text (the seventh form; the later family's looks); each row that meets fmt, with fmt's text TOLD by the authors' own Lean function (tested against real Go, not proved from fmt's source: count such statements apart). THE CARD IS WHAT COUNTS. Prove the row's statement (the work); the ties are given (YtbcileppebpamaaGreatDoorTie.lean); close each card by the builder's one call (the guide's Derived/Test/ToyasCard.lean, 'card_holds'). Laid BY PROGRAM, IN A SANDBOX (cutbox-door.mjs). By AI agents, Wed Nov 11 2026. No macro, syntax, notation, axiom, sorry.
-/
import Derived.Test.YtbcileppebpamaaGreatDoorRows
import GoSem.ClaimSeven
namespace Go.Proofs.YtbcileppebpamaaGreatDoor
namespace Rows

/-- THE TIED CARD OF 'astragallaw11.WitnessGuesses'. -/
def witnessGuessesCard : Claim7 := { stood := { row := witnessGuessesRow, standIns := [], harness := (true, "e06d9dbf95f84b05dda61588b709a1588c4a5123a17963b71dc533a3ed8932ea"), looks := true }, kinds := [], alts := [], laidByText := true, laidKinds := [.data, .data, .data, .data, .sentinel, .sentinel, .pinned], laidTests := true, laidLooks := .later }
def WitnessGuessesCardSaid : Prop := Claim7.holds Tryz.pinned (.plain (OpenSpec.ofChange witnessGuessesSpec)) witnessGuessesCard

/-- THE TIED CARD OF 'astragallaw11.WitnessAudits'. -/
def witnessAuditsCard : Claim7 := { stood := { row := witnessAuditsRow, standIns := [], harness := (true, "e06d9dbf95f84b05dda61588b709a1588c4a5123a17963b71dc533a3ed8932ea"), looks := true }, kinds := [], alts := [], laidByText := true, laidKinds := [.data, .data, .data, .data, .sentinel, .sentinel, .pinned], laidTests := true, laidLooks := .later }
def WitnessAuditsCardSaid : Prop := Claim7.holds Tryz.pinned (.plain (OpenSpec.ofChange witnessAuditsSpec)) witnessAuditsCard

/-- THE TIED CARD OF 'astragallaw11.WitnessDraws'. -/
def witnessDrawsCard : Claim7 := { stood := { row := witnessDrawsRow, standIns := [], harness := (true, "e06d9dbf95f84b05dda61588b709a1588c4a5123a17963b71dc533a3ed8932ea"), looks := true }, kinds := [], alts := [], laidByText := true, laidKinds := [.data, .data, .data, .data, .sentinel, .sentinel, .pinned], laidTests := true, laidLooks := .later }
def WitnessDrawsCardSaid : Prop := Claim7.holds Tryz.pinned (.plain (OpenSpec.ofChange witnessDrawsSpec)) witnessDrawsCard

/-- THE TIED CARD OF 'astragallaw11.WitnessBytes'. -/
def witnessBytesCard : Claim7 := { stood := { row := witnessBytesRow, standIns := [], harness := (true, "e06d9dbf95f84b05dda61588b709a1588c4a5123a17963b71dc533a3ed8932ea"), looks := true }, kinds := [], alts := [], laidByText := true, laidKinds := [.data, .data, .data, .data, .sentinel, .sentinel, .pinned], laidTests := true, laidLooks := .later }
def WitnessBytesCardSaid : Prop := Claim7.holds Tryz.pinned (.plain (OpenSpec.ofChange witnessBytesSpec)) witnessBytesCard

/-- THE SECOND FORM's CARD OF 'astragallaw11.WitnessGuesses'. -/
def witnessGuessesUptoCard : Claim7 := { stood := { row := witnessGuessesUptoRow, standIns := [], harness := (true, "e06d9dbf95f84b05dda61588b709a1588c4a5123a17963b71dc533a3ed8932ea"), looks := true }, kinds := [], alts := [], laidByText := true, laidKinds := [.data, .data, .data, .data, .sentinel, .sentinel, .pinned], laidTests := true, laidLooks := .later }
def WitnessGuessesUptoCardSaid : Prop := Claim7.holds Tryz.pinned (.plain (OpenSpec.upto witnessGuessesSpec)) witnessGuessesUptoCard

/-- THE SECOND FORM's CARD OF 'astragallaw11.WitnessAudits'. -/
def witnessAuditsUptoCard : Claim7 := { stood := { row := witnessAuditsUptoRow, standIns := [], harness := (true, "e06d9dbf95f84b05dda61588b709a1588c4a5123a17963b71dc533a3ed8932ea"), looks := true }, kinds := [], alts := [], laidByText := true, laidKinds := [.data, .data, .data, .data, .sentinel, .sentinel, .pinned], laidTests := true, laidLooks := .later }
def WitnessAuditsUptoCardSaid : Prop := Claim7.holds Tryz.pinned (.plain (OpenSpec.upto witnessAuditsSpec)) witnessAuditsUptoCard

/-- THE SECOND FORM's CARD OF 'astragallaw11.WitnessDraws'. -/
def witnessDrawsUptoCard : Claim7 := { stood := { row := witnessDrawsUptoRow, standIns := [], harness := (true, "e06d9dbf95f84b05dda61588b709a1588c4a5123a17963b71dc533a3ed8932ea"), looks := true }, kinds := [], alts := [], laidByText := true, laidKinds := [.data, .data, .data, .data, .sentinel, .sentinel, .pinned], laidTests := true, laidLooks := .later }
def WitnessDrawsUptoCardSaid : Prop := Claim7.holds Tryz.pinned (.plain (OpenSpec.upto witnessDrawsSpec)) witnessDrawsUptoCard

/-- THE SECOND FORM's CARD OF 'astragallaw11.WitnessBytes'. -/
def witnessBytesUptoCard : Claim7 := { stood := { row := witnessBytesUptoRow, standIns := [], harness := (true, "e06d9dbf95f84b05dda61588b709a1588c4a5123a17963b71dc533a3ed8932ea"), looks := true }, kinds := [], alts := [], laidByText := true, laidKinds := [.data, .data, .data, .data, .sentinel, .sentinel, .pinned], laidTests := true, laidLooks := .later }
def WitnessBytesUptoCardSaid : Prop := Claim7.holds Tryz.pinned (.plain (OpenSpec.upto witnessBytesSpec)) witnessBytesUptoCard
end Rows
end Go.Proofs.YtbcileppebpamaaGreatDoor
