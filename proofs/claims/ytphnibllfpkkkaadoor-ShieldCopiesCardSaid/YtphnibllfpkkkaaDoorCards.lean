/-
  DERIVED. GIVEN WITH THE SEED: THE CARDS: each row of YtphnibllfpkkkaaDoorRows.lean that lists a variable, with what it lists TIED to the program's text (the seventh form; the later family's looks); each row that meets fmt, with fmt's text TOLD by the authors' own Lean function (tested against real Go, not proved from fmt's source: count such statements apart). THE CARD IS WHAT COUNTS. Prove the row's statement (the work); the ties are given (YtphnibllfpkkkaaDoorTie.lean); close each card by the builder's one call (the guide's Derived/Test/ToyasCard.lean, 'card_holds'). Laid BY PROGRAM, IN A SANDBOX (cutbox-door.mjs). By AI agents, Wed Nov 11 2026. No macro, syntax, notation, axiom, sorry.
-/
import Derived.Test.YtphnibllfpkkkaaDoorRows
import GoSem.ClaimSeven
namespace Go.Proofs.YtphnibllfpkkkaaDoor
namespace Rows

/-- THE TIED CARD OF 'astragallaw03.ShieldWays'. -/
def shieldWaysCard : Claim7 := { stood := { row := shieldWaysRow, standIns := [], harness := (true, "9ce119a66925efebf64ca1cbef93c1e527820d00bdd494fbe10945d5ea719782"), looks := false }, kinds := [], alts := [], laidByText := true, laidKinds := [.widerDeep, .data], laidTests := true, laidLooks := .later }
def ShieldWaysCardSaid : Prop := Claim7.holds Tryd.pinned (.plain (OpenSpec.ofChange shieldWaysSpec)) shieldWaysCard

/-- THE TIED CARD OF 'astragallaw03.ShieldDerives'. -/
def shieldDerivesCard : Claim7 := { stood := { row := shieldDerivesRow, standIns := [], harness := (true, "9ce119a66925efebf64ca1cbef93c1e527820d00bdd494fbe10945d5ea719782"), looks := false }, kinds := [], alts := [], laidByText := true, laidKinds := [.widerDeep, .data], laidTests := true, laidLooks := .later }
def ShieldDerivesCardSaid : Prop := Claim7.holds Tryd.pinned (.plain (OpenSpec.ofChange shieldDerivesSpec)) shieldDerivesCard

/-- THE TIED CARD OF 'astragallaw03.ShieldPath'. -/
def shieldPathCard : Claim7 := { stood := { row := shieldPathRow, standIns := [], harness := (true, "9ce119a66925efebf64ca1cbef93c1e527820d00bdd494fbe10945d5ea719782"), looks := false }, kinds := [], alts := [], laidByText := true, laidKinds := [.widerDeep, .data], laidTests := true, laidLooks := .later }
def ShieldPathCardSaid : Prop := Claim7.holds Tryd.pinned (.plain (OpenSpec.ofChange shieldPathSpec)) shieldPathCard

/-- THE TIED CARD OF 'astragallaw03.ShieldFigures'. -/
def shieldFiguresCard : Claim7 := { stood := { row := shieldFiguresRow, standIns := [], harness := (true, "9ce119a66925efebf64ca1cbef93c1e527820d00bdd494fbe10945d5ea719782"), looks := false }, kinds := [], alts := [], laidByText := true, laidKinds := [.widerDeep, .data], laidTests := true, laidLooks := .later }
def ShieldFiguresCardSaid : Prop := Claim7.holds Tryd.pinned (.plain (OpenSpec.ofChange shieldFiguresSpec)) shieldFiguresCard

/-- THE TIED CARD OF 'astragallaw03.ShieldCasts'. -/
def shieldCastsCard : Claim7 := { stood := { row := shieldCastsRow, standIns := [], harness := (true, "9ce119a66925efebf64ca1cbef93c1e527820d00bdd494fbe10945d5ea719782"), looks := false }, kinds := [], alts := [], laidByText := true, laidKinds := [.widerDeep, .data], laidTests := true, laidLooks := .later }
def ShieldCastsCardSaid : Prop := Claim7.holds Tryd.pinned (.plain (OpenSpec.ofChange shieldCastsSpec)) shieldCastsCard

/-- THE TIED CARD OF 'astragallaw03.ShieldIdentities'. -/
def shieldIdentitiesCard : Claim7 := { stood := { row := shieldIdentitiesRow, standIns := [], harness := (true, "9ce119a66925efebf64ca1cbef93c1e527820d00bdd494fbe10945d5ea719782"), looks := false }, kinds := [], alts := [], laidByText := true, laidKinds := [.widerDeep, .data], laidTests := true, laidLooks := .later }
def ShieldIdentitiesCardSaid : Prop := Claim7.holds Tryd.pinned (.plain (OpenSpec.ofChange shieldIdentitiesSpec)) shieldIdentitiesCard

/-- THE TIED CARD OF 'astragallaw03.ShieldNames'. -/
def shieldNamesCard : Claim7 := { stood := { row := shieldNamesRow, standIns := [], harness := (true, "9ce119a66925efebf64ca1cbef93c1e527820d00bdd494fbe10945d5ea719782"), looks := false }, kinds := [], alts := [], laidByText := true, laidKinds := [.widerDeep, .data], laidTests := true, laidLooks := .later }
def ShieldNamesCardSaid : Prop := Claim7.holds Tryd.pinned (.plain (OpenSpec.ofChange shieldNamesSpec)) shieldNamesCard

/-- THE TIED CARD OF 'astragallaw03.ShieldGroup'. -/
def shieldGroupCard : Claim7 := { stood := { row := shieldGroupRow, standIns := [], harness := (true, "9ce119a66925efebf64ca1cbef93c1e527820d00bdd494fbe10945d5ea719782"), looks := false }, kinds := [], alts := [], laidByText := true, laidKinds := [.widerDeep, .data], laidTests := true, laidLooks := .later }
def ShieldGroupCardSaid : Prop := Claim7.holds Tryd.pinned (.plain (OpenSpec.ofChange shieldGroupSpec)) shieldGroupCard

/-- THE TIED CARD OF 'astragallaw03.ShieldCounts'. -/
def shieldCountsCard : Claim7 := { stood := { row := shieldCountsRow, standIns := [], harness := (true, "9ce119a66925efebf64ca1cbef93c1e527820d00bdd494fbe10945d5ea719782"), looks := false }, kinds := [], alts := [], laidByText := true, laidKinds := [.data, .data, .widerDeep, .data], laidTests := true, laidLooks := .later }
def ShieldCountsCardSaid : Prop := Claim7.holds Tryd.pinned (.plain (OpenSpec.ofChange shieldCountsSpec)) shieldCountsCard

/-- THE TIED CARD OF 'astragallaw03.ShieldShares'. -/
def shieldSharesCard : Claim7 := { stood := { row := shieldSharesRow, standIns := [], harness := (true, "9ce119a66925efebf64ca1cbef93c1e527820d00bdd494fbe10945d5ea719782"), looks := false }, kinds := [], alts := [], laidByText := true, laidKinds := [.data, .data, .widerDeep, .data], laidTests := true, laidLooks := .later }
def ShieldSharesCardSaid : Prop := Claim7.holds Tryd.pinned (.plain (OpenSpec.ofChange shieldSharesSpec)) shieldSharesCard

/-- THE TIED CARD OF 'astragallaw03.ShieldCopies'. -/
def shieldCopiesCard : Claim7 := { stood := { row := shieldCopiesRow, standIns := [], harness := (true, "9ce119a66925efebf64ca1cbef93c1e527820d00bdd494fbe10945d5ea719782"), looks := false }, kinds := [], alts := [], laidByText := true, laidKinds := [.data, .data, .widerDeep, .data], laidTests := true, laidLooks := .later }
def ShieldCopiesCardSaid : Prop := Claim7.holds Tryd.pinned (.plain (OpenSpec.ofChange shieldCopiesSpec)) shieldCopiesCard

/-- THE TIED CARD OF 'astragallaw03.ShieldFound'. -/
def shieldFoundCard : Claim7 := { stood := { row := shieldFoundRow, standIns := [], harness := (true, "9ce119a66925efebf64ca1cbef93c1e527820d00bdd494fbe10945d5ea719782"), looks := false }, kinds := [], alts := [], laidByText := true, laidKinds := [.data, .data, .widerDeep, .data], laidTests := true, laidLooks := .later }
def ShieldFoundCardSaid : Prop := Claim7.holds Tryd.pinned (.plain (OpenSpec.ofChange shieldFoundSpec)) shieldFoundCard

/-- THE SECOND FORM's CARD OF 'astragallaw03.ShieldWays'. -/
def shieldWaysUptoCard : Claim7 := { stood := { row := shieldWaysUptoRow, standIns := [], harness := (true, "9ce119a66925efebf64ca1cbef93c1e527820d00bdd494fbe10945d5ea719782"), looks := false }, kinds := [], alts := [], laidByText := true, laidKinds := [.widerDeep, .data], laidTests := true, laidLooks := .later }
def ShieldWaysUptoCardSaid : Prop := Claim7.holds Tryd.pinned (.plain (OpenSpec.upto shieldWaysSpec)) shieldWaysUptoCard

/-- THE SECOND FORM's CARD OF 'astragallaw03.ShieldDerives'. -/
def shieldDerivesUptoCard : Claim7 := { stood := { row := shieldDerivesUptoRow, standIns := [], harness := (true, "9ce119a66925efebf64ca1cbef93c1e527820d00bdd494fbe10945d5ea719782"), looks := false }, kinds := [], alts := [], laidByText := true, laidKinds := [.widerDeep, .data], laidTests := true, laidLooks := .later }
def ShieldDerivesUptoCardSaid : Prop := Claim7.holds Tryd.pinned (.plain (OpenSpec.upto shieldDerivesSpec)) shieldDerivesUptoCard

/-- THE SECOND FORM's CARD OF 'astragallaw03.ShieldPath'. -/
def shieldPathUptoCard : Claim7 := { stood := { row := shieldPathUptoRow, standIns := [], harness := (true, "9ce119a66925efebf64ca1cbef93c1e527820d00bdd494fbe10945d5ea719782"), looks := false }, kinds := [], alts := [], laidByText := true, laidKinds := [.widerDeep, .data], laidTests := true, laidLooks := .later }
def ShieldPathUptoCardSaid : Prop := Claim7.holds Tryd.pinned (.plain (OpenSpec.upto shieldPathSpec)) shieldPathUptoCard

/-- THE SECOND FORM's CARD OF 'astragallaw03.ShieldFigures'. -/
def shieldFiguresUptoCard : Claim7 := { stood := { row := shieldFiguresUptoRow, standIns := [], harness := (true, "9ce119a66925efebf64ca1cbef93c1e527820d00bdd494fbe10945d5ea719782"), looks := false }, kinds := [], alts := [], laidByText := true, laidKinds := [.widerDeep, .data], laidTests := true, laidLooks := .later }
def ShieldFiguresUptoCardSaid : Prop := Claim7.holds Tryd.pinned (.plain (OpenSpec.upto shieldFiguresSpec)) shieldFiguresUptoCard

/-- THE SECOND FORM's CARD OF 'astragallaw03.ShieldCasts'. -/
def shieldCastsUptoCard : Claim7 := { stood := { row := shieldCastsUptoRow, standIns := [], harness := (true, "9ce119a66925efebf64ca1cbef93c1e527820d00bdd494fbe10945d5ea719782"), looks := false }, kinds := [], alts := [], laidByText := true, laidKinds := [.widerDeep, .data], laidTests := true, laidLooks := .later }
def ShieldCastsUptoCardSaid : Prop := Claim7.holds Tryd.pinned (.plain (OpenSpec.upto shieldCastsSpec)) shieldCastsUptoCard

/-- THE SECOND FORM's CARD OF 'astragallaw03.ShieldIdentities'. -/
def shieldIdentitiesUptoCard : Claim7 := { stood := { row := shieldIdentitiesUptoRow, standIns := [], harness := (true, "9ce119a66925efebf64ca1cbef93c1e527820d00bdd494fbe10945d5ea719782"), looks := false }, kinds := [], alts := [], laidByText := true, laidKinds := [.widerDeep, .data], laidTests := true, laidLooks := .later }
def ShieldIdentitiesUptoCardSaid : Prop := Claim7.holds Tryd.pinned (.plain (OpenSpec.upto shieldIdentitiesSpec)) shieldIdentitiesUptoCard

/-- THE SECOND FORM's CARD OF 'astragallaw03.ShieldNames'. -/
def shieldNamesUptoCard : Claim7 := { stood := { row := shieldNamesUptoRow, standIns := [], harness := (true, "9ce119a66925efebf64ca1cbef93c1e527820d00bdd494fbe10945d5ea719782"), looks := false }, kinds := [], alts := [], laidByText := true, laidKinds := [.widerDeep, .data], laidTests := true, laidLooks := .later }
def ShieldNamesUptoCardSaid : Prop := Claim7.holds Tryd.pinned (.plain (OpenSpec.upto shieldNamesSpec)) shieldNamesUptoCard

/-- THE SECOND FORM's CARD OF 'astragallaw03.ShieldGroup'. -/
def shieldGroupUptoCard : Claim7 := { stood := { row := shieldGroupUptoRow, standIns := [], harness := (true, "9ce119a66925efebf64ca1cbef93c1e527820d00bdd494fbe10945d5ea719782"), looks := false }, kinds := [], alts := [], laidByText := true, laidKinds := [.widerDeep, .data], laidTests := true, laidLooks := .later }
def ShieldGroupUptoCardSaid : Prop := Claim7.holds Tryd.pinned (.plain (OpenSpec.upto shieldGroupSpec)) shieldGroupUptoCard

/-- THE SECOND FORM's CARD OF 'astragallaw03.ShieldCounts'. -/
def shieldCountsUptoCard : Claim7 := { stood := { row := shieldCountsUptoRow, standIns := [], harness := (true, "9ce119a66925efebf64ca1cbef93c1e527820d00bdd494fbe10945d5ea719782"), looks := false }, kinds := [], alts := [], laidByText := true, laidKinds := [.data, .data, .widerDeep, .data], laidTests := true, laidLooks := .later }
def ShieldCountsUptoCardSaid : Prop := Claim7.holds Tryd.pinned (.plain (OpenSpec.upto shieldCountsSpec)) shieldCountsUptoCard

/-- THE SECOND FORM's CARD OF 'astragallaw03.ShieldShares'. -/
def shieldSharesUptoCard : Claim7 := { stood := { row := shieldSharesUptoRow, standIns := [], harness := (true, "9ce119a66925efebf64ca1cbef93c1e527820d00bdd494fbe10945d5ea719782"), looks := false }, kinds := [], alts := [], laidByText := true, laidKinds := [.data, .data, .widerDeep, .data], laidTests := true, laidLooks := .later }
def ShieldSharesUptoCardSaid : Prop := Claim7.holds Tryd.pinned (.plain (OpenSpec.upto shieldSharesSpec)) shieldSharesUptoCard

/-- THE SECOND FORM's CARD OF 'astragallaw03.ShieldCopies'. -/
def shieldCopiesUptoCard : Claim7 := { stood := { row := shieldCopiesUptoRow, standIns := [], harness := (true, "9ce119a66925efebf64ca1cbef93c1e527820d00bdd494fbe10945d5ea719782"), looks := false }, kinds := [], alts := [], laidByText := true, laidKinds := [.data, .data, .widerDeep, .data], laidTests := true, laidLooks := .later }
def ShieldCopiesUptoCardSaid : Prop := Claim7.holds Tryd.pinned (.plain (OpenSpec.upto shieldCopiesSpec)) shieldCopiesUptoCard

/-- THE SECOND FORM's CARD OF 'astragallaw03.ShieldFound'. -/
def shieldFoundUptoCard : Claim7 := { stood := { row := shieldFoundUptoRow, standIns := [], harness := (true, "9ce119a66925efebf64ca1cbef93c1e527820d00bdd494fbe10945d5ea719782"), looks := false }, kinds := [], alts := [], laidByText := true, laidKinds := [.data, .data, .widerDeep, .data], laidTests := true, laidLooks := .later }
def ShieldFoundUptoCardSaid : Prop := Claim7.holds Tryd.pinned (.plain (OpenSpec.upto shieldFoundSpec)) shieldFoundUptoCard
end Rows
end Go.Proofs.YtphnibllfpkkkaaDoor
