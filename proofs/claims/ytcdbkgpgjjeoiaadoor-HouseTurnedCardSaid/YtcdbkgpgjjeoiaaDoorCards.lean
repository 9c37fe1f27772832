/-
  DERIVED. GIVEN WITH THE SEED: THE CARDS: each row of YtcdbkgpgjjeoiaaDoorRows.lean that lists a variable, with what it lists TIED to the program's text (the seventh form; the later family's looks); each row that meets fmt, with fmt's text TOLD by the authors' own Lean function (tested against real Go, not proved from fmt's source: count such statements apart). THE CARD IS WHAT COUNTS. Prove the row's statement (the work); the ties are given (YtcdbkgpgjjeoiaaDoorTie.lean); close each card by the builder's one call (the guide's Derived/Test/ToyasCard.lean, 'card_holds'). Laid BY PROGRAM, IN A SANDBOX (cutbox-door.mjs). By AI agents, Wed Nov 11 2026. No macro, syntax, notation, axiom, sorry.
-/
import Derived.Test.YtcdbkgpgjjeoiaaDoorRows
import GoSem.ClaimSeven
namespace Go.Proofs.YtcdbkgpgjjeoiaaDoor
namespace Rows

/-- THE TIED CARD OF 'astragallaw05.HouseSingles'. -/
def houseSinglesCard : Claim7 := { stood := { row := houseSinglesRow, standIns := [], harness := (true, "c246fac1418ee55227b7146eae7683aabed195e635b51588133b19a12fdb9a34"), looks := false }, kinds := [], alts := [], laidByText := true, laidKinds := [.data, .data, .data], laidTests := true, laidLooks := .later }
def HouseSinglesCardSaid : Prop := Claim7.holds Tryd.pinned (.plain (OpenSpec.ofChange houseSinglesSpec)) houseSinglesCard

/-- THE TIED CARD OF 'astragallaw05.HouseTurned'. -/
def houseTurnedCard : Claim7 := { stood := { row := houseTurnedRow, standIns := [], harness := (true, "c246fac1418ee55227b7146eae7683aabed195e635b51588133b19a12fdb9a34"), looks := false }, kinds := [], alts := [], laidByText := true, laidKinds := [.data, .data, .data], laidTests := true, laidLooks := .later }
def HouseTurnedCardSaid : Prop := Claim7.holds Tryd.pinned (.plain (OpenSpec.ofChange houseTurnedSpec)) houseTurnedCard

/-- THE TIED CARD OF 'astragallaw05.HouseBoth'. -/
def houseBothCard : Claim7 := { stood := { row := houseBothRow, standIns := [], harness := (true, "c246fac1418ee55227b7146eae7683aabed195e635b51588133b19a12fdb9a34"), looks := false }, kinds := [], alts := [], laidByText := true, laidKinds := [.data, .data, .data], laidTests := true, laidLooks := .later }
def HouseBothCardSaid : Prop := Claim7.holds Tryd.pinned (.plain (OpenSpec.ofChange houseBothSpec)) houseBothCard

/-- THE TIED CARD OF 'astragallaw05.HouseTies'. -/
def houseTiesCard : Claim7 := { stood := { row := houseTiesRow, standIns := [], harness := (true, "c246fac1418ee55227b7146eae7683aabed195e635b51588133b19a12fdb9a34"), looks := false }, kinds := [], alts := [], laidByText := true, laidKinds := [.data, .data, .data], laidTests := true, laidLooks := .later }
def HouseTiesCardSaid : Prop := Claim7.holds Tryd.pinned (.plain (OpenSpec.ofChange houseTiesSpec)) houseTiesCard

/-- THE TIED CARD OF 'astragallaw05.HouseRulers'. -/
def houseRulersCard : Claim7 := { stood := { row := houseRulersRow, standIns := [], harness := (true, "c246fac1418ee55227b7146eae7683aabed195e635b51588133b19a12fdb9a34"), looks := false }, kinds := [], alts := [], laidByText := true, laidKinds := [.data, .data, .data], laidTests := true, laidLooks := .later }
def HouseRulersCardSaid : Prop := Claim7.holds Tryd.pinned (.plain (OpenSpec.ofChange houseRulersSpec)) houseRulersCard

/-- THE TIED CARD OF 'astragallaw05.HousePartners'. -/
def housePartnersCard : Claim7 := { stood := { row := housePartnersRow, standIns := [], harness := (true, "c246fac1418ee55227b7146eae7683aabed195e635b51588133b19a12fdb9a34"), looks := false }, kinds := [], alts := [], laidByText := true, laidKinds := [.data, .data, .data], laidTests := true, laidLooks := .later }
def HousePartnersCardSaid : Prop := Claim7.holds Tryd.pinned (.plain (OpenSpec.ofChange housePartnersSpec)) housePartnersCard

/-- THE TIED CARD OF 'astragallaw05.HouseCharts'. -/
def houseChartsCard : Claim7 := { stood := { row := houseChartsRow, standIns := [], harness := (true, "c246fac1418ee55227b7146eae7683aabed195e635b51588133b19a12fdb9a34"), looks := false }, kinds := [], alts := [], laidByText := true, laidKinds := [.data, .data, .data, .data], laidTests := true, laidLooks := .later }
def HouseChartsCardSaid : Prop := Claim7.holds Tryd.pinned (.plain (OpenSpec.ofChange houseChartsSpec)) houseChartsCard

/-- THE TIED CARD OF 'astragallaw05.HouseFortunes'. -/
def houseFortunesCard : Claim7 := { stood := { row := houseFortunesRow, standIns := [], harness := (true, "c246fac1418ee55227b7146eae7683aabed195e635b51588133b19a12fdb9a34"), looks := false }, kinds := [], alts := [], laidByText := true, laidKinds := [.data, .data, .data, .data], laidTests := true, laidLooks := .later }
def HouseFortunesCardSaid : Prop := Claim7.holds Tryd.pinned (.plain (OpenSpec.ofChange houseFortunesSpec)) houseFortunesCard

/-- THE SECOND FORM's CARD OF 'astragallaw05.HouseSingles'. -/
def houseSinglesUptoCard : Claim7 := { stood := { row := houseSinglesUptoRow, standIns := [], harness := (true, "c246fac1418ee55227b7146eae7683aabed195e635b51588133b19a12fdb9a34"), looks := false }, kinds := [], alts := [], laidByText := true, laidKinds := [.data, .data, .data], laidTests := true, laidLooks := .later }
def HouseSinglesUptoCardSaid : Prop := Claim7.holds Tryd.pinned (.plain (OpenSpec.upto houseSinglesSpec)) houseSinglesUptoCard

/-- THE SECOND FORM's CARD OF 'astragallaw05.HouseTurned'. -/
def houseTurnedUptoCard : Claim7 := { stood := { row := houseTurnedUptoRow, standIns := [], harness := (true, "c246fac1418ee55227b7146eae7683aabed195e635b51588133b19a12fdb9a34"), looks := false }, kinds := [], alts := [], laidByText := true, laidKinds := [.data, .data, .data], laidTests := true, laidLooks := .later }
def HouseTurnedUptoCardSaid : Prop := Claim7.holds Tryd.pinned (.plain (OpenSpec.upto houseTurnedSpec)) houseTurnedUptoCard

/-- THE SECOND FORM's CARD OF 'astragallaw05.HouseBoth'. -/
def houseBothUptoCard : Claim7 := { stood := { row := houseBothUptoRow, standIns := [], harness := (true, "c246fac1418ee55227b7146eae7683aabed195e635b51588133b19a12fdb9a34"), looks := false }, kinds := [], alts := [], laidByText := true, laidKinds := [.data, .data, .data], laidTests := true, laidLooks := .later }
def HouseBothUptoCardSaid : Prop := Claim7.holds Tryd.pinned (.plain (OpenSpec.upto houseBothSpec)) houseBothUptoCard

/-- THE SECOND FORM's CARD OF 'astragallaw05.HouseTies'. -/
def houseTiesUptoCard : Claim7 := { stood := { row := houseTiesUptoRow, standIns := [], harness := (true, "c246fac1418ee55227b7146eae7683aabed195e635b51588133b19a12fdb9a34"), looks := false }, kinds := [], alts := [], laidByText := true, laidKinds := [.data, .data, .data], laidTests := true, laidLooks := .later }
def HouseTiesUptoCardSaid : Prop := Claim7.holds Tryd.pinned (.plain (OpenSpec.upto houseTiesSpec)) houseTiesUptoCard

/-- THE SECOND FORM's CARD OF 'astragallaw05.HouseRulers'. -/
def houseRulersUptoCard : Claim7 := { stood := { row := houseRulersUptoRow, standIns := [], harness := (true, "c246fac1418ee55227b7146eae7683aabed195e635b51588133b19a12fdb9a34"), looks := false }, kinds := [], alts := [], laidByText := true, laidKinds := [.data, .data, .data], laidTests := true, laidLooks := .later }
def HouseRulersUptoCardSaid : Prop := Claim7.holds Tryd.pinned (.plain (OpenSpec.upto houseRulersSpec)) houseRulersUptoCard

/-- THE SECOND FORM's CARD OF 'astragallaw05.HousePartners'. -/
def housePartnersUptoCard : Claim7 := { stood := { row := housePartnersUptoRow, standIns := [], harness := (true, "c246fac1418ee55227b7146eae7683aabed195e635b51588133b19a12fdb9a34"), looks := false }, kinds := [], alts := [], laidByText := true, laidKinds := [.data, .data, .data], laidTests := true, laidLooks := .later }
def HousePartnersUptoCardSaid : Prop := Claim7.holds Tryd.pinned (.plain (OpenSpec.upto housePartnersSpec)) housePartnersUptoCard

/-- THE SECOND FORM's CARD OF 'astragallaw05.HouseCharts'. -/
def houseChartsUptoCard : Claim7 := { stood := { row := houseChartsUptoRow, standIns := [], harness := (true, "c246fac1418ee55227b7146eae7683aabed195e635b51588133b19a12fdb9a34"), looks := false }, kinds := [], alts := [], laidByText := true, laidKinds := [.data, .data, .data, .data], laidTests := true, laidLooks := .later }
def HouseChartsUptoCardSaid : Prop := Claim7.holds Tryd.pinned (.plain (OpenSpec.upto houseChartsSpec)) houseChartsUptoCard

/-- THE SECOND FORM's CARD OF 'astragallaw05.HouseFortunes'. -/
def houseFortunesUptoCard : Claim7 := { stood := { row := houseFortunesUptoRow, standIns := [], harness := (true, "c246fac1418ee55227b7146eae7683aabed195e635b51588133b19a12fdb9a34"), looks := false }, kinds := [], alts := [], laidByText := true, laidKinds := [.data, .data, .data, .data], laidTests := true, laidLooks := .later }
def HouseFortunesUptoCardSaid : Prop := Claim7.holds Tryd.pinned (.plain (OpenSpec.upto houseFortunesSpec)) houseFortunesUptoCard
end Rows
end Go.Proofs.YtcdbkgpgjjeoiaaDoor
