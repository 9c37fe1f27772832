/-
  NARROWER THAN 'FOR EVERY INPUT', by the rows' own cells (each row's printed sentence says how): HouseSingles: laid · HouseTurned: laid · HouseBoth: laid · HouseTies: laid · HouseRulers: laid · HousePartners: laid · HouseCharts: laid · HouseFortunes: laid.
  DERIVED. THE GIVEN ROWS OF THIS SEAT. 8 by the template 'for every input the law returns true; each argument reads behind the call as it read before'; 0 by the template 'total and deterministic' (their statements: YtcdbkgpgjjeoiaaDoorTotals.lean).
  GIVEN WITH THE SEED: the statements are not yours to turn. If you find one false, say at which input.
  Laid BY PROGRAM, IN A SANDBOX (cutbox-rows.mjs): the forced cells as the released guide's own fill.sh prints them over the translation 1c1c90ce96016595… (all of the seat's roots in one cut). By AI agents, Wed Nov 11 2026. No macro, syntax, notation, axiom, sorry.
-/
import Derived.Test.YtcdbkgpgjjeoiaaDoorChecked
import GoSem.Claim
import GoSem.ClaimJoined
import GoSem.ClaimMapViews
import Derived.JoinedTies
import Derived.KernelRfl
namespace Go.Proofs.YtcdbkgpgjjeoiaaDoor
/- THE CELL 'sum', in the pinned program and in every row, IS THE sha256 OF THE DUMP (.gsa) THAT YtcdbkgpgjjeoiaaDoorProg.lean LOADS. Nothing in Lean hashes anything: it is a label: what it is worth is what the hold of that sum in a sandbox is worth. -/
noncomputable def Tryd.pinned : Pinned := { name := "ytcdbkgpgjjeoiaadoor", sum := "1c1c90ce96016595fee9e2a3d5c4eae461d6ecb366546e498492c356f7757884", checked := Tryd.checked }
namespace Rows
def none {H : Type} : Left H := { results := [], args := [] }

/- WHAT THE LISTED PACKAGE-LEVEL VARIABLES READ AS WHEN THE CALL BEGINS. Each datum BY PROGRAM (the guide's laid-datum.mjs) off the statement by which the dump's own 'gosem.cut.vars' lays the variable. In a bare row this is a premise. The card (YtcdbkgpgjjeoiaaDoorCards.lean) ties it to the program's text. -/
def laid_math_bits_deBruijn32tab {H : Type} : DataW H := .agg [.lit (.int .u8 0), .lit (.int .u8 1), .lit (.int .u8 28), .lit (.int .u8 2), .lit (.int .u8 29), .lit (.int .u8 14), .lit (.int .u8 24), .lit (.int .u8 3), .lit (.int .u8 30), .lit (.int .u8 22), .lit (.int .u8 20), .lit (.int .u8 15), .lit (.int .u8 25), .lit (.int .u8 17), .lit (.int .u8 4), .lit (.int .u8 8), .lit (.int .u8 31), .lit (.int .u8 27), .lit (.int .u8 13), .lit (.int .u8 23), .lit (.int .u8 21), .lit (.int .u8 19), .lit (.int .u8 16), .lit (.int .u8 7), .lit (.int .u8 26), .lit (.int .u8 12), .lit (.int .u8 18), .lit (.int .u8 6), .lit (.int .u8 11), .lit (.int .u8 5), .lit (.int .u8 10), .lit (.int .u8 9)]
def laid_math_bits_deBruijn64tab {H : Type} : DataW H := .agg [.lit (.int .u8 0), .lit (.int .u8 1), .lit (.int .u8 56), .lit (.int .u8 2), .lit (.int .u8 57), .lit (.int .u8 49), .lit (.int .u8 28), .lit (.int .u8 3), .lit (.int .u8 61), .lit (.int .u8 58), .lit (.int .u8 42), .lit (.int .u8 50), .lit (.int .u8 38), .lit (.int .u8 29), .lit (.int .u8 17), .lit (.int .u8 4), .lit (.int .u8 62), .lit (.int .u8 47), .lit (.int .u8 59), .lit (.int .u8 36), .lit (.int .u8 45), .lit (.int .u8 43), .lit (.int .u8 51), .lit (.int .u8 22), .lit (.int .u8 53), .lit (.int .u8 39), .lit (.int .u8 33), .lit (.int .u8 30), .lit (.int .u8 24), .lit (.int .u8 18), .lit (.int .u8 12), .lit (.int .u8 5), .lit (.int .u8 63), .lit (.int .u8 55), .lit (.int .u8 48), .lit (.int .u8 27), .lit (.int .u8 60), .lit (.int .u8 41), .lit (.int .u8 37), .lit (.int .u8 16), .lit (.int .u8 46), .lit (.int .u8 35), .lit (.int .u8 44), .lit (.int .u8 21), .lit (.int .u8 52), .lit (.int .u8 32), .lit (.int .u8 23), .lit (.int .u8 11), .lit (.int .u8 54), .lit (.int .u8 26), .lit (.int .u8 40), .lit (.int .u8 15), .lit (.int .u8 34), .lit (.int .u8 20), .lit (.int .u8 31), .lit (.int .u8 10), .lit (.int .u8 25), .lit (.int .u8 14), .lit (.int .u8 19), .lit (.int .u8 9), .lit (.int .u8 13), .lit (.int .u8 8), .lit (.int .u8 7), .lit (.int .u8 6)]
def laid_astragal_house_rulers {H : Type} : DataW H := .agg [.lit (.int .i64 6), .lit (.int .i64 1), .lit (.int .i64 2), .lit (.int .i64 3), .lit (.int .i64 5), .lit (.int .i64 4), .lit (.int .i64 5), .lit (.int .i64 8), .lit (.int .i64 0), .lit (.int .i64 0), .lit (.int .i64 1), .lit (.int .i64 2), .lit (.int .i64 3), .lit (.int .i64 4), .lit (.int .i64 7), .lit (.int .i64 6)]
def laid_astragal_shield_parents {H : Type} : DataW H := .agg [.agg [.lit (.int .i64 0), .lit (.int .i64 0)], .agg [.lit (.int .i64 0), .lit (.int .i64 0)], .agg [.lit (.int .i64 0), .lit (.int .i64 0)], .agg [.lit (.int .i64 0), .lit (.int .i64 0)], .agg [.lit (.int .i64 0), .lit (.int .i64 0)], .agg [.lit (.int .i64 0), .lit (.int .i64 0)], .agg [.lit (.int .i64 0), .lit (.int .i64 0)], .agg [.lit (.int .i64 0), .lit (.int .i64 0)], .agg [.lit (.int .i64 0), .lit (.int .i64 1)], .agg [.lit (.int .i64 2), .lit (.int .i64 3)], .agg [.lit (.int .i64 4), .lit (.int .i64 5)], .agg [.lit (.int .i64 6), .lit (.int .i64 7)], .agg [.lit (.int .i64 8), .lit (.int .i64 9)], .agg [.lit (.int .i64 10), .lit (.int .i64 11)], .agg [.lit (.int .i64 12), .lit (.int .i64 13)], .agg [.lit (.int .i64 14), .lit (.int .i64 0)]]

/-- 'astragallaw05.HouseSingles': WHATEVER THE INPUT: true; the input reads as it did. -/
def houseSinglesSpec : ChangeSpec := { name := "houseSingles", fn := fun _ => fun
  | [d1, d2] => { results := [.lit (.bool true)], args := [d1, d2] }
  | _ => none }
def houseSinglesRow : OpenClaim := { program := "ytcdbkgpgjjeoiaadoor", sum := "1c1c90ce96016595fee9e2a3d5c4eae461d6ecb366546e498492c356f7757884", func := "astragal/astragallaw05.HouseSingles", spec := "houseSingles", unfollowed := true, recurses := true, named := ["math/bits.deBruijn32tab", "math/bits.deBruijn64tab", "astragal/house.rulers"], apart := false, laid := [("math/bits.deBruijn32tab", laid_math_bits_deBruijn32tab), ("math/bits.deBruijn64tab", laid_math_bits_deBruijn64tab), ("astragal/house.rulers", laid_astragal_house_rulers)] }
def HouseSinglesSaid : Prop := houseSinglesRow.holds Tryd.pinned (OpenSpec.ofChange houseSinglesSpec)

/-- ITS FALSE NEIGHBOUR: 'it returns false'. Refute it at one input. -/
def houseSinglesWrong : ChangeSpec := { name := "houseSingles", fn := fun _ => fun
  | [d1, d2] => { results := [.lit (.bool false)], args := [d1, d2] }
  | _ => none }
def HouseSinglesWrongFalsely : Prop := houseSinglesRow.holds Tryd.pinned (OpenSpec.ofChange houseSinglesWrong)

/-- 'astragallaw05.HouseTurned': WHATEVER THE INPUT: true; the input reads as it did. -/
def houseTurnedSpec : ChangeSpec := { name := "houseTurned", fn := fun _ => fun
  | [d1, d2] => { results := [.lit (.bool true)], args := [d1, d2] }
  | _ => none }
def houseTurnedRow : OpenClaim := { program := "ytcdbkgpgjjeoiaadoor", sum := "1c1c90ce96016595fee9e2a3d5c4eae461d6ecb366546e498492c356f7757884", func := "astragal/astragallaw05.HouseTurned", spec := "houseTurned", unfollowed := true, recurses := true, named := ["math/bits.deBruijn32tab", "math/bits.deBruijn64tab", "astragal/house.rulers"], apart := false, laid := [("math/bits.deBruijn32tab", laid_math_bits_deBruijn32tab), ("math/bits.deBruijn64tab", laid_math_bits_deBruijn64tab), ("astragal/house.rulers", laid_astragal_house_rulers)] }
def HouseTurnedSaid : Prop := houseTurnedRow.holds Tryd.pinned (OpenSpec.ofChange houseTurnedSpec)

/-- ITS FALSE NEIGHBOUR: 'it returns false'. Refute it at one input. -/
def houseTurnedWrong : ChangeSpec := { name := "houseTurned", fn := fun _ => fun
  | [d1, d2] => { results := [.lit (.bool false)], args := [d1, d2] }
  | _ => none }
def HouseTurnedWrongFalsely : Prop := houseTurnedRow.holds Tryd.pinned (OpenSpec.ofChange houseTurnedWrong)

/-- 'astragallaw05.HouseBoth': WHATEVER THE INPUT: true; the input reads as it did. -/
def houseBothSpec : ChangeSpec := { name := "houseBoth", fn := fun _ => fun
  | [d] => { results := [.lit (.bool true)], args := [d] }
  | _ => none }
def houseBothRow : OpenClaim := { program := "ytcdbkgpgjjeoiaadoor", sum := "1c1c90ce96016595fee9e2a3d5c4eae461d6ecb366546e498492c356f7757884", func := "astragal/astragallaw05.HouseBoth", spec := "houseBoth", unfollowed := true, recurses := true, named := ["math/bits.deBruijn32tab", "math/bits.deBruijn64tab", "astragal/house.rulers"], apart := false, laid := [("math/bits.deBruijn32tab", laid_math_bits_deBruijn32tab), ("math/bits.deBruijn64tab", laid_math_bits_deBruijn64tab), ("astragal/house.rulers", laid_astragal_house_rulers)] }
def HouseBothSaid : Prop := houseBothRow.holds Tryd.pinned (OpenSpec.ofChange houseBothSpec)

/-- ITS FALSE NEIGHBOUR: 'it returns false'. Refute it at one input. -/
def houseBothWrong : ChangeSpec := { name := "houseBoth", fn := fun _ => fun
  | [d] => { results := [.lit (.bool false)], args := [d] }
  | _ => none }
def HouseBothWrongFalsely : Prop := houseBothRow.holds Tryd.pinned (OpenSpec.ofChange houseBothWrong)

/-- 'astragallaw05.HouseTies': WHATEVER THE INPUT: true; the input reads as it did. -/
def houseTiesSpec : ChangeSpec := { name := "houseTies", fn := fun _ => fun
  | [d1, d2, d3] => { results := [.lit (.bool true)], args := [d1, d2, d3] }
  | _ => none }
def houseTiesRow : OpenClaim := { program := "ytcdbkgpgjjeoiaadoor", sum := "1c1c90ce96016595fee9e2a3d5c4eae461d6ecb366546e498492c356f7757884", func := "astragal/astragallaw05.HouseTies", spec := "houseTies", unfollowed := true, recurses := true, named := ["math/bits.deBruijn32tab", "math/bits.deBruijn64tab", "astragal/house.rulers"], apart := false, laid := [("math/bits.deBruijn32tab", laid_math_bits_deBruijn32tab), ("math/bits.deBruijn64tab", laid_math_bits_deBruijn64tab), ("astragal/house.rulers", laid_astragal_house_rulers)] }
def HouseTiesSaid : Prop := houseTiesRow.holds Tryd.pinned (OpenSpec.ofChange houseTiesSpec)

/-- ITS FALSE NEIGHBOUR: 'it returns false'. Refute it at one input. -/
def houseTiesWrong : ChangeSpec := { name := "houseTies", fn := fun _ => fun
  | [d1, d2, d3] => { results := [.lit (.bool false)], args := [d1, d2, d3] }
  | _ => none }
def HouseTiesWrongFalsely : Prop := houseTiesRow.holds Tryd.pinned (OpenSpec.ofChange houseTiesWrong)

/-- 'astragallaw05.HouseRulers': WHATEVER THE INPUT: true; the input reads as it did. -/
def houseRulersSpec : ChangeSpec := { name := "houseRulers", fn := fun _ => fun
  | [d1, d2, d3] => { results := [.lit (.bool true)], args := [d1, d2, d3] }
  | _ => none }
def houseRulersRow : OpenClaim := { program := "ytcdbkgpgjjeoiaadoor", sum := "1c1c90ce96016595fee9e2a3d5c4eae461d6ecb366546e498492c356f7757884", func := "astragal/astragallaw05.HouseRulers", spec := "houseRulers", unfollowed := true, recurses := true, named := ["astragal/house.rulers", "math/bits.deBruijn32tab", "math/bits.deBruijn64tab"], apart := false, laid := [("math/bits.deBruijn32tab", laid_math_bits_deBruijn32tab), ("math/bits.deBruijn64tab", laid_math_bits_deBruijn64tab), ("astragal/house.rulers", laid_astragal_house_rulers)] }
def HouseRulersSaid : Prop := houseRulersRow.holds Tryd.pinned (OpenSpec.ofChange houseRulersSpec)

/-- ITS FALSE NEIGHBOUR: 'it returns false'. Refute it at one input. -/
def houseRulersWrong : ChangeSpec := { name := "houseRulers", fn := fun _ => fun
  | [d1, d2, d3] => { results := [.lit (.bool false)], args := [d1, d2, d3] }
  | _ => none }
def HouseRulersWrongFalsely : Prop := houseRulersRow.holds Tryd.pinned (OpenSpec.ofChange houseRulersWrong)

/-- 'astragallaw05.HousePartners': WHATEVER THE INPUT: true; the input reads as it did. -/
def housePartnersSpec : ChangeSpec := { name := "housePartners", fn := fun _ => fun
  | [d] => { results := [.lit (.bool true)], args := [d] }
  | _ => none }
def housePartnersRow : OpenClaim := { program := "ytcdbkgpgjjeoiaadoor", sum := "1c1c90ce96016595fee9e2a3d5c4eae461d6ecb366546e498492c356f7757884", func := "astragal/astragallaw05.HousePartners", spec := "housePartners", unfollowed := true, recurses := true, named := ["astragal/house.rulers", "math/bits.deBruijn32tab", "math/bits.deBruijn64tab"], apart := false, laid := [("math/bits.deBruijn32tab", laid_math_bits_deBruijn32tab), ("math/bits.deBruijn64tab", laid_math_bits_deBruijn64tab), ("astragal/house.rulers", laid_astragal_house_rulers)] }
def HousePartnersSaid : Prop := housePartnersRow.holds Tryd.pinned (OpenSpec.ofChange housePartnersSpec)

/-- ITS FALSE NEIGHBOUR: 'it returns false'. Refute it at one input. -/
def housePartnersWrong : ChangeSpec := { name := "housePartners", fn := fun _ => fun
  | [d] => { results := [.lit (.bool false)], args := [d] }
  | _ => none }
def HousePartnersWrongFalsely : Prop := housePartnersRow.holds Tryd.pinned (OpenSpec.ofChange housePartnersWrong)

/-- 'astragallaw05.HouseCharts': WHATEVER THE INPUT: true; the input reads as it did. -/
def houseChartsSpec : ChangeSpec := { name := "houseCharts", fn := fun _ => fun
  | [d1, d2] => { results := [.lit (.bool true)], args := [d1, d2] }
  | _ => none }
def houseChartsRow : OpenClaim := { program := "ytcdbkgpgjjeoiaadoor", sum := "1c1c90ce96016595fee9e2a3d5c4eae461d6ecb366546e498492c356f7757884", func := "astragal/astragallaw05.HouseCharts", spec := "houseCharts", unfollowed := true, recurses := true, named := ["astragal/shield.parents", "math/bits.deBruijn32tab", "math/bits.deBruijn64tab", "astragal/house.rulers"], apart := false, laid := [("math/bits.deBruijn32tab", laid_math_bits_deBruijn32tab), ("math/bits.deBruijn64tab", laid_math_bits_deBruijn64tab), ("astragal/shield.parents", laid_astragal_shield_parents), ("astragal/house.rulers", laid_astragal_house_rulers)] }
def HouseChartsSaid : Prop := houseChartsRow.holds Tryd.pinned (OpenSpec.ofChange houseChartsSpec)

/-- ITS FALSE NEIGHBOUR: 'it returns false'. Refute it at one input. -/
def houseChartsWrong : ChangeSpec := { name := "houseCharts", fn := fun _ => fun
  | [d1, d2] => { results := [.lit (.bool false)], args := [d1, d2] }
  | _ => none }
def HouseChartsWrongFalsely : Prop := houseChartsRow.holds Tryd.pinned (OpenSpec.ofChange houseChartsWrong)

/-- 'astragallaw05.HouseFortunes': WHATEVER THE INPUT: true; the input reads as it did. -/
def houseFortunesSpec : ChangeSpec := { name := "houseFortunes", fn := fun _ => fun
  | [d] => { results := [.lit (.bool true)], args := [d] }
  | _ => none }
def houseFortunesRow : OpenClaim := { program := "ytcdbkgpgjjeoiaadoor", sum := "1c1c90ce96016595fee9e2a3d5c4eae461d6ecb366546e498492c356f7757884", func := "astragal/astragallaw05.HouseFortunes", spec := "houseFortunes", unfollowed := true, recurses := true, named := ["astragal/shield.parents", "math/bits.deBruijn32tab", "math/bits.deBruijn64tab", "astragal/house.rulers"], apart := false, laid := [("math/bits.deBruijn32tab", laid_math_bits_deBruijn32tab), ("math/bits.deBruijn64tab", laid_math_bits_deBruijn64tab), ("astragal/shield.parents", laid_astragal_shield_parents), ("astragal/house.rulers", laid_astragal_house_rulers)] }
def HouseFortunesSaid : Prop := houseFortunesRow.holds Tryd.pinned (OpenSpec.ofChange houseFortunesSpec)

/-- ITS FALSE NEIGHBOUR: 'it returns false'. Refute it at one input. -/
def houseFortunesWrong : ChangeSpec := { name := "houseFortunes", fn := fun _ => fun
  | [d] => { results := [.lit (.bool false)], args := [d] }
  | _ => none }
def HouseFortunesWrongFalsely : Prop := houseFortunesRow.holds Tryd.pinned (OpenSpec.ofChange houseFortunesWrong)

/- THE SECOND FORM. 'bulk': how many values and letters a reading holds, each counted each time it is reached (what is shared counts as often as it is met; a slice's spare places count too). A statement '..UptoSaid' is the law's where the arguments, and the package variables that the reading takes, are together of bulk at most 1048576: NARROWER than '..Said'. Prove '..Said' where nothing that the law and all that it calls make is longer than what came in: it says more and counts as full. Else prove '..UptoSaid'. A law counts once. -/
mutual
def uptoBulk {H : Type} : DataW H → Nat
  | .lit (.string bytes) => bytes.length + 1
  | .lit _ => 1
  | .nil => 1
  | .ptr d => uptoBulk d + 1
  | .slice elems spare => uptoBulkAll elems + uptoBulkAll spare + 1
  | .agg parts => uptoBulkAll parts + 1
  | .iface _ d => uptoBulk d + 1
  | .map entries => uptoBulkEntries entries + 1
  | .held _ => 1
def uptoBulkAll {H : Type} : List (DataW H) → Nat
  | [] => 0
  | d :: r => uptoBulk d + uptoBulkAll r
def uptoBulkEntries {H : Type} : List (Lit × DataW H) → Nat
  | [] => 0
  | x :: r => uptoBulkEntry x + uptoBulkEntries r
def uptoBulkEntry {H : Type} : Lit × DataW H → Nat
  | (.string bytes, d) => bytes.length + uptoBulk d + 1
  | (_, d) => uptoBulk d + 1
 end
def uptoSmall : (H : Type) → List (DataW H) → Bool := fun _ ds => decide (uptoBulkAll ds ≤ 1048576)
def OpenSpec.upto (s : _root_.Go.ChangeSpec) : _root_.Go.OpenSpec := { _root_.Go.OpenSpec.ofChange s with cond := some uptoSmall }

/-- 'astragallaw05.HouseSingles', WHERE WHAT IT READS IS OF BULK AT MOST 1048576: true; the input reads as it did. -/
def houseSinglesUptoRow : OpenClaim := { program := "ytcdbkgpgjjeoiaadoor", sum := "1c1c90ce96016595fee9e2a3d5c4eae461d6ecb366546e498492c356f7757884", func := "astragal/astragallaw05.HouseSingles", spec := "houseSingles", unfollowed := true, recurses := true, named := ["math/bits.deBruijn32tab", "math/bits.deBruijn64tab", "astragal/house.rulers"], apart := false, laid := [("math/bits.deBruijn32tab", laid_math_bits_deBruijn32tab), ("math/bits.deBruijn64tab", laid_math_bits_deBruijn64tab), ("astragal/house.rulers", laid_astragal_house_rulers)], narrowed := true }
def HouseSinglesUptoSaid : Prop := houseSinglesUptoRow.holds Tryd.pinned (OpenSpec.upto houseSinglesSpec)

/-- 'astragallaw05.HouseTurned', WHERE WHAT IT READS IS OF BULK AT MOST 1048576: true; the input reads as it did. -/
def houseTurnedUptoRow : OpenClaim := { program := "ytcdbkgpgjjeoiaadoor", sum := "1c1c90ce96016595fee9e2a3d5c4eae461d6ecb366546e498492c356f7757884", func := "astragal/astragallaw05.HouseTurned", spec := "houseTurned", unfollowed := true, recurses := true, named := ["math/bits.deBruijn32tab", "math/bits.deBruijn64tab", "astragal/house.rulers"], apart := false, laid := [("math/bits.deBruijn32tab", laid_math_bits_deBruijn32tab), ("math/bits.deBruijn64tab", laid_math_bits_deBruijn64tab), ("astragal/house.rulers", laid_astragal_house_rulers)], narrowed := true }
def HouseTurnedUptoSaid : Prop := houseTurnedUptoRow.holds Tryd.pinned (OpenSpec.upto houseTurnedSpec)

/-- 'astragallaw05.HouseBoth', WHERE WHAT IT READS IS OF BULK AT MOST 1048576: true; the input reads as it did. -/
def houseBothUptoRow : OpenClaim := { program := "ytcdbkgpgjjeoiaadoor", sum := "1c1c90ce96016595fee9e2a3d5c4eae461d6ecb366546e498492c356f7757884", func := "astragal/astragallaw05.HouseBoth", spec := "houseBoth", unfollowed := true, recurses := true, named := ["math/bits.deBruijn32tab", "math/bits.deBruijn64tab", "astragal/house.rulers"], apart := false, laid := [("math/bits.deBruijn32tab", laid_math_bits_deBruijn32tab), ("math/bits.deBruijn64tab", laid_math_bits_deBruijn64tab), ("astragal/house.rulers", laid_astragal_house_rulers)], narrowed := true }
def HouseBothUptoSaid : Prop := houseBothUptoRow.holds Tryd.pinned (OpenSpec.upto houseBothSpec)

/-- 'astragallaw05.HouseTies', WHERE WHAT IT READS IS OF BULK AT MOST 1048576: true; the input reads as it did. -/
def houseTiesUptoRow : OpenClaim := { program := "ytcdbkgpgjjeoiaadoor", sum := "1c1c90ce96016595fee9e2a3d5c4eae461d6ecb366546e498492c356f7757884", func := "astragal/astragallaw05.HouseTies", spec := "houseTies", unfollowed := true, recurses := true, named := ["math/bits.deBruijn32tab", "math/bits.deBruijn64tab", "astragal/house.rulers"], apart := false, laid := [("math/bits.deBruijn32tab", laid_math_bits_deBruijn32tab), ("math/bits.deBruijn64tab", laid_math_bits_deBruijn64tab), ("astragal/house.rulers", laid_astragal_house_rulers)], narrowed := true }
def HouseTiesUptoSaid : Prop := houseTiesUptoRow.holds Tryd.pinned (OpenSpec.upto houseTiesSpec)

/-- 'astragallaw05.HouseRulers', WHERE WHAT IT READS IS OF BULK AT MOST 1048576: true; the input reads as it did. -/
def houseRulersUptoRow : OpenClaim := { program := "ytcdbkgpgjjeoiaadoor", sum := "1c1c90ce96016595fee9e2a3d5c4eae461d6ecb366546e498492c356f7757884", func := "astragal/astragallaw05.HouseRulers", spec := "houseRulers", unfollowed := true, recurses := true, named := ["astragal/house.rulers", "math/bits.deBruijn32tab", "math/bits.deBruijn64tab"], apart := false, laid := [("math/bits.deBruijn32tab", laid_math_bits_deBruijn32tab), ("math/bits.deBruijn64tab", laid_math_bits_deBruijn64tab), ("astragal/house.rulers", laid_astragal_house_rulers)], narrowed := true }
def HouseRulersUptoSaid : Prop := houseRulersUptoRow.holds Tryd.pinned (OpenSpec.upto houseRulersSpec)

/-- 'astragallaw05.HousePartners', WHERE WHAT IT READS IS OF BULK AT MOST 1048576: true; the input reads as it did. -/
def housePartnersUptoRow : OpenClaim := { program := "ytcdbkgpgjjeoiaadoor", sum := "1c1c90ce96016595fee9e2a3d5c4eae461d6ecb366546e498492c356f7757884", func := "astragal/astragallaw05.HousePartners", spec := "housePartners", unfollowed := true, recurses := true, named := ["astragal/house.rulers", "math/bits.deBruijn32tab", "math/bits.deBruijn64tab"], apart := false, laid := [("math/bits.deBruijn32tab", laid_math_bits_deBruijn32tab), ("math/bits.deBruijn64tab", laid_math_bits_deBruijn64tab), ("astragal/house.rulers", laid_astragal_house_rulers)], narrowed := true }
def HousePartnersUptoSaid : Prop := housePartnersUptoRow.holds Tryd.pinned (OpenSpec.upto housePartnersSpec)

/-- 'astragallaw05.HouseCharts', WHERE WHAT IT READS IS OF BULK AT MOST 1048576: true; the input reads as it did. -/
def houseChartsUptoRow : OpenClaim := { program := "ytcdbkgpgjjeoiaadoor", sum := "1c1c90ce96016595fee9e2a3d5c4eae461d6ecb366546e498492c356f7757884", func := "astragal/astragallaw05.HouseCharts", spec := "houseCharts", unfollowed := true, recurses := true, named := ["astragal/shield.parents", "math/bits.deBruijn32tab", "math/bits.deBruijn64tab", "astragal/house.rulers"], apart := false, laid := [("math/bits.deBruijn32tab", laid_math_bits_deBruijn32tab), ("math/bits.deBruijn64tab", laid_math_bits_deBruijn64tab), ("astragal/shield.parents", laid_astragal_shield_parents), ("astragal/house.rulers", laid_astragal_house_rulers)], narrowed := true }
def HouseChartsUptoSaid : Prop := houseChartsUptoRow.holds Tryd.pinned (OpenSpec.upto houseChartsSpec)

/-- 'astragallaw05.HouseFortunes', WHERE WHAT IT READS IS OF BULK AT MOST 1048576: true; the input reads as it did. -/
def houseFortunesUptoRow : OpenClaim := { program := "ytcdbkgpgjjeoiaadoor", sum := "1c1c90ce96016595fee9e2a3d5c4eae461d6ecb366546e498492c356f7757884", func := "astragal/astragallaw05.HouseFortunes", spec := "houseFortunes", unfollowed := true, recurses := true, named := ["astragal/shield.parents", "math/bits.deBruijn32tab", "math/bits.deBruijn64tab", "astragal/house.rulers"], apart := false, laid := [("math/bits.deBruijn32tab", laid_math_bits_deBruijn32tab), ("math/bits.deBruijn64tab", laid_math_bits_deBruijn64tab), ("astragal/shield.parents", laid_astragal_shield_parents), ("astragal/house.rulers", laid_astragal_house_rulers)], narrowed := true }
def HouseFortunesUptoSaid : Prop := houseFortunesUptoRow.holds Tryd.pinned (OpenSpec.upto houseFortunesSpec)

end Rows
end Go.Proofs.YtcdbkgpgjjeoiaaDoor
