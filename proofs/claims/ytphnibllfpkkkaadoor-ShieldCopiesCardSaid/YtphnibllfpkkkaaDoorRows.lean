/-
  NARROWER THAN 'FOR EVERY INPUT', by the rows' own cells (each row's printed sentence says how): ShieldWays: laid · ShieldDerives: laid · ShieldPath: laid · ShieldFigures: laid · ShieldCasts: laid · ShieldIdentities: laid · ShieldNames: laid · ShieldGroup: laid · ShieldCounts: laid · ShieldShares: laid · ShieldCopies: laid · ShieldFound: laid.
  DERIVED. THE GIVEN ROWS OF THIS SEAT. 12 by the template 'for every input the law returns true; each argument reads behind the call as it read before'; 0 by the template 'total and deterministic' (their statements: YtphnibllfpkkkaaDoorTotals.lean).
  GIVEN WITH THE SEED: the statements are not yours to turn. If you find one false, say at which input.
  Laid BY PROGRAM, IN A SANDBOX (cutbox-rows.mjs): the forced cells as the released guide's own fill.sh prints them over the translation 17aa98f846a53e86… (all of the seat's roots in one cut). By AI agents, Wed Nov 11 2026. No macro, syntax, notation, axiom, sorry.
-/
import Derived.Test.YtphnibllfpkkkaaDoorChecked
import GoSem.Claim
import GoSem.ClaimJoined
import GoSem.ClaimMapViews
import Derived.JoinedTies
import Derived.KernelRfl
namespace Go.Proofs.YtphnibllfpkkkaaDoor
/- THE CELL 'sum', in the pinned program and in every row, IS THE sha256 OF THE DUMP (.gsa) THAT YtphnibllfpkkkaaDoorProg.lean LOADS. Nothing in Lean hashes anything: it is a label: what it is worth is what the hold of that sum in a sandbox is worth. -/
noncomputable def Tryd.pinned : Pinned := { name := "ytphnibllfpkkkaadoor", sum := "17aa98f846a53e865f66cc787b0a8bd802bc83333c61485201b260461168fb8c", checked := Tryd.checked }
namespace Rows
def none {H : Type} : Left H := { results := [], args := [] }

/- WHAT THE LISTED PACKAGE-LEVEL VARIABLES READ AS WHEN THE CALL BEGINS. Each datum BY PROGRAM (the guide's laid-datum.mjs) off the statement by which the dump's own 'gosem.cut.vars' lays the variable. In a bare row this is a premise. The card (YtphnibllfpkkkaaDoorCards.lean) ties it to the program's text. -/
def laid_astragal_shield_names {H : Type} : DataW H := .agg [.lit (.string [112, 111, 112, 117, 108, 117, 115]), .lit (.string [108, 97, 101, 116, 105, 116, 105, 97]), .lit (.string [114, 117, 98, 101, 117, 115]), .lit (.string [102, 111, 114, 116, 117, 110, 97, 32, 109, 105, 110, 111, 114]), .lit (.string [97, 108, 98, 117, 115]), .lit (.string [97, 109, 105, 115, 115, 105, 111]), .lit (.string [99, 111, 110, 106, 117, 110, 99, 116, 105, 111]), .lit (.string [99, 97, 117, 100, 97, 32, 100, 114, 97, 99, 111, 110, 105, 115]), .lit (.string [116, 114, 105, 115, 116, 105, 116, 105, 97]), .lit (.string [99, 97, 114, 99, 101, 114]), .lit (.string [97, 99, 113, 117, 105, 115, 105, 116, 105, 111]), .lit (.string [112, 117, 101, 114]), .lit (.string [102, 111, 114, 116, 117, 110, 97, 32, 109, 97, 106, 111, 114]), .lit (.string [112, 117, 101, 108, 108, 97]), .lit (.string [99, 97, 112, 117, 116, 32, 100, 114, 97, 99, 111, 110, 105, 115]), .lit (.string [118, 105, 97])]
def laid_astragal_shield_parents {H : Type} : DataW H := .agg [.agg [.lit (.int .i64 0), .lit (.int .i64 0)], .agg [.lit (.int .i64 0), .lit (.int .i64 0)], .agg [.lit (.int .i64 0), .lit (.int .i64 0)], .agg [.lit (.int .i64 0), .lit (.int .i64 0)], .agg [.lit (.int .i64 0), .lit (.int .i64 0)], .agg [.lit (.int .i64 0), .lit (.int .i64 0)], .agg [.lit (.int .i64 0), .lit (.int .i64 0)], .agg [.lit (.int .i64 0), .lit (.int .i64 0)], .agg [.lit (.int .i64 0), .lit (.int .i64 1)], .agg [.lit (.int .i64 2), .lit (.int .i64 3)], .agg [.lit (.int .i64 4), .lit (.int .i64 5)], .agg [.lit (.int .i64 6), .lit (.int .i64 7)], .agg [.lit (.int .i64 8), .lit (.int .i64 9)], .agg [.lit (.int .i64 10), .lit (.int .i64 11)], .agg [.lit (.int .i64 12), .lit (.int .i64 13)], .agg [.lit (.int .i64 14), .lit (.int .i64 0)]]
def laid_math_bits_deBruijn32tab {H : Type} : DataW H := .agg [.lit (.int .u8 0), .lit (.int .u8 1), .lit (.int .u8 28), .lit (.int .u8 2), .lit (.int .u8 29), .lit (.int .u8 14), .lit (.int .u8 24), .lit (.int .u8 3), .lit (.int .u8 30), .lit (.int .u8 22), .lit (.int .u8 20), .lit (.int .u8 15), .lit (.int .u8 25), .lit (.int .u8 17), .lit (.int .u8 4), .lit (.int .u8 8), .lit (.int .u8 31), .lit (.int .u8 27), .lit (.int .u8 13), .lit (.int .u8 23), .lit (.int .u8 21), .lit (.int .u8 19), .lit (.int .u8 16), .lit (.int .u8 7), .lit (.int .u8 26), .lit (.int .u8 12), .lit (.int .u8 18), .lit (.int .u8 6), .lit (.int .u8 11), .lit (.int .u8 5), .lit (.int .u8 10), .lit (.int .u8 9)]
def laid_math_bits_deBruijn64tab {H : Type} : DataW H := .agg [.lit (.int .u8 0), .lit (.int .u8 1), .lit (.int .u8 56), .lit (.int .u8 2), .lit (.int .u8 57), .lit (.int .u8 49), .lit (.int .u8 28), .lit (.int .u8 3), .lit (.int .u8 61), .lit (.int .u8 58), .lit (.int .u8 42), .lit (.int .u8 50), .lit (.int .u8 38), .lit (.int .u8 29), .lit (.int .u8 17), .lit (.int .u8 4), .lit (.int .u8 62), .lit (.int .u8 47), .lit (.int .u8 59), .lit (.int .u8 36), .lit (.int .u8 45), .lit (.int .u8 43), .lit (.int .u8 51), .lit (.int .u8 22), .lit (.int .u8 53), .lit (.int .u8 39), .lit (.int .u8 33), .lit (.int .u8 30), .lit (.int .u8 24), .lit (.int .u8 18), .lit (.int .u8 12), .lit (.int .u8 5), .lit (.int .u8 63), .lit (.int .u8 55), .lit (.int .u8 48), .lit (.int .u8 27), .lit (.int .u8 60), .lit (.int .u8 41), .lit (.int .u8 37), .lit (.int .u8 16), .lit (.int .u8 46), .lit (.int .u8 35), .lit (.int .u8 44), .lit (.int .u8 21), .lit (.int .u8 52), .lit (.int .u8 32), .lit (.int .u8 23), .lit (.int .u8 11), .lit (.int .u8 54), .lit (.int .u8 26), .lit (.int .u8 40), .lit (.int .u8 15), .lit (.int .u8 34), .lit (.int .u8 20), .lit (.int .u8 31), .lit (.int .u8 10), .lit (.int .u8 25), .lit (.int .u8 14), .lit (.int .u8 19), .lit (.int .u8 9), .lit (.int .u8 13), .lit (.int .u8 8), .lit (.int .u8 7), .lit (.int .u8 6)]

/-- 'astragallaw03.ShieldWays': WHATEVER THE INPUT: true; the input reads as it did. -/
def shieldWaysSpec : ChangeSpec := { name := "shieldWays", fn := fun _ => fun
  | [d1, d2] => { results := [.lit (.bool true)], args := [d1, d2] }
  | _ => none }
def shieldWaysRow : OpenClaim := { program := "ytphnibllfpkkkaadoor", sum := "17aa98f846a53e865f66cc787b0a8bd802bc83333c61485201b260461168fb8c", func := "astragal/astragallaw03.ShieldWays", spec := "shieldWays", unfollowed := true, recurses := true, named := ["astragal/shield.parents", "astragal/shield.names"], apart := false, laid := [("astragal/shield.names", laid_astragal_shield_names), ("astragal/shield.parents", laid_astragal_shield_parents)] }
def ShieldWaysSaid : Prop := shieldWaysRow.holds Tryd.pinned (OpenSpec.ofChange shieldWaysSpec)

/-- ITS FALSE NEIGHBOUR: 'it returns false'. Refute it at one input. -/
def shieldWaysWrong : ChangeSpec := { name := "shieldWays", fn := fun _ => fun
  | [d1, d2] => { results := [.lit (.bool false)], args := [d1, d2] }
  | _ => none }
def ShieldWaysWrongFalsely : Prop := shieldWaysRow.holds Tryd.pinned (OpenSpec.ofChange shieldWaysWrong)

/-- 'astragallaw03.ShieldDerives': WHATEVER THE INPUT: true; the input reads as it did. -/
def shieldDerivesSpec : ChangeSpec := { name := "shieldDerives", fn := fun _ => fun
  | [d] => { results := [.lit (.bool true)], args := [d] }
  | _ => none }
def shieldDerivesRow : OpenClaim := { program := "ytphnibllfpkkkaadoor", sum := "17aa98f846a53e865f66cc787b0a8bd802bc83333c61485201b260461168fb8c", func := "astragal/astragallaw03.ShieldDerives", spec := "shieldDerives", unfollowed := true, recurses := true, named := ["astragal/shield.parents", "astragal/shield.names"], apart := false, laid := [("astragal/shield.names", laid_astragal_shield_names), ("astragal/shield.parents", laid_astragal_shield_parents)] }
def ShieldDerivesSaid : Prop := shieldDerivesRow.holds Tryd.pinned (OpenSpec.ofChange shieldDerivesSpec)

/-- ITS FALSE NEIGHBOUR: 'it returns false'. Refute it at one input. -/
def shieldDerivesWrong : ChangeSpec := { name := "shieldDerives", fn := fun _ => fun
  | [d] => { results := [.lit (.bool false)], args := [d] }
  | _ => none }
def ShieldDerivesWrongFalsely : Prop := shieldDerivesRow.holds Tryd.pinned (OpenSpec.ofChange shieldDerivesWrong)

/-- 'astragallaw03.ShieldPath': WHATEVER THE INPUT: true; the input reads as it did. -/
def shieldPathSpec : ChangeSpec := { name := "shieldPath", fn := fun _ => fun
  | [d1, d2] => { results := [.lit (.bool true)], args := [d1, d2] }
  | _ => none }
def shieldPathRow : OpenClaim := { program := "ytphnibllfpkkkaadoor", sum := "17aa98f846a53e865f66cc787b0a8bd802bc83333c61485201b260461168fb8c", func := "astragal/astragallaw03.ShieldPath", spec := "shieldPath", unfollowed := true, recurses := true, named := ["astragal/shield.parents", "astragal/shield.names"], apart := false, laid := [("astragal/shield.names", laid_astragal_shield_names), ("astragal/shield.parents", laid_astragal_shield_parents)] }
def ShieldPathSaid : Prop := shieldPathRow.holds Tryd.pinned (OpenSpec.ofChange shieldPathSpec)

/-- ITS FALSE NEIGHBOUR: 'it returns false'. Refute it at one input. -/
def shieldPathWrong : ChangeSpec := { name := "shieldPath", fn := fun _ => fun
  | [d1, d2] => { results := [.lit (.bool false)], args := [d1, d2] }
  | _ => none }
def ShieldPathWrongFalsely : Prop := shieldPathRow.holds Tryd.pinned (OpenSpec.ofChange shieldPathWrong)

/-- 'astragallaw03.ShieldFigures': WHATEVER THE INPUT: true; the input reads as it did. -/
def shieldFiguresSpec : ChangeSpec := { name := "shieldFigures", fn := fun _ => fun
  | [d1, d2] => { results := [.lit (.bool true)], args := [d1, d2] }
  | _ => none }
def shieldFiguresRow : OpenClaim := { program := "ytphnibllfpkkkaadoor", sum := "17aa98f846a53e865f66cc787b0a8bd802bc83333c61485201b260461168fb8c", func := "astragal/astragallaw03.ShieldFigures", spec := "shieldFigures", unfollowed := true, recurses := true, named := ["astragal/shield.names", "astragal/shield.parents"], apart := false, laid := [("astragal/shield.names", laid_astragal_shield_names), ("astragal/shield.parents", laid_astragal_shield_parents)] }
def ShieldFiguresSaid : Prop := shieldFiguresRow.holds Tryd.pinned (OpenSpec.ofChange shieldFiguresSpec)

/-- ITS FALSE NEIGHBOUR: 'it returns false'. Refute it at one input. -/
def shieldFiguresWrong : ChangeSpec := { name := "shieldFigures", fn := fun _ => fun
  | [d1, d2] => { results := [.lit (.bool false)], args := [d1, d2] }
  | _ => none }
def ShieldFiguresWrongFalsely : Prop := shieldFiguresRow.holds Tryd.pinned (OpenSpec.ofChange shieldFiguresWrong)

/-- 'astragallaw03.ShieldCasts': WHATEVER THE INPUT: true; the input reads as it did. -/
def shieldCastsSpec : ChangeSpec := { name := "shieldCasts", fn := fun _ => fun
  | [d1, d2] => { results := [.lit (.bool true)], args := [d1, d2] }
  | _ => none }
def shieldCastsRow : OpenClaim := { program := "ytphnibllfpkkkaadoor", sum := "17aa98f846a53e865f66cc787b0a8bd802bc83333c61485201b260461168fb8c", func := "astragal/astragallaw03.ShieldCasts", spec := "shieldCasts", unfollowed := true, recurses := true, named := ["astragal/shield.parents", "astragal/shield.names"], apart := false, laid := [("astragal/shield.names", laid_astragal_shield_names), ("astragal/shield.parents", laid_astragal_shield_parents)] }
def ShieldCastsSaid : Prop := shieldCastsRow.holds Tryd.pinned (OpenSpec.ofChange shieldCastsSpec)

/-- ITS FALSE NEIGHBOUR: 'it returns false'. Refute it at one input. -/
def shieldCastsWrong : ChangeSpec := { name := "shieldCasts", fn := fun _ => fun
  | [d1, d2] => { results := [.lit (.bool false)], args := [d1, d2] }
  | _ => none }
def ShieldCastsWrongFalsely : Prop := shieldCastsRow.holds Tryd.pinned (OpenSpec.ofChange shieldCastsWrong)

/-- 'astragallaw03.ShieldIdentities': WHATEVER THE INPUT: true; the input reads as it did. -/
def shieldIdentitiesSpec : ChangeSpec := { name := "shieldIdentities", fn := fun _ => fun
  | [d] => { results := [.lit (.bool true)], args := [d] }
  | _ => none }
def shieldIdentitiesRow : OpenClaim := { program := "ytphnibllfpkkkaadoor", sum := "17aa98f846a53e865f66cc787b0a8bd802bc83333c61485201b260461168fb8c", func := "astragal/astragallaw03.ShieldIdentities", spec := "shieldIdentities", unfollowed := true, recurses := true, named := ["astragal/shield.parents", "astragal/shield.names"], apart := false, laid := [("astragal/shield.names", laid_astragal_shield_names), ("astragal/shield.parents", laid_astragal_shield_parents)] }
def ShieldIdentitiesSaid : Prop := shieldIdentitiesRow.holds Tryd.pinned (OpenSpec.ofChange shieldIdentitiesSpec)

/-- ITS FALSE NEIGHBOUR: 'it returns false'. Refute it at one input. -/
def shieldIdentitiesWrong : ChangeSpec := { name := "shieldIdentities", fn := fun _ => fun
  | [d] => { results := [.lit (.bool false)], args := [d] }
  | _ => none }
def ShieldIdentitiesWrongFalsely : Prop := shieldIdentitiesRow.holds Tryd.pinned (OpenSpec.ofChange shieldIdentitiesWrong)

/-- 'astragallaw03.ShieldNames': WHATEVER THE INPUT: true; the input reads as it did. -/
def shieldNamesSpec : ChangeSpec := { name := "shieldNames", fn := fun _ => fun
  | [d1, d2] => { results := [.lit (.bool true)], args := [d1, d2] }
  | _ => none }
def shieldNamesRow : OpenClaim := { program := "ytphnibllfpkkkaadoor", sum := "17aa98f846a53e865f66cc787b0a8bd802bc83333c61485201b260461168fb8c", func := "astragal/astragallaw03.ShieldNames", spec := "shieldNames", unfollowed := true, recurses := true, named := ["astragal/shield.parents", "astragal/shield.names"], apart := false, laid := [("astragal/shield.names", laid_astragal_shield_names), ("astragal/shield.parents", laid_astragal_shield_parents)] }
def ShieldNamesSaid : Prop := shieldNamesRow.holds Tryd.pinned (OpenSpec.ofChange shieldNamesSpec)

/-- ITS FALSE NEIGHBOUR: 'it returns false'. Refute it at one input. -/
def shieldNamesWrong : ChangeSpec := { name := "shieldNames", fn := fun _ => fun
  | [d1, d2] => { results := [.lit (.bool false)], args := [d1, d2] }
  | _ => none }
def ShieldNamesWrongFalsely : Prop := shieldNamesRow.holds Tryd.pinned (OpenSpec.ofChange shieldNamesWrong)

/-- 'astragallaw03.ShieldGroup': WHATEVER THE INPUT: true; the input reads as it did. -/
def shieldGroupSpec : ChangeSpec := { name := "shieldGroup", fn := fun _ => fun
  | [d1, d2, d3] => { results := [.lit (.bool true)], args := [d1, d2, d3] }
  | _ => none }
def shieldGroupRow : OpenClaim := { program := "ytphnibllfpkkkaadoor", sum := "17aa98f846a53e865f66cc787b0a8bd802bc83333c61485201b260461168fb8c", func := "astragal/astragallaw03.ShieldGroup", spec := "shieldGroup", unfollowed := true, recurses := true, named := ["astragal/shield.names", "astragal/shield.parents"], apart := false, laid := [("astragal/shield.names", laid_astragal_shield_names), ("astragal/shield.parents", laid_astragal_shield_parents)] }
def ShieldGroupSaid : Prop := shieldGroupRow.holds Tryd.pinned (OpenSpec.ofChange shieldGroupSpec)

/-- ITS FALSE NEIGHBOUR: 'it returns false'. Refute it at one input. -/
def shieldGroupWrong : ChangeSpec := { name := "shieldGroup", fn := fun _ => fun
  | [d1, d2, d3] => { results := [.lit (.bool false)], args := [d1, d2, d3] }
  | _ => none }
def ShieldGroupWrongFalsely : Prop := shieldGroupRow.holds Tryd.pinned (OpenSpec.ofChange shieldGroupWrong)

/-- 'astragallaw03.ShieldCounts': WHATEVER THE INPUT: true; the input reads as it did. -/
def shieldCountsSpec : ChangeSpec := { name := "shieldCounts", fn := fun _ => fun
  | [d] => { results := [.lit (.bool true)], args := [d] }
  | _ => none }
def shieldCountsRow : OpenClaim := { program := "ytphnibllfpkkkaadoor", sum := "17aa98f846a53e865f66cc787b0a8bd802bc83333c61485201b260461168fb8c", func := "astragal/astragallaw03.ShieldCounts", spec := "shieldCounts", unfollowed := true, recurses := true, named := ["astragal/shield.parents", "math/bits.deBruijn32tab", "math/bits.deBruijn64tab", "astragal/shield.names"], apart := false, laid := [("math/bits.deBruijn32tab", laid_math_bits_deBruijn32tab), ("math/bits.deBruijn64tab", laid_math_bits_deBruijn64tab), ("astragal/shield.names", laid_astragal_shield_names), ("astragal/shield.parents", laid_astragal_shield_parents)] }
def ShieldCountsSaid : Prop := shieldCountsRow.holds Tryd.pinned (OpenSpec.ofChange shieldCountsSpec)

/-- ITS FALSE NEIGHBOUR: 'it returns false'. Refute it at one input. -/
def shieldCountsWrong : ChangeSpec := { name := "shieldCounts", fn := fun _ => fun
  | [d] => { results := [.lit (.bool false)], args := [d] }
  | _ => none }
def ShieldCountsWrongFalsely : Prop := shieldCountsRow.holds Tryd.pinned (OpenSpec.ofChange shieldCountsWrong)

/-- 'astragallaw03.ShieldShares': WHATEVER THE INPUT: true; the input reads as it did. -/
def shieldSharesSpec : ChangeSpec := { name := "shieldShares", fn := fun _ => fun
  | [d1, d2, d3] => { results := [.lit (.bool true)], args := [d1, d2, d3] }
  | _ => none }
def shieldSharesRow : OpenClaim := { program := "ytphnibllfpkkkaadoor", sum := "17aa98f846a53e865f66cc787b0a8bd802bc83333c61485201b260461168fb8c", func := "astragal/astragallaw03.ShieldShares", spec := "shieldShares", unfollowed := true, recurses := true, named := ["astragal/shield.parents", "math/bits.deBruijn32tab", "math/bits.deBruijn64tab", "astragal/shield.names"], apart := false, laid := [("math/bits.deBruijn32tab", laid_math_bits_deBruijn32tab), ("math/bits.deBruijn64tab", laid_math_bits_deBruijn64tab), ("astragal/shield.names", laid_astragal_shield_names), ("astragal/shield.parents", laid_astragal_shield_parents)] }
def ShieldSharesSaid : Prop := shieldSharesRow.holds Tryd.pinned (OpenSpec.ofChange shieldSharesSpec)

/-- ITS FALSE NEIGHBOUR: 'it returns false'. Refute it at one input. -/
def shieldSharesWrong : ChangeSpec := { name := "shieldShares", fn := fun _ => fun
  | [d1, d2, d3] => { results := [.lit (.bool false)], args := [d1, d2, d3] }
  | _ => none }
def ShieldSharesWrongFalsely : Prop := shieldSharesRow.holds Tryd.pinned (OpenSpec.ofChange shieldSharesWrong)

/-- 'astragallaw03.ShieldCopies': WHATEVER THE INPUT: true; the input reads as it did. -/
def shieldCopiesSpec : ChangeSpec := { name := "shieldCopies", fn := fun _ => fun
  | [d] => { results := [.lit (.bool true)], args := [d] }
  | _ => none }
def shieldCopiesRow : OpenClaim := { program := "ytphnibllfpkkkaadoor", sum := "17aa98f846a53e865f66cc787b0a8bd802bc83333c61485201b260461168fb8c", func := "astragal/astragallaw03.ShieldCopies", spec := "shieldCopies", unfollowed := true, recurses := true, named := ["astragal/shield.parents", "math/bits.deBruijn32tab", "math/bits.deBruijn64tab", "astragal/shield.names"], apart := false, laid := [("math/bits.deBruijn32tab", laid_math_bits_deBruijn32tab), ("math/bits.deBruijn64tab", laid_math_bits_deBruijn64tab), ("astragal/shield.names", laid_astragal_shield_names), ("astragal/shield.parents", laid_astragal_shield_parents)] }
def ShieldCopiesSaid : Prop := shieldCopiesRow.holds Tryd.pinned (OpenSpec.ofChange shieldCopiesSpec)

/-- ITS FALSE NEIGHBOUR: 'it returns false'. Refute it at one input. -/
def shieldCopiesWrong : ChangeSpec := { name := "shieldCopies", fn := fun _ => fun
  | [d] => { results := [.lit (.bool false)], args := [d] }
  | _ => none }
def ShieldCopiesWrongFalsely : Prop := shieldCopiesRow.holds Tryd.pinned (OpenSpec.ofChange shieldCopiesWrong)

/-- 'astragallaw03.ShieldFound': WHATEVER THE INPUT: true; the input reads as it did. -/
def shieldFoundSpec : ChangeSpec := { name := "shieldFound", fn := fun _ => fun
  | [d1, d2] => { results := [.lit (.bool true)], args := [d1, d2] }
  | _ => none }
def shieldFoundRow : OpenClaim := { program := "ytphnibllfpkkkaadoor", sum := "17aa98f846a53e865f66cc787b0a8bd802bc83333c61485201b260461168fb8c", func := "astragal/astragallaw03.ShieldFound", spec := "shieldFound", unfollowed := true, recurses := true, named := ["astragal/shield.parents", "astragal/shield.names", "math/bits.deBruijn32tab", "math/bits.deBruijn64tab"], apart := false, laid := [("math/bits.deBruijn32tab", laid_math_bits_deBruijn32tab), ("math/bits.deBruijn64tab", laid_math_bits_deBruijn64tab), ("astragal/shield.names", laid_astragal_shield_names), ("astragal/shield.parents", laid_astragal_shield_parents)] }
def ShieldFoundSaid : Prop := shieldFoundRow.holds Tryd.pinned (OpenSpec.ofChange shieldFoundSpec)

/-- ITS FALSE NEIGHBOUR: 'it returns false'. Refute it at one input. -/
def shieldFoundWrong : ChangeSpec := { name := "shieldFound", fn := fun _ => fun
  | [d1, d2] => { results := [.lit (.bool false)], args := [d1, d2] }
  | _ => none }
def ShieldFoundWrongFalsely : Prop := shieldFoundRow.holds Tryd.pinned (OpenSpec.ofChange shieldFoundWrong)

/- THE SECOND FORM. 'bulk': how many values and letters a reading holds, each counted each time it is reached (what is shared counts as often as it is met; a slice's spare places count too). A statement '..UptoSaid' is the law's where the arguments, and the package variables that the reading takes, are together of bulk at most 1048576: NARROWER than '..Said'. Prove '..Said' where nothing that the law and all that it calls make is longer than what came in: it says more and counts as full. Else prove '..UptoSaid'. A law counts once. -/
mutual
def uptoBulk {H : Type} : DataW H → Nat
  | .lit (.string bytes) => bytes.length + 1
  | .lit _ => 1
  | .nil => 1
  | .ptr d => uptoBulk d + 1
  | .slice elems spare => uptoBulkAll elems + uptoBulkAll spare + 1
  | .agg parts => uptoBulkAll parts + 1
  | .iface _ d => uptoBulk d + 1
  | .map entries => uptoBulkEntries entries + 1
  | .held _ => 1
def uptoBulkAll {H : Type} : List (DataW H) → Nat
  | [] => 0
  | d :: r => uptoBulk d + uptoBulkAll r
def uptoBulkEntries {H : Type} : List (Lit × DataW H) → Nat
  | [] => 0
  | x :: r => uptoBulkEntry x + uptoBulkEntries r
def uptoBulkEntry {H : Type} : Lit × DataW H → Nat
  | (.string bytes, d) => bytes.length + uptoBulk d + 1
  | (_, d) => uptoBulk d + 1
 end
def uptoSmall : (H : Type) → List (DataW H) → Bool := fun _ ds => decide (uptoBulkAll ds ≤ 1048576)
def OpenSpec.upto (s : _root_.Go.ChangeSpec) : _root_.Go.OpenSpec := { _root_.Go.OpenSpec.ofChange s with cond := some uptoSmall }

/-- 'astragallaw03.ShieldWays', WHERE WHAT IT READS IS OF BULK AT MOST 1048576: true; the input reads as it did. -/
def shieldWaysUptoRow : OpenClaim := { program := "ytphnibllfpkkkaadoor", sum := "17aa98f846a53e865f66cc787b0a8bd802bc83333c61485201b260461168fb8c", func := "astragal/astragallaw03.ShieldWays", spec := "shieldWays", unfollowed := true, recurses := true, named := ["astragal/shield.parents", "astragal/shield.names"], apart := false, laid := [("astragal/shield.names", laid_astragal_shield_names), ("astragal/shield.parents", laid_astragal_shield_parents)], narrowed := true }
def ShieldWaysUptoSaid : Prop := shieldWaysUptoRow.holds Tryd.pinned (OpenSpec.upto shieldWaysSpec)

/-- 'astragallaw03.ShieldDerives', WHERE WHAT IT READS IS OF BULK AT MOST 1048576: true; the input reads as it did. -/
def shieldDerivesUptoRow : OpenClaim := { program := "ytphnibllfpkkkaadoor", sum := "17aa98f846a53e865f66cc787b0a8bd802bc83333c61485201b260461168fb8c", func := "astragal/astragallaw03.ShieldDerives", spec := "shieldDerives", unfollowed := true, recurses := true, named := ["astragal/shield.parents", "astragal/shield.names"], apart := false, laid := [("astragal/shield.names", laid_astragal_shield_names), ("astragal/shield.parents", laid_astragal_shield_parents)], narrowed := true }
def ShieldDerivesUptoSaid : Prop := shieldDerivesUptoRow.holds Tryd.pinned (OpenSpec.upto shieldDerivesSpec)

/-- 'astragallaw03.ShieldPath', WHERE WHAT IT READS IS OF BULK AT MOST 1048576: true; the input reads as it did. -/
def shieldPathUptoRow : OpenClaim := { program := "ytphnibllfpkkkaadoor", sum := "17aa98f846a53e865f66cc787b0a8bd802bc83333c61485201b260461168fb8c", func := "astragal/astragallaw03.ShieldPath", spec := "shieldPath", unfollowed := true, recurses := true, named := ["astragal/shield.parents", "astragal/shield.names"], apart := false, laid := [("astragal/shield.names", laid_astragal_shield_names), ("astragal/shield.parents", laid_astragal_shield_parents)], narrowed := true }
def ShieldPathUptoSaid : Prop := shieldPathUptoRow.holds Tryd.pinned (OpenSpec.upto shieldPathSpec)

/-- 'astragallaw03.ShieldFigures', WHERE WHAT IT READS IS OF BULK AT MOST 1048576: true; the input reads as it did. -/
def shieldFiguresUptoRow : OpenClaim := { program := "ytphnibllfpkkkaadoor", sum := "17aa98f846a53e865f66cc787b0a8bd802bc83333c61485201b260461168fb8c", func := "astragal/astragallaw03.ShieldFigures", spec := "shieldFigures", unfollowed := true, recurses := true, named := ["astragal/shield.names", "astragal/shield.parents"], apart := false, laid := [("astragal/shield.names", laid_astragal_shield_names), ("astragal/shield.parents", laid_astragal_shield_parents)], narrowed := true }
def ShieldFiguresUptoSaid : Prop := shieldFiguresUptoRow.holds Tryd.pinned (OpenSpec.upto shieldFiguresSpec)

/-- 'astragallaw03.ShieldCasts', WHERE WHAT IT READS IS OF BULK AT MOST 1048576: true; the input reads as it did. -/
def shieldCastsUptoRow : OpenClaim := { program := "ytphnibllfpkkkaadoor", sum := "17aa98f846a53e865f66cc787b0a8bd802bc83333c61485201b260461168fb8c", func := "astragal/astragallaw03.ShieldCasts", spec := "shieldCasts", unfollowed := true, recurses := true, named := ["astragal/shield.parents", "astragal/shield.names"], apart := false, laid := [("astragal/shield.names", laid_astragal_shield_names), ("astragal/shield.parents", laid_astragal_shield_parents)], narrowed := true }
def ShieldCastsUptoSaid : Prop := shieldCastsUptoRow.holds Tryd.pinned (OpenSpec.upto shieldCastsSpec)

/-- 'astragallaw03.ShieldIdentities', WHERE WHAT IT READS IS OF BULK AT MOST 1048576: true; the input reads as it did. -/
def shieldIdentitiesUptoRow : OpenClaim := { program := "ytphnibllfpkkkaadoor", sum := "17aa98f846a53e865f66cc787b0a8bd802bc83333c61485201b260461168fb8c", func := "astragal/astragallaw03.ShieldIdentities", spec := "shieldIdentities", unfollowed := true, recurses := true, named := ["astragal/shield.parents", "astragal/shield.names"], apart := false, laid := [("astragal/shield.names", laid_astragal_shield_names), ("astragal/shield.parents", laid_astragal_shield_parents)], narrowed := true }
def ShieldIdentitiesUptoSaid : Prop := shieldIdentitiesUptoRow.holds Tryd.pinned (OpenSpec.upto shieldIdentitiesSpec)

/-- 'astragallaw03.ShieldNames', WHERE WHAT IT READS IS OF BULK AT MOST 1048576: true; the input reads as it did. -/
def shieldNamesUptoRow : OpenClaim := { program := "ytphnibllfpkkkaadoor", sum := "17aa98f846a53e865f66cc787b0a8bd802bc83333c61485201b260461168fb8c", func := "astragal/astragallaw03.ShieldNames", spec := "shieldNames", unfollowed := true, recurses := true, named := ["astragal/shield.parents", "astragal/shield.names"], apart := false, laid := [("astragal/shield.names", laid_astragal_shield_names), ("astragal/shield.parents", laid_astragal_shield_parents)], narrowed := true }
def ShieldNamesUptoSaid : Prop := shieldNamesUptoRow.holds Tryd.pinned (OpenSpec.upto shieldNamesSpec)

/-- 'astragallaw03.ShieldGroup', WHERE WHAT IT READS IS OF BULK AT MOST 1048576: true; the input reads as it did. -/
def shieldGroupUptoRow : OpenClaim := { program := "ytphnibllfpkkkaadoor", sum := "17aa98f846a53e865f66cc787b0a8bd802bc83333c61485201b260461168fb8c", func := "astragal/astragallaw03.ShieldGroup", spec := "shieldGroup", unfollowed := true, recurses := true, named := ["astragal/shield.names", "astragal/shield.parents"], apart := false, laid := [("astragal/shield.names", laid_astragal_shield_names), ("astragal/shield.parents", laid_astragal_shield_parents)], narrowed := true }
def ShieldGroupUptoSaid : Prop := shieldGroupUptoRow.holds Tryd.pinned (OpenSpec.upto shieldGroupSpec)

/-- 'astragallaw03.ShieldCounts', WHERE WHAT IT READS IS OF BULK AT MOST 1048576: true; the input reads as it did. -/
def shieldCountsUptoRow : OpenClaim := { program := "ytphnibllfpkkkaadoor", sum := "17aa98f846a53e865f66cc787b0a8bd802bc83333c61485201b260461168fb8c", func := "astragal/astragallaw03.ShieldCounts", spec := "shieldCounts", unfollowed := true, recurses := true, named := ["astragal/shield.parents", "math/bits.deBruijn32tab", "math/bits.deBruijn64tab", "astragal/shield.names"], apart := false, laid := [("math/bits.deBruijn32tab", laid_math_bits_deBruijn32tab), ("math/bits.deBruijn64tab", laid_math_bits_deBruijn64tab), ("astragal/shield.names", laid_astragal_shield_names), ("astragal/shield.parents", laid_astragal_shield_parents)], narrowed := true }
def ShieldCountsUptoSaid : Prop := shieldCountsUptoRow.holds Tryd.pinned (OpenSpec.upto shieldCountsSpec)

/-- 'astragallaw03.ShieldShares', WHERE WHAT IT READS IS OF BULK AT MOST 1048576: true; the input reads as it did. -/
def shieldSharesUptoRow : OpenClaim := { program := "ytphnibllfpkkkaadoor", sum := "17aa98f846a53e865f66cc787b0a8bd802bc83333c61485201b260461168fb8c", func := "astragal/astragallaw03.ShieldShares", spec := "shieldShares", unfollowed := true, recurses := true, named := ["astragal/shield.parents", "math/bits.deBruijn32tab", "math/bits.deBruijn64tab", "astragal/shield.names"], apart := false, laid := [("math/bits.deBruijn32tab", laid_math_bits_deBruijn32tab), ("math/bits.deBruijn64tab", laid_math_bits_deBruijn64tab), ("astragal/shield.names", laid_astragal_shield_names), ("astragal/shield.parents", laid_astragal_shield_parents)], narrowed := true }
def ShieldSharesUptoSaid : Prop := shieldSharesUptoRow.holds Tryd.pinned (OpenSpec.upto shieldSharesSpec)

/-- 'astragallaw03.ShieldCopies', WHERE WHAT IT READS IS OF BULK AT MOST 1048576: true; the input reads as it did. -/
def shieldCopiesUptoRow : OpenClaim := { program := "ytphnibllfpkkkaadoor", sum := "17aa98f846a53e865f66cc787b0a8bd802bc83333c61485201b260461168fb8c", func := "astragal/astragallaw03.ShieldCopies", spec := "shieldCopies", unfollowed := true, recurses := true, named := ["astragal/shield.parents", "math/bits.deBruijn32tab", "math/bits.deBruijn64tab", "astragal/shield.names"], apart := false, laid := [("math/bits.deBruijn32tab", laid_math_bits_deBruijn32tab), ("math/bits.deBruijn64tab", laid_math_bits_deBruijn64tab), ("astragal/shield.names", laid_astragal_shield_names), ("astragal/shield.parents", laid_astragal_shield_parents)], narrowed := true }
def ShieldCopiesUptoSaid : Prop := shieldCopiesUptoRow.holds Tryd.pinned (OpenSpec.upto shieldCopiesSpec)

/-- 'astragallaw03.ShieldFound', WHERE WHAT IT READS IS OF BULK AT MOST 1048576: true; the input reads as it did. -/
def shieldFoundUptoRow : OpenClaim := { program := "ytphnibllfpkkkaadoor", sum := "17aa98f846a53e865f66cc787b0a8bd802bc83333c61485201b260461168fb8c", func := "astragal/astragallaw03.ShieldFound", spec := "shieldFound", unfollowed := true, recurses := true, named := ["astragal/shield.parents", "astragal/shield.names", "math/bits.deBruijn32tab", "math/bits.deBruijn64tab"], apart := false, laid := [("math/bits.deBruijn32tab", laid_math_bits_deBruijn32tab), ("math/bits.deBruijn64tab", laid_math_bits_deBruijn64tab), ("astragal/shield.names", laid_astragal_shield_names), ("astragal/shield.parents", laid_astragal_shield_parents)], narrowed := true }
def ShieldFoundUptoSaid : Prop := shieldFoundUptoRow.holds Tryd.pinned (OpenSpec.upto shieldFoundSpec)

end Rows
end Go.Proofs.YtphnibllfpkkkaaDoor
