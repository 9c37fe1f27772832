/- The plain law of hands: valid hands, the branches of a state. -/
import Derived.Test.YtmjnelkeiogdcaaHS
namespace Go.Proofs.Ytmjnelkeiogdcaa
open Go
set_option maxRecDepth 100000

/-- A hand whose numbers are not negative (but for the bounds of marks, which another kind may have). -/
structure HV where
  kind : Nat
  count : Nat
  faces : List (Nat × Nat)
  lowI : Int
  highI : Int
  group : Nat
  changes : Nat
  cards : List Nat
def HV.low (H : HV) : Nat := H.lowI.toNat
def HV.high (H : HV) : Nat := H.highI.toNat
/-- How many stalks of a heap are laid aside. -/
def asideN (heap group : Nat) : Nat := (heap - 1) % group + 1
def leftN (group n heap : Nat) : Nat := n - 1 - asideN heap group - asideN (n - heap - 1) group
/-- The runs of choices of a state, and where they lead. -/
def brs (H : HV) : St → List (Nat × St)
  | .thrown l s => if l = 0 then [] else H.faces.map fun f => (f.2, .thrown (l - 1) (s + f.1))
  | .marked m => if m = 0 then (List.range (H.high + 1 - H.low)).map fun i => (1, .marked (H.low + i)) else []
  | .divided l n => if l = 0 then [] else (List.range (n - 2)).map fun i => (1, .divided (l - 1) (leftN H.group n (i + 1)))
  | .drawn l g k => if l = 0 then [] else ((List.range H.cards.length).filter fun i => !g.testBit i).map fun i => (1, .drawn (l - 1) (g ||| 2 ^ i) (k * 8 + H.cards.getD i 0))
  | .cut k => if 0 ≤ k then [] else H.cards.map fun c => (1, .cut ((c : Nat) : Int))
def outN (H : HV) : St → Int
  | .thrown _ s => s
  | .marked m => ((m % 2 : Nat) : Int)
  | .divided _ n => ((n / H.group : Nat) : Int)
  | .drawn _ _ k => k
  | .cut k => k
/-- States that fit into the numbers of the hand. -/
def Fit0 (H : HV) : St → Prop
  | .thrown l s => l ≤ 8 ∧ s + 40 * l ≤ 1000 ∧ H.faces.length ≤ 20 ∧ ∀ f ∈ H.faces, f.1 ≤ 40 ∧ f.2 ≤ 1000
  | .marked m => m ≤ 1000 ∧ 1 ≤ H.low ∧ H.high ≤ 1000
  | .divided l n => l ≤ 5 ∧ n ≤ 64 ∧ 2 ≤ H.group ∧ H.group ≤ 8
  | .drawn l g k => l ≤ 4 ∧ g < 2 ^ 20 ∧ k < 8 ^ (5 - l) ∧ H.cards.length ≤ 20 ∧ ∀ c ∈ H.cards, c < 8
  | .cut k => -1 ≤ k ∧ k < 8 ∧ H.cards.length ≤ 20 ∧ ∀ c ∈ H.cards, c < 8
/-- .. and into its kind. -/
def KindOk (H : HV) : St → Prop
  | .thrown _ _ => H.kind = 1
  | .marked _ => H.lowI = ((H.low : Nat) : Int) ∧ H.highI = ((H.high : Nat) : Int)
  | .divided _ _ => True
  | .drawn _ _ _ => H.kind = 4
  | .cut _ => H.kind = 5
/-- States that fit into the hand. -/
def Fit (H : HV) (s : St) : Prop := Fit0 H s ∧ KindOk H s
end Go.Proofs.Ytmjnelkeiogdcaa
