/- The states of a course: how they lie in interface values, and how two of them are compared. -/
import Derived.Test.YtmjnelkeiogdcaaProg
import Derived.Laws.StructEq
import Derived.WalkKit
import Derived.WalkArith
import Derived.Maps.RangeRun
import Derived.Maps.OwnIn
set_option linter.unusedSimpArgs false
set_option linter.unusedVariables false
namespace Go.Proofs.Ytmjnelkeiogdcaa
open Go Go.RowKit
set_option maxRecDepth 100000

/-- Where a course is. -/
inductive St where
  | thrown (left sum : Nat)
  | marked (marks : Nat)
  | divided (left stalks : Nat)
  | drawn (left gone number : Nat)
  | cut (kind : Int)
  deriving DecidableEq, Inhabited
def encT : St → TypeId
  | .thrown _ _ => 98
  | .marked _ => 100
  | .divided _ _ => 102
  | .drawn _ _ _ => 105
  | .cut _ => 107
def encA : St → Array Value
  | .thrown l s => #[.int .i64 ((l : Nat) : Int), .int .i64 ((s : Nat) : Int)]
  | .marked m => #[.int .i64 ((m : Nat) : Int)]
  | .divided l n => #[.int .i64 ((l : Nat) : Int), .int .i64 ((n : Nat) : Int)]
  | .drawn l g k => #[.int .i64 ((l : Nat) : Int), .int .u32 ((g : Nat) : Int), .int .i64 ((k : Nat) : Int)]
  | .cut k => #[.int .i64 k]
def encS (s : St) : Value := .iface (encT s) (.agg (encA s))

theorem inat (a b : Nat) : (((a : Nat) : Int) == ((b : Nat) : Int)) = decide (a = b) := by
  by_cases h : a = b
  · subst h; simp
  · rw [decide_eq_false h]; simp; omega
theorem eqS_ne {s t : St} (h : encT s ≠ encT t) (w : World) (d : Nat) : (Op.equalIn (d + 1) 71 (encS s) (encS t)).run Try.prog w = .ok false w := by
  unfold encS
  simp [Op.equalIn, run_underlying Try.underlying71, h]
theorem eqS_in {t : TypeId} {x y : Array Value} {w : World} {r : Bool} {d : Nat} (hc : (Try.prog.info? t).map (·.comparable) = some true)
    (hS : Try.prog.underlying t = some (.struct (Try.prog.fieldsOf t))) (hp : Try.prog.stoodInHeld t = false) (h : (Op.eqFields d x y (Try.prog.fieldsOf t).toList).run Try.prog w = .ok r w) :
    (Op.equalIn (d + 1 + 1) 71 (.iface t (.agg x)) (.iface t (.agg y))).run Try.prog w = .ok r w := by
  cases hi : Try.prog.info? t with
  | none => simp [hi] at hc
  | some i =>
    have hcc : i.comparable = true := by simpa [hi] using hc
    rw [Op.equalIn]
    simp [run_underlying Try.underlying71, typeInfo, hi, hcc]
    rw [run_equalIn_struct w d t x y hS hp, h]
theorem eqS_thrown (a b a' b' : Nat) (w : World) (d : Nat) : (Op.eqFields (d + 1) #[.int .i64 ((a : Nat) : Int), .int .i64 ((b : Nat) : Int)] #[.int .i64 ((a' : Nat) : Int), .int .i64 ((b' : Nat) : Int)] (Try.prog.fieldsOf 98).toList).run Try.prog w = .ok (decide (a = a') && decide (b = b')) w := by
  have u3 := Try.underlying3
  have a3 := Try.isAgg3
  have z3 := Try.sizeOf3
  simp only [Program.fieldsOf, Try.underlying98]
  go_simp
  try simp only [inat]
  by_cases h1 : a = a' <;> by_cases h2 : b = b' <;> simp [h1, h2] <;> omega
theorem eqS_divided (a b a' b' : Nat) (w : World) (d : Nat) : (Op.eqFields (d + 1) #[.int .i64 ((a : Nat) : Int), .int .i64 ((b : Nat) : Int)] #[.int .i64 ((a' : Nat) : Int), .int .i64 ((b' : Nat) : Int)] (Try.prog.fieldsOf 102).toList).run Try.prog w = .ok (decide (a = a') && decide (b = b')) w := by
  have u3 := Try.underlying3
  have a3 := Try.isAgg3
  have z3 := Try.sizeOf3
  simp only [Program.fieldsOf, Try.underlying102]
  go_simp
  try simp only [inat]
  by_cases h1 : a = a' <;> by_cases h2 : b = b' <;> simp [h1, h2] <;> omega
theorem eqS_marked (a a' : Nat) (w : World) (d : Nat) : (Op.eqFields (d + 1) #[.int .i64 ((a : Nat) : Int)] #[.int .i64 ((a' : Nat) : Int)] (Try.prog.fieldsOf 100).toList).run Try.prog w = .ok (decide (a = a')) w := by
  have u3 := Try.underlying3
  have a3 := Try.isAgg3
  have z3 := Try.sizeOf3
  simp only [Program.fieldsOf, Try.underlying100]
  go_simp
  try simp only [inat]
  by_cases h1 : a = a' <;> simp [h1] <;> omega
theorem eqS_cut (a a' : Int) (w : World) (d : Nat) : (Op.eqFields (d + 1) #[.int .i64 a] #[.int .i64 a'] (Try.prog.fieldsOf 107).toList).run Try.prog w = .ok (decide (a = a')) w := by
  have u3 := Try.underlying3
  have a3 := Try.isAgg3
  have z3 := Try.sizeOf3
  simp only [Program.fieldsOf, Try.underlying107]
  go_simp
  by_cases h1 : a = a' <;> simp [h1]
theorem eqS_drawn (a b c a' b' c' : Nat) (w : World) (d : Nat) : (Op.eqFields (d + 1) #[.int .i64 ((a : Nat) : Int), .int .u32 ((b : Nat) : Int), .int .i64 ((c : Nat) : Int)] #[.int .i64 ((a' : Nat) : Int), .int .u32 ((b' : Nat) : Int), .int .i64 ((c' : Nat) : Int)] (Try.prog.fieldsOf 105).toList).run Try.prog w = .ok (decide (a = a') && (decide (b = b') && decide (c = c'))) w := by
  have u3 := Try.underlying3
  have a3 := Try.isAgg3
  have z3 := Try.sizeOf3
  have u4 := Try.underlying103
  have a4 := Try.isAgg103
  have z4 := Try.sizeOf103
  simp only [Program.fieldsOf, Try.underlying105]
  go_simp
  try simp only [inat]
  by_cases h1 : a = a' <;> by_cases h2 : b = b' <;> by_cases h3 : c = c' <;> simp [h1, h2, h3] <;> omega
theorem run_eqS (s t : St) (w : World) : (Op.equal 71 (encS s) (encS t)).run Try.prog w = .ok (decide (s = t)) w := by
  unfold Op.equal Op.maxDepth
  by_cases h : encT s = encT t
  · cases s <;> cases t
    all_goals try (exfalso; simp [encT] at h; done)
    · rename_i a b a' b'
      rw [show (decide (St.thrown a b = St.thrown a' b')) = (decide (a = a') && decide (b = b')) by simp]
      exact eqS_in (by kernel_rfl) (by kernel_rfl) (by kernel_rfl) (eqS_thrown a b a' b' w _)
    · rename_i a a'
      rw [show (decide (St.marked a = St.marked a')) = decide (a = a') by simp]
      exact eqS_in (by kernel_rfl) (by kernel_rfl) (by kernel_rfl) (eqS_marked a a' w _)
    · rename_i a b a' b'
      rw [show (decide (St.divided a b = St.divided a' b')) = (decide (a = a') && decide (b = b')) by simp]
      exact eqS_in (by kernel_rfl) (by kernel_rfl) (by kernel_rfl) (eqS_divided a b a' b' w _)
    · rename_i a b c a' b' c'
      rw [show (decide (St.drawn a b c = St.drawn a' b' c')) = (decide (a = a') && (decide (b = b') && decide (c = c'))) by simp]
      exact eqS_in (by kernel_rfl) (by kernel_rfl) (by kernel_rfl) (eqS_drawn a b c a' b' c' w _)
    · rename_i a a'
      rw [show (decide (St.cut a = St.cut a')) = decide (a = a') by simp]
      exact eqS_in (by kernel_rfl) (by kernel_rfl) (by kernel_rfl) (eqS_cut a a' w _)
  · rw [eqS_ne h]
    have : s ≠ t := fun e => h (by rw [e])
    simp [this]
/-- A key of these maps is taken. -/
theorem checkS_thrown (a b : Nat) (em : Bool) (w : World) (d : Nat) : (Instr.checkKey em (d + 1 + 1 + 1) 71 (encS (.thrown a b))).run Try.prog w = .ok () w := by
  have u3 := Try.underlying3
  have a3 := Try.isAgg3
  have z3 := Try.sizeOf3
  obtain ⟨i1, e1, d1⟩ := Option.map_eq_some_iff.1 (show (Try.prog.info? 98).map (·.comparable) = some true by kernel_rfl)
  rw [Instr.checkKey]
  simp only [encS, encT, encA, Sem.run_bind, run_underlying Try.underlying71, Result.andThen_ok, typeInfo, e1, d1]
  rw [Instr.checkKey]
  simp only [Sem.run_bind, run_underlying Try.underlying98, Result.andThen_ok]
  go_simp
  simp [Instr.checkKey, run_underlying u3]
theorem checkS_marked (a : Nat) (em : Bool) (w : World) (d : Nat) : (Instr.checkKey em (d + 1 + 1 + 1) 71 (encS (.marked a))).run Try.prog w = .ok () w := by
  have u3 := Try.underlying3
  have a3 := Try.isAgg3
  have z3 := Try.sizeOf3
  obtain ⟨i1, e1, d1⟩ := Option.map_eq_some_iff.1 (show (Try.prog.info? 100).map (·.comparable) = some true by kernel_rfl)
  rw [Instr.checkKey]
  simp only [encS, encT, encA, Sem.run_bind, run_underlying Try.underlying71, Result.andThen_ok, typeInfo, e1, d1]
  rw [Instr.checkKey]
  simp only [Sem.run_bind, run_underlying Try.underlying100, Result.andThen_ok]
  go_simp
  simp [Instr.checkKey, run_underlying u3]
theorem checkS_divided (a b : Nat) (em : Bool) (w : World) (d : Nat) : (Instr.checkKey em (d + 1 + 1 + 1) 71 (encS (.divided a b))).run Try.prog w = .ok () w := by
  have u3 := Try.underlying3
  have a3 := Try.isAgg3
  have z3 := Try.sizeOf3
  obtain ⟨i1, e1, d1⟩ := Option.map_eq_some_iff.1 (show (Try.prog.info? 102).map (·.comparable) = some true by kernel_rfl)
  rw [Instr.checkKey]
  simp only [encS, encT, encA, Sem.run_bind, run_underlying Try.underlying71, Result.andThen_ok, typeInfo, e1, d1]
  rw [Instr.checkKey]
  simp only [Sem.run_bind, run_underlying Try.underlying102, Result.andThen_ok]
  go_simp
  simp [Instr.checkKey, run_underlying u3]
theorem checkS_drawn (a b c : Nat) (em : Bool) (w : World) (d : Nat) : (Instr.checkKey em (d + 1 + 1 + 1) 71 (encS (.drawn a b c))).run Try.prog w = .ok () w := by
  have u3 := Try.underlying3
  have a3 := Try.isAgg3
  have z3 := Try.sizeOf3
  have u4 := Try.underlying103
  have a4 := Try.isAgg103
  have z4 := Try.sizeOf103
  obtain ⟨i1, e1, d1⟩ := Option.map_eq_some_iff.1 (show (Try.prog.info? 105).map (·.comparable) = some true by kernel_rfl)
  rw [Instr.checkKey]
  simp only [encS, encT, encA, Sem.run_bind, run_underlying Try.underlying71, Result.andThen_ok, typeInfo, e1, d1]
  rw [Instr.checkKey]
  simp only [Sem.run_bind, run_underlying Try.underlying105, Result.andThen_ok]
  go_simp
  simp [Instr.checkKey, run_underlying u3, run_underlying u4]
theorem checkS_cut (a : Int) (em : Bool) (w : World) (d : Nat) : (Instr.checkKey em (d + 1 + 1 + 1) 71 (encS (.cut a))).run Try.prog w = .ok () w := by
  have u3 := Try.underlying3
  have a3 := Try.isAgg3
  have z3 := Try.sizeOf3
  obtain ⟨i1, e1, d1⟩ := Option.map_eq_some_iff.1 (show (Try.prog.info? 107).map (·.comparable) = some true by kernel_rfl)
  rw [Instr.checkKey]
  simp only [encS, encT, encA, Sem.run_bind, run_underlying Try.underlying71, Result.andThen_ok, typeInfo, e1, d1]
  rw [Instr.checkKey]
  simp only [Sem.run_bind, run_underlying Try.underlying107, Result.andThen_ok]
  go_simp
  simp [Instr.checkKey, run_underlying u3]
theorem run_checkS (s : St) (em : Bool) (w : World) : (Instr.checkKey em 10000 71 (encS s)).run Try.prog w = .ok () w := by
  cases s
  · exact checkS_thrown _ _ em w 9997
  · exact checkS_marked _ em w 9997
  · exact checkS_divided _ _ em w 9997
  · exact checkS_drawn _ _ _ em w 9997
  · exact checkS_cut _ em w 9997
theorem sameS (s : St) : Instr.sameBits 10000 (encS s) (encS s) = true := by
  cases s <;> simp [encS, encT, encA, Instr.sameBits]
end Go.Proofs.Ytmjnelkeiogdcaa
/- The plain law of hands: valid hands, the branches of a state. -/
namespace Go.Proofs.Ytmjnelkeiogdcaa
open Go
set_option maxRecDepth 100000

/-- A hand whose numbers are not negative (but for the bounds of marks, which another kind may have). -/
structure HV where
  kind : Nat
  count : Nat
  faces : List (Nat × Nat)
  lowI : Int
  highI : Int
  group : Nat
  changes : Nat
  cards : List Nat
def HV.low (H : HV) : Nat := H.lowI.toNat
def HV.high (H : HV) : Nat := H.highI.toNat
/-- How many stalks of a heap are laid aside. -/
def asideN (heap group : Nat) : Nat := (heap - 1) % group + 1
def leftN (group n heap : Nat) : Nat := n - 1 - asideN heap group - asideN (n - heap - 1) group
/-- The runs of choices of a state, and where they lead. -/
def brs (H : HV) : St → List (Nat × St)
  | .thrown l s => if l = 0 then [] else H.faces.map fun f => (f.2, .thrown (l - 1) (s + f.1))
  | .marked m => if m = 0 then (List.range (H.high + 1 - H.low)).map fun i => (1, .marked (H.low + i)) else []
  | .divided l n => if l = 0 then [] else (List.range (n - 2)).map fun i => (1, .divided (l - 1) (leftN H.group n (i + 1)))
  | .drawn l g k => if l = 0 then [] else ((List.range H.cards.length).filter fun i => !g.testBit i).map fun i => (1, .drawn (l - 1) (g ||| 2 ^ i) (k * 8 + H.cards.getD i 0))
  | .cut k => if 0 ≤ k then [] else H.cards.map fun c => (1, .cut ((c : Nat) : Int))
def outN (H : HV) : St → Int
  | .thrown _ s => s
  | .marked m => ((m % 2 : Nat) : Int)
  | .divided _ n => ((n / H.group : Nat) : Int)
  | .drawn _ _ k => k
  | .cut k => k
/-- States that fit into the numbers of the hand. -/
def Fit0 (H : HV) : St → Prop
  | .thrown l s => l ≤ 8 ∧ s + 40 * l ≤ 1000 ∧ H.faces.length ≤ 20 ∧ ∀ f ∈ H.faces, f.1 ≤ 40 ∧ f.2 ≤ 1000
  | .marked m => m ≤ 1000 ∧ 1 ≤ H.low ∧ H.high ≤ 1000
  | .divided l n => l ≤ 5 ∧ n ≤ 64 ∧ 2 ≤ H.group ∧ H.group ≤ 8
  | .drawn l g k => l ≤ 4 ∧ g < 2 ^ 20 ∧ k < 8 ^ (5 - l) ∧ H.cards.length ≤ 20 ∧ ∀ c ∈ H.cards, c < 8
  | .cut k => -1 ≤ k ∧ k < 8 ∧ H.cards.length ≤ 20 ∧ ∀ c ∈ H.cards, c < 8
/-- .. and into its kind. -/
def KindOk (H : HV) : St → Prop
  | .thrown _ _ => H.kind = 1
  | .marked _ => H.lowI = ((H.low : Nat) : Int) ∧ H.highI = ((H.high : Nat) : Int)
  | .divided _ _ => True
  | .drawn _ _ _ => H.kind = 4
  | .cut _ => H.kind = 5
/-- States that fit into the hand. -/
def Fit (H : HV) (s : St) : Prop := Fit0 H s ∧ KindOk H s
end Go.Proofs.Ytmjnelkeiogdcaa
/- The plain law of hands: states that follow fit, and come nearer to the end. -/
namespace Go.Proofs.Ytmjnelkeiogdcaa
open Go
set_option maxRecDepth 100000

/-- How many steps there are left at most. -/
def dep : St → Nat
  | .thrown l _ => l
  | .marked m => if m = 0 then 1 else 0
  | .divided l _ => l
  | .drawn l _ _ => l
  | .cut k => if 0 ≤ k then 0 else 1
theorem leftN_le (g n i : Nat) : leftN g n i ≤ n := by unfold leftN; omega
theorem step_fit (H : HV) (s : St) (hF : Fit H s) (x : Nat × St) (hx : x ∈ brs H s) : Fit H x.2 ∧ dep x.2 + 1 = dep s := by
  cases s with
  | thrown l k =>
    have hK := hF.2
    obtain ⟨h1, h2, h3, h4⟩ := hF.1
    simp only [brs] at hx
    split at hx
    · cases hx
    · obtain ⟨f, hf, rfl⟩ := List.mem_map.1 hx
      have := (h4 f hf).1
      exact ⟨⟨⟨by omega, by omega, h3, h4⟩, hK⟩, by simp only [dep]; omega⟩
  | marked m =>
    have hK := hF.2
    obtain ⟨h1, h2, h3⟩ := hF.1
    simp only [brs] at hx
    split at hx
    · rename_i h0
      obtain ⟨i, hi, rfl⟩ := List.mem_map.1 hx
      rw [List.mem_range] at hi
      refine ⟨⟨⟨by omega, h2, h3⟩, hK⟩, ?_⟩
      simp only [dep]
      rw [if_neg (by omega), if_pos h0]
    · cases hx
  | divided l k =>
    have hK := hF.2
    obtain ⟨h1, h2, h3, h4⟩ := hF.1
    simp only [brs] at hx
    split at hx
    · cases hx
    · obtain ⟨i, _, rfl⟩ := List.mem_map.1 hx
      have := leftN_le H.group k (i + 1)
      exact ⟨⟨⟨by omega, by omega, h3, h4⟩, hK⟩, by simp only [dep]; omega⟩
  | drawn l g k =>
    have hK := hF.2
    obtain ⟨h1, h2, h3, h4, h5⟩ := hF.1
    simp only [brs] at hx
    split at hx
    · cases hx
    · obtain ⟨i, hi, rfl⟩ := List.mem_map.1 hx
      have hi' : i < H.cards.length := List.mem_range.1 (List.mem_filter.1 hi).1
      have hc : H.cards.getD i 0 < 8 := by
        simp only [List.getD_eq_getElem?_getD, List.getElem?_eq_getElem hi', Option.getD_some]
        exact h5 _ (List.getElem_mem hi')
      refine ⟨⟨⟨by omega, Nat.or_lt_two_pow h2 (Nat.pow_lt_pow_right (by omega) (by omega)), ?_, h4, h5⟩, hK⟩, by simp only [dep]; omega⟩
      have e : 5 - (l - 1) = (5 - l) + 1 := by omega
      rw [e, Nat.pow_succ]
      omega
  | cut k =>
    have hK := hF.2
    obtain ⟨h1, h2, h3, h4⟩ := hF.1
    simp only [brs] at hx
    split at hx
    · cases hx
    · rename_i h
      obtain ⟨c, hc, rfl⟩ := List.mem_map.1 hx
      have := h4 c hc
      refine ⟨⟨⟨by omega, by omega, h3, h4⟩, hK⟩, ?_⟩
      simp only [dep]
      rw [if_pos (by omega), if_neg h]
/-- The states that are reached in k steps. -/
def Reach (H : HV) (s0 : St) : Nat → St → Prop
  | 0, s => s = s0
  | k + 1, t => ∃ s, Reach H s0 k s ∧ ∃ w, (w, t) ∈ brs H s
theorem reach_fit (H : HV) (s0 : St) (h0 : Fit H s0) : ∀ k s, Reach H s0 k s → Fit H s ∧ dep s + k = dep s0
  | 0, s, h => by
    have e : s = s0 := h
    subst e
    exact ⟨h0, rfl⟩
  | k + 1, t, ⟨s, hs, w, hw⟩ => by
    obtain ⟨h1, h2⟩ := reach_fit H s0 h0 k s hs
    obtain ⟨h3, h4⟩ := step_fit H s h1 (w, t) hw
    exact ⟨h3, by simp only at h4; omega⟩
/-- What a layer of the courses holds. -/
def LayerL (H : HV) (s0 : St) (k : Nat) (L : List (St × Int)) : Prop :=
  (L.map Prod.fst).Nodup ∧ (∀ s, s ∈ L.map Prod.fst ↔ Reach H s0 k s) ∧ ∀ p ∈ L, p.2 = (((brs H p.1).map Prod.fst).sum : Nat)
end Go.Proofs.Ytmjnelkeiogdcaa
