/- The states of a course: how they lie in interface values, and how two of them are compared. -/
import Derived.Test.YtmjnelkeiogdcaaProg
import Derived.Laws.StructEq
import Derived.WalkKit
import Derived.WalkArith
import Derived.Maps.RangeRun
import Derived.Maps.OwnIn
namespace Go.Proofs.Ytmjnelkeiogdcaa
open Go Go.RowKit
set_option maxRecDepth 100000

/-- Where a course is. -/
inductive St where
  | thrown (left sum : Nat)
  | marked (marks : Nat)
  | divided (left stalks : Nat)
  | drawn (left gone number : Nat)
  | cut (kind : Int)
  deriving DecidableEq, Inhabited
def encT : St → TypeId
  | .thrown _ _ => 98
  | .marked _ => 100
  | .divided _ _ => 102
  | .drawn _ _ _ => 105
  | .cut _ => 107
def encA : St → Array Value
  | .thrown l s => #[.int .i64 ((l : Nat) : Int), .int .i64 ((s : Nat) : Int)]
  | .marked m => #[.int .i64 ((m : Nat) : Int)]
  | .divided l n => #[.int .i64 ((l : Nat) : Int), .int .i64 ((n : Nat) : Int)]
  | .drawn l g k => #[.int .i64 ((l : Nat) : Int), .int .u32 ((g : Nat) : Int), .int .i64 ((k : Nat) : Int)]
  | .cut k => #[.int .i64 k]
def encS (s : St) : Value := .iface (encT s) (.agg (encA s))

theorem inat (a b : Nat) : (((a : Nat) : Int) == ((b : Nat) : Int)) = decide (a = b) := by
  by_cases h : a = b
  · subst h; simp
  · rw [decide_eq_false h]; simp; omega
theorem eqS_ne {s t : St} (h : encT s ≠ encT t) (w : World) (d : Nat) : (Op.equalIn (d + 1) 71 (encS s) (encS t)).run Try.prog w = .ok false w := by
  unfold encS
  simp [Op.equalIn, run_underlying Try.underlying71, h]
theorem eqS_in {t : TypeId} {x y : Array Value} {w : World} {r : Bool} {d : Nat} (hc : (Try.prog.info? t).map (·.comparable) = some true)
    (hS : Try.prog.underlying t = some (.struct (Try.prog.fieldsOf t))) (hp : Try.prog.stoodInHeld t = false) (h : (Op.eqFields d x y (Try.prog.fieldsOf t).toList).run Try.prog w = .ok r w) :
    (Op.equalIn (d + 1 + 1) 71 (.iface t (.agg x)) (.iface t (.agg y))).run Try.prog w = .ok r w := by
  cases hi : Try.prog.info? t with
  | none => simp [hi] at hc
  | some i =>
    have hcc : i.comparable = true := by simpa [hi] using hc
    rw [Op.equalIn]
    simp [run_underlying Try.underlying71, typeInfo, hi, hcc]
    rw [run_equalIn_struct w d t x y hS hp, h]
theorem eqS_thrown (a b a' b' : Nat) (w : World) (d : Nat) : (Op.eqFields (d + 1) #[.int .i64 ((a : Nat) : Int), .int .i64 ((b : Nat) : Int)] #[.int .i64 ((a' : Nat) : Int), .int .i64 ((b' : Nat) : Int)] (Try.prog.fieldsOf 98).toList).run Try.prog w = .ok (decide (a = a') && decide (b = b')) w := by
  have u3 := Try.underlying3
  have a3 := Try.isAgg3
  have z3 := Try.sizeOf3
  simp only [Program.fieldsOf, Try.underlying98]
  go_simp
  try simp only [inat]
  by_cases h1 : a = a' <;> by_cases h2 : b = b' <;> simp [h1, h2] <;> omega
theorem eqS_divided (a b a' b' : Nat) (w : World) (d : Nat) : (Op.eqFields (d + 1) #[.int .i64 ((a : Nat) : Int), .int .i64 ((b : Nat) : Int)] #[.int .i64 ((a' : Nat) : Int), .int .i64 ((b' : Nat) : Int)] (Try.prog.fieldsOf 102).toList).run Try.prog w = .ok (decide (a = a') && decide (b = b')) w := by
  have u3 := Try.underlying3
  have a3 := Try.isAgg3
  have z3 := Try.sizeOf3
  simp only [Program.fieldsOf, Try.underlying102]
  go_simp
  try simp only [inat]
  by_cases h1 : a = a' <;> by_cases h2 : b = b' <;> simp [h1, h2] <;> omega
theorem eqS_marked (a a' : Nat) (w : World) (d : Nat) : (Op.eqFields (d + 1) #[.int .i64 ((a : Nat) : Int)] #[.int .i64 ((a' : Nat) : Int)] (Try.prog.fieldsOf 100).toList).run Try.prog w = .ok (decide (a = a')) w := by
  have u3 := Try.underlying3
  have a3 := Try.isAgg3
  have z3 := Try.sizeOf3
  simp only [Program.fieldsOf, Try.underlying100]
  go_simp
  try simp only [inat]
  by_cases h1 : a = a' <;> simp [h1] <;> omega
theorem eqS_cut (a a' : Int) (w : World) (d : Nat) : (Op.eqFields (d + 1) #[.int .i64 a] #[.int .i64 a'] (Try.prog.fieldsOf 107).toList).run Try.prog w = .ok (decide (a = a')) w := by
  have u3 := Try.underlying3
  have a3 := Try.isAgg3
  have z3 := Try.sizeOf3
  simp only [Program.fieldsOf, Try.underlying107]
  go_simp
  by_cases h1 : a = a' <;> simp [h1]
theorem eqS_drawn (a b c a' b' c' : Nat) (w : World) (d : Nat) : (Op.eqFields (d + 1) #[.int .i64 ((a : Nat) : Int), .int .u32 ((b : Nat) : Int), .int .i64 ((c : Nat) : Int)] #[.int .i64 ((a' : Nat) : Int), .int .u32 ((b' : Nat) : Int), .int .i64 ((c' : Nat) : Int)] (Try.prog.fieldsOf 105).toList).run Try.prog w = .ok (decide (a = a') && (decide (b = b') && decide (c = c'))) w := by
  have u3 := Try.underlying3
  have a3 := Try.isAgg3
  have z3 := Try.sizeOf3
  have u4 := Try.underlying103
  have a4 := Try.isAgg103
  have z4 := Try.sizeOf103
  simp only [Program.fieldsOf, Try.underlying105]
  go_simp
  try simp only [inat]
  by_cases h1 : a = a' <;> by_cases h2 : b = b' <;> by_cases h3 : c = c' <;> simp [h1, h2, h3] <;> omega
theorem run_eqS (s t : St) (w : World) : (Op.equal 71 (encS s) (encS t)).run Try.prog w = .ok (decide (s = t)) w := by
  unfold Op.equal Op.maxDepth
  by_cases h : encT s = encT t
  · cases s <;> cases t
    all_goals try (exfalso; simp [encT] at h; done)
    · rename_i a b a' b'
      rw [show (decide (St.thrown a b = St.thrown a' b')) = (decide (a = a') && decide (b = b')) by simp]
      exact eqS_in (by kernel_rfl) (by kernel_rfl) (by kernel_rfl) (eqS_thrown a b a' b' w _)
    · rename_i a a'
      rw [show (decide (St.marked a = St.marked a')) = decide (a = a') by simp]
      exact eqS_in (by kernel_rfl) (by kernel_rfl) (by kernel_rfl) (eqS_marked a a' w _)
    · rename_i a b a' b'
      rw [show (decide (St.divided a b = St.divided a' b')) = (decide (a = a') && decide (b = b')) by simp]
      exact eqS_in (by kernel_rfl) (by kernel_rfl) (by kernel_rfl) (eqS_divided a b a' b' w _)
    · rename_i a b c a' b' c'
      rw [show (decide (St.drawn a b c = St.drawn a' b' c')) = (decide (a = a') && (decide (b = b') && decide (c = c'))) by simp]
      exact eqS_in (by kernel_rfl) (by kernel_rfl) (by kernel_rfl) (eqS_drawn a b c a' b' c' w _)
    · rename_i a a'
      rw [show (decide (St.cut a = St.cut a')) = decide (a = a') by simp]
      exact eqS_in (by kernel_rfl) (by kernel_rfl) (by kernel_rfl) (eqS_cut a a' w _)
  · rw [eqS_ne h]
    have : s ≠ t := fun e => h (by rw [e])
    simp [this]
/-- A key of these maps is taken. -/
theorem checkS_thrown (a b : Nat) (em : Bool) (w : World) (d : Nat) : (Instr.checkKey em (d + 1 + 1 + 1) 71 (encS (.thrown a b))).run Try.prog w = .ok () w := by
  have u3 := Try.underlying3
  have a3 := Try.isAgg3
  have z3 := Try.sizeOf3
  obtain ⟨i1, e1, d1⟩ := Option.map_eq_some_iff.1 (show (Try.prog.info? 98).map (·.comparable) = some true by kernel_rfl)
  rw [Instr.checkKey]
  simp only [encS, encT, encA, Sem.run_bind, run_underlying Try.underlying71, Result.andThen_ok, typeInfo, e1, d1]
  rw [Instr.checkKey]
  simp only [Sem.run_bind, run_underlying Try.underlying98, Result.andThen_ok]
  go_simp
  simp [Instr.checkKey, run_underlying u3]
theorem checkS_marked (a : Nat) (em : Bool) (w : World) (d : Nat) : (Instr.checkKey em (d + 1 + 1 + 1) 71 (encS (.marked a))).run Try.prog w = .ok () w := by
  have u3 := Try.underlying3
  have a3 := Try.isAgg3
  have z3 := Try.sizeOf3
  obtain ⟨i1, e1, d1⟩ := Option.map_eq_some_iff.1 (show (Try.prog.info? 100).map (·.comparable) = some true by kernel_rfl)
  rw [Instr.checkKey]
  simp only [encS, encT, encA, Sem.run_bind, run_underlying Try.underlying71, Result.andThen_ok, typeInfo, e1, d1]
  rw [Instr.checkKey]
  simp only [Sem.run_bind, run_underlying Try.underlying100, Result.andThen_ok]
  go_simp
  simp [Instr.checkKey, run_underlying u3]
theorem checkS_divided (a b : Nat) (em : Bool) (w : World) (d : Nat) : (Instr.checkKey em (d + 1 + 1 + 1) 71 (encS (.divided a b))).run Try.prog w = .ok () w := by
  have u3 := Try.underlying3
  have a3 := Try.isAgg3
  have z3 := Try.sizeOf3
  obtain ⟨i1, e1, d1⟩ := Option.map_eq_some_iff.1 (show (Try.prog.info? 102).map (·.comparable) = some true by kernel_rfl)
  rw [Instr.checkKey]
  simp only [encS, encT, encA, Sem.run_bind, run_underlying Try.underlying71, Result.andThen_ok, typeInfo, e1, d1]
  rw [Instr.checkKey]
  simp only [Sem.run_bind, run_underlying Try.underlying102, Result.andThen_ok]
  go_simp
  simp [Instr.checkKey, run_underlying u3]
theorem checkS_drawn (a b c : Nat) (em : Bool) (w : World) (d : Nat) : (Instr.checkKey em (d + 1 + 1 + 1) 71 (encS (.drawn a b c))).run Try.prog w = .ok () w := by
  have u3 := Try.underlying3
  have a3 := Try.isAgg3
  have z3 := Try.sizeOf3
  have u4 := Try.underlying103
  have a4 := Try.isAgg103
  have z4 := Try.sizeOf103
  obtain ⟨i1, e1, d1⟩ := Option.map_eq_some_iff.1 (show (Try.prog.info? 105).map (·.comparable) = some true by kernel_rfl)
  rw [Instr.checkKey]
  simp only [encS, encT, encA, Sem.run_bind, run_underlying Try.underlying71, Result.andThen_ok, typeInfo, e1, d1]
  rw [Instr.checkKey]
  simp only [Sem.run_bind, run_underlying Try.underlying105, Result.andThen_ok]
  go_simp
  simp [Instr.checkKey, run_underlying u3, run_underlying u4]
theorem checkS_cut (a : Int) (em : Bool) (w : World) (d : Nat) : (Instr.checkKey em (d + 1 + 1 + 1) 71 (encS (.cut a))).run Try.prog w = .ok () w := by
  have u3 := Try.underlying3
  have a3 := Try.isAgg3
  have z3 := Try.sizeOf3
  obtain ⟨i1, e1, d1⟩ := Option.map_eq_some_iff.1 (show (Try.prog.info? 107).map (·.comparable) = some true by kernel_rfl)
  rw [Instr.checkKey]
  simp only [encS, encT, encA, Sem.run_bind, run_underlying Try.underlying71, Result.andThen_ok, typeInfo, e1, d1]
  rw [Instr.checkKey]
  simp only [Sem.run_bind, run_underlying Try.underlying107, Result.andThen_ok]
  go_simp
  simp [Instr.checkKey, run_underlying u3]
theorem run_checkS (s : St) (em : Bool) (w : World) : (Instr.checkKey em 10000 71 (encS s)).run Try.prog w = .ok () w := by
  cases s
  · exact checkS_thrown _ _ em w 9997
  · exact checkS_marked _ em w 9997
  · exact checkS_divided _ _ em w 9997
  · exact checkS_drawn _ _ _ em w 9997
  · exact checkS_cut _ em w 9997
theorem sameS (s : St) : Instr.sameBits 10000 (encS s) (encS s) = true := by
  cases s <;> simp [encS, encT, encA, Instr.sameBits]
end Go.Proofs.Ytmjnelkeiogdcaa
