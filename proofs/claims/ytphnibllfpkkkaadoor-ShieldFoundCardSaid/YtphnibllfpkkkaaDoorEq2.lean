/- Records of marks, charts and a shield compared. -/
import Derived.Test.YtphnibllfpkkkaaDoorEq
import Derived.Test.YtphnibllfpkkkaaDoorW18
namespace Go.Proofs.YtphnibllfpkkkaaDoor
open Go Go.RowKit
set_option maxRecDepth 100000

theorem part_shield (S : Nat → Int) (w : World) : (part 24 (irow 18 S) 2).run Tryd.prog w = .ok (.agg (irow 16 fun i => S (i + 2))) w := by
  have ha : ∀ w, (isAgg 24).run Tryd.prog w = .ok true w := fun _ => by kernel_rfl
  have hz : ∀ w, (sizeOf 24).run Tryd.prog w = .ok 16 w := fun _ => by kernel_rfl
  have he : (irow 18 S).extract 2 18 = irow 16 fun i => S (i + 2) := by
    apply Array.ext_getElem?
    intro i
    by_cases h : i < 16
    · rw [Array.getElem?_extract, irow_get _ _ _ h, if_pos (by simp; omega), irow_get 18 S (2 + i) (by omega), Nat.add_comm]
    · rw [Array.getElem?_eq_none (by simp; omega), Array.getElem?_eq_none (by simp; omega)]
  simp [part, ha, hz, he]
theorem fields_repair : ∃ f0 f1 f2, Tryd.prog.fieldsOf 87 = #[f0, f1, f2] ∧ (f0.name ≠ "_" ∧ f0.type = 3 ∧ f0.offset = 0) ∧ (f1.name ≠ "_" ∧ f1.type = 3 ∧ f1.offset = 1) ∧ (f2.name ≠ "_" ∧ f2.type = 24 ∧ f2.offset = 2) :=
  ⟨_, _, _, rfl, ⟨by decide, rfl, rfl⟩, ⟨by decide, rfl, rfl⟩, ⟨by decide, rfl, rfl⟩⟩
theorem eqlRepair (S T : Nat → Int) (b : Bool) (hb : b = true ↔ ∀ i, i < 18 → S i = T i) (w : World) : (binOp .eql 87 (.agg (irow 18 S)) (.agg (irow 18 T))).run Tryd.prog w = .ok (.bool b) w := by
  rw [run_eql_struct, run_equalIn_struct w 9999 87 _ _ (by kernel_rfl) (by kernel_rfl)]
  obtain ⟨f0, f1, f2, hf, ⟨n0, t0, o0⟩, ⟨n1, t1, o1⟩, ⟨n2, t2, o2⟩⟩ := fields_repair
  rw [hf]
  have hai : ∀ w, (isAgg 3).run Tryd.prog w = .ok false w := fun _ => by kernel_rfl
  have p0 : ∀ (S : Nat → Int) (w : World), (part 3 (irow 18 S) 0).run Tryd.prog w = .ok (.int .i64 (S 0)) w := fun S w => part_irow hai S 0 (by omega) w
  have p1 : ∀ (S : Nat → Int) (w : World), (part 3 (irow 18 S) 1).run Tryd.prog w = .ok (.int .i64 (S 1)) w := fun S w => part_irow hai S 1 (by omega) w
  have q := fun (a b : Int) (w : World) => run_equalIn_int w 9998 3 .i64 .i64 a b Tryd.underlying3
  have r := fun (w : World) => run_equalIn_irow Tryd.underlying24 Tryd.underlying22 (by kernel_rfl) (fun _ => by kernel_rfl) 9997 (fun i => S (i + 2)) (fun i => T (i + 2)) w
  have hl : b = (S 0 == T 0 && (S 1 == T 1 && (List.range 16).all fun i => S (i + 2) == T (i + 2))) := by
    rw [Bool.eq_iff_iff, hb]
    simp only [Bool.and_eq_true, beq_iff_eq, List.all_eq_true, List.mem_range]
    constructor
    · intro h
      exact ⟨h 0 (by omega), h 1 (by omega), fun i hi => h (i + 2) (by omega)⟩
    · rintro ⟨h0, h1, h2⟩ i hi
      by_cases e0 : i = 0
      · subst e0; exact h0
      · by_cases e1 : i = 1
        · subst e1; exact h1
        · obtain ⟨j, rfl⟩ : ∃ j, i = j + 2 := ⟨i - 2, by omega⟩
          exact h2 j (by omega)
  have e2 : ∀ w, (Op.eqFields 9999 (irow 18 S) (irow 18 T) [f2]).run Tryd.prog w = .ok ((List.range 16).all fun i => S (i + 2) == T (i + 2)) w := fun w => by
    simp only [Op.eqFields, n2, t2, o2, Sem.run_bind, part_shield, r, Result.andThen_ok, ne_eq, not_false_eq_true, if_true]
    cases (List.range 16).all fun i => S (i + 2) == T (i + 2) <;> rfl
  have e1 : ∀ w, (Op.eqFields 9999 (irow 18 S) (irow 18 T) [f1, f2]).run Tryd.prog w = .ok (S 1 == T 1 && (List.range 16).all fun i => S (i + 2) == T (i + 2)) w := fun w => by
    rw [Op.eqFields]
    simp only [n1, t1, o1, Sem.run_bind, p1, q, Result.andThen_ok, ne_eq, not_false_eq_true, if_true]
    cases S 1 == T 1
    · rfl
    · exact e2 w
  have e0 : ∀ w, (Op.eqFields 9999 (irow 18 S) (irow 18 T) [f0, f1, f2]).run Tryd.prog w = .ok b w := fun w => by
    rw [Op.eqFields, hl]
    simp only [n0, t0, o0, Sem.run_bind, p0, q, Result.andThen_ok, ne_eq, not_false_eq_true, if_true]
    cases S 0 == T 0
    · rfl
    · exact e1 w
  show ((Op.eqFields 9999 (irow 18 S) (irow 18 T) [f0, f1, f2]).run Tryd.prog w).andThen _ = _
  rw [e0]; rfl
end Go.Proofs.YtphnibllfpkkkaaDoor
