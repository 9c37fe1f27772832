/- Rows of ints compared. -/
import Derived.Test.YtcdbkgpgjjeoiaaDoorPlain
import Derived.Laws.StructEq
namespace Go.Proofs.YtcdbkgpgjjeoiaaDoor
open Go Go.RowKit

theorem part_irow {P : Program} {e n : Nat} (ha : ∀ w, (isAgg e).run P w = .ok false w) (S : Nat → Int) (k : Nat) (hk : k < n) (w : World) : (part e (irow n S) (k * 1)).run P w = .ok (.int .i64 (S k)) w := by
  simp [part, ha, irow_get n S k hk]
theorem run_equalIn_irow {P : Program} {t e n : Nat} (ht : P.underlying t = some (.array n e)) (he : P.underlying e = some (.int .i64)) (hi : (P.info? e).map (·.size) = some 1) (ha : ∀ w, (isAgg e).run P w = .ok false w) (d : Nat) (S T : Nat → Int) (w : World) :
    (Op.equalIn (d + 2) t (.agg (irow n S)) (.agg (irow n T))).run P w = .ok ((List.range n).all fun i => S i == T i) w := by
  have hz : ∀ w, (sizeOf e).run P w = .ok 1 w := fun w => by
    cases hq : P.info? e with
    | none => simp [hq] at hi
    | some i =>
      have hs : i.size = 1 := by simpa [hq] using hi
      simp [sizeOf, typeInfo, hq, hs]
  rw [Op.equalIn]
  generalize hq : Op.equalIn (d + 1) e = q
  have hq' : ∀ a b w, (q (.int .i64 a) (.int .i64 b)).run P w = .ok (a == b) w := fun a b w => by
    rw [← hq]; exact run_equalIn_int w d e .i64 .i64 a b he
  simp only [Sem.run_bind, run_underlying ht, Result.andThen_ok, hz]
  rw [Std.Legacy.Range.forIn_eq_forIn_range']
  simp only [Std.Legacy.Range.size, Nat.sub_zero, Nat.add_sub_cancel, Nat.div_one]
  rw [← List.range_eq_range']
  have hl : ∀ i ∈ List.range n, i < n := fun i hi => List.mem_range.1 hi
  generalize List.range n = l at *
  rw [hq]
  induction l with
  | nil => simp
  | cons k l ih =>
    have h1 := part_irow ha S k (hl k (by simp)) w
    have h2 := part_irow ha T k (hl k (by simp)) w
    simp only [List.forIn_cons, Sem.run_bind, h1, h2, Result.andThen_ok, hq', List.all_cons]
    by_cases he : S k == T k
    · simp only [he, Bool.not_true, Bool.false_eq_true, if_false, Sem.run_pure, Result.andThen_ok, Bool.true_and]
      exact ih (fun i hi => hl i (by simp [hi]))
    · have he' : (S k == T k) = false := by simpa using he
      simp only [he', Bool.not_false, if_true, Sem.run_pure, Result.andThen_ok, Bool.false_and]
theorem all_beq (n : Nat) (S T : Nat → Int) (b : Bool) (hb : b = true ↔ ∀ i, i < n → S i = T i) : ((List.range n).all fun i => S i == T i) = b := by
  rw [Bool.eq_iff_iff, hb]; simp
theorem run_neq_irow {P : Program} {t e n : Nat} (ht : P.underlying t = some (.array n e)) (he : P.underlying e = some (.int .i64)) (hi : (P.info? e).map (·.size) = some 1) (ha : ∀ w, (isAgg e).run P w = .ok false w) (S T : Nat → Int) (b : Bool) (hb : b = true ↔ ∀ i, i < n → S i = T i) (w : World) :
    (binOp .neq t (.agg (irow n S)) (.agg (irow n T))).run P w = .ok (.bool (!b)) w := by
  rw [run_neq_struct, run_equalIn_irow ht he hi ha 9998, all_beq _ _ _ _ hb]; rfl
theorem run_eql_irow {P : Program} {t e n : Nat} (ht : P.underlying t = some (.array n e)) (he : P.underlying e = some (.int .i64)) (hi : (P.info? e).map (·.size) = some 1) (ha : ∀ w, (isAgg e).run P w = .ok false w) (S T : Nat → Int) (b : Bool) (hb : b = true ↔ ∀ i, i < n → S i = T i) (w : World) :
    (binOp .eql t (.agg (irow n S)) (.agg (irow n T))).run P w = .ok (.bool b) w := by
  rw [run_eql_struct, run_equalIn_irow ht he hi ha 9998, all_beq _ _ _ _ hb]; rfl
theorem neqShield (S T : Nat → Int) (b : Bool) (hb : b = true ↔ ∀ i, i < 16 → S i = T i) (w : World) : (binOp .neq 88 (.agg (irow 16 S)) (.agg (irow 16 T))).run Tryd.prog w = .ok (.bool (!b)) w := run_neq_irow Tryd.underlying88 Tryd.underlying22 (by kernel_rfl) (fun _ => by kernel_rfl) S T b hb w
theorem eqlShield (S T : Nat → Int) (b : Bool) (hb : b = true ↔ ∀ i, i < 16 → S i = T i) (w : World) : (binOp .eql 88 (.agg (irow 16 S)) (.agg (irow 16 T))).run Tryd.prog w = .ok (.bool b) w := run_eql_irow Tryd.underlying88 Tryd.underlying22 (by kernel_rfl) (fun _ => by kernel_rfl) S T b hb w
theorem neqMothers (S T : Nat → Int) (b : Bool) (hb : b = true ↔ ∀ i, i < 4 → S i = T i) (w : World) : (binOp .neq 98 (.agg (irow 4 S)) (.agg (irow 4 T))).run Tryd.prog w = .ok (.bool (!b)) w := run_neq_irow Tryd.underlying98 Tryd.underlying22 (by kernel_rfl) (fun _ => by kernel_rfl) S T b hb w
theorem eqlMothers (S T : Nat → Int) (b : Bool) (hb : b = true ↔ ∀ i, i < 4 → S i = T i) (w : World) : (binOp .eql 98 (.agg (irow 4 S)) (.agg (irow 4 T))).run Tryd.prog w = .ok (.bool b) w := run_eql_irow Tryd.underlying98 Tryd.underlying22 (by kernel_rfl) (fun _ => by kernel_rfl) S T b hb w
theorem eqlFour (S T : Nat → Int) (b : Bool) (hb : b = true ↔ ∀ i, i < 4 → S i = T i) (w : World) : (binOp .eql 140 (.agg (irow 4 S)) (.agg (irow 4 T))).run Tryd.prog w = .ok (.bool b) w := run_eql_irow Tryd.underlying140 Tryd.underlying3 (by kernel_rfl) (fun _ => by kernel_rfl) S T b hb w
end Go.Proofs.YtcdbkgpgjjeoiaaDoor
