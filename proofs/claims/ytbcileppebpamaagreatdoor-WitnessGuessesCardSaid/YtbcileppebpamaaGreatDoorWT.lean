/- Walks of the reference's Combine and Split; of the law's same. -/
import Derived.Test.YtbcileppebpamaaGreatDoorRQ
import Derived.Test.YtbcileppebpamaaGreatDoorGV
set_option linter.unusedSimpArgs false
set_option linter.unusedVariables false
namespace Go.Proofs.YtbcileppebpamaaGreatDoor
open Go Go.RowKit Go.Shelf
set_option maxRecDepth 100000

theorem Ints.own {W : World} {B : Nat} {v : Value} {xs : List Int} (h : Ints W B v xs) : ∀ k, v.ownBlock = some k → B ≤ k := fun k hk => by
  rcases h.2 with ⟨h3, _⟩ | ⟨g, cap, cur, h3, h4, h5, _⟩
  · rw [h3] at hk; cases hk
  · rw [h3] at hk
    have : g = k := by simpa [Value.ownBlock] using hk
    subst this
    exact h4
theorem wpO_app_ints {o : Oper} {a : Act} {w : World} {K : Act → World → Prop} {Q : Exit → Act → World → Prop} (s x : Operand)
    (ho : o.op = .call { callee := .builtin .append, args := #[s, x], argTypes := #[72, 72] }) (B : Nat) (v : Value) (xs : List Int) (hs : a.eval s = v) (hown : Ints w B v xs)
    (u : Value) (ys : List Int) (hx : a.eval x = u) (hr : ReadsA w u ys) (hlen : xs.length + ys.length < 1000000000) (hB : B ≤ w.heap.size)
    (h : ∀ v' w', Ints w' B v' (xs ++ ys) → w.grownBy w' v.ownBlock → K (a.put o.dst v') w') : o.wp Tryz.prog a w K Q := by
  obtain ⟨i0, hi, hz0, hz1, hz2⟩ := info_parts infoInt
  rcases hr with ⟨rfl, rfl⟩ | ⟨ad, c, rfl, _, hc⟩
  · have hrun := run_append_owned_none (P := Tryz.prog) (w := w) B 72 o.type 3 i0 1 Tryz.underlying72 hi v xs.length _ hown
    unfold Oper.wp
    simp [execOp, ho, resolve, invoke, builtin, hs, hx, hrun, Result.andThen]
    exact h v w (by simpa using hown) (World.grownBy.refl w _)
  · obtain ⟨v', w', hrun, r1, r2, _⟩ := run_append_own (P := Tryz.prog) w B 72 o.type 3 i0 (.int .i64 0) 1 8 Tryz.underlying72 hi hz0 hz1 hz2 rfl (by decide) v xs.length _ hown ad ys.length c (ys.map (Value.int .i64)) (by simp)
      (fun j u hj => by
        rw [List.getElem?_map] at hj
        have hjl : j < ys.length := by
          rcases Nat.lt_or_ge j ys.length with h | h
          · exact h
          · rw [List.getElem?_eq_none h] at hj; cases hj
        rw [List.getElem?_eq_getElem hjl] at hj
        rw [hc j hjl]
        simpa using hj) (fun u hu => by
        obtain ⟨z, _, rfl⟩ := List.mem_map.1 hu
        rfl) (by unfold maxLen; omega) (by omega) hB
    unfold Oper.wp
    simp [execOp, ho, resolve, invoke, builtin, hs, hx, hrun, Result.andThen]
    refine h v' w' ?_ r2
    unfold Ints
    simpa using r1
theorem wpO_append_int {o : Oper} {a : Act} {w : World} {K : Act → World → Prop} {Q : Exit → Act → World → Prop} (s x : Operand)
    (ho : o.op = .call { callee := .builtin .append, args := #[s, x], argTypes := #[72, 72] }) (B : Nat) (v : Value) (xs : List Int) (hs : a.eval s = v) (hown : Ints w B v xs)
    (n : Int) (g c : Nat) (hx : a.eval x = .slice (some ⟨g, 0, none⟩) 1 c) (hc : w.cell? ⟨g, 0, none⟩ = some (.int .i64 n)) (hlen : xs.length < 1000000000) (hB : B ≤ w.heap.size)
    (h : ∀ v' w', Ints w' B v' (xs ++ [n]) → w.grownBy w' v.ownBlock → K (a.put o.dst v') w') : o.wp Tryz.prog a w K Q := by
  obtain ⟨i0, hi, hz0, hz1, hz2⟩ := info_parts infoInt
  obtain ⟨v', w', hrun, r1, r2, r3⟩ := run_append_own (P := Tryz.prog) w B 72 o.type 3 i0 (.int .i64 0) 1 8 Tryz.underlying72 hi hz0 hz1 hz2 rfl (by decide) v xs.length _ hown ⟨g, 0, none⟩ 1 c [.int .i64 n] rfl
    (fun j u hj => by
      obtain rfl : j = 0 := by
        cases j with
        | zero => rfl
        | succ j => simp at hj
      simp at hj; subst hj; exact hc) (fun u hu => by simp at hu; subst hu; rfl) (by unfold maxLen; omega) (by omega) hB
  unfold Oper.wp execOp
  simp only [ho, resolve, invoke, builtin, Sem.run_bind, Sem.run_pure, Result.andThen_ok, List.map_toArray, List.map_cons, List.map_nil, hs, hx, hrun]
  refine h v' w' ?_ r2
  unfold Ints
  simpa using r1
theorem exec_sub {ev : Operand → Value} {o : Oper} {x y : Operand} {a b : Int} {W : World} (ho : o.op = .binOp .sub 3 x y 3) (hx : ev x = .int .i64 a) (hy : ev y = .int .i64 b) (hc : IntKind.i64.wrap (a - b) = a - b) : (execOp ev o).run Tryz.prog W = .ok (.value (.int .i64 (a - b))) W := by
  simp [execOp, ho, hx, hy]
  go_simp
theorem exec_add {ev : Operand → Value} {o : Oper} {x y : Operand} {a b : Int} {W : World} (ho : o.op = .binOp .add 3 x y 3) (hx : ev x = .int .i64 a) (hy : ev y = .int .i64 b) (hc : IntKind.i64.wrap (a + b) = a + b) : (execOp ev o).run Tryz.prog W = .ok (.value (.int .i64 (a + b))) W := by
  simp [execOp, ho, hx, hy]
  go_simp
theorem exec_rem {ev : Operand → Value} {o : Oper} {x y : Operand} {a b z : Int} {W : World} (ho : o.op = .binOp .rem 3 x y 3) (hx : ev x = .int .i64 a) (hy : ev y = .int .i64 b) (hb : b ≠ 0) (hz : Int.tmod a b = z) (hc : IntKind.i64.wrap z = z) : (execOp ev o).run Tryz.prog W = .ok (.value (.int .i64 z)) W := by
  simp [execOp, ho, hx, hy]
  go_simp

theorem addO_app (b : Nat) : ∀ (xs ys : List Int) (n : Nat), addO b (xs ++ ys) n = match addO b xs n with | none => none | some k => addO b ys k
  | [], ys, n => rfl
  | x :: xs, ys, n => by
    rw [List.cons_append, addO, addO]
    split
    · exact addO_app b xs ys _
    · rfl
end Go.Proofs.YtbcileppebpamaaGreatDoor
