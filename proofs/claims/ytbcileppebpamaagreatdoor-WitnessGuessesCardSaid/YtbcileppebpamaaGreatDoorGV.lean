/- Regions that draw their order and yield known values. -/
import Derived.Test.YtbcileppebpamaaGreatDoorRH
import Derived.Test.YtbcileppebpamaaGreatDoorWD
set_option linter.unusedSimpArgs false
set_option linter.unusedVariables false
namespace Go.Proofs.YtbcileppebpamaaGreatDoor
open Go Go.RowKit Go.Shelf
set_option maxRecDepth 100000

theorem wpO_val {P : Program} {o : Oper} {a : Act} {w w' : World} {K : Act → World → Prop} {Q : Exit → Act → World → Prop} (v : Value) (h : (execOp a.eval o).run P w = .ok (.value v) w') (hK : K (a.put o.dst v) w') : o.wp P a w K Q := by
  unfold Oper.wp
  rw [h]
  exact hK
theorem wpO_call {P : Program} {o : Oper} {a : Act} {w : World} {K : Act → World → Prop} {Q : Exit → Act → World → Prop} (f : FuncId) (args : Array Value) (h : (execOp a.eval o).run P w = .ok (.enter f args) w) (hc : Calls P f args w fun e w' => ∃ v, e = .returned v ∧ K (a.put o.dst v) w') : o.wp P a w K Q := by
  unfold Oper.wp
  rw [h, Oper.upon_enter]
  refine hc.mono fun e w' ⟨v, he, hK⟩ => ?_
  subst he
  exact hK
theorem exec_mv {P : Program} {ev : Operand → Value} {o : Oper} {x : Operand} {v : Value} {W : World} (ho : o.op = .move x) (hx : ev x = v) : (execOp ev o).run P W = .ok (.value v) W := by
  subst hx
  simp [execOp, ho]
theorem exec_asg {P : Program} {ev : Operand → Value} {o : Oper} {x : Operand} {v : Value} {W : World} (ho : o.op = .assign x) (hx : ev x = v) : (execOp ev o).run P W = .ok (.value v) W := by
  subst hx
  simp [execOp, ho]
theorem exec_ext {P : Program} {ev : Operand → Value} {o : Oper} {x : Operand} {i : Nat} {vs : Array Value} {v : Value} {W : World} (ho : o.op = .extract x i) (hx : ev x = .tuple vs) (hv : vs[i]? = some v) : (execOp ev o).run P W = .ok (.value v) W := by
  simp [execOp, ho, hx, Instr.extract, hv]
theorem exec_call1 {ev : Operand → Value} {o : Oper} {x : Operand} {f : FuncId} {ts : Array TypeId} {v : Value} {W : World} (ho : o.op = .call { callee := .value (.func f), args := #[x], argTypes := ts }) (hf : ev (.func f) = .func (.func f) #[] #[]) (hx : ev x = v) (hc : (callFunc f #[v]).run Tryz.prog W = .ok (.enter f #[v]) W) :
    (execOp ev o).run Tryz.prog W = .ok (.enter f #[v]) W := by
  simp [execOp, ho, hx, resolve, hf, Deferred.ofValue, invoke, hc]
theorem exec_call2 {ev : Operand → Value} {o : Oper} {x y : Operand} {f : FuncId} {ts : Array TypeId} {v u : Value} {W : World} (ho : o.op = .call { callee := .value (.func f), args := #[x, y], argTypes := ts }) (hf : ev (.func f) = .func (.func f) #[] #[]) (hx : ev x = v) (hy : ev y = u) (hc : (callFunc f #[v, u]).run Tryz.prog W = .ok (.enter f #[v, u]) W) :
    (execOp ev o).run Tryz.prog W = .ok (.enter f #[v, u]) W := by
  simp [execOp, ho, hx, hy, resolve, hf, Deferred.ofValue, invoke, hc]
theorem puts_congr {vs vs' : Nat → Value} : ∀ (ds : List Tmp) (k : Nat) (a : Act), (∀ j, k ≤ j → j < k + ds.length → vs j = vs' j) → puts vs ds k a = puts vs' ds k a
  | [], _, _, _ => rfl
  | d :: ds, k, a, h => by
    rw [puts, puts, h k (Nat.le_refl _) (by simp), puts_congr ds (k + 1) _ fun j h1 h2 => h j (by omega) (by rw [List.length_cons]; omega)]
theorem grow_vals {P : Program} {id : Nat} {Q : Exit → Act → World → Prop} {a : Act} {w : World} {l : List Oper} (n : Nat) (ds : List Tmp) (vals : List Value) (hm : P.follows .mixedOrders = true) (hB : growB l.toArray n ds a.tmps.size = true)
    (hstep : ∀ j oj, j < n → l.toArray[j]? = some oj → ∀ a' w', Below w.heap.size w w' → (∀ t, t ∉ ds → a'.eval (.tmp t) = a.eval (.tmp t)) →
      (∀ e ∈ oj.after, Region.binds .any e = true → a'.eval (.tmp (ds.getD e.on 0)) = vals.getD e.on undef) →
      ∀ (K : Act → World → Prop), (∀ w'', Below w'.heap.size w' w'' → K (a'.put (some (ds.getD j 0)) (vals.getD j undef)) w'') → oj.wp P a' w' K Q)
    (htail : ∀ w', Below w.heap.size w w' → wpList P l.toArray Q (l.drop n) (puts (fun j => vals.getD j undef) ds 0 a) w') : (Code.region id l.toArray true).wp P Q a w := by
  have hB' := hB
  simp only [growB, Bool.and_eq_true, decide_eq_true_eq] at hB'
  have hlen := hB'.1.1.1.2
  refine grow_region n ds hm hB (fun j v _ => v = vals.getD j undef) (fun _ _ _ => False) (fun _ _ _ _ _ h => h) (fun _ _ _ _ _ h => h.elim)
    (fun j oj hj ho a' w' hb he hd K hK => hstep j oj hj ho a' w' hb he hd K fun w'' hb2 => hK _ w'' hb2 rfl fun b h => h.elim) (fun vs w' hb hD _ _ => ?_)
  rw [puts_congr (vs' := fun j => vals.getD j undef) ds 0 a fun j _ h2 => hD j (by omega)]
  exact htail w' hb
end Go.Proofs.YtbcileppebpamaaGreatDoor
