/- Walks of package hand: branches and outcomes of a state, whatever its kind. -/
import Derived.Test.YtmjnelkeiogdcaaHE
namespace Go.Proofs.Ytmjnelkeiogdcaa
open Go Go.RowKit Go.Shelf
set_option maxRecDepth 100000

def brF : St → FuncId
  | .thrown _ _ => 94
  | .marked _ => 97
  | .divided _ _ => 100
  | .drawn _ _ _ => 104
  | .cut _ => 107
def brC : St → FuncId
  | .thrown _ _ => 96
  | .marked _ => 99
  | .divided _ _ => 102
  | .drawn _ _ _ => 106
  | .cut _ => 109
def outF : St → FuncId
  | .thrown _ _ => 95
  | .marked _ => 98
  | .divided _ _ => 101
  | .drawn _ _ _ => 105
  | .cut _ => 108
def brL : St → Nat → Nat → Array Value
  | .thrown _ _, bs, bh => #[.pointer (some ⟨bs, 0, none⟩), .pointer (some ⟨bh, 0, none⟩)]
  | .marked _, bs, bh => #[.pointer (some ⟨bh, 0, none⟩), .pointer (some ⟨bs, 0, none⟩)]
  | .divided _ _, bs, bh => #[.pointer (some ⟨bs, 0, none⟩), .pointer (some ⟨bh, 0, none⟩)]
  | .drawn _ _ _, bs, bh => #[.pointer (some ⟨bh, 0, none⟩), .pointer (some ⟨bs, 0, none⟩)]
  | .cut _, bs, bh => #[.pointer (some ⟨bh, 0, none⟩), .pointer (some ⟨bs, 0, none⟩)]
theorem br_seq (n : Nat) (hn : 1 ≤ n) (N bs bh B0 B1 : Nat) (hs0 : B0 ≤ bs ∧ bs < B1) (hs1 : B0 ≤ bh ∧ bh < B1) (H : HV) (fv cv : Value) (s : St) (hF : Fit H s) (w : World) (hw : BrAt w N bs bh H fv cv s) :
    SeqG Fence.wide n Try.prog (brC s) (brL s bs bh) brEnc (fun _ => SBr N B0 B1) (Nxt (brs H s)) (fun xs => xs = brs H s) w := by
  cases s with
  | thrown l s => exact thrown1_seq n hn N bs bh B0 B1 hs0 hs1 H fv cv l s hF w hw
  | marked m => exact marked1_seq n hn N bs bh B0 B1 hs0 hs1 H fv cv m hF w hw
  | divided l k => exact divided1_seq n hn N bs bh B0 B1 hs0 hs1 H fv cv l k hF w hw
  | drawn l g k => exact drawn1_seq n hn N bs bh B0 B1 hs0 hs1 H fv cv l g k hF w hw
  | cut k => exact cut1_seq n hn N bs bh B0 B1 hs0 hs1 H fv cv k hF w hw
theorem meth_branches_thrown (n : Nat) (cs : Array Value) (w : World) : (method (n + 1) 98 (.agg cs) "astragal/hand.branches").run Try.prog w = .ok (94, .agg cs) w := by kernel_rfl
theorem meth_branches_marked (n : Nat) (cs : Array Value) (w : World) : (method (n + 1) 100 (.agg cs) "astragal/hand.branches").run Try.prog w = .ok (97, .agg cs) w := by kernel_rfl
theorem meth_branches_divided (n : Nat) (cs : Array Value) (w : World) : (method (n + 1) 102 (.agg cs) "astragal/hand.branches").run Try.prog w = .ok (100, .agg cs) w := by kernel_rfl
theorem meth_branches_drawn (n : Nat) (cs : Array Value) (w : World) : (method (n + 1) 105 (.agg cs) "astragal/hand.branches").run Try.prog w = .ok (104, .agg cs) w := by kernel_rfl
theorem meth_branches_cut (n : Nat) (cs : Array Value) (w : World) : (method (n + 1) 107 (.agg cs) "astragal/hand.branches").run Try.prog w = .ok (107, .agg cs) w := by kernel_rfl
theorem meth_outcome_thrown (n : Nat) (cs : Array Value) (w : World) : (method (n + 1) 98 (.agg cs) "astragal/hand.outcome").run Try.prog w = .ok (95, .agg cs) w := by kernel_rfl
theorem meth_outcome_marked (n : Nat) (cs : Array Value) (w : World) : (method (n + 1) 100 (.agg cs) "astragal/hand.outcome").run Try.prog w = .ok (98, .agg cs) w := by kernel_rfl
theorem meth_outcome_divided (n : Nat) (cs : Array Value) (w : World) : (method (n + 1) 102 (.agg cs) "astragal/hand.outcome").run Try.prog w = .ok (101, .agg cs) w := by kernel_rfl
theorem meth_outcome_drawn (n : Nat) (cs : Array Value) (w : World) : (method (n + 1) 105 (.agg cs) "astragal/hand.outcome").run Try.prog w = .ok (105, .agg cs) w := by kernel_rfl
theorem meth_outcome_cut (n : Nat) (cs : Array Value) (w : World) : (method (n + 1) 107 (.agg cs) "astragal/hand.outcome").run Try.prog w = .ok (108, .agg cs) w := by kernel_rfl
theorem inv_br {s : St} {hv : Array Value} {ts : Array TypeId} (ev : Operand → Value) (o : Oper) (rx hx : Operand) (ho : o.op = .call { callee := .invoke rx "astragal/hand.branches", args := #[hx], argTypes := ts }) (hr : ev rx = encS s) (hh : ev hx = .agg hv) (W : World) :
    (execOp ev o).run Try.prog W = .ok (.enter (brF s) #[.agg (encA s), .agg hv]) W := by
  cases s <;> simp [execOp, ho, hr, hh, encS, encT, encA, brF, go_sem, meth_branches_thrown, meth_branches_marked, meth_branches_divided, meth_branches_drawn, meth_branches_cut]
theorem inv_out {s : St} {hv : Array Value} {ts : Array TypeId} (ev : Operand → Value) (o : Oper) (rx hx : Operand) (ho : o.op = .call { callee := .invoke rx "astragal/hand.outcome", args := #[hx], argTypes := ts }) (hr : ev rx = encS s) (hh : ev hx = .agg hv) (W : World) :
    (execOp ev o).run Try.prog W = .ok (.enter (outF s) #[.agg (encA s), .agg hv]) W := by
  cases s <;> simp [execOp, ho, hr, hh, encS, encT, encA, outF, go_sem, meth_outcome_thrown, meth_outcome_marked, meth_outcome_divided, meth_outcome_drawn, meth_outcome_cut]
theorem below2 (W : World) (o1 o2 : Obj) : Below W.heap.size W ((W.alloc o1).alloc o2) := ((Below.refl _ _).alloc (Nat.le_refl _) _).alloc (by simp) _
theorem alloc2_first (W : World) (o1 o2 : Obj) : ((W.alloc o1).alloc o2).heap[W.heap.size]? = some o1 := (Below.heap_alloc (W.alloc o1) o2 _ (by simp)).trans (World.alloc_heap_new W o1)
theorem alloc2_second (W : World) (o1 o2 : Obj) : ((W.alloc o1).alloc o2).heap[W.heap.size + 1]? = some o2 := by
  have := World.alloc_heap_new (W.alloc o1) o2
  rwa [World.size_alloc] at this
/-- The branches of a state: the closure. -/
theorem branches_c (N : Nat) (H : HV) (fv cv : Value) (s : St) (W : World) (hH : HandAt W N H fv cv) :
    Calls Try.prog (brF s) #[.agg (encA s), .agg (handA H fv cv)] W fun e w' => e = .returned (.func (.func (brC s)) #[] (brL s W.heap.size (W.heap.size + 1))) ∧ Below W.heap.size W w' ∧ w'.heap.size = W.heap.size + 2 ∧ BrAt w' N W.heap.size (W.heap.size + 1) H fv cv s := by
  have key : ∀ w', w' = (W.alloc (.cells (encA s) (encT s))).alloc (.cells (handA H fv cv) 26) → Below W.heap.size W w' ∧ w'.heap.size = W.heap.size + 2 ∧ BrAt w' N W.heap.size (W.heap.size + 1) H fv cv s := by
    rintro w' rfl
    refine ⟨below2 _ _ _, by simp, alloc2_first _ _ _, alloc2_second _ _ _, hH.below ((below2 _ _ _).mono hH.le), hH.le⟩
  have KEY := hid key
  clear key hH
  cases s
  · simp only [encA, encT, brF, brC, brL] at KEY ⊢
    go_enter Try.func94, Try.ntmps94
    go_wp2_with fail
    go_ret
    exact ⟨rfl, KEY.out _ rfl⟩
  · simp only [encA, encT, brF, brC, brL] at KEY ⊢
    go_enter Try.func97, Try.ntmps97
    go_wp2_with fail
    go_ret
    exact ⟨rfl, KEY.out _ rfl⟩
  · simp only [encA, encT, brF, brC, brL] at KEY ⊢
    go_enter Try.func100, Try.ntmps100
    go_wp2_with fail
    go_ret
    exact ⟨rfl, KEY.out _ rfl⟩
  · simp only [encA, encT, brF, brC, brL] at KEY ⊢
    go_enter Try.func104, Try.ntmps104
    go_wp2_with fail
    go_ret
    exact ⟨rfl, KEY.out _ rfl⟩
  · simp only [encA, encT, brF, brC, brL] at KEY ⊢
    go_enter Try.func107, Try.ntmps107
    go_wp2_with fail
    go_ret
    exact ⟨rfl, KEY.out _ rfl⟩
/-- The outcome of a state. -/
theorem outcome_c (H : HV) (fv cv : Value) (s : St) (hF : Fit H s) (W : World) :
    Calls Try.prog (outF s) #[.agg (encA s), .agg (handA H fv cv)] W fun e w' => e = .returned (.int .i64 (outN H s)) ∧ Below W.heap.size W w' := by
  have hb : ∀ o1 o2, Below W.heap.size W ((W.alloc o1).alloc o2) := below2 W
  have HB := hid hb
  clear hb
  cases s with
  | thrown l s =>
    simp only [encA, outF, outN, handA]
    clear hF
    go_enter Try.func95, Try.ntmps95
    go_wp2_with fail
    go_ret
    exact ⟨rfl, HB.out _ _⟩
  | marked m =>
    have hm : m ≤ 1000 := hF.1.1
    have e1 : Int.tmod ((m : Nat) : Int) 2 = ((m % 2 : Nat) : Int) := by rw [Int.tmod_eq_emod_of_nonneg (by omega)]; push_cast; try rfl
    have hr : m % 2 < 2 := Nat.mod_lt _ (by omega)
    simp only [encA, outF, outN, handA]
    generalize m % 2 = r at *
    have w1 := wrap_nat r (by omega)
    clear hF
    go_enter Try.func98, Try.ntmps98
    go_wp2_with fail
    go_ret
    exact ⟨rfl, HB.out _ _⟩
  | divided l n =>
    obtain ⟨-, hn, hg2, hg8⟩ := hF.1
    have e1 : Int.tdiv ((n : Nat) : Int) ((H.group : Nat) : Int) = ((n / H.group : Nat) : Int) := by rw [Int.tdiv_eq_ediv_of_nonneg (by omega)]; push_cast; try rfl
    have hr : n / H.group ≤ n := Nat.div_le_self _ _
    have hne : (((H.group : Nat) : Int) == 0) = false := by simp; omega
    have hne' : ((H.group : Nat) : Int) ≠ 0 := by omega
    simp only [encA, outF, outN, handA]
    generalize n / H.group = r at *
    generalize H.group = gr at *
    have w1 := wrap_nat r (by omega)
    go_enter Try.func101, Try.ntmps101
    go_wp2_with fail
    go_ret
    exact ⟨rfl, HB.out _ _⟩
  | drawn l g k =>
    simp only [encA, outF, outN, handA]
    clear hF
    go_enter Try.func105, Try.ntmps105
    go_wp2_with fail
    go_ret
    exact ⟨rfl, HB.out _ _⟩
  | cut k =>
    simp only [encA, outF, outN, handA]
    clear hF
    go_enter Try.func108, Try.ntmps108
    go_wp2_with fail
    go_ret
    exact ⟨rfl, HB.out _ _⟩
end Go.Proofs.Ytmjnelkeiogdcaa
