/- Lemmas for WitnessDraws: part 12. -/
import Derived.Test.YtbcileppebpamaaGreatDoorKb11
set_option linter.unusedSimpArgs false
set_option linter.unusedVariables false
namespace Go.Proofs.YtbcileppebpamaaGreatDoor
open Go Go.RowKit Go.Shelf
set_option maxRecDepth 100000
/-- Known values. -/
def KV (vals : List Value) (j : Nat) (v : Value) (_ : World) : Prop := v = vals.getD j undef
theorem exec_call3 {ev : Operand → Value} {o : Oper} {x y z : Operand} {f : FuncId} {ts : Array TypeId} {v u t : Value} {W : World} (ho : o.op = .call { callee := .value (.func f), args := #[x, y, z], argTypes := ts }) (hf : ev (.func f) = .func (.func f) #[] #[]) (hx : ev x = v) (hy : ev y = u) (hz : ev z = t) (hc : (callFunc f #[v, u, t]).run Tryz.prog W = .ok (.enter f #[v, u, t]) W) :
    (execOp ev o).run Tryz.prog W = .ok (.enter f #[v, u, t]) W := by
  simp [execOp, ho, hf, hx, hy, hz, resolve, invoke]
  exact hc
theorem exec_gtr0 {ev : Operand → Value} {o : Oper} {x y : Operand} {a : Nat} {b : Bool} {W : World} (ho : o.op = .binOp .gtr 3 x y 3) (hx : ev x = .int .i64 ((a : Nat) : Int)) (hy : ev y = .int .i64 0) (hb : decide (0 < a) = b) : (execOp ev o).run Tryz.prog W = .ok (.value (.bool b)) W := by
  have h : decide ((0 : Int) < ((a : Nat) : Int)) = b := by rw [← hb]; simp
  simp [execOp, ho, hx, hy]
  go_simp
theorem exec_eqN {ev : Operand → Value} {o : Oper} {x y : Operand} {a c : Nat} {b : Bool} {W : World} (ho : o.op = .binOp .eql 3 x y 3) (hx : ev x = .int .i64 ((a : Nat) : Int)) (hy : ev y = .int .i64 ((c : Nat) : Int)) (hb : (a == c) = b) : (execOp ev o).run Tryz.prog W = .ok (.value (.bool b)) W := by
  have h : (((a : Nat) : Int) == ((c : Nat) : Int)) = b := by
    rw [← hb]
    by_cases e : a = c
    · subst e; simp
    · rw [beq_eq_false_iff_ne.2 e, beq_eq_false_iff_ne]; omega
  simp [execOp, ho, hx, hy]
  go_simp
theorem exec_pick {P : Program} {ev : Operand → Value} {o : Oper} {x y z : Operand} {b : Bool} {v : Value} {W : World} (ho : o.op = .pick x y z) (hx : ev x = .bool b) (hv : (if b then ev y else ev z) = v) : (execOp ev o).run P W = .ok (.value v) W := by
  subst hv
  cases b <;> simp [execOp, ho, hx, asBool]
theorem exec_fldDr {ev : Operand → Value} {o : Oper} {x : Operand} {b : Nat} {W : World} (k : Nat) (ho : o.op = .fieldAddr 49 x k) (hx : ev x = .pointer (some ⟨b, 0, none⟩)) (hk : k = 0 ∨ k = 1 ∨ k = 2) : (execOp ev o).run Tryz.prog W = .ok (.value (.pointer (some ⟨b, k, none⟩))) W := by
  rcases hk with rfl | rfl | rfl <;> simp [execOp, ho, hx] <;> go_simp
theorem exec_ldDr {ev : Operand → Value} {o : Oper} {x : Operand} {g : Nat} {W : World} {b n v : Value} (ho : o.op = .load 49 x) (hx : ev x = .pointer (some ⟨g, 0, none⟩)) (hg : W.heap[g]? = some (.cells #[b, n, v] 49 (0, 0))) :
    (execOp ev o).run Tryz.prog W = .ok (.value (.agg #[b, n, v])) W := by
  have h := run_loadVar_row (P := Tryz.prog) W g 49 49 #[b, n, v] (0, 0) _ hg Tryz.underlying49 rfl (by kernel_rfl)
  simp only [execOp, ho, hx, Instr.loadAt, Instr.sureAddr, Sem.run_bind, Sem.run_pure, Result.andThen_ok, h]
def overL (n : Nat) (ls : List RL) : Bool := decide (0 < atL 3 0 ls) || (cntL 2 ls n == n)
set_option maxHeartbeats 4000000 in
theorem rover_c (b : Int) (n : Nat) (hn : n ≤ 1000000) (v : Value) (ls : List RL) (W : World) (hr : ReadsL W v ls) (hl : ls.length ≤ 1000000) :
    Calls Tryz.prog 58 #[.agg #[.int .i64 b, .int .i64 ((n : Nat) : Int), v]] W fun e w' => e = .returned (.bool (overL n ls)) ∧ Below W.heap.size W w' := by
  have hx := heap_alloc_new W (.cells #[.int .i64 b, .int .i64 ((n : Nat) : Int), v] 49)
  have hal : Below W.heap.size W (W.alloc (.cells #[.int .i64 b, .int .i64 ((n : Nat) : Int), v] 49)) := (Below.refl _ _).alloc (Nat.le_refl _) _
  have HAT := hid (fun V (hV : Below W.heap.size W V) => rat_c b ((n : Nat) : Int) v ls 3 0 V (hr.below hV) hl)
  have HCT := hid (fun V (hV : Below W.heap.size W V) => rcount_c b n hn v ls 2 V (hr.below hV) hl)
  unfold overL
  obtain ⟨a, ha⟩ : ∃ a, atL 3 0 ls = a := ⟨_, rfl⟩
  obtain ⟨c, hc⟩ : ∃ c, cntL 2 ls n = c := ⟨_, rfl⟩
  rw [ha] at HAT ⊢
  rw [hc] at HCT ⊢
  obtain ⟨e, he2⟩ : ∃ e, (c == n) = e := ⟨_, rfl⟩
  rw [he2]
  obtain ⟨rr, hrr⟩ : ∃ rr, (decide (0 < a) || e) = rr := ⟨_, rfl⟩
  rw [hrr]
  have HD := hid (And.intro hx hal)
  clear hr hal hx ha hc
  go_enter Tryz.func58, Tryz.ntmps58
  go_upto_region 1 with fail
  generalize W.alloc (.cells #[.int .i64 b, .int .i64 ((n : Nat) : Int), v] 49) = W0 at HD ⊢
  obtain ⟨g, hg⟩ : ∃ g, W.heap.size = g := ⟨_, rfl⟩
  rw [hg]
  replace HD : Hid (W0.heap[g]? = some (.cells #[.int .i64 b, .int .i64 ((n : Nat) : Int), v] 49 (0, 0)) ∧ Below W.heap.size W W0) := hg ▸ HD
  have HG := hid hg
  clear hg
  cases d2 : decide (0 < a) with
  | true =>
    rw [d2, Bool.true_or] at hrr
    subst hrr
    refine grow_regionG 10 [3, 4, 5, 6, 7, 8, 9, 10, 11, 12] (by kernel_rfl) (by kernel_rfl) (KV [(.agg #[.int .i64 b, .int .i64 ((n : Nat) : Int), v]), (.int .i64 ((a : Nat) : Int)), (.bool true), (.bool true), undef, undef, undef, undef, undef, (.bool true)]) (fun _ _ _ => False) (fun _ _ _ _ _ h => h) (fun _ _ _ _ _ h => h.elim) ?_ ?_
    · intro jq oj hjq hoj a' w' hb' he hdep K hK
      have c0 := heap_below hb' HD.out.1 (heap_lt HD.out.1)
      have cb := HD.out.2.trans (hb'.mono HD.out.2.size)
      rcases (show jq = 0 ∨ jq = 1 ∨ jq = 2 ∨ jq = 3 ∨ jq = 4 ∨ jq = 5 ∨ jq = 6 ∨ jq = 7 ∨ jq = 8 ∨ jq = 9 by omega) with rfl | rfl | rfl | rfl | rfl | rfl | rfl | rfl | rfl | rfl
      · obtain rfl := Option.some.inj hoj
        exact gG_none rfl (wpO_val _ (exec_ldDr rfl ((he 1 (by decide)).trans rfl : a'.eval (.tmp 1) = (.pointer (some ⟨g, 0, none⟩))) c0) (hK _ _ (Below.refl _ _) rfl (fun b h => h.elim)))
      · obtain rfl := Option.some.inj hoj
        exact gG_none rfl (wpO_call _ _ (exec_call3 rfl rfl ((hdep ⟨0, .data⟩ (by simp) rfl : (KV [(.agg #[.int .i64 b, .int .i64 ((n : Nat) : Int), v]), (.int .i64 ((a : Nat) : Int)), (.bool true), (.bool true), undef, undef, undef, undef, undef, (.bool true)]) 0 _ _) : a'.eval (.tmp 3) = (.agg #[.int .i64 b, .int .i64 ((n : Nat) : Int), v])) rfl rfl (by go_simp)) ((HAT.out w' cb).mono fun e w'' ⟨h1, h2⟩ => ⟨_, h1, hK _ w'' h2 rfl (fun b h => h.elim)⟩))
      · obtain rfl := Option.some.inj hoj
        exact gG_none rfl (wpO_val _ (exec_gtr0 rfl ((hdep ⟨1, .data⟩ (by simp) rfl : (KV [(.agg #[.int .i64 b, .int .i64 ((n : Nat) : Int), v]), (.int .i64 ((a : Nat) : Int)), (.bool true), (.bool true), undef, undef, undef, undef, undef, (.bool true)]) 1 _ _) : a'.eval (.tmp 4) = (.int .i64 ((a : Nat) : Int))) rfl d2) (hK _ _ (Below.refl _ _) rfl (fun b h => h.elim)))
      · obtain rfl := Option.some.inj hoj
        exact gG_none rfl (wpO_val _ (exec_mv rfl ((hdep ⟨2, .data⟩ (by simp) rfl : (KV [(.agg #[.int .i64 b, .int .i64 ((n : Nat) : Int), v]), (.int .i64 ((a : Nat) : Int)), (.bool true), (.bool true), undef, undef, undef, undef, undef, (.bool true)]) 2 _ _) : a'.eval (.tmp 5) = (.bool true))) (hK _ _ (Below.refl _ _) rfl (fun b h => h.elim)))
      · obtain rfl := Option.some.inj hoj
        exact gG_off rfl ((hdep ⟨3, .guard⟩ (by simp) rfl : (KV [(.agg #[.int .i64 b, .int .i64 ((n : Nat) : Int), v]), (.int .i64 ((a : Nat) : Int)), (.bool true), (.bool true), undef, undef, undef, undef, undef, (.bool true)]) 3 _ _) : a'.eval (.tmp 6) = (.bool true)) (by decide) (hK _ _ (Below.refl _ _) rfl (fun b h => h.elim))
      · obtain rfl := Option.some.inj hoj
        exact gG_off rfl ((hdep ⟨3, .guard⟩ (by simp) rfl : (KV [(.agg #[.int .i64 b, .int .i64 ((n : Nat) : Int), v]), (.int .i64 ((a : Nat) : Int)), (.bool true), (.bool true), undef, undef, undef, undef, undef, (.bool true)]) 3 _ _) : a'.eval (.tmp 6) = (.bool true)) (by decide) (hK _ _ (Below.refl _ _) rfl (fun b h => h.elim))
      · obtain rfl := Option.some.inj hoj
        exact gG_off rfl ((hdep ⟨3, .guard⟩ (by simp) rfl : (KV [(.agg #[.int .i64 b, .int .i64 ((n : Nat) : Int), v]), (.int .i64 ((a : Nat) : Int)), (.bool true), (.bool true), undef, undef, undef, undef, undef, (.bool true)]) 3 _ _) : a'.eval (.tmp 6) = (.bool true)) (by decide) (hK _ _ (Below.refl _ _) rfl (fun b h => h.elim))
      · obtain rfl := Option.some.inj hoj
        exact gG_off rfl ((hdep ⟨3, .guard⟩ (by simp) rfl : (KV [(.agg #[.int .i64 b, .int .i64 ((n : Nat) : Int), v]), (.int .i64 ((a : Nat) : Int)), (.bool true), (.bool true), undef, undef, undef, undef, undef, (.bool true)]) 3 _ _) : a'.eval (.tmp 6) = (.bool true)) (by decide) (hK _ _ (Below.refl _ _) rfl (fun b h => h.elim))
      · obtain rfl := Option.some.inj hoj
        exact gG_off rfl ((hdep ⟨3, .guard⟩ (by simp) rfl : (KV [(.agg #[.int .i64 b, .int .i64 ((n : Nat) : Int), v]), (.int .i64 ((a : Nat) : Int)), (.bool true), (.bool true), undef, undef, undef, undef, undef, (.bool true)]) 3 _ _) : a'.eval (.tmp 6) = (.bool true)) (by decide) (hK _ _ (Below.refl _ _) rfl (fun b h => h.elim))
      · obtain rfl := Option.some.inj hoj
        exact gG_none rfl (wpO_val _ (exec_pick rfl ((hdep ⟨3, .data⟩ (by simp) rfl : (KV [(.agg #[.int .i64 b, .int .i64 ((n : Nat) : Int), v]), (.int .i64 ((a : Nat) : Int)), (.bool true), (.bool true), undef, undef, undef, undef, undef, (.bool true)]) 3 _ _) : a'.eval (.tmp 6) = (.bool true)) rfl) (hK _ _ (Below.refl _ _) rfl (fun b h => h.elim)))
    intro vq w6 hb6 hD _ _
    have hv0 : vq 0 = (.agg #[.int .i64 b, .int .i64 ((n : Nat) : Int), v]) := hD 0 (by omega)
    have hv1 : vq 1 = (.int .i64 ((a : Nat) : Int)) := hD 1 (by omega)
    have hv2 : vq 2 = (.bool true) := hD 2 (by omega)
    have hv3 : vq 3 = (.bool true) := hD 3 (by omega)
    have hv4 : vq 4 = undef := hD 4 (by omega)
    have hv5 : vq 5 = undef := hD 5 (by omega)
    have hv6 : vq 6 = undef := hD 6 (by omega)
    have hv7 : vq 7 = undef := hD 7 (by omega)
    have hv8 : vq 8 = undef := hD 8 (by omega)
    have hv9 : vq 9 = (.bool true) := hD 9 (by omega)
    simp only [puts, Act.put, List.setIfInBounds_toArray, List.set_cons_zero, List.set_cons_succ, hv0, hv1, hv2, hv3, hv4, hv5, hv6, hv7, hv8, hv9, List.drop_succ_cons, List.drop_zero, Nat.zero_add, Nat.reduceAdd]
    have HB6 := hid hb6
    clear hD hb6 hv0 hv1 hv2 hv3 hv4 hv5 hv6 hv7 hv8 hv9
    go_wp2_with fail
    go_ret
    exact ⟨rfl, HG.out ▸ HD.out.2.trans (HB6.out.mono HD.out.2.size)⟩
  | false =>
    rw [d2, Bool.false_or] at hrr
    subst hrr
    refine grow_regionG 10 [3, 4, 5, 6, 7, 8, 9, 10, 11, 12] (by kernel_rfl) (by kernel_rfl) (KV [(.agg #[.int .i64 b, .int .i64 ((n : Nat) : Int), v]), (.int .i64 ((a : Nat) : Int)), (.bool false), (.bool false), (.agg #[.int .i64 b, .int .i64 ((n : Nat) : Int), v]), (.int .i64 ((c : Nat) : Int)), (.pointer (some ⟨g, 1, none⟩)), (.int .i64 ((n : Nat) : Int)), (.bool e), (.bool e)]) (fun _ _ _ => False) (fun _ _ _ _ _ h => h) (fun _ _ _ _ _ h => h.elim) ?_ ?_
    · intro jq oj hjq hoj a' w' hb' he hdep K hK
      have c0 := heap_below hb' HD.out.1 (heap_lt HD.out.1)
      have cb := HD.out.2.trans (hb'.mono HD.out.2.size)
      rcases (show jq = 0 ∨ jq = 1 ∨ jq = 2 ∨ jq = 3 ∨ jq = 4 ∨ jq = 5 ∨ jq = 6 ∨ jq = 7 ∨ jq = 8 ∨ jq = 9 by omega) with rfl | rfl | rfl | rfl | rfl | rfl | rfl | rfl | rfl | rfl
      · obtain rfl := Option.some.inj hoj
        exact gG_none rfl (wpO_val _ (exec_ldDr rfl ((he 1 (by decide)).trans rfl : a'.eval (.tmp 1) = (.pointer (some ⟨g, 0, none⟩))) c0) (hK _ _ (Below.refl _ _) rfl (fun b h => h.elim)))
      · obtain rfl := Option.some.inj hoj
        exact gG_none rfl (wpO_call _ _ (exec_call3 rfl rfl ((hdep ⟨0, .data⟩ (by simp) rfl : (KV [(.agg #[.int .i64 b, .int .i64 ((n : Nat) : Int), v]), (.int .i64 ((a : Nat) : Int)), (.bool false), (.bool false), (.agg #[.int .i64 b, .int .i64 ((n : Nat) : Int), v]), (.int .i64 ((c : Nat) : Int)), (.pointer (some ⟨g, 1, none⟩)), (.int .i64 ((n : Nat) : Int)), (.bool e), (.bool e)]) 0 _ _) : a'.eval (.tmp 3) = (.agg #[.int .i64 b, .int .i64 ((n : Nat) : Int), v])) rfl rfl (by go_simp)) ((HAT.out w' cb).mono fun e w'' ⟨h1, h2⟩ => ⟨_, h1, hK _ w'' h2 rfl (fun b h => h.elim)⟩))
      · obtain rfl := Option.some.inj hoj
        exact gG_none rfl (wpO_val _ (exec_gtr0 rfl ((hdep ⟨1, .data⟩ (by simp) rfl : (KV [(.agg #[.int .i64 b, .int .i64 ((n : Nat) : Int), v]), (.int .i64 ((a : Nat) : Int)), (.bool false), (.bool false), (.agg #[.int .i64 b, .int .i64 ((n : Nat) : Int), v]), (.int .i64 ((c : Nat) : Int)), (.pointer (some ⟨g, 1, none⟩)), (.int .i64 ((n : Nat) : Int)), (.bool e), (.bool e)]) 1 _ _) : a'.eval (.tmp 4) = (.int .i64 ((a : Nat) : Int))) rfl d2) (hK _ _ (Below.refl _ _) rfl (fun b h => h.elim)))
      · obtain rfl := Option.some.inj hoj
        exact gG_none rfl (wpO_val _ (exec_mv rfl ((hdep ⟨2, .data⟩ (by simp) rfl : (KV [(.agg #[.int .i64 b, .int .i64 ((n : Nat) : Int), v]), (.int .i64 ((a : Nat) : Int)), (.bool false), (.bool false), (.agg #[.int .i64 b, .int .i64 ((n : Nat) : Int), v]), (.int .i64 ((c : Nat) : Int)), (.pointer (some ⟨g, 1, none⟩)), (.int .i64 ((n : Nat) : Int)), (.bool e), (.bool e)]) 2 _ _) : a'.eval (.tmp 5) = (.bool false))) (hK _ _ (Below.refl _ _) rfl (fun b h => h.elim)))
      · obtain rfl := Option.some.inj hoj
        exact gG_on rfl ((hdep ⟨3, .guard⟩ (by simp) rfl : (KV [(.agg #[.int .i64 b, .int .i64 ((n : Nat) : Int), v]), (.int .i64 ((a : Nat) : Int)), (.bool false), (.bool false), (.agg #[.int .i64 b, .int .i64 ((n : Nat) : Int), v]), (.int .i64 ((c : Nat) : Int)), (.pointer (some ⟨g, 1, none⟩)), (.int .i64 ((n : Nat) : Int)), (.bool e), (.bool e)]) 3 _ _) : a'.eval (.tmp 6) = (.bool false)) (wpO_val _ (exec_ldDr rfl ((he 1 (by decide)).trans rfl : a'.eval (.tmp 1) = (.pointer (some ⟨g, 0, none⟩))) c0) (hK _ _ (Below.refl _ _) rfl (fun b h => h.elim)))
      · obtain rfl := Option.some.inj hoj
        exact gG_on rfl ((hdep ⟨3, .guard⟩ (by simp) rfl : (KV [(.agg #[.int .i64 b, .int .i64 ((n : Nat) : Int), v]), (.int .i64 ((a : Nat) : Int)), (.bool false), (.bool false), (.agg #[.int .i64 b, .int .i64 ((n : Nat) : Int), v]), (.int .i64 ((c : Nat) : Int)), (.pointer (some ⟨g, 1, none⟩)), (.int .i64 ((n : Nat) : Int)), (.bool e), (.bool e)]) 3 _ _) : a'.eval (.tmp 6) = (.bool false)) (wpO_call _ _ (exec_call2 rfl rfl ((hdep ⟨4, .data⟩ (by simp) rfl : (KV [(.agg #[.int .i64 b, .int .i64 ((n : Nat) : Int), v]), (.int .i64 ((a : Nat) : Int)), (.bool false), (.bool false), (.agg #[.int .i64 b, .int .i64 ((n : Nat) : Int), v]), (.int .i64 ((c : Nat) : Int)), (.pointer (some ⟨g, 1, none⟩)), (.int .i64 ((n : Nat) : Int)), (.bool e), (.bool e)]) 4 _ _) : a'.eval (.tmp 7) = (.agg #[.int .i64 b, .int .i64 ((n : Nat) : Int), v])) rfl (by go_simp)) ((HCT.out w' cb).mono fun e w'' ⟨h1, h2⟩ => ⟨_, h1, hK _ w'' h2 rfl (fun b h => h.elim)⟩))
      · obtain rfl := Option.some.inj hoj
        exact gG_on rfl ((hdep ⟨3, .guard⟩ (by simp) rfl : (KV [(.agg #[.int .i64 b, .int .i64 ((n : Nat) : Int), v]), (.int .i64 ((a : Nat) : Int)), (.bool false), (.bool false), (.agg #[.int .i64 b, .int .i64 ((n : Nat) : Int), v]), (.int .i64 ((c : Nat) : Int)), (.pointer (some ⟨g, 1, none⟩)), (.int .i64 ((n : Nat) : Int)), (.bool e), (.bool e)]) 3 _ _) : a'.eval (.tmp 6) = (.bool false)) (wpO_val _ (exec_fldDr 1 rfl ((he 1 (by decide)).trans rfl : a'.eval (.tmp 1) = (.pointer (some ⟨g, 0, none⟩))) (by simp)) (hK _ _ (Below.refl _ _) rfl (fun b h => h.elim)))
      · obtain rfl := Option.some.inj hoj
        exact gG_on rfl ((hdep ⟨3, .guard⟩ (by simp) rfl : (KV [(.agg #[.int .i64 b, .int .i64 ((n : Nat) : Int), v]), (.int .i64 ((a : Nat) : Int)), (.bool false), (.bool false), (.agg #[.int .i64 b, .int .i64 ((n : Nat) : Int), v]), (.int .i64 ((c : Nat) : Int)), (.pointer (some ⟨g, 1, none⟩)), (.int .i64 ((n : Nat) : Int)), (.bool e), (.bool e)]) 3 _ _) : a'.eval (.tmp 6) = (.bool false)) (wpO_val _ (exec_ldcellB rfl ((hdep ⟨6, .data⟩ (by simp) rfl : (KV [(.agg #[.int .i64 b, .int .i64 ((n : Nat) : Int), v]), (.int .i64 ((a : Nat) : Int)), (.bool false), (.bool false), (.agg #[.int .i64 b, .int .i64 ((n : Nat) : Int), v]), (.int .i64 ((c : Nat) : Int)), (.pointer (some ⟨g, 1, none⟩)), (.int .i64 ((n : Nat) : Int)), (.bool e), (.bool e)]) 6 _ _) : a'.eval (.tmp 9) = (.pointer (some ⟨g, 1, none⟩))) (cell_of_row _ _ 1 _ _ _ c0)) (hK _ _ (Below.refl _ _) rfl (fun b h => h.elim)))
      · obtain rfl := Option.some.inj hoj
        exact gG_on rfl ((hdep ⟨3, .guard⟩ (by simp) rfl : (KV [(.agg #[.int .i64 b, .int .i64 ((n : Nat) : Int), v]), (.int .i64 ((a : Nat) : Int)), (.bool false), (.bool false), (.agg #[.int .i64 b, .int .i64 ((n : Nat) : Int), v]), (.int .i64 ((c : Nat) : Int)), (.pointer (some ⟨g, 1, none⟩)), (.int .i64 ((n : Nat) : Int)), (.bool e), (.bool e)]) 3 _ _) : a'.eval (.tmp 6) = (.bool false)) (wpO_val _ (exec_eqN rfl ((hdep ⟨5, .data⟩ (by simp) rfl : (KV [(.agg #[.int .i64 b, .int .i64 ((n : Nat) : Int), v]), (.int .i64 ((a : Nat) : Int)), (.bool false), (.bool false), (.agg #[.int .i64 b, .int .i64 ((n : Nat) : Int), v]), (.int .i64 ((c : Nat) : Int)), (.pointer (some ⟨g, 1, none⟩)), (.int .i64 ((n : Nat) : Int)), (.bool e), (.bool e)]) 5 _ _) : a'.eval (.tmp 8) = (.int .i64 ((c : Nat) : Int))) ((hdep ⟨7, .data⟩ (by simp) rfl : (KV [(.agg #[.int .i64 b, .int .i64 ((n : Nat) : Int), v]), (.int .i64 ((a : Nat) : Int)), (.bool false), (.bool false), (.agg #[.int .i64 b, .int .i64 ((n : Nat) : Int), v]), (.int .i64 ((c : Nat) : Int)), (.pointer (some ⟨g, 1, none⟩)), (.int .i64 ((n : Nat) : Int)), (.bool e), (.bool e)]) 7 _ _) : a'.eval (.tmp 10) = (.int .i64 ((n : Nat) : Int))) he2) (hK _ _ (Below.refl _ _) rfl (fun b h => h.elim)))
      · obtain rfl := Option.some.inj hoj
        exact gG_none rfl (wpO_val _ (exec_pick rfl ((hdep ⟨3, .data⟩ (by simp) rfl : (KV [(.agg #[.int .i64 b, .int .i64 ((n : Nat) : Int), v]), (.int .i64 ((a : Nat) : Int)), (.bool false), (.bool false), (.agg #[.int .i64 b, .int .i64 ((n : Nat) : Int), v]), (.int .i64 ((c : Nat) : Int)), (.pointer (some ⟨g, 1, none⟩)), (.int .i64 ((n : Nat) : Int)), (.bool e), (.bool e)]) 3 _ _) : a'.eval (.tmp 6) = (.bool false)) ((hdep ⟨8, .data⟩ (by simp) rfl : (KV [(.agg #[.int .i64 b, .int .i64 ((n : Nat) : Int), v]), (.int .i64 ((a : Nat) : Int)), (.bool false), (.bool false), (.agg #[.int .i64 b, .int .i64 ((n : Nat) : Int), v]), (.int .i64 ((c : Nat) : Int)), (.pointer (some ⟨g, 1, none⟩)), (.int .i64 ((n : Nat) : Int)), (.bool e), (.bool e)]) 8 _ _) : a'.eval (.tmp 11) = (.bool e))) (hK _ _ (Below.refl _ _) rfl (fun b h => h.elim)))
    intro vq w6 hb6 hD _ _
    have hv0 : vq 0 = (.agg #[.int .i64 b, .int .i64 ((n : Nat) : Int), v]) := hD 0 (by omega)
    have hv1 : vq 1 = (.int .i64 ((a : Nat) : Int)) := hD 1 (by omega)
    have hv2 : vq 2 = (.bool false) := hD 2 (by omega)
    have hv3 : vq 3 = (.bool false) := hD 3 (by omega)
    have hv4 : vq 4 = (.agg #[.int .i64 b, .int .i64 ((n : Nat) : Int), v]) := hD 4 (by omega)
    have hv5 : vq 5 = (.int .i64 ((c : Nat) : Int)) := hD 5 (by omega)
    have hv6 : vq 6 = (.pointer (some ⟨g, 1, none⟩)) := hD 6 (by omega)
    have hv7 : vq 7 = (.int .i64 ((n : Nat) : Int)) := hD 7 (by omega)
    have hv8 : vq 8 = (.bool e) := hD 8 (by omega)
    have hv9 : vq 9 = (.bool e) := hD 9 (by omega)
    simp only [puts, Act.put, List.setIfInBounds_toArray, List.set_cons_zero, List.set_cons_succ, hv0, hv1, hv2, hv3, hv4, hv5, hv6, hv7, hv8, hv9, List.drop_succ_cons, List.drop_zero, Nat.zero_add, Nat.reduceAdd]
    have HB6 := hid hb6
    clear hD hb6 hv0 hv1 hv2 hv3 hv4 hv5 hv6 hv7 hv8 hv9
    go_wp2_with fail
    go_ret
    exact ⟨rfl, HG.out ▸ HD.out.2.trans (HB6.out.mono HD.out.2.size)⟩
end Go.Proofs.YtbcileppebpamaaGreatDoor
