/- Walks of package hand: layers, states, lasts. -/
import Derived.Test.YtmjnelkeiogdcaaHO
import Derived.Test.YtmjnelkeiogdcaaHK
import Derived.Test.YtmjnelkeiogdcaaP6
import Derived.Test.YtmjnelkeiogdcaaRH
set_option linter.unusedSimpArgs false
set_option linter.unusedVariables false
namespace Go.Proofs.Ytmjnelkeiogdcaa
open Go Go.RowKit Go.Shelf
set_option maxRecDepth 100000

theorem layers_c (N : Nat) (H : HV) (fv cv : Value) (s : St) (W : World) (hH : HandAt W N H fv cv) :
    Calls Try.prog 42 #[.agg (handA H fv cv), encS s] W fun e w' => e = .returned (.func (.func 67) #[] #[.pointer (some ⟨W.heap.size + 1, 0, none⟩), .pointer (some ⟨W.heap.size, 0, none⟩)]) ∧ Below W.heap.size W w' ∧ w'.heap.size = W.heap.size + 2 ∧ LyAt w' N (W.heap.size + 1) W.heap.size H fv cv s := by
  have key : ∀ w', w' = (W.alloc (.cells (handA H fv cv) 26)).alloc (.cells #[encS s] 71) → Below W.heap.size W w' ∧ w'.heap.size = W.heap.size + 2 ∧ LyAt w' N (W.heap.size + 1) W.heap.size H fv cv s := by
    rintro w' rfl
    refine ⟨below2 _ _ _, by simp, alloc2_second _ _ _, alloc2_first _ _ _, hH.below ((below2 _ _ _).mono hH.le), Nat.le_trans hH.le (Nat.le_succ _)⟩
  have KEY := hid key
  clear key hH
  go_enter Try.func42, Try.ntmps42
  go_wp2_with fail
  go_ret
  exact ⟨rfl, KEY.out _ rfl⟩
theorem states_c (N : Nat) (H : HV) (fv cv : Value) (s : St) (W : World) (hH : HandAt W N H fv cv) :
    Calls Try.prog 72 #[.agg (handA H fv cv), encS s, .func (.func 73) #[] #[]] W fun e w' => e = .returned (.func (.func 77) #[] #[.pointer (some ⟨W.heap.size, 0, none⟩), .pointer (some ⟨W.heap.size + 1, 0, none⟩), .pointer (some ⟨W.heap.size + 2, 0, none⟩)]) ∧ Below W.heap.size W w' ∧ w'.heap.size = W.heap.size + 3 ∧ LyAt w' N (W.heap.size + 1) W.heap.size H fv cv s ∧ Boxed w' (W.heap.size + 2) 116 (.func (.func 73) #[] #[]) := by
  have key : ∀ w', w' = ((W.alloc (.cells (handA H fv cv) 26)).alloc (.cells #[encS s] 71)).alloc (.cells #[.func (.func 73) #[] #[]] 116) → Below W.heap.size W w' ∧ w'.heap.size = W.heap.size + 3 ∧ LyAt w' N (W.heap.size + 1) W.heap.size H fv cv s ∧ Boxed w' (W.heap.size + 2) 116 (.func (.func 73) #[] #[]) := by
    rintro w' rfl
    refine ⟨below3 _ _ _ _, by simp, ⟨alloc3_1 _ _ _ _, alloc3_0 _ _ _ _, hH.below ((below3 _ _ _ _).mono hH.le), Nat.le_trans hH.le (Nat.le_succ _)⟩, alloc3_2 _ _ _ _⟩
  have KEY := hid key
  clear key hH
  go_enter Try.func72, Try.ntmps72
  go_wp2_with fail
  go_ret
  exact ⟨rfl, KEY.out _ rfl⟩
/-- A state of stalks in which a step can be made, or none is left. -/
def okD : St → Bool
  | .divided l n => decide (l = 0) || decide (3 ≤ n)
  | _ => true
theorem assertD (a : Array Value) (W : World) : (Instr.typeAssert (.iface 102 (.agg a)) 71 102 false).run Try.prog W = .ok (.agg a) W := by
  unfold Instr.typeAssert
  simp [run_underlying Try.underlying102, run_underlying Try.underlying71]
theorem lasts1_c (l k : Nat) (m : Int) (W : World) : Calls Try.prog 73 #[encS (.divided l k), .int .i64 m] W fun e w' => e = .returned (.bool (okD (.divided l k))) ∧ Below W.heap.size W w' := by
  have hb : Below W.heap.size W (W.alloc (.cells (encA (.divided l k)) 102)) := (Below.refl _ _).alloc (Nat.le_refl _) _
  have HB := hid hb
  simp only [encA, encT, encS, okD] at HB ⊢
  have hta := assertD #[.int .i64 ((l : Nat) : Int), .int .i64 ((k : Nat) : Int)] W
  clear hb
  by_cases h0 : l = 0
  · have e0 : (((l : Nat) : Int) == 0) = true := by simp [h0]
    have d0 : decide (l = 0) = true := decide_eq_true h0
    rw [d0, Bool.true_or]
    clear h0
    go_enter Try.func73, Try.ntmps73
    go_wp2_with fail
    go_ret
    exact ⟨rfl, HB.out⟩
  · have e0 : (((l : Nat) : Int) == 0) = false := by simp; omega
    have d0 : decide (l = 0) = false := by simp [h0]
    rw [d0, Bool.false_or]
    by_cases h3 : 3 ≤ k
    · have e3 : decide ((3 : Int) ≤ ((k : Nat) : Int)) = true := decide_eq_true (by omega)
      have e3' : (3 : Int) ≤ ((k : Nat) : Int) := by omega
      have d3 : decide (3 ≤ k) = true := decide_eq_true h3
      rw [d3]
      go_enter Try.func73, Try.ntmps73
      go_wp2_with fail
      go_ret
      exact ⟨rfl, HB.out⟩
    · have e3 : decide ((3 : Int) ≤ ((k : Nat) : Int)) = false := decide_eq_false (by omega)
      have e3' : ¬ (3 : Int) ≤ ((k : Nat) : Int) := by omega
      have d3 : decide (3 ≤ k) = false := decide_eq_false h3
      rw [d3]
      go_enter Try.func73, Try.ntmps73
      go_wp2_with fail
      go_ret
      exact ⟨rfl, HB.out⟩
theorem roundIn_any {n m : Nat} {P : Program} {l l2 : Nat} {f : FuncId} {tmps : Array Value} {assign body : Code} {w : World} {R : Ending → World → Prop} (h : RoundIn Fence.wide n P l f tmps assign body w R) : RoundIn (Fence.wide.inRound l2) m P l f tmps assign body w R := ⟨h.1, fun c cs _ => h.2 c cs (room_wide _)⟩
theorem reach_div (H : HV) (l0 n0 : Nat) : ∀ k s, Reach H (.divided l0 n0) k s → ∃ l n, s = .divided l n
  | 0, s, h => ⟨l0, n0, h⟩
  | k + 1, s, ⟨u, hu, w, hw⟩ => by
    obtain ⟨l, n, rfl⟩ := reach_div H l0 n0 k u hu
    simp only [brs] at hw
    split at hw
    · cases hw
    · obtain ⟨i, _, e⟩ := List.mem_map.1 hw
      injection e with _ e
      exact ⟨_, _, e.symm⟩
/-- Where a step is empty all later ones are. -/
theorem reach_none {H : HV} {s0 : St} {m : Nat} (h : ∀ s, ¬ Reach H s0 m s) : ∀ k, m ≤ k → ∀ s, ¬ Reach H s0 k s := by
  intro k hk
  induction k with
  | zero =>
    have : m = 0 := by omega
    subst this
    exact h
  | succ k ih =>
    rcases Nat.eq_or_lt_of_le hk with rfl | hlt
    · exact h
    · rintro s ⟨u, hu, _⟩
      exact ih (by omega) u hu
def encSt (s : St) : Array Value := #[encS s]
theorem grown_trans {A B C : World} {r : Option Nat} (h : A.grownBy B r) (k : B.grownBy C r) : A.grownBy C r :=
  ⟨k.os.trans h.os, k.tape.trans h.tape, k.output.trans h.output, Nat.le_trans h.size k.size, fun b hb hr => (k.block b (Nat.lt_of_lt_of_le hb h.size) hr).trans (h.block b hb hr)⟩
theorem grownB {A B : World} {r : Nat} (h : A.grownBy B (some r)) {n : Nat} (hn : n ≤ A.heap.size) (hr : n ≤ r) : Below n A B :=
  ⟨h.os, h.tape, h.output, h.size, fun k hk => h.block k (by omega) (by simp; omega)⟩
theorem below_grown {A B : World} {r : Option Nat} (h : Below A.heap.size A B) : A.grownBy B r := ⟨h.os, h.tape, h.output, h.size, fun k hk _ => h.block k hk⟩
theorem KeepsL.grown {A B : World} {r : Nat} (h : A.grownBy B (some r)) {o : Obj} (ho : A.heap[r]? = some o) (hk : isBook o = false) : KeepsL A B :=
  ⟨h.size, fun k o' ho' hb => (h.block k (Array.getElem?_eq_some_iff.1 ho').1 (by intro e; simp at e; subst e; rw [ho] at ho'; cases ho'; rw [hk] at hb; cases hb)).trans ho'⟩
theorem KeptS.grown {S : Nat → Prop} {A B : World} {r : Nat} (h : A.grownBy B (some r)) {o : Obj} (ho : A.heap[r]? = some o) (hk : isBook o = false) (hr : ¬ S r) : KeptS S A B :=
  ⟨h.size, fun k hS o' ho' _ => (h.block k (Array.getElem?_eq_some_iff.1 ho').1 (by intro e; simp at e; subst e; exact hr hS)).trans ho',
   fun k x hx => (h.block k (Array.getElem?_eq_some_iff.1 hx).1 (by intro e; simp at e; subst e; rw [ho] at hx; cases hx; cases hk)).trans hx⟩
theorem grown_block {A B : World} {r : Nat} (h : A.grownBy B (some r)) {k : Nat} {o : Obj} (ho : A.heap[k]? = some o) (hne : k ≠ r) : B.heap[k]? = some o := (h.block k (Array.getElem?_eq_some_iff.1 ho).1 (by simp; exact hne)).trans ho
attribute [local go_sem] Oper.semAt_some
set_option maxHeartbeats 2000000 in
theorem states1_one (n : Nat) (hn : 16 ≤ n) (N bf bh bi : Nat) (H : HV) (fv cv : Value) (l0 n0 : Nat) (hF : Fit H (.divided l0 n0)) (w : World) (hw : LyAt w N bf bh H fv cv (.divided l0 n0)) (hi : Boxed w bi 116 (.func (.func 73) #[] #[])) :
    SeqOne Fence.wide n Try.prog 77 #[.pointer (some ⟨bh, 0, none⟩), .pointer (some ⟨bf, 0, none⟩), .pointer (some ⟨bi, 0, none⟩)] encSt (fun s _ => (∃ k, Reach H (.divided l0 n0) k s) ∧ okD s = false) (∀ k s, Reach H (.divided l0 n0) k s → okD s = true) w := by
  intro l Jx W hW hJx hY
  have hA := hw.below hW
  have hI := heap_below hW hi (heap_lt hi)
  have HRD := hid (reach_div H l0 n0)
  obtain ⟨s0, hs0⟩ : ∃ s0, St.divided l0 n0 = s0 := ⟨_, rfl⟩
  rw [hs0] at hA hF hY HRD ⊢
  have hy := heap_alloc_new W (.cells #[.func (.yield l) #[] #[]] 120)
  have hb1 : Below W.heap.size W (W.alloc (.cells #[.func (.yield l) #[] #[]] 120)) := (Below.refl _ _).alloc (Nat.le_refl _) _
  have hA1 := hA.below hb1
  have HX := hid hA1.hb
  have HFB := hid hA1.fb
  have HL := hid (layers_c N H fv cv s0 _ hA1.hand)
  have hI1 := heap_below hb1 hI (heap_lt hI)
  have HYB := hid hy
  have HIB := hid hI1
  have HB1 := hid hb1
  have HY := hid hY
  have HJX := hid hJx
  have hig : bi < W.heap.size := heap_lt hI
  clear hY hJx hA hI hy hA1 hI1 hw hi hb1
  refine callsIn_of_wp_marks Try.func77 rfl trivial ?_ rfl
  simp only [Try.ntmps77, List.size_toArray, List.length_cons, List.length_nil, Nat.reduceAdd, Nat.reduceSub, Array.replicate_succ, Array.replicate_zero, List.push_toArray, List.append_toArray, List.nil_append, List.cons_append]
  gi_wp2_with (first
    | (refine wpListIn_value lets_wide rfl (by intro c hc; cases hc) (.agg (handA H fv cv)) (exec_ldhand rfl rfl HX.out) ?_)
    | (refine wpListIn_value lets_wide rfl (by intro c hc; cases hc) (encS s0) (exec_ldstate rfl rfl HFB.out) ?_)
    | (gi_at_call 42; refine (callsIn_wide.2 HL.out).mono ?_; rintro e W2 ⟨rfl, hb2, hsz2, hly2⟩))
  have hs1 : (W.alloc (.cells #[.func (.yield l) #[] #[]] 120)).heap.size = W.heap.size + 1 := by simp
  have HY2 := hid (heap_below hb2 HYB.out (heap_lt HYB.out))
  have HI2 := hid (heap_below hb2 HIB.out (heap_lt HIB.out))
  have HB2 := hid (HB1.out.trans (hb2.mono (by simp)))
  rw [hs1] at hsz2 hly2
  obtain ⟨g, hg⟩ : ∃ g, W.heap.size = g := ⟨_, rfl⟩
  rw [hg] at hly2 hsz2 HY2 HB2 hig HY HJX ⊢
  have hSQ := layers1_seq (n - 1) (by omega) N (g + 1 + 1) (g + 1) (g + 1) (g + 1 + 2) ⟨by omega, by omega⟩ ⟨by omega, by omega⟩ H fv cv s0 hF W2 hly2
  have hNg := hly2.nb
  clear HX HFB HL hb2 hly2 hs1 HYB HIB HB1
  gi_wp2_with fail
  apply rg_outA rfl (show 1 ≤ n by omega) (gf := 67) (lb := #[.pointer (some ⟨g + 1 + 1, 0, none⟩), .pointer (some ⟨g + 1, 0, none⟩)]) rfl trivial (enters_of Try.func67 (by kernel_rfl) rfl) hSQ (fun _ => rfl)
    (fun pre V => (∀ k, k < pre.length → ∀ s, Reach H s0 k s → okD s = true) ∧ Boxed V g 120 (.func (.yield l) #[] #[]) ∧ Boxed V bi 116 (.func (.func 73) #[] #[]) ∧ Below g W V)
    (fun c _ V => c = .ret ∧ ∃ s, Jx s V)
    (fun pre => (Abd.pure _ _).and ((Abd.boxed _ _ _ _).and ((Abd.boxed _ _ _ _).and (Abd.belowOf (by omega) (by omega)))))
    (fun _ _ => (Abd.pure _ _).and (Abd.ex fun s => (HJX.out s).mono (by omega))) (fun pre b => Abd.ex fun L => (MapAt.abd _ b L).and (Abd.pure _ _)) ⟨fun k hk => absurd hk (by simp), HY2.out, HI2.out, HB2.out⟩
  case hassign =>
    intro l2 pre x V K hi ho hK
    gi_wp2_with fail
    first | rfl | exact hK _ rfl
  case hbody =>
    rintro l2 pre b V hl hr ⟨hok, hy3, hi3, hB3⟩ ⟨L, hMb, hLy⟩
    have hT : MapT 75 := Try.underlying75
    have hrng := run_rangeS hT hMb
    have hr5 := rangeS_new hMb
    have hb5 : Below V.heap.size V (V.alloc (.mapIter (some b) L.length #[] L.length)) := (Below.refl _ _).alloc (Nat.le_refl _) _
    have hit5 := World.alloc_heap_new V (.mapIter (some b) L.length #[] L.length)
    have hbl := hMb.lt
    have hlV : l2 < V.heap.size := by obtain ⟨r0, hr0⟩ := hr; exact heap_lt hr0
    have HR5 := hid hr5
    have HIT := hid hit5
    have HB5 := hid hb5
    have HY3 := hid hy3
    have HI3 := hid hi3
    have HB3 := hid hB3
    have HOK := hid hok
    have HLY := hid hLy
    clear hr5 hit5 hb5 hy3 hi3 hB3 hok hLy hMb hr
    gi_wp2_with fail
    obtain ⟨r, hrr⟩ : ∃ r, V.heap.size = r := ⟨_, rfl⟩
    rw [hrr] at HR5 HIT hbl hlV ⊢
    obtain ⟨V1, hV1⟩ : ∃ V1, V.alloc (.mapIter (some b) L.length #[] L.length) = V1 := ⟨_, rfl⟩
    rw [hV1] at HR5 HIT HB5 ⊢
    clear hV1 hrng
    gi_loopw [14] (fun _ X => ∃ vis, RangeS X r b L vis ∧ V1.grownBy X (some r) ∧ ∀ p ∈ vis, okD p.1 = true) (fun _ X => L.length - seenOf X r)
    case atStart => exact ⟨[], HR5.out, World.grownBy.refl _ _, fun p hp => by simp at hp⟩
    case round =>
      obtain ⟨vis, hrg, hgr, hvis⟩ := hrel
      rcases next_S hrg 0 with ⟨hperm, hrun⟩ | ⟨p, V3, hpL, hr3, hgr3, hsz3, hrun, hent⟩
      · have HKL := hid ((KeepsL.below HB5.out).trans (KeepsL.grown hgr HIT.out rfl))
        have HKS := hid ((KeptS.below (S := fun k => SBr N (g + 1) (g + 1 + 2) k ∨ k = b) HB5.out).trans (KeptS.grown hgr HIT.out rfl (by unfold SBr; omega)))
        have HOK2 := hid (show ∀ k, k < (pre ++ [b]).length → ∀ s, Reach H s0 k s → okD s = true from fun k hk s hs => by
          rcases Nat.lt_or_ge k pre.length with h | h
          · exact HOK.out k h s hs
          · have hk' : k = pre.length := by simp at hk; omega
            subst hk'
            obtain ⟨q, hq, rfl⟩ := List.mem_map.1 ((HLY.out.2.1 s).2 hs)
            exact hvis q (hperm.mem_iff.2 hq))
        have HY4 := hid (grown_block hgr (heap_below HB5.out HY3.out (heap_lt HY3.out)) (by have := heap_lt HY3.out; omega))
        have HI4 := hid (grown_block hgr (heap_below HB5.out HI3.out (heap_lt HI3.out)) (by have := heap_lt HI3.out; omega))
        have HB4 := hid (HB3.out.trans ((HB5.out.mono (by omega)).trans (grownB hgr (by have := HB5.out.size; omega) (by omega))))
        clear hperm hvis hrg hgr
        gi_wp2_with fail
        exact ⟨HKL.out, HKS.out, HOK2.out, HY4.out, HI4.out, HB4.out⟩
      · obtain ⟨ps, pm⟩ := p
        have hre := (HLY.out.2.1 ps).1 (List.mem_map.2 ⟨_, hpL, rfl⟩)
        obtain ⟨lq, nq, rfl⟩ := HRD.out _ _ hre
        have hgr4 := grown_trans hgr hgr3
        have hI4 := grown_block hgr4 (heap_below HB5.out HI3.out (heap_lt HI3.out)) (by have := heap_lt HI3.out; omega)
        have hY4 := grown_block hgr4 (heap_below HB5.out HY3.out (heap_lt HY3.out)) (by have := heap_lt HY3.out; omega)
        have ci : V3.cell? ⟨bi, 0, none⟩ = some (.func (.func 73) #[] #[]) := Boxed.cell hI4
        have hB4 := HB3.out.trans ((HB5.out.mono (by omega)).trans (grownB hgr4 (by have := HB5.out.size; omega) (by omega)))
        have hseen := hrg.seen
        have hlen3 := hr3.len
        have hl1 := grown_block hgr4 HIT.out
        clear hI4 hgr hgr3 hsz3 hpL
        cases hq : okD (.divided lq nq) with
        | true =>
          have HL1 := hid (hq ▸ lasts1_c lq nq pm V3)
          have HVIS := hid (show ∀ p ∈ vis ++ [((.divided lq nq, pm) : St × Int)], okD p.1 = true from fun p hp => by
            rcases List.mem_append.1 hp with hp | hp
            · exact hvis p hp
            · simp at hp; subst hp; exact hq)
          have HR3 := hid hr3
          have HG4 := hid hgr4
          have HSN := hid (show seenOf wr r = vis.length ∧ (vis ++ [((.divided lq nq, pm) : St × Int)]).length ≤ L.length from ⟨hseen, hlen3⟩)
          clear hvis hr3 hgr4 hY4 hB4 hrg hseen hlen3 hq hre hl1
          gi_wp2_with (gi_at_call 73; refine (CallsIn.inRound l2 (callsIn_wide.2 HL1.out)).mono ?_; rintro e X1 ⟨rfl, hbx⟩)
          go_roundw
          case rel => exact ⟨_, HR3.out.below hbx, grown_trans HG4.out (below_grown hbx), HVIS.out⟩
          case measure =>
            have h1 := (HR3.out.below hbx).seen
            have h2 := HSN.out
            rw [h1, h2.1]
            have := h2.2
            simp only [List.length_append, List.length_cons, List.length_nil] at this ⊢
            omega
        | false =>
          have HL1 := hid (hq ▸ lasts1_c lq nq pm V3)
          have HY4 := hid hY4
          have HB4 := hid hB4
          have HRE := hid hre
          have HQ := hid hq
          have HG4 := hid hgr4
          clear hvis hr3 hgr4 hY4 hB4 hrg hseen hlen3 hq hre hl1
          gi_wp2_with (gi_at_call 73; refine (CallsIn.inRound l2 (callsIn_wide.2 HL1.out)).mono ?_; rintro e X1 ⟨rfl, hbx⟩; have cy : X1.cell? ⟨g, 0, none⟩ = some (.func (.yield l) #[] #[]) := Boxed.cell (heap_below hbx HY4.out (heap_lt HY4.out)); obtain ⟨fn, tmps, assign, body, hy, hR⟩ := HY.out _ X1 (HB4.out.trans (hbx.mono (by have := HB4.out.size; omega))) ⟨⟨_, HRE.out⟩, HQ.out⟩; simp only [encSt] at hy; have HR := hid hR; have HBX := hid hbx; clear hR hbx)
          refine (roundIn_any HR.out).mono ?_
          clear HR hy
          rintro e X2 ⟨rfl, hj, hk, hlp⟩
          have HKR := hid (show KeepsR l2 V X2 from ⟨((KeptS.below HB5.out).trans ((KeptS.grown HG4.out HIT.out rfl (fun h => h)).trans (KeptS.below HBX.out))).trans hk, fun k q hkl ho => hlp k q (by omega) (heap_below HBX.out (grown_block HG4.out (heap_below HB5.out ho (heap_lt ho)) (fun e => by have := HB5.out.size; have := heap_lt ho; omega)) (by
            have h1 := grown_block HG4.out (heap_below HB5.out ho (heap_lt ho)) (fun e => by have := heap_lt ho; omega)
            exact heap_lt h1))⟩)
          have HJ2 := hid hj
          clear hj hk hlp
          gi_wp2_with fail
          exact ⟨HKR.out, rfl, _, HJ2.out⟩
  case hdone =>
    rintro D xs V hD hend ⟨hok, -, -, hB⟩ hmk
    have HOK := hid hok
    have HB := hid hB
    have HE := hid hend
    clear hok hB hend
    gi_wp2_with fail
    refine leaves_marks g [D] _ (by simp) (fun D' hD' => ?_) (fun W' hb' hc' => ?_)
    · obtain rfl : D' = D := by simpa using hD'
      exact ⟨hmk, by omega⟩
    · refine ⟨_, results_none rfl _ _ _, ⟨_, rfl⟩, .inl ⟨fun k s hr => ?_, by rw [hg]; exact HB.out.trans hb'⟩⟩
      refine HOK.out k (Classical.byContradiction fun hn => ?_) s hr
      exact reach_none HE.out k (by omega) s hr
  case hstop =>
    rintro D c pre V hD ⟨rfl, s, hj⟩ hmk
    have HJ2 := hid hj
    clear hj
    gi_wp2_with fail
    refine leaves_marksJ g (Jx s) (fun V' D' hD' => (HJX.out s).mark V' D' hD') [D] _ (by simp) (fun D' hD' => ?_) HJ2.out (fun W' hJ' => ?_)
    · obtain rfl : D' = D := by simpa using hD'
      exact ⟨hmk, by omega⟩
    · exact ⟨_, results_none rfl _ _ _, ⟨_, rfl⟩, .inr ⟨s, hJ'⟩⟩
end Go.Proofs.Ytmjnelkeiogdcaa
