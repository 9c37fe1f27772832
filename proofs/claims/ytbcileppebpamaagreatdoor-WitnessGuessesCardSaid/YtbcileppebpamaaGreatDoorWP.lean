/- Walks of package witness: Value. -/
import Derived.Test.YtbcileppebpamaaGreatDoorWO
set_option linter.unusedSimpArgs false
set_option linter.unusedVariables false
namespace Go.Proofs.YtbcileppebpamaaGreatDoor
open Go Go.RowKit Go.Shelf
set_option maxRecDepth 100000

@[go_sem] theorem wide_fn (f : FuncId) : Fence.wide.fn f = True := eq_true trivial
@[go_sem] theorem wideR_fn (l : Nat) (f : FuncId) : (Fence.wide.inRound l).fn f = True := eq_true trivial
@[go_sem] theorem wide_depth : Fence.wide.depth = none := rfl
@[go_sem] theorem wideRR_fn (l l2 : Nat) (f : FuncId) : ((Fence.wide.inRound l).inRound l2).fn f = True := eq_true trivial
theorem lets_round2 (l l2 : Nat) : Lets ((Fence.wide.inRound l).inRound l2) := ⟨fun _ => trivial, rfl, fun h => CallsIn.inRound l2 (CallsIn.inRound l (callsIn_wide.2 h)), fun h => show RowsIn Fence.wide _ _ _ _ _ _ from rows_wide h⟩
/-- A call by an interface, by its contract. -/
theorem wpListIn_enter {F : Fence} {m : Nat} {P : Program} {ops : Array Oper} (hF : Lets F) {rest : List Oper} {o : Oper} {Q : Exit → Act → World → Prop} {a : Act} {w : World} (hgd : o.guard = none) (hd : ∀ c, o.op ≠ .defer c) {f : FuncId} {args : Array Value} (hrun : (execOp a.eval o).run P w = .ok (.enter f args) w)
    (hK : Calls P f args w fun e w' => ∃ v, e = .returned v ∧ wpListIn F m P ops Q rest (a.put o.dst v) w') : wpListIn F m P ops Q (o :: rest) a w :=
  wpListIn_plain hgd fun K hK' => oper_in hF hd (fun _ _ h => h) (Q' := Q) (K := K) (by
    unfold Oper.wp
    rw [hrun]
    exact hK.mono fun e w' ⟨v, he, h⟩ => by subst he; exact hK' _ _ h)
/-- The marks of the ranges over functions, when the frame is left. -/
theorem leaves_marks {n : Nat} {fn : Func} {tmps : Array Value} {R : Ending → World → Prop} (g : Nat) : ∀ (Ds : List Nat) (W : World), Ds.Nodup → (∀ D ∈ Ds, W.heap[D]? = some (.deferred (some [])) ∧ g ≤ D) →
    (∀ W', Below g W W' → (∀ (b : Nat) (o : Obj), W.heap[b]? = some o → isBook o = false → W'.heap[b]? = some o) → ∃ v, (results fn tmps).run Tryz.prog W' = .ok v W' ∧ R (.returned v) W') →
    LeavesInM Fence.wide n Tryz.prog fn tmps R (Ds.map fun D => { target := .collected D, args := #[] }) .returning W
  | [], W, _, _, h => by
    obtain ⟨v, h1, h2⟩ := h W (Below.refl _ _) (fun _ _ h _ => h)
    exact ⟨v, h1, h2⟩
  | D :: Ds, W, hnd, hD, h => by
    obtain ⟨hd, hgD⟩ := hD D (List.mem_cons_self)
    refine ⟨by simp, .inl ⟨_, _, rfl, run_takeDeferred hd, ?_⟩⟩
    have hb : Below g W (W.putObj D (.deferred none)) := ⟨rfl, rfl, rfl, by simp, fun k hk => World.putObj_heap_other (by omega)⟩
    refine leaves_marks g Ds _ (List.nodup_cons.1 hnd).2 (fun D' hD' => ⟨?_, (hD D' (List.mem_cons_of_mem _ hD')).2⟩) (fun W' hbW hc => h W' (hb.trans hbW) fun b o hcell hcs => hc b o ?_ hcs)
    · refine (World.putObj_heap_other ?_).trans (hD D' (List.mem_cons_of_mem _ hD')).1
      rintro rfl
      exact (List.nodup_cons.1 hnd).1 hD'
    · refine (World.putObj_heap_other ?_).trans hcell
      rintro rfl
      rw [hd] at hcell
      cases hcell
      cases hcs
theorem Abd.boxed (B b : Nat) (t : TypeId) (v : Value) : Abd B fun W => Boxed W b t v := Abd.block B b _ rfl
theorem below2 (W : World) (o1 o2 : Obj) : Below W.heap.size W ((W.alloc o1).alloc o2) := ((Below.refl _ _).alloc (Nat.le_refl _) _).alloc (by simp) _
theorem alloc2_first (W : World) (o1 o2 : Obj) : ((W.alloc o1).alloc o2).heap[W.heap.size]? = some o1 := (Below.heap_alloc (W.alloc o1) o2 _ (by simp)).trans (World.alloc_heap_new W o1)
theorem alloc2_second (W : World) (o1 o2 : Obj) : ((W.alloc o1).alloc o2).heap[W.heap.size + 1]? = some o2 := by
  have := World.alloc_heap_new (W.alloc o1) o2
  rwa [World.size_alloc] at this
/-- Two results that lie in boxes of one cell. -/
theorem results_cell2 {P : Program} {fn : Func} {p q : Tmp} {T U : TypeId} (h : fn.results = #[.cell p T, .cell q U]) {tmps : Array Value} {W : World} {b c : Nat} {v u : Value} (hp : tmps.getD p undef = .pointer (some ⟨b, 0, none⟩)) (hq : tmps.getD q undef = .pointer (some ⟨c, 0, none⟩)) (ha : ∀ w, (isAgg T).run P w = .ok false w) (hb' : ∀ w, (isAgg U).run P w = .ok false w)
    (hb : Boxed W b T v) (hc : Boxed W c U u) : (results fn tmps).run P W = .ok (.tuple #[v, u]) W := by
  have hp' : tmps[p]?.getD undef = .pointer (some ⟨b, 0, none⟩) := by simpa using hp
  have hq' : tmps[q]?.getD undef = .pointer (some ⟨c, 0, none⟩) := by simpa using hq
  have h1 := hb.cell
  have h2 := hc.cell
  simp [results, h, hp', hq', asAddr]
  go_simp
theorem boxed2 {X : World} {g : Nat} {T U : TypeId} {v u : Value} (h0 : Boxed X g T v) (h1 : Boxed X (g + 1) U u) (v' u' : Value) : Boxed ((X.setCell ⟨g, 0, none⟩ v').setCell ⟨g + 1, 0, none⟩ u') g T v' ∧ Boxed ((X.setCell ⟨g, 0, none⟩ v').setCell ⟨g + 1, 0, none⟩ u') (g + 1) U u' :=
  ⟨(heap_setCell_other _ ⟨g + 1, 0, none⟩ g _ (show g ≠ g + 1 by omega)).trans (h0.set v'), Boxed.set u' ((heap_setCell_other _ ⟨g, 0, none⟩ (g + 1) _ (show g + 1 ≠ g by omega)).trans h1)⟩
theorem add2_c (b : Nat) (hb : 1 ≤ b ∧ b ≤ 1000000000) (x y : Int) (W : World) (g : Nat) (hg : W.heap[g]? = some (.cells #[.int .i64 x, .int .i64 y] 3 (0, 0))) :
    Calls Tryz.prog 63 #[.int .i64 ((b : Nat) : Int), .slice (some ⟨g, 0, none⟩) 2 2] W fun e w' => (∃ k : Bool, e = .returned (.tuple #[.int .i64 (((addO b [x, y] 0).getD 0 : Nat) : Int), .bool k])) ∧ Below W.heap.size W w' := by
  refine (add_c b hb [x, y] (.slice (some ⟨g, 0, none⟩) 2 2) W (.inr ⟨⟨g, 0, none⟩, 2, rfl, fun _ => heap_lt hg, fun k hk => by
    rcases k with _ | _ | k
    · exact cell_of_row W g 0 _ _ _ hg
    · exact cell_of_row W g 1 _ _ _ hg
    · exact absurd hk (by simp)⟩) (by simp)).mono ?_
  rintro e w' ⟨rfl, h⟩
  refine ⟨?_, h⟩
  cases addO b [x, y] 0 with
  | none => exact ⟨false, rfl⟩
  | some z => exact ⟨true, rfl⟩
/-- The number that was drawn. -/
def valN (b : Nat) : List PS → Nat → Nat
  | [], n => n
  | x :: l, n => valN b l ((addO b [((n : Nat) : Int), x.v] 0).getD 0)
def DS.valE (D : DS) : Int := if D.over = false then 9 else if D.devs = [] then 0 else 110
def DS.val (D : DS) : Int := if D.valE = 0 then ((valN D.below D.ps 0 : Nat) : Int) else 0
theorem valN_app (b : Nat) : ∀ (l m : List PS) (n : Nat), valN b (l ++ m) n = valN b m (valN b l n)
  | [], _, _ => rfl
  | x :: l, m, n => by rw [List.cons_append, valN, valN, valN_app b l m]
theorem addO_lt' (b : Nat) (xs : List Int) (hb : 0 < b) : (addO b xs 0).getD 0 < b := by
  cases h : addO b xs 0 with
  | none => simpa using hb
  | some z => exact addO_lt b hb xs 0 z hb h
theorem valN_lt (b : Nat) (hb : 0 < b) : ∀ (l : List PS) (n : Nat), n < b → valN b l n < b
  | [], _, h => h
  | x :: l, n, _ => valN_lt b hb l _ (addO_lt' b _ hb)
attribute [local go_sem] Oper.semAt_some
set_option maxHeartbeats 4000000 in
theorem Value_in (n : Nat) (hn : 4 ≤ n) {W : World} {B b q : Nat} {D : DS} (hd : DrawAt W B b q D) (hps : D.ps.length ≤ 30) (hbl : 1 ≤ D.below ∧ D.below ≤ 1000000000) :
    CallsIn Fence.wide n Tryz.prog 23 #[.pointer (some ⟨b, 0, none⟩)] W fun e W' => e = .returned (.tuple #[.int .i64 D.val, .int .i64 D.valE]) ∧ Below W.heap.size W W' := by
  have hx := alloc2_first W (.cells #[.int .i64 0] 3) (.cells #[.int .i64 0] 31)
  have hy := alloc2_second W (.cells #[.int .i64 0] 3) (.cells #[.int .i64 0] 31)
  have hb := below2 W (.cells #[.int .i64 0] 3) (.cells #[.int .i64 0] 31)
  have hs2 : ((W.alloc (.cells #[.int .i64 0] 3)).alloc (.cells #[.int .i64 0] 31)).heap.size = W.heap.size + 2 := by simp
  have hd2 := hd.below hb
  have HOV := hid (over_c B b q D _ hd2)
  obtain ⟨g, hg⟩ : ∃ g, W.heap.size = g := ⟨_, rfl⟩
  rw [hg] at hx hy hb hs2 ⊢
  have HG := hid hg
  have HX := hid hx
  have HY := hid hy
  have HB := hid hb
  have HD2 := hid hd2
  have hvl : valN D.below D.ps 0 < D.below := valN_lt _ (by omega) _ _ (by omega)
  obtain ⟨E, hE⟩ : ∃ E, D.valE = E := ⟨_, rfl⟩
  obtain ⟨V', hV⟩ : ∃ V', D.val = V' := ⟨_, rfl⟩
  rw [hE, hV]
  refine callsIn_of_wp_marks Tryz.func23 rfl trivial ?_ rfl
  simp only [Tryz.ntmps23, List.size_toArray, List.length_cons, List.length_nil, Nat.reduceAdd, Nat.reduceSub, Array.replicate_succ, Array.replicate_zero, List.push_toArray, List.append_toArray, List.nil_append, List.cons_append]
  clear hx hy hb hd hd2
  gi_upto_region 1 with fail
  generalize (W.alloc (.cells #[.int .i64 0] 3)).alloc (.cells #[.int .i64 0] 31) = W1 at HX HY HB HD2 HOV hs2 ⊢
  clear hg
  cases hov : D.over with
  | false =>
    rw [hov] at HOV
    obtain rfl : E = 9 := by rw [← hE]; simp [DS.valE, hov]
    obtain rfl : V' = 0 := by rw [← hV, DS.val, hE]; rfl
    clear hE hV
    have HXD := hid (show ∀ m, Boxed (W1.drewN m) g 3 (.int .i64 0) from fun m => heap_below (drewN_below W1 m) HX.out (heap_lt HX.out))
    have HYD := hid (show ∀ m, Boxed (W1.drewN m) (g + 1) 31 (.int .i64 0) from fun m => heap_below (drewN_below W1 m) HY.out (heap_lt HY.out))
    gi_wp2_with (gi_at_call 46; refine (callsIn_wide.2 HOV.out).mono ?_; rintro e W2 ⟨rfl, m, rfl⟩; have c0 := (HXD.out m).cell; have f0 := (HXD.out m).frozen; have c1 := (HYD.out m).cell; have f1 := (HYD.out m).frozen)
    refine leaves_marks g [] _ List.nodup_nil (fun M hM => by cases hM) (fun W' hb' hc' => ?_)
    have hB2 := boxed2 (HXD.out m) (HYD.out m) (.int .i64 0) (.int .i64 9)
    exact ⟨_, results_cell2 Tryz.results23 rfl rfl Tryz.isAgg3 Tryz.isAgg31 (hc' _ _ hB2.1 rfl) (hc' _ _ hB2.2 rfl), rfl, (((HB.out.trans ((drewN_below W1 m).mono (by omega))).setCell (p := ⟨g, 0, none⟩) (show g ≤ g by omega) (.int .i64 0)).setCell (p := ⟨g + 1, 0, none⟩) (show g ≤ g + 1 by omega) (.int .i64 9)).trans hb'⟩
  | true =>
    have hlast : ∀ X : World, Boxed X g 3 (.int .i64 0) → True := fun _ _ => trivial
    clear hlast
    have HXD := hid (show ∀ m, Boxed (W1.drewN m) g 3 (.int .i64 0) from fun m => heap_below (drewN_below W1 m) HX.out (heap_lt HX.out))
    have HYD := hid (show ∀ m, Boxed (W1.drewN m) (g + 1) 31 (.int .i64 0) from fun m => heap_below (drewN_below W1 m) HY.out (heap_lt HY.out))
    have HDD := hid (show ∀ m, DrawAt (W1.drewN m) B b q D from fun m => HD2.out.below (drewN_below W1 m))
    have HBD := hid (show ∀ m, Below g W (W1.drewN m) ∧ g + 2 ≤ (W1.drewN m).heap.size from fun m => ⟨HB.out.trans ((drewN_below W1 m).mono (by omega)), by have := (drewN_below W1 m).size; omega⟩)
    gi_wp2_with (gi_at_call 46; refine (callsIn_wide.2 HOV.out).mono ?_; rintro e W2 ⟨rfl, m, rfl⟩; have hx3 := HXD.out m; have hy3 := HYD.out m; have hd3 := HDD.out m; have hb3 := HBD.out m; generalize W1.drewN m = W2 at hx3 hy3 hd3 hb3 ⊢)
    have hSQ := dev_seq (n - 1) (by omega) b q D hps W2 hd3.dev
    have HX3 := hid hx3
    have HY3 := hid hy3
    have HD3 := hid hd3
    have HB3 := hid hb3.1
    have hsz3 := hb3.2
    clear HX HY HB HD2 HOV HXD HYD HDD HBD hx3 hy3 hd3 hb3 hs2
    apply rb_outA rfl (show 1 ≤ n by omega) (gf := 62) (pb := #[.pointer (some ⟨b, 0, none⟩)]) (lb := #[]) rfl trivial (enters_of Tryz.func62 (by kernel_rfl) rfl) hSQ (fun _ => rfl)
      (fun pre V => pre = [] ∧ Below W2.heap.size W2 V)
      (fun c pre V => c = .ret ∧ D.devs ≠ [] ∧ Boxed V g 3 (.int .i64 0) ∧ Boxed V (g + 1) 31 (.int .i64 110) ∧ Below g W V)
      (fun pre => (Abd.pure _ _).and (Abd.belowOf (Nat.le_refl _) (Nat.le_refl _))) (fun c pre => (Abd.pure _ _).and ((Abd.pure _ _).and ((Abd.boxed _ _ _ _).and ((Abd.boxed _ _ _ _).and (Abd.belowOf (by have := HG.out; omega) (by omega)))))) (fun pre x => Abd.pure _ _) ⟨rfl, Below.refl _ _⟩
    case hassign =>
      intro l pre x V K hi ho hK
      gi_wp2_with fail
      first | rfl | exact hK _ rfl
    case hbody =>
      rintro l pre x V hl hr ⟨rfl, hBV⟩ hok
      have hne : D.devs ≠ [] := by
        obtain ⟨rest, h⟩ := hok
        rw [h]
        simp
      have hx4 : Boxed V g 3 (.int .i64 0) := heap_below hBV HX3.out (heap_lt HX3.out)
      have hy4 : Boxed V (g + 1) 31 (.int .i64 0) := heap_below hBV HY3.out (heap_lt HY3.out)
      have c0 := hx4.cell
      have f0 := hx4.frozen
      have c1 := hy4.cell
      have f1 := hy4.frozen
      have HBX := hid (boxed2 hx4 hy4 (.int .i64 0) (.int .i64 110))
      have HKL := hid (((KeepsL.refl V).setCell (i := 0) (.int .i64 0) hx4).setCell (i := 0) (.int .i64 110) (show (V.setCell ⟨g, 0, none⟩ (.int .i64 0)).heap[g + 1]? = _ from (heap_setCell_other _ ⟨g, 0, none⟩ (g + 1) _ (show g + 1 ≠ g by omega)).trans hy4))
      have HB4 := hid (((HB3.out.trans (hBV.mono (by omega))).setCell (p := ⟨g, 0, none⟩) (show g ≤ g by omega) (.int .i64 0)).setCell (p := ⟨g + 1, 0, none⟩) (show g ≤ g + 1 by omega) (.int .i64 110))
      have HNE := hid hne
      clear hx4 hy4 hBV hok hne hr
      gi_wp2_with fail
      exact ⟨HKL.out.r l, rfl, HNE.out, HBX.out.1, HBX.out.2, HB4.out⟩
    case hstop =>
      rintro M c pre V hM ⟨rfl, hne, hx4, hy4, hB4⟩ hmk
      have HX4 := hid hx4
      have HY4 := hid hy4
      have HB4 := hid hB4
      obtain rfl : E = 110 := by rw [← hE]; simp [DS.valE, hov, hne]
      obtain rfl : V' = 0 := by rw [← hV, DS.val, hE]; rfl
      clear hx4 hy4 hB4 hE hV
      gi_wp2_with fail
      refine leaves_marks g [M] _ (by simp) (fun M' hM' => ?_) (fun W' hb' hc' => ?_)
      · obtain rfl : M' = M := by simpa using hM'
        exact ⟨hmk, by omega⟩
      · exact ⟨_, results_cell2 Tryz.results23 rfl rfl Tryz.isAgg3 Tryz.isAgg31 (hc' _ _ HX4.out rfl) (hc' _ _ HY4.out rfl), rfl, HB4.out.trans hb'⟩
    case hdone =>
      rintro M xs V hM hend ⟨rfl, hBV⟩ hmk
      have hde : D.devs = [] := hend.symm
      obtain rfl : E = 0 := by rw [← hE]; simp [DS.valE, hov, hde]
      have hVv : ((valN D.below D.ps 0 : Nat) : Int) = V' := by rw [← hV, DS.val, if_pos hE]
      have hx4 : Boxed V g 3 (.int .i64 0) := heap_below hBV HX3.out (heap_lt HX3.out)
      have hy4 : Boxed V (g + 1) 31 (.int .i64 0) := heap_below hBV HY3.out (heap_lt HY3.out)
      have hd4 := HD3.out.below hBV
      have k2 := hd4.dev.b2
      obtain ⟨m, hm⟩ : ∃ m, D.ps.length = m := ⟨_, rfl⟩
      have HM := hid hm
      rw [hm] at k2 hps
      have HX4 := hid hx4
      have HY4 := hid hy4
      have HD4 := hid hd4
      have HB4 := hid (HB3.out.trans (hBV.mono (by omega)))
      have HMK := hid hmk
      have HVV := hid hVv
      have hgV : g + 2 ≤ V.heap.size := by have := hBV.size; omega
      have hMV : M < V.heap.size := heap_lt hmk
      clear hE hV hx4 hy4 hd4 hBV hmk hm hend hde hVv hSQ HX3 HY3 HD3 HB3
      gi_wp2_with fail
      gi_loopw [4, 22] (fun sc ix wr => ∃ i : Nat, i ≤ m ∧ ix = .int .i64 i ∧ sc = .int .i64 ((valN D.below (D.ps.take i) 0 : Nat) : Int) ∧ Below V.heap.size V wr) (fun _ ix _ => m - (intOf ix).toNat)
      case atStart => exact ⟨0, by omega, rfl, by simp [valN], Below.refl _ _⟩
      case round =>
        obtain ⟨i, hi, rfl, rfl, hbw⟩ := hrel
        by_cases hlt : i < m
        · have hlt' : ((i : Nat) : Int) < m := by omega
          have hi0 : (0 : Int) ≤ i := by omega
          have hA := (HD4.out.below hbw).dev
          obtain ⟨x, hx⟩ : ∃ x, D.ps[i]? = some x := ⟨_, List.getElem?_eq_getElem (by rw [HM.out]; exact hlt)⟩
          have f0 := hA.cell hx 0 (by omega)
          have f1 := hA.cell hx 1 (by omega)
          have f2 := hA.cell hx 2 (by omega)
          have f3 := hA.cell hx 3 (by omega)
          have f4 := hA.cell hx 4 (by omega)
          rw [Nat.add_zero] at f0
          change _ = some (Value.string x.h) at f0
          change _ = some (Value.int .i64 x.v) at f1
          change _ = some (Value.int .i64 ((x.s : Nat) : Int)) at f2
          change _ = some (Value.int .i64 ((x.o : Nat) : Int)) at f3
          change _ = some (Value.bool x.r) at f4
          obtain ⟨N, hN⟩ : ∃ N, valN D.below (D.ps.take i) 0 = N := ⟨_, rfl⟩
          rw [hN]
          have hstep : valN D.below (D.ps.take (i + 1)) 0 = (addO D.below [((N : Nat) : Int), x.v] 0).getD 0 := by
            rw [List.take_add_one, hx, valN_app, hN]
            rfl
          have HST := hid hstep
          have HA := hid hA
          have HBW := hid hbw
          obtain ⟨i1, hi1⟩ : ∃ i1, i + 1 = i1 := ⟨_, rfl⟩
          have hw1 : IntKind.i64.wrap (((i : Nat) : Int) + 1) = ((i1 : Nat) : Int) := (IntWalk.i64_in _ (by omega)).trans (by omega)
          have HI1 := hid hi1
          clear hx hA hbw hstep hN hi1 k2
          gi_upto_region 11 with fail
          have hx5 := heap_alloc_new wr (.cells #[.string x.h, .int .i64 x.v, .int .i64 ((x.s : Nat) : Int), .int .i64 ((x.o : Nat) : Int), .bool x.r] 114)
          have hbv : Below wr.heap.size wr (wr.alloc (.cells #[.string x.h, .int .i64 x.v, .int .i64 ((x.s : Nat) : Int), .int .i64 ((x.o : Nat) : Int), .bool x.r] 114)) := (Below.refl _ _).alloc (Nat.le_refl _) _
          have hA5 := HA.out.below hbv
          generalize wr.alloc (.cells #[.string x.h, .int .i64 x.v, .int .i64 ((x.s : Nat) : Int), .int .i64 ((x.o : Nat) : Int), .bool x.r] 114) = Va at hx5 hbv hA5 ⊢
          obtain ⟨g1, hg1⟩ : ∃ g1, wr.heap.size = g1 := ⟨_, rfl⟩
          rw [hg1] at hx5 hbv ⊢
          have HG1 := hid hg1
          clear hg1 f0 f1 f2 f3 f4
          refine regD_in lets_wide (fun V => DevAt V b q D ∧ V.heap[g1]? = some (.cells #[.string x.h, .int .i64 x.v, .int .i64 ((x.s : Nat) : Int), .int .i64 ((x.o : Nat) : Int), .bool x.r] 114 (0, 0))) (fun _ => true) (by kernel_rfl) (by kernel_rfl) ?_
          have hbd : Below Va.heap.size Va Va.drew := below_drewN (Below.refl _ _) 1
          have hS : DevAt Va.drew b q D ∧ Va.drew.heap[g1]? = some (.cells #[.string x.h, .int .i64 x.v, .int .i64 ((x.s : Nat) : Int), .int .i64 ((x.o : Nat) : Int), .bool x.r] 114 (0, 0)) := ⟨hA5.below hbd, hx5⟩
          have hb6 : Below g1 wr Va.drew := hbv.trans (hbd.mono (by have := heap_lt hx5; omega))
          have hg6 : g1 < Va.drew.heap.size := heap_lt hS.2
          clear hbv hA5 hx5 hbd
          generalize Va.drew = V0 at hS hb6 hg6 ⊢
          refine takeE (i := 0) (.pointer (some ⟨b, 0, none⟩)) (d := some 27) rfl (by kernel_rfl) (by kernel_rfl) (by kernel_rfl) (by kernel_rfl) (fun _ _ _ h => h) rfl (fun W hSw => by exact exec_mv rfl rfl) hS rfl ?_
          simp only [Act.put, List.setIfInBounds_toArray, List.set_cons_zero, List.set_cons_succ]
          refine takeE (i := 1) (.pointer (some ⟨b, 0, none⟩)) (d := some 28) rfl (by kernel_rfl) (by kernel_rfl) (by kernel_rfl) (by kernel_rfl) (fun _ _ _ h => h) rfl (fun W hSw => by exact exec_nilP rfl rfl) hS rfl ?_
          simp only [Act.put, List.setIfInBounds_toArray, List.set_cons_zero, List.set_cons_succ]
          refine takeE (i := 2) (.pointer (some ⟨b, 1, none⟩)) (d := some 29) rfl (by kernel_rfl) (by kernel_rfl) (by kernel_rfl) (by kernel_rfl) (fun _ _ _ h => h) rfl (fun W hSw => by exact exec_fldD 1 rfl rfl (by simp)) hS rfl ?_
          simp only [Act.put, List.setIfInBounds_toArray, List.set_cons_zero, List.set_cons_succ]
          refine takeE (i := 3) (.int .i64 ((D.below : Nat) : Int)) (d := some 30) rfl (by kernel_rfl) (by kernel_rfl) (by kernel_rfl) (by kernel_rfl) (fun _ _ _ h => h) rfl (fun W hSw => by exact exec_ldcellB rfl rfl hSw.1.b1) hS rfl ?_
          simp only [Act.put, List.setIfInBounds_toArray, List.set_cons_zero, List.set_cons_succ]
          refine takeE (i := 4) (.int .i64 ((N : Nat) : Int)) (d := some 31) rfl (by kernel_rfl) (by kernel_rfl) (by kernel_rfl) (by kernel_rfl) (fun _ _ _ h => h) rfl (fun W hSw => by exact exec_mv rfl rfl) hS rfl ?_
          simp only [Act.put, List.setIfInBounds_toArray, List.set_cons_zero, List.set_cons_succ]
          refine takeE (i := 5) (.pointer (some ⟨g1, 0 + 1, none⟩)) (d := some 32) rfl (by kernel_rfl) (by kernel_rfl) (by kernel_rfl) (by kernel_rfl) (fun _ _ _ h => h) rfl (fun W hSw => by exact exec_fldP 1 rfl rfl (by simp)) hS rfl ?_
          simp only [Act.put, List.setIfInBounds_toArray, List.set_cons_zero, List.set_cons_succ]
          refine takeE (i := 6) (.int .i64 x.v) (d := some 33) rfl (by kernel_rfl) (by kernel_rfl) (by kernel_rfl) (by kernel_rfl) (fun _ _ _ h => h) rfl (fun W hSw => by exact exec_ldcellB rfl rfl (cell_of_row _ _ 1 _ _ _ hSw.2)) hS rfl ?_
          simp only [Act.put, List.setIfInBounds_toArray, List.set_cons_zero, List.set_cons_succ]
          have hnw := heap_alloc_new V0 (.cells #[.int .i64 ((N : Nat) : Int), .int .i64 x.v] 3)
          have hal := (Below.refl V0.heap.size V0).alloc (Nat.le_refl _) (.cells #[.int .i64 ((N : Nat) : Int), .int .i64 x.v] 3)
          have hS2 : DevAt (V0.alloc (.cells #[.int .i64 ((N : Nat) : Int), .int .i64 x.v] 3)) b q D ∧ (V0.alloc (.cells #[.int .i64 ((N : Nat) : Int), .int .i64 x.v] 3)).heap[g1]? = some (.cells #[.string x.h, .int .i64 x.v, .int .i64 ((x.s : Nat) : Int), .int .i64 ((x.o : Nat) : Int), .bool x.r] 114 (0, 0)) := ⟨hS.1.below hal, heap_below hal hS.2 (heap_lt hS.2)⟩
          refine stepD 7 (by kernel_rfl) rfl rfl (fun K hK => ?_)
          go_simp
          refine hK _ _ (fun _ => hS2) ?_
          clear hK K
          have hb7 := hb6.trans (hal.mono (Nat.le_of_lt hg6))
          have hg7 : g1 < (V0.alloc (.cells #[.int .i64 ((N : Nat) : Int), .int .i64 x.v] 3)).heap.size := heap_lt hS2.2
          obtain ⟨y, hy⟩ : ∃ y, V0.heap.size = y := ⟨_, rfl⟩
          rw [hy] at hnw ⊢
          generalize V0.alloc (.cells #[.int .i64 ((N : Nat) : Int), .int .i64 x.v] 3) = V1 at hnw hS2 hb7 hg7 ⊢
          clear hal hS hb6 hg6
          refine stepD 8 (by kernel_rfl) rfl rfl (fun K hK => ?_)
          go_simp
          go_at_call 63
          refine (add2_c D.below hbl ((N : Nat) : Int) x.v V1 y hnw).mono ?_
          rintro e V2 ⟨⟨k, rfl⟩, hs2⟩
          have hS4 : DevAt V2 b q D ∧ V2.heap[g1]? = some (.cells #[.string x.h, .int .i64 x.v, .int .i64 ((x.s : Nat) : Int), .int .i64 ((x.o : Nat) : Int), .bool x.r] 114 (0, 0)) := ⟨hS2.1.below hs2, heap_below hs2 hS2.2 (heap_lt hS2.2)⟩
          go_simp
          refine hK _ _ (fun _ => hS4) ?_
          clear hK K
          have hb8 := hb7.trans (hs2.mono (Nat.le_of_lt hg7))
          have hS := hS4
          refine stepD 9 (by kernel_rfl) rfl rfl (fun K hK => ?_)
          go_simp
          refine hK _ _ (fun _ => hS) ?_
          clear hK K
          refine takeE (i := 11) (.bool k) (d := some 37) rfl (by kernel_rfl) (by kernel_rfl) (by kernel_rfl) (by kernel_rfl) (fun _ _ _ h => h) rfl (fun W hSw => by exact exec_ext rfl rfl rfl) hS rfl ?_
          simp only [Act.put, List.setIfInBounds_toArray, List.set_cons_zero, List.set_cons_succ]
          refine stepD 10 (by kernel_rfl) rfl rfl (fun K hK => ?_)
          go_simp
          refine hK _ _ (fun _ => hS4) ?_
          clear hK K
          refine stepD 12 (by kernel_rfl) rfl rfl (fun K hK => ?_)
          go_simp
          refine hK _ _ (fun _ => hS4) ?_
          clear hK K
          refine doneD (by kernel_rfl) ?_ _
          refine OnlyNorm.normal ?_
          rename_i Q' K1 hK1 K hK
          change K _ _
          refine hK _ _ ?_
          clear hK K
          have HBW2 := hid (HBW.out.trans (hb8.mono (by have := HBW.out.size; have := HG1.out; omega)))
          clear hS2 hS4 hS hnw hb7 hb8 hs2 HBW
          rw [← HST.out]
          gi_wp2_with fail
          go_roundw
          case rel => exact ⟨i + 1, by omega, by rw [← HI1.out], rfl, HBW2.out⟩
          case measure => have := HI1.out; simp [intOf]; omega
        · have hge : ¬ ((i : Nat) : Int) < m := by omega
          obtain rfl : i = m := by omega
          have hfin : D.ps.take i = D.ps := by rw [← HM.out]; exact List.take_length
          rw [hfin, HVV.out]
          have hx5 : Boxed wr g 3 (.int .i64 0) := heap_below hbw HX4.out (heap_lt HX4.out)
          have hy5 : Boxed wr (g + 1) 31 (.int .i64 0) := heap_below hbw HY4.out (heap_lt HY4.out)
          have c0 := hx5.cell
          have f0 := hx5.frozen
          have c1 := hy5.cell
          have f1 := hy5.frozen
          have HBX := hid (boxed2 hx5 hy5 (.int .i64 V') (.int .i64 0))
          have HB5 := hid (((HB4.out.trans (hbw.mono (by omega))).setCell (p := ⟨g, 0, none⟩) (show g ≤ g by omega) (.int .i64 V')).setCell (p := ⟨g + 1, 0, none⟩) (show g ≤ g + 1 by omega) (.int .i64 0))
          have HMK2 := hid (heap_below hbw HMK.out (heap_lt HMK.out))
          clear hbw hfin hx5 hy5
          gi_wp2_with fail
          refine leaves_marks g [M] _ (by simp) (fun M' hM' => ?_) (fun W' hb' hc' => ?_)
          · obtain rfl : M' = M := by simpa using hM'
            exact ⟨(heap_setCell_other _ ⟨g + 1, 0, none⟩ M' _ (show M' ≠ g + 1 by omega)).trans ((heap_setCell_other _ ⟨g, 0, none⟩ M' _ (show M' ≠ g by omega)).trans HMK2.out), by omega⟩
          · exact ⟨_, results_cell2 Tryz.results23 rfl rfl Tryz.isAgg3 Tryz.isAgg31 (hc' _ _ HBX.out.1 rfl) (hc' _ _ HBX.out.2 rfl), rfl, HB5.out.trans hb'⟩
theorem Value_c {W : World} {B b q : Nat} {D : DS} (hd : DrawAt W B b q D) (hps : D.ps.length ≤ 30) (hbl : 1 ≤ D.below ∧ D.below ≤ 1000000000) :
    Calls Tryz.prog 23 #[.pointer (some ⟨b, 0, none⟩)] W fun e W' => e = .returned (.tuple #[.int .i64 D.val, .int .i64 D.valE]) ∧ Below W.heap.size W W' :=
  callsIn_wide.1 (Value_in 4 (Nat.le_refl _) hd hps hbl)
end Go.Proofs.YtbcileppebpamaaGreatDoor
