/- Lemmas for WitnessDraws: part 7. -/
import Derived.Test.YtbcileppebpamaaGreatDoorKb01
import Derived.Test.YtbcileppebpamaaGreatDoorKb02
import Derived.Test.YtbcileppebpamaaGreatDoorKb03
import Derived.Test.YtbcileppebpamaaGreatDoorKb06
set_option linter.unusedSimpArgs false
set_option linter.unusedVariables false
namespace Go.Proofs.YtbcileppebpamaaGreatDoor
open Go Go.RowKit Go.Shelf
set_option maxRecDepth 100000
@[go_sem] theorem wide_fn (f : FuncId) : Fence.wide.fn f = True := eq_true trivial
@[go_sem] theorem wideR_fn (l : Nat) (f : FuncId) : (Fence.wide.inRound l).fn f = True := eq_true trivial
@[go_sem] theorem wide_depth : Fence.wide.depth = none := rfl
@[go_sem] theorem wideRR_fn (l l2 : Nat) (f : FuncId) : ((Fence.wide.inRound l).inRound l2).fn f = True := eq_true trivial
/-- The marks of the ranges over functions, when the frame is left. -/
theorem leaves_marks {n : Nat} {fn : Func} {tmps : Array Value} {R : Ending → World → Prop} (g : Nat) : ∀ (Ds : List Nat) (W : World), Ds.Nodup → (∀ D ∈ Ds, W.heap[D]? = some (.deferred (some [])) ∧ g ≤ D) →
    (∀ W', Below g W W' → (∀ (b : Nat) (o : Obj), W.heap[b]? = some o → isBook o = false → W'.heap[b]? = some o) → ∃ v, (results fn tmps).run Tryz.prog W' = .ok v W' ∧ R (.returned v) W') →
    LeavesInM Fence.wide n Tryz.prog fn tmps R (Ds.map fun D => { target := .collected D, args := #[] }) .returning W
  | [], W, _, _, h => by
    obtain ⟨v, h1, h2⟩ := h W (Below.refl _ _) (fun _ _ h _ => h)
    exact ⟨v, h1, h2⟩
  | D :: Ds, W, hnd, hD, h => by
    obtain ⟨hd, hgD⟩ := hD D (List.mem_cons_self)
    refine ⟨by simp, .inl ⟨_, _, rfl, run_takeDeferred hd, ?_⟩⟩
    have hb : Below g W (W.putObj D (.deferred none)) := ⟨rfl, rfl, rfl, by simp, fun k hk => World.putObj_heap_other (by omega)⟩
    refine leaves_marks g Ds _ (List.nodup_cons.1 hnd).2 (fun D' hD' => ⟨?_, (hD D' (List.mem_cons_of_mem _ hD')).2⟩) (fun W' hbW hc => h W' (hb.trans hbW) fun b o hcell hcs => hc b o ?_ hcs)
    · refine (World.putObj_heap_other ?_).trans (hD D' (List.mem_cons_of_mem _ hD')).1
      rintro rfl
      exact (List.nodup_cons.1 hnd).1 hD'
    · refine (World.putObj_heap_other ?_).trans hcell
      rintro rfl
      rw [hd] at hcell
      cases hcell
      cases hcs
theorem Abd.boxed (B b : Nat) (t : TypeId) (v : Value) : Abd B fun W => Boxed W b t v := Abd.block B b _ rfl
theorem below2 (W : World) (o1 o2 : Obj) : Below W.heap.size W ((W.alloc o1).alloc o2) := ((Below.refl _ _).alloc (Nat.le_refl _) _).alloc (by simp) _
theorem alloc2_first (W : World) (o1 o2 : Obj) : ((W.alloc o1).alloc o2).heap[W.heap.size]? = some o1 := (Below.heap_alloc (W.alloc o1) o2 _ (by simp)).trans (World.alloc_heap_new W o1)
theorem alloc2_second (W : World) (o1 o2 : Obj) : ((W.alloc o1).alloc o2).heap[W.heap.size + 1]? = some o2 := by
  have := World.alloc_heap_new (W.alloc o1) o2
  rwa [World.size_alloc] at this
/-- Two results that lie in boxes of one cell. -/
theorem results_cell2 {P : Program} {fn : Func} {p q : Tmp} {T U : TypeId} (h : fn.results = #[.cell p T, .cell q U]) {tmps : Array Value} {W : World} {b c : Nat} {v u : Value} (hp : tmps.getD p undef = .pointer (some ⟨b, 0, none⟩)) (hq : tmps.getD q undef = .pointer (some ⟨c, 0, none⟩)) (ha : ∀ w, (isAgg T).run P w = .ok false w) (hb' : ∀ w, (isAgg U).run P w = .ok false w)
    (hb : Boxed W b T v) (hc : Boxed W c U u) : (results fn tmps).run P W = .ok (.tuple #[v, u]) W := by
  have hp' : tmps[p]?.getD undef = .pointer (some ⟨b, 0, none⟩) := by simpa using hp
  have hq' : tmps[q]?.getD undef = .pointer (some ⟨c, 0, none⟩) := by simpa using hq
  have h1 := hb.cell
  have h2 := hc.cell
  simp [results, h, hp', hq', asAddr]
  go_simp
theorem boxed2 {X : World} {g : Nat} {T U : TypeId} {v u : Value} (h0 : Boxed X g T v) (h1 : Boxed X (g + 1) U u) (v' u' : Value) : Boxed ((X.setCell ⟨g, 0, none⟩ v').setCell ⟨g + 1, 0, none⟩ u') g T v' ∧ Boxed ((X.setCell ⟨g, 0, none⟩ v').setCell ⟨g + 1, 0, none⟩ u') (g + 1) U u' :=
  ⟨(heap_setCell_other _ ⟨g + 1, 0, none⟩ g _ (show g ≠ g + 1 by omega)).trans (h0.set v'), Boxed.set u' ((heap_setCell_other _ ⟨g, 0, none⟩ (g + 1) _ (show g + 1 ≠ g by omega)).trans h1)⟩
theorem add2_c (b : Nat) (hb : 1 ≤ b ∧ b ≤ 1000000000) (x y : Int) (W : World) (g : Nat) (hg : W.heap[g]? = some (.cells #[.int .i64 x, .int .i64 y] 3 (0, 0))) :
    Calls Tryz.prog 63 #[.int .i64 ((b : Nat) : Int), .slice (some ⟨g, 0, none⟩) 2 2] W fun e w' => (∃ k : Bool, e = .returned (.tuple #[.int .i64 (((addO b [x, y] 0).getD 0 : Nat) : Int), .bool k])) ∧ Below W.heap.size W w' := by
  refine (add_c b hb [x, y] (.slice (some ⟨g, 0, none⟩) 2 2) W (.inr ⟨⟨g, 0, none⟩, 2, rfl, fun _ => heap_lt hg, fun k hk => by
    rcases k with _ | _ | k
    · exact cell_of_row W g 0 _ _ _ hg
    · exact cell_of_row W g 1 _ _ _ hg
    · exact absurd hk (by simp)⟩) (by simp)).mono ?_
  rintro e w' ⟨rfl, h⟩
  refine ⟨?_, h⟩
  cases addO b [x, y] 0 with
  | none => exact ⟨false, rfl⟩
  | some z => exact ⟨true, rfl⟩
/-- The number that was drawn. -/
def valN (b : Nat) : List PS → Nat → Nat
  | [], n => n
  | x :: l, n => valN b l ((addO b [((n : Nat) : Int), x.v] 0).getD 0)
def DS.valE (D : DS) : Int := if D.over = false then 9 else if D.devs = [] then 0 else 110
def DS.val (D : DS) : Int := if D.valE = 0 then ((valN D.below D.ps 0 : Nat) : Int) else 0
theorem valN_app (b : Nat) : ∀ (l m : List PS) (n : Nat), valN b (l ++ m) n = valN b m (valN b l n)
  | [], _, _ => rfl
  | x :: l, m, n => by rw [List.cons_append, valN, valN, valN_app b l m]
theorem addO_lt' (b : Nat) (xs : List Int) (hb : 0 < b) : (addO b xs 0).getD 0 < b := by
  cases h : addO b xs 0 with
  | none => simpa using hb
  | some z => exact addO_lt b hb xs 0 z hb h
theorem valN_lt (b : Nat) (hb : 0 < b) : ∀ (l : List PS) (n : Nat), n < b → valN b l n < b
  | [], _, h => h
  | x :: l, n, _ => valN_lt b hb l _ (addO_lt' b _ hb)
attribute [local go_sem] Oper.semAt_some
set_option maxHeartbeats 4000000 in
theorem Value_in (n : Nat) (hn : 4 ≤ n) {W : World} {B b q : Nat} {D : DS} (hd : DrawAt W B b q D) (hps : D.ps.length ≤ 30) (hbl : 1 ≤ D.below ∧ D.below ≤ 1000000000) :
    CallsIn Fence.wide n Tryz.prog 23 #[.pointer (some ⟨b, 0, none⟩)] W fun e W' => e = .returned (.tuple #[.int .i64 D.val, .int .i64 D.valE]) ∧ Below W.heap.size W W' := by
  have hx := alloc2_first W (.cells #[.int .i64 0] 3) (.cells #[.int .i64 0] 31)
  have hy := alloc2_second W (.cells #[.int .i64 0] 3) (.cells #[.int .i64 0] 31)
  have hb := below2 W (.cells #[.int .i64 0] 3) (.cells #[.int .i64 0] 31)
  have hs2 : ((W.alloc (.cells #[.int .i64 0] 3)).alloc (.cells #[.int .i64 0] 31)).heap.size = W.heap.size + 2 := by simp
  have hd2 := hd.below hb
  have HOV := hid (over_c B b q D _ hd2)
  obtain ⟨g, hg⟩ : ∃ g, W.heap.size = g := ⟨_, rfl⟩
  rw [hg] at hx hy hb hs2 ⊢
  have HG := hid hg
  have HX := hid hx
  have HY := hid hy
  have HB := hid hb
  have HD2 := hid hd2
  have hvl : valN D.below D.ps 0 < D.below := valN_lt _ (by omega) _ _ (by omega)
  obtain ⟨E, hE⟩ : ∃ E, D.valE = E := ⟨_, rfl⟩
  obtain ⟨V', hV⟩ : ∃ V', D.val = V' := ⟨_, rfl⟩
  rw [hE, hV]
  refine callsIn_of_wp_marks Tryz.func23 rfl trivial ?_ rfl
  simp only [Tryz.ntmps23, List.size_toArray, List.length_cons, List.length_nil, Nat.reduceAdd, Nat.reduceSub, Array.replicate_succ, Array.replicate_zero, List.push_toArray, List.append_toArray, List.nil_append, List.cons_append]
  clear hx hy hb hd hd2
  gi_upto_region 1 with fail
  generalize (W.alloc (.cells #[.int .i64 0] 3)).alloc (.cells #[.int .i64 0] 31) = W1 at HX HY HB HD2 HOV hs2 ⊢
  clear hg
  cases hov : D.over with
  | false =>
    rw [hov] at HOV
    obtain rfl : E = 9 := by rw [← hE]; simp [DS.valE, hov]
    obtain rfl : V' = 0 := by rw [← hV, DS.val, hE]; rfl
    clear hE hV
    have HXD := hid (show ∀ m, Boxed (W1.drewN m) g 3 (.int .i64 0) from fun m => heap_below (drewN_below W1 m) HX.out (heap_lt HX.out))
    have HYD := hid (show ∀ m, Boxed (W1.drewN m) (g + 1) 31 (.int .i64 0) from fun m => heap_below (drewN_below W1 m) HY.out (heap_lt HY.out))
    gi_wp2_with (gi_at_call 46; refine (callsIn_wide.2 HOV.out).mono ?_; rintro e W2 ⟨rfl, m, rfl⟩; have c0 := (HXD.out m).cell; have f0 := (HXD.out m).frozen; have c1 := (HYD.out m).cell; have f1 := (HYD.out m).frozen)
    refine leaves_marks g [] _ List.nodup_nil (fun M hM => by cases hM) (fun W' hb' hc' => ?_)
    have hB2 := boxed2 (HXD.out m) (HYD.out m) (.int .i64 0) (.int .i64 9)
    exact ⟨_, results_cell2 Tryz.results23 rfl rfl Tryz.isAgg3 Tryz.isAgg31 (hc' _ _ hB2.1 rfl) (hc' _ _ hB2.2 rfl), rfl, (((HB.out.trans ((drewN_below W1 m).mono (by omega))).setCell (p := ⟨g, 0, none⟩) (show g ≤ g by omega) (.int .i64 0)).setCell (p := ⟨g + 1, 0, none⟩) (show g ≤ g + 1 by omega) (.int .i64 9)).trans hb'⟩
  | true =>
    have hlast : ∀ X : World, Boxed X g 3 (.int .i64 0) → True := fun _ _ => trivial
    clear hlast
    have HXD := hid (show ∀ m, Boxed (W1.drewN m) g 3 (.int .i64 0) from fun m => heap_below (drewN_below W1 m) HX.out (heap_lt HX.out))
    have HYD := hid (show ∀ m, Boxed (W1.drewN m) (g + 1) 31 (.int .i64 0) from fun m => heap_below (drewN_below W1 m) HY.out (heap_lt HY.out))
    have HDD := hid (show ∀ m, DrawAt (W1.drewN m) B b q D from fun m => HD2.out.below (drewN_below W1 m))
    have HBD := hid (show ∀ m, Below g W (W1.drewN m) ∧ g + 2 ≤ (W1.drewN m).heap.size from fun m => ⟨HB.out.trans ((drewN_below W1 m).mono (by omega)), by have := (drewN_below W1 m).size; omega⟩)
    gi_wp2_with (gi_at_call 46; refine (callsIn_wide.2 HOV.out).mono ?_; rintro e W2 ⟨rfl, m, rfl⟩; have hx3 := HXD.out m; have hy3 := HYD.out m; have hd3 := HDD.out m; have hb3 := HBD.out m; generalize W1.drewN m = W2 at hx3 hy3 hd3 hb3 ⊢)
    have hSQ := dev_seq (n - 1) (by omega) b q D hps W2 hd3.dev
    have HX3 := hid hx3
    have HY3 := hid hy3
    have HD3 := hid hd3
    have HB3 := hid hb3.1
    have hsz3 := hb3.2
    clear HX HY HB HD2 HOV HXD HYD HDD HBD hx3 hy3 hd3 hb3 hs2
    apply rb_outA rfl (show 1 ≤ n by omega) (gf := 62) (pb := #[.pointer (some ⟨b, 0, none⟩)]) (lb := #[]) rfl trivial (enters_of Tryz.func62 (by kernel_rfl) rfl) hSQ (fun _ => rfl)
      (fun pre V => pre = [] ∧ Below W2.heap.size W2 V)
      (fun c pre V => c = .ret ∧ D.devs ≠ [] ∧ Boxed V g 3 (.int .i64 0) ∧ Boxed V (g + 1) 31 (.int .i64 110) ∧ Below g W V)
      (fun pre => (Abd.pure _ _).and (Abd.belowOf (Nat.le_refl _) (Nat.le_refl _))) (fun c pre => (Abd.pure _ _).and ((Abd.pure _ _).and ((Abd.boxed _ _ _ _).and ((Abd.boxed _ _ _ _).and (Abd.belowOf (by have := HG.out; omega) (by omega)))))) (fun pre x => Abd.pure _ _) ⟨rfl, Below.refl _ _⟩
    case hassign =>
      intro l pre x V K hi ho hK
      gi_wp2_with fail
      first | rfl | exact hK _ rfl
    case hbody =>
      rintro l pre x V hl hr ⟨rfl, hBV⟩ hok
      have hne : D.devs ≠ [] := by
        obtain ⟨rest, h⟩ := hok
        rw [h]
        simp
      have hx4 : Boxed V g 3 (.int .i64 0) := heap_below hBV HX3.out (heap_lt HX3.out)
      have hy4 : Boxed V (g + 1) 31 (.int .i64 0) := heap_below hBV HY3.out (heap_lt HY3.out)
      have c0 := hx4.cell
      have f0 := hx4.frozen
      have c1 := hy4.cell
      have f1 := hy4.frozen
      have HBX := hid (boxed2 hx4 hy4 (.int .i64 0) (.int .i64 110))
      have HKL := hid (((KeepsL.refl V).setCell (i := 0) (.int .i64 0) hx4).setCell (i := 0) (.int .i64 110) (show (V.setCell ⟨g, 0, none⟩ (.int .i64 0)).heap[g + 1]? = _ from (heap_setCell_other _ ⟨g, 0, none⟩ (g + 1) _ (show g + 1 ≠ g by omega)).trans hy4))
      have HB4 := hid (((HB3.out.trans (hBV.mono (by omega))).setCell (p := ⟨g, 0, none⟩) (show g ≤ g by omega) (.int .i64 0)).setCell (p := ⟨g + 1, 0, none⟩) (show g ≤ g + 1 by omega) (.int .i64 110))
      have HNE := hid hne
      clear hx4 hy4 hBV hok hne hr
      gi_wp2_with fail
      exact ⟨HKL.out.r l, rfl, HNE.out, HBX.out.1, HBX.out.2, HB4.out⟩
    case hstop =>
      rintro M c pre V hM ⟨rfl, hne, hx4, hy4, hB4⟩ hmk
      have HX4 := hid hx4
      have HY4 := hid hy4
      have HB4 := hid hB4
      obtain rfl : E = 110 := by rw [← hE]; simp [DS.valE, hov, hne]
      obtain rfl : V' = 0 := by rw [← hV, DS.val, hE]; rfl
      clear hx4 hy4 hB4 hE hV
      gi_wp2_with fail
      refine leaves_marks g [M] _ (by simp) (fun M' hM' => ?_) (fun W' hb' hc' => ?_)
      · obtain rfl : M' = M := by simpa using hM'
        exact ⟨hmk, by omega⟩
      · exact ⟨_, results_cell2 Tryz.results23 rfl rfl Tryz.isAgg3 Tryz.isAgg31 (hc' _ _ HX4.out rfl) (hc' _ _ HY4.out rfl), rfl, HB4.out.trans hb'⟩
    case hdone =>
      rintro M xs V hM hend ⟨rfl, hBV⟩ hmk
      have hde : D.devs = [] := hend.symm
      obtain rfl : E = 0 := by rw [← hE]; simp [DS.valE, hov, hde]
      have hVv : ((valN D.below D.ps 0 : Nat) : Int) = V' := by rw [← hV, DS.val, if_pos hE]
      have hx4 : Boxed V g 3 (.int .i64 0) := heap_below hBV HX3.out (heap_lt HX3.out)
      have hy4 : Boxed V (g + 1) 31 (.int .i64 0) := heap_below hBV HY3.out (heap_lt HY3.out)
      have hd4 := HD3.out.below hBV
      have k2 := hd4.dev.b2
      obtain ⟨m, hm⟩ : ∃ m, D.ps.length = m := ⟨_, rfl⟩
      have HM := hid hm
      rw [hm] at k2 hps
      have HX4 := hid hx4
      have HY4 := hid hy4
      have HD4 := hid hd4
      have HB4 := hid (HB3.out.trans (hBV.mono (by omega)))
      have HMK := hid hmk
      have HVV := hid hVv
      have hgV : g + 2 ≤ V.heap.size := by have := hBV.size; omega
      have hMV : M < V.heap.size := heap_lt hmk
      clear hE hV hx4 hy4 hd4 hBV hmk hm hend hde hVv hSQ HX3 HY3 HD3 HB3
      gi_wp2_with fail
      gi_loopw [4, 22] (fun sc ix wr => ∃ i : Nat, i ≤ m ∧ ix = .int .i64 i ∧ sc = .int .i64 ((valN D.below (D.ps.take i) 0 : Nat) : Int) ∧ Below V.heap.size V wr) (fun _ ix _ => m - (intOf ix).toNat)
      case atStart => exact ⟨0, by omega, rfl, by simp [valN], Below.refl _ _⟩
      case round =>
        obtain ⟨i, hi, rfl, rfl, hbw⟩ := hrel
        by_cases hlt : i < m
        · have hlt' : ((i : Nat) : Int) < m := by omega
          have hi0 : (0 : Int) ≤ i := by omega
          have hA := (HD4.out.below hbw).dev
          obtain ⟨x, hx⟩ : ∃ x, D.ps[i]? = some x := ⟨_, List.getElem?_eq_getElem (by rw [HM.out]; exact hlt)⟩
          have f0 := hA.cell hx 0 (by omega)
          have f1 := hA.cell hx 1 (by omega)
          have f2 := hA.cell hx 2 (by omega)
          have f3 := hA.cell hx 3 (by omega)
          have f4 := hA.cell hx 4 (by omega)
          rw [Nat.add_zero] at f0
          change _ = some (Value.string x.h) at f0
          change _ = some (Value.int .i64 x.v) at f1
          change _ = some (Value.int .i64 ((x.s : Nat) : Int)) at f2
          change _ = some (Value.int .i64 ((x.o : Nat) : Int)) at f3
          change _ = some (Value.bool x.r) at f4
          obtain ⟨N, hN⟩ : ∃ N, valN D.below (D.ps.take i) 0 = N := ⟨_, rfl⟩
          rw [hN]
          have hstep : valN D.below (D.ps.take (i + 1)) 0 = (addO D.below [((N : Nat) : Int), x.v] 0).getD 0 := by
            rw [List.take_add_one, hx, valN_app, hN]
            rfl
          have HST := hid hstep
          have HA := hid hA
          have HBW := hid hbw
          obtain ⟨i1, hi1⟩ : ∃ i1, i + 1 = i1 := ⟨_, rfl⟩
          have hw1 : IntKind.i64.wrap (((i : Nat) : Int) + 1) = ((i1 : Nat) : Int) := (IntWalk.i64_in _ (by omega)).trans (by omega)
          have HI1 := hid hi1
          clear hx hA hbw hstep hN hi1 k2
          gi_upto_region 11 with fail
          have hx5 := heap_alloc_new wr (.cells #[.string x.h, .int .i64 x.v, .int .i64 ((x.s : Nat) : Int), .int .i64 ((x.o : Nat) : Int), .bool x.r] 114)
          have hbv : Below wr.heap.size wr (wr.alloc (.cells #[.string x.h, .int .i64 x.v, .int .i64 ((x.s : Nat) : Int), .int .i64 ((x.o : Nat) : Int), .bool x.r] 114)) := (Below.refl _ _).alloc (Nat.le_refl _) _
          have hA5 := HA.out.below hbv
          generalize wr.alloc (.cells #[.string x.h, .int .i64 x.v, .int .i64 ((x.s : Nat) : Int), .int .i64 ((x.o : Nat) : Int), .bool x.r] 114) = Va at hx5 hbv hA5 ⊢
          obtain ⟨g1, hg1⟩ : ∃ g1, wr.heap.size = g1 := ⟨_, rfl⟩
          rw [hg1] at hx5 hbv ⊢
          have HG1 := hid hg1
          clear hg1 f0 f1 f2 f3 f4
          refine regD_in lets_wide (fun V => DevAt V b q D ∧ V.heap[g1]? = some (.cells #[.string x.h, .int .i64 x.v, .int .i64 ((x.s : Nat) : Int), .int .i64 ((x.o : Nat) : Int), .bool x.r] 114 (0, 0))) (fun _ => true) (by kernel_rfl) (by kernel_rfl) ?_
          have hbd : Below Va.heap.size Va Va.drew := below_drewN (Below.refl _ _) 1
          have hS : DevAt Va.drew b q D ∧ Va.drew.heap[g1]? = some (.cells #[.string x.h, .int .i64 x.v, .int .i64 ((x.s : Nat) : Int), .int .i64 ((x.o : Nat) : Int), .bool x.r] 114 (0, 0)) := ⟨hA5.below hbd, hx5⟩
          have hb6 : Below g1 wr Va.drew := hbv.trans (hbd.mono (by have := heap_lt hx5; omega))
          have hg6 : g1 < Va.drew.heap.size := heap_lt hS.2
          clear hbv hA5 hx5 hbd
          generalize Va.drew = V0 at hS hb6 hg6 ⊢
          refine takeE (i := 0) (.pointer (some ⟨b, 0, none⟩)) (d := some 27) rfl (by kernel_rfl) (by kernel_rfl) (by kernel_rfl) (by kernel_rfl) (fun _ _ _ h => h) rfl (fun W hSw => by exact exec_mv rfl rfl) hS rfl ?_
          simp only [Act.put, List.setIfInBounds_toArray, List.set_cons_zero, List.set_cons_succ]
          refine takeE (i := 1) (.pointer (some ⟨b, 0, none⟩)) (d := some 28) rfl (by kernel_rfl) (by kernel_rfl) (by kernel_rfl) (by kernel_rfl) (fun _ _ _ h => h) rfl (fun W hSw => by exact exec_nilP rfl rfl) hS rfl ?_
          simp only [Act.put, List.setIfInBounds_toArray, List.set_cons_zero, List.set_cons_succ]
          refine takeE (i := 2) (.pointer (some ⟨b, 1, none⟩)) (d := some 29) rfl (by kernel_rfl) (by kernel_rfl) (by kernel_rfl) (by kernel_rfl) (fun _ _ _ h => h) rfl (fun W hSw => by exact exec_fldD 1 rfl rfl (by simp)) hS rfl ?_
          simp only [Act.put, List.setIfInBounds_toArray, List.set_cons_zero, List.set_cons_succ]
          refine takeE (i := 3) (.int .i64 ((D.below : Nat) : Int)) (d := some 30) rfl (by kernel_rfl) (by kernel_rfl) (by kernel_rfl) (by kernel_rfl) (fun _ _ _ h => h) rfl (fun W hSw => by exact exec_ldcellB rfl rfl hSw.1.b1) hS rfl ?_
          simp only [Act.put, List.setIfInBounds_toArray, List.set_cons_zero, List.set_cons_succ]
          refine takeE (i := 4) (.int .i64 ((N : Nat) : Int)) (d := some 31) rfl (by kernel_rfl) (by kernel_rfl) (by kernel_rfl) (by kernel_rfl) (fun _ _ _ h => h) rfl (fun W hSw => by exact exec_mv rfl rfl) hS rfl ?_
          simp only [Act.put, List.setIfInBounds_toArray, List.set_cons_zero, List.set_cons_succ]
          refine takeE (i := 5) (.pointer (some ⟨g1, 0 + 1, none⟩)) (d := some 32) rfl (by kernel_rfl) (by kernel_rfl) (by kernel_rfl) (by kernel_rfl) (fun _ _ _ h => h) rfl (fun W hSw => by exact exec_fldP 1 rfl rfl (by simp)) hS rfl ?_
          simp only [Act.put, List.setIfInBounds_toArray, List.set_cons_zero, List.set_cons_succ]
          refine takeE (i := 6) (.int .i64 x.v) (d := some 33) rfl (by kernel_rfl) (by kernel_rfl) (by kernel_rfl) (by kernel_rfl) (fun _ _ _ h => h) rfl (fun W hSw => by exact exec_ldcellB rfl rfl (cell_of_row _ _ 1 _ _ _ hSw.2)) hS rfl ?_
          simp only [Act.put, List.setIfInBounds_toArray, List.set_cons_zero, List.set_cons_succ]
          have hnw := heap_alloc_new V0 (.cells #[.int .i64 ((N : Nat) : Int), .int .i64 x.v] 3)
          have hal := (Below.refl V0.heap.size V0).alloc (Nat.le_refl _) (.cells #[.int .i64 ((N : Nat) : Int), .int .i64 x.v] 3)
          have hS2 : DevAt (V0.alloc (.cells #[.int .i64 ((N : Nat) : Int), .int .i64 x.v] 3)) b q D ∧ (V0.alloc (.cells #[.int .i64 ((N : Nat) : Int), .int .i64 x.v] 3)).heap[g1]? = some (.cells #[.string x.h, .int .i64 x.v, .int .i64 ((x.s : Nat) : Int), .int .i64 ((x.o : Nat) : Int), .bool x.r] 114 (0, 0)) := ⟨hS.1.below hal, heap_below hal hS.2 (heap_lt hS.2)⟩
          refine stepD 7 (by kernel_rfl) rfl rfl (fun K hK => ?_)
          go_simp
          refine hK _ _ (fun _ => hS2) ?_
          clear hK K
          have hb7 := hb6.trans (hal.mono (Nat.le_of_lt hg6))
          have hg7 : g1 < (V0.alloc (.cells #[.int .i64 ((N : Nat) : Int), .int .i64 x.v] 3)).heap.size := heap_lt hS2.2
          obtain ⟨y, hy⟩ : ∃ y, V0.heap.size = y := ⟨_, rfl⟩
          rw [hy] at hnw ⊢
          generalize V0.alloc (.cells #[.int .i64 ((N : Nat) : Int), .int .i64 x.v] 3) = V1 at hnw hS2 hb7 hg7 ⊢
          clear hal hS hb6 hg6
          refine stepD 8 (by kernel_rfl) rfl rfl (fun K hK => ?_)
          go_simp
          go_at_call 63
          refine (add2_c D.below hbl ((N : Nat) : Int) x.v V1 y hnw).mono ?_
          rintro e V2 ⟨⟨k, rfl⟩, hs2⟩
          have hS4 : DevAt V2 b q D ∧ V2.heap[g1]? = some (.cells #[.string x.h, .int .i64 x.v, .int .i64 ((x.s : Nat) : Int), .int .i64 ((x.o : Nat) : Int), .bool x.r] 114 (0, 0)) := ⟨hS2.1.below hs2, heap_below hs2 hS2.2 (heap_lt hS2.2)⟩
          go_simp
          refine hK _ _ (fun _ => hS4) ?_
          clear hK K
          have hb8 := hb7.trans (hs2.mono (Nat.le_of_lt hg7))
          have hS := hS4
          refine stepD 9 (by kernel_rfl) rfl rfl (fun K hK => ?_)
          go_simp
          refine hK _ _ (fun _ => hS) ?_
          clear hK K
          refine takeE (i := 11) (.bool k) (d := some 37) rfl (by kernel_rfl) (by kernel_rfl) (by kernel_rfl) (by kernel_rfl) (fun _ _ _ h => h) rfl (fun W hSw => by exact exec_ext rfl rfl rfl) hS rfl ?_
          simp only [Act.put, List.setIfInBounds_toArray, List.set_cons_zero, List.set_cons_succ]
          refine stepD 10 (by kernel_rfl) rfl rfl (fun K hK => ?_)
          go_simp
          refine hK _ _ (fun _ => hS4) ?_
          clear hK K
          refine stepD 12 (by kernel_rfl) rfl rfl (fun K hK => ?_)
          go_simp
          refine hK _ _ (fun _ => hS4) ?_
          clear hK K
          refine doneD (by kernel_rfl) ?_ _
          refine OnlyNorm.normal ?_
          rename_i Q' K1 hK1 K hK
          change K _ _
          refine hK _ _ ?_
          clear hK K
          have HBW2 := hid (HBW.out.trans (hb8.mono (by have := HBW.out.size; have := HG1.out; omega)))
          clear hS2 hS4 hS hnw hb7 hb8 hs2 HBW
          rw [← HST.out]
          gi_wp2_with fail
          go_roundw
          case rel => exact ⟨i + 1, by omega, by rw [← HI1.out], rfl, HBW2.out⟩
          case measure => have := HI1.out; simp [intOf]; omega
        · have hge : ¬ ((i : Nat) : Int) < m := by omega
          obtain rfl : i = m := by omega
          have hfin : D.ps.take i = D.ps := by rw [← HM.out]; exact List.take_length
          rw [hfin, HVV.out]
          have hx5 : Boxed wr g 3 (.int .i64 0) := heap_below hbw HX4.out (heap_lt HX4.out)
          have hy5 : Boxed wr (g + 1) 31 (.int .i64 0) := heap_below hbw HY4.out (heap_lt HY4.out)
          have c0 := hx5.cell
          have f0 := hx5.frozen
          have c1 := hy5.cell
          have f1 := hy5.frozen
          have HBX := hid (boxed2 hx5 hy5 (.int .i64 V') (.int .i64 0))
          have HB5 := hid (((HB4.out.trans (hbw.mono (by omega))).setCell (p := ⟨g, 0, none⟩) (show g ≤ g by omega) (.int .i64 V')).setCell (p := ⟨g + 1, 0, none⟩) (show g ≤ g + 1 by omega) (.int .i64 0))
          have HMK2 := hid (heap_below hbw HMK.out (heap_lt HMK.out))
          clear hbw hfin hx5 hy5
          gi_wp2_with fail
          refine leaves_marks g [M] _ (by simp) (fun M' hM' => ?_) (fun W' hb' hc' => ?_)
          · obtain rfl : M' = M := by simpa using hM'
            exact ⟨(heap_setCell_other _ ⟨g + 1, 0, none⟩ M' _ (show M' ≠ g + 1 by omega)).trans ((heap_setCell_other _ ⟨g, 0, none⟩ M' _ (show M' ≠ g by omega)).trans HMK2.out), by omega⟩
          · exact ⟨_, results_cell2 Tryz.results23 rfl rfl Tryz.isAgg3 Tryz.isAgg31 (hc' _ _ HBX.out.1 rfl) (hc' _ _ HBX.out.2 rfl), rfl, HB5.out.trans hb'⟩
theorem Value_c {W : World} {B b q : Nat} {D : DS} (hd : DrawAt W B b q D) (hps : D.ps.length ≤ 30) (hbl : 1 ≤ D.below ∧ D.below ≤ 1000000000) :
    Calls Tryz.prog 23 #[.pointer (some ⟨b, 0, none⟩)] W fun e W' => e = .returned (.tuple #[.int .i64 D.val, .int .i64 D.valE]) ∧ Below W.heap.size W W' :=
  callsIn_wide.1 (Value_in 4 (Nat.le_refl _) hd hps hbl)
end Go.Proofs.YtbcileppebpamaaGreatDoor
set_option linter.unusedSimpArgs false
set_option linter.unusedVariables false
namespace Go.Proofs.YtbcileppebpamaaGreatDoor
open Go Go.RowKit Go.Shelf
theorem hexB_hexD (d : Nat) (h : d < 16) : hexB (hexD d) = true := by
  have : ∀ d : Fin 16, hexB (hexD d.1) = true := by decide
  exact this ⟨d, h⟩
theorem hexK_all : ∀ k n, (hexK k n).all hexB = true
  | 0, _ => rfl
  | k + 1, n => by rw [hexK, List.all_append, hexK_all k, List.all_cons, hexB_hexD _ (Nat.mod_lt _ (by decide))]; rfl
theorem isHash_hash (l : List UInt8) : isHashL (hashL l) = true := by
  rw [isHashL, hashL, hex16, hexK_len, hexK_all]
  rfl
theorem isHash_openH (p v : Int) (s : ByteArray) : isHashL (openH p v s).data.toList = true := by
  rw [openH, List.toList_toArray]
  exact isHash_hash _
theorem sameB_self (a : ByteArray) : sameB a a = true := by simp [sameB]
/-- Where a drawing stands: the first i persons have sealed, c persons have opened, those of O. -/
structure Stt (D : DS) (b m : Nat) (H : Nat → ByteArray) (v : Nat → Nat) (t : Nat → ByteArray) (i : Nat) (O : Nat → Prop) (c : Nat) : Prop where
  below : D.below = b
  len : D.ps.length = m
  sl : D.sl = i
  op : D.op = c
  cl : D.cl = 0
  ls : D.ls.length = 1 + i + c
  un : ∀ j p, D.ps[j]? = some p → i ≤ j → p.s = 0
  sd : ∀ j p, D.ps[j]? = some p → j < i → p.h = H j ∧ ∃ k, p.s = k + 1 ∧ D.ls[k]? = some ⟨(lineL (sealW ((j + 1 : Nat) : Int) (H j))).toArray⟩
  op0 : ∀ j p, D.ps[j]? = some p → ¬ O j → p.o = 0
  op1 : ∀ j p, D.ps[j]? = some p → O j → (∃ k, p.o = k + 1 ∧ D.ls[k]? = some ⟨(lineL (openW ((j + 1 : Nat) : Int) ((v j : Nat) : Int) (t j))).toArray⟩) ∧ p.r = sameB (openH ((j + 1 : Nat) : Int) ((v j : Nat) : Int) (t j)) (H j) ∧ p.v = ((v j : Nat) : Int)
theorem Stt.start (b m : Nat) (H : Nat → ByteArray) (v : Nat → Nat) (t : Nat → ByteArray) : Stt (DS.start b m) b m H v t 0 (fun _ => False) 0 := by
  have hz : ∀ j p, (List.replicate m PS.zero)[j]? = some p → p = PS.zero := fun j p h => by
    have := List.mem_of_getElem? h
    exact (List.mem_replicate.1 this).2
  exact ⟨rfl, by simp [DS.start], rfl, rfl, rfl, rfl, fun j p h _ => by rw [hz j p h]; rfl, fun j p h hj => absurd hj (by omega), fun j p h _ => by rw [hz j p h]; rfl, fun j p h hj => hj.elim⟩
theorem inR_one (j m : Nat) (h : j < m) : inR ((j + 1 : Nat) : Int) 1 ((m : Nat) : Int) = true := (inR_iff _ _ _).2 ⟨by omega, by omega⟩
theorem toNat_one (j : Nat) : ((j + 1 : Nat) : Int).toNat - 1 = j := by omega
theorem Stt.seal {D : DS} {b m : Nat} {H : Nat → ByteArray} {v : Nat → Nat} {t : Nat → ByteArray} {i : Nat} {O : Nat → Prop} {c : Nat} (h : Stt D b m H v t i O c) (hi : i < m) (hH : isHashL (H i).data.toList = true) :
    D.sealE ((i + 1 : Nat) : Int) (H i) = 0 ∧ Stt (D.seal ((i + 1 : Nat) : Int) (H i)) b m H v t (i + 1) O c := by
  obtain ⟨x, hx⟩ : ∃ x, D.ps[i]? = some x := ⟨_, List.getElem?_eq_getElem (by rw [h.len]; exact hi)⟩
  have hE : D.sealE ((i + 1 : Nat) : Int) (H i) = 0 := by
    unfold DS.sealE
    rw [h.len, inR_one i m hi, hH, toNat_one, hx]
    simp [h.un i x hx (Nat.le_refl _)]
  refine ⟨hE, ?_⟩
  rw [DS.seal, if_pos hE, DS.sealT, toNat_one, hx]
  have hil : i < D.ps.length := by rw [h.len]; exact hi
  have hset : ∀ j p, (D.ps.set i { x with h := H i, s := D.ls.length + 1 })[j]? = some p → (j = i ∧ p = { x with h := H i, s := D.ls.length + 1 }) ∨ (j ≠ i ∧ D.ps[j]? = some p) := fun j p hp => by
    by_cases e : j = i
    · subst e
      rw [List.getElem?_set_self hil] at hp
      exact .inl ⟨rfl, (Option.some.inj hp).symm⟩
    · rw [List.getElem?_set_ne (Ne.symm e)] at hp
      exact .inr ⟨e, hp⟩
  have hls : ∀ (k : Nat) (l y : ByteArray), D.ls[k]? = some y → (D.ls ++ [l])[k]? = some y := fun k l y hk => by
    rw [List.getElem?_append_left (List.getElem?_eq_some_iff.1 hk).1]
    exact hk
  refine ⟨h.below, by simp [h.len], by simp [h.sl], h.op, h.cl, by simp [h.ls]; omega, fun j p hp hj => ?_, fun j p hp hj => ?_, fun j p hp hj => ?_, fun j p hp hj => ?_⟩
  · rcases hset j p hp with ⟨rfl, rfl⟩ | ⟨e, hp'⟩
    · omega
    · exact h.un j p hp' (by omega)
  · rcases hset j p hp with ⟨rfl, rfl⟩ | ⟨e, hp'⟩
    · exact ⟨rfl, D.ls.length, rfl, by simp⟩
    · obtain ⟨h1, k, h2, h3⟩ := h.sd j p hp' (by omega)
      exact ⟨h1, k, h2, hls k _ _ h3⟩
  · rcases hset j p hp with ⟨rfl, rfl⟩ | ⟨e, hp'⟩
    · exact h.op0 j x hx hj
    · exact h.op0 j p hp' hj
  · rcases hset j p hp with ⟨rfl, rfl⟩ | ⟨e, hp'⟩
    · obtain ⟨⟨k, h2, h3⟩, h4⟩ := h.op1 j x hx hj
      exact ⟨⟨k, h2, hls k _ _ h3⟩, h4⟩
    · obtain ⟨⟨k, h2, h3⟩, h4⟩ := h.op1 j p hp' hj
      exact ⟨⟨k, h2, hls k _ _ h3⟩, h4⟩
theorem Stt.open {D : DS} {b m : Nat} {H : Nat → ByteArray} {v : Nat → Nat} {t : Nat → ByteArray} {O : Nat → Prop} {c : Nat} (h : Stt D b m H v t m O c) (hc : c < m) (j : Nat) (hj : j < m) (hO : ¬ O j) (hv : v j < b) (ht : isSaltL (t j).data.toList = true) :
    D.openE ((j + 1 : Nat) : Int) ((v j : Nat) : Int) (t j) = 0 ∧ D.openR ((j + 1 : Nat) : Int) ((v j : Nat) : Int) (t j) = sameB (openH ((j + 1 : Nat) : Int) ((v j : Nat) : Int) (t j)) (H j) ∧ Stt (D.open ((j + 1 : Nat) : Int) ((v j : Nat) : Int) (t j)) b m H v t m (fun k => O k ∨ k = j) (c + 1) := by
  obtain ⟨x, hx⟩ : ∃ x, D.ps[j]? = some x := ⟨_, List.getElem?_eq_getElem (by rw [h.len]; exact hj)⟩
  have hrun : D.running = true := by
    have : (c == m) = false := by simp; omega
    simp [DS.running, DS.over, h.sl, h.len, h.op, h.cl, this]
  have hE : D.openE ((j + 1 : Nat) : Int) ((v j : Nat) : Int) (t j) = 0 := by
    unfold DS.openE
    rw [h.len, h.below, inR_one j m hj, ht, hrun, toNat_one, hx, show inR ((v j : Nat) : Int) 0 (((b : Nat) : Int) - 1) = true from (inR_iff _ _ _).2 ⟨by omega, by omega⟩]
    simp [h.op0 j x hx hO]
  have hh : x.h = H j := (h.sd j x hx hj).1
  refine ⟨hE, by rw [DS.openR, toNat_one, hx]; simp only [hh], ?_⟩
  rw [DS.open, if_pos hE, DS.openT, toNat_one, hx]
  have hil : j < D.ps.length := by rw [h.len]; exact hj
  have hset : ∀ i p, (D.ps.set j { x with v := ((v j : Nat) : Int), r := sameB (openH ((j + 1 : Nat) : Int) ((v j : Nat) : Int) (t j)) x.h, o := D.ls.length + 1 })[i]? = some p → (i = j ∧ p = { x with v := ((v j : Nat) : Int), r := sameB (openH ((j + 1 : Nat) : Int) ((v j : Nat) : Int) (t j)) x.h, o := D.ls.length + 1 }) ∨ (i ≠ j ∧ D.ps[i]? = some p) := fun i p hp => by
    by_cases e : i = j
    · subst e
      rw [List.getElem?_set_self hil] at hp
      exact .inl ⟨rfl, (Option.some.inj hp).symm⟩
    · rw [List.getElem?_set_ne (Ne.symm e)] at hp
      exact .inr ⟨e, hp⟩
  have hls : ∀ (k : Nat) (l y : ByteArray), D.ls[k]? = some y → (D.ls ++ [l])[k]? = some y := fun k l y hk => by
    rw [List.getElem?_append_left (List.getElem?_eq_some_iff.1 hk).1]
    exact hk
  refine ⟨h.below, by simp [h.len], h.sl, by simp [h.op], h.cl, by simp [h.ls]; omega, fun i p hp hi => ?_, fun i p hp hi => ?_, fun i p hp hi => ?_, fun i p hp hi => ?_⟩
  · rcases hset i p hp with ⟨rfl, rfl⟩ | ⟨e, hp'⟩
    · omega
    · exact h.un i p hp' hi
  · rcases hset i p hp with ⟨rfl, rfl⟩ | ⟨e, hp'⟩
    · obtain ⟨h1, k, h2, h3⟩ := h.sd i x hx hj
      exact ⟨h1, k, h2, hls k _ _ h3⟩
    · obtain ⟨h1, k, h2, h3⟩ := h.sd i p hp' hi
      exact ⟨h1, k, h2, hls k _ _ h3⟩
  · rcases hset i p hp with ⟨rfl, rfl⟩ | ⟨e, hp'⟩
    · exact absurd (.inr rfl) hi
    · exact h.op0 i p hp' fun ho => hi (.inl ho)
  · rcases hset i p hp with ⟨rfl, rfl⟩ | ⟨e, hp'⟩
    · exact ⟨⟨D.ls.length, rfl, by simp⟩, by simp only [hh], rfl⟩
    · obtain ⟨⟨k, h2, h3⟩, h4⟩ := h.op1 i p hp' (hi.elim id fun e' => absurd e' e)
      exact ⟨⟨k, h2, hls k _ _ h3⟩, h4⟩
theorem devFrom_nil (cl : Nat) : ∀ (l : List PS) (i : Nat), (∀ x ∈ l, 0 < x.o ∧ x.r = true) → devFrom cl i l = []
  | [], _, _ => rfl
  | x :: l, i, h => by
    obtain ⟨h1, h2⟩ := h x (List.mem_cons_self)
    rw [devFrom, devFrom_nil cl l _ fun y hy => h y (List.mem_cons_of_mem _ hy)]
    simp [devOf, h2]
    omega
def sumV (v : Nat → Nat) : Nat → Nat
  | 0 => 0
  | m + 1 => sumV v m + v m
theorem valN_take (b : Nat) (hb : 0 < b) (v : Nat → Nat) (l : List PS) (hv : ∀ j p, l[j]? = some p → p.v = ((v j : Nat) : Int) ∧ v j < b) : ∀ i, i ≤ l.length → valN b (l.take i) 0 = sumV v i % b
  | 0, _ => by simp [valN, sumV]
  | i + 1, hi => by
    obtain ⟨x, hx⟩ : ∃ x, l[i]? = some x := ⟨_, List.getElem?_eq_getElem hi⟩
    obtain ⟨h1, h2⟩ := hv i x hx
    rw [List.take_add_one, hx, valN_app, valN_take b hb v l hv i (by omega)]
    have hm : sumV v i % b < b := Nat.mod_lt _ hb
    simp only [Option.toList_some, valN, h1, addO]
    rw [if_pos ⟨by omega, by omega⟩, if_pos ⟨by omega, by omega⟩]
    simp only [Int.toNat_natCast, Option.getD_some, sumV]
    rw [Nat.zero_add, Nat.mod_mod, Nat.mod_add_mod]
/-- All have opened what they sealed. -/
theorem Stt.done {D : DS} {b m : Nat} {H : Nat → ByteArray} {v : Nat → Nat} {t : Nat → ByteArray} {O : Nat → Prop} (h : Stt D b m H v t m O m) (hb : 0 < b) (hO : ∀ j, j < m → O j) (hv : ∀ j, j < m → v j < b) (hH : ∀ j, j < m → H j = openH ((j + 1 : Nat) : Int) ((v j : Nat) : Int) (t j)) :
    D.over = true ∧ D.devs = [] ∧ D.valE = 0 ∧ D.val = ((sumV v m % b : Nat) : Int) := by
  have hov : D.over = true := by simp [DS.over, h.op, h.len]
  have hj : ∀ j p, D.ps[j]? = some p → j < m := fun j p hp => by rw [← h.len]; exact (List.getElem?_eq_some_iff.1 hp).1
  have hde : D.devs = [] := by
    refine devFrom_nil _ _ _ fun x hx => ?_
    obtain ⟨j, hjx⟩ := List.mem_iff_getElem?.1 hx
    obtain ⟨⟨k, h1, _⟩, h2, _⟩ := h.op1 j x hjx (hO j (hj j x hjx))
    rw [hH j (hj j x hjx), sameB_self] at h2
    exact ⟨by omega, h2⟩
  have hE : D.valE = 0 := by simp [DS.valE, hov, hde]
  refine ⟨hov, hde, hE, ?_⟩
  rw [DS.val, if_pos hE, h.below]
  have := valN_take b hb v D.ps (fun j p hp => ⟨(h.op1 j p hp (hO j (hj j p hp))).2.2, hv j (hj j p hp)⟩) D.ps.length (Nat.le_refl _)
  rw [List.take_length, h.len] at this
  rw [this]
end Go.Proofs.YtbcileppebpamaaGreatDoor
set_option linter.unusedSimpArgs false
set_option linter.unusedVariables false
namespace Go.Proofs.YtbcileppebpamaaGreatDoor
open Go Go.RowKit Go.Shelf
set_option maxRecDepth 100000
/-- A drawing that lies in a world that has grown out of w. -/
structure DA (w V : World) (B b q : Nat) (D : DS) : Prop where
  d : DrawAt V B b q D
  bw : Below w.heap.size w V
  wB : w.heap.size ≤ B
  le : B ≤ V.heap.size
  hb : B ≤ b
  hq : B ≤ q
theorem DA.below {w V V' : World} {B b q : Nat} {D : DS} (h : DA w V B b q D) (hb : Below V.heap.size V V') : DA w V' B b q D :=
  ⟨h.d.below hb, h.bw.trans (hb.mono h.bw.size), h.wB, Nat.le_trans h.le hb.size, h.hb, h.hq⟩
theorem DA.only {w V V' : World} {B b q : Nat} {D D' : DS} (h : DA w V B b q D) (hd : DrawAt V' B b q D') (ho : OnlyD B b q V V') : DA w V' B b q D' :=
  ⟨hd, h.bw.trans ((ho.toB h.hb h.hq h.le).mono h.wB), h.wB, Nat.le_trans h.le ho.size, h.hb, h.hq⟩
theorem DA.laid {w V : World} {B b q : Nat} {D : DS} (L : LaidW w) (h : DA w V B b q D) : ∀ W', Below B V W' → LaidW W' := fun _ hW => L.below (h.bw.trans (hW.mono h.wB))
theorem size_hash (h : ByteArray) (hH : isHashL h.data.toList = true) : h.size ≤ 1000000 := by
  rw [isHashL, Bool.and_eq_true, decide_eq_true_eq, Array.length_toList] at hH
  show h.data.size ≤ _
  omega
theorem da_seal {w V : World} {B b q : Nat} {D : DS} (L : LaidW w) (k : DA w V B b q D) {bb m i c : Nat} {H : Nat → ByteArray} {v : Nat → Nat} {t : Nat → ByteArray} {O : Nat → Prop} (s : Stt D bb m H v t i O c) (hm : m ≤ 30) (hc : c ≤ m) (hi : i < m) (hH : isHashL (H i).data.toList = true) :
    Calls Tryz.prog 18 #[.pointer (some ⟨b, 0, none⟩), .int .i64 ((i + 1 : Nat) : Int), .string (H i)] V fun e W' => e = .returned (.int .i64 0) ∧ ∃ D', Stt D' bb m H v t (i + 1) O c ∧ DA w W' B b q D' ∧ OnlyD B b q V W' := by
  obtain ⟨hE, s'⟩ := s.seal hi hH
  refine (SealD_c k.d ((i + 1 : Nat) : Int) (H i) k.le k.hb k.hq (k.laid L) (by rw [s.len]; exact hm) (size_hash _ hH) (by rw [s.ls]; omega) (by rw [s.sl]; omega)).mono ?_
  rintro e W' ⟨he, hd, ho⟩
  rw [hE] at he
  exact ⟨he, _, s', k.only hd ho, ho⟩
theorem size_salt (t : ByteArray) (h : isSaltL t.data.toList = true) : t.size ≤ 1000000 := by
  rw [isSaltL, Bool.and_eq_true, Bool.and_eq_true, decide_eq_true_eq, decide_eq_true_eq, Array.length_toList] at h
  show t.data.size ≤ _
  omega
theorem da_open {w V : World} {B b q : Nat} {D : DS} (L : LaidW w) (k : DA w V B b q D) {bb m c : Nat} {H : Nat → ByteArray} {v : Nat → Nat} {t : Nat → ByteArray} {O : Nat → Prop} (s : Stt D bb m H v t m O c) (hm : m ≤ 30) (hbb : bb ≤ 1000000000) (hc : c < m) (j : Nat) (hj : j < m) (hO : ¬ O j) (hv : v j < bb) (ht : isSaltL (t j).data.toList = true) :
    Calls Tryz.prog 20 #[.pointer (some ⟨b, 0, none⟩), .agg #[.int .i64 ((j + 1 : Nat) : Int), .int .i64 ((v j : Nat) : Int), .string (t j)]] V fun e W' => e = .returned (.tuple #[.bool (sameB (openH ((j + 1 : Nat) : Int) ((v j : Nat) : Int) (t j)) (H j)), .int .i64 0]) ∧ ∃ D', Stt D' bb m H v t m (fun k => O k ∨ k = j) (c + 1) ∧ DA w W' B b q D' ∧ OnlyD B b q V W' := by
  obtain ⟨hE, hR, s'⟩ := s.open hc j hj hO hv ht
  refine (OpenD_c k.d ((j + 1 : Nat) : Int) ((v j : Nat) : Int) (t j) k.le k.hb k.hq (k.laid L) (by rw [s.len]; exact hm) (by rw [s.below]; exact hbb) (size_salt _ ht) (by rw [s.ls]; omega) (by rw [s.op]; omega)).mono ?_
  rintro e W' ⟨he, hd, ho⟩
  rw [if_pos hE, hE, hR] at he
  exact ⟨he, _, s', k.only hd ho, ho⟩
theorem da_value {w V : World} {B b q : Nat} {D : DS} (k : DA w V B b q D) {bb m : Nat} {H : Nat → ByteArray} {v : Nat → Nat} {t : Nat → ByteArray} {O : Nat → Prop} (s : Stt D bb m H v t m O m) (hm : m ≤ 30) (hbb : 1 ≤ bb ∧ bb ≤ 1000000000) (hO : ∀ j, j < m → O j) (hv : ∀ j, j < m → v j < bb) (hH : ∀ j, j < m → H j = openH ((j + 1 : Nat) : Int) ((v j : Nat) : Int) (t j)) :
    Calls Tryz.prog 23 #[.pointer (some ⟨b, 0, none⟩)] V fun e W' => e = .returned (.tuple #[.int .i64 ((sumV v m % bb : Nat) : Int), .int .i64 0]) ∧ Below V.heap.size V W' := by
  obtain ⟨_, _, hE, hV⟩ := s.done (by omega) hO hv hH
  refine (Value_c k.d (by rw [s.len]; exact hm) (by rw [s.below]; exact hbb)).mono ?_
  rintro e W' ⟨he, hb⟩
  rw [hE, hV] at he
  exact ⟨he, hb⟩
/-- The hash of a valid box. -/
theorem box_hash (p v : Nat) (hp : 1 ≤ p ∧ p ≤ 30) (hv : v ≤ 999999999) (s : ByteArray) (hs : isSaltL s.data.toList = true) (w : World) (L : LaidW w) :
    Calls Tryz.prog 31 #[.agg #[.int .i64 ((p : Nat) : Int), .int .i64 ((v : Nat) : Int), .string s]] w fun e w' => e = .returned (.tuple #[.string (openH ((p : Nat) : Int) ((v : Nat) : Int) s), .int .i64 0]) ∧ Below w.heap.size w w' := by
  refine (Seal_c ((p : Nat) : Int) ((v : Nat) : Int) (by omega) (by omega) s (size_salt _ hs) w L).mono ?_
  rintro e w' ⟨he, hb⟩
  rw [if_pos (by rw [isBoxL, hs, decide_eq_true (by omega), decide_eq_true (by omega), decide_eq_true (by omega), decide_eq_true (by omega)]; rfl)] at he
  exact ⟨he, hb⟩
end Go.Proofs.YtbcileppebpamaaGreatDoor
set_option linter.unusedSimpArgs false
set_option linter.unusedVariables false
namespace Go.Proofs.YtbcileppebpamaaGreatDoor
open Go Go.RowKit Go.Shelf
set_option maxRecDepth 100000
def wClose : ByteArray := ⟨#[99, 108, 111, 115, 101]⟩
def DS.closeT (D : DS) : DS := { D.line [wClose] with cl := D.ls.length + 1 }
def DS.close (D : DS) : DS := if D.running = true then D.closeT else D
set_option maxHeartbeats 4000000 in
theorem CloseD_c {W : World} {B b q : Nat} {D : DS} (hd : DrawAt W B b q D) (hB : B ≤ W.heap.size) (hbB : B ≤ b) (hls : D.ls.length < 1000000) :
    Calls Tryz.prog 22 #[.pointer (some ⟨b, 0, none⟩)] W fun e W' => e = .returned (.int .i64 (if D.running = true then 0 else 9)) ∧ DrawAt W' B b q D.close ∧ OnlyD B b q W W' := by
  have HR := hid (running_c B b q D W hd)
  unfold DS.close
  cases hrun : D.running with
  | false =>
    rw [hrun] at HR
    simp only [Bool.false_eq_true, if_false]
    have HD := hid hd
    clear hd hrun
    go_enter Tryz.func22, Tryz.ntmps22
    go_wp2_with (go_at_call 60; refine HR.out.mono ?_; rintro e w1 ⟨rfl, m, rfl⟩)
    go_ret
    exact ⟨rfl, HD.out.below (drewN_below W m), .below (drewN_below W m)⟩
  | true =>
    rw [hrun] at HR
    simp only [if_true]
    have HD := hid hd
    have hlen : (lineL [wClose]).length ≤ 1000000000 := by decide +kernel
    clear hd hrun
    go_enter Tryz.func22, Tryz.ntmps22
    go_upto_region 5 with (go_at_call 60; refine HR.out.mono ?_; rintro e w1 ⟨rfl, m, rfl⟩; have hd1 := HD.out.below (drewN_below W m); have hb1 := drewN_below W m; generalize W.drewN m = w1 at hd1 hb1 ⊢; have HD1 := hid (And.intro hd1 hb1); clear hd1 hb1)
    have hnw := heap_alloc_new w1 (.cells #[.string ⟨#[99, 108, 111, 115, 101]⟩] 9)
    have hal : Below w1.heap.size w1 (w1.alloc (.cells #[.string ⟨#[99, 108, 111, 115, 101]⟩] 9)) := (Below.refl _ _).alloc (Nat.le_refl _) _
    have hd2 := HD1.out.1.below hal
    have HWR := hid (writeD_c hd2 [wClose] w1.heap.size 1 (Nat.le_trans hB (Nat.le_trans HD1.out.2.size hal.size)) (fun j x hj => by
      obtain rfl : j = 0 := by
        cases j with
        | zero => rfl
        | succ j => simp at hj
      simp at hj
      subst hj
      exact cell_of_row _ _ 0 _ _ _ hnw) (heap_lt hnw) (Nat.le_refl _) hls (by decide) hlen)
    have HAL := hid (HD1.out.2.trans (hal.mono HD1.out.2.size))
    clear hnw hal hd2 HD1
    go_upto_region 6 with (go_at_call 51; refine HWR.out.mono ?_; rintro e w3 ⟨rfl, hd3, ho3⟩; have hfz := hd3.bf 5; have hk5 := hd3.dev.b5; have HD3 := hid (And.intro hd3 ho3); clear hd3 ho3)
    have hd4 : DrawAt (w3.setCell ⟨b, 5, none⟩ (.int .i64 ((D.ls.length + 1 : Nat) : Int))) B b q D.closeT := HD3.out.1.setB 5 _ D.closeT (fun vl => rfl) rfl rfl
    have ho4 : OnlyD B b q W (w3.setCell ⟨b, 5, none⟩ (.int .i64 ((D.ls.length + 1 : Nat) : Int))) := ((OnlyD.below HAL.out).trans HD3.out.2).set (.inl rfl) 5 _
    have HF := hid (And.intro hd4 ho4)
    clear hd4 ho4
    go_wp2_with fail
    go_ret
    exact ⟨rfl, HF.out.1, HF.out.2⟩
/-- The text of a drawing. -/
def DS.text (D : DS) : List UInt8 := Lib.join (D.ls.map (·.data.toList)) []
theorem TextD_c {W : World} {B b q : Nat} {D : DS} (hd : DrawAt W B b q D) (h1 : 1 ≤ D.ls.length) (hls : D.ls.length ≤ 1000000) (hlen : D.text.length ≤ 1000000000) :
    Calls Tryz.prog 25 #[.pointer (some ⟨b, 0, none⟩)] W fun e W' => e = .returned (.tuple #[.string ⟨D.text.toArray⟩, .int .i64 0]) ∧ Below W.heap.size W W' := by
  obtain ⟨vl, hx, hrow⟩ := hd.box
  rcases hrow.2 with ⟨_, h0⟩ | ⟨g, cap, cur, rfl, hBg, hg, hcap, _, _, htake⟩
  · omega
  · have hcells : ∀ (j : Nat) x, D.ls[j]? = some x → W.cell? ⟨g, 0 + j, none⟩ = some (.string x) := fun j x hj => by
      rw [Nat.zero_add, cell_of_row _ _ j _ _ (0, 0) hg]
      have hjl := (List.getElem?_eq_some_iff.1 hj).1
      have : (cur.toList.take (D.ls.length * 1))[j]? = (D.ls.map Value.string)[j]? := by rw [htake]
      rw [List.getElem?_take, if_pos (by omega), List.getElem?_map, hj] at this
      rw [← Array.getElem?_toList, this]
      rfl
    have HJ := hid (strings_Join g 0 cap D.ls ⟨#[]⟩ W hcells (heap_lt hg) (by omega) hcap (by
      have : (Lib.join (D.ls.map (·.data.toList)) (⟨#[]⟩ : ByteArray).data.toList).length = D.text.length := rfl
      omega))
    have k0 := cell_of_row _ _ 0 _ _ _ hx
    have hte : (⟨(Lib.join (D.ls.map (·.data.toList)) (⟨#[]⟩ : ByteArray).data.toList).toArray⟩ : ByteArray) = ⟨D.text.toArray⟩ := rfl
    rw [hte] at HJ
    obtain ⟨tx, htx⟩ : ∃ t : ByteArray, ⟨D.text.toArray⟩ = t := ⟨_, rfl⟩
    rw [htx] at HJ ⊢
    replace k0 : W.cell? ⟨b, 0, none⟩ = some (.slice (some ⟨g, 0, none⟩) D.ls.length cap) := k0
    obtain ⟨m, hm⟩ : ∃ m, D.ls.length = m := ⟨_, rfl⟩
    rw [hm] at HJ k0
    clear hcells hx hrow hg htake hte htx hd h1 hls hlen hm
    go_enter Tryz.func25, Tryz.ntmps25
    go_wp2_with (go_at_call 65; refine HJ.out.mono ?_; rintro e w1 ⟨rfl, hb1⟩)
    go_ret2
    exact ⟨rfl, hb1⟩
end Go.Proofs.YtbcileppebpamaaGreatDoor
set_option linter.unusedSimpArgs false
set_option linter.unusedVariables false
namespace Go.Proofs.YtbcileppebpamaaGreatDoor
open Go Go.RowKit Go.Shelf
set_option maxRecDepth 100000
def hexVal (c : Nat) : Nat := if c ≤ 57 then c - 48 else c - 87
def hexV (l : List UInt8) : Nat := l.foldl (fun n c => n * 16 + hexVal c.toNat) 0
end Go.Proofs.YtbcileppebpamaaGreatDoor
set_option linter.unusedSimpArgs false
set_option linter.unusedVariables false
namespace Go.Proofs.YtbcileppebpamaaGreatDoor
open Go Go.RowKit Go.Shelf
set_option maxRecDepth 100000
theorem index_one (c : UInt8) (r : List UInt8) : ∀ w : List UInt8, c ∉ w → Lib.index (w ++ c :: r) [c] = ((w.length : Nat) : Int)
  | [], _ => by simp [Lib.index, List.isPrefixOf]
  | b :: w, h => by
    have hb : (c == b) = false := by simp at h ⊢; exact h.1
    have ih := index_one c r w (fun hm => h (List.mem_cons_of_mem _ hm))
    rw [List.cons_append, Lib.index, ih]
    simp [List.isPrefixOf, hb]
    try rw [if_neg (by omega)]
theorem join_cons2 (w x : List UInt8) (r : List (List UInt8)) (sep : List UInt8) : Lib.join (w :: x :: r) sep = w ++ (sep ++ Lib.join (x :: r) sep) := by
  rw [Lib.join_cons, Lib.join_cons]
  simp [Lib.joinTail]
theorem count_join (c : UInt8) : ∀ (r : List (List UInt8)) (w : List UInt8), (∀ x ∈ w :: r, c ∉ x) → (Lib.join (w :: r) [c]).count c = r.length
  | [], w, h => by
    rw [Lib.join_one]
    exact List.count_eq_zero_of_not_mem (h w (List.mem_cons_self))
  | x :: r, w, h => by
    rw [join_cons2, List.count_append, List.count_append, count_join c r x fun y hy => h y (List.mem_cons_of_mem _ hy), List.count_eq_zero_of_not_mem (h w (List.mem_cons_self))]
    simp
    omega
theorem splitK_join (c : UInt8) : ∀ (r : List (List UInt8)) (w : List UInt8), (∀ x ∈ w :: r, c ∉ x) → Lib.splitK [c] 0 r.length (Lib.join (w :: r) [c]) = w :: r
  | [], w, _ => by rw [List.length_nil, Lib.splitK, Lib.join_one]
  | x :: r, w, h => by
    have hi := index_one c (Lib.join (x :: r) [c]) w (h w (List.mem_cons_self))
    rw [List.length_cons, Lib.splitK, join_cons2, List.singleton_append, hi, if_neg (by simp <;> omega), Int.toNat_natCast, Nat.add_zero, List.take_left, List.length_singleton, ← List.drop_drop, List.drop_left, List.drop_one, List.tail_cons, splitK_join c r x fun y hy => h y (List.mem_cons_of_mem _ hy)]
theorem ba_inj {a b : List ByteArray} (h : a.map (·.data.toList) = b.map (·.data.toList)) : a = b := by
  refine (List.map_inj_right fun x y hxy => ?_).1 h
  obtain ⟨⟨x⟩⟩ := x
  obtain ⟨⟨y⟩⟩ := y
  exact congrArg (fun l => ByteArray.mk (Array.mk l)) hxy
def bas (ws : List (List UInt8)) : List ByteArray := ws.map fun l => ⟨l.toArray⟩
theorem bas_data (ws : List (List UInt8)) : (bas ws).map (·.data.toList) = ws := by
  rw [bas, List.map_map]
  exact (List.map_congr_left fun _ _ => rfl).trans (List.map_id _)
theorem splitB_join (c : UInt8) (w : List UInt8) (r : List (List UInt8)) (h : ∀ x ∈ w :: r, c ∉ x) : Lib.countB ⟨(Lib.join (w :: r) [c]).toArray⟩ ⟨#[c]⟩ = r.length ∧ Lib.splitB ⟨#[c]⟩ 0 r.length ⟨(Lib.join (w :: r) [c]).toArray⟩ = bas (w :: r) := by
  constructor
  · show Lib.count (Lib.join (w :: r) [c]) [c] = _
    rw [Lib.count_one, count_join c r w h]
  · refine ba_inj ?_
    rw [Lib.splitB_data, bas_data]
    exact splitK_join c r w h
/-- A text that is cut at a byte. -/
theorem Cut_c (c : UInt8) (w : List UInt8) (r : List (List UInt8)) (h : ∀ x ∈ w :: r, c ∉ x) (W : World) (m : Int) (hm : W.cell? ⟨2, 0, none⟩ = some (.int .i64 m)) (hl : (Lib.join (w :: r) [c]).length ≤ 1000000000) :
    Calls Tryz.prog 26 #[.string ⟨(Lib.join (w :: r) [c]).toArray⟩, .string ⟨#[c]⟩] W fun e W' => e = .returned (.slice (some ⟨W.heap.size, 0, none⟩) (r.length + 1) (r.length + 1)) ∧ W' = W.alloc (.cells ((bas (w :: r)).map Value.string).toArray 9) := by
  obtain ⟨h1, h2⟩ := splitB_join c w r h
  have := strings_Split ⟨(Lib.join (w :: r) [c]).toArray⟩ ⟨#[c]⟩ m W (by show (Lib.join (w :: r) [c]).toArray.size < _; simp; omega) hm (Nat.le_refl 1)
  rw [h1, h2] at this
  exact this
theorem mem_join (c : UInt8) (sep : List UInt8) : ∀ (ws : List (List UInt8)), (∀ w ∈ ws, c ∉ w) → c ∉ sep → c ∉ Lib.join ws sep
  | [], _, _ => by simp [Lib.join_nil]
  | [w], h, _ => by rw [Lib.join_one]; exact h w (List.mem_cons_self)
  | w :: x :: r, h, hs => by
    rw [join_cons2, List.mem_append, List.mem_append]
    rintro (h1 | h1 | h1)
    · exact h w (List.mem_cons_self) h1
    · exact hs h1
    · exact mem_join c sep (x :: r) (fun y hy => h y (List.mem_cons_of_mem _ hy)) hs h1
end Go.Proofs.YtbcileppebpamaaGreatDoor
