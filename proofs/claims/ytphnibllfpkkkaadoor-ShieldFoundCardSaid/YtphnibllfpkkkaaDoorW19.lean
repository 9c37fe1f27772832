/- Mend of valid copies. -/
import Derived.Test.YtphnibllfpkkkaaDoorW18
namespace Go.Proofs.YtphnibllfpkkkaaDoor
open Go Go.RowKit Go.Shelf
set_option maxRecDepth 100000

attribute [local go_sem] Oper.semAt_some
set_option maxHeartbeats 8000000 in
theorem Mend_in (F : Nat → Nat) (hF : ∀ i, i < 16 → F i < 16) (n : Nat) (hn : 3 ≤ n) (w : World) (L : Laid w) (LB : LaidB w) (ga : List Nat) (hga : gAll = ga) (mm cc ll : Nat) (hst : mL (DF F) ga = (mm, cc, ll)) (hll : ll < 65536) :
    CallsIn Fence.wide n Tryd.prog 47 #[.agg (irow 16 (cst F))] w fun e w' => e = .returned (.tuple #[.agg (irow 18 (cst (rep mm cc (der (mths ll))))), .int .i64 0]) ∧ Below w.heap.size w w' := by
  have HGA := hid hga
  have HST := hid hst
  have HLL := hid hll
  have HF := hid hF
  clear hga hst hll
  have h1 : 1 ≤ n := by omega
  have hs0 := heap_alloc2_old w (.cells (irow 16 (cst F)) 24) (.cells (irow 18 (cst (rep 0 0 (fun _ => 0)))) 87)
  have hr0 := heap_alloc2_new w (.cells (irow 16 (cst F)) 24) (.cells (irow 18 (cst (rep 0 0 (fun _ => 0)))) 87)
  have hb0 : Below w.heap.size w ((w.alloc (.cells (irow 16 (cst F)) 24)).alloc (.cells (irow 18 (cst (rep 0 0 (fun _ => 0)))) 87)) := ((Below.refl _ _).alloc (Nat.le_refl _) _).alloc (by simp) _
  have hz0 : ((w.alloc (.cells (irow 16 (cst F)) 24)).alloc (.cells (irow 18 (cst (rep 0 0 (fun _ => 0)))) 87)).heap.size = w.heap.size + 2 := by simp
  have HV := hid (validS_yes (cst F) (fun i hi => ⟨by simp, by have := hF i hi; simp; omega⟩) w.heap.size 16 _ _ hs0)
  have HP := hid (fun W => pack_c F hF W)
  clear hF
  refine callsIn_of_wp_marks Tryd.func47 rfl trivial ?_ rfl
  simp only [Tryd.ntmps47, List.size_toArray, List.length_cons, List.length_nil, Nat.reduceAdd, Nat.reduceSub, Array.replicate_succ, Array.replicate_zero, List.push_toArray, List.append_toArray, List.nil_append, List.cons_append]
  gi_wp2_with (first
    | (gi_at_call 50; rw [rep_zero]; generalize (w.alloc (.cells (irow 16 (cst F)) 24)).alloc (.cells (irow 18 (cst (rep 0 0 (fun _ => 0)))) 87) = w1 at hs0 hr0 hb0 hz0 HV ⊢; refine (callsIn_wide.2 HV.out).mono ?_; rintro e w' ⟨rfl, rfl⟩)
    | (refine ldrowIn arrShield _ rfl rfl _ rfl _ _ hs0 ?_)
    | (gi_at_call 72; refine (callsIn_wide.2 (HP.out _)).mono ?_; rintro e w2 ⟨rfl, hc2⟩)
    | (gi_at_call 69; refine (callsIn_wide.2 (charts_c _)).mono ?_; rintro e w' ⟨rfl, rfl⟩))
  have hL0 := L.size
  have hLB0 := LB.size
  have HL := hid (fun W (h : Below w.heap.size w W) => And.intro (L.below h) (LB.below h))
  have hr2 := heap_below hc2 hr0 (heap_lt hr0)
  have hb2 := hb0.trans (hc2.mono hb0.size)
  have hz2 : w.heap.size + 2 ≤ w2.heap.size := by have := hc2.size; omega
  clear hs0 hr0 hb0 hz0 hc2 L LB HV HP
  rw [rep_65]
  have ha1 := (Below.refl w2.heap.size w2).alloc (Nat.le_refl _) (.cells #[.int .u64 ((pk F 16 : Nat) : Int)] 120)
  have hCM : CM F w.heap.size w2.heap.size w [] (((w2.alloc (.cells #[.int .u64 ((pk F 16 : Nat) : Int)] 120)).alloc (.cells (irow 18 (cst (rep 65 0 (fun _ => 0)))) 87)).alloc (.cells #[.int .i64 0] 3)) := by
    refine ⟨?_, ?_, ?_, ?_, ?_⟩
    · rw [heap_alloc_old _ _ (by simp; omega), heap_alloc_old _ _ (by simp; omega), heap_alloc_old _ _ (by omega)]; exact hr2
    · rw [heap_alloc_old _ _ (by simp; omega)]; exact heap_alloc2_old w2 _ _
    · rw [heap_alloc_old _ _ (by simp)]; exact heap_alloc2_new w2 _ _
    · have := heap_alloc_new ((w2.alloc (.cells #[.int .u64 ((pk F 16 : Nat) : Int)] 120)).alloc (.cells (irow 18 (cst (rep 65 0 (fun _ => 0)))) 87)) (.cells #[.int .i64 0] 3)
      have hsz3 : ((w2.alloc (.cells #[.int .u64 ((pk F 16 : Nat) : Int)] 120)).alloc (.cells (irow 18 (cst (rep 65 0 (fun _ => 0)))) 87)).heap.size = w2.heap.size + 1 + 1 := by simp
      rw [hsz3] at this
      exact this
    · exact ((hb2.alloc hb2.size _).alloc (by simp; omega) _).alloc (by simp; omega) _
  have hsz : (((w2.alloc (.cells #[.int .u64 ((pk F 16 : Nat) : Int)] 120)).alloc (.cells (irow 18 (cst (rep 65 0 (fun _ => 0)))) 87)).alloc (.cells #[.int .i64 0] 3)).heap.size = w2.heap.size + 1 + 1 + 1 := by simp
  have hLb := HL.out _ hCM.below
  clear hr2 hb2 ha1
  generalize hlo : w.heap.size = lo at *
  generalize w2.heap.size = b0 at *
  generalize ((w2.alloc (.cells #[.int .u64 ((pk F 16 : Nat) : Int)] 120)).alloc (.cells (irow 18 (cst (rep 65 0 (fun _ => 0)))) 87)).alloc (.cells #[.int .i64 0] 3) = W0 at *
  refine wpIn_rangeFunc_ownH rfl h1 (gf := 82) (lb := #[]) rfl trivial (enters_of Tryd.func82 (by kernel_rfl) rfl)
    (charts_stops (n - 1) (by omega) lo (b0 + 1 + 1 + 1) ⟨hL0, hLB0⟩ _ hLb.1 hLb.2 (Nat.le_of_eq hsz.symm)) (fun h k => h.trans k) keepO_b (Below.refl _ _) (fun _ => rfl)
    (CM F lo b0 w) (fun _ _ _ => False) (CM_own (by omega) (Nat.le_of_eq hlo.symm)) (fun _ _ _ _ _ hs _ _ => hs) hCM
    (fun x a' _ => a' = { tmps := #[.agg (irow 16 (cst F)), .pointer (some ⟨lo, 0, none⟩), .pointer (some ⟨lo + 1, 0, none⟩), .int .i64 0, .pointer (some ⟨b0, 0, none⟩), .pointer (some ⟨b0 + 1, 0, none⟩), .pointer (some ⟨b0 + 1 + 1, 0, none⟩), .int .i64 ((gr x : Nat) : Int), .int .u64 ((word (gr x) : Nat) : Int), undef, .slice (some ⟨lo, 0, none⟩) 16 16, .bool true, .bool false, undef, .agg (irow 16 (cst F)), .int .u64 ((pk F 16 : Nat) : Int), .agg (irow 18 (cst (rep 65 0 (fun _ => 0)))), .func (.func 82) #[] #[], .int .i64 ((gr x : Nat) : Int), .int .u64 ((word (gr x) : Nat) : Int), undef, undef, undef, undef, undef, undef, undef, undef, undef, undef, undef, undef, undef, undef, undef, undef, undef, undef, undef, undef, undef, undef, undef, undef, undef, undef, undef, undef, undef], defers := [] })
    (fun x a' _ W W' row h hg hr => h) ?assign ?body ?done ?stop
  case assign =>
    intro l pre x W K hi' hK
    gi_wp2_with fail
    exact hK _ _ ⟨Nat.le_refl _, fun _ _ _ h _ => h⟩ ⟨rfl, rfl, rfl, Nat.le_refl _, fun _ _ h _ _ => h⟩ hi' rfl
  case body =>
    rintro l pre x a' W hl hr hI rfl hlt
    have hlob : lo + 1 < b0 := by omega
    have hw0 : W.cell? ⟨b0, 0, none⟩ = some (.int .u64 ((pk F 16 : Nat) : Int)) := one_cellOf hI.word
    have hx := u64_xor (word (gr x)) (pk F 16) (word_lt _) (pk_16 F HF.out)
    have H := hid (fun W => ones64_c (fun i => der (mths (gr x)) i ^^^ F i) (fun i hi => x4 _ _ (der_lt (mths (gr x)) (fun i _ => mths_lt (gr x) i) i hi) (HF.out i hi)) (word (gr x) ^^^ pk F 16) (DF F (gr x)) (word_pk F HF.out (gr x)).symm rfl W)
    have hm : W.cell? ⟨b0 + 1, 0, none⟩ = some (.int .i64 (((mL (DF F) pre).1 : Nat) : Int)) := cell_irow hI.best 0 (by omega)
    have hc : W.cell? ⟨b0 + 1, 1, none⟩ = some (.int .i64 (((mL (DF F) pre).2.1 : Nat) : Int)) := cell_irow hI.best 1 (by omega)
    have hl0 : W.cell? ⟨b0 + 1 + 1, 0, none⟩ = some (.int .i64 (((mL (DF F) pre).2.2 : Nat) : Int)) := one_cellOf hI.lst
    have hz1 := frozen_of_row _ _ 1 _ _ hI.best
    have hz2 := frozen_of_row _ _ 0 _ _ hI.lst
    have hcl : (mL (DF F) pre).2.1 ≤ pre.length := (mL_le (DF F) pre).2
    have Hskip := hid (fun h1 h2 => hI.skip x h1 h2)
    have Htake := hid (fun h => hI.take hlob x h)
    have Hmore := hid (fun h c l hc hl => hI.more hlob x h c l hc hl)
    have hbest := hI.best
    have hlst := hI.lst
    have hlt1 := heap_lt hbest
    have hlt2 := heap_lt hlst
    have n12 : b0 + 1 ≠ b0 + 1 + 1 := by omega
    have n21 : b0 + 1 + 1 ≠ b0 + 1 := by omega
    clear hI HGA HST HLL HL hLb hCM hr
    generalize DF F (gr x) = d at *
    generalize (mL (DF F) pre).1 = m at *
    generalize (mL (DF F) pre).2.1 = c at *
    generalize (mL (DF F) pre).2.2 = l0 at *
    generalize word (gr x) ^^^ pk F 16 = y at *
    generalize pk F 16 = pkF at *
    generalize word (gr x) = wx at *
    generalize gr x = g at *
    by_cases hA : d < m
    · have hA' : ((d : Nat) : Int) < ((m : Nat) : Int) := by omega
      clear Hskip Hmore hc hz1
      gi_wp2_with (first
        | (gi_at_call 73; refine (CallsIn.inRound l (callsIn_wide.2 (H.out _))).mono ?_; rintro e w' ⟨rfl, rfl⟩)
        | (rw [rep_one]; refine strecIn recRepair _ _ rfl rfl _ _ rfl rfl _ _ hbest ?_; have hlS := (setRow_other W (b0 + 1) (b0 + 1 + 1) (irow 18 (cst (rep d 1 (fun _ => 0)))) (by omega)).trans hlst; obtain ⟨Wa, hWa⟩ : ∃ Wa, W.setRow (b0 + 1) (irow 18 (cst (rep d 1 (fun _ => 0)))) = Wa := ⟨_, rfl⟩; rw [hWa] at hlS ⊢; have hcS := one_cellOf hlS; have hfS := frozen_of_row _ _ 0 _ _ hlS; have HWa := hid hWa; clear hWa hlS))
      rw [← HWa.out]
      exact ⟨(keeps_setRow _ _ _ _ (by omega)).trans (keeps_setAt _ _ _ _ _ (by omega)), (keepO_setRow _ _ (by omega) (by omega)).trans (keepO_setAt _ _ (by omega) (by omega)), Htake.out hA⟩
    · have hA' : ¬ ((d : Nat) : Int) < ((m : Nat) : Int) := by omega
      by_cases hB : d = m
      · subst hB
        have hadd : IntKind.i64.wrap (((c : Nat) : Int) + 1) = ((c + 1 : Nat) : Int) := by rw [IntWalk.i64_in _ (by omega)]; rfl
        obtain ⟨c1, hc1⟩ : ∃ c1, c + 1 = c1 := ⟨_, rfl⟩
        rw [hc1] at hadd
        have Hc1 := hid hc1
        clear hc1 hcl Hskip Htake
        by_cases hmin : l0 ≤ g
        · have hq1 : ((l0 : Nat) : Int) ≤ ((g : Nat) : Int) := by omega
          have hq2 : ¬ ((g : Nat) : Int) < ((l0 : Nat) : Int) := by omega
          have hq3 : min ((l0 : Nat) : Int) ((g : Nat) : Int) = ((l0 : Nat) : Int) := by omega
          gi_wp2_with (gi_at_call 73; refine (CallsIn.inRound l (callsIn_wide.2 (H.out _))).mono ?_; rintro e w' ⟨rfl, rfl⟩)
          exact ⟨(keeps_setAt _ _ _ _ _ (by omega)).trans (keeps_setAt _ _ _ _ _ (by omega)), (keepO_setAt _ _ (by omega) (by omega)).trans (keepO_setAt _ _ (by omega) (by omega)), Hmore.out trivial c1 l0 Hc1.out (by omega)⟩
        · have hq1 : ¬ ((l0 : Nat) : Int) ≤ ((g : Nat) : Int) := by omega
          have hq2 : ((g : Nat) : Int) < ((l0 : Nat) : Int) := by omega
          have hq3 : min ((l0 : Nat) : Int) ((g : Nat) : Int) = ((g : Nat) : Int) := by omega
          gi_wp2_with (gi_at_call 73; refine (CallsIn.inRound l (callsIn_wide.2 (H.out _))).mono ?_; rintro e w' ⟨rfl, rfl⟩)
          exact ⟨(keeps_setAt _ _ _ _ _ (by omega)).trans (keeps_setAt _ _ _ _ _ (by omega)), (keepO_setAt _ _ (by omega) (by omega)).trans (keepO_setAt _ _ (by omega) (by omega)), Hmore.out trivial c1 g Hc1.out (by omega)⟩
      · have hB' : (((d : Nat) : Int) == ((m : Nat) : Int)) = false := by simp; omega
        clear Htake Hmore
        gi_wp2_with (gi_at_call 73; refine (CallsIn.inRound l (callsIn_wide.2 (H.out _))).mono ?_; rintro e w' ⟨rfl, rfl⟩)
        exact ⟨⟨Nat.le_refl _, fun _ _ _ h _ => h⟩, ⟨rfl, rfl, rfl, Nat.le_refl _, fun _ _ h _ _ => h⟩, Hskip.out hA hB⟩
  case done =>
    rintro D ys W hD hys hI hK
    rw [HGA.out] at hys
    subst hys
    have hbest := hI.best
    have hres := hI.res
    rw [HST.out] at hbest
    have hlst := hI.lst
    rw [HST.out] at hlst
    have hl0 : W.cell? ⟨b0 + 1 + 1, 0, none⟩ = some (.int .i64 ((ll : Nat) : Int)) := one_cellOf hlst
    have hbI := hI.below
    have hLd := hid (fun W' h => derive_c (mths ll) (fun i _ => mths_lt ll i) W' (HL.out W' h).1)
    have HM := hid (fun W => mothers_c ll HLL.out W)
    have hloW : lo ≤ W.heap.size := by have := heap_lt hbest; omega
    clear hI HGA HST HLL HL hLb hCM hlst
    gi_wp2_with (first
      | (gi_at_call 56; refine (callsIn_wide.2 (HM.out _)).mono ?_; rintro e w5 ⟨rfl, hc5⟩; have hb5 := hbI.trans (hc5.mono hloW); have hbest5 := heap_below hc5 hbest (heap_lt hbest); have hres5 := heap_below hc5 hres (heap_lt hres); have hK5 := heap_below hc5 hK (heap_lt hK))
      | (gi_at_call 51; refine (callsIn_wide.2 (hLd.out _ hb5)).mono ?_; rintro e w6 ⟨rfl, hc6⟩; have hb6 := hb5.trans (hc6.mono (by have := hc5.size; omega)); have hbest6 := heap_below hc6 hbest5 (heap_lt hbest5); have hres6 := heap_below hc6 hres5 (heap_lt hres5); have hK6 := heap_below hc6 hK5 (heap_lt hK5); clear hbest hres hK hbest5 hres5 hK5 hc5 hc6 hbI hb5)
      | (refine stshIn _ _ rfl rfl _ _ rfl rfl _ _ _ _ hbest6 ?_; have hbest7 := setRow_heap w6 (b0 + 1) _ (irow 18 (cst (rep mm cc (der (mths ll))))) _ _ hbest6; have hres7 := (setRow_other w6 (b0 + 1) (lo + 1) (irow 18 (cst (rep mm cc (der (mths ll))))) (by omega)).trans hres6; have hK7 := (setRow_other w6 (b0 + 1) D (irow 18 (cst (rep mm cc (der (mths ll))))) (by omega)).trans hK6; have hb7 := below_setRow hb6 (show lo ≤ b0 + 1 by omega) (irow 18 (cst (rep mm cc (der (mths ll))))); clear hbest6 hres6 hK6 hb6; generalize w6.setRow (b0 + 1) (irow 18 (cst (rep mm cc (der (mths ll))))) = w7 at hbest7 hres7 hK7 hb7 ⊢)
      | (refine ldrecIn recRepair _ rfl rfl _ rfl _ _ hbest7 ?_)
      | (refine strecIn recRepair _ _ rfl rfl _ _ rfl rfl _ _ hres7 ?_; have hres8 := setRow_heap w7 (lo + 1) _ (irow 18 (cst (rep mm cc (der (mths ll))))) _ _ hres7; have hK8 := (setRow_other w7 (lo + 1) D (irow 18 (cst (rep mm cc (der (mths ll))))) (by omega)).trans hK7; have hb8 := below_setRow hb7 (show lo ≤ lo + 1 by omega) (irow 18 (cst (rep mm cc (der (mths ll))))); clear hres7 hK7 hb7; generalize w7.setRow (lo + 1) (irow 18 (cst (rep mm cc (der (mths ll))))) = w8 at hres8 hK8 hb8 ⊢))
    refine ⟨by simp, .inl ⟨_, _, rfl, run_takeDeferred hK8, ?_⟩⟩
    refine ⟨_, results_rec2 recRepair Tryd.results47 _ _ (lo + 1) (cst (rep mm cc (der (mths ll)))) _ (.int .i64 0) rfl rfl (putObj_cell hK8 rfl hres8), rfl, ?_⟩
    rw [hlo]
    exact hb8.trans (belowK_b (w := w) (Nat.le_of_eq hlo.symm) _ D _ _ (by rw [hlo]; omega) hK8 rfl rfl)
  case stop =>
    rintro D c pre W _ _ h _
    exact h.elim
end Go.Proofs.YtphnibllfpkkkaaDoor
