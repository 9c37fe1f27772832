/- Walk of the reference: Count. -/
import Derived.Test.YtphnibllfpkkkaaDoorR9
import Derived.Test.YtphnibllfpkkkaaDoorW17
import Derived.Deep.DeepMust
namespace Go.Proofs.YtphnibllfpkkkaaDoor
open Go Go.RowKit
set_option maxRecDepth 100000

/-- How many of the first n charts are meant; the first one's mothers. -/
def cntN (S : Nat → Nat) : Nat → Nat := sumN fun i => if okB S i then 1 else 0
def fstN (S : Nat → Nat) : Nat → Nat → Int
  | 0 => fun _ => 0
  | n + 1 => if okB S n = true ∧ cntN S n = 0 then cst (mths n) else fstN S n
def okTo (S : Nat → Nat) (n : Nat) : Nat → Bool
  | 0 => true
  | k + 1 => okTo S n k && bitB (S k) (der (mths n) k)
theorem okTo_iff (S : Nat → Nat) (n : Nat) : ∀ k, okTo S n k = true ↔ ∀ i, i < k → bitB (S i) (der (mths n) i) = true
  | 0 => by simp [okTo]
  | k + 1 => by
    rw [okTo, Bool.and_eq_true, okTo_iff S n k]
    constructor
    · rintro ⟨h1, h2⟩ i hi
      by_cases e : i = k
      · subst e; exact h2
      · exact h1 i (by omega)
    · intro h
      exact ⟨fun i hi => h i (by omega), h k (by omega)⟩
theorem okTo_ok (S : Nat → Nat) (n : Nat) : okTo S n 16 = okB S n := by
  rw [Bool.eq_iff_iff, okTo_iff, okB_iff]
theorem bit_is (s f : Nat) (hs : s < 65536) : (bits .and .i64 (((s : Nat) : Int) / 2 ^ f) 1 == 1) = bitB s f := by
  have e1 : ((s : Nat) : Int) / 2 ^ f = ((s / 2 ^ f : Nat) : Int) := by push_cast; rfl
  have hlt : s / 2 ^ f < 65536 := Nat.lt_of_le_of_lt (Nat.div_le_self _ _) hs
  rw [e1, i64_and1 _ (by omega)]
  unfold bitB
  rw [Bool.eq_iff_iff]; simp; omega
theorem cntN_le (S : Nat → Nat) : ∀ n, cntN S n ≤ n
  | 0 => by simp [cntN, sumN]
  | n + 1 => by
    have := cntN_le S n
    have e : cntN S (n + 1) = cntN S n + if okB S n then 1 else 0 := rfl
    rw [e]; split <;> omega

theorem row4_set {W : World} {g : Nat} {S F : Nat → Int} {t : TypeId} (h : W.heap[g]? = some (.cells (irow 4 S) t (0, 0))) :
    ((((W.setCell ⟨g, 0, none⟩ (.int .i64 (F 0))).setCell ⟨g, 1, none⟩ (.int .i64 (F 1))).setCell ⟨g, 2, none⟩ (.int .i64 (F 2))).setCell ⟨g, 3, none⟩ (.int .i64 (F 3))).heap[g]? = some (.cells (irow 4 F) t (0, 0)) := by
  rw [set_irow (set_irow (set_irow (set_irow h 0 _) 1 _) 2 _) 3 _]
  have e : irow 4 (upd (upd (upd (upd S 0 (F 0)) 1 (F 1)) 2 (F 2)) 3 (F 3)) = irow 4 F := irow_congr fun i hi => by
    rcases (show i = 0 ∨ i = 1 ∨ i = 2 ∨ i = 3 by omega) with rfl | rfl | rfl | rfl <;> simp [upd]
  rw [e]
theorem rettr {P : Program} {T n : Nat} (hT : ArrT P T n) {fn : Func} {p q : Tmp} (h : fn.results = #[.tmp q, .cell p T]) {a : Act} {w : World} {R : Ending → World → Prop} (g : Nat) (S : Nat → Int) (t : TypeId) (v : Value)
    (hp : a.tmps.getD p undef = .pointer (some ⟨g, 0, none⟩)) (hv : a.tmps.getD q undef = v) (hg : w.heap[g]? = some (.cells (irow n S) t (0, 0))) (hd : a.defers = []) (hR : R (.returned (.tuple #[v, .agg (irow n S)])) w) : bodyPost P fn R .ret a w := by
  refine bodyPost_ret (v := .tuple #[v, .agg (irow n S)]) ?_ hd hR
  have hl := run_loadVar_irow hT hg
  have hp' : a.tmps[p]?.getD undef = .pointer (some ⟨g, 0, none⟩) := by simpa using hp
  have hv' : a.tmps[q]?.getD undef = v := by simpa using hv
  simp [results, h, hp', hv', asAddr, hl]
/-- What holds while the reference's Count goes over the charts. -/
structure RC (S : Nat → Nat) (B : Nat) (w : World) (F : Nat → Int) (W : World) : Prop where
  sets : W.heap[B]? = some (.cells (irow 16 (cst S)) 78 (0, 0))
  zero : W.heap[B + 1]? = some (.cells (irow 4 (fun _ => 0)) 37 (0, 0))
  fst : W.heap[B + 1 + 1]? = some (.cells (irow 4 F) 37 (0, 0))
  below : Below B w W
  size : B + 1 + 1 < W.heap.size
theorem RC.next {S : Nat → Nat} {B : Nat} {w : World} {F : Nat → Int} {W W' : World} (h : RC S B w F W) (hc : Below W.heap.size W W') : RC S B w F W' :=
  ⟨heap_below hc h.sets (heap_lt h.sets), heap_below hc h.zero (heap_lt h.zero), heap_below hc h.fst (heap_lt h.fst), h.below.trans (hc.mono (by have := h.size; omega)), Nat.lt_of_lt_of_le h.size hc.size⟩
theorem RC.set {S : Nat → Nat} {B : Nat} {w : World} {F : Nat → Int} {W : World} (h : RC S B w F W) (g : Nat) (hg : B + 1 + 1 < g) (cs : Array Value) : RC S B w F (W.setRow g cs) :=
  ⟨(setRow_other W g B cs (by omega)).trans h.sets, (setRow_other W g (B + 1) cs (by omega)).trans h.zero, (setRow_other W g (B + 1 + 1) cs (by omega)).trans h.fst, below_setRow h.below (by omega) cs, by rw [setRow_size]; exact h.size⟩
theorem RC.put {S : Nat → Nat} {B : Nat} {w : World} {F G : Nat → Int} {W : World} (h : RC S B w F W) : RC S B w G (W.setRow (B + 1 + 1) (irow 4 G)) :=
  ⟨(setRow_other W (B + 1 + 1) B _ (by omega)).trans h.sets, (setRow_other W (B + 1 + 1) (B + 1) _ (by omega)).trans h.zero, setRow_heap _ _ _ _ _ _ h.fst, below_setRow h.below (by omega) _, by rw [setRow_size]; exact h.size⟩
theorem RC.drewN {S : Nat → Nat} {B : Nat} {w : World} {F : Nat → Int} {W : World} (h : RC S B w F W) (m : Nat) : RC S B w F (W.drewN m) := ⟨h.sets, h.zero, h.fst, below_drewN h.below m, h.size⟩

set_option maxHeartbeats 4000000 in
theorem rCount (S : Nat → Nat) (hS : ∀ i, i < 16 → S i < 65536) (cc : Nat) (Fm : Nat → Int) (hcc : cntN S 65536 = cc) (hFm : fstN S 65536 = Fm) (w : World) :
    Calls Tryd.prog 46 #[.agg (irow 16 (cst S))] w fun e w' => e = .returned (.tuple #[.int .i64 ((cc : Nat) : Int), .agg (irow 4 Fm)]) ∧ Below w.heap.size w w' := by
  obtain ⟨N, hN⟩ : ∃ N : Nat, 65536 = N := ⟨_, rfl⟩
  rw [hN] at hcc hFm
  have HCC := hid hcc
  have HFm := hid hFm
  have HN := hid hN
  have HS := hid hS
  have hNi : (65536 : Int) = ((N : Nat) : Int) := by omega
  have hs0 : (((w.alloc (.cells (irow 16 (cst S)) 78)).alloc (.cells (irow 4 (fun _ => 0)) 37)).alloc (.cells (irow 4 (fun _ => 0)) 37)).heap[w.heap.size]? = some (.cells (irow 16 (cst S)) 78 (0, 0)) := by
    rw [heap_alloc_old _ _ (by simp; omega)]; exact heap_alloc2_old w _ _
  have hz0 : (((w.alloc (.cells (irow 16 (cst S)) 78)).alloc (.cells (irow 4 (fun _ => 0)) 37)).alloc (.cells (irow 4 (fun _ => 0)) 37)).heap[w.heap.size + 1]? = some (.cells (irow 4 (fun _ => 0)) 37 (0, 0)) := by
    rw [heap_alloc_old _ _ (by simp)]; exact heap_alloc2_new w _ _
  have hf0 : (((w.alloc (.cells (irow 16 (cst S)) 78)).alloc (.cells (irow 4 (fun _ => 0)) 37)).alloc (.cells (irow 4 (fun _ => 0)) 37)).heap[w.heap.size + 1 + 1]? = some (.cells (irow 4 (fun _ => 0)) 37 (0, 0)) := by
    have := heap_alloc_new ((w.alloc (.cells (irow 16 (cst S)) 78)).alloc (.cells (irow 4 (fun _ => 0)) 37)) (.cells (irow 4 (fun _ => 0)) 37)
    simpa using this
  have hb0 : Below w.heap.size w (((w.alloc (.cells (irow 16 (cst S)) 78)).alloc (.cells (irow 4 (fun _ => 0)) 37)).alloc (.cells (irow 4 (fun _ => 0)) 37)) := (((Below.refl _ _).alloc (Nat.le_refl _) _).alloc (by simp) _).alloc (by simp; omega) _
  clear hcc hFm hN hS
  go_enter Tryd.func46, Tryd.ntmps46
  go_wp2_with fail
  rw [zeros4]
  generalize ((w.alloc (.cells (irow 16 (cst S)) 78)).alloc (.cells (irow 4 (fun _ => 0)) 37)).alloc (.cells (irow 4 (fun _ => 0)) 37) = w1 at hs0 hz0 hf0 hb0 ⊢
  generalize hB : w.heap.size = B at *
  have hn0 : cntN S 0 = 0 := rfl
  have hRC : RC S B w (fstN S 0) w1 := ⟨hs0, hz0, hf0, hb0, heap_lt hf0⟩
  clear hs0 hz0 hf0 hb0
  go_loopw [4, 6] (fun c i wr => ∃ n : Nat, n ≤ N ∧ i = .int .i64 n ∧ c = .int .i64 ((cntN S n : Nat) : Int) ∧ RC S B w (fstN S n) wr) (fun _ i _ => N - (intOf i).toNat)
  case atStart => exact ⟨0, by omega, rfl, rfl, hRC⟩
  case round =>
    clear hRC hn0
    obtain ⟨n, hn, rfl, rfl, hR⟩ := hrel
    by_cases hlt : n < N
    · have hltN : ((n : Nat) : Int) < (N : Nat) := by omega
      have hn6 : n < 65536 := by have := HN.out; omega
      have HM := hid (fun W => rMothers n hn6 W)
      have HD := hid (fun W => rDerive2 (mths n) (fun i _ => mths_lt n i) W)
      have hdl := hid (fun i hi => der_lt (mths n) (fun i _ => mths_lt n i) i hi)
      go_wp2_with (first
        | (go_at_call 25; go_must (refine (HM.out _).mono ?_); rintro e w2 ⟨rfl, hc2⟩; have hR2 := (hR.next hc2).next ((Below.refl _ _).alloc (Nat.le_refl _) (.cells (irow 4 (fun _ => 0)) 37)); have hl2 := (hR.next hc2).size; have hm := heap_alloc_new w2 (.cells (irow 4 (fun _ => 0)) 37); clear hR hc2)
        | (rw [zeros4]; refine strow arrMothers _ _ rfl rfl _ _ rfl rfl _ _ hm ?_; have hRb := hR2.set w2.heap.size hl2 (irow 4 (cst (mths n))); have hmb := setRow_heap _ _ _ (irow 4 (cst (mths n))) _ _ hm; clear hm hR2; generalize World.setRow _ _ _ = wb at hRb hmb ⊢)
        | (refine ldrow arrMothers _ rfl rfl _ rfl _ _ hmb ?_)
        | (go_at_call 71; go_must (refine (HD.out _).mono ?_); rintro e w3 ⟨rfl, hc3⟩; have hm3 := heap_below hc3 hmb (heap_lt hmb); have hR3 := (hRb.next hc3).next ((Below.refl _ _).alloc (Nat.le_refl _) (.cells (irow 16 (fun _ => 0)) 24)); have hl3 := (hRb.next hc3).size; have hz := heap_alloc_new w3 (.cells (irow 16 (fun _ => 0)) 24); have hlm := heap_lt hm3; have hm4 := (heap_alloc_old w3 (.cells (irow 16 (fun _ => 0)) 24) hlm).trans hm3; clear hc3 hRb hmb hm3)
        | (rw [zeros16]; refine strow arrShield _ _ rfl rfl _ _ rfl rfl _ _ hz ?_; have hRc := hR3.set w3.heap.size hl3 (irow 16 (cst (der (mths n)))); have hgc := setRow_heap _ _ _ (irow 16 (cst (der (mths n)))) _ _ hz; have hmc := (setRow_other _ w3.heap.size w2.heap.size (irow 16 (cst (der (mths n)))) (by omega)).trans hm4; clear hz hR3 hm4; generalize World.setRow _ _ _ = wc at hRc hgc hmc ⊢))
      have hlm3 : w2.heap.size ≠ B + 1 + 1 := by omega
      clear hl2 hl3 hlm HM HD
      generalize w2.heap.size = Bm at *
      generalize w3.heap.size = Bg at *
      have ht0 : okTo S n 0 = true := rfl
      go_loopw [8, 10] (fun a i wi => ∃ k : Nat, k ≤ 16 ∧ i = .int .i64 k ∧ a = .bool (okTo S n k) ∧ RC S B w (fstN S n) wi ∧ wi.heap[Bg]? = some (.cells (irow 16 (cst (der (mths n)))) 24 (0, 0)) ∧ wi.heap[Bm]? = some (.cells (irow 4 (cst (mths n))) 37 (0, 0))) (fun _ i _ => 16 - (intOf i).toNat)
      case atStart => exact ⟨0, by omega, rfl, rfl, hRc, hgc, hmc⟩
      case round =>
        clear hRc hgc hmc ht0
        obtain ⟨k, hk, rfl, rfl, hR, hg, hm⟩ := hrel
        by_cases hltk : k < 16
        · have hltk' : (k : Int) < 16 := by omega
          have hst := hid (show okTo S n (k + 1) = (okTo S n k && bitB (S k) (der (mths n) k)) from rfl)
          have hcs := cell_irow hR.sets k hltk
          have hcg := cell_irow hg k hltk
          have hfl := hdl.out k hltk
          have hbit := hid (bit_is (S k) (der (mths n) k) (HS.out k hltk))
          have huk := wrap_natU (der (mths n) k) (by omega)
          have HR := hid hR
          have Hg := hid hg
          have Hm := hid hm
          have hcs : wr.cell? ⟨B, k, none⟩ = some (.int .i64 ((S k : Nat) : Int)) := hcs
          have hcg : wr.cell? ⟨Bg, k, none⟩ = some (.int .i64 ((der (mths n) k : Nat) : Int)) := hcg
          clear hR hg hm
          cases hok : okTo S n k with
          | false =>
            rw [hok] at hst
            clear hok
            go_wp2_with fail
            go_quiet (fail)
            go_wp2_with fail
            go_roundw
            case rel => exact ⟨k + 1, by omega, by go_num, by rw [hst.out]; rfl, HR.out.drewN _, Hg.out, Hm.out⟩
            case measure => simp [intOf]; omega
          | true =>
            rw [hok] at hst
            clear hok
            go_wp2_with fail
            go_quiet (fail)
            go_wp2_with fail
            go_roundw
            case rel => exact ⟨k + 1, by omega, by go_num, by rw [hst.out, ← hbit.out]; rfl, HR.out.drewN _, Hg.out, Hm.out⟩
            case measure => simp [intOf]; omega
        · have hge : ¬ (k : Int) < 16 := by omega
          obtain rfl : k = 16 := by omega
          have hok16 := okTo_ok S n
          have hcN := cntN_le S n
          have hcb : ((cntN S n : Nat) : Int) < 9223372036854775807 := by omega
          have hc1 : cntN S (n + 1) = cntN S n + if okB S n then 1 else 0 := rfl
          have hf1 : fstN S (n + 1) = if okB S n = true ∧ cntN S n = 0 then cst (mths n) else fstN S n := rfl
          cases hok : okTo S n 16 with
          | false =>
            have hb : okB S n = false := by rw [← hok16, hok]
            rw [hb] at hc1 hf1
            have Hc1 := hid (show cntN S (n + 1) = cntN S n from hc1)
            have Hf1 := hid (show fstN S (n + 1) = fstN S n by rw [hf1, if_neg (by simp)])
            clear hc1 hf1 hok hok16 hb
            go_wp2_with fail
            go_roundw
            case rel => exact ⟨n + 1, by omega, by go_num, by rw [Hc1.out], by rw [Hf1.out]; exact hR⟩
            case measure => simp [intOf]; omega
          | true =>
            have hb : okB S n = true := by rw [← hok16, hok]
            rw [hb] at hc1 hf1
            have Hc1 := hid (show cntN S (n + 1) = cntN S n + 1 from hc1)
            by_cases h0 : cntN S n = 0
            · have Hf1 := hid (show fstN S (n + 1) = cst (mths n) by rw [hf1, if_pos ⟨rfl, h0⟩])
              have ht : (((cntN S n : Nat) : Int) == 0) = true := by simp [h0]
              have hfs := hR.fst
              have HR := hid hR
              generalize cntN S n = c at *
              clear hc1 hf1 hok hok16 hb h0 hR
              go_wp2_with (first
                | (refine ldrow arrMothers _ rfl rfl _ rfl _ _ hm ?_)
                | (refine strow arrMothers _ _ rfl rfl _ _ rfl rfl _ _ hfs ?_))
              go_roundw
              case rel => exact ⟨n + 1, by omega, by go_num, by rw [Hc1.out]; go_num, by rw [Hf1.out]; exact HR.out.put⟩
              case measure => simp [intOf]; omega
            · have Hf1 := hid (show fstN S (n + 1) = fstN S n by rw [hf1, if_neg (fun h => h0 h.2)])
              have ht : (((cntN S n : Nat) : Int) == 0) = false := by simp; omega
              generalize cntN S n = c at *
              clear hc1 hf1 hok hok16 hb h0
              go_wp2_with fail
              go_roundw
              case rel => exact ⟨n + 1, by omega, by go_num, by rw [Hc1.out]; go_num, by rw [Hf1.out]; exact hR⟩
              case measure => simp [intOf]; omega
    · have hge : ¬ ((n : Nat) : Int) < (N : Nat) := by omega
      obtain rfl : n = N := by omega
      rw [HFm.out] at hR
      have Hcc := hid HCC.out
      have m0 := cell_irow hR.fst 0 (by omega)
      have m1 := cell_irow hR.fst 1 (by omega)
      have m2 := cell_irow hR.fst 2 (by omega)
      have m3 := cell_irow hR.fst 3 (by omega)
      have e0 := cell_irow hR.zero 0 (by omega)
      have e1 := cell_irow hR.zero 1 (by omega)
      have e2 := cell_irow hR.zero 2 (by omega)
      have e3 := cell_irow hR.zero 3 (by omega)
      have y0 := frozen_of_row _ _ 0 _ _ hR.zero
      have y1 := frozen_of_row _ _ 1 _ _ hR.zero
      have y2 := frozen_of_row _ _ 2 _ _ hR.zero
      have y3 := frozen_of_row _ _ 3 _ _ hR.zero
      have n12 : B + 1 ≠ B + 1 + 1 := by omega
      have n21 : B + 1 + 1 ≠ B + 1 := by omega
      have HR := hid hR
      clear hR
      rw [HCC.out]
      go_wp2_with fail
      go_region
      go_wp2_with fail
      have P1 := row4_set (F := Fm) HR.out.zero
      have P2 := ((((HR.out.below.setCell (show B ≤ B + 1 by omega) (p := ⟨B + 1, 0, none⟩) (.int .i64 (Fm 0))).setCell (show B ≤ B + 1 by omega) (p := ⟨B + 1, 1, none⟩) (.int .i64 (Fm 1))).setCell (show B ≤ B + 1 by omega) (p := ⟨B + 1, 2, none⟩) (.int .i64 (Fm 2))).setCell (show B ≤ B + 1 by omega) (p := ⟨B + 1, 3, none⟩) (.int .i64 (Fm 3)))
      refine rettr arrMothers Tryd.results46 (B + 1) Fm _ _ rfl rfl (show (World.drew _).heap[B + 1]? = _ from P1) rfl ⟨rfl, ?_⟩
      rw [hB]
      exact P2.drew
end Go.Proofs.YtphnibllfpkkkaaDoor
