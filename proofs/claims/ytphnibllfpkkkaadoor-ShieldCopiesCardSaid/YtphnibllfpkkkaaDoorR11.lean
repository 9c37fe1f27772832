/- Walks of the reference: ones, Differs, Mend. -/
import Derived.Test.YtphnibllfpkkkaaDoorR10
import Derived.Test.YtphnibllfpkkkaaDoorW18
import Derived.Test.YtphnibllfpkkkaaDoorV6
import Derived.Great.BuildSlice
namespace Go.Proofs.YtphnibllfpkkkaaDoor
open Go Go.RowKit
set_option maxRecDepth 100000

theorem rOnes_lit : ∀ (w : World), (Calls Tryd.prog 84 #[.int .i64 0] w fun e w' => e = .returned (.int .i64 0) ∧ w = w') := fun w => by
  go_enter Tryd.func84, Tryd.ntmps84
  go_wp2
  go_ret
  exact ⟨rfl, rfl⟩
set_option maxHeartbeats 2000000 in
theorem rOnes (f : Nat) (hf : f < 16) (w : World) : Calls Tryd.prog 84 #[.int .i64 ((f : Nat) : Int)] w fun e w' => e = .returned (.int .i64 ((onT f 4 : Nat) : Int)) ∧ w = w' := by
  have h : f = 0 ∨ f = 1 ∨ f = 2 ∨ f = 3 ∨ f = 4 ∨ f = 5 ∨ f = 6 ∨ f = 7 ∨ f = 8 ∨ f = 9 ∨ f = 10 ∨ f = 11 ∨ f = 12 ∨ f = 13 ∨ f = 14 ∨ f = 15 := by omega
  rcases h with rfl | rfl | rfl | rfl | rfl | rfl | rfl | rfl | rfl | rfl | rfl | rfl | rfl | rfl | rfl | rfl
  all_goals
    go_enter Tryd.func84, Tryd.ntmps84
    go_wp2
    go_ret
    exact ⟨rfl, rfl⟩

theorem distT_le (F G : Nat → Nat) (hF : ∀ i, i < 16 → F i < 16) (hG : ∀ i, i < 16 → G i < 16) : ∀ k, k ≤ 16 → sumN (fun i => onT (F i ^^^ G i) 4) k ≤ 4 * k
  | 0, _ => Nat.le_refl _
  | k + 1, h => by
    have h1 := distT_le F G hF hG k (by omega)
    have h2 := onT_le4 _ (x4 _ _ (hF k (by omega)) (hG k (by omega)))
    rw [sumN]; omega
set_option maxHeartbeats 1000000 in
theorem rDiffers (F G : Nat → Nat) (hF : ∀ i, i < 16 → F i < 16) (hG : ∀ i, i < 16 → G i < 16) (d : Nat) (hd : dist F G = d) (w : World) :
    Calls Tryd.prog 74 #[.agg (irow 16 (cst F)), .agg (irow 16 (cst G))] w fun e w' => e = .returned (.int .i64 ((d : Nat) : Int)) ∧ Below w.heap.size w w' := by
  have h0 := heap_alloc2_old w (.cells (irow 16 (cst F)) 24) (.cells (irow 16 (cst G)) 24)
  have h1 := heap_alloc2_new w (.cells (irow 16 (cst F)) 24) (.cells (irow 16 (cst G)) 24)
  have hb : Below w.heap.size w ((w.alloc (.cells (irow 16 (cst F)) 24)).alloc (.cells (irow 16 (cst G)) 24)) := ((Below.refl _ _).alloc (Nat.le_refl _) _).alloc (by simp) _
  have HF := hid hF
  have HG := hid hG
  have HT := hid (distT_le F G hF hG)
  have Hd := hid hd
  clear hF hG hd
  go_enter Tryd.func74, Tryd.ntmps74
  go_wp2_with fail
  generalize (w.alloc (.cells (irow 16 (cst F)) 24)).alloc (.cells (irow 16 (cst G)) 24) = w1 at *
  generalize hB : w.heap.size = B at *
  have hz : sumN (fun i => onT (F i ^^^ G i) 4) 0 = 0 := rfl
  go_loopw [5, 6] (fun x i wr => ∃ k : Nat, k ≤ 16 ∧ i = .int .i64 k ∧ x = .int .i64 ((sumN (fun i => onT (F i ^^^ G i) 4) k : Nat) : Int) ∧ wr.heap[B]? = some (.cells (irow 16 (cst F)) 24 (0, 0)) ∧ wr.heap[B + 1]? = some (.cells (irow 16 (cst G)) 24 (0, 0)) ∧ Below B w wr) (fun _ i _ => 16 - (intOf i).toNat)
  case atStart => exact ⟨0, by omega, rfl, rfl, h0, h1, hb⟩
  case round =>
    clear h0 h1 hb
    obtain ⟨k, hk, rfl, rfl, h0, h1, hb⟩ := hrel
    by_cases hlt : k < 16
    · have hlt' : ((k : Nat) : Int) < 16 := by omega
      have hcf : wr.cell? ⟨B, k, none⟩ = some (.int .i64 ((F k : Nat) : Int)) := cell_irow h0 k hlt
      have hcg : wr.cell? ⟨B + 1, k, none⟩ = some (.int .i64 ((G k : Nat) : Int)) := cell_irow h1 k hlt
      have hx := i64_xor (F k) (G k) (by have := HF.out k hlt; omega) (by have := HG.out k hlt; omega)
      have hO := hid (fun W => rOnes (F k ^^^ G k) (x4 _ _ (HF.out k hlt) (HG.out k hlt)) W)
      have hle := HT.out (k + 1) (by omega)
      have hst : sumN (fun i => onT (F i ^^^ G i) 4) (k + 1) = sumN (fun i => onT (F i ^^^ G i) 4) k + onT (F k ^^^ G k) 4 := rfl
      have hadd : IntKind.i64.wrap (((sumN (fun i => onT (F i ^^^ G i) 4) k : Nat) : Int) + ((onT (F k ^^^ G k) 4 : Nat) : Int)) = ((sumN (fun i => onT (F i ^^^ G i) 4) (k + 1) : Nat) : Int) := by
        rw [IntWalk.i64_in _ (by omega)]; omega
      generalize onT (F k ^^^ G k) 4 = o at *
      generalize F k ^^^ G k = x at *
      generalize hy : sumN (fun i => onT (F i ^^^ G i) 4) (k + 1) = y at *
      have Hy := hid hy
      generalize sumN (fun i => onT (F i ^^^ G i) 4) k = z at *
      have H0 := hid h0
      have H1 := hid h1
      clear hst hle hy h0 h1
      go_wp2_with fail
      go_quiet ((go_at_call 84; exact quiet_same (hO.out _)))
      go_wp2_with fail
      go_roundw
      case rel => exact ⟨k + 1, by omega, by go_num, by rw [Hy.out], H0.out, H1.out, below_drewN hb _⟩
      case measure => simp [intOf]; omega
    · have hge : ¬ ((k : Nat) : Int) < 16 := by omega
      obtain rfl : k = 16 := by omega
      rw [show sumN (fun i => onT (F i ^^^ G i) 4) 16 = d from Hd.out]
      go_wp2_with fail
      go_ret
      exact ⟨rfl, hb⟩

/-- The record after n charts. -/
def grow (D : Nat → Nat) (n : Nat) : Nat → Nat := if n = 0 then fun _ => 0 else der (mths (rst D n).2.2)
def rowR (D : Nat → Nat) (n : Nat) : Nat → Int := cst (rep (rst D n).1 (rst D n).2.1 (grow D n))
theorem rowR_zero (D : Nat → Nat) : rowR D 0 = cst (rep 65 0 (fun _ => 0)) := rfl
theorem rowR_lt (D : Nat → Nat) (n : Nat) (h : D n < (rst D n).1) : rowR D (n + 1) = cst (rep (D n) 1 (der (mths n))) ∧ (rst D (n + 1)).1 = D n := by
  have e : rst D (n + 1) = (D n, 1, n) := by show rstep (D n) n (rst D n) = _; unfold rstep; rw [if_pos h]
  unfold rowR grow
  rw [e, if_neg (by omega)]
  exact ⟨rfl, rfl⟩
theorem rowR_eq (D : Nat → Nat) (hD : ∀ k, D k ≤ 64) (n : Nat) (h : D n = (rst D n).1) : rowR D (n + 1) = cst (rep (rst D n).1 ((rst D n).2.1 + 1) (grow D n)) ∧ (rst D (n + 1)).1 = (rst D n).1 := by
  have e : rst D (n + 1) = ((rst D n).1, (rst D n).2.1 + 1, (rst D n).2.2) := by show rstep (D n) n (rst D n) = _; unfold rstep; rw [if_neg (by omega), if_pos h]
  have hn : n ≠ 0 := by
    rintro rfl
    have := hD 0
    have e0 : (rst D 0).1 = 65 := rfl
    omega
  unfold rowR grow
  rw [e, if_neg (by omega), if_neg hn]
  exact ⟨rfl, rfl⟩
theorem rowR_gt (D : Nat → Nat) (hD : ∀ k, D k ≤ 64) (n : Nat) (h1 : ¬ D n < (rst D n).1) (h2 : ¬ D n = (rst D n).1) : rowR D (n + 1) = rowR D n ∧ (rst D (n + 1)).1 = (rst D n).1 := by
  have e : rst D (n + 1) = rst D n := by show rstep (D n) n (rst D n) = _; unfold rstep; rw [if_neg h1, if_neg h2]
  have hn : n ≠ 0 := by
    rintro rfl
    have := hD 0
    have e0 : (rst D 0).1 = 65 := rfl
    omega
  unfold rowR grow
  rw [e, if_neg (by omega), if_neg hn]
  exact ⟨rfl, rfl⟩
theorem rst_cle (D : Nat → Nat) : ∀ n, (rst D n).2.1 ≤ n
  | 0 => Nat.le_refl _
  | n + 1 => by
    have ih := rst_cle D n
    show (rstep (D n) n (rst D n)).2.1 ≤ n + 1
    unfold rstep
    split
    · show 1 ≤ n + 1; omega
    · split
      · show (rst D n).2.1 + 1 ≤ n + 1; omega
      · omega
/-- A record said as a literal is stored. -/
theorem strecL {P : Program} {T n : Nat} (hT : RecT P T n) {ops : Array Oper} {rest : List Oper} {o : Oper} {a : Act} {w : World} {Q : Exit → Act → World → Prop} (x y : Operand) (hgd : o.guard = none) (ho : o.op = .store T x y)
    (g : Nat) (hx : a.eval x = .pointer (some ⟨g, 0, none⟩)) (cells : Array Value) (hy : a.eval y = .agg cells) (V : Nat → Int) (hc : cells = irow n V) (S : Nat → Int) (t : TypeId) (hg : w.heap[g]? = some (.cells (irow n S) t (0, 0)))
    (h : wpList P ops Q rest (a.put o.dst undef) (w.setRow g (irow n V))) : wpList P ops Q (o :: rest) a w := by
  subst hc
  exact strec hT x y hgd ho g V hx hy S t hg h
theorem built_rep (d : Nat) (G : Nat → Nat) : Tryd.prog.built 87 [(0, .int .i64 ((d : Nat) : Int)), (2, .agg (irow 16 (cst G)))] = some (irow 18 (cst (rep d 0 G))) := by kernel_rfl
theorem built_repL (d : Nat) (G : Nat → Nat) (l : List (Nat × Value)) (hl : l = [(0, .int .i64 ((d : Nat) : Int)), (2, .agg (irow 16 (cst G)))]) : Tryd.prog.built 87 l = some (irow 18 (cst (rep d 0 G))) := by subst hl; exact built_rep d G
/-- What holds while the reference goes over the charts. -/
structure RM (F : Nat → Nat) (B : Nat) (w : World) (R : Nat → Int) (W : World) : Prop where
  src : W.heap[B]? = some (.cells (irow 16 (cst F)) 24 (0, 0))
  res : W.heap[B + 1]? = some (.cells (irow 18 (cst (rep 0 0 (fun _ => 0)))) 87 (0, 0))
  out : W.heap[B + 1 + 1]? = some (.cells (irow 18 R) 87 (0, 0))
  below : Below B w W
theorem RM.size {F : Nat → Nat} {B : Nat} {w : World} {R : Nat → Int} {W : World} (h : RM F B w R W) : B + 1 + 1 < W.heap.size := heap_lt h.out
theorem RM.next {F : Nat → Nat} {B : Nat} {w : World} {R : Nat → Int} {W W' : World} (h : RM F B w R W) (hb : Below W.heap.size W W') : RM F B w R W' :=
  ⟨heap_below hb h.src (heap_lt h.src), heap_below hb h.res (heap_lt h.res), heap_below hb h.out (heap_lt h.out), h.below.trans (hb.mono (by have := h.size; omega))⟩
theorem RM.set {F : Nat → Nat} {B : Nat} {w : World} {R : Nat → Int} {W : World} (h : RM F B w R W) (g : Nat) (hg : B + 1 + 1 < g) (r : Array Value) : RM F B w R (W.setRow g r) :=
  ⟨(setRow_other _ _ _ _ (by omega)).trans h.src, (setRow_other _ _ _ _ (by omega)).trans h.res, (setRow_other _ _ _ _ (by omega)).trans h.out, below_setRow h.below (by omega) _⟩
theorem RM.put {F : Nat → Nat} {B : Nat} {w : World} {R : Nat → Int} {W : World} (h : RM F B w R W) (T : Nat → Int) : RM F B w T (W.setRow (B + 1 + 1) (irow 18 T)) :=
  ⟨(setRow_other _ _ _ _ (by omega)).trans h.src, (setRow_other _ _ _ _ (by omega)).trans h.res, setRow_heap _ _ _ _ _ _ h.out, below_setRow h.below (by omega) _⟩
theorem RM.one {F : Nat → Nat} {B : Nat} {w : World} {m c : Nat} {G : Nat → Nat} {W : World} (h : RM F B w (cst (rep m c G)) W) (d : Nat) : RM F B w (cst (rep m d G)) (W.setCell ⟨B + 1 + 1, 1, none⟩ (.int .i64 ((d : Nat) : Int))) :=
  ⟨(heap_setCell_other _ ⟨B + 1 + 1, 1, none⟩ B _ (by show B ≠ B + 1 + 1; omega)).trans h.src, (heap_setCell_other _ ⟨B + 1 + 1, 1, none⟩ (B + 1) _ (by show B + 1 ≠ B + 1 + 1; omega)).trans h.res,
    by rw [← rep_set0 m c]; exact set_irow h.out 1 _, h.below.setCell (show B ≤ B + 1 + 1 by omega) _⟩

set_option maxHeartbeats 4000000 in
theorem rMend (F : Nat → Nat) (hF : ∀ i, i < 16 → F i < 16) (mm cc ll : Nat) (hst : rst (DF F) 65536 = (mm, cc, ll)) (w : World) :
    Calls Tryd.prog 48 #[.agg (irow 16 (cst F))] w fun e w' => e = .returned (.agg (irow 18 (cst (rep mm cc (der (mths ll)))))) ∧ Below w.heap.size w w' := by
  obtain ⟨N, hN⟩ : ∃ N : Nat, 65536 = N := ⟨_, rfl⟩
  have hlast : rowR (DF F) 65536 = cst (rep mm cc (der (mths ll))) := by
    unfold rowR grow
    rw [hst, if_neg (by omega)]
  rw [hN] at hlast
  have HLast := hid hlast
  have HN := hid hN
  have HD := hid (DF_le F hF)
  have hNi : (65536 : Int) = ((N : Nat) : Int) := by omega
  obtain ⟨D, hDD⟩ : ∃ D : Nat → Nat, DF F = D := ⟨_, rfl⟩
  have HDf := hid (fun n W => rDiffers F (der (mths n)) hF (der_lt (mths n) (fun i _ => mths_lt n i)) (DF F n) (dist_comm _ _) W)
  rw [hDD] at HLast HD HDf
  have h0 := heap_alloc_old ((w.alloc (.cells (irow 16 (cst F)) 24)).alloc (.cells (irow 18 (cst (rep 0 0 (fun _ => 0)))) 87)) (.cells (irow 18 (cst (rep 0 0 (fun _ => 0)))) 87) (r := w.heap.size) (by simp; omega)
  rw [heap_alloc2_old] at h0
  have h1 := heap_alloc_old ((w.alloc (.cells (irow 16 (cst F)) 24)).alloc (.cells (irow 18 (cst (rep 0 0 (fun _ => 0)))) 87)) (.cells (irow 18 (cst (rep 0 0 (fun _ => 0)))) 87) (r := w.heap.size + 1) (by simp)
  rw [heap_alloc2_new] at h1
  have h2 := heap_alloc_new ((w.alloc (.cells (irow 16 (cst F)) 24)).alloc (.cells (irow 18 (cst (rep 0 0 (fun _ => 0)))) 87)) (.cells (irow 18 (cst (rep 0 0 (fun _ => 0)))) 87)
  have hs : ((w.alloc (.cells (irow 16 (cst F)) 24)).alloc (.cells (irow 18 (cst (rep 0 0 (fun _ => 0)))) 87)).heap.size = w.heap.size + 1 + 1 := by simp
  rw [hs] at h2
  have hb0 : Below w.heap.size w (((w.alloc (.cells (irow 16 (cst F)) 24)).alloc (.cells (irow 18 (cst (rep 0 0 (fun _ => 0)))) 87)).alloc (.cells (irow 18 (cst (rep 0 0 (fun _ => 0)))) 87)) := (((Below.refl _ _).alloc (Nat.le_refl _) _).alloc (by simp) _).alloc (by simp; omega) _
  clear hs hst hlast hN hF hDD
  have hR0 : RM F w.heap.size w (rowR D 0) ((((w.alloc (.cells (irow 16 (cst F)) 24)).alloc (.cells (irow 18 (cst (rep 0 0 (fun _ => 0)))) 87)).alloc (.cells (irow 18 (cst (rep 0 0 (fun _ => 0)))) 87)).setRow (w.heap.size + 1 + 1) (irow 18 (cst (rep 65 0 (fun _ => 0))))) :=
    ⟨(setRow_other _ _ _ _ (by omega)).trans h0, (setRow_other _ _ _ _ (by omega)).trans h1, setRow_heap _ _ _ _ _ _ h2, below_setRow hb0 (by omega) _⟩
  clear h0 h1 hb0
  go_enter Tryd.func48, Tryd.ntmps48
  go_wp2_with (refine strecL recRepair _ _ rfl rfl _ rfl _ rfl _ rep_65 _ _ (by rw [rep_zero]; exact h2) ?_; rw [rep_zero, rep_65]; clear h2; generalize World.setRow _ _ _ = w3 at hR0 ⊢)
  generalize hB : w.heap.size = B at *
  go_loopw [4] (fun i wr => ∃ n : Nat, n ≤ N ∧ i = .int .i64 n ∧ RM F B w (rowR D n) wr) (fun i _ => N - (intOf i).toNat)
  case atStart => exact ⟨0, by omega, rfl, hR0⟩
  case round =>
    clear hR0
    obtain ⟨n, hn, rfl, hR⟩ := hrel
    by_cases hlt : n < N
    · have hltN : ((n : Nat) : Int) < (N : Nat) := by omega
      have hn6 : n < 65536 := by have := HN.out; omega
      have HM := hid (fun W => rMothers n hn6 W)
      have HD2 := hid (fun W => rDerive2 (mths n) (fun i _ => mths_lt n i) W)
      have HDn := hid (fun W => HDf.out n W)
      have hdn := HD.out n
      obtain ⟨G, hG⟩ : ∃ G, der (mths n) = G := ⟨_, rfl⟩
      have HG := hid hG
      rw [hG] at HD2 HDn
      clear hG
      obtain ⟨hl, he, hg⟩ := And.intro (rowR_lt D n) (And.intro (rowR_eq D HD.out n) (rowR_gt D HD.out n))
      rw [HG.out] at hl
      have Hl := hid hl
      have He := hid he
      have Hg := hid hg
      have hcl := rst_cle D n
      clear hl he hg
      have hrow : rowR D n = cst (rep (rst D n).1 (rst D n).2.1 (grow D n)) := rfl
      rw [hrow] at hR Hg
      generalize hRR : rowR D (n + 1) = R' at *
      have HRR := hid hRR
      generalize grow D n = G0 at *
      generalize (rst D n).1 = m at *
      generalize (rst D n).2.1 = c at *
      generalize D n = d at *
      clear hrow hRR
      by_cases hA : d < m
      · have hA' : ((d : Nat) : Int) < ((m : Nat) : Int) := by omega
        have HR2 := hid (Hl.out hA).1
        go_wp2_with (first
          | (go_at_call 25; go_must (refine (HM.out _).mono ?_); rintro e w4 ⟨rfl, hc4⟩; have hR4 := hR.next hc4; clear hR hc4)
          | (go_at_call 71; go_must (refine (HD2.out _).mono ?_); rintro e w5 ⟨rfl, hc5⟩; have hR5 := (hR4.next hc5).next ((Below.refl _ _).alloc (Nat.le_refl _) (.cells (irow 16 (fun _ => 0)) 24)); have hl5 := (hR4.next hc5).size; have hz := heap_alloc_new w5 (.cells (irow 16 (fun _ => 0)) 24); clear hc5 hR4)
          | (rw [zeros16]; refine strow arrShield _ _ rfl rfl _ _ rfl rfl _ _ hz ?_; have hR6 := hR5.set w5.heap.size hl5 (irow 16 (cst G)); have hg6 := setRow_heap _ _ _ (irow 16 (cst G)) _ _ hz; have hs6 := hR6.src; clear hz hR5; generalize World.setRow _ _ _ = w6 at hR6 hg6 hs6 ⊢)
          | (refine ldrow arrShield _ rfl rfl _ rfl _ _ hs6 ?_)
          | (refine ldrow arrShield _ rfl rfl _ rfl _ _ hg6 ?_)
          | (go_at_call 74; go_must (refine (HDn.out _).mono ?_); rintro e w7 ⟨rfl, hc7⟩; have hR7 := hR6.next hc7; have hg7 := heap_below hc7 hg6 (heap_lt hg6); clear hc7 hR6 hg6 hs6; have hm0 : w7.cell? ⟨B + 1 + 1, 0, none⟩ = some (.int .i64 ((m : Nat) : Int)) := cell_irow hR7.out 0 (by omega); have hm1 : w7.cell? ⟨B + 1 + 1, 1, none⟩ = some (.int .i64 ((c : Nat) : Int)) := cell_irow hR7.out 1 (by omega); have hz1 := frozen_of_row _ _ 1 _ _ hR7.out)
          | (refine ldrow arrShield _ rfl rfl _ rfl _ _ hg7 ?_)
          | (refine wpList_buildTo rfl 87 _ rfl _ rfl (irow 18 (cst (rep d 0 G))) (by as_aux_lemma => kernel_rfl) ?_)
          | (refine strec recRepair _ _ rfl rfl _ _ rfl rfl _ _ hR7.out ?_; have hR8 := hR7.put (cst (rep d 0 G)); clear hm0 hm1 hz1 hg7 hR7; generalize World.setRow _ _ _ = w8 at hR8 ⊢; have hm0 : w8.cell? ⟨B + 1 + 1, 0, none⟩ = some (.int .i64 ((d : Nat) : Int)) := cell_irow hR8.out 0 (by omega); have hm1 : w8.cell? ⟨B + 1 + 1, 1, none⟩ = some (.int .i64 0) := cell_irow hR8.out 1 (by omega); have hz1 := frozen_of_row _ _ 1 _ _ hR8.out))
        go_roundw
        case rel => exact ⟨n + 1, by omega, by go_num, by rw [HRR.out, HR2.out]; exact hR8.one 1⟩
        case measure => simp [intOf]; omega
      · have hA' : ¬ ((d : Nat) : Int) < ((m : Nat) : Int) := by omega
        by_cases hB2 : d = m
        · subst hB2
          have HR2 := hid (He.out rfl).1
          have hadd : IntKind.i64.wrap (((c : Nat) : Int) + 1) = ((c + 1 : Nat) : Int) := by rw [IntWalk.i64_in _ (by omega)]; rfl
          obtain ⟨c1, hc1⟩ : ∃ c1, c + 1 = c1 := ⟨_, rfl⟩
          rw [hc1] at hadd HR2
          clear hc1 hcl
          go_wp2_with (first
            | (go_at_call 25; go_must (refine (HM.out _).mono ?_); rintro e w4 ⟨rfl, hc4⟩; have hR4 := hR.next hc4; clear hR hc4)
            | (go_at_call 71; go_must (refine (HD2.out _).mono ?_); rintro e w5 ⟨rfl, hc5⟩; have hR5 := (hR4.next hc5).next ((Below.refl _ _).alloc (Nat.le_refl _) (.cells (irow 16 (fun _ => 0)) 24)); have hl5 := (hR4.next hc5).size; have hz := heap_alloc_new w5 (.cells (irow 16 (fun _ => 0)) 24); clear hc5 hR4)
            | (rw [zeros16]; refine strow arrShield _ _ rfl rfl _ _ rfl rfl _ _ hz ?_; have hR6 := hR5.set w5.heap.size hl5 (irow 16 (cst G)); have hg6 := setRow_heap _ _ _ (irow 16 (cst G)) _ _ hz; have hs6 := hR6.src; clear hz hR5; generalize World.setRow _ _ _ = w6 at hR6 hg6 hs6 ⊢)
            | (refine ldrow arrShield _ rfl rfl _ rfl _ _ hs6 ?_)
            | (refine ldrow arrShield _ rfl rfl _ rfl _ _ hg6 ?_)
            | (go_at_call 74; go_must (refine (HDn.out _).mono ?_); rintro e w7 ⟨rfl, hc7⟩; have hR7 := hR6.next hc7; have hg7 := heap_below hc7 hg6 (heap_lt hg6); clear hc7 hR6 hg6 hs6; have hm0 : w7.cell? ⟨B + 1 + 1, 0, none⟩ = some (.int .i64 ((d : Nat) : Int)) := cell_irow hR7.out 0 (by omega); have hm1 : w7.cell? ⟨B + 1 + 1, 1, none⟩ = some (.int .i64 ((c : Nat) : Int)) := cell_irow hR7.out 1 (by omega); have hz1 := frozen_of_row _ _ 1 _ _ hR7.out))
          go_roundw
          case rel => exact ⟨n + 1, by omega, by go_num, by rw [HRR.out, HR2.out]; exact hR7.one c1⟩
          case measure => simp [intOf]; omega
        · have hB' : (((d : Nat) : Int) == ((m : Nat) : Int)) = false := by simp; omega
          have HR2 := hid (Hg.out hA hB2).1
          go_wp2_with (first
            | (go_at_call 25; go_must (refine (HM.out _).mono ?_); rintro e w4 ⟨rfl, hc4⟩; have hR4 := hR.next hc4; clear hR hc4)
            | (go_at_call 71; go_must (refine (HD2.out _).mono ?_); rintro e w5 ⟨rfl, hc5⟩; have hR5 := (hR4.next hc5).next ((Below.refl _ _).alloc (Nat.le_refl _) (.cells (irow 16 (fun _ => 0)) 24)); have hl5 := (hR4.next hc5).size; have hz := heap_alloc_new w5 (.cells (irow 16 (fun _ => 0)) 24); clear hc5 hR4)
            | (rw [zeros16]; refine strow arrShield _ _ rfl rfl _ _ rfl rfl _ _ hz ?_; have hR6 := hR5.set w5.heap.size hl5 (irow 16 (cst G)); have hg6 := setRow_heap _ _ _ (irow 16 (cst G)) _ _ hz; have hs6 := hR6.src; clear hz hR5; generalize World.setRow _ _ _ = w6 at hR6 hg6 hs6 ⊢)
            | (refine ldrow arrShield _ rfl rfl _ rfl _ _ hs6 ?_)
            | (refine ldrow arrShield _ rfl rfl _ rfl _ _ hg6 ?_)
            | (go_at_call 74; go_must (refine (HDn.out _).mono ?_); rintro e w7 ⟨rfl, hc7⟩; have hR7 := hR6.next hc7; have hg7 := heap_below hc7 hg6 (heap_lt hg6); clear hc7 hR6 hg6 hs6; have hm0 : w7.cell? ⟨B + 1 + 1, 0, none⟩ = some (.int .i64 ((m : Nat) : Int)) := cell_irow hR7.out 0 (by omega); have hm1 : w7.cell? ⟨B + 1 + 1, 1, none⟩ = some (.int .i64 ((c : Nat) : Int)) := cell_irow hR7.out 1 (by omega); have hz1 := frozen_of_row _ _ 1 _ _ hR7.out))
          go_roundw
          case rel => exact ⟨n + 1, by omega, by go_num, by rw [HRR.out, HR2.out]; exact hR7⟩
          case measure => simp [intOf]; omega
    · have hge : ¬ ((n : Nat) : Int) < (N : Nat) := by omega
      obtain rfl : n = N := by omega
      rw [HLast.out] at hR
      go_wp2_with (first
        | (refine ldrec recRepair _ rfl rfl _ rfl _ _ hR.out ?_)
        | (refine strec recRepair _ _ rfl rfl _ _ rfl rfl _ _ hR.res ?_))
      refine bodyPost_ret (results_cell_row rfl _ _ (B + 1) _ _ (0, 0) _ rfl (setRow_heap _ _ _ _ _ _ hR.res) recRepair.und.choose_spec rfl (by rw [irow_size]; exact recRepair.siz)) rfl ⟨rfl, ?_⟩
      exact below_setRow hR.below (by omega) _
end Go.Proofs.YtphnibllfpkkkaaDoor
