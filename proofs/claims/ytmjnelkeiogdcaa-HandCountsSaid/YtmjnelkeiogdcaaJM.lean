/- Walks of package hand: Rank. -/
import Derived.Test.YtmjnelkeiogdcaaJK
import Derived.Test.YtmjnelkeiogdcaaJD
set_option linter.unusedSimpArgs false
set_option linter.unusedVariables false
namespace Go.Proofs.Ytmjnelkeiogdcaa
open Go Go.RowKit Go.Shelf
set_option maxRecDepth 100000

set_option maxHeartbeats 2000000 in
theorem follow_rank2 (N Nc : Nat) (H : HV) (fv cv : Value) (hO : Okh H) (b1 b2 b3 : Nat) (M : Nat → Prop) (K : List (St × Int) → World → Prop) (v : Value) (Cs : List Int) (hn : Cs.length ≤ 1000000) (hi63 : ∀ c ∈ Cs, c ≤ 9223372036854775807) (w : World) (hH : HandAt w N H fv cv) (hC : CrsAt w Nc v Cs)
    (hM : ∀ b, M b → b < w.heap.size ∧ N ≤ b ∧ Nc ≤ b) (hK0 : K [] w) (hKb : ∀ tr W W', K tr W → Below W.heap.size W W' → K tr W')
    (hsee : ∀ tr s c W, (∃ rest, trN H (beginS H) Cs = tr ++ (s, c) :: rest) → K tr W → Mods M w W → Fit H s → 0 ≤ c → c < ((chN H s : Nat) : Int) → Calls Try.prog 54 #[encS s, .int .i64 c, .pointer (some ⟨b1, 0, none⟩), .pointer (some ⟨b2, 0, none⟩), .pointer (some ⟨b3, 0, none⟩)] W fun e W' => (∃ v, e = .returned v) ∧ K (tr ++ [(s, c)]) W' ∧ Mods M W W') :
    Calls Try.prog 53 #[.agg (handA H fv cv), v, .func (.func 54) #[] #[.pointer (some ⟨b1, 0, none⟩), .pointer (some ⟨b2, 0, none⟩), .pointer (some ⟨b3, 0, none⟩)]] w fun e w' => e = .returned (.tuple (folV (folN H (beginS H) Cs 0))) ∧ K (trN H (beginS H) Cs) w' ∧ Mods M w w' := by
  have hF0 := begin_fit H hO
  have hx := heap_alloc_new w (.cells (handA H fv cv) 26)
  have hb : Below w.heap.size w (w.alloc (.cells (handA H fv cv) 26)) := (Below.refl _ _).alloc (Nat.le_refl _) _
  have hH1 : HandAt (w.alloc (.cells (handA H fv cv) 26)) N H fv cv := hH.below (hb.mono hH.le)
  have HBG := hid (begin_c N H fv cv hO _ hH1)
  obtain ⟨n, hnn⟩ : ∃ n, Cs.length = n := ⟨_, rfl⟩
  obtain ⟨p, cp, rfl, -⟩ := hC.at'
  have HX := hid hx
  have HB := hid hb
  have HC := hid hC
  have HH := hid hH
  have HM := hid hM
  have HK0 := hid hK0
  have HKB := hid hKb
  have HSE := hid hsee
  have HF0 := hid hF0
  have HNN := hid hnn
  have HI := hid hi63
  rw [hnn] at hn ⊢
  clear hx hb hH hH1 hC hM hK0 hKb hsee hF0 hnn hi63
  obtain ⟨s0, hs0⟩ : ∃ s0, beginS H = s0 := ⟨_, rfl⟩
  rw [hs0] at HBG HF0 HSE ⊢
  clear hs0
  go_enter Try.func53, Try.ntmps53
  go_wp2_with (first
    | (refine wpList_value rfl (by intro c hc; cases hc) (.agg (handA H fv cv)) (exec_ldhand rfl rfl HX.out) ?_)
    | (go_at_call 41; refine HBG.out.mono ?_; rintro e w2 ⟨rfl, hb2⟩))
  have HX2 := hid (heap_below hb2 HX.out (heap_lt HX.out))
  have HB2 := hid (HB.out.trans (hb2.mono (by simp)))
  clear hb2 HBG HX HB
  obtain ⟨g, hg⟩ : ∃ g, w.heap.size = g := ⟨_, rfl⟩
  rw [hg] at HX2 HB2 ⊢
  go_loopw [6, 19] (fun sv ix wr => ∃ (i : Nat) (s : St) (tr : List (St × Int)), i ≤ n ∧ ix = .int .i64 i ∧ sv = encS s ∧ Fit H s ∧ folN H s0 Cs 0 = folN H s (Cs.drop i) i ∧ trN H s0 Cs = tr ++ trN H s (Cs.drop i) ∧ K tr wr ∧ Mods M w wr ∧ wr.heap[g]? = some (.cells (handA H fv cv) 26 (0, 0))) (fun _ ix _ => n - (intOf ix).toNat)
  case atStart => exact ⟨0, s0, [], by omega, rfl, rfl, HF0.out, rfl, rfl, HKB.out _ _ _ HK0.out (hg ▸ HB2.out), Mods.below (hg ▸ HB2.out), HX2.out⟩
  case round =>
    clear HX2 HB2 HF0 HK0
    obtain ⟨i, s, tr, hi, rfl, rfl, hF, hfol, htr, hk, hm, hx⟩ := hrel
    by_cases hlt : i < n
    · have hlt' : ((i : Nat) : Int) < n := by omega
      have hi0 : (0 : Int) ≤ i := by omega
      have hil : i < Cs.length := by rw [HNN.out]; exact hlt
      have hdrop : Cs.drop i = Cs[i] :: Cs.drop (i + 1) := List.drop_eq_getElem_cons hil
      rw [hdrop] at hfol htr
      obtain ⟨p', c', hv', hcs⟩ := HC.out.at'
      injection hv' with ep _ ec
      subst ep
      subst ec
      obtain ⟨b, o, rfl, hbN, hcell⟩ := hcs i hil
      have hcell := (show wr.cell? ⟨b, o + i, none⟩ = some (.int .i64 Cs[i]) from by
        obtain ⟨z, hz, _⟩ := cell_book hcell
        rw [cell_same ((hm.kept b z (fun hb => by have := HM.out b hb; omega) hz).trans hz.symm)]
        exact hcell)
      have hc63 := HI.out _ (List.getElem_mem hil)
      generalize Cs[i] = c at *
      have hHr : HandAt wr N H fv cv := HH.out.below (hm.to HH.out.le (fun b hb hM => by have := HM.out b hM; omega))
      have HCH := hid (choices_c N H fv cv s hF wr hHr)
      have HX := hid hx
      have HMD := hid hm
      have HKT := hid hk
      have HFO := hid hfol
      have HTR := hid htr
      have HF := hid hF
      have HHR := hid hHr
      clear hcs hdrop hx hm hk hfol htr hF hHr hbN
      by_cases h0 : chN H s = 0
      · have h0' : (((chN H s : Nat) : Int) == 0) = true := by simp [h0]
        generalize ((chN H s : Nat) : Int) = z at *
        go_wp2_with (first
          | (refine wpList_value rfl (by intro c hc; cases hc) (.agg (handA H fv cv)) (exec_ldhand rfl rfl HX.out) ?_)
          | (go_at_call 63; refine HCH.out.mono ?_; rintro e w3 ⟨rfl, hb3⟩))
        go_ret3
        refine ⟨?_, ?_, HMD.out.trans (Mods.below hb3)⟩
        · rw [HFO.out]
          unfold folN
          rw [if_pos h0]
          rfl
        · rw [HTR.out]
          unfold trN
          rw [if_pos h0, List.append_nil]
          exact HKB.out _ _ _ HKT.out hb3
      · have h0' : (((chN H s : Nat) : Int) == 0) = false := by simp; omega
        have HZ := hid (show 0 < chN H s by omega)
        obtain ⟨z, hz⟩ : ∃ z : Int, ((chN H s : Nat) : Int) = z := ⟨_, rfl⟩
        rw [hz] at h0' HCH
        by_cases hc0 : c < 0
        · have HCN := hid (fun W => choose_neg H fv cv s c hc0 W)
          go_wp2_with (first
            | (refine wpList_value rfl (by intro c hc; cases hc) (.agg (handA H fv cv)) (exec_ldhand rfl rfl HX.out) ?_)
            | (go_at_call 63; refine HCH.out.mono ?_; rintro e w3 ⟨rfl, hb3⟩; have HX := hid (heap_below hb3 HX.out (heap_lt HX.out)))
            | (go_at_call 70; refine (HCN.out _).mono ?_; rintro e w4 ⟨rfl, hb4⟩))
          go_ret3
          have hb5 := hb3.trans (hb4.mono hb3.size)
          refine ⟨?_, ?_, HMD.out.trans (Mods.below hb5)⟩
          · rw [HFO.out]
            unfold folN
            rw [if_neg h0, if_pos hc0]
            rfl
          · rw [HTR.out]
            unfold trN
            rw [if_neg h0, if_pos hc0, List.append_nil]
            exact HKB.out _ _ _ HKT.out hb5
        · have hcn : ((c.toNat : Nat) : Int) = c := by omega
          have HCO := hid (fun W hW => hcn ▸ choose_c N H fv cv s HF.out c.toNat (by omega) W hW)
          cases hp : pick (brs H s) c.toNat with
          | none =>
            rw [hp] at HCO
            simp only [encO] at HCO
            go_wp2_with (first
              | (refine wpList_value rfl (by intro c hc; cases hc) (.agg (handA H fv cv)) (exec_ldhand rfl rfl HX.out) ?_)
              | (go_at_call 63; refine HCH.out.mono ?_; rintro e w3 ⟨rfl, hb3⟩; have HX := hid (heap_below hb3 HX.out (heap_lt HX.out)); have HHR := hid (HHR.out.below (hb3.mono HHR.out.le)))
              | (go_at_call 70; refine (HCO.out _ HHR.out).mono ?_; rintro e w4 ⟨rfl, hb4⟩))
            go_ret3
            have hb5 := hb3.trans (hb4.mono hb3.size)
            refine ⟨?_, ?_, HMD.out.trans (Mods.below hb5)⟩
            · rw [HFO.out]
              unfold folN
              rw [if_neg h0, if_neg (show ¬ c < 0 by omega), hp]
              rfl
            · rw [HTR.out]
              unfold trN
              rw [if_neg h0, if_neg (show ¬ c < 0 by omega), hp, List.append_nil]
              exact HKB.out _ _ _ HKT.out hb5
          | some t =>
            rw [hp] at HCO
            simp only [show encO (some t) = .iface (encT t) (.agg (encA t)) from rfl] at HCO
            have HFT := hid (show Fit H t from by obtain ⟨x, hx⟩ := pick_mem _ _ _ hp; exact (step_fit H s HF.out _ hx).1)
            have HPL := hid (show c < ((chN H s : Nat) : Int) from by have := pick_lt _ _ _ hp; rw [← chN_sum] at this; omega)
            have HFO2 := hid (show folN H s0 Cs 0 = folN H t (Cs.drop (i + 1)) (i + 1) from by rw [HFO.out, folN, if_neg h0, if_neg (show ¬ c < 0 by omega), hp])
            have HTR2 := hid (show trN H s0 Cs = (tr ++ [(s, c)]) ++ trN H t (Cs.drop (i + 1)) from by rw [HTR.out, trN, if_neg h0, if_neg (show ¬ c < 0 by omega), hp]; simp)
            clear hp HFO HTR
            go_wp2_with (first
              | (refine wpList_value rfl (by intro c hc; cases hc) (.agg (handA H fv cv)) (exec_ldhand rfl rfl HX.out) ?_)
              | (go_at_call 63; refine HCH.out.mono ?_; rintro e w3 ⟨rfl, hb3⟩; have HX := hid (heap_below hb3 HX.out (heap_lt HX.out)); have HHR := hid (HHR.out.below (hb3.mono HHR.out.le)); have HMD := hid (HMD.out.trans (Mods.below hb3)); have HKT := hid (HKB.out _ _ _ HKT.out hb3))
              | (go_at_call 70; refine (HCO.out _ HHR.out).mono ?_; rintro e w4 ⟨rfl, hb4⟩; have HX := hid (heap_below hb4 HX.out (heap_lt HX.out)); have HMD := hid (HMD.out.trans (Mods.below hb4)); have HKT := hid (HKB.out _ _ _ HKT.out hb4))
              | (go_at_call 54; refine (HSE.out tr s c _ ⟨_, by rw [HTR2.out, List.append_assoc, List.singleton_append]⟩ HKT.out HMD.out HF.out (by omega) HPL.out).mono ?_; rintro e w5 ⟨⟨u, rfl⟩, hk5, hm5⟩))
            go_roundw
            case rel => exact ⟨i + 1, t, tr ++ [(s, c)], by omega, by go_num, rfl, HFT.out, HFO2.out, HTR2.out, hk5, HMD.out.trans hm5, hm5.kept _ _ (fun hb => by have := HM.out _ hb; omega) HX.out⟩
            case measure => simp [intOf]; omega
    · have hge : ¬ ((i : Nat) : Int) < n := by omega
      have hd : Cs.drop i = [] := List.drop_eq_nil_of_le (by rw [HNN.out]; omega)
      rw [hd] at hfol htr
      have HFO := hid hfol
      have HTR := hid htr
      have HMD := hid hm
      have HKT := hid hk
      clear hd hfol htr hm hk hx hF
      go_wp2_with fail
      go_ret3
      refine ⟨by rw [HFO.out]; rfl, ?_, HMD.out⟩
      rw [HTR.out, trN, List.append_nil]
      exact HKT.out
/-- What comes before a choice, and the courses through it, are no more than all. -/
theorem rankS_le (f : St → Nat) : ∀ (L : List (Nat × St)) (c : Nat) (t : St), pick L c = some t → rankS f c L + f t ≤ (L.map fun x => x.1 * f x.2).sum
  | [], c, t, h => by simp [pick] at h
  | x :: L, c, t, h => by
    unfold pick at h
    unfold rankS
    split at h
    · rename_i hlt
      cases h
      rw [if_pos hlt, List.map_cons, List.sum_cons]
      have : (c + 1) * f x.2 ≤ x.1 * f x.2 := Nat.mul_le_mul_right _ hlt
      rw [Nat.succ_mul] at this
      omega
    · rename_i hlt
      rw [if_neg hlt, List.map_cons, List.sum_cons]
      have := rankS_le f L (c - x.1) t h
      omega
/-- The number of what was seen. -/
def numT (H : HV) (o : Int) (tr : List (St × Int)) : Nat := (tr.map fun x => rankS (cntO H o) x.2.toNat (brs H x.1)).sum
theorem numT_snoc (H : HV) (o : Int) (tr : List (St × Int)) (s : St) (c : Int) : numT H o (tr ++ [(s, c)]) = numT H o tr + rankS (cntO H o) c.toNat (brs H s) := by simp [numT]
theorem tr_step (H : HV) (s : St) (c : Int) (L : List Int) : trN H s (c :: L) = [] ∨ (0 ≤ c ∧ ∃ t, pick (brs H s) c.toNat = some t ∧ trN H s (c :: L) = (s, c) :: trN H t L) := by
  rw [trN]
  by_cases h0 : chN H s = 0
  · rw [if_pos h0]; exact .inl rfl
  · rw [if_neg h0]
    by_cases hc : c < 0
    · rw [if_pos hc]; exact .inl rfl
    · rw [if_neg hc]
      cases hp : pick (brs H s) c.toNat with
      | none => exact .inl rfl
      | some t => exact .inr ⟨by omega, t, rfl, rfl⟩
theorem tr_bound (H : HV) (o : Int) : ∀ (Cs : List Int) (s : St), Fit H s → Last H s → ∀ (tr : List (St × Int)) (u : St) (c : Int) (rest : List (St × Int)), trN H s Cs = tr ++ (u, c) :: rest →
    Last H u ∧ cntO H o u ≤ cntO H o s ∧ numT H o tr + rankS (cntO H o) c.toNat (brs H u) ≤ cntO H o s
  | [], s, _, _, tr, u, c, rest, h => by simp [trN] at h
  | c0 :: L, s, hF, hL, tr, u, c, rest, h => by
    rcases tr_step H s c0 L with h0 | ⟨hc0, t, hp, h0⟩
    · rw [h0] at h; simp at h
    · rw [h0] at h
      obtain ⟨w, hw⟩ := pick_mem _ _ _ hp
      have hd : dep s ≠ 0 := fun hd => by rw [dep_zero hF hd] at hw; simp at hw
      have hst := step_fit H s hF _ hw
      have hle := rankS_le (cntO H o) _ _ _ hp
      rw [← cntO_succ H o s hF hd] at hle
      cases tr with
      | nil =>
        simp only [List.nil_append, List.cons.injEq, Prod.mk.injEq] at h
        obtain ⟨⟨rfl, rfl⟩, -⟩ := h
        exact ⟨hL, Nat.le_refl _, by simp only [numT, List.map_nil, List.sum_nil]; omega⟩
      | cons x tr' =>
        simp only [List.cons_append, List.cons.injEq] at h
        obtain ⟨rfl, h⟩ := h
        obtain ⟨k1, k2, k3⟩ := tr_bound H o L t hst.1 (hL.step hw) tr' u c rest h
        refine ⟨k1, by omega, ?_⟩
        simp only [numT, List.map_cons, List.sum_cons] at k3 ⊢
        omega
theorem num_bound (H : HV) (o : Int) (Cs : List Int) (s : St) (hF : Fit H s) (hL : Last H s) : numT H o (trN H s Cs) ≤ cntO H o s := by
  rcases List.eq_nil_or_concat (trN H s Cs) with h | ⟨tr, ⟨u, c⟩, h⟩
  · rw [h]; simp [numT]
  · rw [List.concat_eq_append] at h
    rw [h, numT_snoc]
    exact (tr_bound H o Cs s hF hL tr u c [] h).2.2
/-- The number of a course. -/
theorem num_rank (H : HV) (o : Int) : ∀ (L : List Nat) (s : St) (t : St), Fit H s → runN H s L = some t → numT H o (trN H s (L.map fun c => ((c : Nat) : Int))) = rankN H (okO H o) (dep s) s L
  | [], s, t, _, _ => by cases h : dep s <;> simp [trN, numT, rankN]
  | c :: L, s, t, hF, h => by
    unfold runN at h
    cases hp : pick (brs H s) c with
    | none => rw [hp] at h; cases h
    | some u =>
      rw [hp] at h
      obtain ⟨w, hw⟩ := pick_mem _ _ _ hp
      have hst := step_fit H s hF _ hw
      simp only at hst
      have hch : chN H s ≠ 0 := by have := pick_lt _ _ _ hp; rw [← chN_sum] at this; omega
      rw [List.map_cons, trN, if_neg hch, if_neg (by omega), Int.toNat_natCast, hp]
      obtain ⟨k, hk⟩ : ∃ k, dep s = k + 1 := ⟨dep s - 1, by omega⟩
      have ih := num_rank H o L u t hst.1 h
      rw [show dep u = k by omega] at ih
      rw [hk, rankN, hp]
      simp only [numT, List.map_cons, List.sum_cons, Int.toNat_natCast] at ih ⊢
      rw [ih]
      congr 1
      have hc : ∀ x ∈ brs H s, cntO H o x.2 = cnt H (okO H o) k x.2 := fun x hx => by
        have := (step_fit H s hF x hx).2
        unfold cntO
        rw [show dep x.2 = k by omega]
      have key : ∀ (Q : List (Nat × St)) (c : Nat), (∀ x ∈ Q, cntO H o x.2 = cnt H (okO H o) k x.2) → rankS (cntO H o) c Q = rankS (cnt H (okO H o) k) c Q := by
        intro Q
        induction Q with
        | nil => intro c _; rfl
        | cons x Q ih => intro c hQ; unfold rankS; rw [hQ x (by simp), ih _ fun y hy => hQ y (by simp [hy])]
      exact key _ _ hc
theorem Mods.toB {M : Nat → Prop} {W X W' : World} (h : Mods M W X) (hb : Below W.heap.size X W') : Mods M W W' :=
  ⟨hb.os.trans h.os, hb.tape.trans h.tape, hb.output.trans h.output, Nat.le_trans h.size hb.size, fun b o hM ho => (hb.block b (heap_lt ho)).trans (h.kept b o hM ho)⟩
theorem Abd.mods {B : Nat} {w : World} (M : Nat → Prop) (hB : w.heap.size ≤ B) : Abd B fun W => Mods M w W :=
  ⟨fun _ _ h hb => h.trans (Mods.below hb),
   fun W l r r' hl h _ => h.toB ⟨rfl, rfl, rfl, by simp [World.putObj], fun k hk => World.putObj_heap_other (by omega)⟩,
   fun W D hl h _ => h.toB ⟨rfl, rfl, rfl, by simp [World.putObj], fun k hk => World.putObj_heap_other (by omega)⟩⟩
/-- What holds between two steps of Rank. -/
structure RkK (N : Nat) (H : HV) (fv cv : Value) (o : Int) (cp mb b1 b2 b3 num : Nat) (V : World) : Prop where
  hand : HandAt V N H fv cv
  hb : V.heap[b1]? = some (.cells (handA H fv cv) 26 (0, 0))
  nb : Boxed V b2 3 (.int .i64 ((num : Nat) : Int))
  cb : Boxed V b3 81 (.pointer (some ⟨cp, 0, none⟩))
  ct : V.heap[cp]? = some (.cells (ctrA H fv cv o mb) 110 (0, 0))
  kn : KnAt V mb H o
section
variable {N : Nat} {H : HV} {fv cv : Value} {o : Int} {cp mb b1 b2 b3 num : Nat} {V V' : World}
theorem RkK.abd (B : Nat) : Abd B (RkK N H fv cv o cp mb b1 b2 b3 num) := by
  have h := (HandAt.abd B N H fv cv).and ((Abd.block B b1 (.cells (handA H fv cv) 26 (0, 0)) rfl).and ((Abd.boxed B b2 3 (.int .i64 ((num : Nat) : Int))).and ((Abd.boxed B b3 81 (.pointer (some ⟨cp, 0, none⟩))).and ((Abd.block B cp (.cells (ctrA H fv cv o mb) 110 (0, 0)) rfl).and (KnAt.abd B mb H o)))))
  exact ⟨fun W W' k hb => by obtain ⟨a1, a2, a3, a4, a5, a6⟩ := h.below W W' ⟨k.1, k.2, k.3, k.4, k.5, k.6⟩ hb; exact ⟨a1, a2, a3, a4, a5, a6⟩,
    fun W l r r' hl k hr => by obtain ⟨a1, a2, a3, a4, a5, a6⟩ := h.turn W l r r' hl ⟨k.1, k.2, k.3, k.4, k.5, k.6⟩ hr; exact ⟨a1, a2, a3, a4, a5, a6⟩,
    fun W D hl k hr => by obtain ⟨a1, a2, a3, a4, a5, a6⟩ := h.mark W D hl ⟨k.1, k.2, k.3, k.4, k.5, k.6⟩ hr; exact ⟨a1, a2, a3, a4, a5, a6⟩⟩
theorem RkK.below (h : RkK N H fv cv o cp mb b1 b2 b3 num V) (hb : Below V.heap.size V V') : RkK N H fv cv o cp mb b1 b2 b3 num V' := (RkK.abd 0).below _ _ h hb
theorem RkK.grown (h : RkK N H fv cv o cp mb b1 b2 b3 num V) (hN : N ≤ mb) (hG : V.grownBy V' (some mb)) (hk : KnAt V' mb H o) : RkK N H fv cv o cp mb b1 b2 b3 num V' := by
  obtain ⟨M, hM, -⟩ := h.kn
  exact ⟨h.hand.grown hG hN, grown_block hG h.hb (map_ne hM h.hb).symm, grown_block hG h.nb (map_ne hM h.nb).symm, grown_block hG h.cb (map_ne hM h.cb).symm, grown_block hG h.ct (map_ne hM h.ct).symm, hk⟩
theorem RkK.setX (h : RkK N H fv cv o cp mb b1 b2 b3 num V) {k : Nat} {u u' : Value} (hk : Boxed V k 3 u) (hN : N ≤ k) (hn : k ≠ b2) : RkK N H fv cv o cp mb b1 b2 b3 num (V.setCell ⟨k, 0, none⟩ u') := by
  have key : ∀ (j : Nat) (o : Obj), V.heap[j]? = some o → j ≠ k → (V.setCell ⟨k, 0, none⟩ u').heap[j]? = some o := fun j o h hj => (heap_setCell_other V ⟨k, 0, none⟩ j _ hj).trans h
  refine ⟨h.hand.below ⟨rfl, rfl, rfl, by simp, fun j hj => heap_setCell_other V ⟨k, 0, none⟩ j _ (show j ≠ k by omega)⟩, key _ _ h.hb (fun e => by subst e; have := h.hb; unfold Boxed at hk; rw [hk] at this; cases this), key _ _ h.nb (Ne.symm hn), key _ _ h.cb (fun e => by subst e; have := h.cb; unfold Boxed at this hk; rw [hk] at this; cases this), key _ _ h.ct (fun e => by subst e; have := h.ct; unfold Boxed at hk; rw [hk] at this; cases this), ?_⟩
  obtain ⟨M, hM, hm⟩ := h.kn
  exact ⟨M, key _ _ hM (map_ne hM hk), hm⟩
theorem RkK.setN (h : RkK N H fv cv o cp mb b1 b2 b3 num V) (hN : N ≤ b2) (num' : Nat) : RkK N H fv cv o cp mb b1 b2 b3 num' (V.setCell ⟨b2, 0, none⟩ (.int .i64 ((num' : Nat) : Int))) := by
  have hk := h.nb
  have key : ∀ (j : Nat) (o : Obj), V.heap[j]? = some o → j ≠ b2 → (V.setCell ⟨b2, 0, none⟩ (.int .i64 ((num' : Nat) : Int))).heap[j]? = some o := fun j o h hj => (heap_setCell_other V ⟨b2, 0, none⟩ j _ hj).trans h
  refine ⟨h.hand.below ⟨rfl, rfl, rfl, by simp, fun j hj => heap_setCell_other V ⟨b2, 0, none⟩ j _ (show j ≠ b2 by omega)⟩, key _ _ h.hb (fun e => by subst e; have := h.hb; unfold Boxed at hk; rw [hk] at this; cases this), hk.set _, key _ _ h.cb (fun e => by subst e; have := h.cb; unfold Boxed at this hk; rw [hk] at this; cases this), key _ _ h.ct (fun e => by subst e; have := h.ct; unfold Boxed at hk; rw [hk] at this; cases this), ?_⟩
  obtain ⟨M, hM, hm⟩ := h.kn
  exact ⟨M, key _ _ hM (map_ne hM hk), hm⟩
end
theorem rankS_cons (f : St → Nat) (c : Nat) (x : Nat × St) (L : List (Nat × St)) : rankS f c (x :: L) = if c < x.1 then c * f x.2 else x.1 * f x.2 + rankS f (c - x.1) L := rfl
attribute [local go_sem] Oper.semAt_some
set_option maxHeartbeats 4000000 in
theorem rank1_in (n : Nat) (hn : 24 ≤ n) (N : Nat) (H : HV) (fv cv : Value) (o : Int) (cp mb b1 b2 b3 num : Nat) (hNm : N ≤ mb) (hN2 : N ≤ b2) (s : St) (hF : Fit H s) (hL : Last H s) (hcn : cntO H o s ≤ 1000000000000000) (c : Nat) (hc : c < chN H s) (hnum : num + rankS (cntO H o) c (brs H s) ≤ 1000000000000000) (w : World) (hK : RkK N H fv cv o cp mb b1 b2 b3 num w) :
    CallsIn Fence.wide n Try.prog 54 #[encS s, .int .i64 ((c : Nat) : Int), .pointer (some ⟨b1, 0, none⟩), .pointer (some ⟨b2, 0, none⟩), .pointer (some ⟨b3, 0, none⟩)] w fun e w' => (∃ v, e = .returned v) ∧ RkK N H fv cv o cp mb b1 b2 b3 (num + rankS (cntO H o) c (brs H s)) w' ∧ Mods (fun b => b = b2 ∨ b = mb) w w' := by
  have hb := (Below.refl w.heap.size w).alloc (Nat.le_refl _) (.cells #[.int .i64 ((c : Nat) : Int)] 3)
  have hq : Boxed (w.alloc (.cells #[.int .i64 ((c : Nat) : Int)] 3)) w.heap.size 3 (.int .i64 ((c : Nat) : Int)) := World.alloc_heap_new w _
  have hs1 : (w.alloc (.cells #[.int .i64 ((c : Nat) : Int)] 3)).heap.size = w.heap.size + 1 := by simp
  have hK1 := hK.below hb
  have h2 : b2 < w.heap.size := heap_lt hK.nb
  have hm : mb < w.heap.size := by obtain ⟨M, hM, _⟩ := hK.kn; exact heap_lt hM
  have hM1 : Mods (fun b => b = b2 ∨ b = mb) w (w.alloc (.cells #[.int .i64 ((c : Nat) : Int)] 3)) := Mods.below hb
  have hchl := brs_small H s hF
  obtain ⟨w1, hw1⟩ : ∃ w1, w.alloc (.cells #[.int .i64 ((c : Nat) : Int)] 3) = w1 := ⟨_, rfl⟩
  rw [hw1] at hb hq hs1 hK1 hM1
  obtain ⟨g, hg⟩ : ∃ g, w.heap.size = g := ⟨_, rfl⟩
  have HX := hid hK1.hb
  have HBR := hid (branches_c N H fv cv s w1 hK1.hand)
  have HI := hid (show RkK N H fv cv o cp mb b1 b2 b3 num w1 ∧ Boxed w1 w.heap.size 3 (.int .i64 ((c : Nat) : Int)) ∧ Mods (fun b => b = b2 ∨ b = mb) w w1 from ⟨hK1, hq, hM1⟩)
  clear hb hq hK1 hK hM1
  rw [hg] at h2 hm hs1
  refine callsIn_of_wp_marks Try.func54 rfl trivial ?_ rfl
  simp only [Try.ntmps54, List.size_toArray, List.length_cons, List.length_nil, Nat.reduceAdd, Nat.reduceSub, Array.replicate_succ, Array.replicate_zero, List.push_toArray, List.append_toArray, List.nil_append, List.cons_append]
  gi_upto_region 1 with fail

  clear hw1
  gi_upto_region 2 with (first
    | (refine wpListIn_value lets_wide rfl (by intro c hc; cases hc) (.agg (handA H fv cv)) (exec_ldhand rfl rfl HX.out) ?_)
    | (refine wpListIn_enter lets_wide rfl (by intro c hc; cases hc) (inv_br _ _ _ _ rfl rfl rfl _) ?_; refine HBR.out.mono ?_; rintro e W6 ⟨rfl, hb6, hsz6, hbr⟩; refine ⟨_, rfl, ?_⟩))
  rw [hs1] at hsz6 hbr ⊢
  have hSQ := br_seq (n - 1) (by omega) N (g + 1) (g + 1 + 1) (g + 1) (g + 1 + 2) ⟨by omega, by omega⟩ ⟨by omega, by omega⟩ H fv cv s hF W6 hbr
  have h0 : RkK N H fv cv o cp mb b1 b2 b3 num W6 ∧ Boxed W6 g 3 (.int .i64 ((c : Nat) : Int)) ∧ Mods (fun b => b = b2 ∨ b = mb) w W6 := ⟨HI.out.1.below hb6, hg ▸ heap_below hb6 HI.out.2.1 (heap_lt HI.out.2.1), HI.out.2.2.trans (Mods.below hb6)⟩
  have hgW : w.heap.size ≤ W6.heap.size := by omega
  have H0 := hid h0
  clear HX HBR HI hb6 hbr h0
  apply rg_outA rfl (show 1 ≤ n by omega) (gf := brC s) (lb := brL s (g + 1) (g + 1 + 1)) rfl trivial (brC_enters s) hSQ (fun _ => rfl)
    (fun pre X => ∃ rest c' P, brs H s = pre ++ rest ∧ sumW pre + c' = c ∧ P + rankS (cntO H o) c' rest = rankS (cntO H o) c (brs H s) ∧ RkK N H fv cv o cp mb b1 b2 b3 (num + P) X ∧ Boxed X g 3 (.int .i64 ((c' : Nat) : Int)) ∧ Mods (fun b => b = b2 ∨ b = mb) w X)
    (fun q _ X => q = .ret ∧ RkK N H fv cv o cp mb b1 b2 b3 (num + rankS (cntO H o) c (brs H s)) X ∧ Mods (fun b => b = b2 ∨ b = mb) w X)
    (fun pre => Abd.ex fun rest => Abd.ex fun c' => Abd.ex fun P => (Abd.pure _ _).and ((Abd.pure _ _).and ((Abd.pure _ _).and ((RkK.abd _).and ((Abd.boxed _ _ _ _).and (Abd.mods _ hgW))))))
    (fun q pre => (Abd.pure _ _).and ((RkK.abd _).and (Abd.mods _ hgW)))
    (fun _ _ => Abd.pure _ _) ⟨brs H s, c, 0, rfl, by simp [sumW], by simp, H0.out.1, H0.out.2.1, H0.out.2.2⟩
  case hassign =>
    intro l pre x X K hi ho hK
    simp only [brEnc]
    gi_wp2_with fail
    first | rfl | exact hK _ rfl
  case hbody =>
    rintro l2 pre ⟨wd, t⟩ X hl hr ⟨rest, c', P, hrest, hcs, hrk, hK, hq, hM⟩ ⟨rest', hrest'⟩
    obtain rfl : rest = (wd, t) :: rest' := List.append_cancel_left (hrest.symm.trans hrest')
    have hxm : (wd, t) ∈ brs H s := by rw [hrest]; simp
    have hst : Fit H t ∧ dep t + 1 = dep s := step_fit H s hF (wd, t) hxm
    have hlx : Last H t := hL.step (w := wd) hxm
    have hx1 : wd ≤ 20000 := brs_one H s hF (wd, t) hxm
    have hpart : cntO H o t * wd ≤ cntO H o s := cntO_part H o s hF (wd, t) hxm
    rw [rankS_cons] at hrk
    simp only at hrk
    obtain ⟨f, hf⟩ : ∃ f, cntO H o t = f := ⟨_, rfl⟩
    rw [hf] at hrk hpart
    obtain ⟨fs, hfs⟩ : ∃ fs, satN f = fs := ⟨_, rfl⟩
    have HCN := hid (fun V h1 h2 h3 => count_c N H fv cv o cp mb hNm _ t rfl hst.1 hlx V h1 h2 h3)
    rw [hf, hfs] at HCN
    obtain ⟨mn, hmn⟩ : ∃ mn, min c' wd = mn := ⟨_, rfl⟩
    have hmw : mn ≤ wd := by omega
    have hpr : fs * mn = f * mn ∧ f * mn ≤ 1000000000000000 := by
      have h1 : f * mn ≤ f * wd := Nat.mul_le_mul_left _ hmw
      exact ⟨hfs ▸ sat_prod f mn _ (Nat.le_trans h1 hpart) hcn, by omega⟩
    have hcl : c' ≤ 20000 := by omega
    have hsat := satN_le f
    rw [hfs] at hsat
    have hPl : num + P ≤ 1000000000000000 := by omega
    obtain ⟨np, hnp⟩ : ∃ np, num + P = np := ⟨_, rfl⟩
    rw [hnp] at hK hPl
    have hpr' : mn * fs = f * mn := by rw [Nat.mul_comm, hpr.1]
    obtain ⟨pm, hpm⟩ : ∃ pm, f * mn = pm := ⟨_, rfl⟩
    rw [hpm] at hpr hpr'
    have hpml := hpr.2
    have HK := hid (show RkK N H fv cv o cp mb b1 b2 b3 np X ∧ Boxed X g 3 (.int .i64 ((c' : Nat) : Int)) ∧ Mods (fun b => b = b2 ∨ b = mb) w X from ⟨hK, hq, hM⟩)
    have HR := hid (show _ ∧ _ from ⟨hrk, hrest⟩)
    have hKm := hK.kn
    obtain ⟨oM, hKm, hKb⟩ : ∃ oM, X.heap[mb]? = some oM ∧ isBook oM = false := by obtain ⟨M, hM, _⟩ := hKm; exact ⟨_, hM, rfl⟩
    clear hK hq hM hrk hrest hrest' hpart hf hfs hxm hpr
    gi_upto_region 4 with fail
    have hS0 : (fun Y => X.grownBy Y (some mb) ∧ KnAt Y mb H o) X.drew := ⟨below_grown ⟨rfl, rfl, rfl, Nat.le_refl _, fun _ _ => rfl⟩, HK.out.1.kn.below ⟨rfl, rfl, rfl, Nat.le_refl _, fun _ _ => rfl⟩⟩
    refine regD_in (lets_round l2) (fun Y => X.grownBy Y (some mb) ∧ KnAt Y mb H o) (fun j => decide (j < 9)) (by kernel_rfl) (by kernel_rfl) ?_
    refine takeE (i := 0) (.int .i64 ((np : Nat) : Int)) (d := some 14) rfl (by kernel_rfl) (by kernel_rfl) (by kernel_rfl) (by kernel_rfl) (fun _ _ _ h => h) rfl (fun Y hY => by exact exec_ldint rfl rfl (HK.out.1.grown hNm hY.1 hY.2).nb) hS0 rfl ?_
    simp only [Act.put, List.setIfInBounds_toArray, List.set_cons_zero, List.set_cons_succ]
    refine takeE (i := 1) (.int .i64 ((c' : Nat) : Int)) (d := some 15) rfl (by kernel_rfl) (by kernel_rfl) (by kernel_rfl) (by kernel_rfl) (fun _ _ _ h => h) rfl (fun Y hY => by exact exec_ldint rfl rfl (grown_block hY.1 HK.out.2.1 (by omega))) hS0 rfl ?_
    simp only [Act.put, List.setIfInBounds_toArray, List.set_cons_zero, List.set_cons_succ]
    refine takeE (i := 2) (.int .i64 ((wd : Nat) : Int)) (d := some 16) rfl (by kernel_rfl) (by kernel_rfl) (by kernel_rfl) (by kernel_rfl) (fun _ _ _ h => h) rfl (fun Y hY => by exact rfl) hS0 rfl ?_
    simp only [Act.put, List.setIfInBounds_toArray, List.set_cons_zero, List.set_cons_succ]
    refine takeE (i := 3) (.int .i64 ((mn : Nat) : Int)) (d := some 17) rfl (by kernel_rfl) (by kernel_rfl) (by kernel_rfl) (by kernel_rfl) (fun _ _ _ h => h) rfl (fun Y hY => by exact hmn ▸ exec_min rfl rfl rfl) hS0 rfl ?_
    simp only [Act.put, List.setIfInBounds_toArray, List.set_cons_zero, List.set_cons_succ]
    refine takeE (i := 4) (.pointer (some ⟨cp, 0, none⟩)) (d := some 18) rfl (by kernel_rfl) (by kernel_rfl) (by kernel_rfl) (by kernel_rfl) (fun _ _ _ h => h) rfl (fun Y hY => by exact exec_ldptr rfl rfl (HK.out.1.grown hNm hY.1 hY.2).cb) hS0 rfl ?_
    simp only [Act.put, List.setIfInBounds_toArray, List.set_cons_zero, List.set_cons_succ]
    refine takeE (i := 5) (encS t) (d := some 19) rfl (by kernel_rfl) (by kernel_rfl) (by kernel_rfl) (by kernel_rfl) (fun _ _ _ h => h) rfl (fun Y hY => by exact rfl) hS0 rfl ?_
    simp only [Act.put, List.setIfInBounds_toArray, List.set_cons_zero, List.set_cons_succ]
    refine stepD 6 (by kernel_rfl) rfl rfl (fun K hK => ?_)
    go_simp
    go_at_call 50
    have hKX := HK.out.1.grown hNm hS0.1 hS0.2
    refine (HCN.out _ hKX.hand hKX.ct hKX.kn).mono ?_
    rintro e Y ⟨rfl, hgY, hkY⟩
    have hS0 : (fun Y => X.grownBy Y (some mb) ∧ KnAt Y mb H o) Y := ⟨grown_trans hS0.1 hgY, hkY⟩
    go_simp
    refine hK _ _ (fun _ => hS0) ?_
    clear hK K hgY hkY hKX
    refine takeE (i := 7) (.int .i64 ((mn * fs : Nat) : Int)) (d := some 21) rfl (by kernel_rfl) (by kernel_rfl) (by kernel_rfl) (by kernel_rfl) (fun _ _ _ h => h) rfl (fun Y hY => by exact exec_mulN rfl rfl rfl (by omega)) hS0 rfl ?_
    simp only [Act.put, List.setIfInBounds_toArray, List.set_cons_zero, List.set_cons_succ]
    rw [hpr']
    refine takeE (i := 8) (.int .i64 ((np + pm : Nat) : Int)) (d := some 22) rfl (by kernel_rfl) (by kernel_rfl) (by kernel_rfl) (by kernel_rfl) (fun _ _ _ h => h) rfl (fun Y hY => by exact exec_addN rfl rfl rfl (by omega)) hS0 rfl ?_
    simp only [Act.put, List.setIfInBounds_toArray, List.set_cons_zero, List.set_cons_succ]
    have hKY := HK.out.1.grown hNm hS0.1 hS0.2
    have hqY : Boxed Y g 3 (.int .i64 ((c' : Nat) : Int)) := grown_block hS0.1 HK.out.2.1 (by omega)
    have hLY := KeepsL.grown hS0.1 hKm hKb
    have hSY := KeptS.grown (S := SBr N (g + 1) (g + 1 + 2)) hS0.1 hKm hKb (by unfold SBr; omega)
    have hMY : Mods (fun b => b = b2 ∨ b = mb) w Y := HK.out.2.2.trans ⟨hS0.1.os, hS0.1.tape, hS0.1.output, hS0.1.size, fun b o hb ho => grown_block hS0.1 ho (fun e => hb (.inr e))⟩
    obtain ⟨nn, hnn⟩ : ∃ nn, np + pm = nn := ⟨_, rfl⟩
    rw [hnn]
    have hKZ := hKY.setN hN2 nn
    have hqZ : Boxed (Y.setCell ⟨b2, 0, none⟩ (.int .i64 ((nn : Nat) : Int))) g 3 (.int .i64 ((c' : Nat) : Int)) := (heap_setCell_other Y ⟨b2, 0, none⟩ g _ (show g ≠ b2 by omega)).trans hqY
    have hLZ := hLY.setCell (i := 0) (.int .i64 ((nn : Nat) : Int)) hKY.nb
    have hSZ := hSY.setCell (b := b2) (i := 0) (.int .i64 ((nn : Nat) : Int)) (by unfold SBr; omega)
    have hMZ : Mods (fun b => b = b2 ∨ b = mb) w (Y.setCell ⟨b2, 0, none⟩ (.int .i64 ((nn : Nat) : Int))) := hMY.trans ⟨rfl, rfl, rfl, by simp, fun b o hb ho => (heap_setCell_other Y ⟨b2, 0, none⟩ b _ (show b ≠ b2 from fun e => hb (.inl e))).trans ho⟩
    have c5 := hKY.nb.cell
    have f5 := hKY.nb.frozen
    refine stepD 9 (by kernel_rfl) rfl rfl (fun K hK => ?_)
    go_simp
    refine hK _ _ (fun h => by cases h) ?_
    clear hK K
    refine doneD (by kernel_rfl) ?_ _
    refine OnlyNorm.normal ?_
    obtain ⟨Z, hZ⟩ : ∃ Z, Y.setCell ⟨b2, 0, none⟩ (.int .i64 ((nn : Nat) : Int)) = Z := ⟨_, rfl⟩
    rw [hZ] at hKZ hqZ hLZ hSZ hMZ ⊢
    clear hZ c5 f5 hKY hqY hLY hSY hMY hS0 HCN HK hKm hKb
    have hcw : IntKind.i64.wrap (((c' : Nat) : Int) - ((wd : Nat) : Int)) = ((c' : Nat) : Int) - ((wd : Nat) : Int) := IntWalk.i64_in _ (by omega)
    have c6 := hqZ.cell
    have f6 := hqZ.frozen
    have hKE := hKZ.setX (u' := .int .i64 (((c' : Nat) : Int) - ((wd : Nat) : Int))) hqZ (by omega) (by omega)
    have hqE := hqZ.set (.int .i64 (((c' : Nat) : Int) - ((wd : Nat) : Int)))
    have hLE := hLZ.setCell (i := 0) (.int .i64 (((c' : Nat) : Int) - ((wd : Nat) : Int))) hqZ
    have hSE := hSZ.setCell (b := g) (i := 0) (.int .i64 (((c' : Nat) : Int) - ((wd : Nat) : Int))) (by unfold SBr; omega)
    have hME : Mods (fun b => b = b2 ∨ b = mb) w (Z.setCell ⟨g, 0, none⟩ (.int .i64 (((c' : Nat) : Int) - ((wd : Nat) : Int)))) := hMZ.toB ⟨rfl, rfl, rfl, by simp, fun b hb => heap_setCell_other Z ⟨g, 0, none⟩ b _ (show b ≠ g by omega)⟩
    have c7 := hqE.cell
    have HE := hid (show _ ∧ _ ∧ _ ∧ _ ∧ _ from ⟨hKE, hqE, hLE, hSE, hME⟩)
    clear hKZ hqZ hLZ hSZ hMZ hKE hqE hLE hSE hME
    by_cases hlt : c' < wd
    · have hz : decide (((c' : Nat) : Int) - ((wd : Nat) : Int) < 0) = true := decide_eq_true (by omega)
      have hz' : ((c' : Nat) : Int) - ((wd : Nat) : Int) < 0 := by omega
      gi_wp2_with fail
      refine ⟨HE.out.2.2.1.r l2, rfl, ?_, HE.out.2.2.2.2⟩
      have h1 := HR.out.1
      rw [if_pos hlt] at h1
      rw [← h1, show num + (P + c' * f) = nn by rw [← hnn, ← hnp, ← hpm, ← hmn, Nat.min_eq_left (by omega), Nat.mul_comm]; omega]
      exact HE.out.1
    · have hz : decide (((c' : Nat) : Int) - ((wd : Nat) : Int) < 0) = false := decide_eq_false (by omega)
      have hz' : ¬ (((c' : Nat) : Int) - ((wd : Nat) : Int) < 0) := by omega
      gi_wp2_with fail
      have h1 := HR.out.1
      rw [if_neg hlt] at h1
      have e1 : ((c' : Nat) : Int) - ((wd : Nat) : Int) = ((c' - wd : Nat) : Int) := by omega
      have e2 : nn = num + (P + wd * f) := by rw [← hnn, ← hnp, ← hpm, ← hmn, Nat.min_eq_right (by omega), Nat.mul_comm]; omega
      obtain ⟨k1, k2, k3, k4, k5⟩ := HE.out
      rw [e1] at k1 k2 k3 k4 k5 ⊢
      rw [e2] at k1
      exact ⟨k3, k4, rest', (by rw [HR.out.2]; simp), c' - wd, (by rw [sumW_append]; simp only; omega), P + wd * f, (by omega), k1, k2, k5⟩
  case hdone =>
    rintro D xs X hD rfl ⟨rest, c', P, hrest, hcs, -, -⟩ hmk
    obtain rfl : rest = [] := by simpa using hrest.symm
    exact absurd hcs (by have : sumW (brs H s) = chN H s := rfl; omega)
  case hstop =>
    rintro D q pre X hD ⟨rfl, hK, hM⟩ hmk
    have HK := hid hK
    have HM := hid hM
    have HMK := hid hmk
    clear hK hM hmk H0
    gi_wp2_with fail
    refine leaves_marks w.heap.size [D] _ (by simp) (fun D' hD' => ?_) (fun W' hb' hc' => ?_)
    · obtain rfl : D' = D := by simpa using hD'
      exact ⟨HMK.out, by omega⟩
    · have hKK := HK.out
      have hNw : N ≤ w.heap.size := by omega
      refine ⟨_, results_none rfl _ _ _, ⟨_, rfl⟩, ⟨hKK.hand.below (hb'.mono hNw), hc' _ _ hKK.hb rfl, hc' _ _ hKK.nb rfl, hc' _ _ hKK.cb rfl, hc' _ _ hKK.ct rfl, ?_⟩, HM.out.toB hb'⟩
      obtain ⟨M, hM1, hM2⟩ := hKK.kn
      exact ⟨M, hc' _ _ hM1 rfl, hM2⟩
end Go.Proofs.Ytmjnelkeiogdcaa
/- Walks of package hand: Rank. -/
namespace Go.Proofs.Ytmjnelkeiogdcaa
open Go Go.RowKit Go.Shelf
set_option maxRecDepth 100000
theorem results_1c2 {P : Program} {fn : Func} {p q r : Tmp} {T : TypeId} (h : fn.results = #[.cell p T, .tmp q, .tmp r]) {tmps : Array Value} {W : World} {b : Nat} {v : Value} (hp : tmps.getD p undef = .pointer (some ⟨b, 0, none⟩)) (ha : ∀ w, (isAgg T).run P w = .ok false w)
    (hb : Boxed W b T v) : (results fn tmps).run P W = .ok (.tuple #[v, tmps.getD q undef, tmps.getD r undef]) W := by
  have hp' : tmps[p]?.getD undef = .pointer (some ⟨b, 0, none⟩) := by simpa using hp
  have hc := hb.cell
  simp [results, h, hp', asAddr]
  go_simp
/-- What Rank answers. -/
def rankV (H : HV) (Cs : List Int) : Array Value := match fulN H (beginS H) Cs with
  | .ok t => if cntO H (-1) (beginS H) ≤ 1000000000000000 then #[.int .i64 ((numT H (outN H t) (trN H (beginS H) Cs) : Nat) : Int), .int .i64 0, .int .i64 0] else #[.int .i64 0, .int .i64 0, .int .i64 8]
  | .bad i e => #[.int .i64 0, .int .i64 ((i : Nat) : Int), .int .i64 ((e : Nat) : Int)]
set_option maxHeartbeats 2000000 in
theorem Rank_yes (N Nc : Nat) (H : HV) (hV : Val H) (fv cv : Value) (v : Value) (Cs : List Int) (hn : Cs.length ≤ 1000000) (hi63 : ∀ c ∈ Cs, c ≤ 9223372036854775807) (w : World) (hR : RawAt w N (rawOf H) fv cv) (hC : CrsAt w Nc v Cs) :
    Calls Try.prog 24 #[.agg (handA H fv cv), v] w fun e w' => e = .returned (.tuple (rankV H Cs)) ∧ Below w.heap.size w w' := by
  have hx := alloc2_first w (.cells (handA H fv cv) 26) (.cells #[.int .i64 0] 3)
  have hy := alloc2_second w (.cells (handA H fv cv) 26) (.cells #[.int .i64 0] 3)
  have hb := below2 w (.cells (handA H fv cv) 26) (.cells #[.int .i64 0] 3)
  have hR1 := hR.below (hb.mono hR.le)
  have hC1 := hC.below (hb.mono hC.le)
  have HX := hid hx
  have HY := hid (show Boxed _ (w.heap.size + 1) 3 (.int .i64 0) from hy)
  have HB := hid hb
  have HR := hid hR1
  have HC := hid hC1
  have HRUN := hid (Run_yes N Nc H hV fv cv v Cs hn hi63 _ hR1 hC1)
  have HCY := hid (fun o hc W hW => counted_yes N H hV.hand fv cv o hc W hW)
  have HCD := hid (fun o hc W hW => counted_no N H hV.hand fv cv o hc W hW)
  have HOK := hid hV.hand.ok
  have HBD := hid (fun i e (ht : fulN H (beginS H) Cs = .bad i e) => (ful_bad H Cs _ i e ht).1)
  have hF0 := begin_fit H hV.hand.ok
  have hL0 := hV.hand.last
  have hnum := fun o => num_bound H o Cs (beginS H) hF0 hL0
  have hNw : N ≤ w.heap.size := hR.le
  have hNc : Nc ≤ w.heap.size := hC.le
  obtain ⟨p, kp, rfl, -⟩ := hC.at'
  obtain ⟨g, hg⟩ : ∃ g, w.heap.size = g := ⟨_, rfl⟩
  rw [hg] at HX HY HB hNw hNc
  rw [hg]
  unfold rankV
  clear hx hy hb hR hR1 hC hC1
  cases hf : fulN H (beginS H) Cs with
  | bad i e =>
    have he := HBD.out i e hf
    have he0 : (((e : Nat) : Int) != 0) = true := by simp; omega
    rw [hf] at HRUN
    simp only [runV] at HRUN ⊢
    clear HBD HCY HCD hf he hnum hF0 hL0
    go_enter Try.func24, Try.ntmps24
    go_wp2_with (first
      | (refine wpList_value rfl (by intro c hc; cases hc) (.agg (handA H fv cv)) (exec_ldhand rfl rfl HX.out) ?_)
      | (go_at_call 29; refine HRUN.out.mono ?_; rintro e w3 ⟨rfl, hb3⟩; have hy3 := heap_below hb3 HY.out (heap_lt HY.out); have c3 := Boxed.cell hy3; have f3 := Boxed.frozen hy3; have HY3 := hid hy3; clear hy3))
    exact bodyPost_ret (results_1c2 Try.results24 rfl (fun _ => rfl) (Boxed.set (.int .i64 0) (show Boxed _ (g + 1) 3 _ from HY3.out))) rfl ⟨rfl, (HB.out.trans (hb3.mono (by have := heap_lt HY.out; omega))).setCell (p := ⟨g + 1, 0, none⟩) (show g ≤ g + 1 by omega) _⟩
  | ok t =>
    rw [hf] at HRUN
    simp only [runV] at HRUN ⊢
    obtain ⟨o, ho⟩ : ∃ o, outN H t = o := ⟨_, rfl⟩
    rw [ho] at HRUN ⊢
    have hcl := cntO_le H o (beginS H)
    have hnm := hnum o
    by_cases hall : cntO H (-1) (beginS H) ≤ 1000000000000000
    · rw [if_pos hall]
      have HCY := hid (HCY.out o hall)
      have HFO := hid (fun cp mb b3 (hmb : N ≤ mb) (hmc : Nc ≤ mb) W (hK : RkK N H fv cv o cp mb g (g + 1) b3 0 W) (hcr : CrsAt W Nc (.slice p Cs.length kp) Cs) =>
        follow_rank2 N Nc H fv cv HOK.out g (g + 1) b3 (fun b => b = g + 1 ∨ b = mb) (fun tr V => RkK N H fv cv o cp mb g (g + 1) b3 (numT H o tr) V) (.slice p Cs.length kp) Cs hn hi63 W hK.hand hcr
          (fun b hb => by rcases hb with rfl | rfl; exact ⟨heap_lt hK.nb, by omega, by omega⟩; obtain ⟨M, hM, _⟩ := hK.kn; exact ⟨heap_lt hM, hmb, hmc⟩)
          hK (fun tr V V' h hb => h.below hb)
          (fun tr s c V hex hk _ hFs h0 h1 => by
            obtain ⟨rest, hrest⟩ := hex
            obtain ⟨k1, k2, k3⟩ := tr_bound H o Cs (beginS H) hF0 hL0 tr s c rest hrest
            obtain ⟨cc, rfl⟩ : ∃ cc : Nat, c = ((cc : Nat) : Int) := ⟨c.toNat, by omega⟩
            rw [Int.toNat_natCast] at k3
            have := callsIn_wide.1 (rank1_in 24 (by omega) N H fv cv o cp mb g (g + 1) b3 (numT H o tr) hmb (by omega) s hFs k1 (by omega) cc (by omega) (by omega) V hk)
            rw [numT_snoc, Int.toNat_natCast]
            exact this))
      obtain ⟨tr, htr⟩ : ∃ tr, trN H (beginS H) Cs = tr := ⟨_, rfl⟩
      rw [htr] at HFO hnm ⊢
      obtain ⟨s0, hs0⟩ : ∃ s0, beginS H = s0 := ⟨_, rfl⟩
      rw [hs0] at HCY HFO
      obtain ⟨R0, hR0⟩ : ∃ R0, folV (folN H s0 Cs 0) = R0 := ⟨_, rfl⟩
      rw [hR0] at HFO
      clear HBD HCD hf hnum hF0 hL0 htr hs0 hall hcl hR0 hi63 ho
      go_enter Try.func24, Try.ntmps24
      go_upto_region 4 with (first
        | (refine wpList_value rfl (by intro c hc; cases hc) (.agg (handA H fv cv)) (exec_ldhand rfl rfl HX.out) ?_)
        | (go_at_call 29; refine HRUN.out.mono ?_; rintro e w3 ⟨rfl, hb3⟩; have HX := hid (heap_below hb3 HX.out (heap_lt HX.out)); have HB := hid (HB.out.trans (hb3.mono (by have := heap_lt HY.out; omega))); have HY := hid (heap_below hb3 HY.out (heap_lt HY.out)); have HR := hid (HR.out.below (hb3.mono HR.out.le)); have HC := hid (HC.out.below (hb3.mono HC.out.le)); clear hb3 HRUN))
      have hNw3 := HR.out.le
      go_upto_region 5 with (first
        | (refine wpList_value rfl (by intro c hc; cases hc) (.agg (handA H fv cv)) (exec_ldhand rfl rfl HX.out) ?_)
        | (go_at_call 49; refine (HCY.out _ (HandAt.of HR.out)).mono ?_; rintro e w5 ⟨cp, mb, rfl, hcp, hmb, hcc, hkk, hb5⟩))
      have hs3 : g + 2 ≤ w3.heap.size := heap_lt HY.out
      have hb6 : Below w5.heap.size w5 (w5.alloc (.cells #[.pointer (some ⟨cp, 0, none⟩)] 81)) := (Below.refl _ _).alloc (Nat.le_refl _) _
      have hb56 : Below w3.heap.size w3 (w5.alloc (.cells #[.pointer (some ⟨cp, 0, none⟩)] 81)) := hb5.trans (hb6.mono hb5.size)
      have hK6 : RkK N H fv cv o cp mb g (g + 1) w5.heap.size 0 (w5.alloc (.cells #[.pointer (some ⟨cp, 0, none⟩)] 81)) :=
        ⟨(HandAt.of HR.out).below (hb56.mono HR.out.le), heap_below hb56 HX.out (heap_lt HX.out), heap_below hb56 HY.out (heap_lt HY.out), World.alloc_heap_new w5 _, heap_below hb6 hcc (heap_lt hcc), hkk.below hb6⟩
      have hC6 := HC.out.below (hb56.mono HC.out.le)
      have HFL := hid (HFO.out cp mb w5.heap.size (by omega) (by omega) _ hK6 hC6)
      have HX6 := hid hK6.hb
      have HB6 := hid (HB.out.trans (hb56.mono (by omega)))
      have hmg : g + 2 ≤ mb := by omega
      have hsz : g ≤ (w5.alloc (.cells #[.pointer (some ⟨cp, 0, none⟩)] 81)).heap.size := by have := heap_lt hK6.hb; omega
      have HSZ := hid hsz
      clear hK6 hC6 hb56 hb6 hb5 hcc hkk HFO HX HY HB HR HC HCY hs3 hcp hmb hNw3 hsz
      go_wp2_with (first
        | (refine wpList_value rfl (by intro c hc; cases hc) (.agg (handA H fv cv)) (exec_ldhand rfl rfl HX6.out) ?_)
        | (go_at_call 53; refine HFL.out.mono ?_; rintro e w7 ⟨rfl, hk7, hm7⟩; have c7 := hk7.nb.cell; have f7 := hk7.nb.frozen; have HK7 := hid hk7; clear hk7))
      refine bodyPost_ret (results_1c2 Try.results24 rfl (fun _ => rfl) (Boxed.set _ HK7.out.nb)) rfl ⟨rfl, ?_⟩
      exact (HB6.out.trans (hm7.to HSZ.out (fun b hb e => by omega))).setCell (p := ⟨g + 1, 0, none⟩) (show g ≤ g + 1 by omega) _
    · rw [if_neg hall]
      have HCD := hid (HCD.out o hall)
      clear HBD HCY hf hnum hF0 hL0 hall hcl hi63 ho hnm
      go_enter Try.func24, Try.ntmps24
      go_wp2_with (first
        | (refine wpList_value rfl (by intro c hc; cases hc) (.agg (handA H fv cv)) (exec_ldhand rfl rfl HX.out) ?_)
        | (go_at_call 29; refine HRUN.out.mono ?_; rintro e w3 ⟨rfl, hb3⟩; have HX := hid (heap_below hb3 HX.out (heap_lt HX.out)); have HB := hid (HB.out.trans (hb3.mono (by have := heap_lt HY.out; omega))); have HY := hid (heap_below hb3 HY.out (heap_lt HY.out)); have HR := hid (HR.out.below (hb3.mono HR.out.le)); clear hb3 HRUN)
        | (go_at_call 49; refine (HCD.out _ (HandAt.of HR.out)).mono ?_; rintro e w5 ⟨rfl, hb5⟩; have HB5 := hid (HB.out.trans (hb5.mono (by have := heap_lt HY.out; omega))); have hy5 := heap_below ((show Below w3.heap.size w3 (w5.alloc (.cells #[.pointer none] 81)) from (hb5.alloc hb5.size _))) HY.out (heap_lt HY.out); have c5 := Boxed.cell hy5; have f5 := Boxed.frozen hy5; have HY5 := hid hy5; clear hy5))
      refine bodyPost_ret (results_1c2 Try.results24 rfl (fun _ => rfl) (Boxed.set (.int .i64 0) (show Boxed _ (g + 1) 3 _ from HY5.out))) rfl ⟨rfl, ?_⟩
      exact (HB5.out.alloc (by have := HB5.out.size; omega) _).setCell (p := ⟨g + 1, 0, none⟩) (show g ≤ g + 1 by omega) _
theorem Rank_no (R : RH) (h0 : okR R = false) (fv cv : Value) (N : Nat) (p : Option Addr) (n m : Nat) (w : World) (hR : RawAt w N R fv cv) (hf : R.faces.length ≤ 1000) (hc : R.cards.length ≤ 1000) :
    Calls Try.prog 24 #[.agg (handR R fv cv), .slice p n m] w fun e w' => e = .returned (.tuple #[.int .i64 0, .int .i64 0, .int .i64 2]) ∧ Below w.heap.size w w' := by
  have hx := alloc2_first w (.cells (handR R fv cv) 26) (.cells #[.int .i64 0] 3)
  have hy := alloc2_second w (.cells (handR R fv cv) 26) (.cells #[.int .i64 0] 3)
  have hb := below2 w (.cells (handR R fv cv) 26) (.cells #[.int .i64 0] 3)
  have hR1 := hR.below (hb.mono hR.le)
  have HX := hid hx
  have HY := hid hy
  have HB := hid hb
  have HC := hid (Run_no R h0 fv cv N p n m _ hR1 hf hc)
  clear hb hR1 hR hf hc h0 hx hy
  obtain ⟨g, hg⟩ : ∃ g, w.heap.size = g := ⟨_, rfl⟩
  rw [hg] at HX HY HB
  rw [hg]
  go_enter Try.func24, Try.ntmps24
  go_wp2_with (first
    | (refine wpList_value rfl (by intro c hc; cases hc) (.agg (handR R fv cv)) (exec_ldR rfl rfl HX.out) ?_)
    | (go_at_call 29; refine HC.out.mono ?_; rintro e w2 ⟨rfl, hb2⟩; have HB2 := hid (HB.out.trans (hb2.mono (by have := heap_lt HY.out; omega))); have hy5 := heap_below hb2 HY.out (heap_lt HY.out); have c5 := Boxed.cell hy5; have f5 := Boxed.frozen hy5; have HY5 := hid hy5; clear hy5))
  exact bodyPost_ret (results_1c2 Try.results24 rfl (fun _ => rfl) (Boxed.set (.int .i64 0) (show Boxed _ (g + 1) 3 _ from HY5.out))) rfl ⟨rfl, HB2.out.setCell (p := ⟨g + 1, 0, none⟩) (show g ≤ g + 1 by omega) _⟩
end Go.Proofs.Ytmjnelkeiogdcaa
