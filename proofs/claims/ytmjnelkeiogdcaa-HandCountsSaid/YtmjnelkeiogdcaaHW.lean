/- Walks of package hand: a course is followed. -/
import Derived.Test.YtmjnelkeiogdcaaHU
import Derived.Test.YtmjnelkeiogdcaaP6
set_option linter.unusedSimpArgs false
set_option linter.unusedVariables false
namespace Go.Proofs.Ytmjnelkeiogdcaa
open Go Go.RowKit Go.Shelf
set_option maxRecDepth 100000

/-- A course lies below block N. -/
structure CrsAt (W : World) (N : Nat) (v : Value) (Cs : List Int) : Prop where
  le : N ≤ W.heap.size
  at' : ∃ p c, v = .slice p Cs.length c ∧ ∀ i (h : i < Cs.length), ∃ b o, p = some ⟨b, o, none⟩ ∧ b < N ∧ W.cell? ⟨b, o + i, none⟩ = some (.int .i64 Cs[i])
/-- Only blocks of M may have changed. -/
structure Mods (M : Nat → Prop) (W W' : World) : Prop where
  os : W'.os = W.os
  tape : W'.tape = W.tape
  output : W'.output = W.output
  size : W.heap.size ≤ W'.heap.size
  kept : ∀ (b : Nat) (o : Obj), ¬ M b → W.heap[b]? = some o → W'.heap[b]? = some o
theorem Mods.refl (M : Nat → Prop) (W : World) : Mods M W W := ⟨rfl, rfl, rfl, Nat.le_refl _, fun _ _ _ h => h⟩
theorem Mods.trans {M : Nat → Prop} {A B C : World} (h : Mods M A B) (k : Mods M B C) : Mods M A C :=
  ⟨k.os.trans h.os, k.tape.trans h.tape, k.output.trans h.output, Nat.le_trans h.size k.size, fun b o hb ho => k.kept b o hb (h.kept b o hb ho)⟩
theorem Mods.below {M : Nat → Prop} {W W' : World} (h : Below W.heap.size W W') : Mods M W W' := ⟨h.os, h.tape, h.output, h.size, fun b _ _ ho => (h.block b (Array.getElem?_eq_some_iff.1 ho).1).trans ho⟩
theorem Mods.to {M : Nat → Prop} {W W' : World} (h : Mods M W W') {n : Nat} (hn : n ≤ W.heap.size) (hM : ∀ b, b < n → ¬ M b) : Below n W W' :=
  ⟨h.os, h.tape, h.output, h.size, fun b hb => by
    cases ho : W.heap[b]? with
    | none => have : W.heap.size ≤ b := by simpa using ho
              omega
    | some o => exact h.kept b o (hM b hb) ho⟩
theorem Mods.mono {M M' : Nat → Prop} {W W' : World} (h : Mods M W W') (hM : ∀ b, M b → M' b) : Mods M' W W' := ⟨h.os, h.tape, h.output, h.size, fun b o hb ho => h.kept b o (fun hm => hb (hM b hm)) ho⟩
theorem CrsAt.keptF {W W' : World} {N : Nat} {v : Value} {Cs : List Int} (h : CrsAt W N v Cs) (hk : ∀ (b : Nat) (o : Obj), b < N → W.heap[b]? = some o → W'.heap[b]? = some o) (hs : N ≤ W'.heap.size) : CrsAt W' N v Cs := by
  obtain ⟨p, c, hv, hf⟩ := h.at'
  refine ⟨hs, p, c, hv, fun i hi => ?_⟩
  obtain ⟨b, o, e, hb, h1⟩ := hf i hi
  obtain ⟨x, hx, _⟩ := cell_book h1
  exact ⟨b, o, e, hb, by rw [cell_same ((hk b x hb hx).trans hx.symm)]; exact h1⟩
theorem CrsAt.below {W W' : World} {N : Nat} {v : Value} {Cs : List Int} (h : CrsAt W N v Cs) (hb : Below N W W') : CrsAt W' N v Cs :=
  h.keptF (fun b o hlt ho => (hb.block b hlt).trans ho) (Nat.le_trans h.le hb.size)
/-- What a course has shown. -/
def trN (H : HV) : St → List Int → List (St × Int)
  | _, [] => []
  | s, c :: L => if chN H s = 0 then [] else if c < 0 then [] else match pick (brs H s) c.toNat with | none => [] | some t => (s, c) :: trN H t L
def folV : FR → Array Value
  | .ok s => #[encS s, .int .i64 0, .int .i64 0]
  | .bad i e => #[.nilIface, .int .i64 ((i : Nat) : Int), .int .i64 ((e : Nat) : Int)]
theorem eqNil' (d : Nat) (s : St) (w : World) : (Op.equalIn (d + 1) 71 (encS s) .nilIface).run Try.prog w = .ok false w := by
  unfold encS
  simp [Op.equalIn, run_underlying Try.underlying71]
theorem eqNil (s : St) (w : World) : (Op.equalIn 10000 71 (encS s) .nilIface).run Try.prog w = .ok false w := eqNil' 9999 s w
/-- An operation of a list that yields a value. -/
theorem wpList_value {P : Program} {ops : Array Oper} {rest : List Oper} {o : Oper} {Q : Exit → Act → World → Prop} {a : Act} {w : World} (hgd : o.guard = none) (hd : ∀ c, o.op ≠ .defer c) (v : Value) (hrun : (execOp a.eval o).run P w = .ok (.value v) w)
    (hK : wpList P ops Q rest (a.put o.dst v) w) : wpList P ops Q (o :: rest) a w :=
  wpList_plain hgd fun K hK' => by unfold Oper.wp; rw [hrun]; exact hK' _ _ hK
set_option maxHeartbeats 2000000 in
theorem follow_blind (N Nc : Nat) (H : HV) (fv cv : Value) (hO : Okh H) (M : Nat → Prop) (K : List (St × Int) → World → Prop) (v : Value) (Cs : List Int) (hn : Cs.length ≤ 1000000) (hi63 : ∀ c ∈ Cs, c ≤ 9223372036854775807) (w : World) (hH : HandAt w N H fv cv) (hC : CrsAt w Nc v Cs)
    (hM : ∀ b, M b → b < w.heap.size ∧ N ≤ b ∧ Nc ≤ b) (hK0 : K [] w) (hKb : ∀ tr W W', K tr W → Below W.heap.size W W' → K tr W')
    (hsee : ∀ tr s c W, K tr W → Mods M w W → Fit H s → 0 ≤ c → c < ((chN H s : Nat) : Int) → Calls Try.prog 62 #[encS s, .int .i64 c] W fun e W' => (∃ v, e = .returned v) ∧ K (tr ++ [(s, c)]) W' ∧ Mods M W W') :
    Calls Try.prog 53 #[.agg (handA H fv cv), v, .func (.func 62) #[] #[]] w fun e w' => e = .returned (.tuple (folV (folN H (beginS H) Cs 0))) ∧ K (trN H (beginS H) Cs) w' ∧ Mods M w w' := by
  have hF0 := begin_fit H hO
  have hx := heap_alloc_new w (.cells (handA H fv cv) 26)
  have hb : Below w.heap.size w (w.alloc (.cells (handA H fv cv) 26)) := (Below.refl _ _).alloc (Nat.le_refl _) _
  have hH1 : HandAt (w.alloc (.cells (handA H fv cv) 26)) N H fv cv := hH.below (hb.mono hH.le)
  have HBG := hid (begin_c N H fv cv hO _ hH1)
  obtain ⟨n, hnn⟩ : ∃ n, Cs.length = n := ⟨_, rfl⟩
  obtain ⟨p, cp, rfl, -⟩ := hC.at'
  have HX := hid hx
  have HB := hid hb
  have HC := hid hC
  have HH := hid hH
  have HM := hid hM
  have HK0 := hid hK0
  have HKB := hid hKb
  have HSE := hid hsee
  have HF0 := hid hF0
  have HNN := hid hnn
  have HI := hid hi63
  rw [hnn] at hn ⊢
  clear hx hb hH hH1 hC hM hK0 hKb hsee hF0 hnn hi63
  obtain ⟨s0, hs0⟩ : ∃ s0, beginS H = s0 := ⟨_, rfl⟩
  rw [hs0] at HBG HF0 ⊢
  clear hs0
  go_enter Try.func53, Try.ntmps53
  go_wp2_with (first
    | (refine wpList_value rfl (by intro c hc; cases hc) (.agg (handA H fv cv)) (exec_ldhand rfl rfl HX.out) ?_)
    | (go_at_call 41; refine HBG.out.mono ?_; rintro e w2 ⟨rfl, hb2⟩))
  have HX2 := hid (heap_below hb2 HX.out (heap_lt HX.out))
  have HB2 := hid (HB.out.trans (hb2.mono (by simp)))
  clear hb2 HBG HX HB
  obtain ⟨g, hg⟩ : ∃ g, w.heap.size = g := ⟨_, rfl⟩
  rw [hg] at HX2 HB2 ⊢
  go_loopw [6, 19] (fun sv ix wr => ∃ (i : Nat) (s : St) (tr : List (St × Int)), i ≤ n ∧ ix = .int .i64 i ∧ sv = encS s ∧ Fit H s ∧ folN H s0 Cs 0 = folN H s (Cs.drop i) i ∧ trN H s0 Cs = tr ++ trN H s (Cs.drop i) ∧ K tr wr ∧ Mods M w wr ∧ wr.heap[g]? = some (.cells (handA H fv cv) 26 (0, 0))) (fun _ ix _ => n - (intOf ix).toNat)
  case atStart => exact ⟨0, s0, [], by omega, rfl, rfl, HF0.out, rfl, rfl, HKB.out _ _ _ HK0.out (hg ▸ HB2.out), Mods.below (hg ▸ HB2.out), HX2.out⟩
  case round =>
    clear HX2 HB2 HF0 HK0
    obtain ⟨i, s, tr, hi, rfl, rfl, hF, hfol, htr, hk, hm, hx⟩ := hrel
    by_cases hlt : i < n
    · have hlt' : ((i : Nat) : Int) < n := by omega
      have hi0 : (0 : Int) ≤ i := by omega
      have hil : i < Cs.length := by rw [HNN.out]; exact hlt
      have hdrop : Cs.drop i = Cs[i] :: Cs.drop (i + 1) := List.drop_eq_getElem_cons hil
      rw [hdrop] at hfol htr
      obtain ⟨p', c', hv', hcs⟩ := HC.out.at'
      injection hv' with ep _ ec
      subst ep
      subst ec
      obtain ⟨b, o, rfl, hbN, hcell⟩ := hcs i hil
      have hcell := (show wr.cell? ⟨b, o + i, none⟩ = some (.int .i64 Cs[i]) from by
        obtain ⟨z, hz, _⟩ := cell_book hcell
        rw [cell_same ((hm.kept b z (fun hb => by have := HM.out b hb; omega) hz).trans hz.symm)]
        exact hcell)
      have hc63 := HI.out _ (List.getElem_mem hil)
      generalize Cs[i] = c at *
      have hHr : HandAt wr N H fv cv := HH.out.below (hm.to HH.out.le (fun b hb hM => by have := HM.out b hM; omega))
      have HCH := hid (choices_c N H fv cv s hF wr hHr)
      have HX := hid hx
      have HMD := hid hm
      have HKT := hid hk
      have HFO := hid hfol
      have HTR := hid htr
      have HF := hid hF
      have HHR := hid hHr
      clear hcs hdrop hx hm hk hfol htr hF hHr hbN
      by_cases h0 : chN H s = 0
      · have h0' : (((chN H s : Nat) : Int) == 0) = true := by simp [h0]
        generalize ((chN H s : Nat) : Int) = z at *
        go_wp2_with (first
          | (refine wpList_value rfl (by intro c hc; cases hc) (.agg (handA H fv cv)) (exec_ldhand rfl rfl HX.out) ?_)
          | (go_at_call 63; refine HCH.out.mono ?_; rintro e w3 ⟨rfl, hb3⟩))
        go_ret3
        refine ⟨?_, ?_, HMD.out.trans (Mods.below hb3)⟩
        · rw [HFO.out]
          unfold folN
          rw [if_pos h0]
          rfl
        · rw [HTR.out]
          unfold trN
          rw [if_pos h0, List.append_nil]
          exact HKB.out _ _ _ HKT.out hb3
      · have h0' : (((chN H s : Nat) : Int) == 0) = false := by simp; omega
        have HZ := hid (show 0 < chN H s by omega)
        obtain ⟨z, hz⟩ : ∃ z : Int, ((chN H s : Nat) : Int) = z := ⟨_, rfl⟩
        rw [hz] at h0' HCH
        by_cases hc0 : c < 0
        · have HCN := hid (fun W => choose_neg H fv cv s c hc0 W)
          go_wp2_with (first
            | (refine wpList_value rfl (by intro c hc; cases hc) (.agg (handA H fv cv)) (exec_ldhand rfl rfl HX.out) ?_)
            | (go_at_call 63; refine HCH.out.mono ?_; rintro e w3 ⟨rfl, hb3⟩; have HX := hid (heap_below hb3 HX.out (heap_lt HX.out)))
            | (go_at_call 70; refine (HCN.out _).mono ?_; rintro e w4 ⟨rfl, hb4⟩))
          go_ret3
          have hb5 := hb3.trans (hb4.mono hb3.size)
          refine ⟨?_, ?_, HMD.out.trans (Mods.below hb5)⟩
          · rw [HFO.out]
            unfold folN
            rw [if_neg h0, if_pos hc0]
            rfl
          · rw [HTR.out]
            unfold trN
            rw [if_neg h0, if_pos hc0, List.append_nil]
            exact HKB.out _ _ _ HKT.out hb5
        · have hcn : ((c.toNat : Nat) : Int) = c := by omega
          have HCO := hid (fun W hW => hcn ▸ choose_c N H fv cv s HF.out c.toNat (by omega) W hW)
          cases hp : pick (brs H s) c.toNat with
          | none =>
            rw [hp] at HCO
            simp only [encO] at HCO
            go_wp2_with (first
              | (refine wpList_value rfl (by intro c hc; cases hc) (.agg (handA H fv cv)) (exec_ldhand rfl rfl HX.out) ?_)
              | (go_at_call 63; refine HCH.out.mono ?_; rintro e w3 ⟨rfl, hb3⟩; have HX := hid (heap_below hb3 HX.out (heap_lt HX.out)); have HHR := hid (HHR.out.below (hb3.mono HHR.out.le)))
              | (go_at_call 70; refine (HCO.out _ HHR.out).mono ?_; rintro e w4 ⟨rfl, hb4⟩))
            go_ret3
            have hb5 := hb3.trans (hb4.mono hb3.size)
            refine ⟨?_, ?_, HMD.out.trans (Mods.below hb5)⟩
            · rw [HFO.out]
              unfold folN
              rw [if_neg h0, if_neg (show ¬ c < 0 by omega), hp]
              rfl
            · rw [HTR.out]
              unfold trN
              rw [if_neg h0, if_neg (show ¬ c < 0 by omega), hp, List.append_nil]
              exact HKB.out _ _ _ HKT.out hb5
          | some t =>
            rw [hp] at HCO
            simp only [show encO (some t) = .iface (encT t) (.agg (encA t)) from rfl] at HCO
            have HFT := hid (show Fit H t from by obtain ⟨x, hx⟩ := pick_mem _ _ _ hp; exact (step_fit H s HF.out _ hx).1)
            have HPL := hid (show c < ((chN H s : Nat) : Int) from by have := pick_lt _ _ _ hp; rw [← chN_sum] at this; omega)
            have HFO2 := hid (show folN H s0 Cs 0 = folN H t (Cs.drop (i + 1)) (i + 1) from by rw [HFO.out, folN, if_neg h0, if_neg (show ¬ c < 0 by omega), hp])
            have HTR2 := hid (show trN H s0 Cs = (tr ++ [(s, c)]) ++ trN H t (Cs.drop (i + 1)) from by rw [HTR.out, trN, if_neg h0, if_neg (show ¬ c < 0 by omega), hp]; simp)
            clear hp HFO HTR
            go_wp2_with (first
              | (refine wpList_value rfl (by intro c hc; cases hc) (.agg (handA H fv cv)) (exec_ldhand rfl rfl HX.out) ?_)
              | (go_at_call 63; refine HCH.out.mono ?_; rintro e w3 ⟨rfl, hb3⟩; have HX := hid (heap_below hb3 HX.out (heap_lt HX.out)); have HHR := hid (HHR.out.below (hb3.mono HHR.out.le)); have HMD := hid (HMD.out.trans (Mods.below hb3)); have HKT := hid (HKB.out _ _ _ HKT.out hb3))
              | (go_at_call 70; refine (HCO.out _ HHR.out).mono ?_; rintro e w4 ⟨rfl, hb4⟩; have HX := hid (heap_below hb4 HX.out (heap_lt HX.out)); have HMD := hid (HMD.out.trans (Mods.below hb4)); have HKT := hid (HKB.out _ _ _ HKT.out hb4))
              | (go_at_call 62; refine (HSE.out tr s c _ HKT.out HMD.out HF.out (by omega) HPL.out).mono ?_; rintro e w5 ⟨⟨u, rfl⟩, hk5, hm5⟩))
            go_roundw
            case rel => exact ⟨i + 1, t, tr ++ [(s, c)], by omega, by go_num, rfl, HFT.out, HFO2.out, HTR2.out, hk5, HMD.out.trans hm5, hm5.kept _ _ (fun hb => by have := HM.out _ hb; omega) HX.out⟩
            case measure => simp [intOf]; omega
    · have hge : ¬ ((i : Nat) : Int) < n := by omega
      have hd : Cs.drop i = [] := List.drop_eq_nil_of_le (by rw [HNN.out]; omega)
      rw [hd] at hfol htr
      have HFO := hid hfol
      have HTR := hid htr
      have HMD := hid hm
      have HKT := hid hk
      clear hd hfol htr hm hk hx hF
      go_wp2_with fail
      go_ret3
      refine ⟨by rw [HFO.out]; rfl, ?_, HMD.out⟩
      rw [HTR.out, trN, List.append_nil]
      exact HKT.out
set_option maxHeartbeats 2000000 in
theorem follow_chance (N Nc : Nat) (H : HV) (fv cv : Value) (hO : Okh H) (bd bh : Nat) (M : Nat → Prop) (K : List (St × Int) → World → Prop) (v : Value) (Cs : List Int) (hn : Cs.length ≤ 1000000) (hi63 : ∀ c ∈ Cs, c ≤ 9223372036854775807) (w : World) (hH : HandAt w N H fv cv) (hC : CrsAt w Nc v Cs)
    (hM : ∀ b, M b → b < w.heap.size ∧ N ≤ b ∧ Nc ≤ b) (hK0 : K [] w) (hKb : ∀ tr W W', K tr W → Below W.heap.size W W' → K tr W')
    (hsee : ∀ tr s c W, K tr W → Mods M w W → Fit H s → 0 ≤ c → c < ((chN H s : Nat) : Int) → Calls Try.prog 64 #[encS s, .int .i64 c, .pointer (some ⟨bd, 0, none⟩), .pointer (some ⟨bh, 0, none⟩)] W fun e W' => (∃ v, e = .returned v) ∧ K (tr ++ [(s, c)]) W' ∧ Mods M W W') :
    Calls Try.prog 53 #[.agg (handA H fv cv), v, .func (.func 64) #[] #[.pointer (some ⟨bd, 0, none⟩), .pointer (some ⟨bh, 0, none⟩)]] w fun e w' => e = .returned (.tuple (folV (folN H (beginS H) Cs 0))) ∧ K (trN H (beginS H) Cs) w' ∧ Mods M w w' := by
  have hF0 := begin_fit H hO
  have hx := heap_alloc_new w (.cells (handA H fv cv) 26)
  have hb : Below w.heap.size w (w.alloc (.cells (handA H fv cv) 26)) := (Below.refl _ _).alloc (Nat.le_refl _) _
  have hH1 : HandAt (w.alloc (.cells (handA H fv cv) 26)) N H fv cv := hH.below (hb.mono hH.le)
  have HBG := hid (begin_c N H fv cv hO _ hH1)
  obtain ⟨n, hnn⟩ : ∃ n, Cs.length = n := ⟨_, rfl⟩
  obtain ⟨p, cp, rfl, -⟩ := hC.at'
  have HX := hid hx
  have HB := hid hb
  have HC := hid hC
  have HH := hid hH
  have HM := hid hM
  have HK0 := hid hK0
  have HKB := hid hKb
  have HSE := hid hsee
  have HF0 := hid hF0
  have HNN := hid hnn
  have HI := hid hi63
  rw [hnn] at hn ⊢
  clear hx hb hH hH1 hC hM hK0 hKb hsee hF0 hnn hi63
  obtain ⟨s0, hs0⟩ : ∃ s0, beginS H = s0 := ⟨_, rfl⟩
  rw [hs0] at HBG HF0 ⊢
  clear hs0
  go_enter Try.func53, Try.ntmps53
  go_wp2_with (first
    | (refine wpList_value rfl (by intro c hc; cases hc) (.agg (handA H fv cv)) (exec_ldhand rfl rfl HX.out) ?_)
    | (go_at_call 41; refine HBG.out.mono ?_; rintro e w2 ⟨rfl, hb2⟩))
  have HX2 := hid (heap_below hb2 HX.out (heap_lt HX.out))
  have HB2 := hid (HB.out.trans (hb2.mono (by simp)))
  clear hb2 HBG HX HB
  obtain ⟨g, hg⟩ : ∃ g, w.heap.size = g := ⟨_, rfl⟩
  rw [hg] at HX2 HB2 ⊢
  go_loopw [6, 19] (fun sv ix wr => ∃ (i : Nat) (s : St) (tr : List (St × Int)), i ≤ n ∧ ix = .int .i64 i ∧ sv = encS s ∧ Fit H s ∧ folN H s0 Cs 0 = folN H s (Cs.drop i) i ∧ trN H s0 Cs = tr ++ trN H s (Cs.drop i) ∧ K tr wr ∧ Mods M w wr ∧ wr.heap[g]? = some (.cells (handA H fv cv) 26 (0, 0))) (fun _ ix _ => n - (intOf ix).toNat)
  case atStart => exact ⟨0, s0, [], by omega, rfl, rfl, HF0.out, rfl, rfl, HKB.out _ _ _ HK0.out (hg ▸ HB2.out), Mods.below (hg ▸ HB2.out), HX2.out⟩
  case round =>
    clear HX2 HB2 HF0 HK0
    obtain ⟨i, s, tr, hi, rfl, rfl, hF, hfol, htr, hk, hm, hx⟩ := hrel
    by_cases hlt : i < n
    · have hlt' : ((i : Nat) : Int) < n := by omega
      have hi0 : (0 : Int) ≤ i := by omega
      have hil : i < Cs.length := by rw [HNN.out]; exact hlt
      have hdrop : Cs.drop i = Cs[i] :: Cs.drop (i + 1) := List.drop_eq_getElem_cons hil
      rw [hdrop] at hfol htr
      obtain ⟨p', c', hv', hcs⟩ := HC.out.at'
      injection hv' with ep _ ec
      subst ep
      subst ec
      obtain ⟨b, o, rfl, hbN, hcell⟩ := hcs i hil
      have hcell := (show wr.cell? ⟨b, o + i, none⟩ = some (.int .i64 Cs[i]) from by
        obtain ⟨z, hz, _⟩ := cell_book hcell
        rw [cell_same ((hm.kept b z (fun hb => by have := HM.out b hb; omega) hz).trans hz.symm)]
        exact hcell)
      have hc63 := HI.out _ (List.getElem_mem hil)
      generalize Cs[i] = c at *
      have hHr : HandAt wr N H fv cv := HH.out.below (hm.to HH.out.le (fun b hb hM => by have := HM.out b hM; omega))
      have HCH := hid (choices_c N H fv cv s hF wr hHr)
      have HX := hid hx
      have HMD := hid hm
      have HKT := hid hk
      have HFO := hid hfol
      have HTR := hid htr
      have HF := hid hF
      have HHR := hid hHr
      clear hcs hdrop hx hm hk hfol htr hF hHr hbN
      by_cases h0 : chN H s = 0
      · have h0' : (((chN H s : Nat) : Int) == 0) = true := by simp [h0]
        generalize ((chN H s : Nat) : Int) = z at *
        go_wp2_with (first
          | (refine wpList_value rfl (by intro c hc; cases hc) (.agg (handA H fv cv)) (exec_ldhand rfl rfl HX.out) ?_)
          | (go_at_call 63; refine HCH.out.mono ?_; rintro e w3 ⟨rfl, hb3⟩))
        go_ret3
        refine ⟨?_, ?_, HMD.out.trans (Mods.below hb3)⟩
        · rw [HFO.out]
          unfold folN
          rw [if_pos h0]
          rfl
        · rw [HTR.out]
          unfold trN
          rw [if_pos h0, List.append_nil]
          exact HKB.out _ _ _ HKT.out hb3
      · have h0' : (((chN H s : Nat) : Int) == 0) = false := by simp; omega
        have HZ := hid (show 0 < chN H s by omega)
        obtain ⟨z, hz⟩ : ∃ z : Int, ((chN H s : Nat) : Int) = z := ⟨_, rfl⟩
        rw [hz] at h0' HCH
        by_cases hc0 : c < 0
        · have HCN := hid (fun W => choose_neg H fv cv s c hc0 W)
          go_wp2_with (first
            | (refine wpList_value rfl (by intro c hc; cases hc) (.agg (handA H fv cv)) (exec_ldhand rfl rfl HX.out) ?_)
            | (go_at_call 63; refine HCH.out.mono ?_; rintro e w3 ⟨rfl, hb3⟩; have HX := hid (heap_below hb3 HX.out (heap_lt HX.out)))
            | (go_at_call 70; refine (HCN.out _).mono ?_; rintro e w4 ⟨rfl, hb4⟩))
          go_ret3
          have hb5 := hb3.trans (hb4.mono hb3.size)
          refine ⟨?_, ?_, HMD.out.trans (Mods.below hb5)⟩
          · rw [HFO.out]
            unfold folN
            rw [if_neg h0, if_pos hc0]
            rfl
          · rw [HTR.out]
            unfold trN
            rw [if_neg h0, if_pos hc0, List.append_nil]
            exact HKB.out _ _ _ HKT.out hb5
        · have hcn : ((c.toNat : Nat) : Int) = c := by omega
          have HCO := hid (fun W hW => hcn ▸ choose_c N H fv cv s HF.out c.toNat (by omega) W hW)
          cases hp : pick (brs H s) c.toNat with
          | none =>
            rw [hp] at HCO
            simp only [encO] at HCO
            go_wp2_with (first
              | (refine wpList_value rfl (by intro c hc; cases hc) (.agg (handA H fv cv)) (exec_ldhand rfl rfl HX.out) ?_)
              | (go_at_call 63; refine HCH.out.mono ?_; rintro e w3 ⟨rfl, hb3⟩; have HX := hid (heap_below hb3 HX.out (heap_lt HX.out)); have HHR := hid (HHR.out.below (hb3.mono HHR.out.le)))
              | (go_at_call 70; refine (HCO.out _ HHR.out).mono ?_; rintro e w4 ⟨rfl, hb4⟩))
            go_ret3
            have hb5 := hb3.trans (hb4.mono hb3.size)
            refine ⟨?_, ?_, HMD.out.trans (Mods.below hb5)⟩
            · rw [HFO.out]
              unfold folN
              rw [if_neg h0, if_neg (show ¬ c < 0 by omega), hp]
              rfl
            · rw [HTR.out]
              unfold trN
              rw [if_neg h0, if_neg (show ¬ c < 0 by omega), hp, List.append_nil]
              exact HKB.out _ _ _ HKT.out hb5
          | some t =>
            rw [hp] at HCO
            simp only [show encO (some t) = .iface (encT t) (.agg (encA t)) from rfl] at HCO
            have HFT := hid (show Fit H t from by obtain ⟨x, hx⟩ := pick_mem _ _ _ hp; exact (step_fit H s HF.out _ hx).1)
            have HPL := hid (show c < ((chN H s : Nat) : Int) from by have := pick_lt _ _ _ hp; rw [← chN_sum] at this; omega)
            have HFO2 := hid (show folN H s0 Cs 0 = folN H t (Cs.drop (i + 1)) (i + 1) from by rw [HFO.out, folN, if_neg h0, if_neg (show ¬ c < 0 by omega), hp])
            have HTR2 := hid (show trN H s0 Cs = (tr ++ [(s, c)]) ++ trN H t (Cs.drop (i + 1)) from by rw [HTR.out, trN, if_neg h0, if_neg (show ¬ c < 0 by omega), hp]; simp)
            clear hp HFO HTR
            go_wp2_with (first
              | (refine wpList_value rfl (by intro c hc; cases hc) (.agg (handA H fv cv)) (exec_ldhand rfl rfl HX.out) ?_)
              | (go_at_call 63; refine HCH.out.mono ?_; rintro e w3 ⟨rfl, hb3⟩; have HX := hid (heap_below hb3 HX.out (heap_lt HX.out)); have HHR := hid (HHR.out.below (hb3.mono HHR.out.le)); have HMD := hid (HMD.out.trans (Mods.below hb3)); have HKT := hid (HKB.out _ _ _ HKT.out hb3))
              | (go_at_call 70; refine (HCO.out _ HHR.out).mono ?_; rintro e w4 ⟨rfl, hb4⟩; have HX := hid (heap_below hb4 HX.out (heap_lt HX.out)); have HMD := hid (HMD.out.trans (Mods.below hb4)); have HKT := hid (HKB.out _ _ _ HKT.out hb4))
              | (go_at_call 64; refine (HSE.out tr s c _ HKT.out HMD.out HF.out (by omega) HPL.out).mono ?_; rintro e w5 ⟨⟨u, rfl⟩, hk5, hm5⟩))
            go_roundw
            case rel => exact ⟨i + 1, t, tr ++ [(s, c)], by omega, by go_num, rfl, HFT.out, HFO2.out, HTR2.out, hk5, HMD.out.trans hm5, hm5.kept _ _ (fun hb => by have := HM.out _ hb; omega) HX.out⟩
            case measure => simp [intOf]; omega
    · have hge : ¬ ((i : Nat) : Int) < n := by omega
      have hd : Cs.drop i = [] := List.drop_eq_nil_of_le (by rw [HNN.out]; omega)
      rw [hd] at hfol htr
      have HFO := hid hfol
      have HTR := hid htr
      have HMD := hid hm
      have HKT := hid hk
      clear hd hfol htr hm hk hx hF
      go_wp2_with fail
      go_ret3
      refine ⟨by rw [HFO.out]; rfl, ?_, HMD.out⟩
      rw [HTR.out, trN, List.append_nil]
      exact HKT.out
set_option maxHeartbeats 2000000 in
theorem follow_rank (N Nc : Nat) (H : HV) (fv cv : Value) (hO : Okh H) (b1 b2 b3 : Nat) (M : Nat → Prop) (K : List (St × Int) → World → Prop) (v : Value) (Cs : List Int) (hn : Cs.length ≤ 1000000) (hi63 : ∀ c ∈ Cs, c ≤ 9223372036854775807) (w : World) (hH : HandAt w N H fv cv) (hC : CrsAt w Nc v Cs)
    (hM : ∀ b, M b → b < w.heap.size ∧ N ≤ b ∧ Nc ≤ b) (hK0 : K [] w) (hKb : ∀ tr W W', K tr W → Below W.heap.size W W' → K tr W')
    (hsee : ∀ tr s c W, K tr W → Mods M w W → Fit H s → 0 ≤ c → c < ((chN H s : Nat) : Int) → Calls Try.prog 54 #[encS s, .int .i64 c, .pointer (some ⟨b1, 0, none⟩), .pointer (some ⟨b2, 0, none⟩), .pointer (some ⟨b3, 0, none⟩)] W fun e W' => (∃ v, e = .returned v) ∧ K (tr ++ [(s, c)]) W' ∧ Mods M W W') :
    Calls Try.prog 53 #[.agg (handA H fv cv), v, .func (.func 54) #[] #[.pointer (some ⟨b1, 0, none⟩), .pointer (some ⟨b2, 0, none⟩), .pointer (some ⟨b3, 0, none⟩)]] w fun e w' => e = .returned (.tuple (folV (folN H (beginS H) Cs 0))) ∧ K (trN H (beginS H) Cs) w' ∧ Mods M w w' := by
  have hF0 := begin_fit H hO
  have hx := heap_alloc_new w (.cells (handA H fv cv) 26)
  have hb : Below w.heap.size w (w.alloc (.cells (handA H fv cv) 26)) := (Below.refl _ _).alloc (Nat.le_refl _) _
  have hH1 : HandAt (w.alloc (.cells (handA H fv cv) 26)) N H fv cv := hH.below (hb.mono hH.le)
  have HBG := hid (begin_c N H fv cv hO _ hH1)
  obtain ⟨n, hnn⟩ : ∃ n, Cs.length = n := ⟨_, rfl⟩
  obtain ⟨p, cp, rfl, -⟩ := hC.at'
  have HX := hid hx
  have HB := hid hb
  have HC := hid hC
  have HH := hid hH
  have HM := hid hM
  have HK0 := hid hK0
  have HKB := hid hKb
  have HSE := hid hsee
  have HF0 := hid hF0
  have HNN := hid hnn
  have HI := hid hi63
  rw [hnn] at hn ⊢
  clear hx hb hH hH1 hC hM hK0 hKb hsee hF0 hnn hi63
  obtain ⟨s0, hs0⟩ : ∃ s0, beginS H = s0 := ⟨_, rfl⟩
  rw [hs0] at HBG HF0 ⊢
  clear hs0
  go_enter Try.func53, Try.ntmps53
  go_wp2_with (first
    | (refine wpList_value rfl (by intro c hc; cases hc) (.agg (handA H fv cv)) (exec_ldhand rfl rfl HX.out) ?_)
    | (go_at_call 41; refine HBG.out.mono ?_; rintro e w2 ⟨rfl, hb2⟩))
  have HX2 := hid (heap_below hb2 HX.out (heap_lt HX.out))
  have HB2 := hid (HB.out.trans (hb2.mono (by simp)))
  clear hb2 HBG HX HB
  obtain ⟨g, hg⟩ : ∃ g, w.heap.size = g := ⟨_, rfl⟩
  rw [hg] at HX2 HB2 ⊢
  go_loopw [6, 19] (fun sv ix wr => ∃ (i : Nat) (s : St) (tr : List (St × Int)), i ≤ n ∧ ix = .int .i64 i ∧ sv = encS s ∧ Fit H s ∧ folN H s0 Cs 0 = folN H s (Cs.drop i) i ∧ trN H s0 Cs = tr ++ trN H s (Cs.drop i) ∧ K tr wr ∧ Mods M w wr ∧ wr.heap[g]? = some (.cells (handA H fv cv) 26 (0, 0))) (fun _ ix _ => n - (intOf ix).toNat)
  case atStart => exact ⟨0, s0, [], by omega, rfl, rfl, HF0.out, rfl, rfl, HKB.out _ _ _ HK0.out (hg ▸ HB2.out), Mods.below (hg ▸ HB2.out), HX2.out⟩
  case round =>
    clear HX2 HB2 HF0 HK0
    obtain ⟨i, s, tr, hi, rfl, rfl, hF, hfol, htr, hk, hm, hx⟩ := hrel
    by_cases hlt : i < n
    · have hlt' : ((i : Nat) : Int) < n := by omega
      have hi0 : (0 : Int) ≤ i := by omega
      have hil : i < Cs.length := by rw [HNN.out]; exact hlt
      have hdrop : Cs.drop i = Cs[i] :: Cs.drop (i + 1) := List.drop_eq_getElem_cons hil
      rw [hdrop] at hfol htr
      obtain ⟨p', c', hv', hcs⟩ := HC.out.at'
      injection hv' with ep _ ec
      subst ep
      subst ec
      obtain ⟨b, o, rfl, hbN, hcell⟩ := hcs i hil
      have hcell := (show wr.cell? ⟨b, o + i, none⟩ = some (.int .i64 Cs[i]) from by
        obtain ⟨z, hz, _⟩ := cell_book hcell
        rw [cell_same ((hm.kept b z (fun hb => by have := HM.out b hb; omega) hz).trans hz.symm)]
        exact hcell)
      have hc63 := HI.out _ (List.getElem_mem hil)
      generalize Cs[i] = c at *
      have hHr : HandAt wr N H fv cv := HH.out.below (hm.to HH.out.le (fun b hb hM => by have := HM.out b hM; omega))
      have HCH := hid (choices_c N H fv cv s hF wr hHr)
      have HX := hid hx
      have HMD := hid hm
      have HKT := hid hk
      have HFO := hid hfol
      have HTR := hid htr
      have HF := hid hF
      have HHR := hid hHr
      clear hcs hdrop hx hm hk hfol htr hF hHr hbN
      by_cases h0 : chN H s = 0
      · have h0' : (((chN H s : Nat) : Int) == 0) = true := by simp [h0]
        generalize ((chN H s : Nat) : Int) = z at *
        go_wp2_with (first
          | (refine wpList_value rfl (by intro c hc; cases hc) (.agg (handA H fv cv)) (exec_ldhand rfl rfl HX.out) ?_)
          | (go_at_call 63; refine HCH.out.mono ?_; rintro e w3 ⟨rfl, hb3⟩))
        go_ret3
        refine ⟨?_, ?_, HMD.out.trans (Mods.below hb3)⟩
        · rw [HFO.out]
          unfold folN
          rw [if_pos h0]
          rfl
        · rw [HTR.out]
          unfold trN
          rw [if_pos h0, List.append_nil]
          exact HKB.out _ _ _ HKT.out hb3
      · have h0' : (((chN H s : Nat) : Int) == 0) = false := by simp; omega
        have HZ := hid (show 0 < chN H s by omega)
        obtain ⟨z, hz⟩ : ∃ z : Int, ((chN H s : Nat) : Int) = z := ⟨_, rfl⟩
        rw [hz] at h0' HCH
        by_cases hc0 : c < 0
        · have HCN := hid (fun W => choose_neg H fv cv s c hc0 W)
          go_wp2_with (first
            | (refine wpList_value rfl (by intro c hc; cases hc) (.agg (handA H fv cv)) (exec_ldhand rfl rfl HX.out) ?_)
            | (go_at_call 63; refine HCH.out.mono ?_; rintro e w3 ⟨rfl, hb3⟩; have HX := hid (heap_below hb3 HX.out (heap_lt HX.out)))
            | (go_at_call 70; refine (HCN.out _).mono ?_; rintro e w4 ⟨rfl, hb4⟩))
          go_ret3
          have hb5 := hb3.trans (hb4.mono hb3.size)
          refine ⟨?_, ?_, HMD.out.trans (Mods.below hb5)⟩
          · rw [HFO.out]
            unfold folN
            rw [if_neg h0, if_pos hc0]
            rfl
          · rw [HTR.out]
            unfold trN
            rw [if_neg h0, if_pos hc0, List.append_nil]
            exact HKB.out _ _ _ HKT.out hb5
        · have hcn : ((c.toNat : Nat) : Int) = c := by omega
          have HCO := hid (fun W hW => hcn ▸ choose_c N H fv cv s HF.out c.toNat (by omega) W hW)
          cases hp : pick (brs H s) c.toNat with
          | none =>
            rw [hp] at HCO
            simp only [encO] at HCO
            go_wp2_with (first
              | (refine wpList_value rfl (by intro c hc; cases hc) (.agg (handA H fv cv)) (exec_ldhand rfl rfl HX.out) ?_)
              | (go_at_call 63; refine HCH.out.mono ?_; rintro e w3 ⟨rfl, hb3⟩; have HX := hid (heap_below hb3 HX.out (heap_lt HX.out)); have HHR := hid (HHR.out.below (hb3.mono HHR.out.le)))
              | (go_at_call 70; refine (HCO.out _ HHR.out).mono ?_; rintro e w4 ⟨rfl, hb4⟩))
            go_ret3
            have hb5 := hb3.trans (hb4.mono hb3.size)
            refine ⟨?_, ?_, HMD.out.trans (Mods.below hb5)⟩
            · rw [HFO.out]
              unfold folN
              rw [if_neg h0, if_neg (show ¬ c < 0 by omega), hp]
              rfl
            · rw [HTR.out]
              unfold trN
              rw [if_neg h0, if_neg (show ¬ c < 0 by omega), hp, List.append_nil]
              exact HKB.out _ _ _ HKT.out hb5
          | some t =>
            rw [hp] at HCO
            simp only [show encO (some t) = .iface (encT t) (.agg (encA t)) from rfl] at HCO
            have HFT := hid (show Fit H t from by obtain ⟨x, hx⟩ := pick_mem _ _ _ hp; exact (step_fit H s HF.out _ hx).1)
            have HPL := hid (show c < ((chN H s : Nat) : Int) from by have := pick_lt _ _ _ hp; rw [← chN_sum] at this; omega)
            have HFO2 := hid (show folN H s0 Cs 0 = folN H t (Cs.drop (i + 1)) (i + 1) from by rw [HFO.out, folN, if_neg h0, if_neg (show ¬ c < 0 by omega), hp])
            have HTR2 := hid (show trN H s0 Cs = (tr ++ [(s, c)]) ++ trN H t (Cs.drop (i + 1)) from by rw [HTR.out, trN, if_neg h0, if_neg (show ¬ c < 0 by omega), hp]; simp)
            clear hp HFO HTR
            go_wp2_with (first
              | (refine wpList_value rfl (by intro c hc; cases hc) (.agg (handA H fv cv)) (exec_ldhand rfl rfl HX.out) ?_)
              | (go_at_call 63; refine HCH.out.mono ?_; rintro e w3 ⟨rfl, hb3⟩; have HX := hid (heap_below hb3 HX.out (heap_lt HX.out)); have HHR := hid (HHR.out.below (hb3.mono HHR.out.le)); have HMD := hid (HMD.out.trans (Mods.below hb3)); have HKT := hid (HKB.out _ _ _ HKT.out hb3))
              | (go_at_call 70; refine (HCO.out _ HHR.out).mono ?_; rintro e w4 ⟨rfl, hb4⟩; have HX := hid (heap_below hb4 HX.out (heap_lt HX.out)); have HMD := hid (HMD.out.trans (Mods.below hb4)); have HKT := hid (HKB.out _ _ _ HKT.out hb4))
              | (go_at_call 54; refine (HSE.out tr s c _ HKT.out HMD.out HF.out (by omega) HPL.out).mono ?_; rintro e w5 ⟨⟨u, rfl⟩, hk5, hm5⟩))
            go_roundw
            case rel => exact ⟨i + 1, t, tr ++ [(s, c)], by omega, by go_num, rfl, HFT.out, HFO2.out, HTR2.out, hk5, HMD.out.trans hm5, hm5.kept _ _ (fun hb => by have := HM.out _ hb; omega) HX.out⟩
            case measure => simp [intOf]; omega
    · have hge : ¬ ((i : Nat) : Int) < n := by omega
      have hd : Cs.drop i = [] := List.drop_eq_nil_of_le (by rw [HNN.out]; omega)
      rw [hd] at hfol htr
      have HFO := hid hfol
      have HTR := hid htr
      have HMD := hid hm
      have HKT := hid hk
      clear hd hfol htr hm hk hx hF
      go_wp2_with fail
      go_ret3
      refine ⟨by rw [HFO.out]; rfl, ?_, HMD.out⟩
      rw [HTR.out, trN, List.append_nil]
      exact HKT.out
end Go.Proofs.Ytmjnelkeiogdcaa
