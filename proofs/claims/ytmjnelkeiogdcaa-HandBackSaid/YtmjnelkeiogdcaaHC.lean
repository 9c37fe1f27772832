/- Walks of package hand: the branches of stalks, of cards that are drawn, of a deck that is cut. -/
import Derived.Test.YtmjnelkeiogdcaaHB
import Derived.Test.YtmjnelkeiogdcaaQD
namespace Go.Proofs.Ytmjnelkeiogdcaa
open Go Go.RowKit Go.Shelf
set_option maxRecDepth 100000

theorem aside_c (heap group : Nat) (hh : 1 ≤ heap ∧ heap ≤ 64) (hg : 2 ≤ group ∧ group ≤ 8) (W : World) : Calls Try.prog 103 #[.int .i64 ((heap : Nat) : Int), .int .i64 ((group : Nat) : Int)] W fun e w' => e = .returned (.int .i64 ((asideN heap group : Nat) : Int)) ∧ W = w' := by
  have e1 : ((heap : Nat) : Int) - 1 = ((heap - 1 : Nat) : Int) := by omega
  obtain ⟨h1, hh1⟩ : ∃ h1, heap - 1 = h1 := ⟨_, rfl⟩
  rw [hh1] at e1
  have e2 : Int.tmod ((h1 : Nat) : Int) ((group : Nat) : Int) = ((h1 % group : Nat) : Int) := by rw [Int.tmod_eq_emod_of_nonneg (by omega)]; push_cast; try rfl
  have hr : h1 % group < group := Nat.mod_lt _ (by omega)
  have ea : asideN heap group = h1 % group + 1 := by unfold asideN; rw [hh1]
  rw [ea]
  generalize h1 % group = r at *
  have e3 : ((r : Nat) : Int) + 1 = ((r + 1 : Nat) : Int) := by omega
  have w1 := wrap_nat h1 (by omega)
  have w2 := wrap_nat r (by omega)
  have w3 := wrap_nat (r + 1) (by omega)
  have hne : ((group : Nat) : Int) ≠ 0 := by omega
  have hne' : (((group : Nat) : Int) == 0) = false := by simp; omega
  have hm1 : (((group : Nat) : Int) == -1) = false := by simp <;> omega
  generalize r + 1 = r1 at *
  clear ea hr hh1
  go_enter Try.func103, Try.ntmps103
  go_wp2_with fail
  go_ret
  exact ⟨rfl, rfl⟩

attribute [local go_sem] Oper.semAt_some
set_option maxHeartbeats 1000000 in
theorem cut1_seq (n : Nat) (hn : 1 ≤ n) (N bs bh B0 B1 : Nat) (hs0 : B0 ≤ bs ∧ bs < B1) (hs1 : B0 ≤ bh ∧ bh < B1) (H : HV) (fv cv : Value) (k0 : Int) (hF : Fit H (.cut k0)) (w : World) (hw : BrAt w N bs bh H fv cv (.cut k0)) :
    SeqG Fence.wide n Try.prog 109 #[.pointer (some ⟨bh, 0, none⟩), .pointer (some ⟨bs, 0, none⟩)] brEnc (fun _ => SBr N B0 B1) (Nxt (brs H (.cut k0))) (fun xs => xs = brs H (.cut k0)) w := by
  intro l J Jx W hW hJ hJx hY h0
  have hA := hw.below hW
  obtain ⟨Lst, hq⟩ : ∃ Lst, brs H (.cut k0) = Lst := ⟨_, rfl⟩
  rw [hq] at hY ⊢
  have HY := hid hY
  have HJ := hid hJ
  have HKD := hid hF.2
  obtain ⟨hk1, hk8, hm20, hcs⟩ := hF.1
  refine callsIn_of_wp Try.func109 rfl trivial ?_ rfl
  simp only [Try.ntmps109, List.size_toArray, List.length_cons, List.length_nil, Nat.reduceAdd, Nat.reduceSub, Array.replicate_succ, Array.replicate_zero, List.push_toArray, List.append_toArray, List.nil_append, List.cons_append]
  obtain ⟨p, c, rfl, -⟩ := hA.hand.cards (.inr HKD.out)
  have c7 : W.cell? ⟨bh, 7, none⟩ = some (.slice p H.cards.length c) := hA.hcell 7 rfl
  obtain ⟨m, hm⟩ : ∃ m, H.cards.length = m := ⟨_, rfl⟩
  have HM := hid hm
  have HCS := hid hcs
  have HA := hid hA
  rw [hm] at c7 hm20
  have hLst : (0 ≤ k0 → Lst = []) ∧ (k0 < 0 → Lst.length = m ∧ ∀ i (hi : i < Lst.length) (hi' : i < H.cards.length), Lst[i] = (1, .cut ((H.cards[i] : Nat) : Int))) := by
    subst hq hm
    refine ⟨fun h => by simp [brs, h], fun h => ⟨by simp [brs, show ¬ 0 ≤ k0 by omega], fun i hi hi' => by simp [brs, show ¬ 0 ≤ k0 by omega]⟩⟩
  have HLST := hid hLst
  clear hY hJ hw hA hm hq hcs hLst
  gi_wp2_with fail
  gi_loopw [9] (fun ix wr => ∃ i : Nat, i ≤ m ∧ ix = .int .i64 i ∧ BrAt wr N bs bh H fv (.slice p H.cards.length c) (.cut k0) ∧ J (Lst.take i) wr ∧ (0 ≤ k0 → i = 0)) (fun ix _ => m - (intOf ix).toNat)
  case atStart => exact ⟨0, by omega, rfl, HA.out, by simpa using h0, fun _ => rfl⟩
  case round =>
    clear h0 HA c7
    obtain ⟨i, hi, rfl, hA, hj, hk0⟩ := hrel
    by_cases hlt : i < m
    · have hlt' : ((i : Nat) : Int) < m := by omega
      have hi0 : (0 : Int) ≤ i := by omega
      have hif : i < H.cards.length := by rw [HM.out]; exact hlt
      obtain ⟨p', c', hv', hc'⟩ := hA.hand.cards (.inr HKD.out)
      injection hv' with ep _ ec
      subst ep
      subst ec
      obtain ⟨b, o, rfl, hbN, f0⟩ := hc' i hif
      have hb1 := HCS.out _ (List.getElem_mem hif)
      have c0 : wr.cell? ⟨bs, 0, none⟩ = some (.int .i64 k0) := hA.scell 0 rfl
      by_cases hk : 0 ≤ k0
      · obtain rfl : i = 0 := hk0 hk
        have hl := HLST.out.1 hk
        subst hl
        have HJ0 := hid hj
        have hd : decide (0 ≤ k0) = true := by simp [hk]
        clear hA hc' hi hk0 HY HJ HLST hj
        rw [Nat.add_zero] at f0
        generalize H.cards[0] = v at *
        gi_wp2_with fail
        refine ⟨fun _ h => (by cases h), ?_⟩
        gi_wp2_with fail
        refine bodyPost_ret (results_none rfl _ _ _) rfl ?_
        exact ⟨⟨_, rfl⟩, .all [] rfl HJ0.out⟩
      · have hk : k0 < 0 := by omega
        have hd : decide (0 ≤ k0) = false := by simp; omega
        obtain ⟨hlen, hel⟩ := HLST.out.2 hk
        have hil : i < Lst.length := by rw [hlen]; exact hlt
        have hx := hel i hil hif
        have hnx : Nxt Lst (Lst.take i) Lst[i] wr := ⟨Lst.drop (i + 1), by rw [List.getElem_cons_drop, List.take_append_drop]⟩
        have hst : Lst.take i ++ [Lst[i]] = Lst.take (i + 1) := by rw [List.take_add_one, List.getElem?_eq_getElem hil]; rfl
        generalize H.cards[i] = v at *
        obtain ⟨fn, tmps, assign, body, hy, hR⟩ := HY.out _ _ _ hj hnx
        rw [hst] at hR
        rw [hx] at hy
        simp only [brEnc, encS, encT, encA] at hy
        rw [show (((1 : Nat) : Int)) = 1 from rfl] at hy
        have HA := hid hA
        have HR := hid hR
        have HK := hid hk
        clear hR hA hx hnx hst hj hi hc' hel hk0 hlen hk HLST
        gi_wp2_with fail
        refine HR.out.mono ?_
        clear HR HY HJ hy
        rintro e w3 (⟨rfl, hJ3, hk3, -⟩ | ⟨rfl, hJ3, -⟩)
        · have HA3 := hid (HA.out.kept (fun b h => .inl h) (.inr hs0) (.inr hs1) hk3)
          have HJ3 := hid hJ3
          clear hJ3 hk3 HA c0 f0
          gi_wp2_with fail
          go_roundw
          case rel => exact ⟨i + 1, by omega, by go_num, HA3.out, HJ3.out, fun h => absurd HK.out (by omega)⟩
          case measure => simp [intOf]; omega
        · have HJ3 := hid hJ3
          clear hJ3 HA c0 f0
          gi_wp2_with fail
          refine bodyPost_ret (results_none rfl _ _ _) rfl ?_
          exact ⟨⟨_, rfl⟩, .stop _ HJ3.out⟩
    · have hge : ¬ ((i : Nat) : Int) < m := by omega
      have hi2 : i = m := by omega
      have hfin : Lst.take i = Lst := by
        by_cases hk : 0 ≤ k0
        · rw [HLST.out.1 hk]; simp
        · rw [hi2, ← (HLST.out.2 (by omega)).1]; exact List.take_length
      rw [hfin] at hj
      have HJ0 := hid hj
      clear hj hfin hi2
      gi_wp2_with fail
      go_end0
      exact ⟨⟨_, rfl⟩, .all Lst rfl HJ0.out⟩
theorem asideN_le (h g : Nat) (hh : 1 ≤ h) : asideN h g ≤ h := by
  unfold asideN
  have := Nat.mod_le (h - 1) g
  omega
set_option maxHeartbeats 2000000 in
theorem divided1_seq (n : Nat) (hn : 1 ≤ n) (N bs bh B0 B1 : Nat) (hs0 : B0 ≤ bs ∧ bs < B1) (hs1 : B0 ≤ bh ∧ bh < B1) (H : HV) (fv cv : Value) (l0 n0 : Nat) (hF : Fit H (.divided l0 n0)) (w : World) (hw : BrAt w N bs bh H fv cv (.divided l0 n0)) :
    SeqG Fence.wide n Try.prog 102 #[.pointer (some ⟨bs, 0, none⟩), .pointer (some ⟨bh, 0, none⟩)] brEnc (fun _ => SBr N B0 B1) (Nxt (brs H (.divided l0 n0))) (fun xs => xs = brs H (.divided l0 n0)) w := by
  intro l J Jx W hW hJ hJx hY h0
  have hA := hw.below hW
  obtain ⟨Lst, hq⟩ : ∃ Lst, brs H (.divided l0 n0) = Lst := ⟨_, rfl⟩
  rw [hq] at hY ⊢
  have HY := hid hY
  have HJ := hid hJ
  obtain ⟨hl5, hn64, hg2, hg8⟩ := hF.1
  refine callsIn_of_wp Try.func102 rfl trivial ?_ rfl
  simp only [Try.ntmps102, List.size_toArray, List.length_cons, List.length_nil, Nat.reduceAdd, Nat.reduceSub, Array.replicate_succ, Array.replicate_zero, List.push_toArray, List.append_toArray, List.nil_append, List.cons_append]
  obtain ⟨gr, hgr⟩ : ∃ gr, H.group = gr := ⟨_, rfl⟩
  rw [hgr] at hg2 hg8
  have HG := hid hgr
  have HA := hid hA
  obtain ⟨z, hz2⟩ : ∃ z : Int, ((n0 : Nat) : Int) - 2 = z := ⟨_, rfl⟩
  have wz : IntKind.i64.wrap z = z := IntWalk.i64_in _ (by omega)
  by_cases hz : l0 = 0
  · subst hz
    have : Lst = [] := by rw [← hq]; simp [brs]
    subst this
    clear hY hJ hw hq hA
    gi_wp2_with fail
    gi_loopw [4] (fun ix wr => W = wr) (fun ix _ => 0)
    case atStart => rfl
    case round =>
      subst hrel
      have c0 : W.cell? ⟨bs, 0, none⟩ = some (.int .i64 ((0 : Nat) : Int)) := HA.out.scell 0 rfl
      gi_wp2_with fail
      go_end0
      exact ⟨⟨_, rfl⟩, .all [] rfl h0⟩
  · obtain ⟨m, hm⟩ : ∃ m, n0 - 2 = m := ⟨_, rfl⟩
    have hlen : Lst.length = m := by rw [← hq, ← hm]; simp [brs, hz]
    have hel : ∀ i (hi : i < Lst.length), Lst[i] = (1, .divided (l0 - 1) (leftN gr n0 (i + 1))) := fun i hi => by subst hq; subst hgr; simp [brs, hz]
    have HEL := hid hel
    have HLEN := hid hlen
    have HZ := hid hz2
    have hpos : decide (0 < ((l0 : Nat) : Int)) = true := by simp; omega
    have hpos' : (0 : Int) < ((l0 : Nat) : Int) := by omega
    clear hY hJ hw hA hel hlen hq hgr
    gi_wp2_with fail
    gi_loopw [4] (fun ix wr => ∃ i : Nat, i ≤ m ∧ ix = .int .i64 ((i + 1 : Nat) : Int) ∧ BrAt wr N bs bh H fv cv (.divided l0 n0) ∧ J (Lst.take i) wr) (fun ix _ => m + 1 - (intOf ix).toNat)
    case atStart => exact ⟨0, by omega, rfl, HA.out, by simpa using h0⟩
    case round =>
      clear h0 HA
      obtain ⟨i, hi, rfl, hA, hj⟩ := hrel
      have c0 : wr.cell? ⟨bs, 0, none⟩ = some (.int .i64 ((l0 : Nat) : Int)) := hA.scell 0 rfl
      have c1 : wr.cell? ⟨bs, 1, none⟩ = some (.int .i64 ((n0 : Nat) : Int)) := hA.scell 1 rfl
      have c5 : wr.cell? ⟨bh, 5, none⟩ = some (.int .i64 ((H.group : Nat) : Int)) := hA.hcell 5 rfl
      rw [HG.out] at c5
      obtain ⟨h1, hh1⟩ : ∃ h1, i + 1 = h1 := ⟨_, rfl⟩
      by_cases hlt : i < m
      · have hil : i < Lst.length := by rw [HLEN.out]; exact hlt
        have hx := HEL.out i hil
        have hnx : Nxt Lst (Lst.take i) Lst[i] wr := ⟨Lst.drop (i + 1), by rw [List.getElem_cons_drop, List.take_append_drop]⟩
        have hst : Lst.take i ++ [Lst[i]] = Lst.take (i + 1) := by rw [List.take_add_one, List.getElem?_eq_getElem hil]; rfl
        rw [hh1] at hx ⊢
        have hle : decide (((h1 : Nat) : Int) ≤ z) = true := by simp; omega
        have hle' : ((h1 : Nat) : Int) ≤ z := by omega
        have ev : ((h1 : Nat) : Int) + 1 = ((h1 + 1 : Nat) : Int) := by omega
        have wv := wrap_nat (h1 + 1) (by omega)
        have HEV := hid (show h1 + 1 = i + 1 + 1 by omega)
        obtain ⟨l1, hl1⟩ : ∃ l1, l0 - 1 = l1 := ⟨_, rfl⟩
        obtain ⟨n1, hn1⟩ : ∃ n1, n0 - 1 = n1 := ⟨_, rfl⟩
        obtain ⟨r1, hr1⟩ : ∃ r1, n0 - h1 = r1 := ⟨_, rfl⟩
        obtain ⟨rs, hrs⟩ : ∃ rs, r1 - 1 = rs := ⟨_, rfl⟩
        have ha1 := asideN_le h1 gr (by omega)
        have ha2 := asideN_le rs gr (by omega)
        have HA1 := hid (fun W => aside_c h1 gr (by omega) (by omega) W)
        have HA2 := hid (fun W => aside_c rs gr (by omega) (by omega) W)
        have hlf : leftN gr n0 h1 = n1 - asideN h1 gr - asideN rs gr := by unfold leftN; rw [hn1, hr1, hrs]
        rw [hlf, hl1] at hx
        generalize asideN h1 gr = a1 at *
        generalize asideN rs gr = a2 at *
        obtain ⟨b1, hb1⟩ : ∃ b1, n1 - a1 = b1 := ⟨_, rfl⟩
        obtain ⟨b2, hb2⟩ : ∃ b2, b1 - a2 = b2 := ⟨_, rfl⟩
        rw [hb1, hb2] at hx
        have e1 : ((n0 : Nat) : Int) - ((h1 : Nat) : Int) = ((r1 : Nat) : Int) := by omega
        have e2 : ((r1 : Nat) : Int) - 1 = ((rs : Nat) : Int) := by omega
        have w1 := wrap_nat r1 (by omega)
        have w2 := wrap_nat rs (by omega)
        have HL1 := hid (show IntKind.i64.wrap (((l0 : Nat) : Int) - 1) = ((l1 : Nat) : Int) by rw [show ((l0 : Nat) : Int) - 1 = ((l1 : Nat) : Int) by omega]; exact wrap_nat l1 (by omega))
        have HN1 := hid (show IntKind.i64.wrap (((n0 : Nat) : Int) - 1) = ((n1 : Nat) : Int) by rw [show ((n0 : Nat) : Int) - 1 = ((n1 : Nat) : Int) by omega]; exact wrap_nat n1 (by omega))
        have HB1 := hid (show IntKind.i64.wrap (((n1 : Nat) : Int) - ((a1 : Nat) : Int)) = ((b1 : Nat) : Int) by rw [show ((n1 : Nat) : Int) - ((a1 : Nat) : Int) = ((b1 : Nat) : Int) by omega]; exact wrap_nat b1 (by omega))
        have HB2 := hid (show IntKind.i64.wrap (((b1 : Nat) : Int) - ((a2 : Nat) : Int)) = ((b2 : Nat) : Int) by rw [show ((b1 : Nat) : Int) - ((a2 : Nat) : Int) = ((b2 : Nat) : Int) by omega]; exact wrap_nat b2 (by omega))
        have hdr : Below wr.heap.size wr wr.drew := ⟨rfl, rfl, rfl, Nat.le_refl _, fun _ _ => rfl⟩
        obtain ⟨fn, tmps, assign, body, hy, hR⟩ := HY.out _ _ _ (HJ.out _ _ _ hj hdr) hnx
        rw [hst] at hR
        rw [hx] at hy
        simp only [brEnc, encS, encT, encA] at hy
        rw [show (((1 : Nat) : Int)) = 1 from rfl] at hy
        have HA := hid (hA.below hdr)
        have HR := hid hR
        clear hR hA hx hnx hst hj hi hlf hb1 hb2 hn1 hr1 hrs hl1 ha1 ha2 hz hh1 hm
        generalize h1 + 1 = h2 at *
        gi_wp2_with fail
        refine wpIn_quiet_tail (lets_wide) 19 (by kernel_rfl) (by kernel_rfl) (by kernel_rfl) (fun V => V = wr.drew) (rfl) ?_
        simp only [List.take_succ_cons, List.take_zero, List.drop_succ_cons, List.drop_zero]
        refine qvalK (.func (.yield l) #[] #[]) rfl (fun W hW => by rfl) (fun K hK => ?_)
        go_simp
        refine hK _ ?_
        clear hK K
        refine qvalK (.pointer (some ⟨bs, 0, none⟩)) rfl (fun W hW => by go_simp) (fun K hK => ?_)
        go_simp
        refine hK _ ?_
        clear hK K
        refine qvalK (.int .i64 ((l0 : Nat) : Int)) rfl (fun W hW => by subst hW; have hc := c0; go_simp) (fun K hK => ?_)
        go_simp
        refine hK _ ?_
        clear hK K
        refine qvalK (.int .i64 ((l1 : Nat) : Int)) rfl (fun W hW => by go_simp; exact HL1.out) (fun K hK => ?_)
        go_simp
        refine hK _ ?_
        clear hK K
        refine qvalK (.pointer (some ⟨bs, 1, none⟩)) rfl (fun W hW => by go_simp) (fun K hK => ?_)
        go_simp
        refine hK _ ?_
        clear hK K
        refine qvalK (.int .i64 ((n0 : Nat) : Int)) rfl (fun W hW => by subst hW; have hc := c1; go_simp) (fun K hK => ?_)
        go_simp
        refine hK _ ?_
        clear hK K
        refine qvalK (.int .i64 ((n1 : Nat) : Int)) rfl (fun W hW => by go_simp; exact HN1.out) (fun K hK => ?_)
        go_simp
        refine hK _ ?_
        clear hK K
        refine qvalK (.int .i64 ((h1 : Nat) : Int)) rfl (fun W hW => by rfl) (fun K hK => ?_)
        go_simp
        refine hK _ ?_
        clear hK K
        refine qvalK (.pointer (some ⟨bh, 5, none⟩)) rfl (fun W hW => by go_simp) (fun K hK => ?_)
        go_simp
        refine hK _ ?_
        clear hK K
        refine qvalK (.int .i64 ((gr : Nat) : Int)) rfl (fun W hW => by subst hW; have hc := c5; go_simp) (fun K hK => ?_)
        go_simp
        refine hK _ ?_
        clear hK K
        refine qcallK (.int .i64 ((a1 : Nat) : Int)) 103 #[.int .i64 ((h1 : Nat) : Int), .int .i64 ((gr : Nat) : Int)] rfl (fun W => by kernel_rfl) (fun W hW => by subst hW; exact (HA1.out _).mono fun _ _ h => ⟨h.1, h.2.symm⟩) (fun K hK => ?_)
        go_simp
        refine hK _ ?_
        clear hK K
        refine qvalK (.int .i64 ((b1 : Nat) : Int)) rfl (fun W hW => by go_simp; exact HB1.out) (fun K hK => ?_)
        go_simp
        refine hK _ ?_
        clear hK K
        refine qvalK (.int .i64 ((rs : Nat) : Int)) rfl (fun W hW => by rfl) (fun K hK => ?_)
        go_simp
        refine hK _ ?_
        clear hK K
        refine qvalK (.pointer (some ⟨bh, 5, none⟩)) rfl (fun W hW => by go_simp) (fun K hK => ?_)
        go_simp
        refine hK _ ?_
        clear hK K
        refine qvalK (.int .i64 ((gr : Nat) : Int)) rfl (fun W hW => by subst hW; have hc := c5; go_simp) (fun K hK => ?_)
        go_simp
        refine hK _ ?_
        clear hK K
        refine qcallK (.int .i64 ((a2 : Nat) : Int)) 103 #[.int .i64 ((rs : Nat) : Int), .int .i64 ((gr : Nat) : Int)] rfl (fun W => by kernel_rfl) (fun W hW => by subst hW; exact (HA2.out _).mono fun _ _ h => ⟨h.1, h.2.symm⟩) (fun K hK => ?_)
        go_simp
        refine hK _ ?_
        clear hK K
        refine qvalK (.int .i64 ((b2 : Nat) : Int)) rfl (fun W hW => by go_simp; exact HB2.out) (fun K hK => ?_)
        go_simp
        refine hK _ ?_
        clear hK K
        refine qvalK (.agg #[.int .i64 ((l1 : Nat) : Int), .int .i64 ((b2 : Nat) : Int)]) rfl (fun W hW => by go_simp) (fun K hK => ?_)
        go_simp
        refine hK _ ?_
        clear hK K
        refine qvalK (.iface 102 (.agg #[.int .i64 ((l1 : Nat) : Int), .int .i64 ((b2 : Nat) : Int)])) rfl (fun W hW => by go_simp) (fun K hK => ?_)
        go_simp
        refine hK _ ?_
        clear hK K
        refine wpQuiet_nil ?_
        intro V hW
        subst hW
        clear HL1 HN1 HB1 HB2 HA1 HA2
        gi_wp2_with fail
        refine HR.out.mono ?_
        clear HR HY HJ hy
        rintro e w3 (⟨rfl, hJ3, hk3, -⟩ | ⟨rfl, hJ3, -⟩)
        · have HA3 := hid (HA.out.kept (fun b h => .inl h) (.inr hs0) (.inr hs1) hk3)
          have HJ3 := hid hJ3
          clear hJ3 hk3 HA c0 c1 c5
          gi_wp2_with fail
          go_roundw
          case rel => exact ⟨i + 1, by omega, by rw [HEV.out], HA3.out, HJ3.out⟩
          case measure => have := HEV.out; simp [intOf]; omega
        · have HJ3 := hid hJ3
          clear hJ3 HA c0 c1 c5
          gi_wp2_with fail
          refine bodyPost_ret (results_none rfl _ _ _) rfl ?_
          exact ⟨⟨_, rfl⟩, .stop _ HJ3.out⟩
      · have hi2 : i = m := by omega
        rw [hh1]
        have hle : decide (((h1 : Nat) : Int) ≤ z) = false := by simp; omega
        have hle' : ¬ ((h1 : Nat) : Int) ≤ z := by omega
        have hfin : Lst.take i = Lst := by rw [hi2, ← HLEN.out]; exact List.take_length
        rw [hfin] at hj
        have HJ0 := hid hj
        clear hj hA hfin hi2 hh1 hm
        gi_wp2_with fail
        go_end0
        exact ⟨⟨_, rfl⟩, .all Lst rfl HJ0.out⟩
end Go.Proofs.Ytmjnelkeiogdcaa
