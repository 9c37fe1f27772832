/- Walks of package hand: the branches of cards that are drawn. -/
import Derived.Test.YtmjnelkeiogdcaaHC
namespace Go.Proofs.Ytmjnelkeiogdcaa
open Go Go.RowKit Go.Shelf
set_option maxRecDepth 100000

theorem range_split (m i : Nat) (h : i < m) : ∃ rest, List.range m = List.range i ++ i :: rest := by
  refine ⟨(List.range m).drop (i + 1), ?_⟩
  have h1 : (List.range m).take i = List.range i := by rw [List.take_range]; congr 1; omega
  have h2 : (List.range m).drop i = i :: (List.range m).drop (i + 1) := by
    rw [List.drop_eq_getElem_cons (by simpa using h)]
    simp
  rw [← h1, ← h2, List.take_append_drop]
theorem bits_nat32 (a : Nat) (ha : a < 4294967296) : (BitVec.ofInt 32 ((a : Nat) : Int)).toNat = a := by
  rw [BitVec.ofInt_natCast, BitVec.toNat_ofNat]
  exact Nat.mod_eq_of_lt ha
theorem wrap_nat32 (a : Nat) (h : a < 4294967296) : IntKind.u32.wrap (a : Int) = a := by
  show ((a : Int) % 4294967296) = a
  omega
theorem u32_and (a b : Nat) (ha : a < 4294967296) (hb : b < 4294967296) : bits .and .u32 (a : Int) (b : Int) = ((a &&& b : Nat) : Int) := by
  show IntKind.u32.wrap (((BitVec.ofInt 32 (a : Int) &&& BitVec.ofInt 32 (b : Int)).toNat : Nat) : Int) = _
  rw [BitVec.toNat_and, bits_nat32 a ha, bits_nat32 b hb]
  exact wrap_nat32 _ (Nat.lt_of_le_of_lt Nat.and_le_left ha)
theorem u32_or (a b : Nat) (ha : a < 4294967296) (hb : b < 4294967296) : bits .or .u32 (a : Int) (b : Int) = ((a ||| b : Nat) : Int) := by
  show IntKind.u32.wrap (((BitVec.ofInt 32 (a : Int) ||| BitVec.ofInt 32 (b : Int)).toNat : Nat) : Int) = _
  rw [BitVec.toNat_or, bits_nat32 a ha, bits_nat32 b hb]
  exact wrap_nat32 _ (Nat.or_lt_two_pow (n := 32) ha hb)
theorem gone_bit (g i : Nat) (hg : g < 4294967296) : (bits .and .u32 (((g : Nat) : Int) / 2 ^ i) 1 == 1) = g.testBit i := by
  have e1 : ((g : Nat) : Int) / 2 ^ i = ((g / 2 ^ i : Nat) : Int) := by push_cast; rfl
  have hlt : g / 2 ^ i < 4294967296 := Nat.lt_of_le_of_lt (Nat.div_le_self _ _) hg
  rw [e1, show (1 : Int) = ((1 : Nat) : Int) from rfl, u32_and _ 1 hlt (by omega), Nat.and_one_is_mod, Nat.testBit_eq_decide_div_mod_eq]
  have := Nat.mod_lt (g / 2 ^ i) (show 0 < 2 by omega)
  rw [Bool.eq_iff_iff]
  simp
  omega
theorem shr_bit (g i : Nat) : g / 2 ^ i % 2 = if g.testBit i then 1 else 0 := by
  rw [Nat.testBit_eq_decide_div_mod_eq]
  have : g / 2 ^ i % 2 < 2 := Nat.mod_lt _ (by omega)
  split
  · rename_i h; simpa using h
  · rename_i h
    have : ¬ g / 2 ^ i % 2 = 1 := by simpa using h
    omega
attribute [local go_sem] Oper.semAt_some
set_option maxHeartbeats 2000000 in
theorem drawn1_seq (n : Nat) (hn : 1 ≤ n) (N bs bh B0 B1 : Nat) (hs0 : B0 ≤ bs ∧ bs < B1) (hs1 : B0 ≤ bh ∧ bh < B1) (H : HV) (fv cv : Value) (l0 g0 k0 : Nat) (hF : Fit H (.drawn l0 g0 k0)) (w : World) (hw : BrAt w N bs bh H fv cv (.drawn l0 g0 k0)) :
    SeqG Fence.wide n Try.prog 106 #[.pointer (some ⟨bh, 0, none⟩), .pointer (some ⟨bs, 0, none⟩)] brEnc (fun _ => SBr N B0 B1) (Nxt (brs H (.drawn l0 g0 k0))) (fun xs => xs = brs H (.drawn l0 g0 k0)) w := by
  intro l J Jx W hW hJ hJx hY h0
  have hA := hw.below hW
  obtain ⟨Lst, hq⟩ : ∃ Lst, brs H (.drawn l0 g0 k0) = Lst := ⟨_, rfl⟩
  rw [hq] at hY ⊢
  have HY := hid hY
  have HJ := hid hJ
  have HKD := hid hF.2
  obtain ⟨hl4, hg20, hk, hm20, hcs⟩ := hF.1
  refine callsIn_of_wp Try.func106 rfl trivial ?_ rfl
  simp only [Try.ntmps106, List.size_toArray, List.length_cons, List.length_nil, Nat.reduceAdd, Nat.reduceSub, Array.replicate_succ, Array.replicate_zero, List.push_toArray, List.append_toArray, List.nil_append, List.cons_append]
  obtain ⟨p, c, rfl, -⟩ := hA.hand.cards (.inl HKD.out)
  have c7 : W.cell? ⟨bh, 7, none⟩ = some (.slice p H.cards.length c) := hA.hcell 7 rfl
  obtain ⟨m, hm⟩ : ∃ m, H.cards.length = m := ⟨_, rfl⟩
  obtain ⟨F, hF⟩ : ∃ F : Nat → Nat × St, F = fun i => (1, .drawn (l0 - 1) (g0 ||| 2 ^ i) (k0 * 8 + H.cards.getD i 0)) := ⟨_, rfl⟩
  obtain ⟨tk, htk⟩ : ∃ tk : Nat → Bool, tk = fun i => decide (l0 ≠ 0) && !g0.testBit i := ⟨_, rfl⟩
  have hL : Lst = ((List.range m).filter tk).map F := by
    subst hq hm hF htk
    unfold brs
    by_cases h : l0 = 0
    · simp [h]
    · simp [h]
  have HM := hid hm
  have HCS := hid hcs
  have HA := hid hA
  have HL := hid hL
  have HF := hid hF
  have HTK := hid htk
  rw [hm] at c7 hm20
  clear hY hJ hw hA hm hq hcs hL hF htk
  gi_wp2_with fail
  gi_loopw [9] (fun ix wr => ∃ i : Nat, i ≤ m ∧ ix = .int .i64 i ∧ BrAt wr N bs bh H fv (.slice p H.cards.length c) (.drawn l0 g0 k0) ∧ J (((List.range i).filter tk).map F) wr) (fun ix _ => m - (intOf ix).toNat)
  case atStart => exact ⟨0, by omega, rfl, HA.out, by simpa using h0⟩
  case round =>
    clear h0 HA c7
    obtain ⟨i, hi, rfl, hA, hj⟩ := hrel
    by_cases hlt : i < m
    · have hlt' : ((i : Nat) : Int) < m := by omega
      have hi0 : (0 : Int) ≤ i := by omega
      have hi64 : ((i : Nat) : Int) ≤ 64 := by omega
      have hif : i < H.cards.length := by rw [HM.out]; exact hlt
      obtain ⟨p', c', hv', hc'⟩ := hA.hand.cards (.inl HKD.out)
      injection hv' with ep _ ec
      subst ep
      subst ec
      obtain ⟨b, o, rfl, hbN, f0⟩ := hc' i hif
      have hb1 := HCS.out _ (List.getElem_mem hif)
      have hgd : H.cards.getD i 0 = H.cards[i] := by simp [hif]
      have hFi : F i = (1, .drawn (l0 - 1) (g0 ||| 2 ^ i) (k0 * 8 + H.cards[i])) := by rw [HF.out]; simp only [hgd]
      generalize H.cards[i] = v at *
      have c0 : wr.cell? ⟨bs, 0, none⟩ = some (.int .i64 ((l0 : Nat) : Int)) := hA.scell 0 rfl
      have c1 : wr.cell? ⟨bs, 1, none⟩ = some (.int .u32 ((g0 : Nat) : Int)) := hA.scell 1 rfl
      have c2 : wr.cell? ⟨bs, 2, none⟩ = some (.int .i64 ((k0 : Nat) : Int)) := hA.scell 2 rfl
      have hsuc : List.range (i + 1) = List.range i ++ [i] := List.range_succ
      by_cases hz : l0 = 0
      · subst hz
        have htf : tk i = false := by rw [HTK.out]; simp
        have HJ0 := hid (show J (((List.range (i + 1)).filter tk).map F) wr by rw [hsuc]; simpa [htf] using hj)
        have HA := hid hA
        clear hA hj hc' hi hFi hgd hsuc htf HF
        gi_wp2_with fail
        go_roundw
        case rel => exact ⟨i + 1, by omega, by go_num, HA.out, HJ0.out⟩
        case measure => simp [intOf]; omega
      · have hz' : (((l0 : Nat) : Int) == 0) = false := by simp; exact hz
        have hgb := gone_bit g0 i (by omega)
        cases hb : g0.testBit i with
        | true =>
          rw [hb] at hgb
          have htf : tk i = false := by rw [HTK.out]; simp [hb]
          have HJ0 := hid (show J (((List.range (i + 1)).filter tk).map F) wr by rw [hsuc]; simpa [htf] using hj)
          have HA := hid hA
          clear hA hj hc' hi hFi hgd hsuc htf HF hb
          gi_wp2_with fail
          go_roundw
          case rel => exact ⟨i + 1, by omega, by go_num, HA.out, HJ0.out⟩
          case measure => simp [intOf]; omega
        | false =>
          rw [hb] at hgb
          have htf : tk i = true := by rw [HTK.out]; simp [hb, hz]
          obtain ⟨rest, hrest⟩ := range_split m i hlt
          have hnx : Nxt Lst (((List.range i).filter tk).map F) (F i) wr := ⟨(rest.filter tk).map F, by rw [HL.out, hrest]; simp [htf]⟩
          have hst : ((List.range i).filter tk).map F ++ [F i] = ((List.range (i + 1)).filter tk).map F := by rw [hsuc]; simp [htf]
          have hp20 : 2 ^ i < 2 ^ 20 := Nat.pow_lt_pow_right (by omega) (by omega)
          have hor : g0 ||| 2 ^ i < 4294967296 := Nat.lt_of_lt_of_le (Nat.or_lt_two_pow (n := 20) hg20 hp20) (by decide)
          have hk8 : k0 < 32768 := Nat.lt_of_lt_of_le hk (Nat.pow_le_pow_right (by omega) (show 5 - l0 ≤ 5 by omega))
          obtain ⟨l1, hl1⟩ : ∃ l1, l0 - 1 = l1 := ⟨_, rfl⟩
          obtain ⟨k9, hk9⟩ : ∃ k9, k0 * 8 + v = k9 := ⟨_, rfl⟩
          obtain ⟨k8, hk88⟩ : ∃ k8, k0 * 8 = k8 := ⟨_, rfl⟩
          have HG1 := hid (u32_or g0 (2 ^ i) (by omega) (by omega))
          have HP2 := hid (show IntKind.u32.wrap ((2 : Int) ^ i) = ((2 ^ i : Nat) : Int) by rw [show (2 : Int) ^ i = ((2 ^ i : Nat) : Int) by push_cast; rfl]; exact wrap_nat32 _ (by omega))
          rw [hl1, hk9] at hFi
          generalize g0 ||| 2 ^ i = g1 at *
          generalize 2 ^ i = p2 at *
          have HL1 := hid (show IntKind.i64.wrap (((l0 : Nat) : Int) - 1) = ((l1 : Nat) : Int) by rw [show ((l0 : Nat) : Int) - 1 = ((l1 : Nat) : Int) by omega]; exact wrap_nat l1 (by omega))
          have HK8 := hid (show IntKind.i64.wrap (((k0 : Nat) : Int) * 8) = ((k8 : Nat) : Int) by rw [show ((k0 : Nat) : Int) * 8 = ((k8 : Nat) : Int) by omega]; exact wrap_nat k8 (by omega))
          have HK9 := hid (show IntKind.i64.wrap (((k8 : Nat) : Int) + ((v : Nat) : Int)) = ((k9 : Nat) : Int) by rw [show ((k8 : Nat) : Int) + ((v : Nat) : Int) = ((k9 : Nat) : Int) by omega]; exact wrap_nat k9 (by omega))
          have hdr : Below wr.heap.size wr wr.drew := ⟨rfl, rfl, rfl, Nat.le_refl _, fun _ _ => rfl⟩
          obtain ⟨fn, tmps, assign, body, hy, hR⟩ := HY.out _ _ _ (HJ.out _ _ _ hj hdr) hnx
          rw [hst] at hR
          rw [hFi] at hy
          simp only [brEnc, encS, encT, encA] at hy
          rw [show (((1 : Nat) : Int)) = 1 from rfl] at hy
          have HA := hid (hA.below hdr)
          have HR := hid hR
          clear hR hA hFi hnx hst hj hi hc' hgd hsuc htf HF hrest hp20 hor hk8 hl1 hk9 hk88 hz hk hb
          gi_wp2_with fail
          refine wpIn_quiet_tail (lets_wide) 16 (by kernel_rfl) (by kernel_rfl) (by kernel_rfl) (fun V => V = wr.drew) (rfl) ?_
          simp only [List.take_succ_cons, List.take_zero, List.drop_succ_cons, List.drop_zero]
          refine qvalK (.func (.yield l) #[] #[]) rfl (fun W hW => by rfl) (fun K hK => ?_)
          go_simp
          refine hK _ ?_
          clear hK K
          refine qvalK (.pointer (some ⟨bs, 0, none⟩)) rfl (fun W hW => by go_simp) (fun K hK => ?_)
          go_simp
          refine hK _ ?_
          clear hK K
          refine qvalK (.int .i64 ((l0 : Nat) : Int)) rfl (fun W hW => by subst hW; have hc := c0; go_simp) (fun K hK => ?_)
          go_simp
          refine hK _ ?_
          clear hK K
          refine qvalK (.int .i64 ((l1 : Nat) : Int)) rfl (fun W hW => by go_simp; exact HL1.out) (fun K hK => ?_)
          go_simp
          refine hK _ ?_
          clear hK K
          refine qvalK (.pointer (some ⟨bs, 1, none⟩)) rfl (fun W hW => by go_simp) (fun K hK => ?_)
          go_simp
          refine hK _ ?_
          clear hK K
          refine qvalK (.int .u32 ((g0 : Nat) : Int)) rfl (fun W hW => by subst hW; have hc := c1; go_simp) (fun K hK => ?_)
          go_simp
          refine hK _ ?_
          clear hK K
          refine qvalK (.int .i64 ((i : Nat) : Int)) rfl (fun W hW => by rfl) (fun K hK => ?_)
          go_simp
          refine hK _ ?_
          clear hK K
          refine qvalK (.int .u32 ((p2 : Nat) : Int)) rfl (fun W hW => by go_simp; exact HP2.out) (fun K hK => ?_)
          go_simp
          refine hK _ ?_
          clear hK K
          refine qvalK (.int .u32 ((g1 : Nat) : Int)) rfl (fun W hW => by go_simp; exact HG1.out) (fun K hK => ?_)
          go_simp
          refine hK _ ?_
          clear hK K
          refine qvalK (.pointer (some ⟨bs, 2, none⟩)) rfl (fun W hW => by go_simp) (fun K hK => ?_)
          go_simp
          refine hK _ ?_
          clear hK K
          refine qvalK (.int .i64 ((k0 : Nat) : Int)) rfl (fun W hW => by subst hW; have hc := c2; go_simp) (fun K hK => ?_)
          go_simp
          refine hK _ ?_
          clear hK K
          refine qvalK (.int .i64 ((k8 : Nat) : Int)) rfl (fun W hW => by go_simp; exact HK8.out) (fun K hK => ?_)
          go_simp
          refine hK _ ?_
          clear hK K
          refine qvalK (.int .i64 ((v : Nat) : Int)) rfl (fun W hW => by rfl) (fun K hK => ?_)
          go_simp
          refine hK _ ?_
          clear hK K
          refine qvalK (.int .i64 ((k9 : Nat) : Int)) rfl (fun W hW => by go_simp; exact HK9.out) (fun K hK => ?_)
          go_simp
          refine hK _ ?_
          clear hK K
          refine qvalK (.agg #[.int .i64 ((l1 : Nat) : Int), .int .u32 ((g1 : Nat) : Int), .int .i64 ((k9 : Nat) : Int)]) rfl (fun W hW => by go_simp) (fun K hK => ?_)
          go_simp
          refine hK _ ?_
          clear hK K
          refine qvalK (.iface 105 (.agg #[.int .i64 ((l1 : Nat) : Int), .int .u32 ((g1 : Nat) : Int), .int .i64 ((k9 : Nat) : Int)])) rfl (fun W hW => by go_simp) (fun K hK => ?_)
          go_simp
          refine hK _ ?_
          clear hK K
          refine wpQuiet_nil ?_
          intro V hW
          subst hW
          clear HL1 HK8 HK9 HG1 HP2
          gi_wp2_with fail
          refine HR.out.mono ?_
          clear HR HY HJ hy
          rintro e w3 (⟨rfl, hJ3, hk3, -⟩ | ⟨rfl, hJ3, -⟩)
          · have HA3 := hid (HA.out.kept (fun b h => .inl h) (.inr hs0) (.inr hs1) hk3)
            have HJ3 := hid hJ3
            clear hJ3 hk3 HA c0 c1 c2 f0
            gi_wp2_with fail
            go_roundw
            case rel => exact ⟨i + 1, by omega, by go_num, HA3.out, HJ3.out⟩
            case measure => simp [intOf]; omega
          · have HJ3 := hid hJ3
            clear hJ3 HA c0 c1 c2 f0
            gi_wp2_with fail
            refine bodyPost_ret (results_none rfl _ _ _) rfl ?_
            exact ⟨⟨_, rfl⟩, .stop _ HJ3.out⟩
    · have hge : ¬ ((i : Nat) : Int) < m := by omega
      have hi2 : i = m := by omega
      rw [hi2, ← HL.out] at hj
      have HJ0 := hid hj
      clear hj hi2
      gi_wp2_with fail
      go_end0
      exact ⟨⟨_, rfl⟩, .all Lst rfl HJ0.out⟩
end Go.Proofs.Ytmjnelkeiogdcaa
