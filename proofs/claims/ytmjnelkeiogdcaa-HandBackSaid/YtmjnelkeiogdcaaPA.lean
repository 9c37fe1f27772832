/- The plain law of hands: the outcomes are below their number. -/
import Derived.Test.YtmjnelkeiogdcaaP9
namespace Go.Proofs.Ytmjnelkeiogdcaa
open Go
set_option maxRecDepth 100000

theorem top_ge (F : List (Nat × Nat)) : ∀ (n : Nat), n ≤ F.length → ∀ i (hi : i < F.length), i < n → F[i].1 ≤ topN F n
  | n + 1, hn, i, hi, h => by
    rw [topN_step F n (by omega)]
    by_cases e : i = n
    · subst e; omega
    · have := top_ge F n (by omega) i hi (by omega)
      omega
theorem outs_le (H : HV) (h : Okh H) : 1 ≤ outsN H ∧ outsN H ≤ 4096 := by
  unfold outsN
  rcases h with ⟨hk, h1, h2, h3, h4, h5⟩ | ⟨hk, h1, h2, h3⟩ | ⟨hk, h1, h2, h3, h4, h5, h6⟩ | ⟨hk, h1, h2, h3, h4, h5⟩ | ⟨hk, h1, h2, h3⟩
  · rw [if_pos hk]
    have h6 := topN_le H.faces 40 (fun f hf => (h5 f hf).1) H.faces.length
    have h7 := Nat.mul_le_mul h2 h6
    omega
  · simp [hk]
  · simp only [hk]
    have := Nat.div_le_self H.count H.group
    simp
    omega
  · simp only [hk]
    have h7 : 8 ^ H.count ≤ 8 ^ 4 := Nat.pow_le_pow_right (by omega) h2
    have h8 : 0 < 8 ^ H.count := Nat.pow_pos (by omega)
    simp
    omega
  · simp [hk]
theorem out_range (H : HV) (h : Okh H) (k : Nat) (s : St) (hr : Reach H (beginS H) k s) (hd : dep s = 0) : 0 ≤ outN H s ∧ outN H s < ((outsN H : Nat) : Int) := by
  unfold outsN
  rcases h with ⟨hk, h1, h2, h3, h4, h5⟩ | ⟨hk, h1, h2, h3⟩ | ⟨hk, h1, h2, h3, h4, h5, h6⟩ | ⟨hk, h1, h2, h3, h4, h5⟩ | ⟨hk, h1, h2, h3⟩
  · rw [if_pos hk]
    have hb : beginS H = .thrown H.count 0 := by simp [beginS, hk]
    rw [hb] at hr
    obtain ⟨l, m, rfl, hl, hm⟩ := reach_inv (fun s => ∃ l m, s = .thrown l m ∧ l ≤ H.count ∧ m + l * topN H.faces H.faces.length ≤ H.count * topN H.faces H.faces.length) ⟨H.count, 0, rfl, Nat.le_refl _, by omega⟩ (by
      rintro s ⟨l, m, rfl, hl, hm⟩ x hx
      simp only [brs] at hx
      by_cases h0 : l = 0
      · simp [h0] at hx
      · rw [if_neg h0] at hx
        obtain ⟨f, hf, rfl⟩ := List.mem_map.1 hx
        obtain ⟨i, hi, rfl⟩ := List.getElem_of_mem hf
        refine ⟨_, _, rfl, by omega, ?_⟩
        have := top_ge H.faces _ (Nat.le_refl _) i hi hi
        have e : l * topN H.faces H.faces.length = (l - 1) * topN H.faces H.faces.length + topN H.faces H.faces.length := by
          conv => lhs; rw [show l = (l - 1) + 1 by omega]
          rw [Nat.add_mul, Nat.one_mul]
        omega) k s hr
    simp only [dep] at hd
    subst hd
    simp only [outN]
    omega
  · have hb : beginS H = .marked 0 := by simp [beginS, hk]
    rw [hb] at hr
    obtain ⟨m, rfl⟩ := reach_inv (fun s => ∃ m, s = .marked m) ⟨0, rfl⟩ (by
      rintro s ⟨m, rfl⟩ x hx
      simp only [brs] at hx
      by_cases h0 : m = 0
      · rw [if_pos h0] at hx
        obtain ⟨i, hi, rfl⟩ := List.mem_map.1 hx
        exact ⟨_, rfl⟩
      · simp [h0] at hx) k s hr
    simp only [hk, outN]
    simp
    omega
  · have hb : beginS H = .divided H.changes H.count := by simp [beginS, hk]
    rw [hb] at hr
    obtain ⟨l, m, rfl, hm⟩ := reach_inv (fun s => ∃ l m, s = .divided l m ∧ m ≤ H.count) ⟨_, _, rfl, Nat.le_refl _⟩ (by
      rintro s ⟨l, m, rfl, hm⟩ x hx
      simp only [brs] at hx
      by_cases h0 : l = 0
      · simp [h0] at hx
      · rw [if_neg h0] at hx
        obtain ⟨i, hi, rfl⟩ := List.mem_map.1 hx
        refine ⟨_, _, rfl, ?_⟩
        have := leftN_le H.group m (i + 1)
        omega) k s hr
    have hz := Nat.div_le_div_right (c := H.group) hm
    simp only [hk, outN]
    simp only [show ¬ (3 : Nat) = 1 by decide, show ¬ (3 : Nat) = 2 by decide, if_true, if_false]
    obtain ⟨q1, hq1⟩ : ∃ q, m / H.group = q := ⟨_, rfl⟩
    obtain ⟨q2, hq2⟩ : ∃ q, H.count / H.group = q := ⟨_, rfl⟩
    rw [hq1, hq2] at hz
    rw [hq1, hq2]
    omega
  · have hb : beginS H = .drawn H.count 0 0 := by simp [beginS, hk]
    rw [hb] at hr
    obtain ⟨l, g, m, rfl, hl, hm⟩ := reach_inv (fun s => ∃ l g m, s = .drawn l g m ∧ l ≤ H.count ∧ m < 8 ^ (H.count - l)) ⟨_, _, _, rfl, Nat.le_refl _, by simp⟩ (by
      rintro s ⟨l, g, m, rfl, hl, hm⟩ x hx
      simp only [brs] at hx
      by_cases h0 : l = 0
      · simp [h0] at hx
      · rw [if_neg h0] at hx
        obtain ⟨i, hi, rfl⟩ := List.mem_map.1 hx
        have hi' : i < H.cards.length := by simpa using (List.mem_filter.1 hi).1
        refine ⟨_, _, _, rfl, by omega, ?_⟩
        have hc := h5 (H.cards.getD i 0) (by rw [List.getD_eq_getElem?_getD, List.getElem?_eq_getElem hi']; exact List.getElem_mem hi')
        rw [show H.count - (l - 1) = (H.count - l) + 1 by omega, Nat.pow_succ]
        omega) k s hr
    simp only [dep] at hd
    subst hd
    simp only [hk, outN]
    simp only [Nat.sub_zero] at hm
    simp only [show ¬ (4 : Nat) = 1 by decide, show ¬ (4 : Nat) = 2 by decide, show ¬ (4 : Nat) = 3 by decide, if_true, if_false]
    obtain ⟨q2, hq2⟩ : ∃ q, 8 ^ H.count = q := ⟨_, rfl⟩
    rw [hq2] at hm
    rw [hq2]
    omega
  · have hb : beginS H = .cut (-1) := by simp [beginS, hk]
    rw [hb] at hr
    obtain ⟨c, rfl, hc⟩ := reach_inv (fun s => ∃ c, s = .cut c ∧ c < 8) ⟨_, rfl, by decide⟩ (by
      rintro s ⟨c, rfl, hc⟩ x hx
      simp only [brs] at hx
      by_cases h0 : 0 ≤ c
      · simp [h0] at hx
      · rw [if_neg h0] at hx
        obtain ⟨i, hi, rfl⟩ := List.mem_map.1 hx
        have := h3 i hi
        exact ⟨_, rfl, by omega⟩) k s hr
    simp only [dep] at hd
    have hc0 : 0 ≤ c := Classical.byContradiction fun h => by rw [if_neg h] at hd; cases hd
    simp only [hk, outN]
    simp
    omega
theorem outAdd_le (H : HV) (s0 : St) (hF : Fit H s0) (hl : Last H s0) (k : Nat) (vis : List St) (hn : vis.Nodup) (o : Nat) : outAdd H (fw H s0 k) vis o ≤ dnK H s0 k := by
  have h1 := sum_nodup_le (fwd H s0 k) vis hn
  have h2 := fwd_total H s0 hF hl k
  have h3 : outAdd H (fw H s0 k) vis o ≤ (vis.map (sumAt (fwd H s0 k))).sum := by
    unfold outAdd
    refine sum_mono _ _ _ fun s _ => ?_
    split
    · exact Nat.le_refl _
    · exact Nat.zero_le _
  omega
/-- What the complete states of a layer add: all, or nothing. -/
theorem out_layer (H : HV) (s0 : St) (hF : Fit H s0) (k : Nat) (vis : List (St × Int)) (hn : (vis.map Prod.fst).Nodup) (hL : ∀ s, s ∈ vis.map Prod.fst ↔ Reach H s0 k s) (o : Nat) :
    (if dep s0 < k then rawW H s0 o else 0) + outAdd H (fw H s0 k) (vis.map Prod.fst) o = if dep s0 < k + 1 then rawW H s0 o else 0 := by
  have hd : ∀ s ∈ vis.map Prod.fst, dep s + k = dep s0 := fun s hs => (reach_fit H s0 hF k s ((hL s).1 hs)).2
  rcases Nat.lt_trichotomy (dep s0) k with h | h | h
  · rw [if_pos h, if_pos (by omega)]
    have : vis.map Prod.fst = [] := List.eq_nil_iff_forall_not_mem.2 fun s hs => by have := hd s hs; omega
    rw [this]
    simp [outAdd]
  · rw [if_neg (by omega), if_pos (by omega), Nat.zero_add]
    subst h
    exact out_full H s0 hF _ hn (fun s => (hL s).symm) o
  · rw [if_neg (by omega), if_neg (by omega), Nat.zero_add]
    exact out_zero H _ _ o fun s hs => by have := hd s hs; omega
theorem reach_some (H : HV) (s0 : St) (hF : Fit H s0) (hl : Last H s0) : ∀ k, k ≤ dep s0 → ∃ s, Reach H s0 k s
  | 0, _ => ⟨s0, rfl⟩
  | k + 1, h => by
    obtain ⟨s, hs⟩ := reach_some H s0 hF hl k (by omega)
    have hd := (reach_fit H s0 hF k s hs).2
    have hp := hl k s hs (by omega)
    unfold chN at hp
    cases hb : brs H s with
    | nil => rw [hb] at hp; simp at hp
    | cons x L => exact ⟨x.2, s, hs, x.1, by rw [hb]; simp⟩
theorem end_dep (H : HV) (s0 : St) (hF : Fit H s0) (hl : Last H s0) (k : Nat) (he : ∀ s, ¬ Reach H s0 k s) : dep s0 < k := Classical.byContradiction fun hn => by
  obtain ⟨s, hs⟩ := reach_some H s0 hF hl k (by omega)
  exact he s hs
theorem sum_pos_mem : ∀ (L : List Nat), 0 < L.sum → ∃ x ∈ L, 0 < x
  | [], h => by simp at h
  | y :: L, h => by
    by_cases hy : 0 < y
    · exact ⟨y, by simp, hy⟩
    · rw [List.sum_cons] at h
      obtain ⟨x, hx, h0⟩ := sum_pos_mem L (by omega)
      exact ⟨x, by simp [hx], h0⟩
theorem le_sum_mem : ∀ (L : List Nat) (x : Nat), x ∈ L → x ≤ L.sum
  | y :: L, x, h => by
    rw [List.sum_cons]
    rcases List.mem_cons.1 h with rfl | h
    · omega
    · have := le_sum_mem L x h; omega
theorem raw_pos (H : HV) (h : Okh H) (hl : Last H (beginS H)) : ∃ i, i < outsN H ∧ 0 < rawW H (beginS H) i := by
  have hF := begin_fit H h
  have hs : ((fwd H (beginS H) (dep (beginS H))).map Prod.snd).sum = dnK H (beginS H) (dep (beginS H)) :=
    fwd_sum H _ hl (dep (beginS H)) fun i hi s hr => by have := (reach_fit H _ hF i s hr).2; omega
  obtain ⟨x, hx, h0⟩ := sum_pos_mem _ (hs ▸ dn_pos H (beginS H) (dep (beginS H)))
  obtain ⟨p, hp, rfl⟩ := List.mem_map.1 hx
  have hr := fwd_reach H _ _ p hp
  have hd := (reach_fit H _ hF _ p.1 hr).2
  obtain ⟨h1, h2⟩ := out_range H h _ p.1 hr (by omega)
  refine ⟨(outN H p.1).toNat, by omega, ?_⟩
  have hw := fwd_wt H (beginS H) (okO H (((outN H p.1).toNat : Nat) : Int)) (dep (beginS H)) 0
  unfold rawW
  rw [Nat.add_zero] at hw
  rw [← hw]
  have hm := le_sum_mem ((fwd H (beginS H) (dep (beginS H))).map fun q => q.2 * wtU H (okO H (((outN H p.1).toNat : Nat) : Int)) (comL H (beginS H) (dep (beginS H)) 0) q.1) (p.2 * wtU H (okO H (((outN H p.1).toNat : Nat) : Int)) (comL H (beginS H) (dep (beginS H)) 0) p.1) (List.mem_map.2 ⟨p, hp, rfl⟩)
  refine Nat.lt_of_lt_of_le ?_ hm
  have hk : okO H (((outN H p.1).toNat : Nat) : Int) p.1 = true := by unfold okO; simp; right; omega
  simp only [comL, wtU, hk, if_true, Nat.mul_one]
  exact h0
theorem gcdW_le (f : Nat → Nat) (c : Nat) (h : ∀ i, f i ≤ c) : ∀ m, gcdW f m ≤ c
  | 0 => Nat.zero_le _
  | m + 1 => by
    unfold gcdW
    have h1 := gcdW_le f c h m
    rcases Nat.eq_zero_or_pos (f m) with h0 | h0
    · rw [h0, Nat.gcd_zero_left]; exact h1
    · exact Nat.le_trans (Nat.gcd_le_left _ h0) (h m)
end Go.Proofs.Ytmjnelkeiogdcaa
