/- What the law HandTurned says, of the hands themselves, in plain Lean. -/
import Derived.Test.YtmjnelkeiogdcaaPD
import Derived.Test.YtmjnelkeiogdcaaHZ
set_option linter.unusedSimpArgs false
set_option linter.unusedVariables false
namespace Go.Proofs.Ytmjnelkeiogdcaa
open Go Go.RowKit

theorem mir_nodup (C : Nat) (L : List Nat) (hn : L.Nodup) (hL : ∀ i ∈ L, i < C) : (L.map fun i => C - 1 - i).Nodup := by
  induction L with
  | nil => exact List.Pairwise.nil
  | cons x L ih =>
    obtain ⟨h1, h2⟩ := List.nodup_cons.1 hn
    rw [List.map_cons]
    refine List.nodup_cons.2 ⟨fun h => ?_, ih h2 fun i hi => hL i (List.mem_cons_of_mem _ hi)⟩
    obtain ⟨y, hy, he⟩ := List.mem_map.1 h
    have hy1 := hL y (List.mem_cons_of_mem _ hy)
    have hx1 := hL x List.mem_cons_self
    have : y = x := by omega
    exact h1 (this ▸ hy)
theorem mem_rest (C g i : Nat) : i ∈ restI C g ↔ i < C ∧ g.testBit i = false := by
  unfold restI
  simp [List.mem_filter]
/-- Cards drawn from a deck in the opposite order. -/
theorem sim_drawn (H : HV) : Sim H { H with cards := H.cards.reverse } 1 (fun s s' => ∃ l g g' k, s = .drawn l g k ∧ s' = .drawn l g' k ∧ ∀ i, i < H.cards.length → g'.testBit i = g.testBit (H.cards.length - 1 - i)) where
  pos := by omega
  dep := fun s s' ⟨l, g, g', k, h1, h2, _⟩ => by rw [h1, h2]; rfl
  step := by
    rintro s s' ⟨l, g, g', k, rfl, rfl, hg⟩
    by_cases hl : l = 0
    · subst hl; exact ⟨[], by simp [brs], by simp only [brs, if_true]; exact .nil⟩
    · simp only [brs, if_neg hl, List.length_reverse]
      obtain ⟨C, hC⟩ : ∃ C, H.cards.length = C := ⟨_, rfl⟩
      rw [hC] at hg ⊢
      have hp : (restI C g').Perm ((restI C g).map fun i => C - 1 - i) := by
        refine (List.perm_ext_iff_of_nodup (rest_nodup _ _) (mir_nodup C _ (rest_nodup _ _) fun i hi => ((mem_rest C g i).1 hi).1)).2 fun a => ?_
        rw [mem_rest, List.mem_map]
        constructor
        · rintro ⟨h1, h2⟩
          rw [hg a h1] at h2
          exact ⟨C - 1 - a, (mem_rest C g _).2 ⟨by omega, h2⟩, by omega⟩
        · rintro ⟨i, hi, rfl⟩
          obtain ⟨h1, h2⟩ := (mem_rest C g i).1 hi
          refine ⟨by omega, ?_⟩
          rw [hg _ (by omega), show C - 1 - (C - 1 - i) = i by omega, h2]
      refine ⟨_, hp.map _, ?_⟩
      rw [List.map_map]
      refine all2_map _ _ _ _ fun i hi => ?_
      obtain ⟨h1, h2⟩ := (mem_rest C g i).1 hi
      refine ⟨by simp, l - 1, _, g' ||| 2 ^ (C - 1 - i), _, rfl, ?_, fun j hj => ?_⟩
      · simp only [Function.comp]
        congr 2
        rw [List.getD_eq_getElem?_getD, List.getD_eq_getElem?_getD, List.getElem?_reverse (by omega), hC, show C - 1 - (C - 1 - i) = i by omega]
      · rw [Nat.testBit_or, Nat.testBit_or, Nat.testBit_two_pow, Nat.testBit_two_pow, hg j hj]
        have : decide (C - 1 - i = j) = decide (i = C - 1 - j) := by by_cases h : i = C - 1 - j; (rw [decide_eq_true h, decide_eq_true (by omega)]); (rw [decide_eq_false h, decide_eq_false (by omega)])
        rw [this]
theorem top_mem (F : List (Nat × Nat)) (f : Nat × Nat) (hf : f ∈ F) : f.1 ≤ topN F F.length := by
  obtain ⟨i, hi, rfl⟩ := List.getElem_of_mem hf
  exact top_ge F F.length (Nat.le_refl _) i hi hi
theorem top_rev (F : List (Nat × Nat)) : topN F.reverse F.reverse.length = topN F F.length :=
  Nat.le_antisymm (topN_le _ _ (fun f hf => top_mem F f (List.mem_reverse.1 hf)) _) (topN_le _ _ (fun f hf => top_mem F.reverse f (List.mem_reverse.2 hf)) _)
theorem top_twice (F : List (Nat × Nat)) : topN (F.map fun f => (f.1, 2 * f.2)) (F.map fun f => (f.1, 2 * f.2)).length = topN F F.length :=
  Nat.le_antisymm (topN_le _ _ (fun f hf => by obtain ⟨x, hx, rfl⟩ := List.mem_map.1 hf; exact top_mem F x hx) _) (topN_le _ _ (fun f hf => top_mem (F.map fun f => (f.1, 2 * f.2)) (f.1, 2 * f.2) (List.mem_map.2 ⟨f, hf, rfl⟩)) _)
theorem top_more (F : List (Nat × Nat)) (h0 : 1 ≤ F.length) : topN (F.map fun f => (f.1 + 1, f.2)) (F.map fun f => (f.1 + 1, f.2)).length = topN F F.length + 1 := by
  have h1 : ∀ f ∈ F, f.1 + 1 ≤ topN (F.map fun f => (f.1 + 1, f.2)) (F.map fun f => (f.1 + 1, f.2)).length := fun f hf => top_mem (F.map fun f => (f.1 + 1, f.2)) (f.1 + 1, f.2) (List.mem_map.2 ⟨f, hf, rfl⟩)
  refine Nat.le_antisymm (topN_le _ _ (fun f hf => by obtain ⟨x, hx, rfl⟩ := List.mem_map.1 hf; have := top_mem F x hx; show x.1 + 1 ≤ _; omega) _) ?_
  have h2 := h1 F[0] (List.getElem_mem _)
  have h3 := topN_le F (topN (F.map fun f => (f.1 + 1, f.2)) (F.map fun f => (f.1 + 1, f.2)).length - 1) (fun f hf => by have := h1 f hf; omega) F.length
  omega
/-- The denominator of all weights, and a weight. -/
def dnH (H : HV) : Nat := dnK H (beginS H) (dep (beginS H))
def wqH (H : HV) (o : Nat) : Nat := rawW H (beginS H) o / gcdW (rawW H (beginS H)) (outsN H)
/-- The same weights. -/
def SameW (H H' : HV) : Prop := dnH H ≤ dnH H' ∧ outsN H' = outsN H ∧ ∀ o, wqH H' o = wqH H o
theorem SameW.rfl' (H : HV) : SameW H H := ⟨Nat.le_refl _, rfl, fun _ => rfl⟩
theorem sim_same {H H' : HV} {c : Nat} {ρ : St → St → Prop} (h : Sim H H' c ρ) (h0 : ρ (beginS H) (beginS H')) (hV : Val H) (ho : ∀ k t t', Reach H (beginS H) k t → ρ t t' → dep t = 0 → outN H' t' = outN H t) (hm : outsN H' = outsN H) : SameW H H' ∧ (c = 1 → dnH H' = dnH H) := by
  obtain ⟨h1, h2⟩ := h.weights h0 (begin_fit H hV.hand.ok) hV.hand.last 0 (fun k t t' a b d => by rw [ho k t t' a b d]; omega)
  have hc : 0 < c ^ dep (beginS H) := Nat.pow_pos h.pos
  refine ⟨⟨?_, hm, fun o => ?_⟩, fun e => ?_⟩
  · unfold dnH
    rw [h1]
    exact Nat.le_mul_of_pos_left _ hc
  · unfold wqH
    rw [hm]
    exact quot_same _ _ hc _ _ (fun i => h2 i) o
  · unfold dnH
    rw [h1, e, Nat.one_pow, Nat.one_mul]
/-- The hands of the law. -/
def backH (H : HV) : HV := { H with faces := H.faces.reverse, cards := H.cards.reverse, lowI := if H.kind = 2 then H.lowI + 2 else H.lowI, highI := if H.kind = 2 then H.highI + 2 else H.highI }
def twiceH (H : HV) : HV := { H with faces := H.faces.map fun f => (f.1, 2 * f.2) }
def moreH (H : HV) : HV := { H with faces := H.faces.map fun f => (f.1 + 1, f.2) }
theorem reach_thrown (H : HV) (l a : Nat) : ∀ k t, Reach H (.thrown l a) k t → ∃ l' a', t = .thrown l' a' := fun k t hr =>
  reach_inv (H := H) (s0 := .thrown l a) (fun t => ∃ l s, t = .thrown l s) ⟨_, _, rfl⟩ (fun s ⟨l, s', e⟩ x hx => by
    subst e
    simp only [brs] at hx
    split at hx
    · cases hx
    · obtain ⟨f, _, rfl⟩ := List.mem_map.1 hx
      exact ⟨_, _, rfl⟩) k t hr
theorem turned_back (H : HV) (hV : Val H) : SameW H (backH H) ∧ dnH (backH H) = dnH H := by
  obtain ⟨b1, b2, b3, b4, b5⟩ := hV.hand.bare
  rcases hV.hand.ok with ⟨hk, h1, h2, h3, h4, h5⟩ | ⟨hk, h1, h2, h3⟩ | ⟨hk, h1, h2, h3, h4, h5, h6⟩ | ⟨hk, h1, h2, h3, h4, h5⟩ | ⟨hk, h1, h2, h3⟩
  · have e : backH H = { H with faces := H.faces.reverse } := by unfold backH; rw [if_neg (by omega), if_neg (by omega), b2 (by omega) (by omega)]; rfl
    have hb : beginS H = .thrown H.count 0 := by simp [beginS, hk]
    have hb' : beginS { H with faces := H.faces.reverse } = .thrown H.count 0 := by simp [beginS, hk]
    rw [e]
    obtain ⟨r1, r2⟩ := sim_same (sim_faces H) (by rw [hb, hb']; exact ⟨rfl, _, _, rfl⟩) hV (fun k t t' _ hh _ => by rw [hh.1]; obtain ⟨_, a, b, rfl⟩ := hh; rfl) (by simp only [outsN, hk, if_true]; rw [top_rev])
    exact ⟨r1, r2 rfl⟩
  · have e : backH H = { H with faces := [], cards := [], lowI := H.lowI + 2, highI := H.highI + 2 } := by unfold backH; rw [if_pos hk, if_pos hk, b1 (by omega), b2 (by omega) (by omega)]; rfl
    rw [e]
    have hb : beginS H = .marked 0 := by simp [beginS, hk]
    have hb' : beginS { H with faces := [], cards := [], lowI := H.lowI + 2, highI := H.highI + 2 } = .marked 0 := by simp [beginS, hk]
    obtain ⟨r1, r2⟩ := sim_same (sim_marks H { H with faces := [], cards := [], lowI := H.lowI + 2, highI := H.highI + 2 } (by unfold HV.low at *; show (H.lowI + 2).toNat = _; omega) (by unfold HV.high HV.low at *; show (H.highI + 2).toNat = _; omega) h1) (by rw [hb, hb']; exact .inl ⟨rfl, rfl⟩) hV (fun k t t' hr hh hd => by
      rcases hh with ⟨rfl, rfl⟩ | ⟨m, hm, rfl, rfl⟩
      · simp [dep] at hd
      · show (((m + 2) % 2 : Nat) : Int) = ((m % 2 : Nat) : Int)
        omega) (by simp [outsN, hk])
    exact ⟨r1, r2 rfl⟩
  · have e : backH H = H := by
      have e1 := b1 (by omega)
      have e2 := b2 (by omega) (by omega)
      unfold backH
      rw [if_neg (by omega), if_neg (by omega), e1, e2]
      obtain ⟨k, c, f, lo, hi, gr, ch, ca⟩ := H
      simp only at e1 e2
      subst e1
      subst e2
      rfl
    rw [e]
    exact ⟨SameW.rfl' H, rfl⟩
  · have e : backH H = { H with cards := H.cards.reverse } := by
      have e1 := b1 (by omega)
      unfold backH
      rw [if_neg (by omega), if_neg (by omega), e1]
      obtain ⟨k, c, f, lo, hi, gr, ch, ca⟩ := H
      simp only at e1
      subst e1
      rfl
    have hb : beginS H = .drawn H.count 0 0 := by simp [beginS, hk]
    have hb' : beginS { H with cards := H.cards.reverse } = .drawn H.count 0 0 := by simp [beginS, hk]
    rw [e]
    obtain ⟨r1, r2⟩ := sim_same (sim_drawn H) (by rw [hb, hb']; exact ⟨_, _, _, _, rfl, rfl, fun i _ => by simp⟩) hV (fun k t t' _ hh _ => by obtain ⟨a, b, c, d, rfl, rfl, _⟩ := hh; rfl) (by simp [outsN, hk])
    exact ⟨r1, r2 rfl⟩
  · have e : backH H = { H with cards := H.cards.reverse } := by
      have e1 := b1 (by omega)
      unfold backH
      rw [if_neg (by omega), if_neg (by omega), e1]
      obtain ⟨k, c, f, lo, hi, gr, ch, ca⟩ := H
      simp only at e1
      subst e1
      rfl
    have hb : beginS H = .cut (-1) := by simp [beginS, hk]
    have hb' : beginS { H with cards := H.cards.reverse } = .cut (-1) := by simp [beginS, hk]
    rw [e]
    obtain ⟨r1, r2⟩ := sim_same (sim_cut H) (by rw [hb, hb']; exact ⟨rfl, _, rfl⟩) hV (fun k t t' _ hh _ => by obtain ⟨rfl, a, rfl⟩ := hh; rfl) (by simp [outsN, hk])
    exact ⟨r1, r2 rfl⟩
theorem turned_twice (H : HV) (hV : Val H) : SameW H (twiceH H) := by
  by_cases hk : H.kind = 1
  · have hb : beginS H = .thrown H.count 0 := by simp [beginS, hk]
    have hb' : beginS (twiceH H) = .thrown H.count 0 := by simp [beginS, hk, twiceH]
    exact (sim_same (sim_twice H) (by rw [hb, show beginS { H with faces := H.faces.map fun f => (f.1, 2 * f.2) } = _ from hb']; exact ⟨rfl, _, _, rfl⟩) hV (fun k t t' _ hh _ => by rw [hh.1]; obtain ⟨_, a, b, rfl⟩ := hh; rfl) (by simp only [outsN, hk, if_true]; rw [top_twice])).1
  · have e1 := hV.hand.bare.1 hk
    have e : twiceH H = H := by
      unfold twiceH
      rw [e1]
      obtain ⟨k, c, f, lo, hi, gr, ch, ca⟩ := H
      simp only at e1
      subst e1
      rfl
    rw [e]
    exact SameW.rfl' H
theorem turned_more (H : HV) (hV : Val H) (hk : H.kind = 1) : dnH (moreH H) = dnH H ∧ outsN (moreH H) = outsN H + H.count ∧ (∀ i, i < H.count → wqH (moreH H) i = 0) ∧ ∀ i, wqH (moreH H) (i + H.count) = wqH H i := by
  have hb : beginS H = .thrown H.count 0 := by simp [beginS, hk]
  have hb' : beginS (moreH H) = .thrown H.count 0 := by simp [beginS, hk, moreH]
  have hF := begin_fit H hV.hand.ok
  have hl1 : 1 ≤ H.faces.length := by
    rcases hV.hand.ok with ⟨_, _, _, h, _⟩ | ⟨h, _⟩ | ⟨h, _⟩ | ⟨h, _⟩ | ⟨h, _⟩
    · exact h
    all_goals omega
  have hs : Sim H (moreH H) 1 (fun s s' => ∃ l k j, s = .thrown l k ∧ s' = .thrown l (k + j) ∧ j + l = H.count) := sim_more H H.count
  have h0 : ∃ l k j, beginS H = .thrown l k ∧ beginS (moreH H) = .thrown l (k + j) ∧ j + l = H.count := ⟨H.count, 0, 0, hb, by rw [hb'], by omega⟩
  have ho : ∀ k t t', Reach H (beginS H) k t → (∃ l k j, t = .thrown l k ∧ t' = .thrown l (k + j) ∧ j + l = H.count) → dep t = 0 → outN (moreH H) t' = outN H t + ((H.count : Nat) : Int) := by
    rintro k t t' _ ⟨l, a, j, rfl, rfl, hj⟩ hd
    have hd' : l = 0 := hd
    show ((a + j : Nat) : Int) = ((a : Nat) : Int) + ((H.count : Nat) : Int)
    omega
  obtain ⟨h1, h2⟩ := hs.weights h0 hF hV.hand.last H.count ho
  have h3 := fun o hq => hs.none h0 hF hV.hand.last H.count (fun k t t' hr hh hd => by rw [ho k t t' hr hh hd]; obtain ⟨l, a, j, rfl, _, _⟩ := hh; show _ ≤ ((a : Nat) : Int) + _; omega) o hq
  have hm : outsN (moreH H) = outsN H + H.count := by
    have e := top_more H.faces hl1
    simp only [outsN, moreH, hk, if_true]
    rw [e, Nat.mul_add, Nat.mul_one]
    omega
  rw [Nat.one_pow, Nat.one_mul] at h1
  have h2' : ∀ o : Nat, rawW (moreH H) (beginS (moreH H)) (o + H.count) = rawW H (beginS H) o := fun o => (h2 o).trans (by rw [Nat.one_pow, Nat.one_mul])
  have hg := gcd_shift H.count (rawW H (beginS H)) (rawW (moreH H) (beginS (moreH H))) (fun i hi => h3 i hi) h2' (outsN H)
  refine ⟨h1, hm, fun i hi => ?_, fun i => ?_⟩
  · unfold wqH
    rw [show rawW (moreH H) (beginS (moreH H)) i = 0 from h3 i hi, Nat.zero_div]
  · unfold wqH
    rw [hm, hg, h2']
theorem toH_raw (H : HV) : toH (rawOf H) = H := by
  obtain ⟨k, c, f, lo, hi, gr, ch, ca⟩ := H
  have e1 : (f.map fun f => (((f.1 : Nat) : Int), ((f.2 : Nat) : Int))).map (fun f => (f.1.toNat, f.2.toNat)) = f := by
    rw [List.map_map]
    exact (List.map_congr_left (fun x _ => rfl)).trans (List.map_id f)
  have e2 : (ca.map fun c => ((c : Nat) : Int)).map Int.toNat = ca := by
    rw [List.map_map]
    exact (List.map_congr_left (fun x _ => rfl)).trans (List.map_id ca)
  simp only [toH, rawOf, e1, e2, Int.toNat_natCast]
theorem Val.iff (H : HV) : okR (rawOf H) = true ↔ Val H := ⟨fun h => by have := (Val.of h).1; rwa [toH_raw] at this, fun h => h.ok⟩
theorem back_val (H : HV) (hV : Val H) (hk : H.kind ≠ 2) : Val (backH H) := by
  refine (Val.iff _).1 ?_
  have h := hV.ok
  have e1 : (backH H).faces.map (fun f => (((f.1 : Nat) : Int), ((f.2 : Nat) : Int))) = (H.faces.map fun f => (((f.1 : Nat) : Int), ((f.2 : Nat) : Int))).reverse := by simp [backH]
  have e2 : (backH H).cards.map (fun c => ((c : Nat) : Int)) = (H.cards.map fun c => ((c : Nat) : Int)).reverse := by simp [backH]
  by_cases h3 : H.kind = 3
  · have b := hV.hand.bare
    clear e1 e2
    have e : backH H = H := by
      have e1 := b.1 (by omega)
      have e2 := b.2.1 (by omega) (by omega)
      unfold backH
      rw [if_neg (by omega), if_neg (by omega), e1, e2]
      obtain ⟨k, c, f, lo, hi, gr, ch, ca⟩ := H
      simp only at e1 e2
      subst e1
      subst e2
      rfl
    rw [e]
    exact h
  · unfold rawOf okR at *
    simp only [e1, e2, List.length_reverse, List.any_reverse] at *
    simp only [show (backH H).kind = H.kind from rfl, show (backH H).count = H.count from rfl, show (backH H).group = H.group from rfl, show (backH H).changes = H.changes from rfl, show (backH H).lowI = H.lowI from if_neg hk, show (backH H).highI = H.highI from if_neg hk]
    have k3 : ¬ ((H.kind : Nat) : Int) = 3 := by omega
    simp only [if_neg k3] at h ⊢
    exact h
end Go.Proofs.Ytmjnelkeiogdcaa
