/- The plain law of hands: what a valid hand is. -/
import Derived.Test.YtmjnelkeiogdcaaHY
namespace Go.Proofs.Ytmjnelkeiogdcaa
open Go
set_option maxRecDepth 100000

theorem reach_inv {H : HV} {s0 : St} (I : St → Prop) (h0 : I s0) (hs : ∀ s, I s → ∀ x ∈ brs H s, I x.2) : ∀ k t, Reach H s0 k t → I t
  | 0, t, h => by have e : t = s0 := h; rw [e]; exact h0
  | k + 1, t, ⟨s, hr, w, hw⟩ => hs s (reach_inv I h0 hs k s hr) (w, t) hw
theorem sum_pos (L : List Nat) (x : Nat) (hx : x ∈ L) (h : 0 < x) : 0 < L.sum := by
  induction L with
  | nil => cases hx
  | cons y L ih =>
    rw [List.sum_cons]
    rcases List.mem_cons.1 hx with rfl | hx
    · omega
    · have := ih hx
      omega
theorem last_thrown (H : HV) (l : Nat) (hf : 1 ≤ H.faces.length) (hw : Wide H) : Last H (.thrown l 0) := by
  intro k t hr hd
  have hi := reach_inv (H := H) (s0 := .thrown l 0) (fun t => ∃ l s, t = .thrown l s) ⟨_, _, rfl⟩ (fun s ⟨l, s', e⟩ x hx => by
    subst e
    simp only [brs] at hx
    split at hx
    · cases hx
    · obtain ⟨f, _, rfl⟩ := List.mem_map.1 hx
      exact ⟨_, _, rfl⟩) k t hr
  obtain ⟨l', s', rfl⟩ := hi
  have hl : l' ≠ 0 := hd
  unfold chN
  simp only [brs, if_neg hl, List.map_map]
  cases hF : H.faces with
  | nil => rw [hF] at hf; simp at hf
  | cons f F =>
    refine sum_pos _ f.2 (by simp) ?_
    have := hw f (by rw [hF]; simp)
    omega
theorem last_marked (H : HV) (h1 : 1 ≤ H.low) (h2 : H.low ≤ H.high) : Last H (.marked 0) := by
  intro k t hr hd
  have hi := reach_inv (H := H) (s0 := .marked 0) (fun t => t = .marked 0 ∨ ∃ m, t = .marked (m + 1)) (.inl rfl) (fun s hs x hx => by
    rcases hs with rfl | ⟨m, rfl⟩
    · simp only [brs, if_true] at hx
      obtain ⟨i, _, rfl⟩ := List.mem_map.1 hx
      exact .inr ⟨H.low + i - 1, by rw [show H.low + i - 1 + 1 = H.low + i by omega]⟩
    · simp only [brs] at hx
      rw [if_neg (by omega)] at hx
      cases hx) k t hr
  rcases hi with rfl | ⟨m, rfl⟩
  · unfold chN
    simp only [brs, if_true, List.map_map]
    rw [show (Prod.fst ∘ fun i => ((1 : Nat), St.marked (H.low + i))) = fun _ => 1 from rfl, sum_ones, List.length_range]
    omega
  · exact absurd rfl hd
theorem last_cut (H : HV) (h1 : 1 ≤ H.cards.length) : Last H (.cut (-1)) := by
  intro k t hr hd
  have hi := reach_inv (H := H) (s0 := .cut (-1)) (fun t => t = .cut (-1) ∨ ∃ m : Nat, t = .cut ((m : Nat) : Int)) (.inl rfl) (fun s hs x hx => by
    rcases hs with rfl | ⟨m, rfl⟩
    · simp only [brs] at hx
      rw [if_neg (by omega)] at hx
      obtain ⟨i, _, rfl⟩ := List.mem_map.1 hx
      exact .inr ⟨i, rfl⟩
    · simp only [brs] at hx
      rw [if_pos (by omega)] at hx
      cases hx) k t hr
  rcases hi with rfl | ⟨m, rfl⟩
  · unfold chN
    simp only [brs]
    rw [if_neg (by omega), List.map_map, show (Prod.fst ∘ fun c : Nat => ((1 : Nat), St.cut ((c : Nat) : Int))) = fun _ => 1 from rfl, sum_ones]
    exact h1
  · exfalso
    apply hd
    show (if (0 : Int) ≤ ((m : Nat) : Int) then 0 else 1) = 0
    rw [if_pos (by omega)]
theorem rest_zero (n : Nat) : restI n 0 = List.range n := by unfold restI; simp
theorem last_drawn (H : HV) (l : Nat) (h1 : l ≤ H.cards.length) : Last H (.drawn l 0 0) := by
  intro k t hr hd
  have hi := reach_inv (H := H) (s0 := .drawn l 0 0) (fun t => ∃ l' g n, t = .drawn l' g n ∧ l' ≤ l ∧ (restI H.cards.length g).length + (l - l') = H.cards.length) ⟨l, 0, 0, rfl, Nat.le_refl _, by rw [rest_zero]; simp⟩ (fun s hs x hx => by
    obtain ⟨l', g, n, rfl, h2, h3⟩ := hs
    simp only [brs] at hx
    split at hx
    · cases hx
    · rename_i hl
      obtain ⟨i, hi, rfl⟩ := List.mem_map.1 hx
      obtain ⟨c, hc, hci⟩ := List.getElem_of_mem (show i ∈ restI H.cards.length g from hi)
      have hst := rest_step H.cards.length g c hc
      rw [hci] at hst
      refine ⟨l' - 1, _, _, rfl, by omega, ?_⟩
      rw [hst, List.length_eraseIdx_of_lt hc]
      omega) k t hr
  obtain ⟨l', g, n, rfl, h2, h3⟩ := hi
  have hl : l' ≠ 0 := hd
  unfold chN
  simp only [brs, if_neg hl, List.map_map]
  rw [show (Prod.fst ∘ fun i => ((1 : Nat), St.drawn (l' - 1) (g ||| 2 ^ i) (n * 8 + H.cards.getD i 0))) = fun _ => 1 from rfl, sum_ones]
  show 0 < (restI H.cards.length g).length
  omega
theorem last_divided (H : HV) (l n : Nat) (h : ∀ k s, Reach H (.divided l n) k s → okD s = true) : Last H (.divided l n) := by
  intro k t hr hd
  have hi := reach_inv (H := H) (s0 := .divided l n) (fun t => ∃ l n, t = .divided l n) ⟨_, _, rfl⟩ (fun s ⟨l, s', e⟩ x hx => by
    subst e
    simp only [brs] at hx
    split at hx
    · cases hx
    · obtain ⟨f, _, rfl⟩ := List.mem_map.1 hx
      exact ⟨_, _, rfl⟩) k t hr
  obtain ⟨l', n', rfl⟩ := hi
  have hl : l' ≠ 0 := hd
  have hk := h k _ hr
  simp only [okD, decide_eq_false hl, Bool.false_or, decide_eq_true_eq] at hk
  unfold chN
  simp only [brs, if_neg hl, List.map_map]
  rw [show (Prod.fst ∘ fun i => ((1 : Nat), St.divided (l' - 1) (leftN H.group n' (i + 1)))) = fun _ => 1 from rfl, sum_ones, List.length_range]
  omega
theorem goodF_iff (f : Int × Int) : goodF f = true ↔ (0 ≤ f.1 ∧ f.1 ≤ 40) ∧ 1 ≤ f.2 ∧ f.2 ≤ 1000 := by simp [goodF, inB]
theorem badF_all (L : List (Int × Int)) : L.any badF = false ↔ ∀ f ∈ L, (0 ≤ f.1 ∧ f.1 ≤ 40) ∧ 1 ≤ f.2 ∧ f.2 ≤ 1000 := by
  rw [Bool.eq_false_iff, Ne, List.any_eq_true]
  constructor
  · intro h f hf
    rw [← goodF_iff]
    cases hg : goodF f with
    | true => rfl
    | false => exact absurd ⟨f, hf, by simp [badF, hg]⟩ h
  · rintro h ⟨f, hf, hb⟩
    have := (goodF_iff f).2 (h f hf)
    simp [badF, this] at hb
theorem badC_all (L : List Int) : L.any badC = false ↔ ∀ k ∈ L, 0 ≤ k ∧ k ≤ 7 := by
  rw [Bool.eq_false_iff, Ne, List.any_eq_true]
  constructor
  · intro h f hf
    rw [← inB_iff]
    cases hg : inB f 0 7 with
    | true => rfl
    | false => exact absurd ⟨f, hf, by simp [badC, hg]⟩ h
  · rintro h ⟨f, hf, hb⟩
    have := (inB_iff f 0 7).2 (h f hf)
    simp [badC, this] at hb
theorem raw_of (R : RH) (h1 : 0 ≤ R.kind) (h2 : 0 ≤ R.count) (h3 : 0 ≤ R.group) (h4 : 0 ≤ R.changes) (hf : ∀ f ∈ R.faces, 0 ≤ f.1 ∧ 0 ≤ f.2) (hc : ∀ k ∈ R.cards, 0 ≤ k) : rawOf (toH R) = R := by
  obtain ⟨k, c, fs, lo, hi, g, ch, cs⟩ := R
  simp only [rawOf, toH, List.map_map] at *
  congr 1
  · omega
  · omega
  · refine (List.map_congr_left fun f hf' => ?_).trans (List.map_id _)
    have := hf f hf'
    simp only [Function.comp, id]
    exact Prod.ext (by simp only []; omega) (by simp only []; omega)
  · omega
  · omega
  · refine (List.map_congr_left fun k hk => ?_).trans (List.map_id _)
    have := hc k hk
    simp only [Function.comp, id]
    omega
/-- What is not used is 0 or empty. -/
def BareH (H : HV) : Prop := (H.kind ≠ 1 → H.faces = []) ∧ (H.kind ≠ 4 → H.kind ≠ 5 → H.cards = []) ∧ (H.kind ≠ 2 → H.lowI = 0 ∧ H.highI = 0) ∧ (H.kind ≠ 3 → H.group = 0 ∧ H.changes = 0) ∧ (H.kind = 2 ∨ H.kind = 5 → H.count = 0)
structure OkHand (H : HV) : Prop where
  ok : Okh H
  last : Last H (beginS H)
  wide : Wide H
  bare : BareH H
theorem okR_yes (R : RH) (h : okR R = true) : rawOf (toH R) = R ∧ OkHand (toH R) := by
  unfold okR at h
  by_cases h1 : R.kind = 1
  · rw [if_pos h1] at h
    simp only [Bool.and_eq_true, inB_iff, Bool.not_eq_true', bareB, if_true, decide_eq_true_eq, badF_all] at h
    obtain ⟨⟨⟨⟨a1, a2⟩, b1, b2⟩, hf⟩, ⟨⟨⟨c1, c2⟩, c3⟩, c4⟩, c5⟩ := h
    have hc : R.cards = [] := List.length_eq_zero_iff.1 c1
    have hw : Wide (toH R) := fun f hf' => by
      obtain ⟨f', hf'', rfl⟩ := List.mem_map.1 hf'
      have := hf f' hf''
      simp only []
      omega
    have hk : (toH R).kind = 1 := by simp only [toH]; omega
    have hl : (toH R).faces.length = R.faces.length := by simp [toH]
    refine ⟨raw_of R (by omega) (by omega) (by omega) (by omega) (fun f hf' => by have := hf f hf'; omega) (fun k hk => by rw [hc] at hk; cases hk), ⟨.inl ⟨hk, by simp only [toH]; omega, by simp only [toH]; omega, by omega, by omega, fun f hf' => ?_⟩, ?_, hw, ?_⟩⟩
    · obtain ⟨f', hf'', rfl⟩ := List.mem_map.1 hf'
      have := hf f' hf''
      simp only []
      omega
    · unfold beginS
      rw [if_pos hk]
      exact last_thrown _ _ (by omega) hw
    · exact ⟨fun e => absurd hk e, fun _ _ => by simp [toH, hc], fun _ => ⟨c2, c3⟩, fun _ => by simp only [toH]; omega, fun e => by omega⟩
  · rw [if_neg h1] at h
    by_cases h2 : R.kind = 2
    · rw [if_pos h2] at h
      simp only [Bool.and_eq_true, inB_iff, bareB, if_true, decide_eq_true_eq, show ¬ ((2 : Int) = 1) by omega, if_false] at h
      obtain ⟨⟨⟨a1, a2⟩, a3⟩, ⟨⟨c1, c2⟩, c3⟩, c4⟩ := h
      have hc : R.cards = [] := List.length_eq_zero_iff.1 (by omega)
      have hf : R.faces = [] := List.length_eq_zero_iff.1 (by omega)
      have hk : (toH R).kind = 2 := by simp only [toH]; omega
      have hlo : (toH R).low = R.low.toNat := rfl
      have hhi : (toH R).high = R.high.toNat := rfl
      refine ⟨raw_of R (by omega) (by omega) (by omega) (by omega) (fun f hf' => by rw [hf] at hf'; cases hf') (fun k hk => by rw [hc] at hk; cases hk), ⟨.inr (.inl ⟨hk, by omega, by omega, by omega⟩), ?_, fun f hf' => by simp [toH, hf] at hf', ?_⟩⟩
      · unfold beginS
        rw [if_neg (by omega), if_pos hk]
        exact last_marked _ (by omega) (by omega)
      · exact ⟨fun _ => by simp [toH, hf], fun _ _ => by simp [toH, hc], fun e => absurd hk e, fun _ => by simp only [toH]; omega, fun _ => by simp only [toH]; omega⟩
    · rw [if_neg h2] at h
      by_cases h3 : R.kind = 3
      · rw [if_pos h3] at h
        simp only [Bool.and_eq_true, inB_iff, bareB, if_true, decide_eq_true_eq, show ¬ ((3 : Int) = 1) by omega, show ¬ ((3 : Int) = 2) by omega, if_false] at h
        obtain ⟨⟨⟨⟨⟨a1, a2⟩, b1, b2⟩, d1, d2⟩, hl⟩, ⟨c1, c2⟩, c3⟩ := h
        have hc : R.cards = [] := List.length_eq_zero_iff.1 (by omega)
        have hf : R.faces = [] := List.length_eq_zero_iff.1 (by omega)
        have hk : (toH R).kind = 3 := by simp only [toH]; omega
        refine ⟨raw_of R (by omega) (by omega) (by omega) (by omega) (fun f hf' => by rw [hf] at hf'; cases hf') (fun k hk => by rw [hc] at hk; cases hk), ⟨.inr (.inr (.inl ⟨hk, by simp only [toH]; omega, by simp only [toH]; omega, by simp only [toH]; omega, by simp only [toH]; omega, by simp only [toH]; omega, by simp only [toH]; omega⟩)), ?_, fun f hf' => by simp [toH, hf] at hf', ?_⟩⟩
        · unfold beginS
          rw [if_neg (by omega), if_neg (by omega), if_pos hk]
          exact last_divided _ _ _ hl
        · exact ⟨fun _ => by simp [toH, hf], fun _ _ => by simp [toH, hc], fun _ => ⟨c2, c3⟩, fun e => absurd hk e, fun e => by omega⟩
      · rw [if_neg h3] at h
        by_cases h4 : R.kind = 4
        · rw [if_pos h4] at h
          simp only [Bool.and_eq_true, inB_iff, Bool.not_eq_true', bareB, if_true, decide_eq_true_eq, badC_all, show ¬ ((4 : Int) = 1) by omega, show ¬ ((4 : Int) = 2) by omega, show ¬ ((4 : Int) = 3) by omega, if_false] at h
          obtain ⟨⟨⟨a1, a2⟩, ⟨b1, b2⟩, hc⟩, ⟨⟨⟨c1, c2⟩, c3⟩, c4⟩, c5⟩ := h
          have hf : R.faces = [] := List.length_eq_zero_iff.1 c1
          have hk : (toH R).kind = 4 := by simp only [toH]; omega
          have hl : (toH R).cards.length = R.cards.length := by simp [toH]
          refine ⟨raw_of R (by omega) (by omega) (by omega) (by omega) (fun f hf' => by rw [hf] at hf'; cases hf') (fun k hk => (hc k hk).1), ⟨.inr (.inr (.inr (.inl ⟨hk, by simp only [toH]; omega, by simp only [toH]; omega, by rw [hl]; simp only [toH]; omega, by omega, fun c hc' => ?_⟩))), ?_, fun f hf' => by simp [toH, hf] at hf', ?_⟩⟩
          · obtain ⟨c', hc'', rfl⟩ := List.mem_map.1 hc'
            have := hc c' hc''
            omega
          · unfold beginS
            rw [if_neg (by omega), if_neg (by omega), if_neg (by omega), if_pos hk]
            exact last_drawn _ _ (by rw [hl]; simp only [toH]; omega)
          · exact ⟨fun _ => by simp [toH, hf], fun e => absurd hk e, fun _ => ⟨c2, c3⟩, fun _ => by simp only [toH]; omega, fun e => by omega⟩
        · rw [if_neg h4] at h
          by_cases h5 : R.kind = 5
          · rw [if_pos h5] at h
            simp only [Bool.and_eq_true, inB_iff, Bool.not_eq_true', bareB, decide_eq_true_eq, badC_all, show ¬ ((5 : Int) = 1) by omega, show ¬ ((5 : Int) = 2) by omega, show ¬ ((5 : Int) = 3) by omega, show ¬ ((5 : Int) = 4) by omega, if_false] at h
            obtain ⟨⟨⟨b1, b2⟩, hc⟩, ⟨⟨⟨⟨c1, c6⟩, c2⟩, c3⟩, c4⟩, c5⟩ := h
            have hf : R.faces = [] := List.length_eq_zero_iff.1 c1
            have hk : (toH R).kind = 5 := by simp only [toH]; omega
            have hl : (toH R).cards.length = R.cards.length := by simp [toH]
            refine ⟨raw_of R (by omega) (by omega) (by omega) (by omega) (fun f hf' => by rw [hf] at hf'; cases hf') (fun k hk => (hc k hk).1), ⟨.inr (.inr (.inr (.inr ⟨hk, by omega, by omega, fun c hc' => ?_⟩))), ?_, fun f hf' => by simp [toH, hf] at hf', ?_⟩⟩
            · obtain ⟨c', hc'', rfl⟩ := List.mem_map.1 hc'
              have := hc c' hc''
              omega
            · unfold beginS
              rw [if_neg (by omega), if_neg (by omega), if_neg (by omega), if_neg (by omega)]
              exact last_cut _ (by omega)
            · exact ⟨fun _ => by simp [toH, hf], fun _ e => absurd hk e, fun _ => ⟨c2, c3⟩, fun _ => by simp only [toH]; omega, fun _ => by simp only [toH]; omega⟩
          · rw [if_neg h5] at h
            cases h
end Go.Proofs.Ytmjnelkeiogdcaa
