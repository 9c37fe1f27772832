/- The plain law of hands: what a valid hand is. -/
import Derived.Test.YtmjnelkeiogdcaaHY
import Derived.Test.YtmjnelkeiogdcaaP6
set_option linter.unusedSimpArgs false
set_option linter.unusedVariables false
namespace Go.Proofs.Ytmjnelkeiogdcaa
open Go
set_option maxRecDepth 100000

theorem reach_inv {H : HV} {s0 : St} (I : St → Prop) (h0 : I s0) (hs : ∀ s, I s → ∀ x ∈ brs H s, I x.2) : ∀ k t, Reach H s0 k t → I t
  | 0, t, h => by have e : t = s0 := h; rw [e]; exact h0
  | k + 1, t, ⟨s, hr, w, hw⟩ => hs s (reach_inv I h0 hs k s hr) (w, t) hw
theorem sum_pos (L : List Nat) (x : Nat) (hx : x ∈ L) (h : 0 < x) : 0 < L.sum := by
  induction L with
  | nil => cases hx
  | cons y L ih =>
    rw [List.sum_cons]
    rcases List.mem_cons.1 hx with rfl | hx
    · omega
    · have := ih hx
      omega
theorem last_thrown (H : HV) (l : Nat) (hf : 1 ≤ H.faces.length) (hw : Wide H) : Last H (.thrown l 0) := by
  intro k t hr hd
  have hi := reach_inv (H := H) (s0 := .thrown l 0) (fun t => ∃ l s, t = .thrown l s) ⟨_, _, rfl⟩ (fun s ⟨l, s', e⟩ x hx => by
    subst e
    simp only [brs] at hx
    split at hx
    · cases hx
    · obtain ⟨f, _, rfl⟩ := List.mem_map.1 hx
      exact ⟨_, _, rfl⟩) k t hr
  obtain ⟨l', s', rfl⟩ := hi
  have hl : l' ≠ 0 := hd
  unfold chN
  simp only [brs, if_neg hl, List.map_map]
  cases hF : H.faces with
  | nil => rw [hF] at hf; simp at hf
  | cons f F =>
    refine sum_pos _ f.2 (by simp) ?_
    have := hw f (by rw [hF]; simp)
    omega
theorem last_marked (H : HV) (h1 : 1 ≤ H.low) (h2 : H.low ≤ H.high) : Last H (.marked 0) := by
  intro k t hr hd
  have hi := reach_inv (H := H) (s0 := .marked 0) (fun t => t = .marked 0 ∨ ∃ m, t = .marked (m + 1)) (.inl rfl) (fun s hs x hx => by
    rcases hs with rfl | ⟨m, rfl⟩
    · simp only [brs, if_true] at hx
      obtain ⟨i, _, rfl⟩ := List.mem_map.1 hx
      exact .inr ⟨H.low + i - 1, by rw [show H.low + i - 1 + 1 = H.low + i by omega]⟩
    · simp only [brs] at hx
      rw [if_neg (by omega)] at hx
      cases hx) k t hr
  rcases hi with rfl | ⟨m, rfl⟩
  · unfold chN
    simp only [brs, if_true, List.map_map]
    rw [show (Prod.fst ∘ fun i => ((1 : Nat), St.marked (H.low + i))) = fun _ => 1 from rfl, sum_ones, List.length_range]
    omega
  · exact absurd rfl hd
theorem last_cut (H : HV) (h1 : 1 ≤ H.cards.length) : Last H (.cut (-1)) := by
  intro k t hr hd
  have hi := reach_inv (H := H) (s0 := .cut (-1)) (fun t => t = .cut (-1) ∨ ∃ m : Nat, t = .cut ((m : Nat) : Int)) (.inl rfl) (fun s hs x hx => by
    rcases hs with rfl | ⟨m, rfl⟩
    · simp only [brs] at hx
      rw [if_neg (by omega)] at hx
      obtain ⟨i, _, rfl⟩ := List.mem_map.1 hx
      exact .inr ⟨i, rfl⟩
    · simp only [brs] at hx
      rw [if_pos (by omega)] at hx
      cases hx) k t hr
  rcases hi with rfl | ⟨m, rfl⟩
  · unfold chN
    simp only [brs]
    rw [if_neg (by omega), List.map_map, show (Prod.fst ∘ fun c : Nat => ((1 : Nat), St.cut ((c : Nat) : Int))) = fun _ => 1 from rfl, sum_ones]
    exact h1
  · exfalso
    apply hd
    show (if (0 : Int) ≤ ((m : Nat) : Int) then 0 else 1) = 0
    rw [if_pos (by omega)]
theorem rest_zero (n : Nat) : restI n 0 = List.range n := by unfold restI; simp
theorem last_drawn (H : HV) (l : Nat) (h1 : l ≤ H.cards.length) : Last H (.drawn l 0 0) := by
  intro k t hr hd
  have hi := reach_inv (H := H) (s0 := .drawn l 0 0) (fun t => ∃ l' g n, t = .drawn l' g n ∧ l' ≤ l ∧ (restI H.cards.length g).length + (l - l') = H.cards.length) ⟨l, 0, 0, rfl, Nat.le_refl _, by rw [rest_zero]; simp⟩ (fun s hs x hx => by
    obtain ⟨l', g, n, rfl, h2, h3⟩ := hs
    simp only [brs] at hx
    split at hx
    · cases hx
    · rename_i hl
      obtain ⟨i, hi, rfl⟩ := List.mem_map.1 hx
      obtain ⟨c, hc, hci⟩ := List.getElem_of_mem (show i ∈ restI H.cards.length g from hi)
      have hst := rest_step H.cards.length g c hc
      rw [hci] at hst
      refine ⟨l' - 1, _, _, rfl, by omega, ?_⟩
      rw [hst, List.length_eraseIdx_of_lt hc]
      omega) k t hr
  obtain ⟨l', g, n, rfl, h2, h3⟩ := hi
  have hl : l' ≠ 0 := hd
  unfold chN
  simp only [brs, if_neg hl, List.map_map]
  rw [show (Prod.fst ∘ fun i => ((1 : Nat), St.drawn (l' - 1) (g ||| 2 ^ i) (n * 8 + H.cards.getD i 0))) = fun _ => 1 from rfl, sum_ones]
  show 0 < (restI H.cards.length g).length
  omega
theorem last_divided (H : HV) (l n : Nat) (h : ∀ k s, Reach H (.divided l n) k s → okD s = true) : Last H (.divided l n) := by
  intro k t hr hd
  have hi := reach_inv (H := H) (s0 := .divided l n) (fun t => ∃ l n, t = .divided l n) ⟨_, _, rfl⟩ (fun s ⟨l, s', e⟩ x hx => by
    subst e
    simp only [brs] at hx
    split at hx
    · cases hx
    · obtain ⟨f, _, rfl⟩ := List.mem_map.1 hx
      exact ⟨_, _, rfl⟩) k t hr
  obtain ⟨l', n', rfl⟩ := hi
  have hl : l' ≠ 0 := hd
  have hk := h k _ hr
  simp only [okD, decide_eq_false hl, Bool.false_or, decide_eq_true_eq] at hk
  unfold chN
  simp only [brs, if_neg hl, List.map_map]
  rw [show (Prod.fst ∘ fun i => ((1 : Nat), St.divided (l' - 1) (leftN H.group n' (i + 1)))) = fun _ => 1 from rfl, sum_ones, List.length_range]
  omega
theorem goodF_iff (f : Int × Int) : goodF f = true ↔ (0 ≤ f.1 ∧ f.1 ≤ 40) ∧ 1 ≤ f.2 ∧ f.2 ≤ 1000 := by simp [goodF, inB]
theorem badF_all (L : List (Int × Int)) : L.any badF = false ↔ ∀ f ∈ L, (0 ≤ f.1 ∧ f.1 ≤ 40) ∧ 1 ≤ f.2 ∧ f.2 ≤ 1000 := by
  rw [Bool.eq_false_iff, Ne, List.any_eq_true]
  constructor
  · intro h f hf
    rw [← goodF_iff]
    cases hg : goodF f with
    | true => rfl
    | false => exact absurd ⟨f, hf, by simp [badF, hg]⟩ h
  · rintro h ⟨f, hf, hb⟩
    have := (goodF_iff f).2 (h f hf)
    simp [badF, this] at hb
theorem badC_all (L : List Int) : L.any badC = false ↔ ∀ k ∈ L, 0 ≤ k ∧ k ≤ 7 := by
  rw [Bool.eq_false_iff, Ne, List.any_eq_true]
  constructor
  · intro h f hf
    rw [← inB_iff]
    cases hg : inB f 0 7 with
    | true => rfl
    | false => exact absurd ⟨f, hf, by simp [badC, hg]⟩ h
  · rintro h ⟨f, hf, hb⟩
    have := (inB_iff f 0 7).2 (h f hf)
    simp [badC, this] at hb
theorem raw_of (R : RH) (h1 : 0 ≤ R.kind) (h2 : 0 ≤ R.count) (h3 : 0 ≤ R.group) (h4 : 0 ≤ R.changes) (hf : ∀ f ∈ R.faces, 0 ≤ f.1 ∧ 0 ≤ f.2) (hc : ∀ k ∈ R.cards, 0 ≤ k) : rawOf (toH R) = R := by
  obtain ⟨k, c, fs, lo, hi, g, ch, cs⟩ := R
  simp only [rawOf, toH, List.map_map] at *
  congr 1
  · omega
  · omega
  · refine (List.map_congr_left fun f hf' => ?_).trans (List.map_id _)
    have := hf f hf'
    simp only [Function.comp, id]
    exact Prod.ext (by simp only []; omega) (by simp only []; omega)
  · omega
  · omega
  · refine (List.map_congr_left fun k hk => ?_).trans (List.map_id _)
    have := hc k hk
    simp only [Function.comp, id]
    omega
/-- What is not used is 0 or empty. -/
def BareH (H : HV) : Prop := (H.kind ≠ 1 → H.faces = []) ∧ (H.kind ≠ 4 → H.kind ≠ 5 → H.cards = []) ∧ (H.kind ≠ 2 → H.lowI = 0 ∧ H.highI = 0) ∧ (H.kind ≠ 3 → H.group = 0 ∧ H.changes = 0) ∧ (H.kind = 2 ∨ H.kind = 5 → H.count = 0)
structure OkHand (H : HV) : Prop where
  ok : Okh H
  last : Last H (beginS H)
  wide : Wide H
  bare : BareH H
theorem okR_yes (R : RH) (h : okR R = true) : rawOf (toH R) = R ∧ OkHand (toH R) := by
  unfold okR at h
  by_cases h1 : R.kind = 1
  · rw [if_pos h1] at h
    simp only [Bool.and_eq_true, inB_iff, Bool.not_eq_true', bareB, if_true, decide_eq_true_eq, badF_all] at h
    obtain ⟨⟨⟨⟨a1, a2⟩, b1, b2⟩, hf⟩, ⟨⟨⟨c1, c2⟩, c3⟩, c4⟩, c5⟩ := h
    have hc : R.cards = [] := List.length_eq_zero_iff.1 c1
    have hw : Wide (toH R) := fun f hf' => by
      obtain ⟨f', hf'', rfl⟩ := List.mem_map.1 hf'
      have := hf f' hf''
      simp only []
      omega
    have hk : (toH R).kind = 1 := by simp only [toH]; omega
    have hl : (toH R).faces.length = R.faces.length := by simp [toH]
    refine ⟨raw_of R (by omega) (by omega) (by omega) (by omega) (fun f hf' => by have := hf f hf'; omega) (fun k hk => by rw [hc] at hk; cases hk), ⟨.inl ⟨hk, by simp only [toH]; omega, by simp only [toH]; omega, by omega, by omega, fun f hf' => ?_⟩, ?_, hw, ?_⟩⟩
    · obtain ⟨f', hf'', rfl⟩ := List.mem_map.1 hf'
      have := hf f' hf''
      simp only []
      omega
    · unfold beginS
      rw [if_pos hk]
      exact last_thrown _ _ (by omega) hw
    · exact ⟨fun e => absurd hk e, fun _ _ => by simp [toH, hc], fun _ => ⟨c2, c3⟩, fun _ => by simp only [toH]; omega, fun e => by omega⟩
  · rw [if_neg h1] at h
    by_cases h2 : R.kind = 2
    · rw [if_pos h2] at h
      simp only [Bool.and_eq_true, inB_iff, bareB, if_true, decide_eq_true_eq, show ¬ ((2 : Int) = 1) by omega, if_false] at h
      obtain ⟨⟨⟨a1, a2⟩, a3⟩, ⟨⟨c1, c2⟩, c3⟩, c4⟩ := h
      have hc : R.cards = [] := List.length_eq_zero_iff.1 (by omega)
      have hf : R.faces = [] := List.length_eq_zero_iff.1 (by omega)
      have hk : (toH R).kind = 2 := by simp only [toH]; omega
      have hlo : (toH R).low = R.low.toNat := rfl
      have hhi : (toH R).high = R.high.toNat := rfl
      refine ⟨raw_of R (by omega) (by omega) (by omega) (by omega) (fun f hf' => by rw [hf] at hf'; cases hf') (fun k hk => by rw [hc] at hk; cases hk), ⟨.inr (.inl ⟨hk, by omega, by omega, by omega⟩), ?_, fun f hf' => by simp [toH, hf] at hf', ?_⟩⟩
      · unfold beginS
        rw [if_neg (by omega), if_pos hk]
        exact last_marked _ (by omega) (by omega)
      · exact ⟨fun _ => by simp [toH, hf], fun _ _ => by simp [toH, hc], fun e => absurd hk e, fun _ => by simp only [toH]; omega, fun _ => by simp only [toH]; omega⟩
    · rw [if_neg h2] at h
      by_cases h3 : R.kind = 3
      · rw [if_pos h3] at h
        simp only [Bool.and_eq_true, inB_iff, bareB, if_true, decide_eq_true_eq, show ¬ ((3 : Int) = 1) by omega, show ¬ ((3 : Int) = 2) by omega, if_false] at h
        obtain ⟨⟨⟨⟨⟨a1, a2⟩, b1, b2⟩, d1, d2⟩, hl⟩, ⟨c1, c2⟩, c3⟩ := h
        have hc : R.cards = [] := List.length_eq_zero_iff.1 (by omega)
        have hf : R.faces = [] := List.length_eq_zero_iff.1 (by omega)
        have hk : (toH R).kind = 3 := by simp only [toH]; omega
        refine ⟨raw_of R (by omega) (by omega) (by omega) (by omega) (fun f hf' => by rw [hf] at hf'; cases hf') (fun k hk => by rw [hc] at hk; cases hk), ⟨.inr (.inr (.inl ⟨hk, by simp only [toH]; omega, by simp only [toH]; omega, by simp only [toH]; omega, by simp only [toH]; omega, by simp only [toH]; omega, by simp only [toH]; omega⟩)), ?_, fun f hf' => by simp [toH, hf] at hf', ?_⟩⟩
        · unfold beginS
          rw [if_neg (by omega), if_neg (by omega), if_pos hk]
          exact last_divided _ _ _ hl
        · exact ⟨fun _ => by simp [toH, hf], fun _ _ => by simp [toH, hc], fun _ => ⟨c2, c3⟩, fun e => absurd hk e, fun e => by omega⟩
      · rw [if_neg h3] at h
        by_cases h4 : R.kind = 4
        · rw [if_pos h4] at h
          simp only [Bool.and_eq_true, inB_iff, Bool.not_eq_true', bareB, if_true, decide_eq_true_eq, badC_all, show ¬ ((4 : Int) = 1) by omega, show ¬ ((4 : Int) = 2) by omega, show ¬ ((4 : Int) = 3) by omega, if_false] at h
          obtain ⟨⟨⟨a1, a2⟩, ⟨b1, b2⟩, hc⟩, ⟨⟨⟨c1, c2⟩, c3⟩, c4⟩, c5⟩ := h
          have hf : R.faces = [] := List.length_eq_zero_iff.1 c1
          have hk : (toH R).kind = 4 := by simp only [toH]; omega
          have hl : (toH R).cards.length = R.cards.length := by simp [toH]
          refine ⟨raw_of R (by omega) (by omega) (by omega) (by omega) (fun f hf' => by rw [hf] at hf'; cases hf') (fun k hk => (hc k hk).1), ⟨.inr (.inr (.inr (.inl ⟨hk, by simp only [toH]; omega, by simp only [toH]; omega, by rw [hl]; simp only [toH]; omega, by omega, fun c hc' => ?_⟩))), ?_, fun f hf' => by simp [toH, hf] at hf', ?_⟩⟩
          · obtain ⟨c', hc'', rfl⟩ := List.mem_map.1 hc'
            have := hc c' hc''
            omega
          · unfold beginS
            rw [if_neg (by omega), if_neg (by omega), if_neg (by omega), if_pos hk]
            exact last_drawn _ _ (by rw [hl]; simp only [toH]; omega)
          · exact ⟨fun _ => by simp [toH, hf], fun e => absurd hk e, fun _ => ⟨c2, c3⟩, fun _ => by simp only [toH]; omega, fun e => by omega⟩
        · rw [if_neg h4] at h
          by_cases h5 : R.kind = 5
          · rw [if_pos h5] at h
            simp only [Bool.and_eq_true, inB_iff, Bool.not_eq_true', bareB, decide_eq_true_eq, badC_all, show ¬ ((5 : Int) = 1) by omega, show ¬ ((5 : Int) = 2) by omega, show ¬ ((5 : Int) = 3) by omega, show ¬ ((5 : Int) = 4) by omega, if_false] at h
            obtain ⟨⟨⟨b1, b2⟩, hc⟩, ⟨⟨⟨⟨c1, c6⟩, c2⟩, c3⟩, c4⟩, c5⟩ := h
            have hf : R.faces = [] := List.length_eq_zero_iff.1 c1
            have hk : (toH R).kind = 5 := by simp only [toH]; omega
            have hl : (toH R).cards.length = R.cards.length := by simp [toH]
            refine ⟨raw_of R (by omega) (by omega) (by omega) (by omega) (fun f hf' => by rw [hf] at hf'; cases hf') (fun k hk => (hc k hk).1), ⟨.inr (.inr (.inr (.inr ⟨hk, by omega, by omega, fun c hc' => ?_⟩))), ?_, fun f hf' => by simp [toH, hf] at hf', ?_⟩⟩
            · obtain ⟨c', hc'', rfl⟩ := List.mem_map.1 hc'
              have := hc c' hc''
              omega
            · unfold beginS
              rw [if_neg (by omega), if_neg (by omega), if_neg (by omega), if_neg (by omega)]
              exact last_cut _ (by omega)
            · exact ⟨fun _ => by simp [toH, hf], fun _ e => absurd hk e, fun _ => ⟨c2, c3⟩, fun _ => by simp only [toH]; omega, fun _ => by simp only [toH]; omega⟩
          · rw [if_neg h5] at h
            cases h
end Go.Proofs.Ytmjnelkeiogdcaa
/- The plain law of hands: weights layer by layer. -/
namespace Go.Proofs.Ytmjnelkeiogdcaa
open Go
set_option maxRecDepth 100000

theorem findS_put_same (s : St) (v : Int) : ∀ (L : SL) (i : Nat), ∃ j, findS s (match findS s L i with | some z => L.set (z.1 - i) (s, v) | none => L ++ [(s, v)]) i = some (j, v)
  | [], i => ⟨i, by simp [findS]⟩
  | p :: L, i => by
    by_cases h : s = p.1
    · refine ⟨i, ?_⟩
      rw [show findS s (p :: L) i = some (i, p.2) by rw [findS, if_pos h]]
      simp [findS]
    · have ih := findS_put_same s v L (i + 1)
      obtain ⟨j, hj⟩ := ih
      refine ⟨j, ?_⟩
      rw [show findS s (p :: L) i = findS s L (i + 1) by rw [findS, if_neg h]]
      cases hf : findS s L (i + 1) with
      | none =>
        rw [hf] at hj
        simp only [List.cons_append]
        rw [findS, if_neg h]
        exact hj
      | some z =>
        rw [hf] at hj
        have hz := (findS_some s L (i + 1) z.1 z.2 hf).1
        simp only
        rw [show z.1 - i = (z.1 - (i + 1)) + 1 by omega, List.set_cons_succ, findS, if_neg h]
        exact hj
theorem getS_same (L : SL) (s : St) (v : Int) : getS (putS L s v) s = v := by
  obtain ⟨j, hj⟩ := findS_put_same s v L 0
  unfold getS putS
  cases hf : findS s L 0 with
  | none =>
    rw [hf] at hj
    simp only at hj ⊢
    rw [hj]
  | some z =>
    rw [hf] at hj
    simp only [Nat.sub_zero] at hj ⊢
    rw [hj]
theorem findS_append_ne (s t : St) (h : t ≠ s) (v : Int) : ∀ (L : SL) (i : Nat), findS t (L ++ [(s, v)]) i = findS t L i
  | [], i => by simp [findS, h]
  | p :: L, i => by
    rw [List.cons_append, findS, findS]
    split
    · rfl
    · exact findS_append_ne s t h v L (i + 1)
theorem findS_set_ne (s t : St) (h : t ≠ s) (v : Int) : ∀ (L : SL) (i j : Nat) (hj : j < L.length), L[j].1 = s → findS t (L.set j (s, v)) i = findS t L i
  | p :: L, i, 0, _, hp => by
    simp only [List.getElem_cons_zero] at hp
    rw [List.set_cons_zero, findS, findS, if_neg h, if_neg (by rw [hp]; exact h)]
  | p :: L, i, j + 1, hj, hp => by
    rw [List.set_cons_succ, findS, findS]
    split
    · rfl
    · exact findS_set_ne s t h v L (i + 1) j (by simpa using hj) (by simpa using hp)
theorem getS_ne (L : SL) (s t : St) (v : Int) (h : t ≠ s) : getS (putS L s v) t = getS L t := by
  unfold getS putS
  cases hf : findS s L 0 with
  | none =>
    simp only
    rw [findS_append_ne s t h v L 0]
  | some z =>
    obtain ⟨h1, h2, h3⟩ := findS_some s L 0 z.1 z.2 hf
    simp only [Nat.sub_zero] at h2 h3
    simp only
    rw [findS_set_ne s t h v L 0 z.1 h2 (by rw [h3])]
theorem getS_put (L : SL) (s t : St) (v : Int) : getS (putS L s v) t = if t = s then v else getS L t := by
  by_cases h : t = s
  · subst h; rw [if_pos rfl, getS_same]
  · rw [if_neg h, getS_ne L s t v h]
theorem getS_touch (L : SL) (s t : St) : getS (touchS L s) t = getS L t := by
  unfold touchS
  cases hf : findS s L 0 with
  | some z => rfl
  | none =>
    unfold getS
    by_cases h : t = s
    · subst h
      have : ∃ j, findS t (L ++ [(t, 0)]) 0 = some (j, 0) := by
        have := findS_put_same t 0 L 0
        rw [hf] at this
        exact this
      obtain ⟨j, hj⟩ := this
      simp only [hj, hf]
    · simp only
      rw [findS_append_ne s t h 0 L 0]
/-- The weights of all runs of k steps. -/
def fwd (H : HV) (s0 : St) : Nat → List (St × Nat)
  | 0 => [(s0, 1)]
  | k + 1 => (fwd H s0 k).flatMap fun p => (brs H p.1).map fun x => (x.2, p.2 * (comK H s0 k / chN H p.1) * x.1)
theorem fwd_reach (H : HV) (s0 : St) : ∀ k p, p ∈ fwd H s0 k → Reach H s0 k p.1
  | 0, p, h => by simp [fwd] at h; subst h; rfl
  | k + 1, p, h => by
    unfold fwd at h
    obtain ⟨q, hq, h⟩ := List.mem_flatMap.1 h
    obtain ⟨x, hx, rfl⟩ := List.mem_map.1 h
    exact ⟨q.1, fwd_reach H s0 k q hq, x.1, hx⟩
/-- The weight of a state behind k steps. -/
def fw (H : HV) (s0 : St) (k : Nat) (t : St) : Nat := sumAt (fwd H s0 k) t
theorem sumAt_flat {α : Type} (g : α → List (St × Nat)) (t : St) : ∀ (L : List α), sumAt (L.flatMap g) t = (L.map fun x => sumAt (g x) t).sum
  | [] => rfl
  | x :: L => by rw [List.flatMap_cons, sumAt_append, sumAt_flat g t L, List.map_cons, List.sum_cons]
theorem sumAt_scale (L : List (Nat × St)) (t : St) (a : Nat) : sumAt (L.map fun x => (x.2, a * x.1)) t = a * sumAt (L.map fun x => (x.2, x.1)) t := by
  unfold sumAt
  rw [List.map_map, List.map_map, ← sum_map_mul]
  refine sum_map_congr _ _ _ fun x _ => ?_
  simp only [Function.comp]
  split <;> simp
/-- A step, state by state: each state once, in any order. -/
theorem fw_step (H : HV) (s0 : St) (k : Nat) (Ls : List St) (hn : Ls.Nodup) (hL : ∀ s, Reach H s0 k s → s ∈ Ls) (t : St) : sumAt (partsL H (comK H s0 k) (fw H s0 k) Ls) t = fw H s0 (k + 1) t := by
  have e : ∀ (a c n : Nat) (L : List (Nat × St)), sumAt (L.map fun x => (x.2, a * (c / n) * x.1)) t = a * (c / n * sumAt (L.map fun x => (x.2, x.1)) t) := fun a c n L => by
    rw [sumAt_scale L t (a * (c / n)), Nat.mul_assoc]
  unfold partsL
  rw [sumAt_flat, sum_map_congr _ _ Ls fun s _ => e (fw H s0 k s) (comK H s0 k) (chN H s) (brs H s)]
  unfold fw
  rw [fiber_sum Ls hn (fun s => comK H s0 k / chN H s * sumAt ((brs H s).map fun x => (x.2, x.1)) t) (fwd H s0 k) fun p hp => hL _ (fwd_reach H s0 k p hp)]
  rw [fwd, sumAt_flat]
  refine sum_map_congr _ _ _ fun p _ => ?_
  exact (e p.2 (comK H s0 k) (chN H p.1) (brs H p.1)).symm
/-- All weights together. -/
theorem fwd_sum (H : HV) (s0 : St) (hl : Last H s0) : ∀ k, (∀ i, i < k → ∀ s, Reach H s0 i s → dep s ≠ 0) → ((fwd H s0 k).map Prod.snd).sum = prodL (comL H s0 0 k)
  | 0, _ => rfl
  | k + 1, hd => by
    have hcom : ∀ m j, comL H s0 j (m + 1) = comL H s0 j m ++ [comK H s0 (j + m)] := by
      intro m
      induction m with
      | zero => intro j; simp [comL]
      | succ m ih =>
        intro j
        rw [comL, ih (j + 1), comL]
        simp [Nat.add_assoc, Nat.add_comm 1 m]
    rw [hcom k 0, Nat.zero_add, show prodL (comL H s0 0 k ++ [comK H s0 k]) = prodL (comL H s0 0 k) * comK H s0 k by
      generalize comL H s0 0 k = L
      induction L with
      | nil => simp [prodL]
      | cons y L ih => simp only [List.cons_append, prodL, ih, Nat.mul_assoc]]
    rw [fwd, flat_sum, ← fwd_sum H s0 hl k (fun i hi => hd i (by omega)), ← sum_map_mul']
    refine sum_map_congr _ _ _ fun p hp => ?_
    have hr := fwd_reach H s0 k p hp
    have hdp := hd k (by omega) p.1 hr
    have hdv := divs_all H s0 hl k p.1 hr hdp
    rw [List.map_map]
    have e : ((brs H p.1).map (Prod.snd ∘ fun x => (x.2, p.2 * (comK H s0 k / chN H p.1) * x.1))).sum = p.2 * (comK H s0 k / chN H p.1) * chN H p.1 := by
      unfold chN
      rw [← sum_map_mul]
      rfl
    rw [e, Nat.mul_assoc, Nat.div_mul_cancel hdv]
/-- What comes to the end. -/
theorem fwd_wt (H : HV) (s0 : St) (P : St → Bool) : ∀ k m, ((fwd H s0 k).map fun p => p.2 * wtU H P (comL H s0 k m) p.1).sum = wtU H P (comL H s0 0 (k + m)) s0
  | 0, m => by simp [fwd]
  | k + 1, m => by
    rw [show k + 1 + m = k + (m + 1) by omega, ← fwd_wt H s0 P k (m + 1), fwd, flat_sum]
    refine sum_map_congr _ _ _ fun p _ => ?_
    rw [List.map_map, comL]
    show _ = p.2 * ((brs H p.1).map fun x => comK H s0 k / chN H p.1 * x.1 * wtU H P (comL H s0 (k + 1) m) x.2).sum
    rw [← sum_map_mul]
    refine sum_map_congr _ _ _ fun x _ => ?_
    simp only [Function.comp]
    rw [Nat.mul_assoc p.2, Nat.mul_assoc p.2]
theorem sumAt_le (ps : List (St × Nat)) (t : St) : sumAt ps t ≤ (ps.map Prod.snd).sum := by
  induction ps with
  | nil => simp [sumAt]
  | cons p ps ih =>
    unfold sumAt at *
    rw [List.map_cons, List.sum_cons, List.map_cons, List.sum_cons]
    split <;> omega
theorem sumAt_prefix (ps qs : List (St × Nat)) (t : St) : sumAt ps t ≤ sumAt (ps ++ qs) t := by rw [sumAt_append]; omega
end Go.Proofs.Ytmjnelkeiogdcaa
/- The plain law of hands: bounds of the weights; the weights of the outcomes. -/
namespace Go.Proofs.Ytmjnelkeiogdcaa
open Go
set_option maxRecDepth 100000

theorem sum_nodup_le (ps : List (St × Nat)) : ∀ (Ls : List St), Ls.Nodup → (Ls.map (sumAt ps)).sum ≤ (ps.map Prod.snd).sum := by
  intro Ls hn
  induction ps with
  | nil =>
    rw [sum_map_congr _ (fun _ => 0) Ls fun t _ => by simp [sumAt], sum_map_zero]
    simp
  | cons p ps ih =>
    have e : ∀ t, sumAt (p :: ps) t = (if p.1 = t then p.2 else 0) + sumAt ps t := fun t => by simp [sumAt]
    rw [sum_map_congr _ _ Ls fun t _ => e t, sum_map_add, List.map_cons, List.sum_cons]
    have h1 : (Ls.map fun t => if p.1 = t then p.2 else 0).sum ≤ p.2 := by
      by_cases hm : p.1 ∈ Ls
      · rw [sum_one Ls hn p.1 hm fun _ => p.2]
        exact Nat.le_refl _
      · rw [sum_map_congr _ (fun _ => 0) Ls fun t ht => if_neg fun e => hm (by rw [e]; exact ht), sum_map_zero]
        omega
    omega
theorem sum_mono {α : Type} (f g : α → Nat) (L : List α) (h : ∀ x ∈ L, f x ≤ g x) : (L.map f).sum ≤ (L.map g).sum := by
  induction L with
  | nil => simp
  | cons x L ih =>
    rw [List.map_cons, List.sum_cons, List.map_cons, List.sum_cons]
    have h1 := h x (by simp)
    have h2 := ih fun y hy => h y (by simp [hy])
    omega
theorem parts_all (H : HV) (c : Nat) (W : St → Nat) (Ls : List St) : ((partsL H c W Ls).map Prod.snd).sum ≤ c * (Ls.map W).sum := by
  unfold partsL
  rw [flat_sum, ← sum_map_mul]
  refine sum_mono _ _ _ fun s _ => ?_
  rw [List.map_map]
  have e : ((brs H s).map (Prod.snd ∘ fun x => (x.2, W s * (c / chN H s) * x.1))).sum = W s * (c / chN H s) * chN H s := by
    unfold chN
    rw [← sum_map_mul]
    rfl
  rw [e, Nat.mul_assoc, Nat.mul_comm c]
  exact Nat.mul_le_mul_left _ (Nat.div_mul_le_self _ _)
/-- What has come while a layer is gone through. -/
def partW (H : HV) (c : Nat) (W : St → Nat) (vis : List St) (s : St) (xs : List (Nat × St)) : List (St × Nat) := partsL H c W vis ++ xs.map fun x => (x.2, W s * (c / chN H s) * x.1)
theorem partW_nil (H : HV) (c : Nat) (W : St → Nat) (vis : List St) (s : St) : partW H c W vis s [] = partsL H c W vis := by simp [partW]
theorem partW_snoc (H : HV) (c : Nat) (W : St → Nat) (vis : List St) (s : St) (xs : List (Nat × St)) (x : Nat × St) : partW H c W vis s (xs ++ [x]) = partW H c W vis s xs ++ [(x.2, W s * (c / chN H s) * x.1)] := by simp [partW]
theorem partW_all (H : HV) (c : Nat) (W : St → Nat) (vis : List St) (s : St) : partW H c W vis s (brs H s) = partsL H c W (vis ++ [s]) := by simp [partW, partsL]
theorem partW_le (H : HV) (s0 : St) (k c : Nat) (vis : List St) (s : St) (hn : (vis ++ [s]).Nodup) (xs rest : List (Nat × St)) (hx : brs H s = xs ++ rest) :
    ((partW H c (fw H s0 k) vis s xs).map Prod.snd).sum ≤ c * ((fwd H s0 k).map Prod.snd).sum := by
  have h1 := parts_all H c (fw H s0 k) (vis ++ [s])
  have h2 := sum_nodup_le (fwd H s0 k) (vis ++ [s]) hn
  have h3 : ((partW H c (fw H s0 k) vis s xs).map Prod.snd).sum ≤ ((partsL H c (fw H s0 k) (vis ++ [s])).map Prod.snd).sum := by
    rw [← partW_all, hx]
    unfold partW
    simp only [List.map_append, List.sum_append]
    omega
  have h4 : c * ((vis ++ [s]).map (fw H s0 k)).sum ≤ c * ((fwd H s0 k).map Prod.snd).sum := Nat.mul_le_mul_left _ h2
  omega
theorem com_snoc (H : HV) (s0 : St) : ∀ m j, comL H s0 j (m + 1) = comL H s0 j m ++ [comK H s0 (j + m)]
  | 0, j => by simp [comL]
  | m + 1, j => by
    rw [comL, com_snoc H s0 m (j + 1), comL]
    simp [Nat.add_assoc, Nat.add_comm 1 m]
theorem prod_snoc (L : List Nat) (x : Nat) : prodL (L ++ [x]) = prodL L * x := by
  induction L with
  | nil => simp [prodL]
  | cons y L ih => simp only [List.cons_append, prodL, ih, Nat.mul_assoc]
/-- The denominator of the first k steps. -/
def dnK (H : HV) (s0 : St) (k : Nat) : Nat := prodL (comL H s0 0 k)
theorem dn_succ (H : HV) (s0 : St) (k : Nat) : dnK H s0 (k + 1) = dnK H s0 k * comK H s0 k := by
  unfold dnK
  rw [com_snoc, prod_snoc, Nat.zero_add]
theorem com_pos (H : HV) (s0 : St) (k : Nat) : 0 < comK H s0 k := lcmL_pos _
theorem dn_pos (H : HV) (s0 : St) : ∀ k, 0 < dnK H s0 k
  | 0 => by simp [dnK, comL, prodL]
  | k + 1 => by rw [dn_succ]; exact Nat.mul_pos (dn_pos H s0 k) (com_pos H s0 k)
theorem dn_mono (H : HV) (s0 : St) (k : Nat) : ∀ m, dnK H s0 k ≤ dnK H s0 (k + m)
  | 0 => Nat.le_refl _
  | m + 1 => by
    rw [show k + (m + 1) = (k + m) + 1 by omega, dn_succ]
    have := dn_mono H s0 k m
    have h2 := Nat.mul_le_mul_left (dnK H s0 (k + m)) (com_pos H s0 (k + m))
    omega
/-- Behind the last step nothing is divided any more. -/
theorem com_end (H : HV) (s0 : St) (hF : Fit H s0) (k : Nat) (hk : dep s0 ≤ k) : comK H s0 k = 1 := by
  unfold comK
  have h : lcmL ((lay H s0 k).map (chN H)) ∣ 1 := (lcmL_dvd _ _).2 fun c hc h0 => by
    exfalso
    obtain ⟨s, hs, rfl⟩ := List.mem_map.1 hc
    obtain ⟨h1, h2⟩ := reach_fit H s0 hF k s ((mem_lay H s0 k s).1 hs)
    have hd : dep s = 0 := by omega
    rw [chN_sum, dep_zero h1 hd] at h0
    simp [sumW] at h0
  exact Nat.dvd_one.1 h
theorem dn_end (H : HV) (s0 : St) (hF : Fit H s0) : ∀ m, dnK H s0 (dep s0 + m) = dnK H s0 (dep s0)
  | 0 => rfl
  | m + 1 => by rw [show dep s0 + (m + 1) = (dep s0 + m) + 1 by omega, dn_succ, dn_end H s0 hF m, com_end H s0 hF _ (by omega), Nat.mul_one]
/-- All weights of a layer are at most the denominator. -/
theorem fwd_total (H : HV) (s0 : St) (hF : Fit H s0) (hl : Last H s0) (k : Nat) : ((fwd H s0 k).map Prod.snd).sum ≤ dnK H s0 k := by
  by_cases hk : k ≤ dep s0
  · rw [fwd_sum H s0 hl k fun i hi s hr => by have := (reach_fit H s0 hF i s hr).2; omega]
    exact Nat.le_refl _
  · have : fwd H s0 k = [] := by
      cases hc : fwd H s0 k with
      | nil => rfl
      | cons p L =>
        have := (reach_fit H s0 hF k p.1 (fwd_reach H s0 k p (by rw [hc]; simp))).2
        omega
    rw [this]
    simp
theorem fw_le (H : HV) (s0 : St) (hF : Fit H s0) (hl : Last H s0) (k : Nat) (t : St) : fw H s0 k t ≤ dnK H s0 k := Nat.le_trans (sumAt_le _ _) (fwd_total H s0 hF hl k)
/-- What complete states add to an outcome. -/
def outAdd (H : HV) (W : St → Nat) (vis : List St) (o : Nat) : Nat := (vis.map fun s => if dep s = 0 ∧ outN H s = ((o : Nat) : Int) then W s else 0).sum
/-- The weight of an outcome, before all are divided. -/
def rawW (H : HV) (s0 : St) (o : Nat) : Nat := wtU H (okO H ((o : Nat) : Int)) (comL H s0 0 (dep s0)) s0
theorem out_zero (H : HV) (W : St → Nat) (vis : List St) (o : Nat) (h : ∀ s ∈ vis, dep s ≠ 0) : outAdd H W vis o = 0 := by
  unfold outAdd
  rw [sum_map_congr _ (fun _ => 0) vis fun s hs => if_neg fun e => h s hs e.1, sum_map_zero]
theorem out_snoc (H : HV) (W : St → Nat) (vis : List St) (s : St) (o : Nat) : outAdd H W (vis ++ [s]) o = outAdd H W vis o + if dep s = 0 ∧ outN H s = ((o : Nat) : Int) then W s else 0 := by simp [outAdd]
theorem out_full (H : HV) (s0 : St) (hF : Fit H s0) (Ls : List St) (hn : Ls.Nodup) (hL : ∀ s, Reach H s0 (dep s0) s ↔ s ∈ Ls) (o : Nat) : outAdd H (fw H s0 (dep s0)) Ls o = rawW H s0 o := by
  have hd : ∀ s ∈ Ls, dep s = 0 := fun s hs => by have := (reach_fit H s0 hF _ s ((hL s).2 hs)).2; omega
  have h := fwd_wt H s0 (okO H ((o : Nat) : Int)) (dep s0) 0
  unfold rawW outAdd
  rw [← Nat.add_zero (dep s0), ← h, Nat.add_zero]
  have e : ∀ s ∈ Ls, (if dep s = 0 ∧ outN H s = ((o : Nat) : Int) then fw H s0 (dep s0) s else 0) = sumAt (fwd H s0 (dep s0)) s * (if okO H ((o : Nat) : Int) s then 1 else 0) := fun s hs => by
    unfold fw okO
    have h0 : decide (((o : Nat) : Int) < 0) = false := by simp
    rw [h0, Bool.false_or]
    by_cases hz : outN H s = ((o : Nat) : Int)
    · rw [if_pos ⟨hd s hs, hz⟩, if_pos (by simp [hz]), Nat.mul_one]
    · rw [if_neg fun h => hz h.2, if_neg (by simp; exact fun h => hz h.symm), Nat.mul_zero]
  rw [sum_map_congr _ _ Ls e, fiber_sum Ls hn (fun s => if okO H ((o : Nat) : Int) s then 1 else 0) _ fun p hp => (hL p.1).1 (fwd_reach H s0 _ p hp)]
  refine sum_map_congr _ _ _ fun p _ => ?_
  simp [comL, wtU]
theorem raw_le (H : HV) (s0 : St) (hF : Fit H s0) (hl : Last H s0) (o : Nat) : rawW H s0 o ≤ dnK H s0 (dep s0) := by
  have h := fwd_wt H s0 (okO H ((o : Nat) : Int)) (dep s0) 0
  unfold rawW
  rw [← Nat.add_zero (dep s0), ← h, Nat.add_zero]
  refine Nat.le_trans ?_ (fwd_total H s0 hF hl (dep s0))
  refine sum_mono _ _ _ fun p _ => ?_
  simp only [comL, wtU]
  split <;> simp
/-- The greatest common divisor of all weights. -/
def gcdW (f : Nat → Nat) : Nat → Nat
  | 0 => 0
  | m + 1 => Nat.gcd (f m) (gcdW f m)
theorem gcdW_dvd (f : Nat → Nat) : ∀ m i, i < m → gcdW f m ∣ f i
  | m + 1, i, h => by
    unfold gcdW
    rcases Nat.lt_or_ge i m with h' | h'
    · exact Nat.dvd_trans (Nat.gcd_dvd_right _ _) (gcdW_dvd f m i h')
    · have : i = m := by omega
      subst this
      exact Nat.gcd_dvd_left _ _
theorem gcdW_pos (f : Nat → Nat) : ∀ m i, i < m → 0 < f i → 0 < gcdW f m
  | m + 1, i, h, h0 => by
    unfold gcdW
    rcases Nat.lt_or_ge i m with h' | h'
    · exact Nat.gcd_pos_of_pos_right _ (gcdW_pos f m i h' h0)
    · have : i = m := by omega
      subst this
      exact Nat.gcd_pos_of_pos_left _ h0
end Go.Proofs.Ytmjnelkeiogdcaa
/- The plain law of hands: the outcomes are below their number. -/
namespace Go.Proofs.Ytmjnelkeiogdcaa
open Go
set_option maxRecDepth 100000

theorem top_ge (F : List (Nat × Nat)) : ∀ (n : Nat), n ≤ F.length → ∀ i (hi : i < F.length), i < n → F[i].1 ≤ topN F n
  | n + 1, hn, i, hi, h => by
    rw [topN_step F n (by omega)]
    by_cases e : i = n
    · subst e; omega
    · have := top_ge F n (by omega) i hi (by omega)
      omega
theorem outs_le (H : HV) (h : Okh H) : 1 ≤ outsN H ∧ outsN H ≤ 4096 := by
  unfold outsN
  rcases h with ⟨hk, h1, h2, h3, h4, h5⟩ | ⟨hk, h1, h2, h3⟩ | ⟨hk, h1, h2, h3, h4, h5, h6⟩ | ⟨hk, h1, h2, h3, h4, h5⟩ | ⟨hk, h1, h2, h3⟩
  · rw [if_pos hk]
    have h6 := topN_le H.faces 40 (fun f hf => (h5 f hf).1) H.faces.length
    have h7 := Nat.mul_le_mul h2 h6
    omega
  · simp [hk]
  · simp only [hk]
    have := Nat.div_le_self H.count H.group
    simp
    omega
  · simp only [hk]
    have h7 : 8 ^ H.count ≤ 8 ^ 4 := Nat.pow_le_pow_right (by omega) h2
    have h8 : 0 < 8 ^ H.count := Nat.pow_pos (by omega)
    simp
    omega
  · simp [hk]
theorem out_range (H : HV) (h : Okh H) (k : Nat) (s : St) (hr : Reach H (beginS H) k s) (hd : dep s = 0) : 0 ≤ outN H s ∧ outN H s < ((outsN H : Nat) : Int) := by
  unfold outsN
  rcases h with ⟨hk, h1, h2, h3, h4, h5⟩ | ⟨hk, h1, h2, h3⟩ | ⟨hk, h1, h2, h3, h4, h5, h6⟩ | ⟨hk, h1, h2, h3, h4, h5⟩ | ⟨hk, h1, h2, h3⟩
  · rw [if_pos hk]
    have hb : beginS H = .thrown H.count 0 := by simp [beginS, hk]
    rw [hb] at hr
    obtain ⟨l, m, rfl, hl, hm⟩ := reach_inv (fun s => ∃ l m, s = .thrown l m ∧ l ≤ H.count ∧ m + l * topN H.faces H.faces.length ≤ H.count * topN H.faces H.faces.length) ⟨H.count, 0, rfl, Nat.le_refl _, by omega⟩ (by
      rintro s ⟨l, m, rfl, hl, hm⟩ x hx
      simp only [brs] at hx
      by_cases h0 : l = 0
      · simp [h0] at hx
      · rw [if_neg h0] at hx
        obtain ⟨f, hf, rfl⟩ := List.mem_map.1 hx
        obtain ⟨i, hi, rfl⟩ := List.getElem_of_mem hf
        refine ⟨_, _, rfl, by omega, ?_⟩
        have := top_ge H.faces _ (Nat.le_refl _) i hi hi
        have e : l * topN H.faces H.faces.length = (l - 1) * topN H.faces H.faces.length + topN H.faces H.faces.length := by
          conv => lhs; rw [show l = (l - 1) + 1 by omega]
          rw [Nat.add_mul, Nat.one_mul]
        omega) k s hr
    simp only [dep] at hd
    subst hd
    simp only [outN]
    omega
  · have hb : beginS H = .marked 0 := by simp [beginS, hk]
    rw [hb] at hr
    obtain ⟨m, rfl⟩ := reach_inv (fun s => ∃ m, s = .marked m) ⟨0, rfl⟩ (by
      rintro s ⟨m, rfl⟩ x hx
      simp only [brs] at hx
      by_cases h0 : m = 0
      · rw [if_pos h0] at hx
        obtain ⟨i, hi, rfl⟩ := List.mem_map.1 hx
        exact ⟨_, rfl⟩
      · simp [h0] at hx) k s hr
    simp only [hk, outN]
    simp
    omega
  · have hb : beginS H = .divided H.changes H.count := by simp [beginS, hk]
    rw [hb] at hr
    obtain ⟨l, m, rfl, hm⟩ := reach_inv (fun s => ∃ l m, s = .divided l m ∧ m ≤ H.count) ⟨_, _, rfl, Nat.le_refl _⟩ (by
      rintro s ⟨l, m, rfl, hm⟩ x hx
      simp only [brs] at hx
      by_cases h0 : l = 0
      · simp [h0] at hx
      · rw [if_neg h0] at hx
        obtain ⟨i, hi, rfl⟩ := List.mem_map.1 hx
        refine ⟨_, _, rfl, ?_⟩
        have := leftN_le H.group m (i + 1)
        omega) k s hr
    have hz := Nat.div_le_div_right (c := H.group) hm
    simp only [hk, outN]
    simp only [show ¬ (3 : Nat) = 1 by decide, show ¬ (3 : Nat) = 2 by decide, if_true, if_false]
    obtain ⟨q1, hq1⟩ : ∃ q, m / H.group = q := ⟨_, rfl⟩
    obtain ⟨q2, hq2⟩ : ∃ q, H.count / H.group = q := ⟨_, rfl⟩
    rw [hq1, hq2] at hz
    rw [hq1, hq2]
    omega
  · have hb : beginS H = .drawn H.count 0 0 := by simp [beginS, hk]
    rw [hb] at hr
    obtain ⟨l, g, m, rfl, hl, hm⟩ := reach_inv (fun s => ∃ l g m, s = .drawn l g m ∧ l ≤ H.count ∧ m < 8 ^ (H.count - l)) ⟨_, _, _, rfl, Nat.le_refl _, by simp⟩ (by
      rintro s ⟨l, g, m, rfl, hl, hm⟩ x hx
      simp only [brs] at hx
      by_cases h0 : l = 0
      · simp [h0] at hx
      · rw [if_neg h0] at hx
        obtain ⟨i, hi, rfl⟩ := List.mem_map.1 hx
        have hi' : i < H.cards.length := by simpa using (List.mem_filter.1 hi).1
        refine ⟨_, _, _, rfl, by omega, ?_⟩
        have hc := h5 (H.cards.getD i 0) (by rw [List.getD_eq_getElem?_getD, List.getElem?_eq_getElem hi']; exact List.getElem_mem hi')
        rw [show H.count - (l - 1) = (H.count - l) + 1 by omega, Nat.pow_succ]
        omega) k s hr
    simp only [dep] at hd
    subst hd
    simp only [hk, outN]
    simp only [Nat.sub_zero] at hm
    simp only [show ¬ (4 : Nat) = 1 by decide, show ¬ (4 : Nat) = 2 by decide, show ¬ (4 : Nat) = 3 by decide, if_true, if_false]
    obtain ⟨q2, hq2⟩ : ∃ q, 8 ^ H.count = q := ⟨_, rfl⟩
    rw [hq2] at hm
    rw [hq2]
    omega
  · have hb : beginS H = .cut (-1) := by simp [beginS, hk]
    rw [hb] at hr
    obtain ⟨c, rfl, hc⟩ := reach_inv (fun s => ∃ c, s = .cut c ∧ c < 8) ⟨_, rfl, by decide⟩ (by
      rintro s ⟨c, rfl, hc⟩ x hx
      simp only [brs] at hx
      by_cases h0 : 0 ≤ c
      · simp [h0] at hx
      · rw [if_neg h0] at hx
        obtain ⟨i, hi, rfl⟩ := List.mem_map.1 hx
        have := h3 i hi
        exact ⟨_, rfl, by omega⟩) k s hr
    simp only [dep] at hd
    have hc0 : 0 ≤ c := Classical.byContradiction fun h => by rw [if_neg h] at hd; cases hd
    simp only [hk, outN]
    simp
    omega
theorem outAdd_le (H : HV) (s0 : St) (hF : Fit H s0) (hl : Last H s0) (k : Nat) (vis : List St) (hn : vis.Nodup) (o : Nat) : outAdd H (fw H s0 k) vis o ≤ dnK H s0 k := by
  have h1 := sum_nodup_le (fwd H s0 k) vis hn
  have h2 := fwd_total H s0 hF hl k
  have h3 : outAdd H (fw H s0 k) vis o ≤ (vis.map (sumAt (fwd H s0 k))).sum := by
    unfold outAdd
    refine sum_mono _ _ _ fun s _ => ?_
    split
    · exact Nat.le_refl _
    · exact Nat.zero_le _
  omega
/-- What the complete states of a layer add: all, or nothing. -/
theorem out_layer (H : HV) (s0 : St) (hF : Fit H s0) (k : Nat) (vis : List (St × Int)) (hn : (vis.map Prod.fst).Nodup) (hL : ∀ s, s ∈ vis.map Prod.fst ↔ Reach H s0 k s) (o : Nat) :
    (if dep s0 < k then rawW H s0 o else 0) + outAdd H (fw H s0 k) (vis.map Prod.fst) o = if dep s0 < k + 1 then rawW H s0 o else 0 := by
  have hd : ∀ s ∈ vis.map Prod.fst, dep s + k = dep s0 := fun s hs => (reach_fit H s0 hF k s ((hL s).1 hs)).2
  rcases Nat.lt_trichotomy (dep s0) k with h | h | h
  · rw [if_pos h, if_pos (by omega)]
    have : vis.map Prod.fst = [] := List.eq_nil_iff_forall_not_mem.2 fun s hs => by have := hd s hs; omega
    rw [this]
    simp [outAdd]
  · rw [if_neg (by omega), if_pos (by omega), Nat.zero_add]
    subst h
    exact out_full H s0 hF _ hn (fun s => (hL s).symm) o
  · rw [if_neg (by omega), if_neg (by omega), Nat.zero_add]
    exact out_zero H _ _ o fun s hs => by have := hd s hs; omega
theorem reach_some (H : HV) (s0 : St) (hF : Fit H s0) (hl : Last H s0) : ∀ k, k ≤ dep s0 → ∃ s, Reach H s0 k s
  | 0, _ => ⟨s0, rfl⟩
  | k + 1, h => by
    obtain ⟨s, hs⟩ := reach_some H s0 hF hl k (by omega)
    have hd := (reach_fit H s0 hF k s hs).2
    have hp := hl k s hs (by omega)
    unfold chN at hp
    cases hb : brs H s with
    | nil => rw [hb] at hp; simp at hp
    | cons x L => exact ⟨x.2, s, hs, x.1, by rw [hb]; simp⟩
theorem end_dep (H : HV) (s0 : St) (hF : Fit H s0) (hl : Last H s0) (k : Nat) (he : ∀ s, ¬ Reach H s0 k s) : dep s0 < k := Classical.byContradiction fun hn => by
  obtain ⟨s, hs⟩ := reach_some H s0 hF hl k (by omega)
  exact he s hs
theorem sum_pos_mem : ∀ (L : List Nat), 0 < L.sum → ∃ x ∈ L, 0 < x
  | [], h => by simp at h
  | y :: L, h => by
    by_cases hy : 0 < y
    · exact ⟨y, by simp, hy⟩
    · rw [List.sum_cons] at h
      obtain ⟨x, hx, h0⟩ := sum_pos_mem L (by omega)
      exact ⟨x, by simp [hx], h0⟩
theorem le_sum_mem : ∀ (L : List Nat) (x : Nat), x ∈ L → x ≤ L.sum
  | y :: L, x, h => by
    rw [List.sum_cons]
    rcases List.mem_cons.1 h with rfl | h
    · omega
    · have := le_sum_mem L x h; omega
theorem raw_pos (H : HV) (h : Okh H) (hl : Last H (beginS H)) : ∃ i, i < outsN H ∧ 0 < rawW H (beginS H) i := by
  have hF := begin_fit H h
  have hs : ((fwd H (beginS H) (dep (beginS H))).map Prod.snd).sum = dnK H (beginS H) (dep (beginS H)) :=
    fwd_sum H _ hl (dep (beginS H)) fun i hi s hr => by have := (reach_fit H _ hF i s hr).2; omega
  obtain ⟨x, hx, h0⟩ := sum_pos_mem _ (hs ▸ dn_pos H (beginS H) (dep (beginS H)))
  obtain ⟨p, hp, rfl⟩ := List.mem_map.1 hx
  have hr := fwd_reach H _ _ p hp
  have hd := (reach_fit H _ hF _ p.1 hr).2
  obtain ⟨h1, h2⟩ := out_range H h _ p.1 hr (by omega)
  refine ⟨(outN H p.1).toNat, by omega, ?_⟩
  have hw := fwd_wt H (beginS H) (okO H (((outN H p.1).toNat : Nat) : Int)) (dep (beginS H)) 0
  unfold rawW
  rw [Nat.add_zero] at hw
  rw [← hw]
  have hm := le_sum_mem ((fwd H (beginS H) (dep (beginS H))).map fun q => q.2 * wtU H (okO H (((outN H p.1).toNat : Nat) : Int)) (comL H (beginS H) (dep (beginS H)) 0) q.1) (p.2 * wtU H (okO H (((outN H p.1).toNat : Nat) : Int)) (comL H (beginS H) (dep (beginS H)) 0) p.1) (List.mem_map.2 ⟨p, hp, rfl⟩)
  refine Nat.lt_of_lt_of_le ?_ hm
  have hk : okO H (((outN H p.1).toNat : Nat) : Int) p.1 = true := by unfold okO; simp; right; omega
  simp only [comL, wtU, hk, if_true, Nat.mul_one]
  exact h0
theorem gcdW_le (f : Nat → Nat) (c : Nat) (h : ∀ i, f i ≤ c) : ∀ m, gcdW f m ≤ c
  | 0 => Nat.zero_le _
  | m + 1 => by
    unfold gcdW
    have h1 := gcdW_le f c h m
    rcases Nat.eq_zero_or_pos (f m) with h0 | h0
    · rw [h0, Nat.gcd_zero_left]; exact h1
    · exact Nat.le_trans (Nat.gcd_le_left _ h0) (h m)
end Go.Proofs.Ytmjnelkeiogdcaa
/- Weights and numbers of courses, in plain Lean. -/
namespace Go.Proofs.Ytmjnelkeiogdcaa
open Go Go.RowKit

theorem sum_pos_iff {α : Type} (f : α → Nat) : ∀ (L : List α), 0 < (L.map f).sum ↔ ∃ x ∈ L, 0 < f x
  | [] => by simp
  | x :: L => by
    rw [List.map_cons, List.sum_cons]
    have ih := sum_pos_iff f L
    constructor
    · intro h
      rcases Nat.eq_zero_or_pos (f x) with h0 | h0
      · obtain ⟨y, hy, hp⟩ := ih.1 (by omega)
        exact ⟨y, List.mem_cons_of_mem _ hy, hp⟩
      · exact ⟨x, List.mem_cons_self, h0⟩
    · rintro ⟨y, hy, hp⟩
      rcases List.mem_cons.1 hy with rfl | hy
      · omega
      · have := ih.2 ⟨y, hy, hp⟩
        omega
/-- There is weight where there are courses. -/
theorem wt_pos (H : HV) (s0 : St) (hF0 : Fit H s0) (hl : Last H s0) (hw : Wide H) (P : St → Bool) : ∀ (m k : Nat) (s : St), Reach H s0 k s → dep s = m → (0 < wtU H P (comL H s0 k m) s ↔ 0 < cnt H P m s)
  | 0, k, s, hr, hd => by rw [cnt_zero]; rfl
  | m + 1, k, s, hr, hd => by
    rw [cnt_succ, show comL H s0 k (m + 1) = comK H s0 k :: comL H s0 (k + 1) m from rfl, wtU, sum_pos_iff, sum_pos_iff]
    have hF := (reach_fit H s0 hF0 k s hr).1
    have hdv := divs_all H s0 hl k s hr (by omega)
    have hch : 0 < chN H s := hl k s hr (by omega)
    have hck := com_pos H s0 k
    have hq : 0 < comK H s0 k / chN H s := Nat.div_pos (Nat.le_of_dvd hck hdv) hch
    constructor
    · rintro ⟨x, hx, hp⟩
      have hst := step_fit H s hF x hx
      have ih := wt_pos H s0 hF0 hl hw P m (k + 1) x.2 ⟨s, hr, x.1, hx⟩ (by omega)
      have h1 := wide_brs hw s x hx
      exact ⟨x, hx, Nat.mul_pos h1 (ih.1 (Nat.pos_of_mul_pos_left hp))⟩
    · rintro ⟨x, hx, hp⟩
      have hst := step_fit H s hF x hx
      have ih := wt_pos H s0 hF0 hl hw P m (k + 1) x.2 ⟨s, hr, x.1, hx⟩ (by omega)
      have h1 := wide_brs hw s x hx
      exact ⟨x, hx, Nat.mul_pos (Nat.mul_pos hq h1) (ih.2 (Nat.pos_of_mul_pos_left hp))⟩
/-- Weights are numbers of courses where all states of a step offer the same number of choices. -/
theorem wt_cnt (H : HV) (s0 : St) (hF0 : Fit H s0) (hl : Last H s0) (hc : ∀ k s, Reach H s0 k s → dep s ≠ 0 → comK H s0 k = chN H s) (P : St → Bool) : ∀ (m k : Nat) (s : St), Reach H s0 k s → dep s = m → wtU H P (comL H s0 k m) s = cnt H P m s
  | 0, k, s, hr, hd => by rw [cnt_zero]; rfl
  | m + 1, k, s, hr, hd => by
    rw [cnt_succ, show comL H s0 k (m + 1) = comK H s0 k :: comL H s0 (k + 1) m from rfl, wtU]
    have hF := (reach_fit H s0 hF0 k s hr).1
    have hch : 0 < chN H s := hl k s hr (by omega)
    rw [hc k s hr (by omega), Nat.div_self hch]
    congr 1
    refine List.map_congr_left fun x hx => ?_
    have hst := step_fit H s hF x hx
    rw [wt_cnt H s0 hF0 hl hc P m (k + 1) x.2 ⟨s, hr, x.1, hx⟩ (by omega), Nat.one_mul]
theorem lcm_const (c : Nat) (hc : 0 < c) : ∀ (L : List Nat), L ≠ [] → (∀ x ∈ L, x = c) → lcmL L = c
  | [], h, _ => absurd rfl h
  | [x], _, h => by
    have := h x (by simp)
    subst this
    simp [lcmL, hc]
  | x :: y :: L, _, h => by
    have e := h x (by simp)
    subst e
    rw [lcmL, if_pos hc, lcm_const x hc (y :: L) (by simp) fun z hz => h z (by simp only [List.mem_cons] at hz ⊢; rcases hz with h | h; exact .inr (.inl h); exact .inr (.inr h))]
    exact Nat.lcm_self x
theorem com_const (H : HV) (s0 : St) (k : Nat) (s : St) (hr : Reach H s0 k s) (hp : 0 < chN H s) (h : ∀ t, Reach H s0 k t → chN H t = chN H s) : comK H s0 k = chN H s := by
  unfold comK
  refine lcm_const _ hp _ (fun e => ?_) fun x hx => ?_
  · have : chN H s ∈ (lay H s0 k).map (chN H) := List.mem_map.2 ⟨s, (mem_lay H s0 k s).2 hr, rfl⟩
    rw [e] at this
    simp at this
  · obtain ⟨t, ht, rfl⟩ := List.mem_map.1 hx
    exact h t ((mem_lay H s0 k t).1 ht)
theorem sum_ones2 {α : Type} (L : List α) : (L.map fun _ => 1).sum = L.length := by
  induction L with
  | nil => rfl
  | cons x L ih => rw [List.map_cons, List.sum_cons, ih, List.length_cons]; omega
theorem chN_thrown (H : HV) (l a : Nat) (h : l ≠ 0) : chN H (.thrown l a) = (H.faces.map Prod.snd).sum := by
  unfold chN
  simp only [brs, if_neg h, List.map_map]
  rfl
theorem chN_drawn (H : HV) (l g a : Nat) (h : l ≠ 0) : chN H (.drawn l g a) = (restI H.cards.length g).length := by
  unfold chN
  simp only [brs, if_neg h, List.map_map]
  rw [show (Prod.fst ∘ fun i => (1, St.drawn (l - 1) (g ||| 2 ^ i) (a * 8 + H.cards.getD i 0))) = fun _ => 1 from rfl]
  exact sum_ones2 _
/-- In all hands but stalks that change twice each step offers one number of choices. -/
theorem steps_const (H : HV) (hO : Okh H) (hl : Last H (beginS H)) (hw : Wide H) (h3 : ¬ (H.kind = 3 ∧ 1 < H.changes)) : ∀ k s, Reach H (beginS H) k s → dep s ≠ 0 → comK H (beginS H) k = chN H s := by
  intro k s hr hd
  have hF0 := begin_fit H hO
  refine com_const H _ k s hr (hl k s hr hd) fun t ht => ?_
  have hdt := (reach_fit H _ hF0 k t ht).2
  have hds := (reach_fit H _ hF0 k s hr).2
  have hk0 : k = 0 → chN H t = chN H s := fun h => by
    subst h
    have e1 : s = beginS H := hr
    have e2 : t = beginS H := ht
    rw [e1, e2]
  obtain ⟨A, hA, hA'⟩ := (reach_run H hw _ k s).1 hr
  obtain ⟨B, hB, hB'⟩ := (reach_run H hw _ k t).1 ht
  rcases hO with ⟨hk, _⟩ | ⟨hk, _⟩ | ⟨hk, _, _, _, _, h5, _⟩ | ⟨hk, _⟩ | ⟨hk, _⟩
  · have hb : beginS H = .thrown H.count 0 := by simp [beginS, hk]
    rw [hb] at hA' hB'
    obtain ⟨_, ea⟩ := run_thrown H A _ _ s hA'
    obtain ⟨_, eb⟩ := run_thrown H B _ _ t hB'
    rw [ea] at hd ⊢
    rw [eb]
    simp only [dep] at hd
    rw [chN_thrown _ _ _ (by omega), chN_thrown _ _ _ hd]
  · have hb : dep (beginS H) = 1 := by simp [beginS, hk, dep]
    exact hk0 (by omega)
  · have hb : dep (beginS H) = H.changes := by simp [beginS, hk, dep]
    exact hk0 (by omega)
  · have hb : beginS H = .drawn H.count 0 0 := by simp [beginS, hk]
    rw [hb] at hA' hB'
    obtain ⟨_, ga, ea, la⟩ := run_drawn H A _ _ _ s hA'
    obtain ⟨_, gb, eb, lb⟩ := run_drawn H B _ _ _ t hB'
    rw [ea] at hd ⊢
    rw [eb]
    simp only [dep] at hd
    rw [chN_drawn _ _ _ _ (by omega), chN_drawn _ _ _ _ hd]
    omega
  · have hb : dep (beginS H) = 1 := by simp [beginS, hk, dep]
    exact hk0 (by omega)
theorem outs_400 (H : HV) (h : Okh H) (h4 : ¬ (H.kind = 4 ∧ 2 < H.count)) : outsN H ≤ 400 := by
  unfold outsN
  rcases h with ⟨hk, h1, h2, h3, h4', h5⟩ | ⟨hk, h1, h2, h3⟩ | ⟨hk, h1, h2, h3, h4', h5, h6⟩ | ⟨hk, h1, h2, h3, h4', h5⟩ | ⟨hk, h1, h2, h3⟩
  · rw [if_pos hk]
    have h6 := topN_le H.faces 40 (fun f hf => (h5 f hf).1) H.faces.length
    have : H.count * topN H.faces H.faces.length ≤ 8 * 40 := Nat.mul_le_mul h2 h6
    omega
  · simp [hk]
  · have : H.count / H.group ≤ 64 := Nat.le_trans (Nat.div_le_self _ _) h4'
    simp [hk]
    omega
  · have : H.count = 1 ∨ H.count = 2 := by omega
    rcases this with e | e <;> simp [hk, e]
  · simp [hk]
/-- What the law HandCounting asks. -/
theorem counting_facts (H : HV) (hO : Okh H) (hl : Last H (beginS H)) (hw : Wide H) :
    (∀ o : Nat, 0 < rawW H (beginS H) o ↔ 0 < cntO H ((o : Nat) : Int) (beginS H)) ∧ (¬ (H.kind = 3 ∧ 1 < H.changes) → ∀ o : Nat, rawW H (beginS H) o = cntO H ((o : Nat) : Int) (beginS H)) :=
  ⟨fun o => wt_pos H _ (begin_fit H hO) hl hw _ _ 0 _ rfl rfl, fun h3 o => wt_cnt H _ (begin_fit H hO) hl (steps_const H hO hl hw h3) _ _ 0 _ rfl rfl⟩
theorem gcd_congr {f f' : Nat → Nat} : ∀ m, (∀ i, i < m → f i = f' i) → gcdW f m = gcdW f' m
  | 0, _ => rfl
  | m + 1, h => by rw [gcdW, gcdW, h m (by omega), gcd_congr m fun i hi => h i (by omega)]
end Go.Proofs.Ytmjnelkeiogdcaa
/- Two hands whose states answer to each other, in plain Lean. -/
namespace Go.Proofs.Ytmjnelkeiogdcaa
open Go Go.RowKit

/-- Two lists, member by member. -/
inductive All2 {α β : Type} (R : α → β → Prop) : List α → List β → Prop
  | nil : All2 R [] []
  | cons {a : α} {b : β} {L : List α} {M : List β} : R a b → All2 R L M → All2 R (a :: L) (b :: M)
/-- The runs of choices of s' are those of s, in some order, each c times as wide, and lead to states that answer to each other. -/
def BrSim (c : Nat) (ρ : St → St → Prop) (L L' : List (Nat × St)) : Prop := ∃ M, L'.Perm M ∧ All2 (fun x x' => x'.1 = c * x.1 ∧ ρ x.2 x'.2) L M
structure Sim (H H' : HV) (c : Nat) (ρ : St → St → Prop) : Prop where
  pos : 0 < c
  step : ∀ s s', ρ s s' → BrSim c ρ (brs H s) (brs H' s')
  dep : ∀ s s', ρ s s' → Go.Proofs.Ytmjnelkeiogdcaa.dep s' = Go.Proofs.Ytmjnelkeiogdcaa.dep s
theorem forall_sum {α β : Type} (R : α → β → Prop) (f : α → Nat) (g : β → Nat) (k : Nat) (h : ∀ a b, R a b → g b = k * f a) : ∀ (L : List α) (M : List β), All2 R L M → (M.map g).sum = k * (L.map f).sum
  | _, _, .nil => by simp
  | _, _, .cons hab hLM => by
    rw [List.map_cons, List.map_cons, List.sum_cons, List.sum_cons, h _ _ hab, forall_sum R f g k h _ _ hLM, Nat.mul_add]
theorem forall_mem_l {α β : Type} (R : α → β → Prop) : ∀ (L : List α) (M : List β), All2 R L M → ∀ a ∈ L, ∃ b ∈ M, R a b
  | _, _, .nil, a, h => by simp at h
  | _, _, .cons hab hLM, a, h => by
    rcases List.mem_cons.1 h with rfl | h
    · exact ⟨_, List.mem_cons_self, hab⟩
    · obtain ⟨b, hb, hr⟩ := forall_mem_l R _ _ hLM a h
      exact ⟨b, List.mem_cons_of_mem _ hb, hr⟩
theorem forall_mem_r {α β : Type} (R : α → β → Prop) : ∀ (L : List α) (M : List β), All2 R L M → ∀ b ∈ M, ∃ a ∈ L, R a b
  | _, _, .nil, b, h => by simp at h
  | _, _, .cons hab hLM, b, h => by
    rcases List.mem_cons.1 h with rfl | h
    · exact ⟨_, List.mem_cons_self, hab⟩
    · obtain ⟨a, ha, hr⟩ := forall_mem_r R _ _ hLM b h
      exact ⟨a, List.mem_cons_of_mem _ ha, hr⟩
theorem forall_imp {α β : Type} (R S : α → β → Prop) (h : ∀ a b, R a b → S a b) : ∀ (L : List α) (M : List β), All2 R L M → All2 S L M
  | _, _, .nil => .nil
  | _, _, .cons hab hLM => .cons (h _ _ hab) (forall_imp R S h _ _ hLM)
theorem forall_and_mem {α β : Type} (R : α → β → Prop) : ∀ (L : List α) (M : List β), All2 R L M → All2 (fun a b => R a b ∧ a ∈ L) L M
  | _, _, .nil => .nil
  | _, _, .cons hab hLM => .cons ⟨hab, List.mem_cons_self⟩ (forall_imp _ _ (fun a b h => ⟨h.1, List.mem_cons_of_mem _ h.2⟩) _ _ (forall_and_mem R _ _ hLM))
section
variable {H H' : HV} {c : Nat} {ρ : St → St → Prop}
theorem Sim.reach_r (h : Sim H H' c ρ) {s0 s0' : St} (h0 : ρ s0 s0') : ∀ k s, Reach H s0 k s → ∃ s', Reach H' s0' k s' ∧ ρ s s'
  | 0, s, hr => ⟨s0', rfl, by have e : s = s0 := hr; rw [e]; exact h0⟩
  | k + 1, t, ⟨s, hr, w, hw⟩ => by
    obtain ⟨s', hr', hss⟩ := h.reach_r h0 k s hr
    obtain ⟨M, hp, hf⟩ := h.step s s' hss
    obtain ⟨x', hx', h1, h2⟩ := forall_mem_l _ _ _ hf _ hw
    exact ⟨x'.2, ⟨s', hr', x'.1, hp.mem_iff.2 hx'⟩, h2⟩
theorem Sim.reach_l (h : Sim H H' c ρ) {s0 s0' : St} (h0 : ρ s0 s0') : ∀ k s', Reach H' s0' k s' → ∃ s, Reach H s0 k s ∧ ρ s s'
  | 0, s', hr => ⟨s0, rfl, by have e : s' = s0' := hr; rw [e]; exact h0⟩
  | k + 1, t', ⟨s', hr', w, hw⟩ => by
    obtain ⟨s, hr, hss⟩ := h.reach_l h0 k s' hr'
    obtain ⟨M, hp, hf⟩ := h.step s s' hss
    obtain ⟨x, hx, h1, h2⟩ := forall_mem_r _ _ _ hf _ (hp.mem_iff.1 hw)
    exact ⟨x.2, ⟨s, hr, x.1, hx⟩, h2⟩
theorem Sim.chN (h : Sim H H' c ρ) {s s' : St} (hs : ρ s s') : chN H' s' = c * chN H s := by
  obtain ⟨M, hp, hf⟩ := h.step s s' hs
  unfold Go.Proofs.Ytmjnelkeiogdcaa.chN
  rw [(hp.map Prod.fst).sum_nat]
  exact forall_sum _ Prod.fst Prod.fst c (fun a b hab => hab.1) _ _ hf
theorem Sim.com (h : Sim H H' c ρ) {s0 s0' : St} (h0 : ρ s0 s0') (k : Nat) (hk : ∃ s, Reach H s0 k s ∧ 0 < Go.Proofs.Ytmjnelkeiogdcaa.chN H s) : comK H' s0' k = c * comK H s0 k := by
  apply Nat.dvd_antisymm
  · refine (lcmL_dvd _ _).2 fun z hz _ => ?_
    obtain ⟨t', ht', rfl⟩ := List.mem_map.1 hz
    obtain ⟨t, ht, htt⟩ := h.reach_l h0 k t' ((mem_lay H' s0' k t').1 ht')
    rw [h.chN htt]
    rcases Nat.eq_zero_or_pos (Go.Proofs.Ytmjnelkeiogdcaa.chN H t) with e | e
    · rename_i hz0
      rw [h.chN htt, e] at hz0
      omega
    · exact Nat.mul_dvd_mul_left c (lcmL_mem _ _ (List.mem_map.2 ⟨t, (mem_lay H s0 k t).2 ht, rfl⟩) e)
  · obtain ⟨s, hs, hp⟩ := hk
    have key : ∀ t, Reach H s0 k t → 0 < Go.Proofs.Ytmjnelkeiogdcaa.chN H t → c * Go.Proofs.Ytmjnelkeiogdcaa.chN H t ∣ comK H' s0' k := fun t ht hpt => by
      obtain ⟨t', ht', htt⟩ := h.reach_r h0 k t ht
      rw [← h.chN htt]
      exact lcmL_mem _ _ (List.mem_map.2 ⟨t', (mem_lay H' s0' k t').2 ht', rfl⟩) (by rw [h.chN htt]; exact Nat.mul_pos h.pos hpt)
    obtain ⟨B, hB⟩ : c ∣ comK H' s0' k := Nat.dvd_trans (Nat.dvd_mul_right c _) (key s hs hp)
    rw [hB]
    refine Nat.mul_dvd_mul_left c ((lcmL_dvd _ _).2 fun z hz hz0 => ?_)
    obtain ⟨t, ht, rfl⟩ := List.mem_map.1 hz
    have := key t ((mem_lay H s0 k t).1 ht) hz0
    rw [hB] at this
    exact Nat.dvd_of_mul_dvd_mul_left h.pos this
/-- The weights answer to each other. -/
theorem Sim.wt (h : Sim H H' c ρ) {s0 s0' : St} (h0 : ρ s0 s0') (hF0 : Fit H s0) (hl : Last H s0) (P P' : St → Bool) (hP : ∀ k t t', Reach H s0 k t → ρ t t' → Go.Proofs.Ytmjnelkeiogdcaa.dep t = 0 → P' t' = P t) :
    ∀ (m k : Nat) (s s' : St), Reach H s0 k s → ρ s s' → Go.Proofs.Ytmjnelkeiogdcaa.dep s = m → wtU H' P' (comL H' s0' k m) s' = c ^ m * wtU H P (comL H s0 k m) s
  | 0, k, s, s', hr, hs, hd => by
    show (if P' s' = true then 1 else 0) = c ^ 0 * (if P s = true then 1 else 0)
    rw [hP k s s' hr hs hd]
    simp
  | m + 1, k, s, s', hr, hs, hd => by
    have hch : 0 < Go.Proofs.Ytmjnelkeiogdcaa.chN H s := hl k s hr (by omega)
    have hF := (reach_fit H s0 hF0 k s hr).1
    rw [show comL H' s0' k (m + 1) = comK H' s0' k :: comL H' s0' (k + 1) m from rfl, show comL H s0 k (m + 1) = comK H s0 k :: comL H s0 (k + 1) m from rfl, wtU, wtU, h.com h0 k ⟨s, hr, hch⟩, h.chN hs, Nat.mul_div_mul_left _ _ h.pos]
    obtain ⟨M, hp, hf⟩ := h.step s s' hs
    rw [(hp.map _).sum_nat]
    have hf2 : All2 (fun x x' => (x'.1 = c * x.1 ∧ ρ x.2 x'.2) ∧ x ∈ brs H s) (brs H s) M := forall_and_mem _ _ _ hf
    refine forall_sum _ _ _ _ (fun x x' hxx => ?_) _ _ hf2
    obtain ⟨⟨h1, h2⟩, hx⟩ := hxx
    have hst := step_fit H s hF x hx
    rw [h.wt h0 hF0 hl P P' hP m (k + 1) x.2 x'.2 ⟨s, hr, x.1, hx⟩ h2 (by omega), h1, Nat.pow_succ]
    simp only [Nat.mul_comm, Nat.mul_left_comm, Nat.mul_assoc]
end
end Go.Proofs.Ytmjnelkeiogdcaa
/- The weights of two hands that answer to each other; the hands of the law HandTurned. -/
namespace Go.Proofs.Ytmjnelkeiogdcaa
open Go Go.RowKit

section
variable {H H' : HV} {c : Nat} {ρ : St → St → Prop}
theorem Sim.den (h : Sim H H' c ρ) {s0 s0' : St} (h0 : ρ s0 s0') (hF0 : Fit H s0) (hl : Last H s0) : ∀ m k, k + m ≤ Go.Proofs.Ytmjnelkeiogdcaa.dep s0 → prodL (comL H' s0' k m) = c ^ m * prodL (comL H s0 k m)
  | 0, k, _ => by simp [comL, prodL]
  | m + 1, k, hk => by
    obtain ⟨s, hs⟩ := reach_some H s0 hF0 hl k (by omega)
    have hd := (reach_fit H s0 hF0 k s hs).2
    have hp := hl k s hs (by omega)
    rw [show comL H' s0' k (m + 1) = comK H' s0' k :: comL H' s0' (k + 1) m from rfl, show comL H s0 k (m + 1) = comK H s0 k :: comL H s0 (k + 1) m from rfl, prodL, prodL, h.com h0 k ⟨s, hs, hp⟩, h.den h0 hF0 hl m (k + 1) (by omega), Nat.pow_succ]
    simp only [Nat.mul_comm, Nat.mul_left_comm, Nat.mul_assoc]
theorem Sim.weights (h : Sim H H' c ρ) {s0 s0' : St} (h0 : ρ s0 s0') (hF0 : Fit H s0) (hl : Last H s0) (q : Nat) (ho : ∀ k t t', Reach H s0 k t → ρ t t' → Go.Proofs.Ytmjnelkeiogdcaa.dep t = 0 → outN H' t' = outN H t + ((q : Nat) : Int)) :
    dnK H' s0' (Go.Proofs.Ytmjnelkeiogdcaa.dep s0') = c ^ Go.Proofs.Ytmjnelkeiogdcaa.dep s0 * dnK H s0 (Go.Proofs.Ytmjnelkeiogdcaa.dep s0) ∧ (∀ o : Nat, rawW H' s0' (o + q) = c ^ Go.Proofs.Ytmjnelkeiogdcaa.dep s0 * rawW H s0 o) := by
  have hd := h.dep s0 s0' h0
  refine ⟨?_, fun o => ?_⟩
  · unfold dnK
    rw [hd]
    exact h.den h0 hF0 hl _ 0 (by omega)
  · unfold rawW
    rw [hd]
    refine h.wt h0 hF0 hl _ _ (fun k t t' hr htt hd0 => ?_) _ 0 s0 s0' rfl h0 rfl
    unfold okO
    rw [ho k t t' hr htt hd0]
    have e1 : decide (((o + q : Nat) : Int) < 0) = decide (((o : Nat) : Int) < 0) := by rw [decide_eq_false (by omega), decide_eq_false (by omega)]
    have e2 : decide (((o + q : Nat) : Int) = outN H t + ((q : Nat) : Int)) = decide (((o : Nat) : Int) = outN H t) := by
      by_cases e : ((o : Nat) : Int) = outN H t
      · rw [decide_eq_true e, decide_eq_true (by omega)]
      · rw [decide_eq_false e, decide_eq_false (by omega)]
    rw [e1, e2]
/-- There is no weight where no course ends. -/
theorem Sim.none (h : Sim H H' c ρ) {s0 s0' : St} (h0 : ρ s0 s0') (hF0 : Fit H s0) (hl : Last H s0) (q : Nat) (ho : ∀ k t t', Reach H s0 k t → ρ t t' → Go.Proofs.Ytmjnelkeiogdcaa.dep t = 0 → ((q : Nat) : Int) ≤ outN H' t') (o : Nat) (hq : o < q) : rawW H' s0' o = 0 := by
  unfold rawW
  rw [h.dep s0 s0' h0, h.wt h0 hF0 hl (fun _ => false) _ (fun k t t' hr htt hd0 => ?_) _ 0 s0 s0' rfl h0 rfl]
  · have : ∀ (m : Nat) (cs : List Nat) (s : St), wtU H (fun _ => false) cs s = 0 := fun m cs => by
      induction cs with
      | nil => intro s; rfl
      | cons x cs ih => intro s; rw [wtU]; simp only [ih, Nat.mul_zero]; exact sum_map_zero _
    rw [this 0, Nat.mul_zero]
  · have h1 := ho k t t' hr htt hd0
    unfold okO
    rw [decide_eq_false (by omega), decide_eq_false (by omega)]
    rfl
end
theorem gcd_mul (a : Nat) (f f' : Nat → Nat) : ∀ m, (∀ i, i < m → f' i = a * f i) → gcdW f' m = a * gcdW f m
  | 0, _ => by simp [gcdW]
  | m + 1, h => by rw [gcdW, gcdW, h m (by omega), gcd_mul a f f' m fun i hi => h i (by omega), Nat.gcd_mul_left]
theorem quot_same (a m : Nat) (ha : 0 < a) (f f' : Nat → Nat) (h : ∀ i, f' i = a * f i) (o : Nat) : f' o / gcdW f' m = f o / gcdW f m := by
  rw [gcd_mul a f f' m fun i _ => h i, h o, Nat.mul_div_mul_left _ _ ha]
theorem gcd_shift (q : Nat) (f f' : Nat → Nat) (h0 : ∀ i, i < q → f' i = 0) (h1 : ∀ i, f' (i + q) = f i) : ∀ m, gcdW f' (m + q) = gcdW f m
  | 0 => by
    have : ∀ k, k ≤ q → gcdW f' k = 0 := fun k => by
      induction k with
      | zero => intro _; rfl
      | succ k ih => intro hk; rw [gcdW, h0 k (by omega), ih (by omega)]; rfl
    rw [Nat.zero_add, this q (Nat.le_refl _)]
    rfl
  | m + 1 => by rw [show m + 1 + q = m + q + 1 by omega, gcdW, gcdW, h1, gcd_shift q f f' h0 h1 m]
theorem all2_refl {α : Type} (R : α → α → Prop) : ∀ (L : List α), (∀ x ∈ L, R x x) → All2 R L L
  | [], _ => .nil
  | x :: L, h => .cons (h x List.mem_cons_self) (all2_refl R L fun y hy => h y (List.mem_cons_of_mem _ hy))
theorem all2_map {α β γ : Type} (R : β → γ → Prop) (f : α → β) (g : α → γ) : ∀ (L : List α), (∀ x ∈ L, R (f x) (g x)) → All2 R (L.map f) (L.map g)
  | [], _ => .nil
  | x :: L, h => .cons (h x List.mem_cons_self) (all2_map R f g L fun y hy => h y (List.mem_cons_of_mem _ hy))
/-- Dice whose faces are shown in the opposite order. -/
theorem sim_faces (H : HV) : Sim H { H with faces := H.faces.reverse } 1 (fun s s' => s' = s ∧ ∃ l k, s = .thrown l k) where
  pos := by omega
  dep := fun s s' h => by rw [h.1]
  step := by
    rintro s s' ⟨rfl, l, k, rfl⟩
    by_cases hl : l = 0
    · subst hl; exact ⟨[], by simp [brs], by simp only [brs, if_true]; exact .nil⟩
    · simp only [brs, if_neg hl]
      refine ⟨H.faces.map fun f => (f.2, St.thrown (l - 1) (k + f.1)), ?_, all2_refl _ _ fun x hx => ⟨by omega, rfl, ?_⟩⟩
      · rw [List.map_reverse]; exact List.reverse_perm _
      · obtain ⟨f, _, rfl⟩ := List.mem_map.1 hx; exact ⟨_, _, rfl⟩
/-- .. with weights twice as great. -/
theorem sim_twice (H : HV) : Sim H { H with faces := H.faces.map fun f => (f.1, 2 * f.2) } 2 (fun s s' => s' = s ∧ ∃ l k, s = .thrown l k) where
  pos := by omega
  dep := fun s s' h => by rw [h.1]
  step := by
    rintro s s' ⟨rfl, l, k, rfl⟩
    by_cases hl : l = 0
    · subst hl; exact ⟨[], by simp [brs], by simp only [brs, if_true]; exact .nil⟩
    · simp only [brs, if_neg hl, List.map_map]
      exact ⟨_, List.Perm.refl _, all2_map _ _ _ _ fun f _ => ⟨rfl, rfl, _, _, rfl⟩⟩
/-- .. with values one greater. -/
theorem sim_more (H : HV) (q : Nat) : Sim H { H with faces := H.faces.map fun f => (f.1 + 1, f.2) } 1 (fun s s' => ∃ l k j, s = .thrown l k ∧ s' = .thrown l (k + j) ∧ j + l = q) where
  pos := by omega
  dep := fun s s' ⟨l, k, j, h1, h2, _⟩ => by rw [h1, h2]; rfl
  step := by
    rintro s s' ⟨l, k, j, rfl, rfl, hj⟩
    by_cases hl : l = 0
    · subst hl; exact ⟨[], by simp [brs], by simp only [brs, if_true]; exact .nil⟩
    · simp only [brs, if_neg hl, List.map_map]
      refine ⟨_, List.Perm.refl _, all2_map _ _ _ _ fun f _ => ⟨by simp, l - 1, k + f.1, j + 1, rfl, ?_, by omega⟩⟩
      simp only [Function.comp]
      congr 1
      omega
/-- Marks two greater. -/
theorem sim_marks (H H' : HV) (h1 : H'.low = H.low + 2) (h2 : H'.high = H.high + 2) (hp : 1 ≤ H.low) : Sim H H' 1 (fun s s' => (s = .marked 0 ∧ s' = .marked 0) ∨ ∃ m, 0 < m ∧ s = .marked m ∧ s' = .marked (m + 2)) where
  pos := by omega
  dep := by
    rintro s s' (⟨rfl, rfl⟩ | ⟨m, hm, rfl, rfl⟩)
    · rfl
    · simp only [dep]; rw [if_neg (by omega), if_neg (by omega)]
  step := by
    rintro s s' (⟨rfl, rfl⟩ | ⟨m, hm, rfl, rfl⟩)
    · simp only [brs, if_true, h1, h2]
      rw [show H.high + 2 + 1 - (H.low + 2) = H.high + 1 - H.low by omega]
      refine ⟨_, List.Perm.refl _, all2_map _ _ _ _ fun i _ => ⟨by simp, .inr ⟨H.low + i, by omega, rfl, ?_⟩⟩⟩
      simp only
      congr 1
      omega
    · simp only [brs]
      rw [if_neg (by omega), if_neg (by omega)]
      exact ⟨[], by simp, .nil⟩
/-- A card cut from a deck in the opposite order. -/
theorem sim_cut (H : HV) : Sim H { H with cards := H.cards.reverse } 1 (fun s s' => s' = s ∧ ∃ k, s = .cut k) where
  pos := by omega
  dep := fun s s' h => by rw [h.1]
  step := by
    rintro s s' ⟨rfl, k, rfl⟩
    by_cases hk : 0 ≤ k
    · simp only [brs, if_pos hk]; exact ⟨[], by simp, .nil⟩
    · simp only [brs, if_neg hk]
      refine ⟨H.cards.map fun c => (1, St.cut ((c : Nat) : Int)), ?_, all2_refl _ _ fun x hx => ⟨by omega, rfl, ?_⟩⟩
      · rw [List.map_reverse]; exact List.reverse_perm _
      · obtain ⟨f, _, rfl⟩ := List.mem_map.1 hx; exact ⟨_, rfl⟩
end Go.Proofs.Ytmjnelkeiogdcaa
