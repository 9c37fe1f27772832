/- The plain law of hands: the state behind a course, as the document tells it, kind by kind. -/
import Derived.Test.YtmjnelkeiogdcaaP4
namespace Go.Proofs.Ytmjnelkeiogdcaa
open Go
set_option maxRecDepth 100000

/-- The value of the face of a choice. -/
def shF : List (Nat × Nat) → Nat → Nat
  | [], _ => 0
  | f :: F, c => if c < f.2 then f.1 else shF F (c - f.2)
theorem pick_faces (g : Nat → St) : ∀ (F : List (Nat × Nat)) (c : Nat), pick (F.map fun f => (f.2, g f.1)) c = if c < (F.map Prod.snd).sum then some (g (shF F c)) else none
  | [], c => by simp [pick]
  | f :: F, c => by
    rw [List.map_cons]
    unfold pick shF
    rw [List.map_cons, List.sum_cons]
    by_cases h : c < f.2
    · rw [if_pos h, if_pos (by omega), if_pos h]
    · simp only [if_neg h]
      rw [pick_faces g F]
      by_cases h2 : c - f.2 < (F.map Prod.snd).sum
      · rw [if_pos h2, if_pos (by omega)]
      · rw [if_neg h2, if_neg (by omega)]
theorem pick_ones {α : Type} (g : α → St) : ∀ (L : List α) (c : Nat), pick (L.map fun i => (1, g i)) c = (L[c]?).map g
  | [], c => by simp [pick]
  | i :: L, 0 => by simp [pick]
  | i :: L, c + 1 => by
    rw [List.map_cons]
    unfold pick
    rw [if_neg (by omega), Nat.add_sub_cancel, pick_ones g L c]
    simp
/-- The sum of the faces of a course. -/
def sumF (F : List (Nat × Nat)) (L : List Nat) : Nat := (L.map (shF F)).sum
theorem run_thrown (H : HV) : ∀ (L : List Nat) (l k : Nat) (t : St), runN H (.thrown l k) L = some t → L.length ≤ l ∧ t = .thrown (l - L.length) (k + sumF H.faces L)
  | [], l, k, t, h => by
    simp only [runN, Option.some.injEq] at h
    subst h
    exact ⟨by simp, by simp [sumF]⟩
  | c :: L, l, k, t, h => by
    simp only [runN, brs] at h
    by_cases h0 : l = 0
    · rw [if_pos h0] at h; cases h
    · rw [if_neg h0, pick_faces (fun v => .thrown (l - 1) (k + v)) H.faces c] at h
      split at h
      · rename_i u hu
        split at hu
        · injection hu with hu
          subst hu
          obtain ⟨h1, h2⟩ := run_thrown H L _ _ t h
          refine ⟨by simp only [List.length_cons]; omega, ?_⟩
          rw [h2]
          unfold sumF
          rw [List.map_cons, List.sum_cons, List.length_cons, show l - 1 - L.length = l - (L.length + 1) by omega, Nat.add_assoc]
        · cases hu
      · cases h
theorem run_marked (H : HV) (hlo : 1 ≤ H.low) (L : List Nat) (t : St) (h : runN H (.marked 0) L = some t) : (L = [] ∧ t = .marked 0) ∨ ∃ c, L = [c] ∧ c < H.high + 1 - H.low ∧ t = .marked (H.low + c) := by
  cases L with
  | nil =>
    simp only [runN, Option.some.injEq] at h
    exact .inl ⟨rfl, h.symm⟩
  | cons c L =>
    simp only [runN, brs, if_true] at h
    rw [pick_ones (fun i => .marked (H.low + i)) (List.range (H.high + 1 - H.low)) c] at h
    split at h
    · rename_i u hu
      obtain ⟨i, hi, rfl⟩ := Option.map_eq_some_iff.1 hu
      obtain ⟨hc, hi⟩ := List.getElem?_eq_some_iff.1 hi
      rw [List.getElem_range] at hi
      subst hi
      rw [List.length_range] at hc
      cases L with
      | nil =>
        simp only [runN, Option.some.injEq] at h
        exact .inr ⟨c, rfl, hc, h.symm⟩
      | cons d L =>
        simp only [runN, brs] at h
        rw [if_neg (by omega)] at h
        cases h
    · cases h
/-- The stalks that are left. -/
def stkN (g : Nat) : List Nat → Nat → Nat
  | [], n => n
  | c :: L, n => stkN g L (leftN g n (c + 1))
theorem run_divided (H : HV) : ∀ (L : List Nat) (l n : Nat) (t : St), runN H (.divided l n) L = some t → L.length ≤ l ∧ t = .divided (l - L.length) (stkN H.group L n)
  | [], l, n, t, h => by
    simp only [runN, Option.some.injEq] at h
    subst h
    exact ⟨by simp, by simp [stkN]⟩
  | c :: L, l, n, t, h => by
    simp only [runN, brs] at h
    by_cases h0 : l = 0
    · rw [if_pos h0] at h; cases h
    · rw [if_neg h0, pick_ones (fun i => .divided (l - 1) (leftN H.group n (i + 1))) (List.range (n - 2)) c] at h
      split at h
      · rename_i u hu
        obtain ⟨i, hi, rfl⟩ := Option.map_eq_some_iff.1 hu
        obtain ⟨hc, hi⟩ := List.getElem?_eq_some_iff.1 hi
        rw [List.getElem_range] at hi
        subst hi
        obtain ⟨h1, h2⟩ := run_divided H L _ _ t h
        refine ⟨by simp only [List.length_cons]; omega, ?_⟩
        rw [h2, List.length_cons, show l - 1 - L.length = l - (L.length + 1) by omega]
        rfl
      · cases h
theorem run_cut (H : HV) (L : List Nat) (t : St) (h : runN H (.cut (-1)) L = some t) : (L = [] ∧ t = .cut (-1)) ∨ ∃ (c : Nat) (hc : c < H.cards.length), L = [c] ∧ t = .cut ((H.cards[c] : Nat) : Int) := by
  cases L with
  | nil =>
    simp only [runN, Option.some.injEq] at h
    exact .inl ⟨rfl, h.symm⟩
  | cons c L =>
    simp only [runN, brs] at h
    rw [if_neg (by omega), pick_ones (fun k : Nat => .cut ((k : Nat) : Int)) H.cards c] at h
    split at h
    · rename_i u hu
      obtain ⟨i, hi, rfl⟩ := Option.map_eq_some_iff.1 hu
      obtain ⟨hc, hi⟩ := List.getElem?_eq_some_iff.1 hi
      subst hi
      cases L with
      | nil =>
        simp only [runN, Option.some.injEq] at h
        exact .inr ⟨c, hc, rfl, h.symm⟩
      | cons d L =>
        simp only [runN, brs] at h
        rw [if_pos (by omega)] at h
        cases h
    · cases h
/-- The places of the cards that are left. -/
def restI (n g : Nat) : List Nat := (List.range n).filter fun i => !g.testBit i
theorem erase_filter : ∀ (L : List Nat), L.Nodup → ∀ (c : Nat) (hc : c < L.length), L.eraseIdx c = L.filter fun i => i != L[c]
  | [], _, c, hc => by simp at hc
  | x :: L, hnd, 0, hc => by
    obtain ⟨h1, h2⟩ := List.nodup_cons.1 hnd
    simp only [List.eraseIdx_cons_zero, List.getElem_cons_zero]
    rw [List.filter_cons]
    simp only [bne_self_eq_false, Bool.false_eq_true, if_false]
    exact (List.filter_eq_self.2 fun y hy => by
      have : y ≠ x := fun e => h1 (by rw [← e]; exact hy)
      simpa using this).symm
  | x :: L, hnd, c + 1, hc => by
    obtain ⟨h1, h2⟩ := List.nodup_cons.1 hnd
    have hc' : c < L.length := by simpa using hc
    simp only [List.eraseIdx_cons_succ, List.getElem_cons_succ]
    have hx : x ≠ L[c] := fun e => h1 (by rw [e]; exact List.getElem_mem hc')
    rw [List.filter_cons, if_pos (by simpa using hx), erase_filter L h2 c hc']
theorem map_erase (f : Nat → Nat) : ∀ (L : List Nat) (c : Nat), (L.eraseIdx c).map f = (L.map f).eraseIdx c
  | [], c => by simp
  | x :: L, 0 => by simp
  | x :: L, c + 1 => by
    rw [List.eraseIdx_cons_succ, List.map_cons, List.map_cons, List.eraseIdx_cons_succ, map_erase f L c]
theorem rest_nodup (n g : Nat) : (restI n g).Nodup := List.nodup_range.filter _
theorem rest_step (n g c : Nat) (hc : c < (restI n g).length) : restI n (g ||| 2 ^ (restI n g)[c]) = (restI n g).eraseIdx c := by
  have hn := rest_nodup n g
  rw [erase_filter _ hn c hc]
  generalize (restI n g)[c] = j
  unfold restI
  rw [List.filter_filter]
  congr 1
  funext i
  rw [Nat.testBit_or, Nat.testBit_two_pow]
  by_cases e : i = j
  · subst e; simp
  · have e' : ¬ j = i := fun h => e h.symm
    simp [e, e']
/-- The number of what is drawn, and the deck behind it. -/
def numD : List Nat → List Nat → Nat → Nat
  | _, [], k => k
  | D, c :: L, k => numD (D.eraseIdx c) L (k * 8 + D.getD c 0)
theorem run_drawn (H : HV) : ∀ (L : List Nat) (l g k : Nat) (t : St), runN H (.drawn l g k) L = some t →
    L.length ≤ l ∧ ∃ g', t = .drawn (l - L.length) g' (numD ((restI H.cards.length g).map fun i => H.cards.getD i 0) L k) ∧ (restI H.cards.length g').length + L.length = (restI H.cards.length g).length
  | [], l, g, k, t, h => by
    simp only [runN, Option.some.injEq] at h
    subst h
    exact ⟨by simp, g, by simp [numD], by simp⟩
  | c :: L, l, g, k, t, h => by
    simp only [runN, brs] at h
    by_cases h0 : l = 0
    · rw [if_pos h0] at h; cases h
    · rw [if_neg h0, pick_ones (fun i => .drawn (l - 1) (g ||| 2 ^ i) (k * 8 + H.cards.getD i 0)) _ c] at h
      split at h
      · rename_i u hu
        obtain ⟨i, hi, rfl⟩ := Option.map_eq_some_iff.1 hu
        obtain ⟨hc, hi⟩ := List.getElem?_eq_some_iff.1 hi
        have hc' : c < (restI H.cards.length g).length := hc
        have hi' : (restI H.cards.length g)[c] = i := hi
        obtain ⟨h1, g', h2, h3⟩ := run_drawn H L _ _ _ t h
        have hst := rest_step H.cards.length g c hc'
        rw [hi'] at hst
        rw [hst] at h2 h3
        rw [List.length_eraseIdx_of_lt hc'] at h3
        refine ⟨by simp only [List.length_cons]; omega, g', ?_, by simp only [List.length_cons]; omega⟩
        rw [h2, List.length_cons, show l - 1 - L.length = l - (L.length + 1) by omega]
        congr 1
        rw [numD, map_erase]
        congr 2
        simp only [List.getD_eq_getElem?_getD, List.getElem?_map, List.getElem?_eq_getElem hc', hi', Option.map_some, Option.getD_some]
      · cases h
end Go.Proofs.Ytmjnelkeiogdcaa
