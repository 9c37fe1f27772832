/- The plain law of the houses: both ways, and turned. -/
import Derived.Test.YtcdbkgpgjjeoiaaDoorH7
namespace Go.Proofs.YtcdbkgpgjjeoiaaDoor
open Go
set_option maxRecDepth 100000

def swapT (t : Tie3) : Tie3 := (t.1, t.2.2, t.2.1)
theorem isT_swap (h : Nat → Nat) (a b : Nat) (t : Tie3) : isT h b a (swapT t) = isT h a b t := by
  obtain ⟨k, x, y⟩ := t
  unfold isT swapT
  simp only
  split
  · rw [Bool.and_comm (y == b), Bool.beq_comm (a := h b)]
  split
  · exact Bool.or_comm _ _
  split
  · rw [nxt_comm y x]
    cases x != a <;> cases x != b <;> cases y != a <;> cases y != b <;> cases nxt x y <;> cases h x == h a <;> cases h y == h b <;> rfl
  split
  · have e1 : (h y == h x) = (h x == h y) := Bool.beq_comm
    have e2 : (y != x) = (x != y) := by rw [bne_comm]
    rw [e1, e2]
    by_cases e : h x = h y
    · have e0 : (h y == h y) = true := by simp
      rw [e, e0]
      cases x != a <;> cases x != b <;> cases y != a <;> cases y != b <;> cases nxt x a <;> cases nxt y b <;> cases x != y <;> cases h y != h a <;> cases h y != h b <;> rfl
    · have : (h x == h y) = false := by simpa using e
      rw [this]
      simp
  · rfl
theorem mem_swap (h : Nat → Nat) (a b : Nat) (t : Tie3) : swapT t ∈ tiesR h b a ↔ t ∈ tiesR h a b := by
  rw [mem_tiesR, mem_tiesR, isT_swap]
  obtain ⟨k, x, y⟩ := t
  unfold swapT
  simp only
  constructor
  · rintro ⟨⟨h1, h2, h3⟩, h4⟩; exact ⟨⟨h1, h3, h2⟩, h4⟩
  · rintro ⟨⟨h1, h2, h3⟩, h4⟩; exact ⟨⟨h1, h3, h2⟩, h4⟩
theorem tiesR_nodup (h : Nat → Nat) (a b : Nat) : (tiesR h a b).Nodup := (tiesR_sorted h a b).imp fun hs e => by subst e; exact ltT_irrefl _ hs
theorem map_nodup {α β : Type} {f : α → β} {l : List α} (hl : l.Nodup) (hf : ∀ a, a ∈ l → ∀ b, b ∈ l → f a = f b → a = b) : (l.map f).Nodup := by
  unfold List.Nodup at *
  rw [List.pairwise_map]
  exact hl.imp_of_mem fun ha hb hne e => hne (hf _ ha _ hb e)
theorem swap_swap (t : Tie3) : swapT (swapT t) = t := rfl
theorem ties_swap (h : Nat → Nat) (a b : Nat) : ((tiesR h a b).map swapT).Perm (tiesR h b a) := by
  refine (List.perm_ext_iff_of_nodup (map_nodup (tiesR_nodup h a b) fun s _ t _ e => by rw [← swap_swap s, e, swap_swap]) (tiesR_nodup h b a)).2 fun t => ?_
  rw [List.mem_map]
  constructor
  · rintro ⟨s, hs, rfl⟩; exact (mem_swap h a b s).2 hs
  · intro ht; exact ⟨swapT t, (mem_swap h b a t).2 ht, swap_swap t⟩
/-- What the verdict asks of the ties. -/
theorem judge_ties (h : Nat → Nat) (a b : Nat) : judgeN h a b = if ∃ t ∈ tiesR h a b, t.1 ≤ 2 then 1 else if tiesR h a b ≠ [] then 2 else if (aspR h a b).isEmpty || (aspR h a b).any hard then 4 else 3 := by
  unfold judgeN
  have hs := tiesR_sorted h a b
  cases hl : tiesR h a b with
  | nil =>
    have n1 : ¬ ∃ t ∈ ([] : List Tie3), t.1 ≤ 2 := by rintro ⟨t, ht, _⟩; cases ht
    have n2 : ¬ ([] : List Tie3) ≠ [] := by simp
    rw [if_neg n1, if_neg n2]
  | cons t l =>
    rw [hl] at hs
    by_cases h2 : t.1 ≤ 2
    · simp only [if_pos h2]
      rw [if_pos ⟨t, by simp, h2⟩]
    · simp only [if_neg h2]
      rw [if_neg, if_pos (by simp)]
      rintro ⟨s, hs', hle⟩
      rcases List.mem_cons.1 hs' with rfl | hs'
      · exact h2 hle
      · have := (List.pairwise_cons.1 hs).1 s hs'
        unfold ltT at this
        omega
theorem perm_kind {l m : List Tie3} {f : Tie3 → Tie3} (hf : ∀ t, (f t).1 = t.1) (hp : (l.map f).Perm m) : (∃ t ∈ l, t.1 ≤ 2) ↔ (∃ t ∈ m, t.1 ≤ 2) := by
  constructor
  · rintro ⟨t, ht, h2⟩; exact ⟨f t, hp.mem_iff.1 (List.mem_map.2 ⟨t, ht, rfl⟩), by rw [hf]; exact h2⟩
  · rintro ⟨s, hs, h2⟩
    obtain ⟨t, ht, rfl⟩ := List.mem_map.1 (hp.mem_iff.2 hs)
    exact ⟨t, ht, by rw [← hf]; exact h2⟩
theorem perm_len {l m : List Tie3} {f : Tie3 → Tie3} (hp : (l.map f).Perm m) : l.length = m.length := by
  rw [← hp.length_eq, List.length_map]
theorem judge_le2 (h : Nat → Nat) (a b : Nat) : judgeN h a b ≤ 2 ↔ 0 < (tiesR h a b).length := by
  rw [judge_ties]
  cases hl : tiesR h a b with
  | nil =>
    have n1 : ¬ ∃ t ∈ ([] : List Tie3), t.1 ≤ 2 := by rintro ⟨t, ht, _⟩; cases ht
    have n2 : ¬ ([] : List Tie3) ≠ [] := by simp
    rw [if_neg n1, if_neg n2]
    constructor
    · intro e; exfalso; revert e; split <;> omega
    · intro e; simp at e
  | cons t l =>
    constructor
    · intro _; simp
    · intro _; split
      · omega
      · rw [if_pos (by simp)]; omega
/-- Both ways. -/
theorem judge_swap (h : Nat → Nat) (a b : Nat) (h2 : judgeN h a b ≤ 2 ∨ judgeN h b a ≤ 2) : judgeN h a b = judgeN h b a := by
  have hk := perm_kind (f := swapT) (fun _ => rfl) (ties_swap h a b)
  have hl := perm_len (ties_swap h a b)
  rw [judge_le2, judge_le2] at h2
  have n1 : tiesR h a b ≠ [] := by rw [← List.length_pos_iff]; omega
  have n2 : tiesR h b a ≠ [] := by rw [← List.length_pos_iff]; omega
  rw [judge_ties, judge_ties, if_pos n1, if_pos n2]
  by_cases h1 : ∃ t ∈ tiesR h a b, t.1 ≤ 2
  · rw [if_pos h1, if_pos (hk.1 h1)]
  · rw [if_neg h1, if_neg fun e => h1 (hk.2 e)]
/-- Where a tie stands. -/
theorem tie_stands (h : Nat → Nat) (a b : Nat) (t : Tie3) (ht : t ∈ tiesR h a b) : t.2.1 < 12 ∧ t.2.2 < 12 ∧
    ((t.1 = 1 ∧ t.2.1 = a ∧ t.2.2 = b ∧ h t.2.1 = h t.2.2) ∨ (t.1 = 2 ∧ ((t.2.2 = b ∧ h t.2.1 = h a ∧ apN t.2.1 t.2.2 = 1) ∨ (t.2.1 = a ∧ h t.2.2 = h b ∧ apN t.2.1 t.2.2 = 1)))
      ∨ (t.1 = 3 ∧ h t.2.1 = h a ∧ h t.2.2 = h b ∧ apN t.2.1 t.2.2 = 1 ∧ t.2.1 ≠ a ∧ t.2.2 ≠ b) ∨ (t.1 = 4 ∧ h t.2.1 = h t.2.2 ∧ h t.2.1 ≠ h a ∧ h t.2.1 ≠ h b ∧ apN t.2.1 a = 1 ∧ apN t.2.2 b = 1)) := by
  obtain ⟨⟨⟨g1, g2⟩, gx, gy⟩, hi⟩ := (mem_tiesR h a b t).1 ht
  obtain ⟨k, x, y⟩ := t
  simp only at *
  refine ⟨gx, gy, ?_⟩
  have hk : k = 1 ∨ k = 2 ∨ k = 3 ∨ k = 4 := by omega
  rcases hk with rfl | rfl | rfl | rfl
  · simp [isT] at hi
    exact .inl ⟨rfl, hi.1.1, hi.1.2, by rw [hi.1.1, hi.1.2]; exact hi.2⟩
  · simp [isT] at hi
    refine .inr (.inl ⟨rfl, ?_⟩)
    rcases hi with ⟨⟨⟨h1, h2⟩, h3⟩, h4⟩ | ⟨⟨⟨h1, h2⟩, h3⟩, h4⟩
    · refine .inl ⟨h1, h4, ?_⟩
      rw [h1]
      simpa [nxt] using h3
    · refine .inr ⟨h1, h4, ?_⟩
      rw [h1]
      rw [nxt_comm] at h3
      simpa [nxt] using h3
  · simp [isT] at hi
    obtain ⟨⟨⟨⟨⟨⟨h1, h2⟩, h3⟩, h4⟩, h5⟩, h6⟩, h7⟩ := hi
    exact .inr (.inr (.inl ⟨rfl, h6, h7, by simpa [nxt] using h5, h1, h4⟩))
  · simp [isT] at hi
    obtain ⟨⟨⟨⟨⟨⟨⟨⟨⟨h1, h2⟩, h3⟩, h4⟩, h5⟩, h6⟩, h7⟩, h8⟩, h9⟩, h10⟩ := hi
    exact .inr (.inr (.inr ⟨rfl, h8, h9, h10, by simpa [nxt] using h6, by simpa [nxt] using h7⟩))
/-- Turned. -/
def rotN (n x : Nat) : Nat := (x + n) % 12
theorem rotN_lt (n x : Nat) : rotN n x < 12 := Nat.mod_lt _ (by omega)
theorem rotN_inj {n x y : Nat} (hx : x < 12) (hy : y < 12) (e : rotN n x = rotN n y) : x = y := by unfold rotN at e; omega
def backN (n x : Nat) : Nat := (x + 12 - n % 12) % 12
theorem back_rot (n x : Nat) (hx : x < 12) : rotN n (backN n x) = x := by unfold rotN backN; omega
theorem backN_lt (n x : Nat) : backN n x < 12 := Nat.mod_lt _ (by omega)
theorem apN_rot (n x y : Nat) (hx : x < 12) (hy : y < 12) : apN (rotN n x) (rotN n y) = apN x y := by
  have e : ∀ n x y : Fin 12, apN (rotN n.1 x.1) (rotN n.1 y.1) = apN x.1 y.1 := by decide +kernel
  have h := e ⟨n % 12, Nat.mod_lt _ (by omega)⟩ ⟨x, hx⟩ ⟨y, hy⟩
  have r : ∀ z, rotN (n % 12) z = rotN n z := fun z => by unfold rotN; omega
  simpa only [r] using h
theorem beq_rot (n x a : Nat) (hx : x < 12) (ha : a < 12) : (rotN n x == rotN n a) = (x == a) := by
  by_cases e : x = a
  · subst e; simp
  · have : rotN n x ≠ rotN n a := fun h => e (rotN_inj hx ha h)
    rw [beq_false_of_ne this, beq_false_of_ne e]
def turnT (n : Nat) (t : Tie3) : Tie3 := (t.1, rotN n t.2.1, rotN n t.2.2)
theorem isT_rot (h k : Nat → Nat) (n : Nat) (hk : ∀ i, i < 12 → k (rotN n i) = h i) (a b : Nat) (ha : a < 12) (hb : b < 12) (t : Tie3) (hx : t.2.1 < 12) (hy : t.2.2 < 12) : isT k (rotN n a) (rotN n b) (turnT n t) = isT h a b t := by
  obtain ⟨q, x, y⟩ := t
  unfold isT turnT nxt
  simp only at *
  simp only [bne, beq_rot n x a hx ha, beq_rot n x b hx hb, beq_rot n y a hy ha, beq_rot n y b hy hb, beq_rot n x y hx hy, hk a ha, hk b hb, hk x hx, hk y hy, apN_rot n x b hx hb, apN_rot n y a hy ha, apN_rot n x y hx hy, apN_rot n x a hx ha, apN_rot n y b hy hb]
theorem ties_turn (h k : Nat → Nat) (n : Nat) (hk : ∀ i, i < 12 → k (rotN n i) = h i) (a b : Nat) (ha : a < 12) (hb : b < 12) : ((tiesR h a b).map (turnT n)).Perm (tiesR k (rotN n a) (rotN n b)) := by
  have hmem := fun t => mem_tiesR h a b t
  refine (List.perm_ext_iff_of_nodup (map_nodup (tiesR_nodup h a b) fun s hs t ht e => ?_) (tiesR_nodup k _ _)).2 fun t => ?_
  · have h1 := ((hmem s).1 hs).1
    have h2 := ((hmem t).1 ht).1
    obtain ⟨q, x, y⟩ := s
    obtain ⟨q', x', y'⟩ := t
    unfold turnT at e
    simp only [Prod.mk.injEq] at *
    exact ⟨e.1, rotN_inj h1.2.1 h2.2.1 e.2.1, rotN_inj h1.2.2 h2.2.2 e.2.2⟩
  · rw [List.mem_map, mem_tiesR]
    constructor
    · rintro ⟨s, hs, rfl⟩
      obtain ⟨⟨h1, h2, h3⟩, h4⟩ := (hmem s).1 hs
      exact ⟨⟨h1, rotN_lt _ _, rotN_lt _ _⟩, by rw [isT_rot h k n hk a b ha hb s h2 h3]; exact h4⟩
    · rintro ⟨⟨h1, h2, h3⟩, h4⟩
      have e : turnT n (t.1, backN n t.2.1, backN n t.2.2) = t := by
        obtain ⟨q, x, y⟩ := t
        unfold turnT
        simp only at *
        rw [back_rot n x h2, back_rot n y h3]
      refine ⟨(t.1, backN n t.2.1, backN n t.2.2), ?_, e⟩
      rw [mem_tiesR]
      refine ⟨⟨h1, backN_lt _ _, backN_lt _ _⟩, ?_⟩
      rw [← isT_rot h k n hk a b ha hb _ (backN_lt _ _) (backN_lt _ _), e]
      exact h4
theorem mem_aspR (h : Nat → Nat) (a b : Nat) (t : Tie3) : t ∈ aspR h a b ↔ t.2.1 < 12 ∧ h t.2.1 = h a ∧ looks t.1 = true ∧ t.1 = apN t.2.1 b ∧ t.2.2 = b := by
  unfold aspR
  simp only [List.mem_map, mem_bitsL, Bool.and_eq_true, beq_iff_eq]
  constructor
  · rintro ⟨x, ⟨h1, h2, h3⟩, rfl⟩; exact ⟨h1, h3, h2, rfl, rfl⟩
  · obtain ⟨q, x, y⟩ := t
    simp only
    rintro ⟨h1, h2, h3, rfl, rfl⟩
    exact ⟨x, ⟨h1, h3, h2⟩, rfl⟩
theorem aspR_nodup (h : Nat → Nat) (a b : Nat) : (aspR h a b).Nodup :=
  map_nodup ((bitsL_sorted _).imp fun hs => Nat.ne_of_lt hs) fun s _ t _ e => by
    injection e with _ e
    injection e with e _
theorem asps_turn (h k : Nat → Nat) (n : Nat) (hk : ∀ i, i < 12 → k (rotN n i) = h i) (a b : Nat) (ha : a < 12) (hb : b < 12) : ((aspR h a b).map (turnT n)).Perm (aspR k (rotN n a) (rotN n b)) := by
  refine (List.perm_ext_iff_of_nodup (map_nodup (aspR_nodup h a b) fun s hs t ht e => ?_) (aspR_nodup k _ _)).2 fun t => ?_
  · have h1 := (mem_aspR h a b s).1 hs
    have h2 := (mem_aspR h a b t).1 ht
    obtain ⟨q, x, y⟩ := s
    obtain ⟨q', x', y'⟩ := t
    unfold turnT at e
    simp only [Prod.mk.injEq] at *
    exact ⟨e.1, rotN_inj h1.1 h2.1 e.2.1, by rw [h1.2.2.2.2, h2.2.2.2.2]⟩
  · rw [List.mem_map, mem_aspR]
    constructor
    · rintro ⟨s, hs, rfl⟩
      obtain ⟨h1, h2, h3, h4, h5⟩ := (mem_aspR h a b s).1 hs
      obtain ⟨q, x, y⟩ := s
      simp only at *
      unfold turnT
      refine ⟨rotN_lt _ _, ?_, h3, ?_, ?_⟩
      · simp only; rw [hk x h1, hk a ha, h2]
      · simp only; rw [apN_rot n x b h1 hb, h4]
      · simp only; rw [h5]
    · rintro ⟨h1, h2, h3, h4, h5⟩
      obtain ⟨q, x, y⟩ := t
      simp only at *
      refine ⟨(q, backN n x, b), (mem_aspR h a b _).2 ⟨backN_lt _ _, ?_, h3, ?_, rfl⟩, ?_⟩
      · simp only; rw [← hk _ (backN_lt n x), back_rot n x h1, h2, hk a ha]
      · simp only; rw [h4, ← apN_rot n _ b (backN_lt n x) hb, back_rot n x h1]
      · unfold turnT; simp only; rw [back_rot n x h1, h5]
theorem judge_turn (h k : Nat → Nat) (n : Nat) (hk : ∀ i, i < 12 → k (rotN n i) = h i) (a b : Nat) (ha : a < 12) (hb : b < 12) : judgeN k (rotN n a) (rotN n b) = judgeN h a b := by
  have p1 := ties_turn h k n hk a b ha hb
  have p2 := asps_turn h k n hk a b ha hb
  have hk1 := perm_kind (f := turnT n) (fun _ => rfl) p1
  have hl1 := perm_len p1
  have hl2 := perm_len p2
  have e1 : (tiesR k (rotN n a) (rotN n b) ≠ []) ↔ (tiesR h a b ≠ []) := by
    rw [← List.length_pos_iff, ← List.length_pos_iff, hl1]
  have e2 : (aspR k (rotN n a) (rotN n b)).isEmpty = (aspR h a b).isEmpty := by
    rw [Bool.eq_iff_iff, List.isEmpty_iff_length_eq_zero, List.isEmpty_iff_length_eq_zero, hl2]
  have e3 : (aspR k (rotN n a) (rotN n b)).any hard = (aspR h a b).any hard := by
    rw [Bool.eq_iff_iff, List.any_eq_true, List.any_eq_true]
    constructor
    · rintro ⟨s, hs, h2⟩
      obtain ⟨t, ht, rfl⟩ := List.mem_map.1 (p2.mem_iff.2 hs)
      exact ⟨t, ht, h2⟩
    · rintro ⟨t, ht, h2⟩
      exact ⟨turnT n t, p2.mem_iff.1 (List.mem_map.2 ⟨t, ht, rfl⟩), h2⟩
  rw [judge_ties, judge_ties, e2, e3]
  simp only [hk1, e1]
/-- The marks stay. -/
theorem mks_sum (h : Nat → Nat) : mks h 12 = ((List.range 12).map fun i => mk (h i)).sum := by
  show _ = (List.map _ [0, 1, 2, 3, 4, 5, 6, 7, 8, 9, 10, 11]).sum
  simp only [mks, List.map_cons, List.map_nil, List.sum_cons, List.sum_nil]
  omega
theorem rot_perm (n : Nat) : ((List.range 12).map (rotN n)).Perm (List.range 12) := by
  have e : ∀ n : Fin 12, ((List.range 12).map (rotN n.1)).Perm (List.range 12) := by decide +kernel
  have h := e ⟨n % 12, Nat.mod_lt _ (by omega)⟩
  have r : rotN (n % 12) = rotN n := by funext z; unfold rotN; omega
  simpa only [r] using h
theorem mks_turn (h k : Nat → Nat) (n : Nat) (hk : ∀ i, i < 12 → k (rotN n i) = h i) : mks k 12 = mks h 12 := by
  rw [mks_sum, mks_sum, ← ((rot_perm n).map fun i => mk (k i)).sum_nat, List.map_map]
  congr 1
  exact List.map_congr_left fun i hi => by
    show mk (k (rotN n i)) = _
    rw [hk i (List.mem_range.1 hi)]
end Go.Proofs.YtcdbkgpgjjeoiaaDoor
