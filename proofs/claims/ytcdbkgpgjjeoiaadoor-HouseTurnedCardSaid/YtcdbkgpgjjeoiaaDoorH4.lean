/- The plain law of the houses: sets of places, ties in order. -/
import Derived.Test.YtcdbkgpgjjeoiaaDoorPlain
import Derived.Shelf.SlSortCmp.NoneTotal
namespace Go.Proofs.YtcdbkgpgjjeoiaaDoor
open Go
set_option maxRecDepth 100000

/-- How far two places are apart. -/
def apN (x y : Nat) : Nat := min ((x + 12 - y) % 12) ((y + 12 - x) % 12)
def nxt (x y : Nat) : Bool := apN x y == 1
theorem nxt_comm (x y : Nat) : nxt x y = nxt y x := by unfold nxt apN; rw [Nat.min_comm]
/-- Kind, from, to: places from 0 on. -/
abbrev Tie3 := Nat × Nat × Nat
/-- Whether two houses are tied in a way, shown by two houses. -/
def isT (h : Nat → Nat) (a b : Nat) (t : Tie3) : Bool :=
  if t.1 = 1 then t.2.1 == a && t.2.2 == b && h a == h b
  else if t.1 = 2 then (t.2.2 == b && t.2.1 != a && nxt t.2.1 b && h t.2.1 == h a) || (t.2.1 == a && t.2.2 != b && nxt t.2.2 a && h t.2.2 == h b)
  else if t.1 = 3 then (t.2.1 != a && t.2.1 != b && t.2.2 != a && t.2.2 != b) && nxt t.2.1 t.2.2 && h t.2.1 == h a && h t.2.2 == h b
  else if t.1 = 4 then (t.2.1 != a && t.2.1 != b && t.2.2 != a && t.2.2 != b) && t.2.1 != t.2.2 && nxt t.2.1 a && nxt t.2.2 b && h t.2.1 == h t.2.2 && h t.2.1 != h a && h t.2.1 != h b
  else false
/-- The order: by the kind, then by both places. -/
def ltT (s t : Tie3) : Prop := s.1 < t.1 ∨ s.1 = t.1 ∧ (s.2.1 < t.2.1 ∨ s.2.1 = t.2.1 ∧ s.2.2 < t.2.2)
theorem ltT_irrefl (s : Tie3) : ¬ ltT s s := by unfold ltT; omega
theorem ltT_trans {s t u : Tie3} (h : ltT s t) (k : ltT t u) : ltT s u := by unfold ltT at *; omega
theorem ltT_total {s t : Tie3} (h : ¬ ltT s t) (k : ¬ ltT t s) : s = t := by
  obtain ⟨a, b, c⟩ := s
  obtain ⟨d, e, f⟩ := t
  unfold ltT at *
  simp only at *
  obtain ⟨h1, h2, h3⟩ : a = d ∧ b = e ∧ c = f := by omega
  rw [h1, h2, h3]
theorem ltT_3 {k x y z : Nat} (h : y < z) : ltT (k, x, y) (k, x, z) := Or.inr ⟨rfl, Or.inr ⟨rfl, h⟩⟩
theorem ltT_2 {k x y z u : Nat} (h : x < z) : ltT (k, x, y) (k, z, u) := Or.inr ⟨rfl, Or.inl h⟩
theorem ltT_1 {k l x y z u : Nat} (h : k < l) : ltT (k, x, y) (l, z, u) := Or.inl h
/-- All of them in order. -/
def allT : List Tie3 := (List.range 4).flatMap fun k => (List.range 12).flatMap fun x => (List.range 12).map fun y => (k + 1, x, y)
theorem mem_allT (t : Tie3) : t ∈ allT ↔ (1 ≤ t.1 ∧ t.1 ≤ 4) ∧ t.2.1 < 12 ∧ t.2.2 < 12 := by
  obtain ⟨k, x, y⟩ := t
  unfold allT
  simp only [List.mem_flatMap, List.mem_range, List.mem_map, Prod.mk.injEq]
  constructor
  · rintro ⟨i, hi, j, hj, l, hl, rfl, rfl, rfl⟩
    omega
  · rintro ⟨⟨h1, h2⟩, h3, h4⟩
    exact ⟨k - 1, by omega, x, h3, y, h4, by omega, rfl, rfl⟩
theorem pw_map {α β : Type} {R : β → β → Prop} {f : α → β} {l : List α} {S : α → α → Prop} (hl : l.Pairwise S) (h : ∀ a b, S a b → R (f a) (f b)) : (l.map f).Pairwise R := by
  rw [List.pairwise_map]
  exact hl.imp fun hs => h _ _ hs
theorem pw_flat {α β : Type} {R : β → β → Prop} {f : α → List β} {l : List α} {S : α → α → Prop} (hl : l.Pairwise S) (h1 : ∀ a, a ∈ l → (f a).Pairwise R) (h2 : ∀ a b, S a b → ∀ x ∈ f a, ∀ y ∈ f b, R x y) : (l.flatMap f).Pairwise R :=
  List.pairwise_flatMap.2 ⟨h1, hl.imp fun hs => h2 _ _ hs⟩
theorem allT_sorted : allT.Pairwise ltT := by
  unfold allT
  refine pw_flat List.pairwise_lt_range (fun k _ => pw_flat List.pairwise_lt_range (fun x _ => pw_map List.pairwise_lt_range fun y z hyz => ltT_3 hyz) ?_) ?_
  · intro x z hxz s hs t ht
    obtain ⟨y, _, rfl⟩ := List.mem_map.1 hs
    obtain ⟨u, _, rfl⟩ := List.mem_map.1 ht
    exact ltT_2 hxz
  · intro i j hij s hs t ht
    simp only [List.mem_flatMap, List.mem_map] at hs ht
    obtain ⟨x, _, y, _, rfl⟩ := hs
    obtain ⟨u, _, v, _, rfl⟩ := ht
    exact ltT_1 (by omega)
/-- The ties of two houses, in order. -/
def tiesR (h : Nat → Nat) (a b : Nat) : List Tie3 := allT.filter (isT h a b)
theorem mem_tiesR (h : Nat → Nat) (a b : Nat) (t : Tie3) : t ∈ tiesR h a b ↔ ((1 ≤ t.1 ∧ t.1 ≤ 4) ∧ t.2.1 < 12 ∧ t.2.2 < 12) ∧ isT h a b t = true := by
  unfold tiesR
  rw [List.mem_filter, mem_allT]
theorem tiesR_sorted (h : Nat → Nat) (a b : Nat) : (tiesR h a b).Pairwise ltT := allT_sorted.filter _

/-- The places of a set, in order. -/
def bitsL (p : Nat → Bool) : List Nat := (List.range 12).filter p
theorem mem_bitsL (p : Nat → Bool) (x : Nat) : x ∈ bitsL p ↔ x < 12 ∧ p x = true := by
  unfold bitsL
  rw [List.mem_filter, List.mem_range]
theorem bitsL_sorted (p : Nat → Bool) : (bitsL p).Pairwise (· < ·) := List.pairwise_lt_range.filter _
/-- The ties of two houses, as they are found. -/
def tie1 (h : Nat → Nat) (a b : Nat) : List Tie3 := if h a = h b then [(1, a, b)] else []
def tie2a (h : Nat → Nat) (a b : Nat) : List Tie3 := (bitsL fun x => h x == h a && nxt x b && x != a).map fun x => (2, x, b)
def tie2b (h : Nat → Nat) (a b : Nat) : List Tie3 := (bitsL fun y => h y == h b && nxt y a && y != b).map fun y => (2, a, y)
def tie3 (h : Nat → Nat) (a b : Nat) : List Tie3 := (bitsL fun x => h x == h a && x != a && x != b).flatMap fun x => (bitsL fun y => h y == h b && nxt y x && y != a && y != b).map fun y => (3, x, y)
def tie4 (h : Nat → Nat) (a b : Nat) : List Tie3 := (bitsL fun x => nxt x a && x != a && x != b).flatMap fun x => if h x = h a ∨ h x = h b then [] else (bitsL fun y => h y == h x && nxt y b && y != a && y != b && y != x).map fun y => (4, x, y)
def tiesL (h : Nat → Nat) (a b : Nat) : List Tie3 := tie1 h a b ++ tie2a h a b ++ tie2b h a b ++ tie3 h a b ++ tie4 h a b
theorem nxt_ne (x y : Nat) (h : nxt x y = true) : x ≠ y := by
  rintro rfl
  unfold nxt apN at h
  have e : (x + 12 - x) % 12 = 0 := by rw [Nat.add_sub_cancel_left]
  rw [e] at h
  exact absurd h (by decide)

theorem mem_tie1 (h : Nat → Nat) (a b : Nat) (t : Tie3) : t ∈ tie1 h a b ↔ h a = h b ∧ t = (1, a, b) := by
  unfold tie1
  split
  · rename_i e; simp [e]
  · rename_i e; simp [e]
theorem mem_tie2a (h : Nat → Nat) (a b : Nat) (t : Tie3) : t ∈ tie2a h a b ↔ ∃ x, x < 12 ∧ h x = h a ∧ nxt x b = true ∧ x ≠ a ∧ t = (2, x, b) := by
  unfold tie2a
  simp only [List.mem_map, mem_bitsL, Bool.and_eq_true, beq_iff_eq, bne_iff_ne]
  constructor
  · rintro ⟨x, ⟨h1, ⟨h2, h3⟩, h4⟩, rfl⟩; exact ⟨x, h1, h2, h3, h4, rfl⟩
  · rintro ⟨x, h1, h2, h3, h4, rfl⟩; exact ⟨x, ⟨h1, ⟨h2, h3⟩, h4⟩, rfl⟩
theorem mem_tie2b (h : Nat → Nat) (a b : Nat) (t : Tie3) : t ∈ tie2b h a b ↔ ∃ y, y < 12 ∧ h y = h b ∧ nxt y a = true ∧ y ≠ b ∧ t = (2, a, y) := by
  unfold tie2b
  simp only [List.mem_map, mem_bitsL, Bool.and_eq_true, beq_iff_eq, bne_iff_ne]
  constructor
  · rintro ⟨x, ⟨h1, ⟨h2, h3⟩, h4⟩, rfl⟩; exact ⟨x, h1, h2, h3, h4, rfl⟩
  · rintro ⟨x, h1, h2, h3, h4, rfl⟩; exact ⟨x, ⟨h1, ⟨h2, h3⟩, h4⟩, rfl⟩
theorem mem_tie3 (h : Nat → Nat) (a b : Nat) (t : Tie3) : t ∈ tie3 h a b ↔ ∃ x y, (x < 12 ∧ h x = h a ∧ x ≠ a ∧ x ≠ b) ∧ (y < 12 ∧ h y = h b ∧ nxt y x = true ∧ y ≠ a ∧ y ≠ b) ∧ t = (3, x, y) := by
  unfold tie3
  simp only [List.mem_flatMap, List.mem_map, mem_bitsL, Bool.and_eq_true, beq_iff_eq, bne_iff_ne]
  constructor
  · rintro ⟨x, ⟨h1, ⟨h2, h3⟩, h4⟩, y, ⟨k1, ⟨⟨k2, k3⟩, k4⟩, k5⟩, rfl⟩; exact ⟨x, y, ⟨h1, h2, h3, h4⟩, ⟨k1, k2, k3, k4, k5⟩, rfl⟩
  · rintro ⟨x, y, ⟨h1, h2, h3, h4⟩, ⟨k1, k2, k3, k4, k5⟩, rfl⟩; exact ⟨x, ⟨h1, ⟨h2, h3⟩, h4⟩, y, ⟨k1, ⟨⟨k2, k3⟩, k4⟩, k5⟩, rfl⟩
theorem mem_tie4 (h : Nat → Nat) (a b : Nat) (t : Tie3) : t ∈ tie4 h a b ↔ ∃ x y, (x < 12 ∧ nxt x a = true ∧ x ≠ a ∧ x ≠ b ∧ h x ≠ h a ∧ h x ≠ h b) ∧ (y < 12 ∧ h y = h x ∧ nxt y b = true ∧ y ≠ a ∧ y ≠ b ∧ y ≠ x) ∧ t = (4, x, y) := by
  unfold tie4
  simp only [List.mem_flatMap, mem_bitsL, Bool.and_eq_true, bne_iff_ne]
  constructor
  · rintro ⟨x, ⟨h1, ⟨h2, h3⟩, h4⟩, ht⟩
    split at ht
    · cases ht
    · rename_i hne
      simp only [List.mem_map, mem_bitsL, Bool.and_eq_true, beq_iff_eq, bne_iff_ne] at ht
      obtain ⟨y, ⟨k1, ⟨⟨⟨k2, k3⟩, k4⟩, k5⟩, k6⟩, rfl⟩ := ht
      exact ⟨x, y, ⟨h1, h2, h3, h4, fun e => hne (.inl e), fun e => hne (.inr e)⟩, ⟨k1, k2, k3, k4, k5, k6⟩, rfl⟩
  · rintro ⟨x, y, ⟨h1, h2, h3, h4, h5, h6⟩, ⟨k1, k2, k3, k4, k5, k6⟩, rfl⟩
    refine ⟨x, ⟨h1, ⟨h2, h3⟩, h4⟩, ?_⟩
    rw [if_neg (fun e => e.elim h5 h6)]
    simp only [List.mem_map, mem_bitsL, Bool.and_eq_true, beq_iff_eq, bne_iff_ne]
    exact ⟨y, ⟨k1, ⟨⟨⟨k2, k3⟩, k4⟩, k5⟩, k6⟩, rfl⟩
theorem mem_tiesL (h : Nat → Nat) (a b : Nat) (ha : a < 12) (hb : b < 12) (hab : a ≠ b) (t : Tie3) : t ∈ tiesL h a b ↔ t ∈ tiesR h a b := by
  rw [mem_tiesR]
  unfold tiesL
  simp only [List.mem_append, mem_tie1, mem_tie2a, mem_tie2b, mem_tie3, mem_tie4]
  obtain ⟨k, x, y⟩ := t
  simp only [Prod.mk.injEq]
  constructor
  · rintro ((((⟨h1, rfl, rfl, rfl⟩ | ⟨x', h1, h2, h3, h4, rfl, rfl, rfl⟩) | ⟨y', h1, h2, h3, h4, rfl, rfl, rfl⟩) | ⟨x', y', ⟨h1, h2, h3, h4⟩, ⟨k1, k2, k3, k4, k5⟩, rfl, rfl, rfl⟩) | ⟨x', y', ⟨h1, h2, h3, h4, h5, h6⟩, ⟨k1, k2, k3, k4, k5, k6⟩, rfl, rfl, rfl⟩)
    · exact ⟨⟨⟨by omega, by omega⟩, ha, hb⟩, by simp [isT, h1]⟩
    · exact ⟨⟨⟨by omega, by omega⟩, h1, hb⟩, by simp [isT, h2, h3, h4]⟩
    · exact ⟨⟨⟨by omega, by omega⟩, ha, h1⟩, by simp [isT, h2, h3, h4]⟩
    · exact ⟨⟨⟨by omega, by omega⟩, h1, k1⟩, by rw [nxt_comm] at k3; simp [isT, h2, h3, h4, k2, k3, k4, k5]⟩
    · exact ⟨⟨⟨by omega, by omega⟩, h1, k1⟩, by simp [isT, h2, h3, h4, h5, h6, k2, k3, k4, k5, Ne.symm k6]⟩
  · rintro ⟨⟨⟨g1, g2⟩, gx, gy⟩, ht⟩
    have hk : k = 1 ∨ k = 2 ∨ k = 3 ∨ k = 4 := by omega
    rcases hk with rfl | rfl | rfl | rfl
    · simp [isT] at ht
      exact .inl (.inl (.inl (.inl ⟨ht.2, rfl, ht.1.1, ht.1.2⟩)))
    · simp [isT] at ht
      rcases ht with ⟨⟨⟨h1, h2⟩, h3⟩, h4⟩ | ⟨⟨⟨h1, h2⟩, h3⟩, h4⟩
      · exact .inl (.inl (.inl (.inr ⟨x, gx, h4, h3, h2, rfl, rfl, h1⟩)))
      · exact .inl (.inl (.inr ⟨y, gy, h4, h3, h2, rfl, h1, rfl⟩))
    · simp [isT] at ht
      obtain ⟨⟨⟨⟨⟨⟨h1, h2⟩, h3⟩, h4⟩, h5⟩, h6⟩, h7⟩ := ht
      exact .inl (.inr ⟨x, y, ⟨gx, h6, h1, h2⟩, ⟨gy, h7, by rw [nxt_comm]; exact h5, h3, h4⟩, rfl, rfl, rfl⟩)
    · simp [isT] at ht
      obtain ⟨⟨⟨⟨⟨⟨⟨⟨⟨h1, h2⟩, h3⟩, h4⟩, h5⟩, h6⟩, h7⟩, h8⟩, h9⟩, h10⟩ := ht
      exact .inr ⟨x, y, ⟨gx, h6, h1, h2, h9, h10⟩, ⟨gy, h8.symm, h7, h3, h4, Ne.symm h5⟩, rfl, rfl, rfl⟩
theorem tiesL_nodup (h : Nat → Nat) (a b : Nat) : (tiesL h a b).Nodup := by
  unfold tiesL
  have lt_ne : ∀ {l : List Tie3}, l.Pairwise ltT → l.Nodup := fun hl => hl.imp fun hs e => by subst e; exact ltT_irrefl _ hs
  have n1 : (tie1 h a b).Nodup := by unfold tie1; split <;> simp
  have n2 : (tie2a h a b).Nodup := lt_ne (by
    unfold tie2a
    exact pw_map (bitsL_sorted _) fun x y hxy => ltT_2 hxy)
  have n3 : (tie2b h a b).Nodup := lt_ne (by
    unfold tie2b
    exact pw_map (bitsL_sorted _) fun x y hxy => ltT_3 hxy)
  have n4 : (tie3 h a b).Nodup := lt_ne (by
    unfold tie3
    refine pw_flat (bitsL_sorted _) (fun x _ => pw_map (bitsL_sorted _) fun y z hyz => ltT_3 hyz) ?_
    intro x z hxz s hs t ht
    obtain ⟨y, _, rfl⟩ := List.mem_map.1 hs
    obtain ⟨u, _, rfl⟩ := List.mem_map.1 ht
    exact ltT_2 hxz)
  have n5 : (tie4 h a b).Nodup := lt_ne (by
    unfold tie4
    refine pw_flat (bitsL_sorted _) (fun x _ => ?_) ?_
    · split
      · exact List.Pairwise.nil
      · exact pw_map (bitsL_sorted _) fun y z hyz => ltT_3 hyz
    · intro x z hxz s hs t ht
      split at hs
      · cases hs
      · split at ht
        · cases ht
        · obtain ⟨y, _, rfl⟩ := List.mem_map.1 hs
          obtain ⟨u, _, rfl⟩ := List.mem_map.1 ht
          exact ltT_2 hxz)
  simp only [List.nodup_append]
  refine ⟨⟨⟨⟨n1, n2, ?_⟩, n3, ?_⟩, n4, ?_⟩, n5, ?_⟩
  · intro s hs t ht e
    subst e
    rw [mem_tie1] at hs
    rw [mem_tie2a] at ht
    obtain ⟨_, rfl⟩ := hs
    obtain ⟨x, _, _, _, _, e⟩ := ht
    cases e
  · intro s hs t ht e
    subst e
    rw [List.mem_append, mem_tie1, mem_tie2a] at hs
    rw [mem_tie2b] at ht
    obtain ⟨y, _, _, _, hy, rfl⟩ := ht
    rcases hs with ⟨_, e⟩ | ⟨x, _, _, _, hx, e⟩
    · cases e
    · injection e with _ e; injection e with e1 e2; exact hx e1.symm
  · intro s hs t ht e
    subst e
    simp only [List.mem_append, mem_tie1, mem_tie2a, mem_tie2b] at hs
    rw [mem_tie3] at ht
    obtain ⟨x, y, _, _, rfl⟩ := ht
    rcases hs with (⟨_, e⟩ | ⟨x, _, _, _, _, e⟩) | ⟨x, _, _, _, _, e⟩ <;> cases e
  · intro s hs t ht e
    subst e
    simp only [List.mem_append, mem_tie1, mem_tie2a, mem_tie2b, mem_tie3] at hs
    rw [mem_tie4] at ht
    obtain ⟨x, y, _, _, rfl⟩ := ht
    rcases hs with ((⟨_, e⟩ | ⟨x, _, _, _, _, e⟩) | ⟨x, _, _, _, _, e⟩) | ⟨x, y, _, _, e⟩ <;> cases e
/-- A list in order with the members of the list that was found is that of the ties. -/
theorem ties_sorted (h : Nat → Nat) (a b : Nat) (ha : a < 12) (hb : b < 12) (hab : a ≠ b) (l : List Tie3) (hp : l.Perm (tiesL h a b)) (hs : l.Pairwise fun s t => ¬ ltT t s) : l = tiesR h a b := by
  refine List.Perm.eq_of_pairwise (le := fun s t => ¬ ltT t s) (fun s t _ _ h1 h2 => ltT_total h2 h1) hs ((tiesR_sorted h a b).imp fun h1 h2 => ltT_irrefl _ (ltT_trans h1 h2)) (hp.trans ?_)
  refine (List.perm_ext_iff_of_nodup (tiesL_nodup h a b) ?_).2 (mem_tiesL h a b ha hb hab)
  exact (tiesR_sorted h a b).imp fun hs e => by subst e; exact ltT_irrefl _ hs
end Go.Proofs.YtcdbkgpgjjeoiaaDoor
/- The plain law of the houses: aspects, verdicts, marks. -/
namespace Go.Proofs.YtcdbkgpgjjeoiaaDoor
open Go
set_option maxRecDepth 100000

/-- The steps at which a house looks at another one. -/
def looks (n : Nat) : Bool := n == 2 || n == 3 || n == 4 || n == 6
/-- The aspects of a house to another one: kind, from, to. -/
def aspR (h : Nat → Nat) (a b : Nat) : List Tie3 := (bitsL fun x => looks (apN x b) && h x == h a).map fun x => (apN x b, x, b)
/-- .. as the program finds them: the places of the figure, each asked. -/
theorem asp_flat (h : Nat → Nat) (a b : Nat) : ((bitsL fun x => h x == h a).flatMap fun x => if looks (apN x b) then [(apN x b, x, b)] else []) = aspR h a b := by
  unfold aspR bitsL
  rw [← List.filter_filter]
  generalize (List.range 12).filter (fun x => h x == h a) = l
  induction l with
  | nil => rfl
  | cons x l ih =>
    rw [List.flatMap_cons, ih, List.filter_cons]
    cases looks (apN x b) <;> simp
theorem asp_kind (h : Nat → Nat) (a b : Nat) (t : Tie3) (ht : t ∈ aspR h a b) : looks t.1 = true := by
  obtain ⟨x, hx, rfl⟩ := List.mem_map.1 ht
  rw [mem_bitsL, Bool.and_eq_true] at hx
  exact hx.2.1
def hard (t : Tie3) : Bool := t.1 == 3 || t.1 == 6
/-- The verdict, as the program finds it. -/
def judgeN (h : Nat → Nat) (a b : Nat) : Nat :=
  match tiesR h a b with
  | t :: _ => if t.1 ≤ 2 then 1 else 2
  | [] => if (aspR h a b).isEmpty || (aspR h a b).any hard then 4 else 3
/-- The least kind of a list. -/
def bestK (l : List Tie3) : Nat := l.foldl (fun m t => min m t.1) 9
theorem bestK_le (l : List Tie3) : ∀ m, l.foldl (fun m t => min m t.1) m ≤ m ∧ ∀ t, t ∈ l → l.foldl (fun m t => min m t.1) m ≤ t.1 := by
  induction l with
  | nil => intro m; exact ⟨Nat.le_refl _, fun t ht => by cases ht⟩
  | cons x l ih =>
    intro m
    rw [List.foldl_cons]
    obtain ⟨h1, h2⟩ := ih (min m x.1)
    refine ⟨by omega, fun t ht => ?_⟩
    rcases List.mem_cons.1 ht with rfl | ht
    · omega
    · exact h2 t ht
theorem bestK_cons (t : Tie3) (l : List Tie3) (ht : t.1 ≤ 4) (h : ∀ s, s ∈ l → t.1 ≤ s.1) : bestK (t :: l) = t.1 := by
  unfold bestK
  rw [List.foldl_cons, show min 9 t.1 = t.1 by omega]
  clear ht
  induction l with
  | nil => rfl
  | cons x l ih =>
    have hx := h x (by simp)
    rw [List.foldl_cons, show min t.1 x.1 = t.1 by omega]
    exact ih fun s hs => h s (by simp [hs])
/-- The verdict, as the reference finds it. -/
def judgeP (h : Nat → Nat) (a b : Nat) : Nat :=
  if bestK (tiesR h a b) ≤ 2 then 1
  else if bestK (tiesR h a b) ≤ 4 then 2
  else if ((aspR h a b).any fun t => t.1 == 2 || t.1 == 4) && !((aspR h a b).any fun t => !(t.1 == 2 || t.1 == 4)) then 3 else 4
theorem looks_hard (n : Nat) (h : looks n = true) : (n == 3 || n == 6) = !(n == 2 || n == 4) := by
  unfold looks at h
  simp only [Bool.or_eq_true, beq_iff_eq] at h
  rcases h with ((rfl | rfl) | rfl) | rfl <;> rfl
theorem judge_same (h : Nat → Nat) (a b : Nat) : judgeN h a b = judgeP h a b := by
  unfold judgeN judgeP
  have hs := tiesR_sorted h a b
  have hm := fun t => (mem_tiesR h a b t).1
  cases hl : tiesR h a b with
  | cons t l =>
    rw [hl] at hs hm
    have h4 := (hm t (by simp)).1.1.2
    have hb : bestK (t :: l) = t.1 := bestK_cons t l h4 fun s hs' => by
      have := (List.pairwise_cons.1 hs).1 s hs'
      unfold ltT at this
      omega
    rw [hb]
    simp only
    by_cases h2 : t.1 ≤ 2
    · rw [if_pos h2, if_pos h2]
    · rw [if_neg h2, if_neg h2, if_pos h4]
  | nil =>
    have hb : bestK [] = 9 := rfl
    rw [hb]
    simp only
    rw [if_neg (show ¬ 9 ≤ 2 by omega), if_neg (show ¬ 9 ≤ 4 by omega)]
    have hk := asp_kind h a b
    have e : (aspR h a b).any hard = (aspR h a b).any fun t => !(t.1 == 2 || t.1 == 4) := by
      generalize aspR h a b = l at *
      clear hl hs hm
      induction l with
      | nil => rfl
      | cons t l ih =>
        rw [List.any_cons, List.any_cons, ih fun s hs => hk s (by simp [hs])]
        congr 1
        exact looks_hard _ (hk t (by simp))
    rw [e]
    cases hx : aspR h a b with
    | nil => rfl
    | cons t l =>
      have ht := hk t (by rw [hx]; simp)
      by_cases hany : ((t :: l).any fun t => !(t.1 == 2 || t.1 == 4)) = true
      · rw [hany]; simp
      · have hany' : ((t :: l).any fun t => !(t.1 == 2 || t.1 == 4)) = false := by simpa using hany
        rw [hany']
        have hg : ((t :: l).any fun t => t.1 == 2 || t.1 == 4) = true := by
          rw [List.any_cons] at hany' ⊢
          cases hq : (t.1 == 2 || t.1 == 4)
          · rw [hq] at hany'; simp at hany'
          · simp
        rw [hg]
        rfl
theorem judgeN_range (h : Nat → Nat) (a b : Nat) : 1 ≤ judgeN h a b ∧ judgeN h a b ≤ 4 := by
  unfold judgeN
  split
  · split <;> omega
  · split <;> omega
end Go.Proofs.YtcdbkgpgjjeoiaaDoor
/- The order of ties, as the comparison tells it. -/
namespace Go.Proofs.YtcdbkgpgjjeoiaaDoor
open Go Go.Sort
set_option maxRecDepth 100000

def cmpN (a b : Nat) : Int := if a < b then -1 else if b < a then 1 else 0
/-- The first of three numbers that is not 0. -/
def or3 (x y z : Int) : Int := if x ≠ 0 then x else if y ≠ 0 then y else z
def cfT (s t : Tie3) : Int := or3 (cmpN s.1 t.1) (cmpN s.2.1 t.2.1) (cmpN s.2.2 t.2.2)
theorem cfT_lt (s t : Tie3) : cfT s t < 0 ↔ ltT s t := by
  unfold cfT or3 cmpN ltT
  constructor
  · intro h
    by_cases h1 : s.1 < t.1
    · exact .inl h1
    · by_cases h2 : t.1 < s.1
      · simp [h1, h2] at h
      · refine .inr ⟨by omega, ?_⟩
        by_cases h3 : s.2.1 < t.2.1
        · exact .inl h3
        · by_cases h4 : t.2.1 < s.2.1
          · simp [h1, h2, h3, h4] at h
          · refine .inr ⟨by omega, ?_⟩
            by_cases h5 : s.2.2 < t.2.2
            · exact h5
            · by_cases h6 : t.2.2 < s.2.2
              · simp [h1, h2, h3, h4, h5, h6] at h
              · simp [h1, h2, h3, h4, h5, h6] at h
  · rintro (h1 | ⟨e1, h3 | ⟨e2, h5⟩⟩)
    · simp [h1]
    · simp [e1, h3]
    · simp [e1, e2, h5]
theorem swoT : SWO (ltOf cfT) := by
  refine ⟨fun x => ?_, fun x y z h k => ?_, fun x y z h k => ?_⟩
  · unfold ltOf
    exact decide_eq_false fun h => ltT_irrefl x ((cfT_lt x x).1 h)
  · unfold ltOf at *
    exact decide_eq_true ((cfT_lt x z).2 (ltT_trans ((cfT_lt x y).1 (of_decide_eq_true h)) ((cfT_lt y z).1 (of_decide_eq_true k))))
  · unfold ltOf at *
    have h1 : ¬ ltT x y := fun e => of_decide_eq_false h ((cfT_lt x y).2 e)
    have k1 : ¬ ltT y z := fun e => of_decide_eq_false k ((cfT_lt y z).2 e)
    refine decide_eq_false fun e => ?_
    have e1 := (cfT_lt x z).1 e
    clear h k e
    unfold ltT at *
    omega
theorem totT : ∀ x y : Tie3, ltOf cfT x y = false → ltOf cfT y x = false → x = y := fun x y h k => by
  unfold ltOf at *
  exact ltT_total (fun e => of_decide_eq_false h ((cfT_lt x y).2 e)) (fun e => of_decide_eq_false k ((cfT_lt y x).2 e))
/-- What the sort leaves of the ties that were found. -/
theorem sort_ties (h : Nat → Nat) (a b : Nat) (ha : a < 12) (hb : b < 12) (hab : a ≠ b) : ((tiesL h a b).mergeSort fun x y => !(ltOf cfT) y x) = tiesR h a b := by
  refine ties_sorted h a b ha hb hab _ (List.mergeSort_perm _ _) ?_
  have hp := List.pairwise_mergeSort (le := fun x y => !(ltOf cfT) y x) (fun x y z h1 h2 => ?_) (fun x y => ?_) (tiesL h a b)
  · refine hp.imp fun {s t} hst => ?_
    intro e
    have : ltOf cfT t s = true := decide_eq_true ((cfT_lt t s).2 e)
    rw [this] at hst
    cases hst
  · have e := swoT.ntrans z y x (by simpa using h2) (by simpa using h1)
    simp [e]
  · cases hxy : ltOf cfT y x
    · simp
    · cases hyx : ltOf cfT x y
      · simp
      · have := swoT.trans x y x hyx hxy
        rw [swoT.irrefl] at this
        cases this
end Go.Proofs.YtcdbkgpgjjeoiaaDoor
