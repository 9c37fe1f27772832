/- Walks of package hand: Check of any hand. -/
import Derived.Test.YtmjnelkeiogdcaaHU
import Derived.Test.YtmjnelkeiogdcaaP6
set_option linter.unusedSimpArgs false
set_option linter.unusedVariables false
namespace Go.Proofs.Ytmjnelkeiogdcaa
open Go Go.RowKit Go.Shelf
set_option maxRecDepth 100000

def toH (R : RH) : HV := ⟨R.kind.toNat, R.count.toNat, R.faces.map fun f => (f.1.toNat, f.2.toNat), R.low, R.high, R.group.toNat, R.changes.toNat, R.cards.map Int.toNat⟩
/-- The stalks last for all changes. -/
def LastR (R : RH) : Prop := ∀ k s, Reach (toH R) (.divided (toH R).changes (toH R).count) k s → okD s = true
open Classical in
noncomputable def okR (R : RH) : Bool :=
  if R.kind = 1 then inB R.count 1 8 && inB R.faces.length 1 20 && !R.faces.any badF && bareB 1 R.count R.faces.length R.low R.high R.group R.changes R.cards.length
  else if R.kind = 2 then inB R.low 1 R.high && decide (R.high ≤ 1000) && bareB 2 R.count R.faces.length R.low R.high R.group R.changes R.cards.length
  else if R.kind = 3 then inB R.group 2 8 && inB R.count (2 * R.group + 1) 64 && inB R.changes 1 5 && decide (LastR R) && bareB 3 R.count R.faces.length R.low R.high R.group R.changes R.cards.length
  else if R.kind = 4 then inB R.count 1 4 && (inB R.cards.length R.count 20 && !R.cards.any badC) && bareB 4 R.count R.faces.length R.low R.high R.group R.changes R.cards.length
  else if R.kind = 5 then (inB R.cards.length 1 20 && !R.cards.any badC) && bareB 5 R.count R.faces.length R.low R.high R.group R.changes R.cards.length
  else false
set_option maxHeartbeats 1000000 in
theorem check_other (k c : Int) (p : Option Addr) (n m : Nat) (lo hi g ch : Int) (q : Option Addr) (n' m' : Nat) (w : World) (h1 : k ≠ 1) (h2 : k ≠ 2) (h3 : k ≠ 3) (h4 : k ≠ 4) (h5 : k ≠ 5) :
    CallsIn Fence.wide 24 Try.prog 26 #[.agg (handV k c (.slice p n m) lo hi g ch (.slice q n' m'))] w fun e w' => e = .returned (.int .i64 2) ∧ Below w.heap.size w w' := by
  have e1 : (k == 1) = false := by simp [h1]
  have e2 : (k == 2) = false := by simp [h2]
  have e3 : (k == 3) = false := by simp [h3]
  have e4 : (k == 4) = false := by simp [h4]
  have e5 : (k == 5) = false := by simp [h5]
  have hb : Below w.heap.size w (w.alloc (.cells (handV k c (.slice p n m) lo hi g ch (.slice q n' m')) 26)) := (Below.refl _ _).alloc (Nat.le_refl _) _
  have HB := hid hb
  simp only [handV] at HB ⊢
  clear hb h1 h2 h3 h4 h5
  refine callsIn_of_wp Try.func26 rfl trivial ?_ rfl
  simp only [Try.ntmps26, List.size_toArray, List.length_cons, List.length_nil, Nat.reduceAdd, Nat.reduceSub, Array.replicate_succ, Array.replicate_zero, List.push_toArray, List.append_toArray, List.nil_append, List.cons_append]
  gi_wp2_with fail
  go_ret
  exact ⟨rfl, HB.out⟩
theorem inB_iff (n a b : Int) : inB n a b = true ↔ a ≤ n ∧ n ≤ b := by simp [inB]
theorem bare_c3 (k c : Int) (p : Option Addr) (n m : Nat) (lo hi g ch : Int) (q : Option Addr) (n' m' : Nat) (hk : k = 1 ∨ k = 2 ∨ k = 3 ∨ k = 4 ∨ k = 5) (hn : n ≤ 1000) (hn' : n' ≤ 1000) :
    ∀ W, Calls Try.prog 60 #[.agg (handV k c (.slice p n m) lo hi g ch (.slice q n' m'))] W fun e w' => e = .returned (.bool (bareB k c n lo hi g ch n')) ∧ Below W.heap.size W w' := fun W => isBare_c k c p n m lo hi g ch q n' m' hk hn hn' W
open Classical in
theorem Check_c (R : RH) (fv cv : Value) (N : Nat) (w : World) (hR : RawAt w N R fv cv) (hf : R.faces.length ≤ 1000) (hc : R.cards.length ≤ 1000) :
    Calls Try.prog 26 #[.agg (handR R fv cv)] w fun e w' => e = .returned (.int .i64 (if okR R then 0 else 2)) ∧ Below w.heap.size w w' := by
  refine (callsIn_wide (n := 24)).1 ?_
  have hb : ∀ o, Below w.heap.size w (w.alloc o) := fun o => (Below.refl _ _).alloc (Nat.le_refl _) _
  have hb2 : ∀ o1 o2, Below w.heap.size w ((w.alloc o1).alloc o2) := below2 w
  obtain ⟨p, m, hv, hfc⟩ := hR.faces
  obtain ⟨q, m', hv', hcc⟩ := hR.cards
  have hle := hR.le
  have hcc' : ∀ W', Below w.heap.size w W' → ∀ i (h : i < R.cards.length), ∃ b o, q = some ⟨b, o, none⟩ ∧ b < W'.heap.size ∧ W'.cell? ⟨b, o + i, none⟩ = some (.int .i64 R.cards[i]) := fun W' hW i hi => by
    obtain ⟨b, o, e, hb, h1⟩ := hcc i hi
    exact ⟨b, o, e, by have := hW.size; omega, (hW.cell (p := ⟨b, o + i, none⟩) (show b < w.heap.size by omega)).trans h1⟩
  have hfc' : ∀ W', Below w.heap.size w W' → ∀ i (h : i < R.faces.length), ∃ b o, p = some ⟨b, o, none⟩ ∧ b < W'.heap.size ∧ W'.cell? ⟨b, o + i * 2, none⟩ = some (.int .i64 R.faces[i].1) ∧ W'.cell? ⟨b, o + i * 2 + 1, none⟩ = some (.int .i64 R.faces[i].2) := fun W' hW i hi => by
    obtain ⟨b, o, e, hb, h1, h2⟩ := hfc i hi
    exact ⟨b, o, e, by have := hW.size; omega, (hW.cell (p := ⟨b, o + i * 2, none⟩) (show b < w.heap.size by omega)).trans h1, (hW.cell (p := ⟨b, o + i * 2 + 1, none⟩) (show b < w.heap.size by omega)).trans h2⟩
  unfold okR handR
  rw [hv, hv']
  by_cases h1 : R.kind = 1
  · rw [if_pos h1, h1]
    refine (check_k1 R.count p R.faces.length m R.low R.high R.group R.changes q R.cards.length m' w _ _ _ _ (fun W => within_b _ _ _ W) (fun W => within_b _ _ _ W) (containsFaces R.faces p m (w.heap.size + 1) _ hf (hfc' _ (hb2 _ _)) (alloc2_second w _ _)) (bare_c3 1 R.count p R.faces.length m R.low R.high R.group R.changes q R.cards.length m' (by simp) hf hc)).mono ?_
    rintro e w' ⟨he, hB⟩
    exact ⟨he, hB⟩
  · rw [if_neg h1]
    by_cases h2 : R.kind = 2
    · rw [if_pos h2, h2]
      exact check_k2 R.count p R.faces.length m R.low R.high R.group R.changes q R.cards.length m' w _ _ _ (fun W => within_b _ _ _ W) rfl (bare_c3 2 R.count p R.faces.length m R.low R.high R.group R.changes q R.cards.length m' (by simp) hf hc)
    · rw [if_neg h2]
      by_cases h3 : R.kind = 3
      · rw [if_pos h3, h3]
        refine check_k3 R.count p R.faces.length m R.low R.high R.group R.changes q R.cards.length m' w _ _ _ (decide (LastR R)) _ (fun W => within_b _ _ _ W) (fun W _ => within_b _ _ _ W) (fun W => within_b _ _ _ W) (fun e1 e2 e3 => ?_) (bare_c3 3 R.count p R.faces.length m R.low R.high R.group R.changes q R.cards.length m' (by simp) hf hc) (fun e1 => (inB_iff _ _ _).1 e1)
        have i1 := (inB_iff _ _ _).1 e1
        have i2 := (inB_iff _ _ _).1 e2
        have i3 := (inB_iff _ _ _).1 e3
        have hF : Fit (toH R) (.divided (toH R).changes (toH R).count) := ⟨⟨by simp only [toH]; omega, by simp only [toH]; omega, by simp only [toH]; omega, by simp only [toH]; omega⟩, trivial⟩
        have hl := lasts_c N (toH R) (.slice p R.faces.length m) (.slice q R.cards.length m') hF (w.alloc (.cells (handV 3 R.count (.slice p R.faces.length m) R.low R.high R.group R.changes (.slice q R.cards.length m')) 26)) (HandAt.stalks (by simp only [toH]; omega) (by simp; omega))
        have ea : handA (toH R) (.slice p R.faces.length m) (.slice q R.cards.length m') = handV 3 R.count (.slice p R.faces.length m) R.low R.high R.group R.changes (.slice q R.cards.length m') := by
          simp only [handA, handV, toH]
          rw [show ((R.kind.toNat : Nat) : Int) = 3 by omega, show ((R.count.toNat : Nat) : Int) = R.count by omega, show ((R.group.toNat : Nat) : Int) = R.group by omega, show ((R.changes.toNat : Nat) : Int) = R.changes by omega]
        rw [ea] at hl
        refine hl.mono ?_
        rintro e w' ⟨⟨b, he, hbi⟩, hB⟩
        refine ⟨?_, hB⟩
        rw [he]
        congr 2
        cases b with
        | true => exact (decide_eq_true (hbi.1 rfl)).symm
        | false => exact (decide_eq_false fun hh => by have := hbi.2 hh; cases this).symm
      · rw [if_neg h3]
        by_cases h4 : R.kind = 4
        · rw [if_pos h4, h4]
          exact check_k4 R.count p R.faces.length m R.low R.high R.group R.changes q R.cards.length m' w _ _ _ (fun W => within_b _ _ _ W) (areCards_c R.cards q m' R.count _ hc (hcc' _ (hb _))) (bare_c3 4 R.count p R.faces.length m R.low R.high R.group R.changes q R.cards.length m' (by simp) hf hc)
        · rw [if_neg h4]
          by_cases h5 : R.kind = 5
          · rw [if_pos h5, h5]
            exact check_k5 R.count p R.faces.length m R.low R.high R.group R.changes q R.cards.length m' w _ _ (areCards_c R.cards q m' 1 _ hc (hcc' _ (hb _))) (bare_c3 5 R.count p R.faces.length m R.low R.high R.group R.changes q R.cards.length m' (by simp) hf hc)
          · rw [if_neg h5]
            exact check_other _ _ _ _ _ _ _ _ _ _ _ _ w h1 h2 h3 h4 h5
end Go.Proofs.Ytmjnelkeiogdcaa
