/- Walks of package witness: Combine, Split; of the reference: in, Combine. -/
import Derived.Test.YtbcileppebpamaaGreatDoorWF
set_option linter.unusedSimpArgs false
set_option linter.unusedVariables false
namespace Go.Proofs.YtbcileppebpamaaGreatDoor
open Go Go.RowKit Go.Shelf
set_option maxRecDepth 100000

theorem rin_c (n a b : Int) (w : World) : Calls Tryz.prog 32 #[.int .i64 n, .int .i64 a, .int .i64 b] w fun e w' => e = .returned (.bool (decide (a ≤ n) && decide (n ≤ b))) ∧ w = w' := by
  by_cases h1 : a ≤ n
  · have d1 : decide (a ≤ n) = true := decide_eq_true h1
    go_enter Tryz.func32, Tryz.ntmps32
    go_wp2_with fail
    go_ret
    exact ⟨by simp [d1], rfl⟩
  · have d1 : decide (a ≤ n) = false := decide_eq_false h1
    go_enter Tryz.func32, Tryz.ntmps32
    go_wp2_with fail
    go_ret
    exact ⟨by simp [d1], rfl⟩
def inR (n a b : Int) : Bool := decide (a ≤ n) && decide (n ≤ b)
/-- The value of shares, or the error. -/
def combR (b : Int) (xs : List Int) : Int × Int :=
  if inR b 1 1000000000 = false then (0, 3) else if 30 < xs.length then (0, 5) else match addO b.toNat xs 0 with | some n => (((n : Nat) : Int), 0) | none => (0, 2)
theorem inR_iff (n a b : Int) : inR n a b = true ↔ a ≤ n ∧ n ≤ b := by simp [inR]
set_option maxHeartbeats 2000000 in
theorem Combine_c (b : Int) (xs : List Int) (v : Value) (w : World) (hr : ReadsA w v xs) (hl : xs.length ≤ 1000000) :
    Calls Tryz.prog 68 #[.int .i64 b, v] w fun e w' => e = .returned (.tuple #[.int .i64 (combR b xs).1, .int .i64 (combR b xs).2]) ∧ Below w.heap.size w w' := by
  have hwi := within_c b 1 1000000000 w
  obtain ⟨p, c, rfl⟩ := hr.form
  unfold combR
  cases hb : inR b 1 1000000000 with
  | false =>
    rw [show (decide ((1 : Int) ≤ b) && decide (b ≤ 1000000000)) = false from hb] at hwi
    have HW := hid hwi
    clear hwi hr
    go_enter Tryz.func68, Tryz.ntmps68
    go_wp2_with (go_at_call 36; refine HW.out.mono ?_; rintro e w1 ⟨rfl, rfl⟩)
    go_ret2
    exact ⟨rfl, Below.refl _ _⟩
  | true =>
    rw [show (decide ((1 : Int) ≤ b) && decide (b ≤ 1000000000)) = true from hb] at hwi
    have HW := hid hwi
    obtain ⟨h1, h2⟩ := (inR_iff _ _ _).1 hb
    obtain ⟨n, rfl⟩ : ∃ n : Nat, b = ((n : Nat) : Int) := ⟨b.toNat, by omega⟩
    rw [Int.toNat_natCast]
    have HA := hid (add_c n (by omega) xs _ w hr hl)
    obtain ⟨m, hm⟩ : ∃ m, xs.length = m := ⟨_, rfl⟩
    rw [hm] at HA ⊢
    rw [if_neg (by simp)]
    by_cases h30 : 30 < m
    · rw [if_pos h30]
      have d1 : decide ((30 : Int) < ((m : Nat) : Int)) = true := decide_eq_true (by omega)
      have d2 : (30 : Int) < ((m : Nat) : Int) := by omega
      clear hwi hr hb h1 h2 hm hl
      go_enter Tryz.func68, Tryz.ntmps68
      go_wp2_with (go_at_call 36; refine HW.out.mono ?_; rintro e w1 ⟨rfl, rfl⟩)
      go_ret2
      exact ⟨rfl, Below.refl _ _⟩
    · rw [if_neg h30]
      have d1 : decide ((30 : Int) < ((m : Nat) : Int)) = false := decide_eq_false (by omega)
      have d2 : ¬ (30 : Int) < ((m : Nat) : Int) := by omega
      clear hwi hr hb h1 h2 hm hl
      cases hadd : addO n xs 0 with
      | none =>
        rw [hadd] at HA
        simp only [addV] at HA
        clear hadd
        go_enter Tryz.func68, Tryz.ntmps68
        go_wp2_with (first
          | (go_at_call 36; refine HW.out.mono ?_; rintro e w1 ⟨rfl, rfl⟩)
          | (go_at_call 63; refine HA.out.mono ?_; rintro e w2 ⟨rfl, hb2⟩))
        go_ret2
        exact ⟨rfl, hb2⟩
      | some z =>
        rw [hadd] at HA
        simp only [addV] at HA
        clear hadd
        go_enter Tryz.func68, Tryz.ntmps68
        go_wp2_with (first
          | (go_at_call 36; refine HW.out.mono ?_; rintro e w1 ⟨rfl, rfl⟩)
          | (go_at_call 63; refine HA.out.mono ?_; rintro e w2 ⟨rfl, hb2⟩))
        go_ret2
        exact ⟨rfl, hb2⟩
theorem clone_c (xs : List Int) (v : Value) (w : World) (hr : ReadsA w v xs) (hl : xs.length ≤ 1000000) :
    Calls Tryz.prog 69 #[v] w fun e w' => ∃ v', e = .returned v' ∧ Ints w' w.heap.size v' xs ∧ Below w.heap.size w w' := by
  rcases hr with ⟨rfl, rfl⟩ | ⟨a, c, rfl, ha, hc⟩
  · exact (slices_Clone_int_nil 0 0 w).mono fun e w' ⟨h1, h2⟩ => ⟨_, h1, ⟨rfl, .inl ⟨rfl, rfl⟩⟩, h2 ▸ Below.refl _ _⟩
  · by_cases h0 : xs.length = 0
    · have hx : xs = [] := List.eq_nil_of_length_eq_zero h0
      subst hx
      exact (slices_Clone_int_zero a c w).mono fun e w' ⟨v', h1, h2, _, h3⟩ => ⟨v', h1, h2, h3⟩
    · obtain ⟨g, o, rfl, h4⟩ := ReadsA.plain (n := xs.length) (by omega) hc rfl
      refine (slices_Clone_int g o xs.length c xs w (Nat.le_refl _) (by omega) fun j hj => ?_).mono fun e w' ⟨v', h1, h2, _, h3⟩ => ⟨v', h1, ?_, h3⟩
      · rw [h4 j hj, List.getD_eq_getElem?_getD, List.getElem?_eq_getElem hj]
        rfl
      · rw [List.take_length] at h2
        exact h2
end Go.Proofs.YtbcileppebpamaaGreatDoor
