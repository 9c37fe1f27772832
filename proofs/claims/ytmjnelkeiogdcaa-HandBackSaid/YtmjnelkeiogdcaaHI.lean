/- Walks of package hand: within, times, divisor, blind. -/
import Derived.Test.YtmjnelkeiogdcaaHH
namespace Go.Proofs.Ytmjnelkeiogdcaa
open Go Go.RowKit Go.Shelf
set_option maxRecDepth 100000

theorem within_c (n a b : Int) (w : World) : Calls Try.prog 48 #[.int .i64 n, .int .i64 a, .int .i64 b] w fun e w' => e = .returned (.bool (decide (a ≤ n) && decide (n ≤ b))) ∧ w = w' := by
  by_cases h1 : a ≤ n
  · have e1 : decide (a ≤ n) = true := by simp [h1]
    by_cases h2 : n ≤ b
    · have e2 : decide (n ≤ b) = true := by simp [h2]
      rw [e1, e2]
      go_enter Try.func48, Try.ntmps48
      go_wp2_with fail
      go_ret
      exact ⟨rfl, rfl⟩
    · have e2 : decide (n ≤ b) = false := by simp; omega
      rw [e1, e2]
      go_enter Try.func48, Try.ntmps48
      go_wp2_with fail
      go_ret
      exact ⟨rfl, rfl⟩
  · have e1 : decide (a ≤ n) = false := by simp; omega
    rw [e1]
    go_enter Try.func48, Try.ntmps48
    go_wp2_with fail
    go_ret
    exact ⟨rfl, rfl⟩
theorem tdivN (m b : Nat) : Int.tdiv ((m : Nat) : Int) ((b : Nat) : Int) = ((m / b : Nat) : Int) := by rw [Int.tdiv_eq_ediv_of_nonneg (by omega)]; push_cast; try rfl
theorem tmodN (m b : Nat) : Int.tmod ((m : Nat) : Int) ((b : Nat) : Int) = ((m % b : Nat) : Int) := by rw [Int.tmod_eq_emod_of_nonneg (by omega)]; push_cast; try rfl
/-- The product; 10^15 + 1 if it is above 10^15. -/
def timesN (a b : Nat) : Nat := if 0 < b ∧ 1000000000000000 / b < a then 1000000000000001 else a * b
theorem timesN_le (a b : Nat) : timesN a b ≤ 1000000000000001 := by
  unfold timesN
  split
  · exact Nat.le_refl _
  · rename_i h
    by_cases hb : 0 < b
    · have : a ≤ 1000000000000000 / b := by omega
      have := (Nat.le_div_iff_mul_le hb).1 this
      omega
    · have : b = 0 := by omega
      subst this
      simp
theorem times_c (a b : Nat) (ha : a < 9223372036854775808) (hb : b < 9223372036854775808) (w : World) : Calls Try.prog 44 #[.int .i64 ((a : Nat) : Int), .int .i64 ((b : Nat) : Int)] w fun e w' => e = .returned (.int .i64 ((timesN a b : Nat) : Int)) ∧ w = w' := by
  have hle := timesN_le a b
  unfold timesN at *
  by_cases h0 : 0 < b
  · have e0 : decide ((0 : Int) < ((b : Nat) : Int)) = true := by simp; omega
    have e0' : (0 : Int) < ((b : Nat) : Int) := by omega
    have hne : (((b : Nat) : Int) == 0) = false := by simp; omega
    have hne' : ((b : Nat) : Int) ≠ 0 := by omega
    have hq : Int.tdiv 1000000000000000 ((b : Nat) : Int) = ((1000000000000000 / b : Nat) : Int) := tdivN 1000000000000000 b
    have hql : 1000000000000000 / b ≤ 1000000000000000 := Nat.div_le_self _ _
    obtain ⟨q, hqq⟩ : ∃ q, 1000000000000000 / b = q := ⟨_, rfl⟩
    rw [hqq] at hq hql hle
    rw [hqq]
    have wq := wrap_nat q (by omega)
    by_cases h1 : q < a
    · have e1 : decide (((q : Nat) : Int) < ((a : Nat) : Int)) = true := by simp; omega
      have e1' : ((q : Nat) : Int) < ((a : Nat) : Int) := by omega
      rw [if_pos ⟨h0, h1⟩]
      clear hqq
      go_enter Try.func44, Try.ntmps44
      go_wp2_with fail
      go_ret
      exact ⟨rfl, rfl⟩
    · have e1 : decide (((q : Nat) : Int) < ((a : Nat) : Int)) = false := by simp; omega
      have e1' : ¬ ((q : Nat) : Int) < ((a : Nat) : Int) := by omega
      rw [if_neg (fun h => h1 h.2)] at hle ⊢
      obtain ⟨z, hz⟩ : ∃ z, a * b = z := ⟨_, rfl⟩
      have hm : ((a : Nat) : Int) * ((b : Nat) : Int) = ((z : Nat) : Int) := by rw [← hz]; push_cast; rfl
      rw [hz] at hle ⊢
      have wz := wrap_nat z (by omega)
      clear hqq hz
      go_enter Try.func44, Try.ntmps44
      go_wp2_with fail
      go_ret
      exact ⟨rfl, rfl⟩
  · obtain rfl : b = 0 := by omega
    rw [if_neg (by omega)]
    have hm : ((a : Nat) : Int) * 0 = 0 := by simp
    go_enter Try.func44, Try.ntmps44
    go_wp2_with fail
    go_ret
    exact ⟨by simp, rfl⟩
set_option maxHeartbeats 400000 in
theorem divisor_c (a b : Nat) (ha : a < 9223372036854775808) (hb : b < 9223372036854775808) (w : World) : Calls Try.prog 45 #[.int .i64 ((a : Nat) : Int), .int .i64 ((b : Nat) : Int)] w fun e w' => e = .returned (.int .i64 ((Nat.gcd b a : Nat) : Int)) ∧ ∃ m, w' = w.drewN m := by
  obtain ⟨d, hd⟩ : ∃ d, Nat.gcd b a = d := ⟨_, rfl⟩
  rw [hd]
  have HD := hid hd
  clear hd
  go_enter Try.func45, Try.ntmps45
  go_wp2_with fail
  go_loopw [0, 1] (fun x y wr => ∃ a' b' m : Nat, x = .int .i64 a' ∧ y = .int .i64 b' ∧ a' < 9223372036854775808 ∧ b' < 9223372036854775808 ∧ Nat.gcd b' a' = d ∧ wr = w.drewN m) (fun _ y _ => (intOf y).toNat)
  case atStart => exact ⟨a, b, 0, rfl, rfl, ha, hb, HD.out, rfl⟩
  case round =>
    obtain ⟨a', b', m, rfl, rfl, ha', hb', hg, rfl⟩ := hrel
    by_cases h0 : b' = 0
    · subst h0
      have : a' = d := by simpa using hg
      subst this
      clear hg
      go_wp2_with fail
      go_ret
      exact ⟨rfl, _, rfl⟩
    · have hne : (((b' : Nat) : Int) != 0) = true := by simp; exact h0
      have hne1 : (((b' : Nat) : Int) == 0) = false := by simp; exact h0
      have hne' : ((b' : Nat) : Int) ≠ 0 := by omega
      have hq := tmodN a' b'
      have hr : a' % b' < b' := Nat.mod_lt _ (by omega)
      have hg2 : Nat.gcd (a' % b') b' = d := by rw [← hg, ← Nat.gcd_rec]
      have HG := hid hg2
      clear hg hg2 HD ha hb
      generalize a' % b' = r at *
      have wr' := wrap_nat r (by omega)
      go_wp2_with fail
      go_quiet (fail)
      go_wp2_with fail
      go_roundw
      case rel => exact ⟨b', r, m + nq, rfl, rfl, hb', by omega, HG.out, World.drewN_drewN _ _ _⟩
      case measure => simp [intOf]; omega
theorem blind_c (s : St) (c : Int) (w : World) : Calls Try.prog 62 #[encS s, .int .i64 c] w fun e w' => (∃ v, e = .returned v) ∧ w = w' := by
  go_enter Try.func62, Try.ntmps62
  go_wp2_with fail
  go_end0
  exact ⟨⟨_, rfl⟩, rfl⟩
end Go.Proofs.Ytmjnelkeiogdcaa
