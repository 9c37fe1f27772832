/- Walks: Sum, Turned, Opposite, Name. -/
import Derived.Test.YtphnibllfpkkkaaDoorW1
namespace Go.Proofs.YtphnibllfpkkkaaDoor
open Go Go.RowKit
set_option maxRecDepth 100000

theorem vOne_yes (f : Int) (hf : Fig f) (b c : Nat) (w : World) (hc : w.cell? ⟨b, 0, none⟩ = some (.int .i64 f)) :
    Calls Tryd.prog 50 #[.slice (some ⟨b, 0, none⟩) 1 c] w fun e w' => e = .returned (.bool true) ∧ w = w' :=
  valid_yes (fun _ => f) b 0 1 c w (by omega) (fun i hi => by
    obtain rfl : i = 0 := by omega
    exact hc) (fun _ _ => hf)
theorem vOne_no (f : Int) (hf : ¬ Fig f) (b c : Nat) (w : World) (hc : w.cell? ⟨b, 0, none⟩ = some (.int .i64 f)) :
    Calls Tryd.prog 50 #[.slice (some ⟨b, 0, none⟩) 1 c] w fun e w' => e = .returned (.bool false) ∧ w = w' :=
  valid_no (fun _ => f) b 0 1 c w (by omega) (fun i hi => by
    obtain rfl : i = 0 := by omega
    exact hc) (fun h => hf (h 0 (by omega)))
theorem vTwo_yes (f g : Int) (hf : Fig f) (hg : Fig g) (b c : Nat) (w : World) (h0 : w.cell? ⟨b, 0, none⟩ = some (.int .i64 f)) (h1 : w.cell? ⟨b, 1, none⟩ = some (.int .i64 g)) :
    Calls Tryd.prog 50 #[.slice (some ⟨b, 0, none⟩) 2 c] w fun e w' => e = .returned (.bool true) ∧ w = w' :=
  valid_yes (fun i => if i = 0 then f else g) b 0 2 c w (by omega) (fun i hi => by
    rcases (show i = 0 ∨ i = 1 by omega) with rfl | rfl
    · exact h0
    · exact h1) (fun i _ => by show Fig (if i = 0 then f else g); split <;> assumption)
theorem vTwo_no (f g : Int) (hf : ¬ (Fig f ∧ Fig g)) (b c : Nat) (w : World) (h0 : w.cell? ⟨b, 0, none⟩ = some (.int .i64 f)) (h1 : w.cell? ⟨b, 1, none⟩ = some (.int .i64 g)) :
    Calls Tryd.prog 50 #[.slice (some ⟨b, 0, none⟩) 2 c] w fun e w' => e = .returned (.bool false) ∧ w = w' :=
  valid_no (fun i => if i = 0 then f else g) b 0 2 c w (by omega) (fun i hi => by
    rcases (show i = 0 ∨ i = 1 by omega) with rfl | rfl
    · exact h0
    · exact h1) (fun h => hf ⟨h 0 (by omega), h 1 (by omega)⟩)

theorem sum1 (a b : Int) (bl c : Nat) (w : World) (h0 : w.cell? ⟨bl, 0, none⟩ = some (.int .i64 a)) (h1 : w.cell? ⟨bl, 1, none⟩ = some (.int .i64 b)) :
    Calls Tryd.prog 58 #[.slice (some ⟨bl, 0, none⟩) 2 c] w fun e w' => e = .returned (.int .i64 (bits .xor .i64 a b)) ∧ ∃ n, w' = w.drewN n := by
  go_enter Tryd.func58, Tryd.ntmps58
  go_wp2_with fail
  go_quiet (fail)
  go_wp2_with fail
  go_ret
  exact ⟨rfl, _, rfl⟩

theorem sum_yes (a b : Nat) (ha : a < 16) (hb : b < 16) (w : World) :
    Calls Tryd.prog 31 #[.int .i64 a, .int .i64 b] w fun e w' => e = .returned (.tuple #[.int .i64 ((a ^^^ b : Nat) : Int), .int .i64 0]) ∧ Below w.heap.size w w' := by
  have hf : Fig a := ⟨by omega, by omega⟩
  have hg : Fig b := ⟨by omega, by omega⟩
  have hx := hid (i64_xor a b (by omega) (by omega))
  go_enter Tryd.func31, Tryd.ntmps31
  go_wp2_with (first | (go_at_call 50; refine (vTwo_yes a b hf hg _ _ _ ?_ ?_).mono ?_; (simp); (simp); rintro e w' ⟨rfl, rfl⟩) | (go_at_call 58; refine (sum1 a b _ _ _ ?_ ?_).mono ?_; (simp); (simp); rintro e w' ⟨rfl, n, rfl⟩) | go_in)
  go_ret2
  exact ⟨by rw [← hx.out]; rfl, below_drewN ((Below.refl _ _).alloc (Nat.le_refl _) _) _⟩

theorem sum_no (a b : Int) (h : ¬ (Fig a ∧ Fig b)) (w : World) :
    Calls Tryd.prog 31 #[.int .i64 a, .int .i64 b] w fun e w' => e = .returned (.tuple #[.int .i64 0, .int .i64 2]) ∧ Below w.heap.size w w' := by
  have H := hid h
  clear h
  go_enter Tryd.func31, Tryd.ntmps31
  go_wp2_with (first | (go_at_call 50; refine (vTwo_no a b H.out _ _ _ ?_ ?_).mono ?_; (simp); (simp); rintro e w' ⟨rfl, rfl⟩) | go_in)
  go_ret2
  exact ⟨rfl, (Below.refl _ _).alloc (Nat.le_refl _) _⟩

theorem opp_yes (a : Nat) (ha : a < 16) (w : World) :
    Calls Tryd.prog 33 #[.int .i64 a] w fun e w' => e = .returned (.tuple #[.int .i64 ((a ^^^ 15 : Nat) : Int), .int .i64 0]) ∧ Below w.heap.size w w' := by
  have hf : Fig a := ⟨by omega, by omega⟩
  have hx := hid (i64_xor a 15 (by omega) (by omega))
  go_enter Tryd.func33, Tryd.ntmps33
  go_wp2_with (first | (go_at_call 50; refine (vOne_yes a hf _ _ _ ?_).mono ?_; (simp); rintro e w' ⟨rfl, rfl⟩) | go_in)
  go_ret2
  exact ⟨by rw [← hx.out]; rfl, (Below.refl _ _).alloc (Nat.le_refl _) _⟩

theorem opp_no (a : Int) (h : ¬ Fig a) (w : World) :
    Calls Tryd.prog 33 #[.int .i64 a] w fun e w' => e = .returned (.tuple #[.int .i64 0, .int .i64 2]) ∧ Below w.heap.size w w' := by
  have H := hid h
  clear h
  go_enter Tryd.func33, Tryd.ntmps33
  go_wp2_with (first | (go_at_call 50; refine (vOne_no a H.out _ _ _ ?_).mono ?_; (simp); rintro e w' ⟨rfl, rfl⟩) | go_in)
  go_ret2
  exact ⟨rfl, (Below.refl _ _).alloc (Nat.le_refl _) _⟩

/-- The figure upside down. -/
def rev4 (f : Nat) : Nat := f % 2 * 8 + f / 2 % 2 * 4 + f / 4 % 2 * 2 + f / 8 % 2

theorem turned_no (a : Int) (h : ¬ Fig a) (w : World) :
    Calls Tryd.prog 32 #[.int .i64 a] w fun e w' => e = .returned (.tuple #[.int .i64 0, .int .i64 2]) ∧ Below w.heap.size w w' := by
  have H := hid h
  clear h
  go_enter Tryd.func32, Tryd.ntmps32
  go_wp2_with (first | (go_at_call 50; refine (vOne_no a H.out _ _ _ ?_).mono ?_; (simp); rintro e w' ⟨rfl, rfl⟩) | go_in)
  go_ret2
  exact ⟨rfl, (Below.refl _ _).alloc (Nat.le_refl _) _⟩

theorem rev4_lt (a : Nat) : rev4 a < 16 := by unfold rev4; omega
theorem sixteen {P : Nat → Prop} (h : ∀ i : Fin 16, P i) (a : Nat) (ha : a < 16) : P a := h ⟨a, ha⟩
theorem reverse8 (a : Nat) (ha : a < 16) (w : World) :
    Calls Tryd.prog 60 #[.int .u8 a] w fun e w' => e = .returned (.int .u8 ((rev4 a : Nat) * 16 : Int)) ∧ w = w' := by
  go_enter Tryd.func60, Tryd.ntmps60
  go_wp2
  go_ret
  refine ⟨?_, rfl⟩
  congr 2
  revert ha
  refine fun ha => ?_
  have h : a = 0 ∨ a = 1 ∨ a = 2 ∨ a = 3 ∨ a = 4 ∨ a = 5 ∨ a = 6 ∨ a = 7 ∨ a = 8 ∨ a = 9 ∨ a = 10 ∨ a = 11 ∨ a = 12 ∨ a = 13 ∨ a = 14 ∨ a = 15 := by omega
  rcases h with rfl | rfl | rfl | rfl | rfl | rfl | rfl | rfl | rfl | rfl | rfl | rfl | rfl | rfl | rfl | rfl <;> rfl

theorem turned1 (a : Nat) (ha : a < 16) (bl c : Nat) (w : World) (h0 : w.cell? ⟨bl, 0, none⟩ = some (.int .i64 a)) :
    Calls Tryd.prog 59 #[.slice (some ⟨bl, 0, none⟩) 1 c] w fun e w' => e = .returned (.int .i64 (rev4 a : Nat)) ∧ w = w' := by
  have hr := rev4_lt a
  go_enter Tryd.func59, Tryd.ntmps59
  go_wp2_with (go_at_call 60; refine (reverse8 a ha _).mono ?_; rintro e w' ⟨rfl, rfl⟩)
  go_ret
  refine ⟨?_, rfl⟩
  congr 2

theorem turned_yes (a : Nat) (ha : a < 16) (w : World) :
    Calls Tryd.prog 32 #[.int .i64 a] w fun e w' => e = .returned (.tuple #[.int .i64 (rev4 a : Nat), .int .i64 0]) ∧ Below w.heap.size w w' := by
  have hf : Fig a := ⟨by omega, by omega⟩
  go_enter Tryd.func32, Tryd.ntmps32
  go_wp2_with (first | (go_at_call 50; refine (vOne_yes a hf _ _ _ ?_).mono ?_; (simp); rintro e w' ⟨rfl, rfl⟩) | (go_at_call 59; refine (turned1 a ha _ _ _ ?_).mono ?_; (simp); rintro e w' ⟨rfl, rfl⟩) | go_in)
  go_ret2
  exact ⟨rfl, (Below.refl _ _).alloc (Nat.le_refl _) _⟩

theorem name_no (a : Int) (h : ¬ Fig a) (w : World) :
    Calls Tryd.prog 29 #[.int .i64 a] w fun e w' => e = .returned (.tuple #[.string ⟨#[]⟩, .int .i64 2]) ∧ Below w.heap.size w w' := by
  have H := hid h
  clear h
  go_enter Tryd.func29, Tryd.ntmps29
  go_wp2_with (first | (go_at_call 50; refine (vOne_no a H.out _ _ _ ?_).mono ?_; (simp); rintro e w' ⟨rfl, rfl⟩) | go_in)
  go_ret2
  exact ⟨rfl, (Below.refl _ _).alloc (Nat.le_refl _) _⟩

theorem name_yes (a : Nat) (ha : a < 16) (w : World) (L : Laid w) :
    Calls Tryd.prog 29 #[.int .i64 a] w fun e w' => e = .returned (.tuple #[.string (nam a), .int .i64 0]) ∧ Below w.heap.size w w' := by
  have hf : Fig a := ⟨by omega, by omega⟩
  have hn := L.nam a ha
  have hs := L.size.2
  have hs0 : 0 < w.heap.size := by omega
  clear L
  go_enter Tryd.func29, Tryd.ntmps29
  go_wp2_with (first | (go_at_call 50; refine (vOne_yes a hf _ _ _ ?_).mono ?_; (simp); rintro e w' ⟨rfl, rfl⟩) | go_in)
  go_ret2
  exact ⟨rfl, (Below.refl _ _).alloc (Nat.le_refl _) _⟩
end Go.Proofs.YtphnibllfpkkkaaDoor
