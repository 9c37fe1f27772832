/- Walks of package witness: Split. -/
import Derived.Test.YtbcileppebpamaaGreatDoorWG
set_option linter.unusedSimpArgs false
set_option linter.unusedVariables false
namespace Go.Proofs.YtbcileppebpamaaGreatDoor
open Go Go.RowKit Go.Shelf
set_option maxRecDepth 100000

/-- The shares of a value, or the error. -/
def splitR (v b : Int) (xs : List Int) : List Int × Int :=
  if inR b 1 1000000000 = false ∨ inR v 0 (b - 1) = false then ([], 3) else if (combR b xs).2 ≠ 0 then ([], (combR b xs).2) else (xs ++ [(v + (b - (combR b xs).1) % b) % b], 0)
theorem addO_lt (b : Nat) (hb : 0 < b) : ∀ (xs : List Int) (n r : Nat), n < b → addO b xs n = some r → r < b
  | [], n, r, hn, h => by
    simp only [addO, Option.some.injEq] at h
    omega
  | s :: l, n, r, hn, h => by
    rw [addO] at h
    split at h
    · exact addO_lt b hb l _ r (Nat.mod_lt _ hb) h
    · cases h
theorem comb_ok (b : Int) (xs : List Int) (h : (combR b xs).2 = 0) (hb : inR b 1 1000000000 = true) : ∃ B n : Nat, b = ((B : Nat) : Int) ∧ (combR b xs).1 = ((n : Nat) : Int) ∧ n < B := by
  obtain ⟨h1, h2⟩ := (inR_iff _ _ _).1 hb
  obtain ⟨B, rfl⟩ : ∃ n : Nat, b = ((n : Nat) : Int) := ⟨b.toNat, by omega⟩
  unfold combR at h ⊢
  rw [if_neg (by rw [hb]; simp)] at h ⊢
  split at h
  · simp at h
  · rename_i h30
    rw [if_neg h30]
    rw [Int.toNat_natCast] at h ⊢
    cases ha : addO B xs 0 with
    | none => rw [ha] at h; simp at h
    | some n => exact ⟨B, n, rfl, rfl, addO_lt B (by omega) xs 0 n (by omega) ha⟩
set_option maxHeartbeats 4000000 in
theorem Split_c (v b : Int) (xs : List Int) (u : Value) (w : World) (hr : ReadsA w u xs) (hl : xs.length ≤ 1000000) (hbw : -9223372036854775808 ≤ b ∧ b ≤ 9223372036854775807) :
    Calls Tryz.prog 30 #[.int .i64 v, .int .i64 b, u] w fun e w' => ∃ l, e = .returned (.tuple #[l, .int .i64 (splitR v b xs).2]) ∧ Ints w' w.heap.size l (splitR v b xs).1 ∧ Below w.heap.size w w' := by
  have hnil : ∀ W : World, ∀ B, Ints W B (.slice none 0 0) [] := fun W B => ⟨rfl, .inl ⟨rfl, rfl⟩⟩
  have h1 := within_c b 1 1000000000 w
  obtain ⟨p, c, rfl⟩ := hr.form
  unfold splitR
  cases hb : inR b 1 1000000000 with
  | false =>
    rw [show (decide ((1 : Int) ≤ b) && decide (b ≤ 1000000000)) = false from hb] at h1
    have H1 := hid h1
    have HN := hid hnil
    rw [if_pos (.inl rfl)]
    clear h1 hr hnil
    go_enter Tryz.func30, Tryz.ntmps30
    go_wp2_with (go_at_call 36; refine H1.out.mono ?_; rintro e w1 ⟨rfl, rfl⟩)
    go_ret2
    exact ⟨_, rfl, HN.out _ _, Below.refl _ _⟩
  | true =>
    rw [show (decide ((1 : Int) ≤ b) && decide (b ≤ 1000000000)) = true from hb] at h1
    have H1 := hid h1
    obtain ⟨hb1, hb2⟩ := (inR_iff _ _ _).1 hb
    have hbm : IntKind.i64.wrap (b - 1) = b - 1 := IntWalk.i64_in _ (by omega)
    have h2 := within_c v 0 (b - 1) w
    have HD := hid trivial
    cases hv : inR v 0 (b - 1) with
    | false =>
      rw [show (decide ((0 : Int) ≤ v) && decide (v ≤ b - 1)) = false from hv] at h2
      have H2 := hid h2
      have HN := hid hnil
      rw [if_pos (.inr rfl)]
      clear h1 h2 hr hnil hb hv
      go_enter Tryz.func30, Tryz.ntmps30
      go_wp2_with (first
        | (go_at_call 36; have hq := HD; clear hq HD; refine H1.out.mono ?_; rintro e w1 ⟨rfl, rfl⟩)
        | (go_at_call 36; refine H2.out.mono ?_; rintro e w1 ⟨rfl, rfl⟩))
      go_ret2
      exact ⟨_, rfl, HN.out _ _, Below.refl _ _⟩
    | true =>
      rw [show (decide ((0 : Int) ≤ v) && decide (v ≤ b - 1)) = true from hv] at h2
      have H2 := hid h2
      obtain ⟨hv1, hv2⟩ := (inR_iff _ _ _).1 hv
      rw [if_neg (by simp)]
      have HC := hid (Combine_c b xs _ w hr hl)
      have hXR0 := fun W (hW : Below w.heap.size w W) => hr.below hW
      by_cases he : (combR b xs).2 = 0
      · rw [if_neg (by rw [he]; simp)]
        obtain ⟨B, n, rfl, hn, hnB⟩ := comb_ok b xs he hb
        rw [he] at HC
        rw [hn] at HC ⊢
        obtain ⟨V, rfl⟩ : ∃ V : Nat, v = ((V : Nat) : Int) := ⟨v.toNat, by omega⟩
        have hsw : IntKind.i64.wrap (((B : Nat) : Int) - ((n : Nat) : Int)) = ((B - n : Nat) : Int) := (IntWalk.i64_in _ (by omega)).trans (by omega)
        obtain ⟨d, hd⟩ : ∃ d, B - n = d := ⟨_, rfl⟩
        have hdi : ((B : Nat) : Int) - ((n : Nat) : Int) = ((d : Nat) : Int) := by omega
        rw [hd] at hsw
        rw [hdi]
        have htm := tmod_nat d B
        have hrB : d % B < B := Nat.mod_lt _ (by omega)
        have hB0 : (((B : Nat) : Int) == 0) = false := by simp; omega
        have hB0' : ((B : Nat) : Int) ≠ 0 := by omega
        have hrw : IntKind.i64.wrap ((d % B : Nat) : Int) = ((d % B : Nat) : Int) := IntWalk.i64_in _ (by omega)
        obtain ⟨z, hz⟩ : ∃ z, (V + d % B) % B = z := ⟨_, rfl⟩
        have hVm : V % B = V := Nat.mod_eq_of_lt (by omega)
        have hadd : addO B [((V : Nat) : Int), ((d : Nat) : Int) % ((B : Nat) : Int)] 0 = some z := by
          have e1 : ((d : Nat) : Int) % ((B : Nat) : Int) = ((d % B : Nat) : Int) := (Int.natCast_emod _ _).symm
          rw [e1, addO, if_pos ⟨by omega, by omega⟩, addO, if_pos ⟨by omega, by omega⟩, addO, Int.toNat_natCast, Int.toNat_natCast, Nat.zero_add, hVm, hz]
        have HA2 := hid (show ∀ (W : World) (g : Nat), W.heap[g]? = some (.cells #[.int .i64 ((V : Nat) : Int), .int .i64 (((d : Nat) : Int) % ((B : Nat) : Int))] 3 (0, 0)) → Calls Tryz.prog 63 #[.int .i64 ((B : Nat) : Int), .slice (some ⟨g, 0, none⟩) 2 2] W fun e w' => e = .returned (.tuple #[.int .i64 ((z : Nat) : Int), .bool true]) ∧ Below W.heap.size W w' from fun W g hg => by
          have h := add_c B ⟨by omega, by omega⟩ [((V : Nat) : Int), ((d : Nat) : Int) % ((B : Nat) : Int)] (.slice (some ⟨g, 0, none⟩) 2 2) W (.inr ⟨⟨g, 0, none⟩, 2, rfl, fun _ => heap_lt hg, fun k hk => by
            rcases k with _ | _ | k
            · exact cell_of_row W g 0 _ _ _ hg
            · exact cell_of_row W g 1 _ _ _ hg
            · exact absurd hk (by simp)⟩) (by simp)
          rw [hadd] at h
          exact h)
        have hlast : (((V : Nat) : Int) + ((d : Nat) : Int) % ((B : Nat) : Int)) % ((B : Nat) : Int) = ((z : Nat) : Int) := by rw [← hz]; push_cast; rfl
        rw [hlast]
        have HCL := hid (fun W (hW : Below w.heap.size w W) => clone_c xs _ W (hXR0 W hW) hl)
        clear h1 h2 hr hnil hb hv hadd hz hn hdi hd he hlast
        go_enter Tryz.func30, Tryz.ntmps30
        go_wp2_with (first
          | (go_at_call 36; have hq := HD; clear hq HD; refine H1.out.mono ?_; rintro e w1 ⟨rfl, rfl⟩)
          | (go_at_call 36; refine H2.out.mono ?_; rintro e w1 ⟨rfl, rfl⟩)
          | (go_at_call 68; refine HC.out.mono ?_; rintro e w2 ⟨rfl, hbc⟩; have hal : Below w.heap.size w (w2.alloc (.cells #[.int .i64 ((V : Nat) : Int), .int .i64 (((d : Nat) : Int) % ((B : Nat) : Int))] 3)) := hbc.trans ((Below.refl _ _).alloc hbc.size _))
          | (go_at_call 63; refine (HA2.out (w2.alloc (.cells #[.int .i64 ((V : Nat) : Int), .int .i64 (((d : Nat) : Int) % ((B : Nat) : Int))] 3)) w2.heap.size (heap_alloc_new _ _)).mono ?_; rintro e w3 ⟨rfl, hb3⟩; have hb3' := hal.trans (hb3.mono hal.size))
          | (go_at_call 69; refine (HCL.out w3 hb3').mono ?_; rintro e w4 ⟨vc, rfl, hvc, hb4⟩; have hb4' := hb3'.trans (hb4.mono hb3'.size); have hal4 : Below w4.heap.size w4 (w4.alloc (.cells #[.int .i64 ((z : Nat) : Int)] 3)) := (Below.refl _ _).alloc (Nat.le_refl _) _; have hvc4 := (hvc.below hal4).mono hb3'.size; have hc4 := cell_of_row _ w4.heap.size 0 _ _ _ (heap_alloc_new w4 (.cells #[.int .i64 ((z : Nat) : Int)] 3)); have hb5 := hb4'.trans (hal4.mono hb4'.size))
          | (refine wp_append_int rfl (.tmp 44) (.tmp 46) rfl w.heap.size vc xs rfl hvc4 _ w4.heap.size 1 rfl hc4 (by omega) hb5.size fun v6 w6 hv6 hg6 => ?_; have hb6 := grown_below hb5 hg6 hvc4 (Nat.le_refl _) hb5.size))
        go_ret2
        exact ⟨_, rfl, hv6, hb6⟩
      · rw [if_pos he]
        obtain ⟨z, hz⟩ : ∃ z, (combR b xs).2 = z := ⟨_, rfl⟩
        obtain ⟨y, hy⟩ : ∃ y, (combR b xs).1 = y := ⟨_, rfl⟩
        rw [hz] at he HC ⊢
        rw [hy] at HC
        have hz0 : (z != 0) = true := by simpa using he
        have HN := hid hnil
        clear h1 h2 hr hnil hb hv hz hy he hXR0
        go_enter Tryz.func30, Tryz.ntmps30
        go_wp2_with (first
          | (go_at_call 36; have hq := HD; clear hq HD; refine H1.out.mono ?_; rintro e w1 ⟨rfl, rfl⟩)
          | (go_at_call 36; refine H2.out.mono ?_; rintro e w1 ⟨rfl, rfl⟩)
          | (go_at_call 68; refine HC.out.mono ?_; rintro e w2 ⟨rfl, hbc⟩))
        go_ret2
        exact ⟨_, rfl, HN.out _ _, hbc⟩
end Go.Proofs.YtbcileppebpamaaGreatDoor
