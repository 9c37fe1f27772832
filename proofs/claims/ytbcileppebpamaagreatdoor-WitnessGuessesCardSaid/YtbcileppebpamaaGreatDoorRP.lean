/- The plain law of the reference's hash: eight bytes, multiplied by hand. -/
import Derived.Test.YtbcileppebpamaaGreatDoorWA
set_option linter.unusedSimpArgs false
set_option linter.unusedVariables false
namespace Go.Proofs.YtbcileppebpamaaGreatDoor
open Go Go.RowKit

/-- The number that is kept in eight bytes. -/
def valF (f : Nat → Nat) : Nat := f 0 + 256 * (f 1 + 256 * (f 2 + 256 * (f 3 + 256 * (f 4 + 256 * (f 5 + 256 * (f 6 + 256 * f 7))))))
def P8 (i : Nat) : Nat := if i = 0 then 179 else if i = 1 then 1 else if i = 5 then 1 else 0
/-- The product: a bytes whole, of the next one b places. -/
def mulI (f : Nat → Nat) (a : Nat) (N : Nat → Nat) : Nat → (Nat → Nat)
  | 0 => N
  | b + 1 => upN (mulI f a N b) (a + b) (mulI f a N b (a + b) + f a * P8 b)
def mulO (f : Nat → Nat) : Nat → (Nat → Nat)
  | 0 => fun _ => 0
  | a + 1 => mulI f a (mulO f a) (8 - a)
theorem P8_le (i : Nat) : P8 i ≤ 179 := by unfold P8; split <;> (try split) <;> (try split) <;> omega
theorem mulI_le (f : Nat → Nat) (a : Nat) (N : Nat → Nat) (M : Nat) (hf : f a < 256) (hN : ∀ k, N k ≤ M) : ∀ b k, mulI f a N b k ≤ M + b * 45645
  | 0, k => by have := hN k; simp [mulI]; omega
  | b + 1, k => by
    have h1 := mulI_le f a N M hf hN b k
    have h2 := mulI_le f a N M hf hN b (a + b)
    have h3 : f a * P8 b ≤ 255 * 179 := Nat.mul_le_mul (by omega) (P8_le b)
    rw [mulI, upN]
    rw [Nat.add_mul, Nat.one_mul]
    generalize mulI f a N b k = x at h1 ⊢
    generalize mulI f a N b (a + b) = y at h2 ⊢
    generalize f a * P8 b = z at h3 ⊢
    generalize b * 45645 = u at h1 h2 ⊢
    split
    · omega
    · omega
theorem mulI_eq (f : Nat → Nat) (a : Nat) (N : Nat → Nat) : ∀ b k, mulI f a N b k = N k + if a ≤ k ∧ k < a + b then f a * P8 (k - a) else 0
  | 0, k => by rw [mulI, if_neg (by omega), Nat.add_zero]
  | b + 1, k => by
    rw [mulI, upN]
    split
    · rename_i h
      subst h
      rw [mulI_eq f a N b, if_neg (by omega), if_pos (by omega), Nat.add_sub_cancel_left, Nat.add_zero]
    · rename_i h
      rw [mulI_eq f a N b]
      by_cases hk : a ≤ k ∧ k < a + b
      · rw [if_pos hk, if_pos (by omega)]
      · rw [if_neg hk, if_neg (by omega)]
theorem mulO_le (f : Nat → Nat) (hf : ∀ i, i < 8 → f i < 256) : ∀ a, a ≤ 8 → ∀ k, mulO f a k ≤ a * 365160
  | 0, _, k => Nat.zero_le _
  | a + 1, h, k => by
    have h1 := mulI_le f a (mulO f a) (a * 365160) (hf a (by omega)) (mulO_le f hf a (by omega)) (8 - a) k
    have h2 : (8 - a) * 45645 ≤ 8 * 45645 := Nat.mul_le_mul_right _ (by omega)
    simp only [mulO]
    omega
/-- The bytes behind the carrying. -/
def carN (N : Nat → Nat) : Nat → Nat
  | 0 => 0
  | a + 1 => (carN N a + N a) / 256
def nxtN (N : Nat → Nat) (a : Nat) : Nat → Nat := fun k => if k < a then (carN N k + N k) % 256 else N k
theorem nxtN_zero (N : Nat → Nat) : nxtN N 0 = N := by funext k; simp [nxtN]
theorem nxtN_succ (N : Nat → Nat) (a : Nat) : upN (nxtN N a) a ((carN N a + N a) % 256) = nxtN N (a + 1) := by
  funext k
  simp only [upN, nxtN]
  by_cases h : k = a
  · subst h; simp
  · by_cases h2 : k < a
    · simp [h, h2, show k < a + 1 by omega]
    · simp [h, h2, show ¬ k < a + 1 by omega]
theorem carN_le (N : Nat → Nat) (M : Nat) (h : ∀ k, N k ≤ M) : ∀ a, carN N a ≤ M
  | 0 => by simp [carN]
  | a + 1 => by have h1 := carN_le N M h a; have h2 := h a; simp only [carN]; omega
/-- One byte more. -/
def rnd (f : Nat → Nat) (c : Nat) : Nat → Nat := nxtN (mulO (upN f 0 (f 0 ^^^ c)) 8) 8
theorem rnd_lt (f : Nat → Nat) (c i : Nat) (h : i < 8) : rnd f c i < 256 := by
  simp only [rnd, nxtN, h, if_true]
  omega
set_option maxHeartbeats 1000000 in
theorem val_mul (f : Nat → Nat) : valF (nxtN (mulO f 8) 8) = valF f * 1099511628211 % 18446744073709551616 := by
  have e0 : mulO f 8 0 = 179 * f 0 := by simp [mulO, mulI_eq, P8]; try omega
  have e1 : mulO f 8 1 = 179 * f 1 + f 0 := by simp [mulO, mulI_eq, P8]; try omega
  have e2 : mulO f 8 2 = 179 * f 2 + f 1 := by simp [mulO, mulI_eq, P8]; try omega
  have e3 : mulO f 8 3 = 179 * f 3 + f 2 := by simp [mulO, mulI_eq, P8]; try omega
  have e4 : mulO f 8 4 = 179 * f 4 + f 3 := by simp [mulO, mulI_eq, P8]; try omega
  have e5 : mulO f 8 5 = 179 * f 5 + f 4 + f 0 := by simp [mulO, mulI_eq, P8]; try omega
  have e6 : mulO f 8 6 = 179 * f 6 + f 5 + f 1 := by simp [mulO, mulI_eq, P8]; try omega
  have e7 : mulO f 8 7 = 179 * f 7 + f 6 + f 2 := by simp [mulO, mulI_eq, P8]; try omega
  obtain ⟨N, hN⟩ : ∃ N, mulO f 8 = N := ⟨_, rfl⟩
  rw [hN] at e0 e1 e2 e3 e4 e5 e6 e7 ⊢
  have hst : ∀ k, 256 * carN N (k + 1) + (carN N k + N k) % 256 = carN N k + N k := fun k => by simp only [carN]; omega
  have hr : ∀ k, k < 8 → nxtN N 8 k = (carN N k + N k) % 256 := fun k hk => by simp [nxtN, hk]
  have hlt : ∀ k, (carN N k + N k) % 256 < 256 := fun k => Nat.mod_lt _ (by decide)
  have c0 : carN N 0 = 0 := rfl
  simp only [valF]
  rw [hr 0 (by omega), hr 1 (by omega), hr 2 (by omega), hr 3 (by omega), hr 4 (by omega), hr 5 (by omega), hr 6 (by omega), hr 7 (by omega)]
  have s0 := hst 0
  have s1 := hst 1
  have s2 := hst 2
  have s3 := hst 3
  have s4 := hst 4
  have s5 := hst 5
  have s6 := hst 6
  have s7 := hst 7
  have l0 := hlt 0
  have l1 := hlt 1
  have l2 := hlt 2
  have l3 := hlt 3
  have l4 := hlt 4
  have l5 := hlt 5
  have l6 := hlt 6
  have l7 := hlt 7
  clear hst hr hlt hN
  simp only [Nat.zero_add, Nat.reduceAdd] at s0 s1 s2 s3 s4 s5 s6 s7
  rw [c0] at s0 l0
  simp only [Nat.zero_add] at s0 l0
  generalize (carN N 1 + N 1) % 256 = r1 at *
  generalize (carN N 2 + N 2) % 256 = r2 at *
  generalize (carN N 3 + N 3) % 256 = r3 at *
  generalize (carN N 4 + N 4) % 256 = r4 at *
  generalize (carN N 5 + N 5) % 256 = r5 at *
  generalize (carN N 6 + N 6) % 256 = r6 at *
  generalize (carN N 7 + N 7) % 256 = r7 at *
  rw [c0, Nat.zero_add]
  generalize N 0 % 256 = r0 at *
  rw [e0] at s0
  rw [e1] at s1
  rw [e2] at s2
  rw [e3] at s3
  rw [e4] at s4
  rw [e5] at s5
  rw [e6] at s6
  rw [e7] at s7
  clear e0 e1 e2 e3 e4 e5 e6 e7 c0
  have hT : r0 + 256 * (r1 + 256 * (r2 + 256 * (r3 + 256 * (r4 + 256 * (r5 + 256 * (r6 + 256 * r7)))))) < 18446744073709551616 := by
    clear s0 s1 s2 s3 s4 s5 s6 s7
    omega
  clear l0 l1 l2 l3 l4 l5 l6 l7
  generalize f 0 = f0 at *
  generalize f 1 = f1 at *
  generalize f 2 = f2 at *
  generalize f 3 = f3 at *
  generalize f 4 = f4 at *
  generalize f 5 = f5 at *
  generalize f 6 = f6 at *
  generalize f 7 = f7 at *
  generalize carN N 1 = q1 at *
  generalize carN N 2 = q2 at *
  generalize carN N 3 = q3 at *
  generalize carN N 4 = q4 at *
  generalize carN N 5 = q5 at *
  generalize carN N 6 = q6 at *
  generalize carN N 7 = q7 at *
  generalize carN N 8 = q8 at *
  generalize hTT : r0 + 256 * (r1 + 256 * (r2 + 256 * (r3 + 256 * (r4 + 256 * (r5 + 256 * (r6 + 256 * r7)))))) = T at *
  have hE : T + 18446744073709551616 * (q8 + (f7 + (f3 + 256 * (f4 + 256 * (f5 + 256 * (f6 + 256 * f7)))))) = (f0 + 256 * (f1 + 256 * (f2 + 256 * (f3 + 256 * (f4 + 256 * (f5 + 256 * (f6 + 256 * f7))))))) * 1099511628211 := by
    clear hT
    subst hTT
    omega
  rw [← hE, Nat.add_mul_mod_self_left, Nat.mod_eq_of_lt hT]
theorem hexK_two (m x y : Nat) (h : x < 256) : hexK (m + 2) (x + 256 * y) = hexK m y ++ [hexD (x / 16), hexD (x % 16)] := by
  rw [hexK, hexK, List.append_assoc, show (x + 256 * y) / 16 / 16 = y by omega, show (x + 256 * y) / 16 % 16 = x / 16 by omega, show (x + 256 * y) % 16 = x % 16 by omega]
  rfl
/-- What is written: the highest byte first. -/
def outF (f : Nat → Nat) : Nat → List UInt8
  | 0 => []
  | j + 1 => outF f j ++ [hexD (f (7 - j) / 16), hexD (f (7 - j) % 16)]
theorem outF_val (f : Nat → Nat) (hf : ∀ i, i < 8 → f i < 256) : outF f 8 = hex16 (valF f) := by
  simp only [outF, hex16, valF]
  rw [hexK_two 14 _ _ (hf 0 (by omega)), hexK_two 12 _ _ (hf 1 (by omega)), hexK_two 10 _ _ (hf 2 (by omega)), hexK_two 8 _ _ (hf 3 (by omega)), hexK_two 6 _ _ (hf 4 (by omega)), hexK_two 4 _ _ (hf 5 (by omega)), hexK_two 2 _ _ (hf 6 (by omega)), show f 7 = f 7 + 256 * 0 from rfl, hexK_two 0 _ _ (hf 7 (by omega))]
  rfl
theorem xor_low (x y c : Nat) (hx : x < 256) (hc : c < 256) : (x + 256 * y) ^^^ c = (x ^^^ c) + 256 * y := by
  have h1 : ((x + 256 * y) ^^^ c) / 2 ^ 8 = y := by
    rw [Nat.xor_div_two_pow, show (x + 256 * y) / 2 ^ 8 = y by omega, show c / 2 ^ 8 = 0 by omega, Nat.xor_zero]
  have h2 : ((x + 256 * y) ^^^ c) % 2 ^ 8 = x ^^^ c := by
    rw [Nat.xor_mod_two_pow, show (x + 256 * y) % 2 ^ 8 = x by omega, show c % 2 ^ 8 = c by omega]
  omega
theorem val_xor (f : Nat → Nat) (c : Nat) (hf : f 0 < 256) (hc : c < 256) : valF (upN f 0 (f 0 ^^^ c)) = valF f ^^^ c := by
  simp only [valF, upN]
  simp
  exact (xor_low _ _ _ hf hc).symm
theorem val_rnd (f : Nat → Nat) (c : Nat) (hf : f 0 < 256) (hc : c < 256) : valF (rnd f c) = (valF f ^^^ c) * 1099511628211 % 18446744073709551616 := by
  rw [rnd, val_mul, val_xor f c hf hc]
/-- The bytes behind a text. -/
def rndL : (Nat → Nat) → List UInt8 → (Nat → Nat)
  | f, [] => f
  | f, c :: l => rndL (rnd f c.toNat) l
def h8 (i : Nat) : Nat := if i = 0 then 0x25 else if i = 1 then 0x23 else if i = 2 then 0x22 else if i = 3 then 0x84 else if i = 4 then 0xe4 else if i = 5 then 0x9c else if i = 6 then 0xf2 else if i = 7 then 0xcb else 0
theorem val_h8 : valF h8 = h0N := by decide
theorem rndL_app : ∀ (a b : List UInt8) (f : Nat → Nat), rndL f (a ++ b) = rndL (rndL f a) b
  | [], _, _ => rfl
  | _ :: a, b, _ => rndL_app a b _
theorem rndL_val : ∀ (l : List UInt8) (f : Nat → Nat), (∀ i, i < 8 → f i < 256) → valF (rndL f l) = hashN (valF f) l ∧ ∀ i, i < 8 → rndL f l i < 256
  | [], f, h => ⟨rfl, h⟩
  | c :: l, f, h => by
    have h1 := rndL_val l (rnd f c.toNat) fun i hi => rnd_lt f _ i hi
    rw [val_rnd f c.toNat (h 0 (by omega)) c.toNat_lt] at h1
    exact h1
theorem h8_lt (i : Nat) : h8 i < 256 := by unfold h8; repeat (split; · omega)
                                           omega
theorem rndL_hash (l : List UInt8) : outF (rndL h8 l) 8 = hashL l := by
  obtain ⟨h1, h2⟩ := rndL_val l h8 fun i _ => h8_lt i
  rw [outF_val _ h2, h1, val_h8]
  rfl
end Go.Proofs.YtbcileppebpamaaGreatDoor
