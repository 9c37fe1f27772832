/- Walks of package hand: whether a hand is bare; whether cards are valid. -/
import Derived.Test.YtmjnelkeiogdcaaHQ
namespace Go.Proofs.Ytmjnelkeiogdcaa
open Go Go.RowKit Go.Shelf
set_option maxRecDepth 100000

/-- A hand as it comes: any numbers. -/
structure RH where
  kind : Int
  count : Int
  faces : List (Int × Int)
  low : Int
  high : Int
  group : Int
  changes : Int
  cards : List Int
def handV (k c : Int) (fv : Value) (lo hi g ch : Int) (cv : Value) : Array Value := #[.int .i64 k, .int .i64 c, fv, .int .i64 lo, .int .i64 hi, .int .i64 g, .int .i64 ch, cv]
def handR (R : RH) (fv cv : Value) : Array Value := handV R.kind R.count fv R.low R.high R.group R.changes cv
/-- The hand without the fields that its kind uses. -/
def plainV (k c : Int) (fv : Value) (lo hi g ch : Int) (cv : Value) : Array Value :=
  if k = 1 then handV k 0 (.slice none 0 0) lo hi g ch cv else if k = 2 then handV k c fv 0 0 g ch cv else if k = 3 then handV k 0 fv lo hi 0 0 cv else if k = 4 then handV k 0 fv lo hi g ch (.slice none 0 0) else handV k c fv lo hi g ch (.slice none 0 0)
theorem results_row {P : Program} {fn : Func} {p : Tmp} {T : TypeId} (h : fn.results = #[.cell p T]) {tmps : Array Value} {W : World} {b : Nat} {cs : Array Value} {d : TypeDesc} (hp : tmps.getD p undef = .pointer (some ⟨b, 0, none⟩)) (hb : W.heap[b]? = some (.cells cs T (0, 0)))
    (hu : P.underlying T = some d) (hd : (match d with | .struct _ | .array _ _ => true | _ => false) = true) (hi : (P.info? T).map (·.size) = some cs.size) : (results fn tmps).run P W = .ok (.agg cs) W := by
  have hp' : tmps[p]?.getD undef = .pointer (some ⟨b, 0, none⟩) := by simpa using hp
  simp [results, h, hp', asAddr, run_loadVar_row W b T T cs (0, 0) d hb hu hd hi]
set_option maxHeartbeats 1000000 in
theorem plain_c (k c : Int) (p : Option Addr) (n m : Nat) (lo hi g ch : Int) (q : Option Addr) (n' m' : Nat) (hk : k = 1 ∨ k = 2 ∨ k = 3 ∨ k = 4 ∨ k = 5) (w : World) :
    Calls Try.prog 76 #[.agg (handV k c (.slice p n m) lo hi g ch (.slice q n' m'))] w fun e w' => e = .returned (.agg (plainV k c (.slice p n m) lo hi g ch (.slice q n' m'))) ∧ Below w.heap.size w w' := by
  have hb : ∀ o1 o2, Below w.heap.size w ((w.alloc o1).alloc o2) := below2 w
  have HB := hid hb
  have HS := hid (alloc2_second w)
  clear hb
  rcases hk with rfl | rfl | rfl | rfl | rfl
  · show Calls _ _ _ _ fun e w' => e = .returned (.agg (handV 1 0 (.slice none 0 0) lo hi g ch (.slice q n' m'))) ∧ Below w.heap.size w w'
    simp only [handV]
    go_enter Try.func76, Try.ntmps76
    go_wp2_with fail
    exact bodyPost_ret (results_row Try.results76 rfl (HS.out _ _) Try.underlying26 rfl (by kernel_rfl)) rfl ⟨rfl, HB.out _ _⟩
  · show Calls _ _ _ _ fun e w' => e = .returned (.agg (handV 2 c (.slice p n m) 0 0 g ch (.slice q n' m'))) ∧ Below w.heap.size w w'
    simp only [handV]
    go_enter Try.func76, Try.ntmps76
    go_wp2_with fail
    exact bodyPost_ret (results_row Try.results76 rfl (HS.out _ _) Try.underlying26 rfl (by kernel_rfl)) rfl ⟨rfl, HB.out _ _⟩
  · show Calls _ _ _ _ fun e w' => e = .returned (.agg (handV 3 0 (.slice p n m) lo hi 0 0 (.slice q n' m'))) ∧ Below w.heap.size w w'
    simp only [handV]
    go_enter Try.func76, Try.ntmps76
    go_wp2_with fail
    exact bodyPost_ret (results_row Try.results76 rfl (HS.out _ _) Try.underlying26 rfl (by kernel_rfl)) rfl ⟨rfl, HB.out _ _⟩
  · show Calls _ _ _ _ fun e w' => e = .returned (.agg (handV 4 0 (.slice p n m) lo hi g ch (.slice none 0 0))) ∧ Below w.heap.size w w'
    simp only [handV]
    go_enter Try.func76, Try.ntmps76
    go_wp2_with fail
    exact bodyPost_ret (results_row Try.results76 rfl (HS.out _ _) Try.underlying26 rfl (by kernel_rfl)) rfl ⟨rfl, HB.out _ _⟩
  · show Calls _ _ _ _ fun e w' => e = .returned (.agg (handV 5 c (.slice p n m) lo hi g ch (.slice none 0 0))) ∧ Below w.heap.size w w'
    simp only [handV]
    go_enter Try.func76, Try.ntmps76
    go_wp2_with fail
    exact bodyPost_ret (results_row Try.results76 rfl (HS.out _ _) Try.underlying26 rfl (by kernel_rfl)) rfl ⟨rfl, HB.out _ _⟩
/-- All fields that a kind does not use are 0 or empty. -/
def bareB (k c : Int) (n : Nat) (lo hi g ch : Int) (n' : Nat) : Bool :=
  if k = 1 then decide (n' = 0) && decide (lo = 0) && decide (hi = 0) && decide (g = 0) && decide (ch = 0)
  else if k = 2 then decide (n + n' = 0) && decide (c = 0) && decide (g = 0) && decide (ch = 0)
  else if k = 3 then decide (n + n' = 0) && decide (lo = 0) && decide (hi = 0)
  else if k = 4 then decide (n = 0) && decide (lo = 0) && decide (hi = 0) && decide (g = 0) && decide (ch = 0)
  else decide (n = 0) && decide (c = 0) && decide (lo = 0) && decide (hi = 0) && decide (g = 0) && decide (ch = 0)
theorem eqArr5 (a b c d e : Int) (w : World) : (Op.equalIn 10000 119 (.agg #[.int .i64 a, .int .i64 b, .int .i64 c, .int .i64 d, .int .i64 e]) (.agg #[.int .i64 0, .int .i64 0, .int .i64 0, .int .i64 0, .int .i64 0])).run Try.prog w = .ok (a == 0 && (b == 0 && (c == 0 && (d == 0 && e == 0)))) w := by
  have u3 := Try.underlying3
  have a3 := Try.isAgg3
  have z3 := Try.sizeOf3
  obtain ⟨i, hi⟩ := Option.isSome_iff_exists.1 (show (Try.prog.info? 3).isSome = true by kernel_rfl)
  rw [run_equalIn_array w 9999 _ _ Try.underlying119 hi]
  rw [show Try.prog.cellsOf 3 = 1 by kernel_rfl, show List.range 5 = [0, 1, 2, 3, 4] by decide]
  simp only [Op.eqItems]
  go_simp
  by_cases h1 : a = 0 <;> by_cases h2 : b = 0 <;> by_cases h3 : c = 0 <;> by_cases h4 : d = 0 <;> by_cases h5 : e = 0 <;> simp [h1, h2, h3, h4, h5]
set_option maxHeartbeats 1000000 in
theorem isBare_c (k c : Int) (p : Option Addr) (n m : Nat) (lo hi g ch : Int) (q : Option Addr) (n' m' : Nat) (hk : k = 1 ∨ k = 2 ∨ k = 3 ∨ k = 4 ∨ k = 5) (hn : n ≤ 1000) (hn' : n' ≤ 1000) (w : World) :
    Calls Try.prog 60 #[.agg (handV k c (.slice p n m) lo hi g ch (.slice q n' m'))] w fun e w' => e = .returned (.bool (bareB k c n lo hi g ch n')) ∧ Below w.heap.size w w' := by
  have hb : ∀ o, Below w.heap.size w (w.alloc o) := fun o => (Below.refl _ _).alloc (Nat.le_refl _) _
  have HB := hid hb
  clear hb
  rcases hk with rfl | rfl | rfl | rfl | rfl
  · have HP := hid (fun W => (show Calls _ _ _ _ fun e w' => e = .returned (.agg (handV 1 0 (.slice none 0 0) lo hi g ch (.slice q n' m'))) ∧ _ from plain_c 1 c p n m lo hi g ch q n' m' (by simp) W))
    obtain ⟨r, hr⟩ : ∃ r, (0 == (0 : Int) && (lo == (0 : Int) && (hi == (0 : Int) && (g == (0 : Int) && ch == (0 : Int))))) = r := ⟨_, rfl⟩
    have HE := hid (fun W => eqArr5 0 lo hi g ch W)
    rw [hr] at HE
    have hrb : (decide (n' = 0) && r) = bareB 1 c n lo hi g ch n' := by
      rw [← hr]
      by_cases h1 : c = 0 <;> by_cases h2 : lo = 0 <;> by_cases h3 : hi = 0 <;> by_cases h4 : g = 0 <;> by_cases h5 : ch = 0 <;> simp [bareB, h1, h2, h3, h4, h5]
    rw [← hrb]
    have wsm := wrap_nat n' (by omega)
    have es : (0 : Int) + ((n' : Nat) : Int) = ((n' : Nat) : Int) := by omega
    simp only [handV] at HP ⊢
    clear hrb hr
    by_cases hz : n' = 0
    · have hz' : (((n' : Nat) : Int) == 0) = true := by simp [hz]
      have hd : decide (n' = 0) = true := decide_eq_true hz
      rw [hd, Bool.true_and]
      clear hz
      go_enter Try.func60, Try.ntmps60
      go_wp2_with (go_at_call 76; refine (HP.out _).mono ?_; rintro e w2 ⟨rfl, hb2⟩; have heq := HE.out)
      go_ret
      exact ⟨rfl, ((HB.out _).trans (hb2.mono (by simp))).alloc (by have := hb2.size; simp at this; omega) _⟩
    · have hz' : (((n' : Nat) : Int) == 0) = false := by simp; omega
      have hd : decide (n' = 0) = false := decide_eq_false hz
      rw [hd, Bool.false_and]
      clear hz
      go_enter Try.func60, Try.ntmps60
      go_wp2_with (go_at_call 76; refine (HP.out _).mono ?_; rintro e w2 ⟨rfl, hb2⟩)
      go_ret
      exact ⟨rfl, ((HB.out _).trans (hb2.mono (by simp))).alloc (by have := hb2.size; simp at this; omega) _⟩
  · have HP := hid (fun W => (show Calls _ _ _ _ fun e w' => e = .returned (.agg (handV 2 c (.slice p n m) 0 0 g ch (.slice q n' m'))) ∧ _ from plain_c 2 c p n m lo hi g ch q n' m' (by simp) W))
    obtain ⟨r, hr⟩ : ∃ r, (c == (0 : Int) && (0 == (0 : Int) && (0 == (0 : Int) && (g == (0 : Int) && ch == (0 : Int))))) = r := ⟨_, rfl⟩
    have HE := hid (fun W => eqArr5 c 0 0 g ch W)
    rw [hr] at HE
    have hrb : (decide (n + n' = 0) && r) = bareB 2 c n lo hi g ch n' := by
      rw [← hr]
      by_cases h1 : c = 0 <;> by_cases h2 : lo = 0 <;> by_cases h3 : hi = 0 <;> by_cases h4 : g = 0 <;> by_cases h5 : ch = 0 <;> simp [bareB, h1, h2, h3, h4, h5]
    rw [← hrb]
    obtain ⟨sm, hsm⟩ : ∃ sm, n + n' = sm := ⟨_, rfl⟩
    rw [hsm]
    have wsm := wrap_nat sm (by omega)
    have es : ((n : Nat) : Int) + ((n' : Nat) : Int) = ((sm : Nat) : Int) := by omega
    simp only [handV] at HP ⊢
    clear hrb hr
    by_cases hz : sm = 0
    · have hz' : (((sm : Nat) : Int) == 0) = true := by simp [hz]
      have hd : decide (sm = 0) = true := decide_eq_true hz
      rw [hd, Bool.true_and]
      clear hz
      go_enter Try.func60, Try.ntmps60
      go_wp2_with (go_at_call 76; refine (HP.out _).mono ?_; rintro e w2 ⟨rfl, hb2⟩; have heq := HE.out)
      go_ret
      exact ⟨rfl, ((HB.out _).trans (hb2.mono (by simp))).alloc (by have := hb2.size; simp at this; omega) _⟩
    · have hz' : (((sm : Nat) : Int) == 0) = false := by simp; omega
      have hd : decide (sm = 0) = false := decide_eq_false hz
      rw [hd, Bool.false_and]
      clear hz
      go_enter Try.func60, Try.ntmps60
      go_wp2_with (go_at_call 76; refine (HP.out _).mono ?_; rintro e w2 ⟨rfl, hb2⟩)
      go_ret
      exact ⟨rfl, ((HB.out _).trans (hb2.mono (by simp))).alloc (by have := hb2.size; simp at this; omega) _⟩
  · have HP := hid (fun W => (show Calls _ _ _ _ fun e w' => e = .returned (.agg (handV 3 0 (.slice p n m) lo hi 0 0 (.slice q n' m'))) ∧ _ from plain_c 3 c p n m lo hi g ch q n' m' (by simp) W))
    obtain ⟨r, hr⟩ : ∃ r, (0 == (0 : Int) && (lo == (0 : Int) && (hi == (0 : Int) && (0 == (0 : Int) && 0 == (0 : Int))))) = r := ⟨_, rfl⟩
    have HE := hid (fun W => eqArr5 0 lo hi 0 0 W)
    rw [hr] at HE
    have hrb : (decide (n + n' = 0) && r) = bareB 3 c n lo hi g ch n' := by
      rw [← hr]
      by_cases h1 : c = 0 <;> by_cases h2 : lo = 0 <;> by_cases h3 : hi = 0 <;> by_cases h4 : g = 0 <;> by_cases h5 : ch = 0 <;> simp [bareB, h1, h2, h3, h4, h5]
    rw [← hrb]
    obtain ⟨sm, hsm⟩ : ∃ sm, n + n' = sm := ⟨_, rfl⟩
    rw [hsm]
    have wsm := wrap_nat sm (by omega)
    have es : ((n : Nat) : Int) + ((n' : Nat) : Int) = ((sm : Nat) : Int) := by omega
    simp only [handV] at HP ⊢
    clear hrb hr
    by_cases hz : sm = 0
    · have hz' : (((sm : Nat) : Int) == 0) = true := by simp [hz]
      have hd : decide (sm = 0) = true := decide_eq_true hz
      rw [hd, Bool.true_and]
      clear hz
      go_enter Try.func60, Try.ntmps60
      go_wp2_with (go_at_call 76; refine (HP.out _).mono ?_; rintro e w2 ⟨rfl, hb2⟩; have heq := HE.out)
      go_ret
      exact ⟨rfl, ((HB.out _).trans (hb2.mono (by simp))).alloc (by have := hb2.size; simp at this; omega) _⟩
    · have hz' : (((sm : Nat) : Int) == 0) = false := by simp; omega
      have hd : decide (sm = 0) = false := decide_eq_false hz
      rw [hd, Bool.false_and]
      clear hz
      go_enter Try.func60, Try.ntmps60
      go_wp2_with (go_at_call 76; refine (HP.out _).mono ?_; rintro e w2 ⟨rfl, hb2⟩)
      go_ret
      exact ⟨rfl, ((HB.out _).trans (hb2.mono (by simp))).alloc (by have := hb2.size; simp at this; omega) _⟩
  · have HP := hid (fun W => (show Calls _ _ _ _ fun e w' => e = .returned (.agg (handV 4 0 (.slice p n m) lo hi g ch (.slice none 0 0))) ∧ _ from plain_c 4 c p n m lo hi g ch q n' m' (by simp) W))
    obtain ⟨r, hr⟩ : ∃ r, (0 == (0 : Int) && (lo == (0 : Int) && (hi == (0 : Int) && (g == (0 : Int) && ch == (0 : Int))))) = r := ⟨_, rfl⟩
    have HE := hid (fun W => eqArr5 0 lo hi g ch W)
    rw [hr] at HE
    have hrb : (decide (n = 0) && r) = bareB 4 c n lo hi g ch n' := by
      rw [← hr]
      by_cases h1 : c = 0 <;> by_cases h2 : lo = 0 <;> by_cases h3 : hi = 0 <;> by_cases h4 : g = 0 <;> by_cases h5 : ch = 0 <;> simp [bareB, h1, h2, h3, h4, h5]
    rw [← hrb]
    have wsm := wrap_nat n (by omega)
    have es : ((n : Nat) : Int) + (0 : Int) = ((n : Nat) : Int) := by omega
    simp only [handV] at HP ⊢
    clear hrb hr
    by_cases hz : n = 0
    · have hz' : (((n : Nat) : Int) == 0) = true := by simp [hz]
      have hd : decide (n = 0) = true := decide_eq_true hz
      rw [hd, Bool.true_and]
      clear hz
      go_enter Try.func60, Try.ntmps60
      go_wp2_with (go_at_call 76; refine (HP.out _).mono ?_; rintro e w2 ⟨rfl, hb2⟩; have heq := HE.out)
      go_ret
      exact ⟨rfl, ((HB.out _).trans (hb2.mono (by simp))).alloc (by have := hb2.size; simp at this; omega) _⟩
    · have hz' : (((n : Nat) : Int) == 0) = false := by simp; omega
      have hd : decide (n = 0) = false := decide_eq_false hz
      rw [hd, Bool.false_and]
      clear hz
      go_enter Try.func60, Try.ntmps60
      go_wp2_with (go_at_call 76; refine (HP.out _).mono ?_; rintro e w2 ⟨rfl, hb2⟩)
      go_ret
      exact ⟨rfl, ((HB.out _).trans (hb2.mono (by simp))).alloc (by have := hb2.size; simp at this; omega) _⟩
  · have HP := hid (fun W => (show Calls _ _ _ _ fun e w' => e = .returned (.agg (handV 5 c (.slice p n m) lo hi g ch (.slice none 0 0))) ∧ _ from plain_c 5 c p n m lo hi g ch q n' m' (by simp) W))
    obtain ⟨r, hr⟩ : ∃ r, (c == (0 : Int) && (lo == (0 : Int) && (hi == (0 : Int) && (g == (0 : Int) && ch == (0 : Int))))) = r := ⟨_, rfl⟩
    have HE := hid (fun W => eqArr5 c lo hi g ch W)
    rw [hr] at HE
    have hrb : (decide (n = 0) && r) = bareB 5 c n lo hi g ch n' := by
      rw [← hr]
      by_cases h1 : c = 0 <;> by_cases h2 : lo = 0 <;> by_cases h3 : hi = 0 <;> by_cases h4 : g = 0 <;> by_cases h5 : ch = 0 <;> simp [bareB, h1, h2, h3, h4, h5]
    rw [← hrb]
    have wsm := wrap_nat n (by omega)
    have es : ((n : Nat) : Int) + (0 : Int) = ((n : Nat) : Int) := by omega
    simp only [handV] at HP ⊢
    clear hrb hr
    by_cases hz : n = 0
    · have hz' : (((n : Nat) : Int) == 0) = true := by simp [hz]
      have hd : decide (n = 0) = true := decide_eq_true hz
      rw [hd, Bool.true_and]
      clear hz
      go_enter Try.func60, Try.ntmps60
      go_wp2_with (go_at_call 76; refine (HP.out _).mono ?_; rintro e w2 ⟨rfl, hb2⟩; have heq := HE.out)
      go_ret
      exact ⟨rfl, ((HB.out _).trans (hb2.mono (by simp))).alloc (by have := hb2.size; simp at this; omega) _⟩
    · have hz' : (((n : Nat) : Int) == 0) = false := by simp; omega
      have hd : decide (n = 0) = false := decide_eq_false hz
      rw [hd, Bool.false_and]
      clear hz
      go_enter Try.func60, Try.ntmps60
      go_wp2_with (go_at_call 76; refine (HP.out _).mono ?_; rintro e w2 ⟨rfl, hb2⟩)
      go_ret
      exact ⟨rfl, ((HB.out _).trans (hb2.mono (by simp))).alloc (by have := hb2.size; simp at this; omega) _⟩
end Go.Proofs.Ytmjnelkeiogdcaa
