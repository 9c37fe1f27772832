/- The law ShieldWays: the walk. -/
import Derived.Test.YtcdbkgpgjjeoiaaDoorW10
import Derived.Test.YtcdbkgpgjjeoiaaDoorR7
namespace Go.Proofs.YtcdbkgpgjjeoiaaDoor
open Go Go.RowKit
set_option maxRecDepth 100000

theorem Ints.form {w : World} {B : Nat} {v : Value} {xs : List Int} (h : Ints w B v xs) : ∃ p c, v = .slice p xs.length c := by
  rcases h.2 with ⟨h2, h3⟩ | ⟨g, cap, cur, h3, _⟩
  · exact ⟨none, 0, by rw [h2, h3]⟩
  · exact ⟨_, _, h3⟩
/-- The places that do not follow: none, where the chart is one. -/
theorem wl_nil (F : Nat → Nat) : ∀ p, (wl F p = [] ↔ ∀ i, i < p → 4 ≤ i → F i = fol F i)
  | 0 => by simp [wl]
  | p + 1 => by
    rw [wl]
    split
    · rename_i h
      rw [wl_nil F p]
      constructor
      · intro H i hi h4
        by_cases e : i = p
        · subst e; rcases h with h | h
          · omega
          · exact h
        · exact H i (by omega) h4
      · intro H i hi h4
        exact H i (by omega) h4
    · rename_i h
      constructor
      · intro e; simp at e
      · intro H
        exact absurd (.inr (H p (by omega) (by omega))) h
theorem fol_congr {F G : Nat → Nat} (k : Nat) (hk : k < 16) (h : ∀ i, i < k → F i = G i) (h4 : 4 ≤ k) : fol F k = fol G k := by
  unfold fol
  split
  · rename_i h8
    have := pa_dn k h8 hk
    rw [h _ this.1, h _ this.2]
  · have : ∀ n, n ≤ 4 → dg F (k - 4) n = dg G (k - 4) n := by
      intro n
      induction n with
      | zero => intro _; rfl
      | succ n ih =>
        intro hn
        simp only [dg]
        rw [ih (by omega), h n (by omega)]
    exact this 4 (Nat.le_refl _)
theorem up_lo (M : Nat → Nat) (i : Nat) (hi : i < 4) : ∀ n, up M n i = M i
  | 0 => by simp [up, overN, hi]
  | n + 1 => by
    rw [up]
    have : ¬ i = n + 4 := by omega
    simp only [upN, if_neg this]
    exact up_lo M i hi n
theorem up_keep (M : Nat → Nat) (i : Nat) : ∀ n m, i < n + 4 → n ≤ m → up M m i = up M n i := by
  intro n m hi hm
  induction m with
  | zero => obtain rfl : n = 0 := by omega
            rfl
  | succ m ih =>
    by_cases e : n = m + 1
    · rw [e]
    · rw [up]
      have : ¬ i = m + 4 := by omega
      simp only [upN, if_neg this]
      exact ih (by omega)
theorem der_fol (M : Nat → Nat) (i : Nat) (h4 : 4 ≤ i) (h16 : i < 16) : der M i = fol (der M) i := by
  obtain ⟨n, rfl⟩ : ∃ n, i = n + 4 := ⟨i - 4, by omega⟩
  have e1 : der M (n + 4) = up M (n + 1) (n + 4) := up_keep M (n + 4) (n + 1) 12 (by omega) (by omega)
  rw [e1, up]
  simp only [upN, if_pos]
  exact fol_congr (n + 4) h16 (fun j hj => (up_keep M j n 12 (by omega) (by omega)).symm) h4
theorem der_lo (M : Nat → Nat) (i : Nat) (hi : i < 4) : der M i = M i := up_lo M i hi 12
theorem der_unique (M G : Nat → Nat) (h0 : ∀ i, i < 4 → G i = M i) (h1 : ∀ i, i < 16 → 4 ≤ i → G i = fol G i) : ∀ i, i < 16 → der M i = G i := by
  intro i
  induction i using Nat.strongRecOn with
  | _ i ih =>
    intro hi
    by_cases h4 : i < 4
    · rw [der_lo M i h4, h0 i h4]
    · rw [der_fol M i (by omega) hi, h1 i hi (by omega)]
      exact fol_congr i hi (fun j hj => ih j hj (by omega)) (by omega)
theorem chart_wl (F : Nat → Nat) : Chart F ↔ wl F 16 = [] := by
  rw [wl_nil]
  constructor
  · intro h i hi h4
    have := der_fol F i h4 hi
    rw [h i hi] at this
    rw [this]
    exact fol_congr i hi (fun j hj => h j (by omega)) h4
  · intro h i hi
    exact der_unique F F (fun _ _ => rfl) h i hi
end Go.Proofs.YtcdbkgpgjjeoiaaDoor
/- The law ShieldWays: the walk. -/
namespace Go.Proofs.YtcdbkgpgjjeoiaaDoor
open Go Go.RowKit
set_option maxRecDepth 100000

abbrev Base := Laid
/-- A row is loaded behind a guard. -/
theorem ldrowG {P : Program} {T n : Nat} (hT : ArrT P T n) {ops : Array Oper} {rest : List Oper} {o : Oper} {a : Act} {w : World} {Q : Exit → Act → World → Prop} (x : Operand) (ho : o.op = .load T x)
    (hw : Region.wanted o (yielded ops a.tmps) = true)
    (g : Nat) (hx : a.eval x = .pointer (some ⟨g, 0, none⟩)) (S : Nat → Int) (t : TypeId) (hg : w.heap[g]? = some (.cells (irow n S) t (0, 0)))
    (h : wpList P ops Q rest (a.put o.dst (.agg (irow n S))) w) : wpList P ops Q (o :: rest) a w := by
  obtain ⟨m, e, hu⟩ := hT.und
  exact Go.BigFrame.wpList_want hw fun K hK => wp_load_row T x ho g hx t _ (0, 0) _ hg hu rfl (by rw [irow_size]; exact hT.siz) (hK _ _ h)

/-- The world after a call, as seen from the law's own. -/
theorem step {w W W' : World} {S : Nat → Int} (hb : Below w.heap.size w W) (hg : W.heap[w.heap.size]? = some (.cells (irow 16 S) 88 (0, 0))) (h : Below W.heap.size W W') :
    Below w.heap.size w W' ∧ W'.heap[w.heap.size]? = some (.cells (irow 16 S) 88 (0, 0)) := ⟨hb.trans (h.mono hb.size), heap_below h hg (heap_lt hg)⟩

/-- The figures of a row, as naturals. -/
theorem nat_row (S : Nat → Int) (hS : ∀ i, i < 16 → Fig (S i)) : ∃ F : Nat → Nat, (∀ i, i < 16 → F i < 16) ∧ irow 16 S = irow 16 (cst F) :=
  ⟨fun i => (S i).toNat, fun i hi => by have := hS i hi; unfold Fig at this; show (S i).toNat < 16; omega, irow_congr fun i hi => by have := hS i hi; unfold Fig at this; simp only [cst]; congr 1; omega⟩

end Go.Proofs.YtcdbkgpgjjeoiaaDoor
/- The law ShieldDerives: the walk. -/
namespace Go.Proofs.YtcdbkgpgjjeoiaaDoor
open Go Go.RowKit
set_option maxRecDepth 100000

/-- A block of the law's own after a call. -/
theorem stepO {B g : Nat} {w W W' : World} {o : Obj} (hb : Below B w W) (hB : B ≤ W.heap.size) (hg : W.heap[g]? = some o) (h : Below W.heap.size W W') :
    Below B w W' ∧ W'.heap[g]? = some o := ⟨hb.trans (h.mono hB), heap_below h hg (heap_lt hg)⟩
theorem eqlZero (b : Bool) (S : Nat → Int) (hb : b = true ↔ ∀ i, i < 16 → S i = 0) (w : World) : (binOp .eql 88 (.agg (irow 16 S)) (.agg #[.int .i64 0, .int .i64 0, .int .i64 0, .int .i64 0, .int .i64 0, .int .i64 0, .int .i64 0, .int .i64 0, .int .i64 0, .int .i64 0, .int .i64 0, .int .i64 0, .int .i64 0, .int .i64 0, .int .i64 0, .int .i64 0])).run Tryd.prog w = .ok (.bool b) w := by
  rw [zeros16]
  exact eqlShield S (fun _ => 0) b hb w

end Go.Proofs.YtcdbkgpgjjeoiaaDoor
/- The plain law of the way. -/
namespace Go.Proofs.YtcdbkgpgjjeoiaaDoor
open Go Go.RowKit
set_option maxRecDepth 100000

theorem chart_der (M : Nat → Nat) : Chart (der M) := fun i hi => der_unique (der M) (der M) (fun _ _ => rfl) (fun j hj h4 => der_fol M j h4 hj) i hi
theorem bit_xor (a b l : Nat) : bitB (a ^^^ b) l = (bitB a l ^^ bitB b l) := by
  have t : ∀ x : Nat, bitB x l = x.testBit l := fun x => by
    unfold bitB
    rw [Nat.testBit_eq_decide_div_mod_eq]
  rw [t, t, t, Nat.testBit_xor]
/-- One step of the way. -/
theorem way_step (F : Nat → Nat) (hch : Chart F) (l k : Nat) (h8 : 8 ≤ k) (h16 : k < 16) (hk : bitB (F k) l = true) :
    (if bitB (F (pa k)) l then pa k else pb k) = pa k ∧ bitB (F (pa k)) l = true ∧ bitB (F (pb k)) l = false ∨
    (if bitB (F (pa k)) l then pa k else pb k) = pb k ∧ bitB (F (pa k)) l = false ∧ bitB (F (pb k)) l = true := by
  have hfol : F k = F (pa k) ^^^ F (pb k) := by
    have h1 := der_fol F k (by omega) h16
    have h2 : fol (der F) k = der F (pa k) ^^^ der F (pb k) := by unfold fol; rw [if_pos h8]
    rw [hch k h16] at h1
    rw [h1, h2, hch _ (pa_lt k), hch _ (pb_lt k)]
  rw [hfol, bit_xor] at hk
  cases hb : bitB (F (pa k)) l <;> rw [hb] at hk <;> simp at hk ⊢ <;> exact hk
end Go.Proofs.YtcdbkgpgjjeoiaaDoor
