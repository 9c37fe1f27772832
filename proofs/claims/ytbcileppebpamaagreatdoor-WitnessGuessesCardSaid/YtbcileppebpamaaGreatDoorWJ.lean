/- Walks of package witness: the model of a drawing; find, over, running. -/
import Derived.Test.YtbcileppebpamaaGreatDoorWI
set_option linter.unusedSimpArgs false
set_option linter.unusedVariables false
namespace Go.Proofs.YtbcileppebpamaaGreatDoor
open Go Go.RowKit Go.Shelf
set_option maxRecDepth 100000

/-- What a person did: the hash, the value, the lines of both, and whether the box was the sealed one. -/
structure PS where
  h : ByteArray
  v : Int
  s : Nat
  o : Nat
  r : Bool
/-- A drawing. -/
structure DS where
  ls : List ByteArray
  below : Nat
  ps : List PS
  sl : Nat
  op : Nat
  cl : Nat
def PS.enc (p : PS) : List Value := [.string p.h, .int .i64 p.v, .int .i64 ((p.s : Nat) : Int), .int .i64 ((p.o : Nat) : Int), .bool p.r]
def encP (ps : List PS) : Array Value := (ps.flatMap PS.enc).toArray
theorem encL_len : ∀ (ps : List PS), (ps.flatMap PS.enc).length = 5 * ps.length
  | [] => rfl
  | p :: l => by rw [List.flatMap_cons, List.length_append, encL_len l, List.length_cons]; simp [PS.enc]; omega
theorem encP_size (ps : List PS) : (encP ps).size = 5 * ps.length := by rw [encP, List.size_toArray, encL_len]
theorem encL_get : ∀ (ps : List PS) (i : Nat) (p : PS), ps[i]? = some p → ∀ k, k < 5 → (ps.flatMap PS.enc)[5 * i + k]? = p.enc[k]?
  | [], _, _, h, _, _ => by simp at h
  | x :: l, 0, p, h, k, hk => by
    simp at h; subst h
    rw [List.flatMap_cons, List.getElem?_append_left (by simp [PS.enc]; omega)]
    simp
  | x :: l, i + 1, p, h, k, hk => by
    rw [List.flatMap_cons, List.getElem?_append_right (by simp [PS.enc]; omega)]
    have := encL_get l i p (by simpa using h) k hk
    rw [← this]
    congr 1
    simp [PS.enc]; omega
theorem encP_get (ps : List PS) (i : Nat) (p : PS) (h : ps[i]? = some p) (k : Nat) (hk : k < 5) : (encP ps)[5 * i + k]? = p.enc[k]? := by
  rw [encP, List.getElem?_toArray]
  exact encL_get ps i p h k hk
theorem encL_set : ∀ (ps : List PS) (i : Nat) (p : PS), ps[i]? = some p → ∀ (k : Nat) (v : Value) (p' : PS), k < 5 → p'.enc = p.enc.set k v → (ps.flatMap PS.enc).set (5 * i + k) v = (ps.set i p').flatMap PS.enc
  | [], _, _, h, _, _, _, _, _ => by simp at h
  | x :: l, 0, p, h, k, v, p', hk, hp => by
    simp at h; subst h
    rw [List.set_cons_zero, List.flatMap_cons, List.flatMap_cons, hp, List.set_append_left _ _ (by simp [PS.enc]; omega)]
    simp
  | x :: l, i + 1, p, h, k, v, p', hk, hp => by
    rw [List.set_cons_succ, List.flatMap_cons, List.flatMap_cons, ← encL_set l i p (by simpa using h) k v p' hk hp, List.set_append_right _ _ (by simp [PS.enc]; omega)]
    congr 2
    simp [PS.enc]; omega
theorem encP_set (ps : List PS) (i : Nat) (p : PS) (h : ps[i]? = some p) (k : Nat) (v : Value) (p' : PS) (hk : k < 5) (hp : p'.enc = p.enc.set k v) : (encP ps).setIfInBounds (5 * i + k) v = encP (ps.set i p') := by
  rw [encP, encP, ← encL_set ps i p h k v p' hk hp, List.setIfInBounds_toArray]
def boxV (vl : Value) (q : Nat) (D : DS) : Array Value := #[vl, .int .i64 ((D.below : Nat) : Int), .slice (some ⟨q, 0, none⟩) D.ps.length D.ps.length, .int .i64 ((D.sl : Nat) : Int), .int .i64 ((D.op : Nat) : Int), .int .i64 ((D.cl : Nat) : Int)]
/-- A drawing lies at block b, its persons at block q, its lines from block B on. -/
structure DrawAt (W : World) (B b q : Nat) (D : DS) : Prop where
  box : ∃ vl, W.heap[b]? = some (.cells (boxV vl q D) 100 (0, 0)) ∧ StrRow W B vl D.ls
  row : W.heap[q]? = some (.cells (encP D.ps) 114 (0, 0))
theorem DrawAt.below {W W' : World} {B b q : Nat} {D : DS} (h : DrawAt W B b q D) (hb : Below W.heap.size W W') : DrawAt W' B b q D :=
  ⟨let ⟨vl, h1, h2⟩ := h.box; ⟨vl, heap_below hb h1 (heap_lt h1), h2.below hb⟩, heap_below hb h.row (heap_lt h.row)⟩
theorem DrawAt.ne {W : World} {B b q : Nat} {D : DS} (h : DrawAt W B b q D) : b ≠ q := fun e => by
  obtain ⟨vl, h1, _⟩ := h.box
  have h2 := h.row
  rw [← e, h1] at h2
  exact absurd (Obj.cells.inj (Option.some.inj h2)).2.1 (by decide)
/-- A row of texts. -/
def isStrs : Obj → Bool
  | .cells _ t _ => t == 9
  | _ => false
/-- Only the drawing's own blocks and new ones have changed. -/
structure OnlyD (B b q : Nat) (W W' : World) : Prop where
  os : W'.os = W.os
  tape : W'.tape = W.tape
  output : W'.output = W.output
  size : W.heap.size ≤ W'.heap.size
  block : ∀ k o, W.heap[k]? = some o → k ≠ b → k ≠ q → (k < B ∨ isStrs o = false) → W'.heap[k]? = some o
theorem OnlyD.refl (B b q : Nat) (W : World) : OnlyD B b q W W := ⟨rfl, rfl, rfl, Nat.le_refl _, fun _ _ h _ _ _ => h⟩
theorem OnlyD.trans {B b q : Nat} {X Y Z : World} (h : OnlyD B b q X Y) (k : OnlyD B b q Y Z) : OnlyD B b q X Z :=
  ⟨k.os.trans h.os, k.tape.trans h.tape, k.output.trans h.output, Nat.le_trans h.size k.size, fun j o ho h1 h2 h3 => k.block j o (h.block j o ho h1 h2 h3) h1 h2 h3⟩
theorem OnlyD.below {B b q : Nat} {W W' : World} (h : Below W.heap.size W W') : OnlyD B b q W W' := ⟨h.os, h.tape, h.output, h.size, fun k o ho _ _ _ => heap_below h ho (heap_lt ho)⟩
theorem OnlyD.toB {B b q : Nat} {W W' : World} (h : OnlyD B b q W W') (hb : B ≤ b) (hq : B ≤ q) (hB : B ≤ W.heap.size) : Below B W W' :=
  ⟨h.os, h.tape, h.output, h.size, fun k hk => by
    have hlt : k < W.heap.size := by omega
    exact (h.block k _ (Array.getElem?_eq_getElem hlt) (by omega) (by omega) (.inl hk)).trans (Array.getElem?_eq_getElem hlt).symm⟩
theorem OnlyD.set {B b q : Nat} {W V : World} (h : OnlyD B b q W V) {k : Nat} (hk : k = b ∨ k = q) (i : Nat) (v : Value) : OnlyD B b q W (V.setCell ⟨k, i, none⟩ v) :=
  ⟨by show V.os = W.os; exact h.os, h.tape, by show V.output = W.output; exact h.output, by simpa using h.size, fun j o ho h1 h2 h3 => (heap_setCell_other V ⟨k, i, none⟩ j _ (by rcases hk with rfl | rfl <;> assumption)).trans (h.block j o ho h1 h2 h3)⟩
theorem find_c (B b q : Nat) (D : DS) (p : Int) (W : World) (h : DrawAt W B b q D) (hn : D.ps.length ≤ 30) :
    Calls Tryz.prog 56 #[.pointer (some ⟨b, 0, none⟩), .int .i64 p] W fun e W' => e = .returned (.pointer (if inR p 1 ((D.ps.length : Nat) : Int) = true then some ⟨q, 5 * (p.toNat - 1), none⟩ else none)) ∧ W = W' := by
  obtain ⟨vl, hbx, -⟩ := h.box
  unfold boxV at hbx
  have k2 := cell_of_row _ _ 2 _ _ _ hbx
  have hw := within_c p 1 ((D.ps.length : Nat) : Int) W
  obtain ⟨n, hnn⟩ : ∃ n, D.ps.length = n := ⟨_, rfl⟩
  rw [hnn] at k2 hw hn ⊢
  cases hp : inR p 1 ((n : Nat) : Int) with
  | false =>
    rw [show (decide ((1 : Int) ≤ p) && decide (p ≤ ((n : Nat) : Int))) = false from hp] at hw
    have HW := hid hw
    rw [if_neg (by simp)]
    clear hw hbx h
    go_enter Tryz.func56, Tryz.ntmps56
    go_wp2_with (go_at_call 36; refine HW.out.mono ?_; rintro e w1 ⟨rfl, rfl⟩)
    go_ret
    exact ⟨rfl, rfl⟩
  | true =>
    rw [show (decide ((1 : Int) ≤ p) && decide (p ≤ ((n : Nat) : Int))) = true from hp] at hw
    have HW := hid hw
    rw [if_pos rfl]
    obtain ⟨h1, h2⟩ := (inR_iff _ _ _).1 hp
    obtain ⟨i, rfl⟩ : ∃ i : Nat, p = ((i + 1 : Nat) : Int) := ⟨(p - 1).toNat, by omega⟩
    have hs : IntKind.i64.wrap (((i + 1 : Nat) : Int) - 1) = ((i : Nat) : Int) := (IntWalk.i64_in _ (by omega)).trans (by omega)
    have hin : i < n := by omega
    rw [show (((i + 1 : Nat) : Int)).toNat - 1 = i from by omega]
    clear hw hbx h hp h1 h2
    go_enter Tryz.func56, Tryz.ntmps56
    go_wp2_with (go_at_call 36; refine HW.out.mono ?_; rintro e w1 ⟨rfl, rfl⟩)
    go_ret
    exact ⟨by simp [Nat.mul_comm], rfl⟩
/-- Whether a drawing is over, whether it runs. -/
def DS.over (D : DS) : Bool := decide (0 < D.cl) || D.op == D.ps.length
def DS.running (D : DS) : Bool := D.sl == D.ps.length && !D.over
theorem natCast_beq (a b : Nat) : ((((a : Nat) : Int) == ((b : Nat) : Int)) : Bool) = (a == b) := by
  by_cases h : a = b
  · subst h; simp
  · rw [show (a == b) = false from by simp [h]]; simp; omega
theorem over_c (B b q : Nat) (D : DS) (W : World) (h : DrawAt W B b q D) :
    Calls Tryz.prog 46 #[.pointer (some ⟨b, 0, none⟩)] W fun e W' => e = .returned (.bool D.over) ∧ ∃ m, W' = W.drewN m := by
  obtain ⟨vl, hbx, -⟩ := h.box
  unfold boxV at hbx
  have k2 := cell_of_row _ _ 2 _ _ _ hbx
  have k4 := cell_of_row _ _ 4 _ _ _ hbx
  have k5 := cell_of_row _ _ 5 _ _ _ hbx
  have hd : Below W.heap.size W W.drew := ⟨rfl, rfl, rfl, Nat.le_refl _, fun _ _ => rfl⟩
  unfold DS.over
  by_cases hc : 0 < D.cl
  · have d1 : decide ((0 : Int) < ((D.cl : Nat) : Int)) = true := decide_eq_true (by omega)
    rw [decide_eq_true hc, Bool.true_or]
    clear hbx h
    go_enter Tryz.func46, Tryz.ntmps46
    go_upto_region 1 with fail
    go_quiet (fail)
    go_wp2_with fail
    go_ret
    exact ⟨rfl, _, rfl⟩
  · have d1 : decide ((0 : Int) < ((D.cl : Nat) : Int)) = false := decide_eq_false (by omega)
    rw [decide_eq_false hc, Bool.false_or]
    clear hbx h
    go_enter Tryz.func46, Tryz.ntmps46
    go_upto_region 1 with fail
    go_quiet (fail)
    go_wp2_with fail
    go_ret
    exact ⟨by rw [← natCast_beq]; rfl, _, rfl⟩
theorem drewN_below (W : World) (n : Nat) : Below W.heap.size W (W.drewN n) := below_drewN (Below.refl _ _) _
theorem running_c (B b q : Nat) (D : DS) (W : World) (h : DrawAt W B b q D) :
    Calls Tryz.prog 60 #[.pointer (some ⟨b, 0, none⟩)] W fun e W' => e = .returned (.bool D.running) ∧ ∃ m, W' = W.drewN m := by
  obtain ⟨vl, hbx, -⟩ := h.box
  unfold boxV at hbx
  have k2 := cell_of_row _ _ 2 _ _ _ hbx
  have k3 := cell_of_row _ _ 3 _ _ _ hbx
  have HO := hid (fun n => over_c B b q D (W.drewN n) (h.below (drewN_below W n)))
  unfold DS.running
  by_cases hc : D.sl = D.ps.length
  · have d1 : ((((D.sl : Nat) : Int) == ((D.ps.length : Nat) : Int)) : Bool) = true := by rw [hc]; simp
    rw [show (D.sl == D.ps.length) = true from by simp [hc], Bool.true_and]
    generalize D.over = ov at HO ⊢
    clear hbx h hc
    go_enter Tryz.func60, Tryz.ntmps60
    go_upto_region 1 with fail
    go_quiet ((go_at_call 46; exact Calls.quiet_of (HO.out _)))
    go_wp2_with fail
    go_ret
    exact ⟨rfl, _, rfl⟩
  · have d1 : ((((D.sl : Nat) : Int) == ((D.ps.length : Nat) : Int)) : Bool) = false := by simp; omega
    rw [show (D.sl == D.ps.length) = false from by simp [hc], Bool.false_and]
    clear hbx h hc
    go_enter Tryz.func60, Tryz.ntmps60
    go_upto_region 1 with fail
    go_quiet (fail)
    go_wp2_with fail
    go_ret
    exact ⟨rfl, _, rfl⟩
end Go.Proofs.YtbcileppebpamaaGreatDoor
