/- Lists of bytes among the arguments; a list that grows beside a row. -/
import Derived.Test.YtbcileppebpamaaGreatDoorWU
set_option linter.unusedSimpArgs false
set_option linter.unusedVariables false
namespace Go.Proofs.YtbcileppebpamaaGreatDoor
open Go Go.RowKit Go.Shelf
set_option maxRecDepth 100000

def ReadsU (w : World) (v : Value) (bs : List Nat) : Prop :=
  (∀ x ∈ bs, x < 256) ∧ bs.length ≤ maxLen ∧ ((bs = [] ∧ v = .slice none 0 0) ∨ (∃ (a : Addr) (c : Nat), v = .slice (some a) bs.length c ∧ (0 < bs.length → a.block < w.heap.size) ∧ ∀ k (h : k < bs.length), w.cell? (a.add k) = some (.int .u8 ((bs[k] : Nat) : Int))))
theorem ReadsU.form {w : World} {v : Value} {bs : List Nat} (h : ReadsU w v bs) : ∃ p c, v = .slice p bs.length c := by
  rcases h.2.2 with ⟨rfl, rfl⟩ | ⟨a, c, rfl, _⟩
  · exact ⟨_, _, rfl⟩
  · exact ⟨_, _, rfl⟩
theorem ReadsU.at' {w : World} {p : Option Addr} {n c : Nat} {bs : List Nat} (h : ReadsU w (.slice p n c) bs) {i : Nat} (hi : i < bs.length) : ∃ b o, p = some ⟨b, o, none⟩ ∧ b < w.heap.size ∧ w.cell? ⟨b, o + i, none⟩ = some (.int .u8 ((bs[i] : Nat) : Int)) := by
  rcases h.2.2 with ⟨rfl, _⟩ | ⟨⟨b, off, spot⟩, c', h1, h2, h3⟩
  · simp at hi
  · injection h1 with e1 _ _
    have hspot : spot = none := by simpa [Addr.add] using World.cell?_spot (h3 0 (by omega))
    subst hspot
    have := h3 i hi
    rw [show (⟨b, off, none⟩ : Addr).add i = ⟨b, off + i, none⟩ by unfold Addr.add; split <;> simp_all] at this
    exact ⟨b, off, e1, h2 (by omega), this⟩
theorem mk_ints (W : World) (m : Nat) (hm : m ≤ 100000) : (Instr.makeSlice 72 (.int .i64 ((m : Nat) : Int)) (.int .i64 ((m : Nat) : Int))).run Tryz.prog W = .ok (.slice (some ⟨W.heap.size, 0, none⟩) m m) (W.alloc (.cells (irow m fun _ => 0) 3)) := by
  obtain ⟨i, hi⟩ := Option.isSome_iff_exists.1 (show (Tryz.prog.info? 3).isSome = true by kernel_rfl)
  have h1 : (Tryz.prog.info? 3).map (·.size) = some 1 := by kernel_rfl
  have h2 : (Tryz.prog.info? 3).map (·.bytes) = some 8 := by kernel_rfl
  have h3 : (Tryz.prog.info? 3).bind (·.zero) = some (.int .i64 0) := by kernel_rfl
  rw [hi] at h1 h2 h3
  simp only [Option.map_some, Option.some.injEq, Option.bind_some] at h1 h2 h3
  have h := run_makeSlice (P := Tryz.prog) W 72 3 i (.int .i64 0) Tryz.underlying72 hi h3 .i64 .i64 ((m : Nat) : Int) ((m : Nat) : Int) (by omega) (Int.le_refl _) (by rw [h1]; omega) (by rw [h2]; omega) (by omega)
  rw [h, h1]
  congr 2
  simp only [Int.toNat_natCast, Nat.mul_one]
  congr 1
  refine Array.ext (by simp [madeCells]) fun j h1 h2 => ?_
  have e : (madeCells (Value.int .i64 0).cells m)[j]? = (irow m fun _ => 0)[j]? := by
    rw [irow_get _ _ _ (by simpa using h2)]
    simp only [madeCells, show (Value.int .i64 0).cells = #[.int .i64 0] from rfl]
    simp [Nat.mod_one, show j < m by simpa using h2]
  rw [Array.getElem?_eq_getElem h1, Array.getElem?_eq_getElem h2] at e
  exact Option.some.inj e
theorem Ints.setOther {w : World} {B : Nat} {v : Value} {xs : List Int} (h : Ints w B v xs) {g i : Nat} (hg : g < B) (u : Value) : Ints (w.setCell ⟨g, i, none⟩ u) B v xs := by
  refine ⟨h.1, ?_⟩
  rcases h.2 with h2 | ⟨g', cap, cur, h3, h4, h5, h6⟩
  · exact .inl h2
  · exact .inr ⟨g', cap, cur, h3, h4, (heap_setCell_other w ⟨g, i, none⟩ g' u (by show g' ≠ g; omega)).trans h5, h6⟩

/-- A list that has just been begun, or lies above a row. -/
def Giv (V : World) (s : Nat) (v : Value) (xs : List Int) : Prop := (xs = [] ∧ ∃ k, v = .slice (some ⟨k, 0, none⟩) 0 0) ∨ Ints V (s + 1) v xs
theorem Giv.below {V V' : World} {s : Nat} {v : Value} {xs : List Int} (h : Giv V s v xs) (hb : Below V.heap.size V V') : Giv V' s v xs := h.imp id fun h => h.below hb
theorem Giv.set {V : World} {s i : Nat} {v u : Value} {xs : List Int} (h : Giv V s v xs) : Giv (V.setCell ⟨s, i, none⟩ u) s v xs := h.imp id fun h => h.setOther (Nat.lt_succ_self _) u
theorem Giv.readsA {V : World} {s : Nat} {v : Value} {xs : List Int} (h : Giv V s v xs) : ReadsA V v xs := by
  rcases h with ⟨rfl, k, rfl⟩ | h
  · exact .inr ⟨⟨k, 0, none⟩, 0, rfl, fun h => by simp at h, fun k hk => by simp at hk⟩
  · exact h.readsA
theorem wp_append_giv {ops : Array Oper} {rest : List Oper} {o : Oper} {a : Act} {w : World} {Q : Exit → Act → World → Prop} (hgd : o.guard = none) (t x : Operand)
    (ho : o.op = .call { callee := .builtin .append, args := #[t, x], argTypes := #[72, 72] }) (s : Nat) (v : Value) (xs : List Int) (hv : a.eval t = v) (hG : Giv w s v xs) (hs : s < w.heap.size)
    (n : Int) (g c : Nat) (hx : a.eval x = .slice (some ⟨g, 0, none⟩) 1 c) (hc : w.cell? ⟨g, 0, none⟩ = some (.int .i64 n)) (hlen : xs.length < 1000000000) (B0 : Nat) (w0 : World) (hb : Below B0 w0 w) (hB : B0 ≤ s)
    (h : ∀ v' w', Giv w' s v' (xs ++ [n]) → w'.heap[s]? = w.heap[s]? → Below B0 w0 w' → wpList Tryz.prog ops Q rest (a.put o.dst v') w') : wpList Tryz.prog ops Q (o :: rest) a w := by
  rcases hG with ⟨rfl, k, rfl⟩ | hI
  · obtain ⟨i0, hi, hz0, hz1, hz2⟩ := info_parts infoInt
    have hr := run_append_grow (P := Tryz.prog) w 72 o.type 3 i0 (.int .i64 0) Tryz.underlying72 hi hz0 ⟨k, 0, none⟩ 0 0 [] (by simp) (fun j v hj => by simp at hj) ⟨g, 0, none⟩ 1 c [.int .i64 n] (by simp [hz1]) (fun j u hj => by
      obtain rfl : j = 0 := by
        cases j with
        | zero => rfl
        | succ j => simp at hj
      simp at hj; subst hj; exact hc) (by omega) (by omega) (growslice_fits (by omega) (by rw [hz2]; omega))
    refine wpList_plain hgd fun _ hK => ?_
    unfold Oper.wp execOp
    simp only [ho, resolve, invoke, builtin, Sem.run_bind, Sem.run_pure, Result.andThen_ok, List.map_toArray, List.map_cons, List.map_nil, hv, hx, hr]
    have hge := grownCap_ge w (0 + 1) 0 3
    have hcm : grownCap w (0 + 1) 0 3 ≤ maxLen := grownCap_le_maxLen w (0 + 1) 0 3 (by decide)
    refine hK _ _ (h _ _ (.inr ⟨rfl, .inr ⟨w.heap.size, _, _, rfl, by omega, heap_alloc_new w.drew _, ?_, hcm, ?_, ?_⟩⟩) ?_ ?_)
    · exact hge
    · simp only [Array.size_append, List.size_toArray, size_zeroCells, List.length_nil, List.length_singleton]
      simp only [show (Value.int .i64 0).cells.size = 1 from rfl, Nat.zero_add, Nat.mul_one] at hge ⊢
      omega
    · simp
    · exact heap_alloc_old w.drew _ hs
    · have hsz : B0 ≤ w.heap.size := (by omega)
      exact (hb.trans ((below_drewN (Below.refl _ _) 1 : Below w.heap.size w (w.drewN 1)).mono hsz)).alloc hsz _
  · refine wp_append_int hgd t x ho (s + 1) v xs hv hI n g c hx hc hlen (by omega) fun v' w' h1 h2 => h v' w' (.inr h1) (h2.block s hs fun e => ?_) (hb.grown h2 (by omega) fun k hk => ?_)
    · have := hI.own s e.symm
      omega
    · have := hI.own k hk
      omega
end Go.Proofs.YtbcileppebpamaaGreatDoor
