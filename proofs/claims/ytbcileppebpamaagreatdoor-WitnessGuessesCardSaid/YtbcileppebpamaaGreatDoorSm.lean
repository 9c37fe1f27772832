/- Slices of ints that the call itself made; two slices compared. -/
import Derived.Test.YtbcileppebpamaaGreatDoorPlain
import Derived.Maps.AppendAt
import Derived.Laws.AppendOwnNone
set_option linter.unusedSimpArgs false
set_option linter.unusedVariables false
namespace Go.Proofs.YtbcileppebpamaaGreatDoor
open Go Go.RowKit
set_option maxRecDepth 100000

theorem getD_lt (xs : List Int) (k : Nat) (h : k < xs.length) : xs.getD k 0 = xs[k] := by simp [List.getD_eq_getElem?_getD, h]
theorem infoInt : (Tryz.prog.info? 3).map (fun i => (i.zero, i.size, i.bytes)) = some (some (.int .i64 0), 1, 8) := by kernel_rfl

/-- A slice of ints that was made from block base on. -/
def Ints (w : World) (base : Nat) (v : Value) (xs : List Int) : Prop := w.ownsRow base 3 1 v xs.length (xs.map (Value.int .i64))
/-- A slice that reads as a list. -/
def Reads (w : World) (v : Value) (xs : List Int) : Prop :=
  (xs = [] ∧ ∃ a c, v = .slice a 0 c) ∨ (∃ g o c, v = .slice (some ⟨g, o, none⟩) xs.length c ∧ g < w.heap.size ∧ ∀ k (h : k < xs.length), w.cell? ⟨g, o + k, none⟩ = some (.int .i64 xs[k]))

theorem Ints.mono {w : World} {B B' : Nat} {v : Value} {xs : List Int} (h : Ints w B v xs) (hB : B' ≤ B) : Ints w B' v xs := by
  refine ⟨h.1, ?_⟩
  rcases h.2 with h2 | ⟨g, cap, cur, h3, h4, h5⟩
  · exact .inl h2
  · exact .inr ⟨g, cap, cur, h3, by omega, h5⟩
theorem Ints.below {w w' : World} {B : Nat} {v : Value} {xs : List Int} (h : Ints w B v xs) (hb : Below w.heap.size w w') : Ints w' B v xs := by
  refine ⟨h.1, ?_⟩
  rcases h.2 with h2 | ⟨g, cap, cur, h3, h4, h5, h6⟩
  · exact .inl h2
  · exact .inr ⟨g, cap, cur, h3, h4, heap_below hb h5 (heap_lt h5), h6⟩
theorem Ints.reads {w : World} {B : Nat} {v : Value} {xs : List Int} (h : Ints w B v xs) : Reads w v xs := by
  rcases h.2 with ⟨h2, h3⟩ | ⟨g, cap, cur, h3, h4, h5, _, _, _, h7⟩
  · exact .inl ⟨List.eq_nil_of_length_eq_zero h3, none, 0, h2⟩
  · refine .inr ⟨g, 0, cap, h3, heap_lt h5, fun k hk => ?_⟩
    rw [Nat.zero_add, cell_of_row _ _ k _ _ (0, 0) h5]
    have : (cur.toList.take (xs.length * 1))[k]? = (xs.map (Value.int .i64))[k]? := by rw [h7]
    rw [List.getElem?_take, if_pos (by omega)] at this
    rw [← Array.getElem?_toList, this]
    simp [hk]
theorem Reads.below {w w' : World} {v : Value} {xs : List Int} (h : Reads w v xs) (hb : Below w.heap.size w w') : Reads w' v xs := by
  rcases h with h | ⟨g, o, c, h1, h2, h3⟩
  · exact .inl h
  · exact .inr ⟨g, o, c, h1, Nat.lt_of_lt_of_le h2 hb.size, fun k hk => (hb.cell (p := ⟨g, o + k, none⟩) h2).trans (h3 k hk)⟩
theorem Ints.nil (w : World) (B : Nat) : Ints w B (.slice none 0 0) [] := World.ownsRow_nil w B _ _
theorem Ints.made (w : World) (B : Nat) (hB : B ≤ w.heap.size) : Ints (w.alloc (.cells #[] 3)) B (.slice (some ⟨w.heap.size, 0, none⟩) 0 0) [] :=
  World.ownsRow_made w #[] 0 hB (by decide) rfl
theorem Ints.one (w : World) (B : Nat) (hB : B ≤ w.heap.size) (n : Int) : Ints (w.alloc (.cells #[.int .i64 n] 3)) B (.slice (some ⟨w.heap.size, 0, none⟩) 1 1) [n] :=
  ⟨rfl, .inr ⟨w.heap.size, 1, #[.int .i64 n], rfl, hB, heap_alloc_new w _, by simp, by decide, rfl, rfl⟩⟩

/-- Append of one int to a slice of the call's own. -/
theorem wp_append_int {ops : Array Oper} {rest : List Oper} {o : Oper} {a : Act} {w : World} {Q : Exit → Act → World → Prop} (hgd : o.guard = none) (s x : Operand)
    (ho : o.op = .call { callee := .builtin .append, args := #[s, x], argTypes := #[72, 72] }) (B : Nat) (v : Value) (xs : List Int) (hs : a.eval s = v) (hown : Ints w B v xs)
    (n : Int) (g c : Nat) (hx : a.eval x = .slice (some ⟨g, 0, none⟩) 1 c) (hc : w.cell? ⟨g, 0, none⟩ = some (.int .i64 n)) (hlen : xs.length < 1000000000) (hB : B ≤ w.heap.size)
    (h : ∀ v' w', Ints w' B v' (xs ++ [n]) → w.grownBy w' v.ownBlock → wpList Tryz.prog ops Q rest (a.put o.dst v') w') : wpList Tryz.prog ops Q (o :: rest) a w := by
  obtain ⟨i0, hi, hz0, hz1, hz2⟩ := info_parts infoInt
  refine wpList_append_own w hgd s x 72 ho B 3 i0 (.int .i64 0) 1 8 Tryz.underlying72 hi hz0 hz1 hz2 rfl (by decide) v xs.length _ hs hown ⟨g, 0, none⟩ 1 c [.int .i64 n] hx rfl
    (fun j u hj => by
      obtain rfl : j = 0 := by
        cases j with
        | zero => rfl
        | succ j => simp at hj
      simp at hj; subst hj; exact hc) (fun u hu => by simp at hu; subst hu; rfl) (by unfold maxLen; omega) (by omega) hB ?_
  intro v' w' h1 h2 _
  refine h v' w' ?_ h2
  unfold Ints
  simpa using h1
/-- What an append leaves: blocks of the chart stay. -/
theorem grown_heap {w w' : World} {B : Nat} {v : Value} {xs : List Int} (hg : w.grownBy w' v.ownBlock) (h : Ints w B v xs) {g : Nat} {o : Obj} (ho : w.heap[g]? = some o) (hB : g < B) : w'.heap[g]? = some o := by
  refine (hg.block g (heap_lt ho) fun e => ?_).trans ho
  have := (World.ownsRow.lt h g e.symm).1
  omega
theorem grown_below {w0 w w' : World} {C B : Nat} {v : Value} {xs : List Int} (hb : Below C w0 w) (hg : w.grownBy w' v.ownBlock) (h : Ints w B v xs) (hC : C ≤ B) (hCs : C ≤ w.heap.size) : Below C w0 w' :=
  hb.grown hg hCs fun k e => by have := (World.ownsRow.lt h k e).1; omega

end Go.Proofs.YtbcileppebpamaaGreatDoor
/- A slice that came in, as a list; append of it to a slice of the call's own. -/
namespace Go.Proofs.YtbcileppebpamaaGreatDoor
open Go Go.RowKit
set_option maxRecDepth 100000

/-- A slice that came in: nil, or at an address. -/
def ReadsA (w : World) (v : Value) (xs : List Int) : Prop :=
  (xs = [] ∧ v = .slice none 0 0) ∨ (∃ (a : Addr) (c : Nat), v = .slice (some a) xs.length c ∧ (0 < xs.length → a.block < w.heap.size) ∧ ∀ k (h : k < xs.length), w.cell? (a.add k) = some (.int .i64 xs[k]))
theorem ReadsA.below {w w' : World} {v : Value} {xs : List Int} (h : ReadsA w v xs) (hb : Below w.heap.size w w') : ReadsA w' v xs := by
  rcases h with h | ⟨a, c, h1, h2, h3⟩
  · exact .inl h
  · refine .inr ⟨a, c, h1, fun h => Nat.lt_of_lt_of_le (h2 h) hb.size, fun k hk => ?_⟩
    have hl := h2 (by omega)
    have : (a.add k).block = a.block := by unfold Addr.add; split <;> rfl
    rw [hb.cell (by rw [this]; exact hl)]
    exact h3 k hk
theorem ReadsA.plain {w : World} {a : Addr} {n : Nat} {xs : List Int} (hn : 0 < n) (h3 : ∀ k (h : k < xs.length), w.cell? (a.add k) = some (.int .i64 xs[k])) (hl : n = xs.length) : ∃ g o, a = ⟨g, o, none⟩ ∧ ∀ k (h : k < xs.length), w.cell? ⟨g, o + k, none⟩ = some (.int .i64 xs[k]) := by
  obtain ⟨b, off, spot⟩ := a
  have hspot : spot = none := by simpa [Addr.add] using World.cell?_spot (h3 0 (by omega))
  subst hspot
  refine ⟨b, off, rfl, fun k hk => ?_⟩
  have := h3 k hk
  have hadd : (⟨b, off, none⟩ : Addr).add k = ⟨b, off + k, none⟩ := by unfold Addr.add; split <;> simp_all
  rwa [hadd] at this
theorem ReadsA.reads {w : World} {v : Value} {xs : List Int} (h : ReadsA w v xs) : Reads w v xs := by
  rcases h with ⟨rfl, rfl⟩ | ⟨a, c, h1, h2, h3⟩
  · exact .inl ⟨rfl, _, _, rfl⟩
  · by_cases h0 : xs.length = 0
    · rw [h0] at h1
      exact .inl ⟨List.eq_nil_of_length_eq_zero h0, _, _, h1⟩
    · obtain ⟨g, o, rfl, h4⟩ := ReadsA.plain (n := xs.length) (by omega) h3 rfl
      exact .inr ⟨g, o, c, h1, h2 (by omega), h4⟩
theorem ReadsA.form {w : World} {v : Value} {xs : List Int} (h : ReadsA w v xs) : ∃ p c, v = .slice p xs.length c := by
  rcases h with ⟨rfl, rfl⟩ | ⟨a, c, h1, _⟩
  · exact ⟨none, 0, rfl⟩
  · exact ⟨_, _, h1⟩

theorem wp_append_reads {ops : Array Oper} {rest : List Oper} {o : Oper} {a : Act} {w : World} {Q : Exit → Act → World → Prop} (hgd : o.guard = none) (s x : Operand)
    (ho : o.op = .call { callee := .builtin .append, args := #[s, x], argTypes := #[72, 72] }) (B : Nat) (v : Value) (xs : List Int) (hs : a.eval s = v) (hown : Ints w B v xs)
    (u : Value) (ys : List Int) (hx : a.eval x = u) (hr : ReadsA w u ys) (hlen : xs.length + ys.length < 1000000000) (hB : B ≤ w.heap.size)
    (h : ∀ v' w', Ints w' B v' (xs ++ ys) → w.grownBy w' v.ownBlock → wpList Tryz.prog ops Q rest (a.put o.dst v') w') : wpList Tryz.prog ops Q (o :: rest) a w := by
  obtain ⟨i0, hi, hz0, hz1, hz2⟩ := info_parts infoInt
  rcases hr with ⟨rfl, rfl⟩ | ⟨ad, c, rfl, _, hc⟩
  · refine wpList_append_own_none hgd s x 72 ho B 3 i0 1 Tryz.underlying72 hi v xs.length _ hs hown hx ?_
    exact h v w (by simpa using hown) (World.grownBy.refl w _)
  · refine wpList_append_own w hgd s x 72 ho B 3 i0 (.int .i64 0) 1 8 Tryz.underlying72 hi hz0 hz1 hz2 rfl (by decide) v xs.length _ hs hown ad ys.length c (ys.map (Value.int .i64)) hx (by simp)
      (fun j u hj => by
        rw [List.getElem?_map] at hj
        have hjl : j < ys.length := by
          rcases Nat.lt_or_ge j ys.length with h | h
          · exact h
          · rw [List.getElem?_eq_none h] at hj; cases hj
        rw [List.getElem?_eq_getElem hjl] at hj
        rw [hc j hjl]
        simpa using hj) (fun u hu => by
        obtain ⟨z, _, rfl⟩ := List.mem_map.1 hu
        rfl) (by unfold maxLen; omega) (by omega) hB ?_
    intro v' w' h1 h2 _
    refine h v' w' ?_ h2
    unfold Ints
    simpa using h1
end Go.Proofs.YtbcileppebpamaaGreatDoor
