/- A slice that came in, as a list; append of it to a slice of the call's own. -/
import Derived.Test.YtphnibllfpkkkaaDoorSl
import Derived.Laws.AppendOwnNone
namespace Go.Proofs.YtphnibllfpkkkaaDoor
open Go Go.RowKit
set_option maxRecDepth 100000

/-- A slice that came in: nil, or at an address. -/
def ReadsA (w : World) (v : Value) (xs : List Int) : Prop :=
  (xs = [] ∧ v = .slice none 0 0) ∨ (∃ (a : Addr) (c : Nat), v = .slice (some a) xs.length c ∧ (0 < xs.length → a.block < w.heap.size) ∧ ∀ k (h : k < xs.length), w.cell? (a.add k) = some (.int .i64 xs[k]))
theorem ReadsA.below {w w' : World} {v : Value} {xs : List Int} (h : ReadsA w v xs) (hb : Below w.heap.size w w') : ReadsA w' v xs := by
  rcases h with h | ⟨a, c, h1, h2, h3⟩
  · exact .inl h
  · refine .inr ⟨a, c, h1, fun h => Nat.lt_of_lt_of_le (h2 h) hb.size, fun k hk => ?_⟩
    have hl := h2 (by omega)
    have : (a.add k).block = a.block := by unfold Addr.add; split <;> rfl
    rw [hb.cell (by rw [this]; exact hl)]
    exact h3 k hk
theorem ReadsA.plain {w : World} {a : Addr} {n : Nat} {xs : List Int} (hn : 0 < n) (h3 : ∀ k (h : k < xs.length), w.cell? (a.add k) = some (.int .i64 xs[k])) (hl : n = xs.length) : ∃ g o, a = ⟨g, o, none⟩ ∧ ∀ k (h : k < xs.length), w.cell? ⟨g, o + k, none⟩ = some (.int .i64 xs[k]) := by
  obtain ⟨b, off, spot⟩ := a
  have hspot : spot = none := by simpa [Addr.add] using World.cell?_spot (h3 0 (by omega))
  subst hspot
  refine ⟨b, off, rfl, fun k hk => ?_⟩
  have := h3 k hk
  have hadd : (⟨b, off, none⟩ : Addr).add k = ⟨b, off + k, none⟩ := by unfold Addr.add; split <;> simp_all
  rwa [hadd] at this
theorem ReadsA.reads {w : World} {v : Value} {xs : List Int} (h : ReadsA w v xs) : Reads w v xs := by
  rcases h with ⟨rfl, rfl⟩ | ⟨a, c, h1, h2, h3⟩
  · exact .inl ⟨rfl, _, _, rfl⟩
  · by_cases h0 : xs.length = 0
    · rw [h0] at h1
      exact .inl ⟨List.eq_nil_of_length_eq_zero h0, _, _, h1⟩
    · obtain ⟨g, o, rfl, h4⟩ := ReadsA.plain (n := xs.length) (by omega) h3 rfl
      exact .inr ⟨g, o, c, h1, h2 (by omega), h4⟩
theorem ReadsA.form {w : World} {v : Value} {xs : List Int} (h : ReadsA w v xs) : ∃ p c, v = .slice p xs.length c := by
  rcases h with ⟨rfl, rfl⟩ | ⟨a, c, h1, _⟩
  · exact ⟨none, 0, rfl⟩
  · exact ⟨_, _, h1⟩

theorem wp_append_reads {ops : Array Oper} {rest : List Oper} {o : Oper} {a : Act} {w : World} {Q : Exit → Act → World → Prop} (hgd : o.guard = none) (s x : Operand)
    (ho : o.op = .call { callee := .builtin .append, args := #[s, x], argTypes := #[25, 25] }) (B : Nat) (v : Value) (xs : List Int) (hs : a.eval s = v) (hown : Ints w B v xs)
    (u : Value) (ys : List Int) (hx : a.eval x = u) (hr : ReadsA w u ys) (hlen : xs.length + ys.length < 1000000000) (hB : B ≤ w.heap.size)
    (h : ∀ v' w', Ints w' B v' (xs ++ ys) → w.grownBy w' v.ownBlock → wpList Tryd.prog ops Q rest (a.put o.dst v') w') : wpList Tryd.prog ops Q (o :: rest) a w := by
  obtain ⟨i0, hi, hz0, hz1, hz2⟩ := info_parts infoInt
  rcases hr with ⟨rfl, rfl⟩ | ⟨ad, c, rfl, _, hc⟩
  · refine wpList_append_own_none hgd s x 25 ho B 3 i0 1 Tryd.underlying25 hi v xs.length _ hs hown hx ?_
    exact h v w (by simpa using hown) (World.grownBy.refl w _)
  · refine wpList_append_own w hgd s x 25 ho B 3 i0 (.int .i64 0) 1 8 Tryd.underlying25 hi hz0 hz1 hz2 rfl (by decide) v xs.length _ hs hown ad ys.length c (ys.map (Value.int .i64)) hx (by simp)
      (fun j u hj => by
        rw [List.getElem?_map] at hj
        have hjl : j < ys.length := by
          rcases Nat.lt_or_ge j ys.length with h | h
          · exact h
          · rw [List.getElem?_eq_none h] at hj; cases hj
        rw [List.getElem?_eq_getElem hjl] at hj
        rw [hc j hjl]
        simpa using hj) (fun u hu => by
        obtain ⟨z, _, rfl⟩ := List.mem_map.1 hu
        rfl) (by unfold maxLen; omega) (by omega) hB ?_
    intro v' w' h1 h2 _
    refine h v' w' ?_ h2
    unfold Ints
    simpa using h1
end Go.Proofs.YtphnibllfpkkkaaDoor
