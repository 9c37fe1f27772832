/- Walks of package house: Ruled; slices of figures that the call itself made. -/
import Derived.Test.YtcdbkgpgjjeoiaaDoorHT
import Derived.Deep.MidRow
namespace Go.Proofs.YtcdbkgpgjjeoiaaDoor
open Go Go.RowKit
set_option maxRecDepth 100000
set_option linter.unusedSimpArgs false
set_option linter.unusedVariables false

theorem infoFig : (Tryd.prog.info? 22).map (fun i => (i.zero, i.size, i.bytes)) = some (some (.int .i64 0), 1, 8) := by kernel_rfl

/-- A slice of ints that was made from block base on. -/
def Figs (w : World) (base : Nat) (v : Value) (xs : List Int) : Prop := w.ownsRow base 22 1 v xs.length (xs.map (Value.int .i64))
theorem Figs.mono {w : World} {B B' : Nat} {v : Value} {xs : List Int} (h : Figs w B v xs) (hB : B' ≤ B) : Figs w B' v xs := by
  refine ⟨h.1, ?_⟩
  rcases h.2 with h2 | ⟨g, cap, cur, h3, h4, h5⟩
  · exact .inl h2
  · exact .inr ⟨g, cap, cur, h3, by omega, h5⟩
theorem Figs.below {w w' : World} {B : Nat} {v : Value} {xs : List Int} (h : Figs w B v xs) (hb : Below w.heap.size w w') : Figs w' B v xs := by
  refine ⟨h.1, ?_⟩
  rcases h.2 with h2 | ⟨g, cap, cur, h3, h4, h5, h6⟩
  · exact .inl h2
  · exact .inr ⟨g, cap, cur, h3, h4, heap_below hb h5 (heap_lt h5), h6⟩
theorem Figs.reads {w : World} {B : Nat} {v : Value} {xs : List Int} (h : Figs w B v xs) : Reads w v xs := by
  rcases h.2 with ⟨h2, h3⟩ | ⟨g, cap, cur, h3, h4, h5, _, _, _, h7⟩
  · exact .inl ⟨List.eq_nil_of_length_eq_zero h3, none, 0, h2⟩
  · refine .inr ⟨g, 0, cap, h3, heap_lt h5, fun k hk => ?_⟩
    rw [Nat.zero_add, cell_of_row _ _ k _ _ (0, 0) h5]
    have : (cur.toList.take (xs.length * 1))[k]? = (xs.map (Value.int .i64))[k]? := by rw [h7]
    rw [List.getElem?_take, if_pos (by omega)] at this
    rw [← Array.getElem?_toList, this]
    simp [hk]
theorem Figs.nil (w : World) (B : Nat) : Figs w B (.slice none 0 0) [] := World.ownsRow_nil w B _ _
theorem Figs.made (w : World) (B : Nat) (hB : B ≤ w.heap.size) : Figs (w.alloc (.cells #[] 22)) B (.slice (some ⟨w.heap.size, 0, none⟩) 0 0) [] :=
  World.ownsRow_made w #[] 0 hB (by decide) rfl
theorem Figs.one (w : World) (B : Nat) (hB : B ≤ w.heap.size) (n : Int) : Figs (w.alloc (.cells #[.int .i64 n] 22)) B (.slice (some ⟨w.heap.size, 0, none⟩) 1 1) [n] :=
  ⟨rfl, .inr ⟨w.heap.size, 1, #[.int .i64 n], rfl, hB, heap_alloc_new w _, by simp, by decide, rfl, rfl⟩⟩

/-- Append of one int to a slice of the call's own. -/
theorem wp_append_fig {ops : Array Oper} {rest : List Oper} {o : Oper} {a : Act} {w : World} {Q : Exit → Act → World → Prop} (hgd : o.guard = none) (s x : Operand)
    (ho : o.op = .call { callee := .builtin .append, args := #[s, x], argTypes := #[80, 80] }) (B : Nat) (v : Value) (xs : List Int) (hs : a.eval s = v) (hown : Figs w B v xs)
    (n : Int) (g c : Nat) (hx : a.eval x = .slice (some ⟨g, 0, none⟩) 1 c) (hc : w.cell? ⟨g, 0, none⟩ = some (.int .i64 n)) (hlen : xs.length < 1000000000) (hB : B ≤ w.heap.size)
    (h : ∀ v' w', Figs w' B v' (xs ++ [n]) → w.grownBy w' v.ownBlock → wpList Tryd.prog ops Q rest (a.put o.dst v') w') : wpList Tryd.prog ops Q (o :: rest) a w := by
  obtain ⟨i0, hi, hz0, hz1, hz2⟩ := info_parts infoFig
  refine wpList_append_own w hgd s x 80 ho B 22 i0 (.int .i64 0) 1 8 Tryd.underlying80 hi hz0 hz1 hz2 rfl (by decide) v xs.length _ hs hown ⟨g, 0, none⟩ 1 c [.int .i64 n] hx rfl
    (fun j u hj => by
      obtain rfl : j = 0 := by
        cases j with
        | zero => rfl
        | succ j => simp at hj
      simp at hj; subst hj; exact hc) (fun u hu => by simp at hu; subst hu; rfl) (by unfold maxLen; omega) (by omega) hB ?_
  intro v' w' h1 h2 _
  refine h v' w' ?_ h2
  unfold Figs
  simpa using h1
/-- What an append leaves: blocks of the chart stay. -/
theorem figs_grown_heap {w w' : World} {B : Nat} {v : Value} {xs : List Int} (hg : w.grownBy w' v.ownBlock) (h : Figs w B v xs) {g : Nat} {o : Obj} (ho : w.heap[g]? = some o) (hB : g < B) : w'.heap[g]? = some o := by
  refine (hg.block g (heap_lt ho) fun e => ?_).trans ho
  have := (World.ownsRow.lt h g e.symm).1
  omega
theorem figs_grown_below {w0 w w' : World} {C B : Nat} {v : Value} {xs : List Int} (hb : Below C w0 w) (hg : w.grownBy w' v.ownBlock) (h : Figs w B v xs) (hC : C ≤ B) (hCs : C ≤ w.heap.size) : Below C w0 w' :=
  hb.grown hg hCs fun k e => by have := (World.ownsRow.lt h k e).1; omega

theorem rul_range {w : World} (h : LaidR w) : w.rangeAt 0 0 (irow 16 (cst rulN)).toList := fun j v hj => by
  rw [irow_toList] at hj
  split at hj
  · rename_i h16
    rw [Nat.zero_add, h.cell j h16]
    exact hj
  · cases hj
theorem ldrul {ops : Array Oper} {rest : List Oper} {o : Oper} {a : Act} {w : World} {Q : Exit → Act → World → Prop} (hgd : o.guard = none) (x : Operand) (ho : o.op = .load 118 x)
    (hx : a.eval x = .pointer (some ⟨0, 0, none⟩)) (LR : LaidR w) (h : wpList Tryd.prog ops Q rest (a.put o.dst (.agg (irow 16 (cst rulN)))) w) : wpList Tryd.prog ops Q (o :: rest) a w := by
  refine wpList_load_mid hgd 118 x ho 0 0 hx (irow 16 (cst rulN)).toList _ (rul_range LR) Tryd.underlying118 rfl (by rw [Array.length_toList, irow_size]; kernel_rfl) ?_
  exact h
theorem idxRul (S : Nat → Int) (k : Nat) (hk : k < 16) (w : World) : (Instr.index 118 (.agg (irow 16 S)) (.int .i64 (k : Nat))).run Tryd.prog w = .ok (.int .i64 (S k)) w := run_index_irow Tryd.underlying118 (by kernel_rfl) (fun _ => by kernel_rfl) S k hk w
theorem ruled_no (p : Int) (h : p < 0 ∨ 8 < p) (w : World) : Calls Tryd.prog 35 #[.int .i64 p] w fun e w' => e = .returned (.tuple #[.slice none 0 0, .int .i64 3]) ∧ Below w.heap.size w w' := by
  by_cases h0 : p < 0
  · have a1 : decide (p < 0) = true := by simp; omega
    go_enter Tryd.func35, Tryd.ntmps35
    go_wp2_with fail
    go_ret2
    exact ⟨rfl, Below.refl _ _⟩
  · have a1 : decide (p < 0) = false := by simp; omega
    have a2 : decide ((8 : Int) < p) = true := by simp; omega
    have a3 : decide (p > (8 : Int)) = true := by simp; omega
    go_enter Tryd.func35, Tryd.ntmps35
    go_wp2_with fail
    go_ret2
    exact ⟨rfl, Below.refl _ _⟩
set_option maxHeartbeats 1000000 in
theorem ruled_c (p : Int) (h0 : 0 ≤ p) (h8 : p ≤ 8) (w : World) (LR : LaidR w) : Calls Tryd.prog 35 #[.int .i64 p] w fun e w' => ∃ v, e = .returned (.tuple #[v, .int .i64 0]) ∧ Reads w' v (ruledL p 16) ∧ Below w.heap.size w w' := by
  have a1 : decide (p < 0) = false := by simp; omega
  have a2 : decide ((8 : Int) < p) = false := by simp; omega
  have HLR := hid LR
  clear LR
  go_enter Tryd.func35, Tryd.ntmps35
  go_wp2_with (refine ldrul rfl _ rfl rfl HLR.out ?_)
  go_loopw [4, 14] (fun l i wr => ∃ k : Nat, k ≤ 16 ∧ i = .int .i64 k ∧ Figs wr w.heap.size l (ruledL p k) ∧ Below w.heap.size w wr) (fun _ i _ => 16 - (intOf i).toNat)
  case atStart => exact ⟨0, by omega, rfl, Figs.nil _ _, Below.refl _ _⟩
  case round =>
    obtain ⟨k, hk, rfl, hI, hB⟩ := hrel
    have hs := hB.size
    have HI := hid hI
    clear hI
    by_cases hlt : k < 16
    · have hlt' : ((k : Nat) : Int) < 16 := by omega
      have hidx := idxRul (cst rulN) k hlt
      rw [cst_app] at hidx
      have hll := ruledL_len p k
      obtain ⟨r, hr⟩ : ∃ r, rulN k = r := ⟨_, rfl⟩
      rw [hr] at hidx
      by_cases he : p = ((r : Nat) : Int)
      · have hbe : (p == ((r : Nat) : Int)) = true := by rw [he]; simp
        have HST := hid (show ruledL p (k + 1) = ruledL p k ++ [((k : Nat) : Int)] by rw [ruledL, hr, if_pos he])
        clear he hr
        have HI6 := hid (HI.out.below ((Below.refl _ wr).alloc (Nat.le_refl _) (.cells #[.int .i64 ((k : Nat) : Int)] 22)))
        go_wp2_with (at_builtin; go_must (refine wp_append_fig rfl _ _ rfl w.heap.size _ _ rfl HI6.out ((k : Nat) : Int) wr.heap.size 1 rfl (by simp) (by omega) (by simp; omega) ?_); intro v' w7 ho7 hgr7)
        have hb7 := figs_grown_below (hB.alloc hs (.cells #[.int .i64 ((k : Nat) : Int)] 22)) hgr7 HI6.out (by omega) (by simp; omega)
        go_roundw
        case rel => exact ⟨k + 1, by omega, by go_num, by rw [HST.out]; exact ho7, hb7⟩
        case measure => simp [intOf]; omega
      · have hbe : (p == ((r : Nat) : Int)) = false := by simpa using he
        have HST := hid (show ruledL p (k + 1) = ruledL p k by rw [ruledL, hr, if_neg he, List.append_nil])
        clear he hr
        go_wp2_with fail
        go_roundw
        case rel => exact ⟨k + 1, by omega, by go_num, by rw [HST.out]; exact HI.out, hB⟩
        case measure => simp [intOf]; omega
    · have hge : ¬ ((k : Nat) : Int) < 16 := by omega
      obtain rfl : k = 16 := by omega
      go_wp2_with fail
      go_ret2
      exact ⟨_, rfl, HI.out.reads, hB⟩
end Go.Proofs.YtcdbkgpgjjeoiaaDoor
