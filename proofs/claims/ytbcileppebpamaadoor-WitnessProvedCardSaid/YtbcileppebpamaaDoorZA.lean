/- Plain law: splitting; lines; hashes of texts that differ in the last byte. -/
import Derived.Test.YtbcileppebpamaaDoorYH
import Derived.Test.YtbcileppebpamaaDoorYF
import Derived.Test.YtbcileppebpamaaDoorYD
set_option linter.unusedSimpArgs false
set_option linter.unusedVariables false
namespace Go.Proofs.YtbcileppebpamaaDoor
open Go Go.RowKit Go.Shelf
set_option maxRecDepth 100000

theorem index_one (c : UInt8) (r : List UInt8) : ∀ w : List UInt8, c ∉ w → Lib.index (w ++ c :: r) [c] = ((w.length : Nat) : Int)
  | [], _ => by simp [Lib.index, List.isPrefixOf]
  | b :: w, h => by
    have hb : (c == b) = false := by simp at h ⊢; exact h.1
    have ih := index_one c r w (fun hm => h (List.mem_cons_of_mem _ hm))
    rw [List.cons_append, Lib.index, ih]
    simp [List.isPrefixOf, hb]
    try rw [if_neg (by omega)]
theorem index_no (c : UInt8) : ∀ w : List UInt8, c ∉ w → Lib.index w [c] = -1
  | [], _ => by simp [Lib.index]
  | b :: w, h => by
    have hb : (c == b) = false := by simp at h ⊢; exact h.1
    rw [Lib.index, index_no c w (fun hm => h (List.mem_cons_of_mem _ hm))]
    simp [List.isPrefixOf, hb]
theorem join_cons2 (w x : List UInt8) (r : List (List UInt8)) (sep : List UInt8) : Lib.join (w :: x :: r) sep = w ++ (sep ++ Lib.join (x :: r) sep) := by
  rw [Lib.join_cons, Lib.join_cons]
  simp [Lib.joinTail]
theorem count_join (c : UInt8) : ∀ (r : List (List UInt8)) (w : List UInt8), (∀ x ∈ w :: r, c ∉ x) → (Lib.join (w :: r) [c]).count c = r.length
  | [], w, h => by
    rw [Lib.join_one]
    exact List.count_eq_zero_of_not_mem (h w (List.mem_cons_self))
  | x :: r, w, h => by
    rw [join_cons2, List.count_append, List.count_append, count_join c r x fun y hy => h y (List.mem_cons_of_mem _ hy), List.count_eq_zero_of_not_mem (h w (List.mem_cons_self))]
    simp
    omega
theorem splitK_join (c : UInt8) : ∀ (r : List (List UInt8)) (w : List UInt8), (∀ x ∈ w :: r, c ∉ x) → Lib.splitK [c] 0 r.length (Lib.join (w :: r) [c]) = w :: r
  | [], w, _ => by rw [List.length_nil, Lib.splitK, Lib.join_one]
  | x :: r, w, h => by
    have hi := index_one c (Lib.join (x :: r) [c]) w (h w (List.mem_cons_self))
    rw [List.length_cons, Lib.splitK, join_cons2, List.singleton_append, hi, if_neg (by simp <;> omega), Int.toNat_natCast, Nat.add_zero, List.take_left, List.length_singleton, ← List.drop_drop, List.drop_left, List.drop_one, List.tail_cons, splitK_join c r x fun y hy => h y (List.mem_cons_of_mem _ hy)]
theorem ba_inj {a b : List ByteArray} (h : a.map (·.data.toList) = b.map (·.data.toList)) : a = b := by
  refine (List.map_inj_right fun x y hxy => ?_).1 h
  obtain ⟨⟨x⟩⟩ := x
  obtain ⟨⟨y⟩⟩ := y
  exact congrArg (fun l => ByteArray.mk (Array.mk l)) hxy
def bas (ws : List (List UInt8)) : List ByteArray := ws.map fun l => ⟨l.toArray⟩
theorem bas_data (ws : List (List UInt8)) : (bas ws).map (·.data.toList) = ws := by
  rw [bas, List.map_map]
  exact (List.map_congr_left fun _ _ => rfl).trans (List.map_id _)
theorem splitB_join (c : UInt8) (w : List UInt8) (r : List (List UInt8)) (h : ∀ x ∈ w :: r, c ∉ x) : Lib.countB ⟨(Lib.join (w :: r) [c]).toArray⟩ ⟨#[c]⟩ = r.length ∧ Lib.splitB ⟨#[c]⟩ 0 r.length ⟨(Lib.join (w :: r) [c]).toArray⟩ = bas (w :: r) := by
  constructor
  · show Lib.count (Lib.join (w :: r) [c]) [c] = _
    rw [Lib.count_one, count_join c r w h]
  · refine ba_inj ?_
    rw [Lib.splitB_data, bas_data]
    exact splitK_join c r w h
/-- A text that is cut at a byte. -/
theorem Cut_c (c : UInt8) (w : List UInt8) (r : List (List UInt8)) (h : ∀ x ∈ w :: r, c ∉ x) (W : World) (m : Int) (hm : W.cell? ⟨0, 0, none⟩ = some (.int .i64 m)) (hl : (Lib.join (w :: r) [c]).length ≤ 1000000000) :
    Calls Tryd.prog 29 #[.string ⟨(Lib.join (w :: r) [c]).toArray⟩, .string ⟨#[c]⟩] W fun e W' => e = .returned (.slice (some ⟨W.heap.size, 0, none⟩) (r.length + 1) (r.length + 1)) ∧ W' = W.alloc (.cells ((bas (w :: r)).map Value.string).toArray 9) := by
  obtain ⟨h1, h2⟩ := splitB_join c w r h
  have := strings_Split ⟨(Lib.join (w :: r) [c]).toArray⟩ ⟨#[c]⟩ m W (by show (Lib.join (w :: r) [c]).toArray.size < _; simp; omega) hm (Nat.le_refl 1)
  rw [h1, h2] at this
  exact this
/-- The bodies of lines. -/
structure LsB (ls : List ByteArray) (bs : List (List UInt8)) : Prop where
  ls : ls = bs.map fun b => ⟨(b ++ [10]).toArray⟩
  no : ∀ b ∈ bs, (10 : UInt8) ∉ b
theorem LsB.add {ls : List ByteArray} {bs : List (List UInt8)} (h : LsB ls bs) (ws : List ByteArray) (hw : (10 : UInt8) ∉ Lib.join (ws.map (·.data.toList)) [32]) : LsB (ls ++ [⟨(lineL ws).toArray⟩]) (bs ++ [Lib.join (ws.map (·.data.toList)) [32]]) :=
  ⟨by rw [h.ls, List.map_append]; rfl, fun b hb => (List.mem_append.1 hb).elim (h.no b) fun hb => by rw [List.mem_singleton.1 hb]; exact hw⟩
theorem join_lines : ∀ bs : List (List UInt8), Lib.join (bs.map (· ++ [10])) [] = Lib.join (bs ++ [[]]) [10]
  | [] => rfl
  | [b] => by rw [List.map_cons, List.map_nil, Lib.join_one, List.cons_append, List.nil_append, join_cons2, Lib.join_one]; simp
  | b :: d :: bs => by
    have ih := join_lines (d :: bs)
    rw [List.map_cons, List.map_cons, join_cons2, ← List.map_cons (f := (· ++ [10])), ih, show (b :: d :: bs) ++ [[]] = b :: d :: (bs ++ [[]]) from rfl, show (d :: bs) ++ [[]] = d :: (bs ++ [[]]) from rfl, join_cons2]
    simp
theorem text_join {D : DS} {bs : List (List UInt8)} (h : LsB D.ls bs) : D.text = Lib.join (bs ++ [[]]) [10] := by
  rw [DS.text, h.ls, List.map_map, ← join_lines]
  rfl
theorem mem_join (c : UInt8) (sep : List UInt8) : ∀ (ws : List (List UInt8)), (∀ w ∈ ws, c ∉ w) → c ∉ sep → c ∉ Lib.join ws sep
  | [], _, _ => by simp [Lib.join_nil]
  | [w], h, _ => by rw [Lib.join_one]; exact h w (List.mem_cons_self)
  | w :: x :: r, h, hs => by
    rw [join_cons2, List.mem_append, List.mem_append]
    rintro (h1 | h1 | h1)
    · exact h w (List.mem_cons_self) h1
    · exact hs h1
    · exact mem_join c sep (x :: r) (fun y hy => h y (List.mem_cons_of_mem _ hy)) hs h1
theorem mul_inv (m : Nat) (hm : m < 18446744073709551616) : m * 1099511628211 % 18446744073709551616 * 14886173955864302971 % 18446744073709551616 = m := by
  rw [Nat.mod_mul_mod, Nat.mul_assoc, ← Nat.mul_mod_mod, show 1099511628211 * 14886173955864302971 % 18446744073709551616 = 1 from by decide, Nat.mul_one, Nat.mod_eq_of_lt hm]
theorem xor_lt (h : Nat) (hh : h < 18446744073709551616) (a : UInt8) : h ^^^ a.toNat < 18446744073709551616 :=
  Nat.xor_lt_two_pow (n := 64) hh (Nat.lt_trans (UInt8.toNat_lt a) (by decide))
/-- Texts that differ in the last byte have different hashes. -/
theorem hash_last (h : Nat) (hh : h < 18446744073709551616) (l : List UInt8) (a b : UInt8) (e : hashN h (l ++ [a]) = hashN h (l ++ [b])) : a = b := by
  rw [hashN_app, hashN_app] at e
  have hl := hashN_lt l h hh
  generalize hashN h l = x at e hl
  simp only [hashN] at e
  have h1 := mul_inv _ (xor_lt x hl a)
  have h2 := mul_inv _ (xor_lt x hl b)
  rw [e, h2] at h1
  have h3 : x ^^^ (x ^^^ b.toNat) = x ^^^ (x ^^^ a.toNat) := by rw [h1]
  rw [← Nat.xor_assoc, ← Nat.xor_assoc, Nat.xor_self, Nat.zero_xor, Nat.zero_xor] at h3
  exact UInt8.toNat_inj.1 h3.symm
end Go.Proofs.YtbcileppebpamaaDoor
