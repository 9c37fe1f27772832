/- Lemmas for WitnessDraws: part 15. -/
import Derived.Lib.ItoaLen
import Derived.Test.YtbcileppebpamaaGreatDoorKb14
set_option linter.unusedSimpArgs false
set_option linter.unusedVariables false
namespace Go.Proofs.YtbcileppebpamaaGreatDoor
open Go Go.RowKit Go.Shelf
set_option maxRecDepth 100000
theorem exec_catL {ev : Operand → Value} {o : Oper} {x y : Operand} {a b : List UInt8} {W : World} (ho : o.op = .binOp .add 9 x y 9) (hx : ev x = .string ⟨a.toArray⟩) (hy : ev y = .string ⟨b.toArray⟩) (hs : a.length + b.length ≤ 1000000000000) : (execOp ev o).run Tryz.prog W = .ok (.value (.string ⟨(a ++ b).toArray⟩)) W := by
  refine exec_cat ho hx hy ?_ ?_
  · apply ByteArray.ext
    simp [ByteArray.data_append]
  · show ¬ 9223372036854775807 < a.toArray.size + b.toArray.size
    simp
    omega
def txtL (x : RL) : List UInt8 := if x.k = 1 then lineL (sealW x.p x.h) else if x.k = 2 then lineL (openW x.p x.v x.s) else lineL [⟨#[99, 108, 111, 115, 101]⟩]
def writeL (b n : Nat) (ls : List RL) : List UInt8 := lineL (newW b n) ++ ls.flatMap txtL
/-- Lines that the reference can tell. -/
def OkT (ls : List RL) : Prop := ∀ y ∈ ls, (y.k = 1 → (0 ≤ y.p ∧ y.p ≤ 30) ∧ isHashL y.h.data.toList = true) ∧ (y.k = 2 → (0 ≤ y.p ∧ y.p ≤ 30) ∧ (0 ≤ y.v ∧ y.v ≤ 1000000000) ∧ isSaltL y.s.data.toList = true)
theorem OkT.okB {ls : List RL} (h : OkT ls) : OkB ls := fun y hy => (h y hy).2
theorem itoa_l (p : Int) (h : 0 ≤ p ∧ p ≤ 1000000000) : (Lib.itoa p).length ≤ 21 := Lib.itoa_length_le _ (by omega) (by omega)
theorem join_c2 (w x : List UInt8) (r : List (List UInt8)) (sep : List UInt8) : Lib.join (w :: x :: r) sep = w ++ (sep ++ Lib.join (x :: r) sep) := by
  rw [Lib.join_cons, Lib.join_cons]
  simp [Lib.joinTail]
theorem seal_txt (p : Int) (h : List UInt8) : lineL (sealW p ⟨h.toArray⟩) = [115, 101, 97, 108, 32] ++ (Lib.itoa p ++ ([32] ++ (h ++ [10]))) := by
  simp [lineL, sealW, wSeal, join_c2, Lib.join_one]
theorem open_txt (p v : Int) (s : List UInt8) : lineL (openW p v ⟨s.toArray⟩) = [111, 112, 101, 110, 32] ++ (Lib.itoa p ++ ([32] ++ (Lib.itoa v ++ ([32] ++ (s ++ [10]))))) := by
  simp [lineL, openW, wOpen, join_c2, Lib.join_one]
theorem draw_txt (b n : Nat) : lineL (newW b n) = [100, 114, 97, 119, 32] ++ (Lib.itoa ((b : Nat) : Int) ++ ([32] ++ (Lib.itoa ((n : Nat) : Int) ++ [10]))) := by
  simp [lineL, newW, wDraw, join_c2, Lib.join_one]
theorem hash_l (h : List UInt8) (hh : isHashL h = true) : h.length = 16 := by
  rw [isHashL, Bool.and_eq_true, decide_eq_true_eq] at hh
  exact hh.1
theorem salt_l (h : List UInt8) (hh : isSaltL h = true) : h.length ≤ 20 := by
  rw [isSaltL, Bool.and_eq_true, Bool.and_eq_true, decide_eq_true_eq, decide_eq_true_eq] at hh
  exact hh.1.2
theorem ba_of (s : ByteArray) : ∃ l : List UInt8, s = ⟨l.toArray⟩ ∧ s.data.toList = l := ⟨s.data.toList, by cases s; simp, rfl⟩
theorem txt_le (ls : List RL) (h : OkT ls) : ∀ x ∈ ls, (txtL x).length ≤ 100 := fun x hx => by
  obtain ⟨h1, h2⟩ := h x hx
  unfold txtL
  split
  · rename_i e
    obtain ⟨q1, q2⟩ := h1 e
    obtain ⟨l, e1, e2⟩ := ba_of x.h
    rw [e2] at q2
    have := itoa_l x.p (by omega)
    have := hash_l l q2
    rw [e1, seal_txt]
    simp
    omega
  · split
    · rename_i e
      obtain ⟨q1, q2, q3⟩ := h2 e
      obtain ⟨l, e1, e2⟩ := ba_of x.s
      rw [e2] at q3
      have := itoa_l x.p (by omega)
      have := itoa_l x.v (by omega)
      have := salt_l l q3
      rw [e1, open_txt]
      simp
      omega
    · decide
theorem flat_le : ∀ (ls : List RL), (∀ x ∈ ls, (txtL x).length ≤ 100) → (ls.flatMap txtL).length ≤ 100 * ls.length
  | [], _ => by simp
  | x :: ls, h => by
    have h1 := h x List.mem_cons_self
    have h2 := flat_le ls fun y hy => h y (List.mem_cons_of_mem _ hy)
    rw [List.flatMap_cons, List.length_append, List.length_cons]
    omega
set_option maxHeartbeats 8000000 in
theorem rwrite_c (b n : Nat) (hb2 : b ≤ 1000000000) (hn : n ≤ 1000) (v : Value) (ls : List RL) (W : World) (hr : ReadsL W v ls) (hl : ls.length ≤ 1000000) (hok : OkT ls) :
    Calls Tryz.prog 54 #[.agg #[.int .i64 ((b : Nat) : Int), .int .i64 ((n : Nat) : Int), v]] W fun e w' => e = .returned (.string ⟨(writeL b n ls).toArray⟩) ∧ Below W.heap.size W w' := by
  obtain ⟨pv, cc, rfl⟩ := hr.form
  obtain ⟨m, hm⟩ : ∃ m, ls.length = m := ⟨_, rfl⟩
  rw [hm] at hr hl ⊢
  have hx := heap_alloc_new W (.cells #[.int .i64 ((b : Nat) : Int), .int .i64 ((n : Nat) : Int), .slice pv m cc] 49)
  have hal : Below W.heap.size W (W.alloc (.cells #[.int .i64 ((b : Nat) : Int), .int .i64 ((n : Nat) : Int), .slice pv m cc] 49)) := (Below.refl _ _).alloc (Nat.le_refl _) _
  have HX := hid (And.intro hx hal)
  have HDG := hid (fun (k : Nat) (hk : k ≤ 1000000000000000) V => rdigits_c k hk V)
  obtain ⟨rr, hrr⟩ : ∃ r : ByteArray, ⟨(writeL b n ls).toArray⟩ = r := ⟨_, rfl⟩
  rw [hrr]
  have hbl := itoa_l ((b : Nat) : Int) (by omega)
  have hnl := itoa_l ((n : Nat) : Int) (by omega)
  have HRR := hid hrr
  have HR := hid hr
  have HM := hid hm
  have HOK := hid hok
  clear hr hal hx hm hok hrr
  go_enter Tryz.func54, Tryz.ntmps54
  go_upto_region 1 with fail
  generalize W.alloc (.cells #[.int .i64 ((b : Nat) : Int), .int .i64 ((n : Nat) : Int), .slice pv m cc] 49) = W0 at HX ⊢
  obtain ⟨g, hg⟩ : ∃ g, W.heap.size = g := ⟨_, rfl⟩
  rw [hg] at HX ⊢
  have HG := hid hg
  have hgW0 : g + 1 ≤ W0.heap.size := heap_lt HX.out.1
  clear hg
  refine grow_regionG 10 [6, 7, 8, 9, 10, 11, 12, 13, 14, 15] (by kernel_rfl) (by kernel_rfl) (KV [(.pointer (some ⟨g, 0, none⟩)), (.int .i64 ((b : Nat) : Int)), (.string ⟨List.toArray (Lib.itoa ((b : Nat) : Int))⟩), (.string ⟨List.toArray ([100, 114, 97, 119, 32] ++ Lib.itoa ((b : Nat) : Int))⟩), (.string ⟨List.toArray ([100, 114, 97, 119, 32] ++ Lib.itoa ((b : Nat) : Int) ++ [32])⟩), (.pointer (some ⟨g, 1, none⟩)), (.int .i64 ((n : Nat) : Int)), (.string ⟨List.toArray (Lib.itoa ((n : Nat) : Int))⟩), (.string ⟨List.toArray ([100, 114, 97, 119, 32] ++ Lib.itoa ((b : Nat) : Int) ++ [32] ++ Lib.itoa ((n : Nat) : Int))⟩), (.string ⟨List.toArray ([100, 114, 97, 119, 32] ++ Lib.itoa ((b : Nat) : Int) ++ [32] ++ Lib.itoa ((n : Nat) : Int) ++ [10])⟩)]) (fun _ _ _ => False) (fun _ _ _ _ _ h => h) (fun _ _ _ _ _ h => h.elim) ?_ ?_
  · intro jq oj hjq hoj a' w' hb' he hdep K hK
    have c0 := heap_below hb' HX.out.1 (heap_lt HX.out.1)
    rcases (show jq = 0 ∨ jq = 1 ∨ jq = 2 ∨ jq = 3 ∨ jq = 4 ∨ jq = 5 ∨ jq = 6 ∨ jq = 7 ∨ jq = 8 ∨ jq = 9 by omega) with rfl | rfl | rfl | rfl | rfl | rfl | rfl | rfl | rfl | rfl
    · obtain rfl := Option.some.inj hoj
      exact gG_none rfl (wpO_val _ (exec_fldDr 0 rfl ((he 1 (by decide)).trans rfl : a'.eval (.tmp 1) = (.pointer (some ⟨g, 0, none⟩))) (by simp)) (hK _ _ (Below.refl _ _) rfl (fun b h => h.elim)))
    · obtain rfl := Option.some.inj hoj
      exact gG_none rfl (wpO_val _ (exec_ldcellB rfl ((hdep ⟨0, .data⟩ (by simp) rfl : (KV [(.pointer (some ⟨g, 0, none⟩)), (.int .i64 ((b : Nat) : Int)), (.string ⟨List.toArray (Lib.itoa ((b : Nat) : Int))⟩), (.string ⟨List.toArray ([100, 114, 97, 119, 32] ++ Lib.itoa ((b : Nat) : Int))⟩), (.string ⟨List.toArray ([100, 114, 97, 119, 32] ++ Lib.itoa ((b : Nat) : Int) ++ [32])⟩), (.pointer (some ⟨g, 1, none⟩)), (.int .i64 ((n : Nat) : Int)), (.string ⟨List.toArray (Lib.itoa ((n : Nat) : Int))⟩), (.string ⟨List.toArray ([100, 114, 97, 119, 32] ++ Lib.itoa ((b : Nat) : Int) ++ [32] ++ Lib.itoa ((n : Nat) : Int))⟩), (.string ⟨List.toArray ([100, 114, 97, 119, 32] ++ Lib.itoa ((b : Nat) : Int) ++ [32] ++ Lib.itoa ((n : Nat) : Int) ++ [10])⟩)]) 0 _ _) : a'.eval (.tmp 6) = (.pointer (some ⟨g, 0, none⟩))) (cell_of_row _ _ 0 _ _ _ c0)) (hK _ _ (Below.refl _ _) rfl (fun b h => h.elim)))
    · obtain rfl := Option.some.inj hoj
      exact gG_none rfl (wpO_call _ _ (exec_call1 rfl rfl ((hdep ⟨1, .data⟩ (by simp) rfl : (KV [(.pointer (some ⟨g, 0, none⟩)), (.int .i64 ((b : Nat) : Int)), (.string ⟨List.toArray (Lib.itoa ((b : Nat) : Int))⟩), (.string ⟨List.toArray ([100, 114, 97, 119, 32] ++ Lib.itoa ((b : Nat) : Int))⟩), (.string ⟨List.toArray ([100, 114, 97, 119, 32] ++ Lib.itoa ((b : Nat) : Int) ++ [32])⟩), (.pointer (some ⟨g, 1, none⟩)), (.int .i64 ((n : Nat) : Int)), (.string ⟨List.toArray (Lib.itoa ((n : Nat) : Int))⟩), (.string ⟨List.toArray ([100, 114, 97, 119, 32] ++ Lib.itoa ((b : Nat) : Int) ++ [32] ++ Lib.itoa ((n : Nat) : Int))⟩), (.string ⟨List.toArray ([100, 114, 97, 119, 32] ++ Lib.itoa ((b : Nat) : Int) ++ [32] ++ Lib.itoa ((n : Nat) : Int) ++ [10])⟩)]) 1 _ _) : a'.eval (.tmp 7) = (.int .i64 ((b : Nat) : Int))) (by go_simp)) ((HDG.out b (by omega) w').mono fun e w'' ⟨h1, h2⟩ => ⟨_, h1, hK _ w'' h2 rfl (fun b h => h.elim)⟩))
    · obtain rfl := Option.some.inj hoj
      exact gG_none rfl (wpO_val _ (exec_catL rfl rfl ((hdep ⟨2, .data⟩ (by simp) rfl : (KV [(.pointer (some ⟨g, 0, none⟩)), (.int .i64 ((b : Nat) : Int)), (.string ⟨List.toArray (Lib.itoa ((b : Nat) : Int))⟩), (.string ⟨List.toArray ([100, 114, 97, 119, 32] ++ Lib.itoa ((b : Nat) : Int))⟩), (.string ⟨List.toArray ([100, 114, 97, 119, 32] ++ Lib.itoa ((b : Nat) : Int) ++ [32])⟩), (.pointer (some ⟨g, 1, none⟩)), (.int .i64 ((n : Nat) : Int)), (.string ⟨List.toArray (Lib.itoa ((n : Nat) : Int))⟩), (.string ⟨List.toArray ([100, 114, 97, 119, 32] ++ Lib.itoa ((b : Nat) : Int) ++ [32] ++ Lib.itoa ((n : Nat) : Int))⟩), (.string ⟨List.toArray ([100, 114, 97, 119, 32] ++ Lib.itoa ((b : Nat) : Int) ++ [32] ++ Lib.itoa ((n : Nat) : Int) ++ [10])⟩)]) 2 _ _) : a'.eval (.tmp 8) = (.string ⟨List.toArray (Lib.itoa ((b : Nat) : Int))⟩)) (by simp; omega)) (hK _ _ (Below.refl _ _) rfl (fun b h => h.elim)))
    · obtain rfl := Option.some.inj hoj
      exact gG_none rfl (wpO_val _ (exec_catL rfl ((hdep ⟨3, .data⟩ (by simp) rfl : (KV [(.pointer (some ⟨g, 0, none⟩)), (.int .i64 ((b : Nat) : Int)), (.string ⟨List.toArray (Lib.itoa ((b : Nat) : Int))⟩), (.string ⟨List.toArray ([100, 114, 97, 119, 32] ++ Lib.itoa ((b : Nat) : Int))⟩), (.string ⟨List.toArray ([100, 114, 97, 119, 32] ++ Lib.itoa ((b : Nat) : Int) ++ [32])⟩), (.pointer (some ⟨g, 1, none⟩)), (.int .i64 ((n : Nat) : Int)), (.string ⟨List.toArray (Lib.itoa ((n : Nat) : Int))⟩), (.string ⟨List.toArray ([100, 114, 97, 119, 32] ++ Lib.itoa ((b : Nat) : Int) ++ [32] ++ Lib.itoa ((n : Nat) : Int))⟩), (.string ⟨List.toArray ([100, 114, 97, 119, 32] ++ Lib.itoa ((b : Nat) : Int) ++ [32] ++ Lib.itoa ((n : Nat) : Int) ++ [10])⟩)]) 3 _ _) : a'.eval (.tmp 9) = (.string ⟨List.toArray ([100, 114, 97, 119, 32] ++ Lib.itoa ((b : Nat) : Int))⟩)) rfl (by simp; omega)) (hK _ _ (Below.refl _ _) rfl (fun b h => h.elim)))
    · obtain rfl := Option.some.inj hoj
      exact gG_none rfl (wpO_val _ (exec_fldDr 1 rfl ((he 1 (by decide)).trans rfl : a'.eval (.tmp 1) = (.pointer (some ⟨g, 0, none⟩))) (by simp)) (hK _ _ (Below.refl _ _) rfl (fun b h => h.elim)))
    · obtain rfl := Option.some.inj hoj
      exact gG_none rfl (wpO_val _ (exec_ldcellB rfl ((hdep ⟨5, .data⟩ (by simp) rfl : (KV [(.pointer (some ⟨g, 0, none⟩)), (.int .i64 ((b : Nat) : Int)), (.string ⟨List.toArray (Lib.itoa ((b : Nat) : Int))⟩), (.string ⟨List.toArray ([100, 114, 97, 119, 32] ++ Lib.itoa ((b : Nat) : Int))⟩), (.string ⟨List.toArray ([100, 114, 97, 119, 32] ++ Lib.itoa ((b : Nat) : Int) ++ [32])⟩), (.pointer (some ⟨g, 1, none⟩)), (.int .i64 ((n : Nat) : Int)), (.string ⟨List.toArray (Lib.itoa ((n : Nat) : Int))⟩), (.string ⟨List.toArray ([100, 114, 97, 119, 32] ++ Lib.itoa ((b : Nat) : Int) ++ [32] ++ Lib.itoa ((n : Nat) : Int))⟩), (.string ⟨List.toArray ([100, 114, 97, 119, 32] ++ Lib.itoa ((b : Nat) : Int) ++ [32] ++ Lib.itoa ((n : Nat) : Int) ++ [10])⟩)]) 5 _ _) : a'.eval (.tmp 11) = (.pointer (some ⟨g, 1, none⟩))) (cell_of_row _ _ 1 _ _ _ c0)) (hK _ _ (Below.refl _ _) rfl (fun b h => h.elim)))
    · obtain rfl := Option.some.inj hoj
      exact gG_none rfl (wpO_call _ _ (exec_call1 rfl rfl ((hdep ⟨6, .data⟩ (by simp) rfl : (KV [(.pointer (some ⟨g, 0, none⟩)), (.int .i64 ((b : Nat) : Int)), (.string ⟨List.toArray (Lib.itoa ((b : Nat) : Int))⟩), (.string ⟨List.toArray ([100, 114, 97, 119, 32] ++ Lib.itoa ((b : Nat) : Int))⟩), (.string ⟨List.toArray ([100, 114, 97, 119, 32] ++ Lib.itoa ((b : Nat) : Int) ++ [32])⟩), (.pointer (some ⟨g, 1, none⟩)), (.int .i64 ((n : Nat) : Int)), (.string ⟨List.toArray (Lib.itoa ((n : Nat) : Int))⟩), (.string ⟨List.toArray ([100, 114, 97, 119, 32] ++ Lib.itoa ((b : Nat) : Int) ++ [32] ++ Lib.itoa ((n : Nat) : Int))⟩), (.string ⟨List.toArray ([100, 114, 97, 119, 32] ++ Lib.itoa ((b : Nat) : Int) ++ [32] ++ Lib.itoa ((n : Nat) : Int) ++ [10])⟩)]) 6 _ _) : a'.eval (.tmp 12) = (.int .i64 ((n : Nat) : Int))) (by go_simp)) ((HDG.out n (by omega) w').mono fun e w'' ⟨h1, h2⟩ => ⟨_, h1, hK _ w'' h2 rfl (fun b h => h.elim)⟩))
    · obtain rfl := Option.some.inj hoj
      exact gG_none rfl (wpO_val _ (exec_catL rfl ((hdep ⟨4, .data⟩ (by simp) rfl : (KV [(.pointer (some ⟨g, 0, none⟩)), (.int .i64 ((b : Nat) : Int)), (.string ⟨List.toArray (Lib.itoa ((b : Nat) : Int))⟩), (.string ⟨List.toArray ([100, 114, 97, 119, 32] ++ Lib.itoa ((b : Nat) : Int))⟩), (.string ⟨List.toArray ([100, 114, 97, 119, 32] ++ Lib.itoa ((b : Nat) : Int) ++ [32])⟩), (.pointer (some ⟨g, 1, none⟩)), (.int .i64 ((n : Nat) : Int)), (.string ⟨List.toArray (Lib.itoa ((n : Nat) : Int))⟩), (.string ⟨List.toArray ([100, 114, 97, 119, 32] ++ Lib.itoa ((b : Nat) : Int) ++ [32] ++ Lib.itoa ((n : Nat) : Int))⟩), (.string ⟨List.toArray ([100, 114, 97, 119, 32] ++ Lib.itoa ((b : Nat) : Int) ++ [32] ++ Lib.itoa ((n : Nat) : Int) ++ [10])⟩)]) 4 _ _) : a'.eval (.tmp 10) = (.string ⟨List.toArray ([100, 114, 97, 119, 32] ++ Lib.itoa ((b : Nat) : Int) ++ [32])⟩)) ((hdep ⟨7, .data⟩ (by simp) rfl : (KV [(.pointer (some ⟨g, 0, none⟩)), (.int .i64 ((b : Nat) : Int)), (.string ⟨List.toArray (Lib.itoa ((b : Nat) : Int))⟩), (.string ⟨List.toArray ([100, 114, 97, 119, 32] ++ Lib.itoa ((b : Nat) : Int))⟩), (.string ⟨List.toArray ([100, 114, 97, 119, 32] ++ Lib.itoa ((b : Nat) : Int) ++ [32])⟩), (.pointer (some ⟨g, 1, none⟩)), (.int .i64 ((n : Nat) : Int)), (.string ⟨List.toArray (Lib.itoa ((n : Nat) : Int))⟩), (.string ⟨List.toArray ([100, 114, 97, 119, 32] ++ Lib.itoa ((b : Nat) : Int) ++ [32] ++ Lib.itoa ((n : Nat) : Int))⟩), (.string ⟨List.toArray ([100, 114, 97, 119, 32] ++ Lib.itoa ((b : Nat) : Int) ++ [32] ++ Lib.itoa ((n : Nat) : Int) ++ [10])⟩)]) 7 _ _) : a'.eval (.tmp 13) = (.string ⟨List.toArray (Lib.itoa ((n : Nat) : Int))⟩)) (by simp; omega)) (hK _ _ (Below.refl _ _) rfl (fun b h => h.elim)))
    · obtain rfl := Option.some.inj hoj
      exact gG_none rfl (wpO_val _ (exec_catL rfl ((hdep ⟨8, .data⟩ (by simp) rfl : (KV [(.pointer (some ⟨g, 0, none⟩)), (.int .i64 ((b : Nat) : Int)), (.string ⟨List.toArray (Lib.itoa ((b : Nat) : Int))⟩), (.string ⟨List.toArray ([100, 114, 97, 119, 32] ++ Lib.itoa ((b : Nat) : Int))⟩), (.string ⟨List.toArray ([100, 114, 97, 119, 32] ++ Lib.itoa ((b : Nat) : Int) ++ [32])⟩), (.pointer (some ⟨g, 1, none⟩)), (.int .i64 ((n : Nat) : Int)), (.string ⟨List.toArray (Lib.itoa ((n : Nat) : Int))⟩), (.string ⟨List.toArray ([100, 114, 97, 119, 32] ++ Lib.itoa ((b : Nat) : Int) ++ [32] ++ Lib.itoa ((n : Nat) : Int))⟩), (.string ⟨List.toArray ([100, 114, 97, 119, 32] ++ Lib.itoa ((b : Nat) : Int) ++ [32] ++ Lib.itoa ((n : Nat) : Int) ++ [10])⟩)]) 8 _ _) : a'.eval (.tmp 14) = (.string ⟨List.toArray ([100, 114, 97, 119, 32] ++ Lib.itoa ((b : Nat) : Int) ++ [32] ++ Lib.itoa ((n : Nat) : Int))⟩)) rfl (by simp; omega)) (hK _ _ (Below.refl _ _) rfl (fun b h => h.elim)))
  intro vq w6 hb6 hD _ _
  have hv0 : vq 0 = (.pointer (some ⟨g, 0, none⟩)) := hD 0 (by omega)
  have hv1 : vq 1 = (.int .i64 ((b : Nat) : Int)) := hD 1 (by omega)
  have hv2 : vq 2 = (.string ⟨List.toArray (Lib.itoa ((b : Nat) : Int))⟩) := hD 2 (by omega)
  have hv3 : vq 3 = (.string ⟨List.toArray ([100, 114, 97, 119, 32] ++ Lib.itoa ((b : Nat) : Int))⟩) := hD 3 (by omega)
  have hv4 : vq 4 = (.string ⟨List.toArray ([100, 114, 97, 119, 32] ++ Lib.itoa ((b : Nat) : Int) ++ [32])⟩) := hD 4 (by omega)
  have hv5 : vq 5 = (.pointer (some ⟨g, 1, none⟩)) := hD 5 (by omega)
  have hv6 : vq 6 = (.int .i64 ((n : Nat) : Int)) := hD 6 (by omega)
  have hv7 : vq 7 = (.string ⟨List.toArray (Lib.itoa ((n : Nat) : Int))⟩) := hD 7 (by omega)
  have hv8 : vq 8 = (.string ⟨List.toArray ([100, 114, 97, 119, 32] ++ Lib.itoa ((b : Nat) : Int) ++ [32] ++ Lib.itoa ((n : Nat) : Int))⟩) := hD 8 (by omega)
  have hv9 : vq 9 = (.string ⟨List.toArray ([100, 114, 97, 119, 32] ++ Lib.itoa ((b : Nat) : Int) ++ [32] ++ Lib.itoa ((n : Nat) : Int) ++ [10])⟩) := hD 9 (by omega)
  simp only [puts, Act.put, List.setIfInBounds_toArray, List.set_cons_zero, List.set_cons_succ, hv0, hv1, hv2, hv3, hv4, hv5, hv6, hv7, hv8, hv9, List.drop_succ_cons, List.drop_zero, Nat.zero_add, Nat.reduceAdd]
  have HB1 := hid (show Below (g + 1) W0 w6 from hb6.mono hgW0)
  clear hD hb6 hv0 hv1 hv2 hv3 hv4 hv5 hv6 hv7 hv8 hv9
  have hdt : [100, 114, 97, 119, 32] ++ Lib.itoa ((b : Nat) : Int) ++ [32] ++ Lib.itoa ((n : Nat) : Int) ++ [10] = lineL (newW b n) := by rw [draw_txt]; simp
  rw [hdt]
  have hl0 : (lineL (newW b n)).length ≤ 100 := by rw [← hdt]; simp; omega
  clear hdt hbl hnl
  obtain ⟨A0, hA0⟩ : ∃ l, lineL (newW b n) = l := ⟨_, rfl⟩
  rw [hA0] at hl0 ⊢
  have HA0 := hid hA0
  clear hA0
  generalize w6 = w1 at HB1 ⊢
  go_wp2_with fail
  go_loopw [3, 4] (fun sv ix wr => ∃ i : Nat, i ≤ m ∧ ix = .int .i64 ((i : Nat) : Int) ∧ sv = .string ⟨(A0 ++ (ls.take i).flatMap txtL).toArray⟩ ∧ Below (g + 1) W0 wr) (fun _ ix _ => m - (intOf ix).toNat)
  case atStart => exact ⟨0, by omega, rfl, by simp, HB1.out⟩
  case round =>
    clear HB1
    obtain ⟨i, hi, rfl, rfl, hb⟩ := hrel
    have hgW : g + 1 ≤ wr.heap.size := Nat.le_trans hgW0 hb.size
    have hr0 := heap_below hb HX.out.1 (Nat.lt_succ_self g)
    have k2 := cell_of_row _ _ 2 _ _ _ hr0
    have HB := hid hb
    clear hr0 hb
    rcases Nat.lt_or_ge i m with hlt | hge
    · have hin : decide (((i : Nat) : Int) < ((m : Nat) : Int)) = true := decide_eq_true (by omega)
      have hin' : ((i : Nat) : Int) < ((m : Nat) : Int) := by omega
      have hi0 : (0 : Int) ≤ ((i : Nat) : Int) := by omega
      obtain ⟨i1, hi1⟩ : ∃ i1, i + 1 = i1 := ⟨_, rfl⟩
      have hiw : IntKind.i64.wrap (((i : Nat) : Int) + 1) = ((i1 : Nat) : Int) := (IntWalk.i64_in _ (by omega)).trans (by omega)
      obtain ⟨x, hx⟩ : ∃ x, ls[i]? = some x := ⟨_, List.getElem?_eq_getElem (by rw [HM.out]; exact hlt)⟩
      have hst : A0 ++ (ls.take i1).flatMap txtL = A0 ++ (ls.take i).flatMap txtL ++ txtL x := by
        rw [← hi1, List.take_add_one, hx, List.flatMap_append]
        simp
      have hAl : (A0 ++ (ls.take i).flatMap txtL).length ≤ 200000000 := by
        have h1 := flat_le (ls.take i) fun y hy => txt_le ls HOK.out y (List.mem_of_mem_take hy)
        have h2 : (ls.take i).length ≤ m := by rw [List.length_take]; omega
        rw [List.length_append]
        omega
      obtain ⟨A, hA⟩ : ∃ l, A0 ++ (ls.take i).flatMap txtL = l := ⟨_, rfl⟩
      rw [hA] at hst hAl ⊢
      obtain ⟨bk, oo, hpv, _, f0, f1, f2, f3, f4⟩ := (HR.out.below (HG.out.symm ▸ HX.out.2.trans (HB.out.mono (Nat.le_succ g)))).at' hx
      subst hpv
      obtain ⟨ok1, ok2⟩ := HOK.out x (List.mem_of_getElem? hx)
      obtain ⟨xk, xh, xp, xv, xs⟩ := x
      simp only at f0 f1 f2 f3 f4 ok1 ok2
      have hz0 := heap_alloc_new wr (.cells #[.int .i64 xk, .string xh, .int .i64 xp, .int .i64 xv, .string xs] 56)
      have hbz : Below (g + 1) W0 (wr.alloc (.cells #[.int .i64 xk, .string xh, .int .i64 xp, .int .i64 xv, .string xs] 56)) := HB.out.alloc hgW _
      have HI := hid hi1
      have HST0 := hid hst
      clear hx hst hA hi1
      go_upto_region 6 with fail
      generalize wr.alloc (.cells #[.int .i64 xk, .string xh, .int .i64 xp, .int .i64 xv, .string xs] 56) = w7 at hz0 hbz ⊢
      obtain ⟨z, hz⟩ : ∃ z, wr.heap.size = z := ⟨_, rfl⟩
      rw [hz] at hz0 ⊢
      have HZ := hid (And.intro hz0 hbz)
      have q0 := cell_of_row _ _ 0 _ _ _ hz0
      clear hz hz0 hbz f0 f1 f2 f3 f4 k2
      by_cases h1 : xk = 1
      · subst h1
        obtain ⟨p1, p2⟩ := ok1 rfl
        obtain ⟨yp, rfl⟩ : ∃ k : Nat, xp = k := ⟨xp.toNat, by omega⟩
        obtain ⟨yh, rfl, e2⟩ := ba_of xh
        rw [e2] at p2
        have hyl := hash_l yh p2
        have hpl := itoa_l ((yp : Nat) : Int) (by omega)
        have hst := HST0.out
        rw [show txtL ⟨1, ⟨yh.toArray⟩, ((yp : Nat) : Int), xv, xs⟩ = lineL (sealW ((yp : Nat) : Int) ⟨yh.toArray⟩) from rfl, seal_txt] at hst
        replace hst : A0 ++ (ls.take i1).flatMap txtL = A ++ [115, 101, 97, 108, 32] ++ Lib.itoa ((yp : Nat) : Int) ++ [32] ++ yh ++ [10] := by rw [hst]; simp
        have HST := hid hst
        clear hst e2 ok1 ok2 p2 HST0
        go_upto_region 9 with fail
        refine grow_regionG 12 [34, 35, 36, 37, 38, 39, 40, 41, 42, 43, 44, 45] (by kernel_rfl) (by kernel_rfl) (KV [(.string ⟨List.toArray (A)⟩), (.string ⟨List.toArray (A ++ [115, 101, 97, 108, 32])⟩), (.pointer (some ⟨z, 2, none⟩)), (.pointer (some ⟨z, 2, none⟩)), (.int .i64 ((yp : Nat) : Int)), (.string ⟨List.toArray (Lib.itoa ((yp : Nat) : Int))⟩), (.string ⟨List.toArray (A ++ [115, 101, 97, 108, 32] ++ Lib.itoa ((yp : Nat) : Int))⟩), (.string ⟨List.toArray (A ++ [115, 101, 97, 108, 32] ++ Lib.itoa ((yp : Nat) : Int) ++ [32])⟩), (.pointer (some ⟨z, 1, none⟩)), (.string ⟨List.toArray (yh)⟩), (.string ⟨List.toArray (A ++ [115, 101, 97, 108, 32] ++ Lib.itoa ((yp : Nat) : Int) ++ [32] ++ yh)⟩), (.string ⟨List.toArray (A ++ [115, 101, 97, 108, 32] ++ Lib.itoa ((yp : Nat) : Int) ++ [32] ++ yh ++ [10])⟩)]) (fun _ _ _ => False) (fun _ _ _ _ _ h => h) (fun _ _ _ _ _ h => h.elim) ?_ ?_
        · intro jq oj hjq hoj a' w' hb' he hdep K hK
          have c0 := heap_below hb' HZ.out.1 (heap_lt HZ.out.1)
          rcases (show jq = 0 ∨ jq = 1 ∨ jq = 2 ∨ jq = 3 ∨ jq = 4 ∨ jq = 5 ∨ jq = 6 ∨ jq = 7 ∨ jq = 8 ∨ jq = 9 ∨ jq = 10 ∨ jq = 11 by omega) with rfl | rfl | rfl | rfl | rfl | rfl | rfl | rfl | rfl | rfl | rfl | rfl
          · obtain rfl := Option.some.inj hoj
            exact gG_none rfl (wpO_val _ (exec_mv rfl ((he 3 (by decide)).trans rfl : a'.eval (.tmp 3) = (.string ⟨List.toArray (A)⟩))) (hK _ _ (Below.refl _ _) rfl (fun b h => h.elim)))
          · obtain rfl := Option.some.inj hoj
            exact gG_none rfl (wpO_val _ (exec_catL rfl ((hdep ⟨0, .data⟩ (by simp) rfl : (KV [(.string ⟨List.toArray (A)⟩), (.string ⟨List.toArray (A ++ [115, 101, 97, 108, 32])⟩), (.pointer (some ⟨z, 2, none⟩)), (.pointer (some ⟨z, 2, none⟩)), (.int .i64 ((yp : Nat) : Int)), (.string ⟨List.toArray (Lib.itoa ((yp : Nat) : Int))⟩), (.string ⟨List.toArray (A ++ [115, 101, 97, 108, 32] ++ Lib.itoa ((yp : Nat) : Int))⟩), (.string ⟨List.toArray (A ++ [115, 101, 97, 108, 32] ++ Lib.itoa ((yp : Nat) : Int) ++ [32])⟩), (.pointer (some ⟨z, 1, none⟩)), (.string ⟨List.toArray (yh)⟩), (.string ⟨List.toArray (A ++ [115, 101, 97, 108, 32] ++ Lib.itoa ((yp : Nat) : Int) ++ [32] ++ yh)⟩), (.string ⟨List.toArray (A ++ [115, 101, 97, 108, 32] ++ Lib.itoa ((yp : Nat) : Int) ++ [32] ++ yh ++ [10])⟩)]) 0 _ _) : a'.eval (.tmp 34) = (.string ⟨List.toArray (A)⟩)) rfl (by simp; omega)) (hK _ _ (Below.refl _ _) rfl (fun b h => h.elim)))
          · obtain rfl := Option.some.inj hoj
            exact gG_none rfl (wpO_val _ (exec_fldL 2 rfl ((he 5 (by decide)).trans rfl : a'.eval (.tmp 5) = (.pointer (some ⟨z, 0, none⟩))) (by simp)) (hK _ _ (Below.refl _ _) rfl (fun b h => h.elim)))
          · obtain rfl := Option.some.inj hoj
            exact gG_none rfl (wpO_val _ (exec_fldB1A 0 rfl ((hdep ⟨2, .data⟩ (by simp) rfl : (KV [(.string ⟨List.toArray (A)⟩), (.string ⟨List.toArray (A ++ [115, 101, 97, 108, 32])⟩), (.pointer (some ⟨z, 2, none⟩)), (.pointer (some ⟨z, 2, none⟩)), (.int .i64 ((yp : Nat) : Int)), (.string ⟨List.toArray (Lib.itoa ((yp : Nat) : Int))⟩), (.string ⟨List.toArray (A ++ [115, 101, 97, 108, 32] ++ Lib.itoa ((yp : Nat) : Int))⟩), (.string ⟨List.toArray (A ++ [115, 101, 97, 108, 32] ++ Lib.itoa ((yp : Nat) : Int) ++ [32])⟩), (.pointer (some ⟨z, 1, none⟩)), (.string ⟨List.toArray (yh)⟩), (.string ⟨List.toArray (A ++ [115, 101, 97, 108, 32] ++ Lib.itoa ((yp : Nat) : Int) ++ [32] ++ yh)⟩), (.string ⟨List.toArray (A ++ [115, 101, 97, 108, 32] ++ Lib.itoa ((yp : Nat) : Int) ++ [32] ++ yh ++ [10])⟩)]) 2 _ _) : a'.eval (.tmp 36) = (.pointer (some ⟨z, 2, none⟩))) (by simp)) (hK _ _ (Below.refl _ _) rfl (fun b h => h.elim)))
          · obtain rfl := Option.some.inj hoj
            exact gG_none rfl (wpO_val _ (exec_ldcellB rfl ((hdep ⟨3, .data⟩ (by simp) rfl : (KV [(.string ⟨List.toArray (A)⟩), (.string ⟨List.toArray (A ++ [115, 101, 97, 108, 32])⟩), (.pointer (some ⟨z, 2, none⟩)), (.pointer (some ⟨z, 2, none⟩)), (.int .i64 ((yp : Nat) : Int)), (.string ⟨List.toArray (Lib.itoa ((yp : Nat) : Int))⟩), (.string ⟨List.toArray (A ++ [115, 101, 97, 108, 32] ++ Lib.itoa ((yp : Nat) : Int))⟩), (.string ⟨List.toArray (A ++ [115, 101, 97, 108, 32] ++ Lib.itoa ((yp : Nat) : Int) ++ [32])⟩), (.pointer (some ⟨z, 1, none⟩)), (.string ⟨List.toArray (yh)⟩), (.string ⟨List.toArray (A ++ [115, 101, 97, 108, 32] ++ Lib.itoa ((yp : Nat) : Int) ++ [32] ++ yh)⟩), (.string ⟨List.toArray (A ++ [115, 101, 97, 108, 32] ++ Lib.itoa ((yp : Nat) : Int) ++ [32] ++ yh ++ [10])⟩)]) 3 _ _) : a'.eval (.tmp 37) = (.pointer (some ⟨z, 2, none⟩))) (cell_of_row _ _ 2 _ _ _ c0)) (hK _ _ (Below.refl _ _) rfl (fun b h => h.elim)))
          · obtain rfl := Option.some.inj hoj
            exact gG_none rfl (wpO_call _ _ (exec_call1 rfl rfl ((hdep ⟨4, .data⟩ (by simp) rfl : (KV [(.string ⟨List.toArray (A)⟩), (.string ⟨List.toArray (A ++ [115, 101, 97, 108, 32])⟩), (.pointer (some ⟨z, 2, none⟩)), (.pointer (some ⟨z, 2, none⟩)), (.int .i64 ((yp : Nat) : Int)), (.string ⟨List.toArray (Lib.itoa ((yp : Nat) : Int))⟩), (.string ⟨List.toArray (A ++ [115, 101, 97, 108, 32] ++ Lib.itoa ((yp : Nat) : Int))⟩), (.string ⟨List.toArray (A ++ [115, 101, 97, 108, 32] ++ Lib.itoa ((yp : Nat) : Int) ++ [32])⟩), (.pointer (some ⟨z, 1, none⟩)), (.string ⟨List.toArray (yh)⟩), (.string ⟨List.toArray (A ++ [115, 101, 97, 108, 32] ++ Lib.itoa ((yp : Nat) : Int) ++ [32] ++ yh)⟩), (.string ⟨List.toArray (A ++ [115, 101, 97, 108, 32] ++ Lib.itoa ((yp : Nat) : Int) ++ [32] ++ yh ++ [10])⟩)]) 4 _ _) : a'.eval (.tmp 38) = (.int .i64 ((yp : Nat) : Int))) (by go_simp)) ((HDG.out yp (by omega) w').mono fun e w'' ⟨h1, h2⟩ => ⟨_, h1, hK _ w'' h2 rfl (fun b h => h.elim)⟩))
          · obtain rfl := Option.some.inj hoj
            exact gG_none rfl (wpO_val _ (exec_catL rfl ((hdep ⟨1, .data⟩ (by simp) rfl : (KV [(.string ⟨List.toArray (A)⟩), (.string ⟨List.toArray (A ++ [115, 101, 97, 108, 32])⟩), (.pointer (some ⟨z, 2, none⟩)), (.pointer (some ⟨z, 2, none⟩)), (.int .i64 ((yp : Nat) : Int)), (.string ⟨List.toArray (Lib.itoa ((yp : Nat) : Int))⟩), (.string ⟨List.toArray (A ++ [115, 101, 97, 108, 32] ++ Lib.itoa ((yp : Nat) : Int))⟩), (.string ⟨List.toArray (A ++ [115, 101, 97, 108, 32] ++ Lib.itoa ((yp : Nat) : Int) ++ [32])⟩), (.pointer (some ⟨z, 1, none⟩)), (.string ⟨List.toArray (yh)⟩), (.string ⟨List.toArray (A ++ [115, 101, 97, 108, 32] ++ Lib.itoa ((yp : Nat) : Int) ++ [32] ++ yh)⟩), (.string ⟨List.toArray (A ++ [115, 101, 97, 108, 32] ++ Lib.itoa ((yp : Nat) : Int) ++ [32] ++ yh ++ [10])⟩)]) 1 _ _) : a'.eval (.tmp 35) = (.string ⟨List.toArray (A ++ [115, 101, 97, 108, 32])⟩)) ((hdep ⟨5, .data⟩ (by simp) rfl : (KV [(.string ⟨List.toArray (A)⟩), (.string ⟨List.toArray (A ++ [115, 101, 97, 108, 32])⟩), (.pointer (some ⟨z, 2, none⟩)), (.pointer (some ⟨z, 2, none⟩)), (.int .i64 ((yp : Nat) : Int)), (.string ⟨List.toArray (Lib.itoa ((yp : Nat) : Int))⟩), (.string ⟨List.toArray (A ++ [115, 101, 97, 108, 32] ++ Lib.itoa ((yp : Nat) : Int))⟩), (.string ⟨List.toArray (A ++ [115, 101, 97, 108, 32] ++ Lib.itoa ((yp : Nat) : Int) ++ [32])⟩), (.pointer (some ⟨z, 1, none⟩)), (.string ⟨List.toArray (yh)⟩), (.string ⟨List.toArray (A ++ [115, 101, 97, 108, 32] ++ Lib.itoa ((yp : Nat) : Int) ++ [32] ++ yh)⟩), (.string ⟨List.toArray (A ++ [115, 101, 97, 108, 32] ++ Lib.itoa ((yp : Nat) : Int) ++ [32] ++ yh ++ [10])⟩)]) 5 _ _) : a'.eval (.tmp 39) = (.string ⟨List.toArray (Lib.itoa ((yp : Nat) : Int))⟩)) (by simp; omega)) (hK _ _ (Below.refl _ _) rfl (fun b h => h.elim)))
          · obtain rfl := Option.some.inj hoj
            exact gG_none rfl (wpO_val _ (exec_catL rfl ((hdep ⟨6, .data⟩ (by simp) rfl : (KV [(.string ⟨List.toArray (A)⟩), (.string ⟨List.toArray (A ++ [115, 101, 97, 108, 32])⟩), (.pointer (some ⟨z, 2, none⟩)), (.pointer (some ⟨z, 2, none⟩)), (.int .i64 ((yp : Nat) : Int)), (.string ⟨List.toArray (Lib.itoa ((yp : Nat) : Int))⟩), (.string ⟨List.toArray (A ++ [115, 101, 97, 108, 32] ++ Lib.itoa ((yp : Nat) : Int))⟩), (.string ⟨List.toArray (A ++ [115, 101, 97, 108, 32] ++ Lib.itoa ((yp : Nat) : Int) ++ [32])⟩), (.pointer (some ⟨z, 1, none⟩)), (.string ⟨List.toArray (yh)⟩), (.string ⟨List.toArray (A ++ [115, 101, 97, 108, 32] ++ Lib.itoa ((yp : Nat) : Int) ++ [32] ++ yh)⟩), (.string ⟨List.toArray (A ++ [115, 101, 97, 108, 32] ++ Lib.itoa ((yp : Nat) : Int) ++ [32] ++ yh ++ [10])⟩)]) 6 _ _) : a'.eval (.tmp 40) = (.string ⟨List.toArray (A ++ [115, 101, 97, 108, 32] ++ Lib.itoa ((yp : Nat) : Int))⟩)) rfl (by simp; omega)) (hK _ _ (Below.refl _ _) rfl (fun b h => h.elim)))
          · obtain rfl := Option.some.inj hoj
            exact gG_none rfl (wpO_val _ (exec_fldL 1 rfl ((he 5 (by decide)).trans rfl : a'.eval (.tmp 5) = (.pointer (some ⟨z, 0, none⟩))) (by simp)) (hK _ _ (Below.refl _ _) rfl (fun b h => h.elim)))
          · obtain rfl := Option.some.inj hoj
            exact gG_none rfl (wpO_val _ (exec_ldstrB rfl ((hdep ⟨8, .data⟩ (by simp) rfl : (KV [(.string ⟨List.toArray (A)⟩), (.string ⟨List.toArray (A ++ [115, 101, 97, 108, 32])⟩), (.pointer (some ⟨z, 2, none⟩)), (.pointer (some ⟨z, 2, none⟩)), (.int .i64 ((yp : Nat) : Int)), (.string ⟨List.toArray (Lib.itoa ((yp : Nat) : Int))⟩), (.string ⟨List.toArray (A ++ [115, 101, 97, 108, 32] ++ Lib.itoa ((yp : Nat) : Int))⟩), (.string ⟨List.toArray (A ++ [115, 101, 97, 108, 32] ++ Lib.itoa ((yp : Nat) : Int) ++ [32])⟩), (.pointer (some ⟨z, 1, none⟩)), (.string ⟨List.toArray (yh)⟩), (.string ⟨List.toArray (A ++ [115, 101, 97, 108, 32] ++ Lib.itoa ((yp : Nat) : Int) ++ [32] ++ yh)⟩), (.string ⟨List.toArray (A ++ [115, 101, 97, 108, 32] ++ Lib.itoa ((yp : Nat) : Int) ++ [32] ++ yh ++ [10])⟩)]) 8 _ _) : a'.eval (.tmp 42) = (.pointer (some ⟨z, 1, none⟩))) (cell_of_row _ _ 1 _ _ _ c0)) (hK _ _ (Below.refl _ _) rfl (fun b h => h.elim)))
          · obtain rfl := Option.some.inj hoj
            exact gG_none rfl (wpO_val _ (exec_catL rfl ((hdep ⟨7, .data⟩ (by simp) rfl : (KV [(.string ⟨List.toArray (A)⟩), (.string ⟨List.toArray (A ++ [115, 101, 97, 108, 32])⟩), (.pointer (some ⟨z, 2, none⟩)), (.pointer (some ⟨z, 2, none⟩)), (.int .i64 ((yp : Nat) : Int)), (.string ⟨List.toArray (Lib.itoa ((yp : Nat) : Int))⟩), (.string ⟨List.toArray (A ++ [115, 101, 97, 108, 32] ++ Lib.itoa ((yp : Nat) : Int))⟩), (.string ⟨List.toArray (A ++ [115, 101, 97, 108, 32] ++ Lib.itoa ((yp : Nat) : Int) ++ [32])⟩), (.pointer (some ⟨z, 1, none⟩)), (.string ⟨List.toArray (yh)⟩), (.string ⟨List.toArray (A ++ [115, 101, 97, 108, 32] ++ Lib.itoa ((yp : Nat) : Int) ++ [32] ++ yh)⟩), (.string ⟨List.toArray (A ++ [115, 101, 97, 108, 32] ++ Lib.itoa ((yp : Nat) : Int) ++ [32] ++ yh ++ [10])⟩)]) 7 _ _) : a'.eval (.tmp 41) = (.string ⟨List.toArray (A ++ [115, 101, 97, 108, 32] ++ Lib.itoa ((yp : Nat) : Int) ++ [32])⟩)) ((hdep ⟨9, .data⟩ (by simp) rfl : (KV [(.string ⟨List.toArray (A)⟩), (.string ⟨List.toArray (A ++ [115, 101, 97, 108, 32])⟩), (.pointer (some ⟨z, 2, none⟩)), (.pointer (some ⟨z, 2, none⟩)), (.int .i64 ((yp : Nat) : Int)), (.string ⟨List.toArray (Lib.itoa ((yp : Nat) : Int))⟩), (.string ⟨List.toArray (A ++ [115, 101, 97, 108, 32] ++ Lib.itoa ((yp : Nat) : Int))⟩), (.string ⟨List.toArray (A ++ [115, 101, 97, 108, 32] ++ Lib.itoa ((yp : Nat) : Int) ++ [32])⟩), (.pointer (some ⟨z, 1, none⟩)), (.string ⟨List.toArray (yh)⟩), (.string ⟨List.toArray (A ++ [115, 101, 97, 108, 32] ++ Lib.itoa ((yp : Nat) : Int) ++ [32] ++ yh)⟩), (.string ⟨List.toArray (A ++ [115, 101, 97, 108, 32] ++ Lib.itoa ((yp : Nat) : Int) ++ [32] ++ yh ++ [10])⟩)]) 9 _ _) : a'.eval (.tmp 43) = (.string ⟨List.toArray (yh)⟩)) (by simp; omega)) (hK _ _ (Below.refl _ _) rfl (fun b h => h.elim)))
          · obtain rfl := Option.some.inj hoj
            exact gG_none rfl (wpO_val _ (exec_catL rfl ((hdep ⟨10, .data⟩ (by simp) rfl : (KV [(.string ⟨List.toArray (A)⟩), (.string ⟨List.toArray (A ++ [115, 101, 97, 108, 32])⟩), (.pointer (some ⟨z, 2, none⟩)), (.pointer (some ⟨z, 2, none⟩)), (.int .i64 ((yp : Nat) : Int)), (.string ⟨List.toArray (Lib.itoa ((yp : Nat) : Int))⟩), (.string ⟨List.toArray (A ++ [115, 101, 97, 108, 32] ++ Lib.itoa ((yp : Nat) : Int))⟩), (.string ⟨List.toArray (A ++ [115, 101, 97, 108, 32] ++ Lib.itoa ((yp : Nat) : Int) ++ [32])⟩), (.pointer (some ⟨z, 1, none⟩)), (.string ⟨List.toArray (yh)⟩), (.string ⟨List.toArray (A ++ [115, 101, 97, 108, 32] ++ Lib.itoa ((yp : Nat) : Int) ++ [32] ++ yh)⟩), (.string ⟨List.toArray (A ++ [115, 101, 97, 108, 32] ++ Lib.itoa ((yp : Nat) : Int) ++ [32] ++ yh ++ [10])⟩)]) 10 _ _) : a'.eval (.tmp 44) = (.string ⟨List.toArray (A ++ [115, 101, 97, 108, 32] ++ Lib.itoa ((yp : Nat) : Int) ++ [32] ++ yh)⟩)) rfl (by simp; omega)) (hK _ _ (Below.refl _ _) rfl (fun b h => h.elim)))
        intro vq w6 hb6 hD _ _
        have hv0 : vq 0 = (.string ⟨List.toArray (A)⟩) := hD 0 (by omega)
        have hv1 : vq 1 = (.string ⟨List.toArray (A ++ [115, 101, 97, 108, 32])⟩) := hD 1 (by omega)
        have hv2 : vq 2 = (.pointer (some ⟨z, 2, none⟩)) := hD 2 (by omega)
        have hv3 : vq 3 = (.pointer (some ⟨z, 2, none⟩)) := hD 3 (by omega)
        have hv4 : vq 4 = (.int .i64 ((yp : Nat) : Int)) := hD 4 (by omega)
        have hv5 : vq 5 = (.string ⟨List.toArray (Lib.itoa ((yp : Nat) : Int))⟩) := hD 5 (by omega)
        have hv6 : vq 6 = (.string ⟨List.toArray (A ++ [115, 101, 97, 108, 32] ++ Lib.itoa ((yp : Nat) : Int))⟩) := hD 6 (by omega)
        have hv7 : vq 7 = (.string ⟨List.toArray (A ++ [115, 101, 97, 108, 32] ++ Lib.itoa ((yp : Nat) : Int) ++ [32])⟩) := hD 7 (by omega)
        have hv8 : vq 8 = (.pointer (some ⟨z, 1, none⟩)) := hD 8 (by omega)
        have hv9 : vq 9 = (.string ⟨List.toArray (yh)⟩) := hD 9 (by omega)
        have hv10 : vq 10 = (.string ⟨List.toArray (A ++ [115, 101, 97, 108, 32] ++ Lib.itoa ((yp : Nat) : Int) ++ [32] ++ yh)⟩) := hD 10 (by omega)
        have hv11 : vq 11 = (.string ⟨List.toArray (A ++ [115, 101, 97, 108, 32] ++ Lib.itoa ((yp : Nat) : Int) ++ [32] ++ yh ++ [10])⟩) := hD 11 (by omega)
        simp only [puts, Act.put, List.setIfInBounds_toArray, List.set_cons_zero, List.set_cons_succ, hv0, hv1, hv2, hv3, hv4, hv5, hv6, hv7, hv8, hv9, hv10, hv11, List.drop_succ_cons, List.drop_zero, Nat.zero_add, Nat.reduceAdd]
        have HB6 := hid (HZ.out.2.trans (hb6.mono (Nat.le_trans hgW0 HZ.out.2.size)))
        clear hD hb6 hv0 hv1 hv2 hv3 hv4 hv5 hv6 hv7 hv8 hv9 hv10 hv11
        go_wp2_with fail
        go_roundw
        case rel => exact ⟨i1, by have := HI.out; omega, rfl, by rw [HST.out], HB6.out⟩
        case measure => have := HI.out; simp only [intOf, Int.toNat_natCast]; omega
      · have e1 : (xk == 1) = false := by simp [h1]
        have e1' : decide (xk = 1) = false := decide_eq_false h1
        by_cases h2 : xk = 2
        · subst h2
          obtain ⟨p1, p2, p3⟩ := ok2 rfl
          obtain ⟨yp, rfl⟩ : ∃ k : Nat, xp = k := ⟨xp.toNat, by omega⟩
          obtain ⟨yv, rfl⟩ : ∃ k : Nat, xv = k := ⟨xv.toNat, by omega⟩
          obtain ⟨ys, rfl, e2⟩ := ba_of xs
          rw [e2] at p3
          have hyl := salt_l ys p3
          have hpl := itoa_l ((yp : Nat) : Int) (by omega)
          have hvl := itoa_l ((yv : Nat) : Int) (by omega)
          have hst := HST0.out
          rw [show txtL ⟨2, xh, ((yp : Nat) : Int), ((yv : Nat) : Int), ⟨ys.toArray⟩⟩ = lineL (openW ((yp : Nat) : Int) ((yv : Nat) : Int) ⟨ys.toArray⟩) from rfl, open_txt] at hst
          replace hst : A0 ++ (ls.take i1).flatMap txtL = A ++ [111, 112, 101, 110, 32] ++ Lib.itoa ((yp : Nat) : Int) ++ [32] ++ Lib.itoa ((yv : Nat) : Int) ++ [32] ++ ys ++ [10] := by rw [hst]; simp
          have HST := hid hst
          clear hst e2 ok1 ok2 p3 HST0 h1
          go_upto_region 11 with fail
          refine grow_regionG 19 [48, 49, 50, 51, 52, 53, 54, 55, 56, 57, 58, 59, 60, 61, 62, 63, 64, 65, 66] (by kernel_rfl) (by kernel_rfl) (KV [(.string ⟨List.toArray (A)⟩), (.string ⟨List.toArray (A ++ [111, 112, 101, 110, 32])⟩), (.pointer (some ⟨z, 2, none⟩)), (.pointer (some ⟨z, 2, none⟩)), (.int .i64 ((yp : Nat) : Int)), (.string ⟨List.toArray (Lib.itoa ((yp : Nat) : Int))⟩), (.string ⟨List.toArray (A ++ [111, 112, 101, 110, 32] ++ Lib.itoa ((yp : Nat) : Int))⟩), (.string ⟨List.toArray (A ++ [111, 112, 101, 110, 32] ++ Lib.itoa ((yp : Nat) : Int) ++ [32])⟩), (.pointer (some ⟨z, 2, none⟩)), (.pointer (some ⟨z, 3, none⟩)), (.int .i64 ((yv : Nat) : Int)), (.string ⟨List.toArray (Lib.itoa ((yv : Nat) : Int))⟩), (.string ⟨List.toArray (A ++ [111, 112, 101, 110, 32] ++ Lib.itoa ((yp : Nat) : Int) ++ [32] ++ Lib.itoa ((yv : Nat) : Int))⟩), (.string ⟨List.toArray (A ++ [111, 112, 101, 110, 32] ++ Lib.itoa ((yp : Nat) : Int) ++ [32] ++ Lib.itoa ((yv : Nat) : Int) ++ [32])⟩), (.pointer (some ⟨z, 2, none⟩)), (.pointer (some ⟨z, 4, none⟩)), (.string ⟨List.toArray (ys)⟩), (.string ⟨List.toArray (A ++ [111, 112, 101, 110, 32] ++ Lib.itoa ((yp : Nat) : Int) ++ [32] ++ Lib.itoa ((yv : Nat) : Int) ++ [32] ++ ys)⟩), (.string ⟨List.toArray (A ++ [111, 112, 101, 110, 32] ++ Lib.itoa ((yp : Nat) : Int) ++ [32] ++ Lib.itoa ((yv : Nat) : Int) ++ [32] ++ ys ++ [10])⟩)]) (fun _ _ _ => False) (fun _ _ _ _ _ h => h) (fun _ _ _ _ _ h => h.elim) ?_ ?_
          · intro jq oj hjq hoj a' w' hb' he hdep K hK
            have c0 := heap_below hb' HZ.out.1 (heap_lt HZ.out.1)
            rcases (show jq = 0 ∨ jq = 1 ∨ jq = 2 ∨ jq = 3 ∨ jq = 4 ∨ jq = 5 ∨ jq = 6 ∨ jq = 7 ∨ jq = 8 ∨ jq = 9 ∨ jq = 10 ∨ jq = 11 ∨ jq = 12 ∨ jq = 13 ∨ jq = 14 ∨ jq = 15 ∨ jq = 16 ∨ jq = 17 ∨ jq = 18 by omega) with rfl | rfl | rfl | rfl | rfl | rfl | rfl | rfl | rfl | rfl | rfl | rfl | rfl | rfl | rfl | rfl | rfl | rfl | rfl
            · obtain rfl := Option.some.inj hoj
              exact gG_none rfl (wpO_val _ (exec_mv rfl ((he 3 (by decide)).trans rfl : a'.eval (.tmp 3) = (.string ⟨List.toArray (A)⟩))) (hK _ _ (Below.refl _ _) rfl (fun b h => h.elim)))
            · obtain rfl := Option.some.inj hoj
              exact gG_none rfl (wpO_val _ (exec_catL rfl ((hdep ⟨0, .data⟩ (by simp) rfl : (KV [(.string ⟨List.toArray (A)⟩), (.string ⟨List.toArray (A ++ [111, 112, 101, 110, 32])⟩), (.pointer (some ⟨z, 2, none⟩)), (.pointer (some ⟨z, 2, none⟩)), (.int .i64 ((yp : Nat) : Int)), (.string ⟨List.toArray (Lib.itoa ((yp : Nat) : Int))⟩), (.string ⟨List.toArray (A ++ [111, 112, 101, 110, 32] ++ Lib.itoa ((yp : Nat) : Int))⟩), (.string ⟨List.toArray (A ++ [111, 112, 101, 110, 32] ++ Lib.itoa ((yp : Nat) : Int) ++ [32])⟩), (.pointer (some ⟨z, 2, none⟩)), (.pointer (some ⟨z, 3, none⟩)), (.int .i64 ((yv : Nat) : Int)), (.string ⟨List.toArray (Lib.itoa ((yv : Nat) : Int))⟩), (.string ⟨List.toArray (A ++ [111, 112, 101, 110, 32] ++ Lib.itoa ((yp : Nat) : Int) ++ [32] ++ Lib.itoa ((yv : Nat) : Int))⟩), (.string ⟨List.toArray (A ++ [111, 112, 101, 110, 32] ++ Lib.itoa ((yp : Nat) : Int) ++ [32] ++ Lib.itoa ((yv : Nat) : Int) ++ [32])⟩), (.pointer (some ⟨z, 2, none⟩)), (.pointer (some ⟨z, 4, none⟩)), (.string ⟨List.toArray (ys)⟩), (.string ⟨List.toArray (A ++ [111, 112, 101, 110, 32] ++ Lib.itoa ((yp : Nat) : Int) ++ [32] ++ Lib.itoa ((yv : Nat) : Int) ++ [32] ++ ys)⟩), (.string ⟨List.toArray (A ++ [111, 112, 101, 110, 32] ++ Lib.itoa ((yp : Nat) : Int) ++ [32] ++ Lib.itoa ((yv : Nat) : Int) ++ [32] ++ ys ++ [10])⟩)]) 0 _ _) : a'.eval (.tmp 48) = (.string ⟨List.toArray (A)⟩)) rfl (by simp; omega)) (hK _ _ (Below.refl _ _) rfl (fun b h => h.elim)))
            · obtain rfl := Option.some.inj hoj
              exact gG_none rfl (wpO_val _ (exec_fldL 2 rfl ((he 5 (by decide)).trans rfl : a'.eval (.tmp 5) = (.pointer (some ⟨z, 0, none⟩))) (by simp)) (hK _ _ (Below.refl _ _) rfl (fun b h => h.elim)))
            · obtain rfl := Option.some.inj hoj
              exact gG_none rfl (wpO_val _ (exec_fldB1A 0 rfl ((hdep ⟨2, .data⟩ (by simp) rfl : (KV [(.string ⟨List.toArray (A)⟩), (.string ⟨List.toArray (A ++ [111, 112, 101, 110, 32])⟩), (.pointer (some ⟨z, 2, none⟩)), (.pointer (some ⟨z, 2, none⟩)), (.int .i64 ((yp : Nat) : Int)), (.string ⟨List.toArray (Lib.itoa ((yp : Nat) : Int))⟩), (.string ⟨List.toArray (A ++ [111, 112, 101, 110, 32] ++ Lib.itoa ((yp : Nat) : Int))⟩), (.string ⟨List.toArray (A ++ [111, 112, 101, 110, 32] ++ Lib.itoa ((yp : Nat) : Int) ++ [32])⟩), (.pointer (some ⟨z, 2, none⟩)), (.pointer (some ⟨z, 3, none⟩)), (.int .i64 ((yv : Nat) : Int)), (.string ⟨List.toArray (Lib.itoa ((yv : Nat) : Int))⟩), (.string ⟨List.toArray (A ++ [111, 112, 101, 110, 32] ++ Lib.itoa ((yp : Nat) : Int) ++ [32] ++ Lib.itoa ((yv : Nat) : Int))⟩), (.string ⟨List.toArray (A ++ [111, 112, 101, 110, 32] ++ Lib.itoa ((yp : Nat) : Int) ++ [32] ++ Lib.itoa ((yv : Nat) : Int) ++ [32])⟩), (.pointer (some ⟨z, 2, none⟩)), (.pointer (some ⟨z, 4, none⟩)), (.string ⟨List.toArray (ys)⟩), (.string ⟨List.toArray (A ++ [111, 112, 101, 110, 32] ++ Lib.itoa ((yp : Nat) : Int) ++ [32] ++ Lib.itoa ((yv : Nat) : Int) ++ [32] ++ ys)⟩), (.string ⟨List.toArray (A ++ [111, 112, 101, 110, 32] ++ Lib.itoa ((yp : Nat) : Int) ++ [32] ++ Lib.itoa ((yv : Nat) : Int) ++ [32] ++ ys ++ [10])⟩)]) 2 _ _) : a'.eval (.tmp 50) = (.pointer (some ⟨z, 2, none⟩))) (by simp)) (hK _ _ (Below.refl _ _) rfl (fun b h => h.elim)))
            · obtain rfl := Option.some.inj hoj
              exact gG_none rfl (wpO_val _ (exec_ldcellB rfl ((hdep ⟨3, .data⟩ (by simp) rfl : (KV [(.string ⟨List.toArray (A)⟩), (.string ⟨List.toArray (A ++ [111, 112, 101, 110, 32])⟩), (.pointer (some ⟨z, 2, none⟩)), (.pointer (some ⟨z, 2, none⟩)), (.int .i64 ((yp : Nat) : Int)), (.string ⟨List.toArray (Lib.itoa ((yp : Nat) : Int))⟩), (.string ⟨List.toArray (A ++ [111, 112, 101, 110, 32] ++ Lib.itoa ((yp : Nat) : Int))⟩), (.string ⟨List.toArray (A ++ [111, 112, 101, 110, 32] ++ Lib.itoa ((yp : Nat) : Int) ++ [32])⟩), (.pointer (some ⟨z, 2, none⟩)), (.pointer (some ⟨z, 3, none⟩)), (.int .i64 ((yv : Nat) : Int)), (.string ⟨List.toArray (Lib.itoa ((yv : Nat) : Int))⟩), (.string ⟨List.toArray (A ++ [111, 112, 101, 110, 32] ++ Lib.itoa ((yp : Nat) : Int) ++ [32] ++ Lib.itoa ((yv : Nat) : Int))⟩), (.string ⟨List.toArray (A ++ [111, 112, 101, 110, 32] ++ Lib.itoa ((yp : Nat) : Int) ++ [32] ++ Lib.itoa ((yv : Nat) : Int) ++ [32])⟩), (.pointer (some ⟨z, 2, none⟩)), (.pointer (some ⟨z, 4, none⟩)), (.string ⟨List.toArray (ys)⟩), (.string ⟨List.toArray (A ++ [111, 112, 101, 110, 32] ++ Lib.itoa ((yp : Nat) : Int) ++ [32] ++ Lib.itoa ((yv : Nat) : Int) ++ [32] ++ ys)⟩), (.string ⟨List.toArray (A ++ [111, 112, 101, 110, 32] ++ Lib.itoa ((yp : Nat) : Int) ++ [32] ++ Lib.itoa ((yv : Nat) : Int) ++ [32] ++ ys ++ [10])⟩)]) 3 _ _) : a'.eval (.tmp 51) = (.pointer (some ⟨z, 2, none⟩))) (cell_of_row _ _ 2 _ _ _ c0)) (hK _ _ (Below.refl _ _) rfl (fun b h => h.elim)))
            · obtain rfl := Option.some.inj hoj
              exact gG_none rfl (wpO_call _ _ (exec_call1 rfl rfl ((hdep ⟨4, .data⟩ (by simp) rfl : (KV [(.string ⟨List.toArray (A)⟩), (.string ⟨List.toArray (A ++ [111, 112, 101, 110, 32])⟩), (.pointer (some ⟨z, 2, none⟩)), (.pointer (some ⟨z, 2, none⟩)), (.int .i64 ((yp : Nat) : Int)), (.string ⟨List.toArray (Lib.itoa ((yp : Nat) : Int))⟩), (.string ⟨List.toArray (A ++ [111, 112, 101, 110, 32] ++ Lib.itoa ((yp : Nat) : Int))⟩), (.string ⟨List.toArray (A ++ [111, 112, 101, 110, 32] ++ Lib.itoa ((yp : Nat) : Int) ++ [32])⟩), (.pointer (some ⟨z, 2, none⟩)), (.pointer (some ⟨z, 3, none⟩)), (.int .i64 ((yv : Nat) : Int)), (.string ⟨List.toArray (Lib.itoa ((yv : Nat) : Int))⟩), (.string ⟨List.toArray (A ++ [111, 112, 101, 110, 32] ++ Lib.itoa ((yp : Nat) : Int) ++ [32] ++ Lib.itoa ((yv : Nat) : Int))⟩), (.string ⟨List.toArray (A ++ [111, 112, 101, 110, 32] ++ Lib.itoa ((yp : Nat) : Int) ++ [32] ++ Lib.itoa ((yv : Nat) : Int) ++ [32])⟩), (.pointer (some ⟨z, 2, none⟩)), (.pointer (some ⟨z, 4, none⟩)), (.string ⟨List.toArray (ys)⟩), (.string ⟨List.toArray (A ++ [111, 112, 101, 110, 32] ++ Lib.itoa ((yp : Nat) : Int) ++ [32] ++ Lib.itoa ((yv : Nat) : Int) ++ [32] ++ ys)⟩), (.string ⟨List.toArray (A ++ [111, 112, 101, 110, 32] ++ Lib.itoa ((yp : Nat) : Int) ++ [32] ++ Lib.itoa ((yv : Nat) : Int) ++ [32] ++ ys ++ [10])⟩)]) 4 _ _) : a'.eval (.tmp 52) = (.int .i64 ((yp : Nat) : Int))) (by go_simp)) ((HDG.out yp (by omega) w').mono fun e w'' ⟨h1, h2⟩ => ⟨_, h1, hK _ w'' h2 rfl (fun b h => h.elim)⟩))
            · obtain rfl := Option.some.inj hoj
              exact gG_none rfl (wpO_val _ (exec_catL rfl ((hdep ⟨1, .data⟩ (by simp) rfl : (KV [(.string ⟨List.toArray (A)⟩), (.string ⟨List.toArray (A ++ [111, 112, 101, 110, 32])⟩), (.pointer (some ⟨z, 2, none⟩)), (.pointer (some ⟨z, 2, none⟩)), (.int .i64 ((yp : Nat) : Int)), (.string ⟨List.toArray (Lib.itoa ((yp : Nat) : Int))⟩), (.string ⟨List.toArray (A ++ [111, 112, 101, 110, 32] ++ Lib.itoa ((yp : Nat) : Int))⟩), (.string ⟨List.toArray (A ++ [111, 112, 101, 110, 32] ++ Lib.itoa ((yp : Nat) : Int) ++ [32])⟩), (.pointer (some ⟨z, 2, none⟩)), (.pointer (some ⟨z, 3, none⟩)), (.int .i64 ((yv : Nat) : Int)), (.string ⟨List.toArray (Lib.itoa ((yv : Nat) : Int))⟩), (.string ⟨List.toArray (A ++ [111, 112, 101, 110, 32] ++ Lib.itoa ((yp : Nat) : Int) ++ [32] ++ Lib.itoa ((yv : Nat) : Int))⟩), (.string ⟨List.toArray (A ++ [111, 112, 101, 110, 32] ++ Lib.itoa ((yp : Nat) : Int) ++ [32] ++ Lib.itoa ((yv : Nat) : Int) ++ [32])⟩), (.pointer (some ⟨z, 2, none⟩)), (.pointer (some ⟨z, 4, none⟩)), (.string ⟨List.toArray (ys)⟩), (.string ⟨List.toArray (A ++ [111, 112, 101, 110, 32] ++ Lib.itoa ((yp : Nat) : Int) ++ [32] ++ Lib.itoa ((yv : Nat) : Int) ++ [32] ++ ys)⟩), (.string ⟨List.toArray (A ++ [111, 112, 101, 110, 32] ++ Lib.itoa ((yp : Nat) : Int) ++ [32] ++ Lib.itoa ((yv : Nat) : Int) ++ [32] ++ ys ++ [10])⟩)]) 1 _ _) : a'.eval (.tmp 49) = (.string ⟨List.toArray (A ++ [111, 112, 101, 110, 32])⟩)) ((hdep ⟨5, .data⟩ (by simp) rfl : (KV [(.string ⟨List.toArray (A)⟩), (.string ⟨List.toArray (A ++ [111, 112, 101, 110, 32])⟩), (.pointer (some ⟨z, 2, none⟩)), (.pointer (some ⟨z, 2, none⟩)), (.int .i64 ((yp : Nat) : Int)), (.string ⟨List.toArray (Lib.itoa ((yp : Nat) : Int))⟩), (.string ⟨List.toArray (A ++ [111, 112, 101, 110, 32] ++ Lib.itoa ((yp : Nat) : Int))⟩), (.string ⟨List.toArray (A ++ [111, 112, 101, 110, 32] ++ Lib.itoa ((yp : Nat) : Int) ++ [32])⟩), (.pointer (some ⟨z, 2, none⟩)), (.pointer (some ⟨z, 3, none⟩)), (.int .i64 ((yv : Nat) : Int)), (.string ⟨List.toArray (Lib.itoa ((yv : Nat) : Int))⟩), (.string ⟨List.toArray (A ++ [111, 112, 101, 110, 32] ++ Lib.itoa ((yp : Nat) : Int) ++ [32] ++ Lib.itoa ((yv : Nat) : Int))⟩), (.string ⟨List.toArray (A ++ [111, 112, 101, 110, 32] ++ Lib.itoa ((yp : Nat) : Int) ++ [32] ++ Lib.itoa ((yv : Nat) : Int) ++ [32])⟩), (.pointer (some ⟨z, 2, none⟩)), (.pointer (some ⟨z, 4, none⟩)), (.string ⟨List.toArray (ys)⟩), (.string ⟨List.toArray (A ++ [111, 112, 101, 110, 32] ++ Lib.itoa ((yp : Nat) : Int) ++ [32] ++ Lib.itoa ((yv : Nat) : Int) ++ [32] ++ ys)⟩), (.string ⟨List.toArray (A ++ [111, 112, 101, 110, 32] ++ Lib.itoa ((yp : Nat) : Int) ++ [32] ++ Lib.itoa ((yv : Nat) : Int) ++ [32] ++ ys ++ [10])⟩)]) 5 _ _) : a'.eval (.tmp 53) = (.string ⟨List.toArray (Lib.itoa ((yp : Nat) : Int))⟩)) (by simp; omega)) (hK _ _ (Below.refl _ _) rfl (fun b h => h.elim)))
            · obtain rfl := Option.some.inj hoj
              exact gG_none rfl (wpO_val _ (exec_catL rfl ((hdep ⟨6, .data⟩ (by simp) rfl : (KV [(.string ⟨List.toArray (A)⟩), (.string ⟨List.toArray (A ++ [111, 112, 101, 110, 32])⟩), (.pointer (some ⟨z, 2, none⟩)), (.pointer (some ⟨z, 2, none⟩)), (.int .i64 ((yp : Nat) : Int)), (.string ⟨List.toArray (Lib.itoa ((yp : Nat) : Int))⟩), (.string ⟨List.toArray (A ++ [111, 112, 101, 110, 32] ++ Lib.itoa ((yp : Nat) : Int))⟩), (.string ⟨List.toArray (A ++ [111, 112, 101, 110, 32] ++ Lib.itoa ((yp : Nat) : Int) ++ [32])⟩), (.pointer (some ⟨z, 2, none⟩)), (.pointer (some ⟨z, 3, none⟩)), (.int .i64 ((yv : Nat) : Int)), (.string ⟨List.toArray (Lib.itoa ((yv : Nat) : Int))⟩), (.string ⟨List.toArray (A ++ [111, 112, 101, 110, 32] ++ Lib.itoa ((yp : Nat) : Int) ++ [32] ++ Lib.itoa ((yv : Nat) : Int))⟩), (.string ⟨List.toArray (A ++ [111, 112, 101, 110, 32] ++ Lib.itoa ((yp : Nat) : Int) ++ [32] ++ Lib.itoa ((yv : Nat) : Int) ++ [32])⟩), (.pointer (some ⟨z, 2, none⟩)), (.pointer (some ⟨z, 4, none⟩)), (.string ⟨List.toArray (ys)⟩), (.string ⟨List.toArray (A ++ [111, 112, 101, 110, 32] ++ Lib.itoa ((yp : Nat) : Int) ++ [32] ++ Lib.itoa ((yv : Nat) : Int) ++ [32] ++ ys)⟩), (.string ⟨List.toArray (A ++ [111, 112, 101, 110, 32] ++ Lib.itoa ((yp : Nat) : Int) ++ [32] ++ Lib.itoa ((yv : Nat) : Int) ++ [32] ++ ys ++ [10])⟩)]) 6 _ _) : a'.eval (.tmp 54) = (.string ⟨List.toArray (A ++ [111, 112, 101, 110, 32] ++ Lib.itoa ((yp : Nat) : Int))⟩)) rfl (by simp; omega)) (hK _ _ (Below.refl _ _) rfl (fun b h => h.elim)))
            · obtain rfl := Option.some.inj hoj
              exact gG_none rfl (wpO_val _ (exec_fldL 2 rfl ((he 5 (by decide)).trans rfl : a'.eval (.tmp 5) = (.pointer (some ⟨z, 0, none⟩))) (by simp)) (hK _ _ (Below.refl _ _) rfl (fun b h => h.elim)))
            · obtain rfl := Option.some.inj hoj
              exact gG_none rfl (wpO_val _ (exec_fldB1A 1 rfl ((hdep ⟨8, .data⟩ (by simp) rfl : (KV [(.string ⟨List.toArray (A)⟩), (.string ⟨List.toArray (A ++ [111, 112, 101, 110, 32])⟩), (.pointer (some ⟨z, 2, none⟩)), (.pointer (some ⟨z, 2, none⟩)), (.int .i64 ((yp : Nat) : Int)), (.string ⟨List.toArray (Lib.itoa ((yp : Nat) : Int))⟩), (.string ⟨List.toArray (A ++ [111, 112, 101, 110, 32] ++ Lib.itoa ((yp : Nat) : Int))⟩), (.string ⟨List.toArray (A ++ [111, 112, 101, 110, 32] ++ Lib.itoa ((yp : Nat) : Int) ++ [32])⟩), (.pointer (some ⟨z, 2, none⟩)), (.pointer (some ⟨z, 3, none⟩)), (.int .i64 ((yv : Nat) : Int)), (.string ⟨List.toArray (Lib.itoa ((yv : Nat) : Int))⟩), (.string ⟨List.toArray (A ++ [111, 112, 101, 110, 32] ++ Lib.itoa ((yp : Nat) : Int) ++ [32] ++ Lib.itoa ((yv : Nat) : Int))⟩), (.string ⟨List.toArray (A ++ [111, 112, 101, 110, 32] ++ Lib.itoa ((yp : Nat) : Int) ++ [32] ++ Lib.itoa ((yv : Nat) : Int) ++ [32])⟩), (.pointer (some ⟨z, 2, none⟩)), (.pointer (some ⟨z, 4, none⟩)), (.string ⟨List.toArray (ys)⟩), (.string ⟨List.toArray (A ++ [111, 112, 101, 110, 32] ++ Lib.itoa ((yp : Nat) : Int) ++ [32] ++ Lib.itoa ((yv : Nat) : Int) ++ [32] ++ ys)⟩), (.string ⟨List.toArray (A ++ [111, 112, 101, 110, 32] ++ Lib.itoa ((yp : Nat) : Int) ++ [32] ++ Lib.itoa ((yv : Nat) : Int) ++ [32] ++ ys ++ [10])⟩)]) 8 _ _) : a'.eval (.tmp 56) = (.pointer (some ⟨z, 2, none⟩))) (by simp)) (hK _ _ (Below.refl _ _) rfl (fun b h => h.elim)))
            · obtain rfl := Option.some.inj hoj
              exact gG_none rfl (wpO_val _ (exec_ldcellB rfl ((hdep ⟨9, .data⟩ (by simp) rfl : (KV [(.string ⟨List.toArray (A)⟩), (.string ⟨List.toArray (A ++ [111, 112, 101, 110, 32])⟩), (.pointer (some ⟨z, 2, none⟩)), (.pointer (some ⟨z, 2, none⟩)), (.int .i64 ((yp : Nat) : Int)), (.string ⟨List.toArray (Lib.itoa ((yp : Nat) : Int))⟩), (.string ⟨List.toArray (A ++ [111, 112, 101, 110, 32] ++ Lib.itoa ((yp : Nat) : Int))⟩), (.string ⟨List.toArray (A ++ [111, 112, 101, 110, 32] ++ Lib.itoa ((yp : Nat) : Int) ++ [32])⟩), (.pointer (some ⟨z, 2, none⟩)), (.pointer (some ⟨z, 3, none⟩)), (.int .i64 ((yv : Nat) : Int)), (.string ⟨List.toArray (Lib.itoa ((yv : Nat) : Int))⟩), (.string ⟨List.toArray (A ++ [111, 112, 101, 110, 32] ++ Lib.itoa ((yp : Nat) : Int) ++ [32] ++ Lib.itoa ((yv : Nat) : Int))⟩), (.string ⟨List.toArray (A ++ [111, 112, 101, 110, 32] ++ Lib.itoa ((yp : Nat) : Int) ++ [32] ++ Lib.itoa ((yv : Nat) : Int) ++ [32])⟩), (.pointer (some ⟨z, 2, none⟩)), (.pointer (some ⟨z, 4, none⟩)), (.string ⟨List.toArray (ys)⟩), (.string ⟨List.toArray (A ++ [111, 112, 101, 110, 32] ++ Lib.itoa ((yp : Nat) : Int) ++ [32] ++ Lib.itoa ((yv : Nat) : Int) ++ [32] ++ ys)⟩), (.string ⟨List.toArray (A ++ [111, 112, 101, 110, 32] ++ Lib.itoa ((yp : Nat) : Int) ++ [32] ++ Lib.itoa ((yv : Nat) : Int) ++ [32] ++ ys ++ [10])⟩)]) 9 _ _) : a'.eval (.tmp 57) = (.pointer (some ⟨z, 3, none⟩))) (cell_of_row _ _ 3 _ _ _ c0)) (hK _ _ (Below.refl _ _) rfl (fun b h => h.elim)))
            · obtain rfl := Option.some.inj hoj
              exact gG_none rfl (wpO_call _ _ (exec_call1 rfl rfl ((hdep ⟨10, .data⟩ (by simp) rfl : (KV [(.string ⟨List.toArray (A)⟩), (.string ⟨List.toArray (A ++ [111, 112, 101, 110, 32])⟩), (.pointer (some ⟨z, 2, none⟩)), (.pointer (some ⟨z, 2, none⟩)), (.int .i64 ((yp : Nat) : Int)), (.string ⟨List.toArray (Lib.itoa ((yp : Nat) : Int))⟩), (.string ⟨List.toArray (A ++ [111, 112, 101, 110, 32] ++ Lib.itoa ((yp : Nat) : Int))⟩), (.string ⟨List.toArray (A ++ [111, 112, 101, 110, 32] ++ Lib.itoa ((yp : Nat) : Int) ++ [32])⟩), (.pointer (some ⟨z, 2, none⟩)), (.pointer (some ⟨z, 3, none⟩)), (.int .i64 ((yv : Nat) : Int)), (.string ⟨List.toArray (Lib.itoa ((yv : Nat) : Int))⟩), (.string ⟨List.toArray (A ++ [111, 112, 101, 110, 32] ++ Lib.itoa ((yp : Nat) : Int) ++ [32] ++ Lib.itoa ((yv : Nat) : Int))⟩), (.string ⟨List.toArray (A ++ [111, 112, 101, 110, 32] ++ Lib.itoa ((yp : Nat) : Int) ++ [32] ++ Lib.itoa ((yv : Nat) : Int) ++ [32])⟩), (.pointer (some ⟨z, 2, none⟩)), (.pointer (some ⟨z, 4, none⟩)), (.string ⟨List.toArray (ys)⟩), (.string ⟨List.toArray (A ++ [111, 112, 101, 110, 32] ++ Lib.itoa ((yp : Nat) : Int) ++ [32] ++ Lib.itoa ((yv : Nat) : Int) ++ [32] ++ ys)⟩), (.string ⟨List.toArray (A ++ [111, 112, 101, 110, 32] ++ Lib.itoa ((yp : Nat) : Int) ++ [32] ++ Lib.itoa ((yv : Nat) : Int) ++ [32] ++ ys ++ [10])⟩)]) 10 _ _) : a'.eval (.tmp 58) = (.int .i64 ((yv : Nat) : Int))) (by go_simp)) ((HDG.out yv (by omega) w').mono fun e w'' ⟨h1, h2⟩ => ⟨_, h1, hK _ w'' h2 rfl (fun b h => h.elim)⟩))
            · obtain rfl := Option.some.inj hoj
              exact gG_none rfl (wpO_val _ (exec_catL rfl ((hdep ⟨7, .data⟩ (by simp) rfl : (KV [(.string ⟨List.toArray (A)⟩), (.string ⟨List.toArray (A ++ [111, 112, 101, 110, 32])⟩), (.pointer (some ⟨z, 2, none⟩)), (.pointer (some ⟨z, 2, none⟩)), (.int .i64 ((yp : Nat) : Int)), (.string ⟨List.toArray (Lib.itoa ((yp : Nat) : Int))⟩), (.string ⟨List.toArray (A ++ [111, 112, 101, 110, 32] ++ Lib.itoa ((yp : Nat) : Int))⟩), (.string ⟨List.toArray (A ++ [111, 112, 101, 110, 32] ++ Lib.itoa ((yp : Nat) : Int) ++ [32])⟩), (.pointer (some ⟨z, 2, none⟩)), (.pointer (some ⟨z, 3, none⟩)), (.int .i64 ((yv : Nat) : Int)), (.string ⟨List.toArray (Lib.itoa ((yv : Nat) : Int))⟩), (.string ⟨List.toArray (A ++ [111, 112, 101, 110, 32] ++ Lib.itoa ((yp : Nat) : Int) ++ [32] ++ Lib.itoa ((yv : Nat) : Int))⟩), (.string ⟨List.toArray (A ++ [111, 112, 101, 110, 32] ++ Lib.itoa ((yp : Nat) : Int) ++ [32] ++ Lib.itoa ((yv : Nat) : Int) ++ [32])⟩), (.pointer (some ⟨z, 2, none⟩)), (.pointer (some ⟨z, 4, none⟩)), (.string ⟨List.toArray (ys)⟩), (.string ⟨List.toArray (A ++ [111, 112, 101, 110, 32] ++ Lib.itoa ((yp : Nat) : Int) ++ [32] ++ Lib.itoa ((yv : Nat) : Int) ++ [32] ++ ys)⟩), (.string ⟨List.toArray (A ++ [111, 112, 101, 110, 32] ++ Lib.itoa ((yp : Nat) : Int) ++ [32] ++ Lib.itoa ((yv : Nat) : Int) ++ [32] ++ ys ++ [10])⟩)]) 7 _ _) : a'.eval (.tmp 55) = (.string ⟨List.toArray (A ++ [111, 112, 101, 110, 32] ++ Lib.itoa ((yp : Nat) : Int) ++ [32])⟩)) ((hdep ⟨11, .data⟩ (by simp) rfl : (KV [(.string ⟨List.toArray (A)⟩), (.string ⟨List.toArray (A ++ [111, 112, 101, 110, 32])⟩), (.pointer (some ⟨z, 2, none⟩)), (.pointer (some ⟨z, 2, none⟩)), (.int .i64 ((yp : Nat) : Int)), (.string ⟨List.toArray (Lib.itoa ((yp : Nat) : Int))⟩), (.string ⟨List.toArray (A ++ [111, 112, 101, 110, 32] ++ Lib.itoa ((yp : Nat) : Int))⟩), (.string ⟨List.toArray (A ++ [111, 112, 101, 110, 32] ++ Lib.itoa ((yp : Nat) : Int) ++ [32])⟩), (.pointer (some ⟨z, 2, none⟩)), (.pointer (some ⟨z, 3, none⟩)), (.int .i64 ((yv : Nat) : Int)), (.string ⟨List.toArray (Lib.itoa ((yv : Nat) : Int))⟩), (.string ⟨List.toArray (A ++ [111, 112, 101, 110, 32] ++ Lib.itoa ((yp : Nat) : Int) ++ [32] ++ Lib.itoa ((yv : Nat) : Int))⟩), (.string ⟨List.toArray (A ++ [111, 112, 101, 110, 32] ++ Lib.itoa ((yp : Nat) : Int) ++ [32] ++ Lib.itoa ((yv : Nat) : Int) ++ [32])⟩), (.pointer (some ⟨z, 2, none⟩)), (.pointer (some ⟨z, 4, none⟩)), (.string ⟨List.toArray (ys)⟩), (.string ⟨List.toArray (A ++ [111, 112, 101, 110, 32] ++ Lib.itoa ((yp : Nat) : Int) ++ [32] ++ Lib.itoa ((yv : Nat) : Int) ++ [32] ++ ys)⟩), (.string ⟨List.toArray (A ++ [111, 112, 101, 110, 32] ++ Lib.itoa ((yp : Nat) : Int) ++ [32] ++ Lib.itoa ((yv : Nat) : Int) ++ [32] ++ ys ++ [10])⟩)]) 11 _ _) : a'.eval (.tmp 59) = (.string ⟨List.toArray (Lib.itoa ((yv : Nat) : Int))⟩)) (by simp; omega)) (hK _ _ (Below.refl _ _) rfl (fun b h => h.elim)))
            · obtain rfl := Option.some.inj hoj
              exact gG_none rfl (wpO_val _ (exec_catL rfl ((hdep ⟨12, .data⟩ (by simp) rfl : (KV [(.string ⟨List.toArray (A)⟩), (.string ⟨List.toArray (A ++ [111, 112, 101, 110, 32])⟩), (.pointer (some ⟨z, 2, none⟩)), (.pointer (some ⟨z, 2, none⟩)), (.int .i64 ((yp : Nat) : Int)), (.string ⟨List.toArray (Lib.itoa ((yp : Nat) : Int))⟩), (.string ⟨List.toArray (A ++ [111, 112, 101, 110, 32] ++ Lib.itoa ((yp : Nat) : Int))⟩), (.string ⟨List.toArray (A ++ [111, 112, 101, 110, 32] ++ Lib.itoa ((yp : Nat) : Int) ++ [32])⟩), (.pointer (some ⟨z, 2, none⟩)), (.pointer (some ⟨z, 3, none⟩)), (.int .i64 ((yv : Nat) : Int)), (.string ⟨List.toArray (Lib.itoa ((yv : Nat) : Int))⟩), (.string ⟨List.toArray (A ++ [111, 112, 101, 110, 32] ++ Lib.itoa ((yp : Nat) : Int) ++ [32] ++ Lib.itoa ((yv : Nat) : Int))⟩), (.string ⟨List.toArray (A ++ [111, 112, 101, 110, 32] ++ Lib.itoa ((yp : Nat) : Int) ++ [32] ++ Lib.itoa ((yv : Nat) : Int) ++ [32])⟩), (.pointer (some ⟨z, 2, none⟩)), (.pointer (some ⟨z, 4, none⟩)), (.string ⟨List.toArray (ys)⟩), (.string ⟨List.toArray (A ++ [111, 112, 101, 110, 32] ++ Lib.itoa ((yp : Nat) : Int) ++ [32] ++ Lib.itoa ((yv : Nat) : Int) ++ [32] ++ ys)⟩), (.string ⟨List.toArray (A ++ [111, 112, 101, 110, 32] ++ Lib.itoa ((yp : Nat) : Int) ++ [32] ++ Lib.itoa ((yv : Nat) : Int) ++ [32] ++ ys ++ [10])⟩)]) 12 _ _) : a'.eval (.tmp 60) = (.string ⟨List.toArray (A ++ [111, 112, 101, 110, 32] ++ Lib.itoa ((yp : Nat) : Int) ++ [32] ++ Lib.itoa ((yv : Nat) : Int))⟩)) rfl (by simp; omega)) (hK _ _ (Below.refl _ _) rfl (fun b h => h.elim)))
            · obtain rfl := Option.some.inj hoj
              exact gG_none rfl (wpO_val _ (exec_fldL 2 rfl ((he 5 (by decide)).trans rfl : a'.eval (.tmp 5) = (.pointer (some ⟨z, 0, none⟩))) (by simp)) (hK _ _ (Below.refl _ _) rfl (fun b h => h.elim)))
            · obtain rfl := Option.some.inj hoj
              exact gG_none rfl (wpO_val _ (exec_fldB1A 2 rfl ((hdep ⟨14, .data⟩ (by simp) rfl : (KV [(.string ⟨List.toArray (A)⟩), (.string ⟨List.toArray (A ++ [111, 112, 101, 110, 32])⟩), (.pointer (some ⟨z, 2, none⟩)), (.pointer (some ⟨z, 2, none⟩)), (.int .i64 ((yp : Nat) : Int)), (.string ⟨List.toArray (Lib.itoa ((yp : Nat) : Int))⟩), (.string ⟨List.toArray (A ++ [111, 112, 101, 110, 32] ++ Lib.itoa ((yp : Nat) : Int))⟩), (.string ⟨List.toArray (A ++ [111, 112, 101, 110, 32] ++ Lib.itoa ((yp : Nat) : Int) ++ [32])⟩), (.pointer (some ⟨z, 2, none⟩)), (.pointer (some ⟨z, 3, none⟩)), (.int .i64 ((yv : Nat) : Int)), (.string ⟨List.toArray (Lib.itoa ((yv : Nat) : Int))⟩), (.string ⟨List.toArray (A ++ [111, 112, 101, 110, 32] ++ Lib.itoa ((yp : Nat) : Int) ++ [32] ++ Lib.itoa ((yv : Nat) : Int))⟩), (.string ⟨List.toArray (A ++ [111, 112, 101, 110, 32] ++ Lib.itoa ((yp : Nat) : Int) ++ [32] ++ Lib.itoa ((yv : Nat) : Int) ++ [32])⟩), (.pointer (some ⟨z, 2, none⟩)), (.pointer (some ⟨z, 4, none⟩)), (.string ⟨List.toArray (ys)⟩), (.string ⟨List.toArray (A ++ [111, 112, 101, 110, 32] ++ Lib.itoa ((yp : Nat) : Int) ++ [32] ++ Lib.itoa ((yv : Nat) : Int) ++ [32] ++ ys)⟩), (.string ⟨List.toArray (A ++ [111, 112, 101, 110, 32] ++ Lib.itoa ((yp : Nat) : Int) ++ [32] ++ Lib.itoa ((yv : Nat) : Int) ++ [32] ++ ys ++ [10])⟩)]) 14 _ _) : a'.eval (.tmp 62) = (.pointer (some ⟨z, 2, none⟩))) (by simp)) (hK _ _ (Below.refl _ _) rfl (fun b h => h.elim)))
            · obtain rfl := Option.some.inj hoj
              exact gG_none rfl (wpO_val _ (exec_ldstrB rfl ((hdep ⟨15, .data⟩ (by simp) rfl : (KV [(.string ⟨List.toArray (A)⟩), (.string ⟨List.toArray (A ++ [111, 112, 101, 110, 32])⟩), (.pointer (some ⟨z, 2, none⟩)), (.pointer (some ⟨z, 2, none⟩)), (.int .i64 ((yp : Nat) : Int)), (.string ⟨List.toArray (Lib.itoa ((yp : Nat) : Int))⟩), (.string ⟨List.toArray (A ++ [111, 112, 101, 110, 32] ++ Lib.itoa ((yp : Nat) : Int))⟩), (.string ⟨List.toArray (A ++ [111, 112, 101, 110, 32] ++ Lib.itoa ((yp : Nat) : Int) ++ [32])⟩), (.pointer (some ⟨z, 2, none⟩)), (.pointer (some ⟨z, 3, none⟩)), (.int .i64 ((yv : Nat) : Int)), (.string ⟨List.toArray (Lib.itoa ((yv : Nat) : Int))⟩), (.string ⟨List.toArray (A ++ [111, 112, 101, 110, 32] ++ Lib.itoa ((yp : Nat) : Int) ++ [32] ++ Lib.itoa ((yv : Nat) : Int))⟩), (.string ⟨List.toArray (A ++ [111, 112, 101, 110, 32] ++ Lib.itoa ((yp : Nat) : Int) ++ [32] ++ Lib.itoa ((yv : Nat) : Int) ++ [32])⟩), (.pointer (some ⟨z, 2, none⟩)), (.pointer (some ⟨z, 4, none⟩)), (.string ⟨List.toArray (ys)⟩), (.string ⟨List.toArray (A ++ [111, 112, 101, 110, 32] ++ Lib.itoa ((yp : Nat) : Int) ++ [32] ++ Lib.itoa ((yv : Nat) : Int) ++ [32] ++ ys)⟩), (.string ⟨List.toArray (A ++ [111, 112, 101, 110, 32] ++ Lib.itoa ((yp : Nat) : Int) ++ [32] ++ Lib.itoa ((yv : Nat) : Int) ++ [32] ++ ys ++ [10])⟩)]) 15 _ _) : a'.eval (.tmp 63) = (.pointer (some ⟨z, 4, none⟩))) (cell_of_row _ _ 4 _ _ _ c0)) (hK _ _ (Below.refl _ _) rfl (fun b h => h.elim)))
            · obtain rfl := Option.some.inj hoj
              exact gG_none rfl (wpO_val _ (exec_catL rfl ((hdep ⟨13, .data⟩ (by simp) rfl : (KV [(.string ⟨List.toArray (A)⟩), (.string ⟨List.toArray (A ++ [111, 112, 101, 110, 32])⟩), (.pointer (some ⟨z, 2, none⟩)), (.pointer (some ⟨z, 2, none⟩)), (.int .i64 ((yp : Nat) : Int)), (.string ⟨List.toArray (Lib.itoa ((yp : Nat) : Int))⟩), (.string ⟨List.toArray (A ++ [111, 112, 101, 110, 32] ++ Lib.itoa ((yp : Nat) : Int))⟩), (.string ⟨List.toArray (A ++ [111, 112, 101, 110, 32] ++ Lib.itoa ((yp : Nat) : Int) ++ [32])⟩), (.pointer (some ⟨z, 2, none⟩)), (.pointer (some ⟨z, 3, none⟩)), (.int .i64 ((yv : Nat) : Int)), (.string ⟨List.toArray (Lib.itoa ((yv : Nat) : Int))⟩), (.string ⟨List.toArray (A ++ [111, 112, 101, 110, 32] ++ Lib.itoa ((yp : Nat) : Int) ++ [32] ++ Lib.itoa ((yv : Nat) : Int))⟩), (.string ⟨List.toArray (A ++ [111, 112, 101, 110, 32] ++ Lib.itoa ((yp : Nat) : Int) ++ [32] ++ Lib.itoa ((yv : Nat) : Int) ++ [32])⟩), (.pointer (some ⟨z, 2, none⟩)), (.pointer (some ⟨z, 4, none⟩)), (.string ⟨List.toArray (ys)⟩), (.string ⟨List.toArray (A ++ [111, 112, 101, 110, 32] ++ Lib.itoa ((yp : Nat) : Int) ++ [32] ++ Lib.itoa ((yv : Nat) : Int) ++ [32] ++ ys)⟩), (.string ⟨List.toArray (A ++ [111, 112, 101, 110, 32] ++ Lib.itoa ((yp : Nat) : Int) ++ [32] ++ Lib.itoa ((yv : Nat) : Int) ++ [32] ++ ys ++ [10])⟩)]) 13 _ _) : a'.eval (.tmp 61) = (.string ⟨List.toArray (A ++ [111, 112, 101, 110, 32] ++ Lib.itoa ((yp : Nat) : Int) ++ [32] ++ Lib.itoa ((yv : Nat) : Int) ++ [32])⟩)) ((hdep ⟨16, .data⟩ (by simp) rfl : (KV [(.string ⟨List.toArray (A)⟩), (.string ⟨List.toArray (A ++ [111, 112, 101, 110, 32])⟩), (.pointer (some ⟨z, 2, none⟩)), (.pointer (some ⟨z, 2, none⟩)), (.int .i64 ((yp : Nat) : Int)), (.string ⟨List.toArray (Lib.itoa ((yp : Nat) : Int))⟩), (.string ⟨List.toArray (A ++ [111, 112, 101, 110, 32] ++ Lib.itoa ((yp : Nat) : Int))⟩), (.string ⟨List.toArray (A ++ [111, 112, 101, 110, 32] ++ Lib.itoa ((yp : Nat) : Int) ++ [32])⟩), (.pointer (some ⟨z, 2, none⟩)), (.pointer (some ⟨z, 3, none⟩)), (.int .i64 ((yv : Nat) : Int)), (.string ⟨List.toArray (Lib.itoa ((yv : Nat) : Int))⟩), (.string ⟨List.toArray (A ++ [111, 112, 101, 110, 32] ++ Lib.itoa ((yp : Nat) : Int) ++ [32] ++ Lib.itoa ((yv : Nat) : Int))⟩), (.string ⟨List.toArray (A ++ [111, 112, 101, 110, 32] ++ Lib.itoa ((yp : Nat) : Int) ++ [32] ++ Lib.itoa ((yv : Nat) : Int) ++ [32])⟩), (.pointer (some ⟨z, 2, none⟩)), (.pointer (some ⟨z, 4, none⟩)), (.string ⟨List.toArray (ys)⟩), (.string ⟨List.toArray (A ++ [111, 112, 101, 110, 32] ++ Lib.itoa ((yp : Nat) : Int) ++ [32] ++ Lib.itoa ((yv : Nat) : Int) ++ [32] ++ ys)⟩), (.string ⟨List.toArray (A ++ [111, 112, 101, 110, 32] ++ Lib.itoa ((yp : Nat) : Int) ++ [32] ++ Lib.itoa ((yv : Nat) : Int) ++ [32] ++ ys ++ [10])⟩)]) 16 _ _) : a'.eval (.tmp 64) = (.string ⟨List.toArray (ys)⟩)) (by simp; omega)) (hK _ _ (Below.refl _ _) rfl (fun b h => h.elim)))
            · obtain rfl := Option.some.inj hoj
              exact gG_none rfl (wpO_val _ (exec_catL rfl ((hdep ⟨17, .data⟩ (by simp) rfl : (KV [(.string ⟨List.toArray (A)⟩), (.string ⟨List.toArray (A ++ [111, 112, 101, 110, 32])⟩), (.pointer (some ⟨z, 2, none⟩)), (.pointer (some ⟨z, 2, none⟩)), (.int .i64 ((yp : Nat) : Int)), (.string ⟨List.toArray (Lib.itoa ((yp : Nat) : Int))⟩), (.string ⟨List.toArray (A ++ [111, 112, 101, 110, 32] ++ Lib.itoa ((yp : Nat) : Int))⟩), (.string ⟨List.toArray (A ++ [111, 112, 101, 110, 32] ++ Lib.itoa ((yp : Nat) : Int) ++ [32])⟩), (.pointer (some ⟨z, 2, none⟩)), (.pointer (some ⟨z, 3, none⟩)), (.int .i64 ((yv : Nat) : Int)), (.string ⟨List.toArray (Lib.itoa ((yv : Nat) : Int))⟩), (.string ⟨List.toArray (A ++ [111, 112, 101, 110, 32] ++ Lib.itoa ((yp : Nat) : Int) ++ [32] ++ Lib.itoa ((yv : Nat) : Int))⟩), (.string ⟨List.toArray (A ++ [111, 112, 101, 110, 32] ++ Lib.itoa ((yp : Nat) : Int) ++ [32] ++ Lib.itoa ((yv : Nat) : Int) ++ [32])⟩), (.pointer (some ⟨z, 2, none⟩)), (.pointer (some ⟨z, 4, none⟩)), (.string ⟨List.toArray (ys)⟩), (.string ⟨List.toArray (A ++ [111, 112, 101, 110, 32] ++ Lib.itoa ((yp : Nat) : Int) ++ [32] ++ Lib.itoa ((yv : Nat) : Int) ++ [32] ++ ys)⟩), (.string ⟨List.toArray (A ++ [111, 112, 101, 110, 32] ++ Lib.itoa ((yp : Nat) : Int) ++ [32] ++ Lib.itoa ((yv : Nat) : Int) ++ [32] ++ ys ++ [10])⟩)]) 17 _ _) : a'.eval (.tmp 65) = (.string ⟨List.toArray (A ++ [111, 112, 101, 110, 32] ++ Lib.itoa ((yp : Nat) : Int) ++ [32] ++ Lib.itoa ((yv : Nat) : Int) ++ [32] ++ ys)⟩)) rfl (by simp; omega)) (hK _ _ (Below.refl _ _) rfl (fun b h => h.elim)))
          intro vq w6 hb6 hD _ _
          have hv0 : vq 0 = (.string ⟨List.toArray (A)⟩) := hD 0 (by omega)
          have hv1 : vq 1 = (.string ⟨List.toArray (A ++ [111, 112, 101, 110, 32])⟩) := hD 1 (by omega)
          have hv2 : vq 2 = (.pointer (some ⟨z, 2, none⟩)) := hD 2 (by omega)
          have hv3 : vq 3 = (.pointer (some ⟨z, 2, none⟩)) := hD 3 (by omega)
          have hv4 : vq 4 = (.int .i64 ((yp : Nat) : Int)) := hD 4 (by omega)
          have hv5 : vq 5 = (.string ⟨List.toArray (Lib.itoa ((yp : Nat) : Int))⟩) := hD 5 (by omega)
          have hv6 : vq 6 = (.string ⟨List.toArray (A ++ [111, 112, 101, 110, 32] ++ Lib.itoa ((yp : Nat) : Int))⟩) := hD 6 (by omega)
          have hv7 : vq 7 = (.string ⟨List.toArray (A ++ [111, 112, 101, 110, 32] ++ Lib.itoa ((yp : Nat) : Int) ++ [32])⟩) := hD 7 (by omega)
          have hv8 : vq 8 = (.pointer (some ⟨z, 2, none⟩)) := hD 8 (by omega)
          have hv9 : vq 9 = (.pointer (some ⟨z, 3, none⟩)) := hD 9 (by omega)
          have hv10 : vq 10 = (.int .i64 ((yv : Nat) : Int)) := hD 10 (by omega)
          have hv11 : vq 11 = (.string ⟨List.toArray (Lib.itoa ((yv : Nat) : Int))⟩) := hD 11 (by omega)
          have hv12 : vq 12 = (.string ⟨List.toArray (A ++ [111, 112, 101, 110, 32] ++ Lib.itoa ((yp : Nat) : Int) ++ [32] ++ Lib.itoa ((yv : Nat) : Int))⟩) := hD 12 (by omega)
          have hv13 : vq 13 = (.string ⟨List.toArray (A ++ [111, 112, 101, 110, 32] ++ Lib.itoa ((yp : Nat) : Int) ++ [32] ++ Lib.itoa ((yv : Nat) : Int) ++ [32])⟩) := hD 13 (by omega)
          have hv14 : vq 14 = (.pointer (some ⟨z, 2, none⟩)) := hD 14 (by omega)
          have hv15 : vq 15 = (.pointer (some ⟨z, 4, none⟩)) := hD 15 (by omega)
          have hv16 : vq 16 = (.string ⟨List.toArray (ys)⟩) := hD 16 (by omega)
          have hv17 : vq 17 = (.string ⟨List.toArray (A ++ [111, 112, 101, 110, 32] ++ Lib.itoa ((yp : Nat) : Int) ++ [32] ++ Lib.itoa ((yv : Nat) : Int) ++ [32] ++ ys)⟩) := hD 17 (by omega)
          have hv18 : vq 18 = (.string ⟨List.toArray (A ++ [111, 112, 101, 110, 32] ++ Lib.itoa ((yp : Nat) : Int) ++ [32] ++ Lib.itoa ((yv : Nat) : Int) ++ [32] ++ ys ++ [10])⟩) := hD 18 (by omega)
          simp only [puts, Act.put, List.setIfInBounds_toArray, List.set_cons_zero, List.set_cons_succ, hv0, hv1, hv2, hv3, hv4, hv5, hv6, hv7, hv8, hv9, hv10, hv11, hv12, hv13, hv14, hv15, hv16, hv17, hv18, List.drop_succ_cons, List.drop_zero, Nat.zero_add, Nat.reduceAdd]
          have HB6 := hid (HZ.out.2.trans (hb6.mono (Nat.le_trans hgW0 HZ.out.2.size)))
          clear hD hb6 hv0 hv1 hv2 hv3 hv4 hv5 hv6 hv7 hv8 hv9 hv10 hv11 hv12 hv13 hv14 hv15 hv16 hv17 hv18
          go_wp2_with fail
          go_roundw
          case rel => exact ⟨i1, by have := HI.out; omega, rfl, by rw [HST.out], HB6.out⟩
          case measure => have := HI.out; simp only [intOf, Int.toNat_natCast]; omega
        · have e3 : (xk == 2) = false := by simp [h2]
          have e3' : decide (xk = 2) = false := decide_eq_false h2
          have hst := HST0.out
          rw [show txtL ⟨xk, xh, xp, xv, xs⟩ = [99, 108, 111, 115, 101, 10] by rw [txtL, if_neg h1, if_neg h2]; rfl] at hst
          have HST := hid hst
          have hcat : (⟨A.toArray⟩ : ByteArray) ++ ⟨#[99, 108, 111, 115, 101, 10]⟩ = ⟨(A ++ [99, 108, 111, 115, 101, 10]).toArray⟩ := by
            apply ByteArray.ext
            simp [ByteArray.data_append]
          have hcs : ¬ 9223372036854775807 < (⟨A.toArray⟩ : ByteArray).size + 6 := by
            show ¬ 9223372036854775807 < A.toArray.size + 6
            simp
            omega
          clear hst HST0 h1 h2 ok1 ok2
          go_wp2_with (refine wpList_value rfl (by intro c hc; cases hc) (.string ⟨(A ++ [99, 108, 111, 115, 101, 10]).toArray⟩) (exec_catL rfl rfl rfl (by simp; omega)) ?_)
          go_roundw
          case rel => exact ⟨i1, by have := HI.out; omega, rfl, by rw [HST.out], HZ.out.2⟩
          case measure => have := HI.out; simp only [intOf, Int.toNat_natCast]; omega
    · obtain rfl : i = m := by omega
      have hin : ¬ ((i : Nat) : Int) < ((i : Nat) : Int) := by omega
      have hfin : (⟨(A0 ++ (ls.take i).flatMap txtL).toArray⟩ : ByteArray) = rr := by
        rw [List.take_of_length_le (by rw [HM.out]; exact Nat.le_refl _), ← HRR.out, writeL, HA0.out]
      rw [hfin]
      clear hfin
      go_wp2_with fail
      go_ret
      exact ⟨rfl, HG.out ▸ HX.out.2.trans (HB.out.mono (Nat.le_succ g))⟩
end Go.Proofs.YtbcileppebpamaaGreatDoor
