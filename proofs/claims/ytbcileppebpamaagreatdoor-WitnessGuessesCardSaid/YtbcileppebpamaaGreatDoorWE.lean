/- Walks of package witness: Hash, seal, Seal. -/
import Derived.Test.YtbcileppebpamaaGreatDoorGV
import Derived.Lib.ItoaLen
import Derived.Lib.AppendIntMem
set_option linter.unusedSimpArgs false
set_option linter.unusedVariables false
namespace Go.Proofs.YtbcileppebpamaaGreatDoor
open Go Go.RowKit Go.Shelf
set_option maxRecDepth 100000

theorem h0_lt : h0N < 18446744073709551616 := by decide
set_option maxHeartbeats 1000000 in
theorem Hash_c (s : ByteArray) (hs : s.size ≤ 1000000) (w : World) (L : LaidW w) :
    Calls Tryz.prog 29 #[.string s] w fun e w' => e = .returned (.tuple (if s.size ≤ 1000 then #[.string ⟨(hashL s.data.toList).toArray⟩, .int .i64 0] else #[.string ⟨#[]⟩, .int .i64 5])) ∧ Below w.heap.size w w' := by
  by_cases h : s.size ≤ 1000
  · rw [if_pos h]
    have HW := hid (with_c h0N h0_lt s hs w)
    have HS := hid (fun W (hb : Below w.heap.size w W) => String_c (hashN h0N s.data.toList) (hashN_lt _ _ h0_lt) W (L.below hb))
    unfold hashL
    generalize hashN h0N s.data.toList = x at HW HS ⊢
    have hn : decide ((1000 : Int) < ((s.size : Nat) : Int)) = false := decide_eq_false (by omega)
    have hn' : ¬ (1000 : Int) < ((s.size : Nat) : Int) := by omega
    clear L
    go_enter Tryz.func29, Tryz.ntmps29
    go_wp2_with (first
      | (go_at_call 67; refine HW.out.mono ?_; rintro e w1 ⟨rfl, hb1⟩)
      | (go_at_call 61; refine (HS.out w1 hb1).mono ?_; rintro e w2 ⟨rfl, hb2⟩))
    go_ret2
    exact ⟨rfl, hb1.trans (hb2.mono hb1.size)⟩
  · rw [if_neg h]
    have hn : decide ((1000 : Int) < ((s.size : Nat) : Int)) = true := decide_eq_true (by omega)
    have hn' : (1000 : Int) < ((s.size : Nat) : Int) := by omega
    clear L
    go_enter Tryz.func29, Tryz.ntmps29
    go_wp2_with fail
    go_ret2
    exact ⟨rfl, Below.refl _ _⟩
theorem number_c (n : Int) (h0 : -9223372036854775808 ≤ n) (h1 : n ≤ 9223372036854775807) (w : World) (L : LaidW w) :
    Calls Tryz.prog 52 #[.int .i64 n] w fun e w' => e = .returned (.string ⟨(Lib.itoa n).toArray⟩) ∧ Below w.heap.size w w' := by
  have HI := hid (strconv_Itoa n h0 h1 w L.pow)
  clear L
  go_enter Tryz.func52, Tryz.ntmps52
  go_wp2_with (go_at_call 79; refine HI.out.mono ?_; rintro e w1 ⟨rfl, k, os, rfl⟩)
  go_ret
  exact ⟨rfl, Lib.below_grow _ w (Nat.le_refl _) k os⟩
/-- The text of a box. -/
def boxL (p v : Int) (s : List UInt8) : List UInt8 := Lib.itoa p ++ ([58] ++ (Lib.itoa v ++ ([58] ++ s)))
def sealN (p v : Int) (s : List UInt8) : Nat := hashN h0N (boxL p v s)
theorem exec_fldB {ev : Operand → Value} {o : Oper} {x : Operand} {b k : Nat} {W : World} (ho : o.op = .fieldAddr 27 x k) (hx : ev x = .pointer (some ⟨b, 0, none⟩)) (hk : k = 0 ∨ k = 1 ∨ k = 2) : (execOp ev o).run Tryz.prog W = .ok (.value (.pointer (some ⟨b, k, none⟩))) W := by
  rcases hk with rfl | rfl | rfl <;> simp [execOp, ho, hx] <;> go_simp
theorem exec_fldB0 {ev : Operand → Value} {o : Oper} {x : Operand} {b : Nat} {W : World} (ho : o.op = .fieldAddr 27 x 0) (hx : ev x = .pointer (some ⟨b, 0, none⟩)) : (execOp ev o).run Tryz.prog W = .ok (.value (.pointer (some ⟨b, 0, none⟩))) W := exec_fldB ho hx (by simp)
theorem exec_fldB1 {ev : Operand → Value} {o : Oper} {x : Operand} {b : Nat} {W : World} (ho : o.op = .fieldAddr 27 x 1) (hx : ev x = .pointer (some ⟨b, 0, none⟩)) : (execOp ev o).run Tryz.prog W = .ok (.value (.pointer (some ⟨b, 1, none⟩))) W := exec_fldB ho hx (by simp)
theorem exec_fldB2 {ev : Operand → Value} {o : Oper} {x : Operand} {b : Nat} {W : World} (ho : o.op = .fieldAddr 27 x 2) (hx : ev x = .pointer (some ⟨b, 0, none⟩)) : (execOp ev o).run Tryz.prog W = .ok (.value (.pointer (some ⟨b, 2, none⟩))) W := exec_fldB ho hx (by simp)
theorem exec_ldcellB {ev : Operand → Value} {o : Oper} {x : Operand} {p : Addr} {W : World} {v : Value} (ho : o.op = .load 3 x) (hx : ev x = .pointer (some p)) (hg : W.cell? p = some v) : (execOp ev o).run Tryz.prog W = .ok (.value v) W := by
  simp [execOp, ho, hx]
  go_simp
theorem exec_ldstrB {ev : Operand → Value} {o : Oper} {x : Operand} {p : Addr} {W : World} {v : Value} (ho : o.op = .load 9 x) (hx : ev x = .pointer (some p)) (hg : W.cell? p = some v) : (execOp ev o).run Tryz.prog W = .ok (.value v) W := by
  simp [execOp, ho, hx]
  go_simp
set_option maxHeartbeats 2000000 in
theorem seal_c (p v : Int) (hp : -9223372036854775808 ≤ p ∧ p ≤ 9223372036854775807) (hv : -9223372036854775808 ≤ v ∧ v ≤ 9223372036854775807) (s : ByteArray) (hs : s.size ≤ 1000000) (w : World) (L : LaidW w) :
    Calls Tryz.prog 41 #[.agg #[.int .i64 p, .int .i64 v, .string s]] w fun e w' => e = .returned (.int .u64 ((sealN p v s.data.toList : Nat) : Int)) ∧ Below w.heap.size w w' := by
  have hx := heap_alloc_new w (.cells #[.int .i64 p, .int .i64 v, .string s] 27)
  have hb : Below w.heap.size w (w.alloc (.cells #[.int .i64 p, .int .i64 v, .string s] 27)) := (Below.refl _ _).alloc (Nat.le_refl _) _
  have k0 := cell_of_row _ w.heap.size 0 _ _ _ hx
  have k1 := cell_of_row _ w.heap.size 1 _ _ _ hx
  have k2 := cell_of_row _ w.heap.size 2 _ _ _ hx
  have hlt := heap_lt hx
  have hLa := L.below hb
  obtain ⟨x1, hx1⟩ : ∃ x1, hashN h0N (Lib.itoa p) = x1 := ⟨_, rfl⟩
  obtain ⟨x2, hx2⟩ : ∃ x2, hashN x1 [58] = x2 := ⟨_, rfl⟩
  obtain ⟨x3, hx3⟩ : ∃ x3, hashN x2 (Lib.itoa v) = x3 := ⟨_, rfl⟩
  obtain ⟨x4, hx4⟩ : ∃ x4, hashN x3 [58] = x4 := ⟨_, rfl⟩
  obtain ⟨x5, hx5⟩ : ∃ x5, hashN x4 s.data.toList = x5 := ⟨_, rfl⟩
  have l1 : x1 < 18446744073709551616 := hx1 ▸ hashN_lt _ _ h0_lt
  have l2 : x2 < 18446744073709551616 := hx2 ▸ hashN_lt _ _ l1
  have l3 : x3 < 18446744073709551616 := hx3 ▸ hashN_lt _ _ l2
  have l4 : x4 < 18446744073709551616 := hx4 ▸ hashN_lt _ _ l3
  have e5 : sealN p v s.data.toList = x5 := by
    unfold sealN boxL
    rw [hashN_app, hx1, hashN_app, hx2, hashN_app, hx3, hashN_app, hx4, hx5]
  have itl : ∀ n : Int, -9223372036854775808 ≤ n ∧ n ≤ 9223372036854775807 → (⟨(Lib.itoa n).toArray⟩ : ByteArray).size ≤ 1000000 := fun n hn => by
    show (Lib.itoa n).toArray.size ≤ 1000000
    rw [List.size_toArray]
    have := Lib.itoa_length_le n hn.1 hn.2
    omega
  have HC1 := hid (fun W => show Calls Tryz.prog 67 #[.int .u64 14695981039346656037, .string ⟨(Lib.itoa p).toArray⟩] W fun e w' => e = .returned (.int .u64 ((x1 : Nat) : Int)) ∧ Below W.heap.size W w' from hx1 ▸ with_c h0N h0_lt ⟨(Lib.itoa p).toArray⟩ (itl p hp) W)
  have HC2 := hid (fun W => show Calls Tryz.prog 67 #[.int .u64 ((x1 : Nat) : Int), .string ⟨#[58]⟩] W fun e w' => e = .returned (.int .u64 ((x2 : Nat) : Int)) ∧ Below W.heap.size W w' from hx2 ▸ with_c x1 l1 ⟨#[58]⟩ (by decide) W)
  have HC3 := hid (fun W => show Calls Tryz.prog 67 #[.int .u64 ((x2 : Nat) : Int), .string ⟨(Lib.itoa v).toArray⟩] W fun e w' => e = .returned (.int .u64 ((x3 : Nat) : Int)) ∧ Below W.heap.size W w' from hx3 ▸ with_c x2 l2 ⟨(Lib.itoa v).toArray⟩ (itl v hv) W)
  have HC4 := hid (fun W => show Calls Tryz.prog 67 #[.int .u64 ((x3 : Nat) : Int), .string ⟨#[58]⟩] W fun e w' => e = .returned (.int .u64 ((x4 : Nat) : Int)) ∧ Below W.heap.size W w' from hx4 ▸ with_c x3 l3 ⟨#[58]⟩ (by decide) W)
  have HC5 := hid (fun W => show Calls Tryz.prog 67 #[.int .u64 ((x4 : Nat) : Int), .string s] W fun e w' => e = .returned (.int .u64 ((x5 : Nat) : Int)) ∧ Below W.heap.size W w' from hx5 ▸ with_c x4 l4 s hs W)
  rw [e5]
  clear hx1 hx2 hx3 hx4 hx5 e5 l1 l2 l3 l4 itl
  obtain ⟨g, hg⟩ : ∃ g, w.heap.size = g := ⟨_, rfl⟩
  rw [hg] at k0 k1 k2 hb hlt hx
  go_enter Tryz.func41, Tryz.ntmps41
  go_upto_region 1 with fail
  generalize w.alloc (.cells #[.int .i64 p, .int .i64 v, .string s] 27) = wa at k0 k1 k2 hb hlt hLa hx ⊢
  have HN1 := hid (fun W (hW : Below wa.heap.size wa W) => number_c p hp.1 hp.2 W (hLa.below hW))
  have HN2 := hid (fun W (hW : Below wa.heap.size wa W) => number_c v hv.1 hv.2 W (hLa.below hW))
  have hcell0 : ∀ W, Below wa.heap.size wa W → W.cell? ⟨g, 0, none⟩ = some (.int .i64 p) := fun W hW => (hW.cell (p := ⟨g, 0, none⟩) hlt).trans k0
  have hcell1 : ∀ W, Below wa.heap.size wa W → W.cell? ⟨g, 1, none⟩ = some (.int .i64 v) := fun W hW => (hW.cell (p := ⟨g, 1, none⟩) hlt).trans k1
  have hcell2 : ∀ W, Below wa.heap.size wa W → W.cell? ⟨g, 2, none⟩ = some (.string s) := fun W hW => (hW.cell (p := ⟨g, 2, none⟩) hlt).trans k2
  refine grow_vals 13 [3, 4, 5, 6, 7, 8, 9, 10, 11, 12, 13, 14, 15] [(.pointer (some ⟨g, 0, none⟩)), (.int .i64 p), (.string ⟨(Lib.itoa p).toArray⟩), (.int .u64 ((x1 : Nat) : Int)), (.int .u64 ((x2 : Nat) : Int)), (.pointer (some ⟨g, 1, none⟩)), (.int .i64 v), (.string ⟨(Lib.itoa v).toArray⟩), (.int .u64 ((x3 : Nat) : Int)), (.int .u64 ((x4 : Nat) : Int)), (.pointer (some ⟨g, 2, none⟩)), (.string s), (.int .u64 ((x5 : Nat) : Int))] (by kernel_rfl) (by kernel_rfl) ?_ ?_
  · intro jq oj hjq hoj a' w' hb' he hdep Kq hKq
    have hjq' : jq = 0 ∨ jq = 1 ∨ jq = 2 ∨ jq = 3 ∨ jq = 4 ∨ jq = 5 ∨ jq = 6 ∨ jq = 7 ∨ jq = 8 ∨ jq = 9 ∨ jq = 10 ∨ jq = 11 ∨ jq = 12 := by omega
    rcases hjq' with rfl | rfl | rfl | rfl | rfl | rfl | rfl | rfl | rfl | rfl | rfl | rfl | rfl
    · obtain rfl := Option.some.inj hoj
      exact wpO_val _ (exec_fldB0 rfl ((he 1 (by decide)).trans rfl : a'.eval (.tmp 1) = .pointer (some ⟨g, 0, none⟩))) (hKq _ (Below.refl _ _))
    · obtain rfl := Option.some.inj hoj
      exact wpO_val _ (exec_ldcellB rfl (hdep ⟨0, .data⟩ (by simp) rfl : a'.eval (.tmp 3) = (.pointer (some ⟨g, 0, none⟩))) (hcell0 _ hb')) (hKq _ (Below.refl _ _))
    · obtain rfl := Option.some.inj hoj
      exact wpO_call _ _ (exec_call1 rfl rfl (hdep ⟨1, .data⟩ (by simp) rfl : a'.eval (.tmp 4) = (.int .i64 p)) (by go_simp)) ((HN1.out w' hb').mono fun e w'' ⟨h1, h2⟩ => ⟨_, h1, hKq w'' h2⟩)
    · obtain rfl := Option.some.inj hoj
      exact wpO_call _ _ (exec_call2 rfl rfl rfl (hdep ⟨2, .data⟩ (by simp) rfl : a'.eval (.tmp 5) = (.string ⟨(Lib.itoa p).toArray⟩)) (by go_simp)) ((HC1.out w').mono fun e w'' ⟨h1, h2⟩ => ⟨_, h1, hKq w'' h2⟩)
    · obtain rfl := Option.some.inj hoj
      exact wpO_call _ _ (exec_call2 rfl rfl (hdep ⟨3, .data⟩ (by simp) rfl : a'.eval (.tmp 6) = (.int .u64 ((x1 : Nat) : Int))) rfl (by go_simp)) ((HC2.out w').mono fun e w'' ⟨h1, h2⟩ => ⟨_, h1, hKq w'' h2⟩)
    · obtain rfl := Option.some.inj hoj
      exact wpO_val _ (exec_fldB1 rfl ((he 1 (by decide)).trans rfl : a'.eval (.tmp 1) = .pointer (some ⟨g, 0, none⟩))) (hKq _ (Below.refl _ _))
    · obtain rfl := Option.some.inj hoj
      exact wpO_val _ (exec_ldcellB rfl (hdep ⟨5, .data⟩ (by simp) rfl : a'.eval (.tmp 8) = (.pointer (some ⟨g, 1, none⟩))) (hcell1 _ hb')) (hKq _ (Below.refl _ _))
    · obtain rfl := Option.some.inj hoj
      exact wpO_call _ _ (exec_call1 rfl rfl (hdep ⟨6, .data⟩ (by simp) rfl : a'.eval (.tmp 9) = (.int .i64 v)) (by go_simp)) ((HN2.out w' hb').mono fun e w'' ⟨h1, h2⟩ => ⟨_, h1, hKq w'' h2⟩)
    · obtain rfl := Option.some.inj hoj
      exact wpO_call _ _ (exec_call2 rfl rfl (hdep ⟨4, .data⟩ (by simp) rfl : a'.eval (.tmp 7) = (.int .u64 ((x2 : Nat) : Int))) (hdep ⟨7, .data⟩ (by simp) rfl : a'.eval (.tmp 10) = (.string ⟨(Lib.itoa v).toArray⟩)) (by go_simp)) ((HC3.out w').mono fun e w'' ⟨h1, h2⟩ => ⟨_, h1, hKq w'' h2⟩)
    · obtain rfl := Option.some.inj hoj
      exact wpO_call _ _ (exec_call2 rfl rfl (hdep ⟨8, .data⟩ (by simp) rfl : a'.eval (.tmp 11) = (.int .u64 ((x3 : Nat) : Int))) rfl (by go_simp)) ((HC4.out w').mono fun e w'' ⟨h1, h2⟩ => ⟨_, h1, hKq w'' h2⟩)
    · obtain rfl := Option.some.inj hoj
      exact wpO_val _ (exec_fldB2 rfl ((he 1 (by decide)).trans rfl : a'.eval (.tmp 1) = .pointer (some ⟨g, 0, none⟩))) (hKq _ (Below.refl _ _))
    · obtain rfl := Option.some.inj hoj
      exact wpO_val _ (exec_ldstrB rfl (hdep ⟨10, .data⟩ (by simp) rfl : a'.eval (.tmp 13) = (.pointer (some ⟨g, 2, none⟩))) (hcell2 _ hb')) (hKq _ (Below.refl _ _))
    · obtain rfl := Option.some.inj hoj
      exact wpO_call _ _ (exec_call2 rfl rfl (hdep ⟨9, .data⟩ (by simp) rfl : a'.eval (.tmp 12) = (.int .u64 ((x4 : Nat) : Int))) (hdep ⟨11, .data⟩ (by simp) rfl : a'.eval (.tmp 14) = (.string s)) (by go_simp)) ((HC5.out w').mono fun e w'' ⟨h1, h2⟩ => ⟨_, h1, hKq w'' h2⟩)
  · intro w6 hb6
    simp only [puts, Act.put, List.setIfInBounds_toArray, List.set_cons_zero, List.set_cons_succ, List.drop_succ_cons, List.drop_zero, Nat.zero_add, Nat.reduceAdd, List.getD_cons_zero, List.getD_cons_succ]
    go_wp2_with fail
    go_ret
    exact ⟨rfl, by rw [hg]; exact hb.trans (hb6.mono (Nat.le_of_lt hlt))⟩
end Go.Proofs.YtbcileppebpamaaGreatDoor
