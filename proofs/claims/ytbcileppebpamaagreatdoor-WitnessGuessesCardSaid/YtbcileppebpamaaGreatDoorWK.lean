/- Walks of package witness: Seal of a drawing. -/
import Derived.Test.YtbcileppebpamaaGreatDoorWJ
set_option linter.unusedSimpArgs false
set_option linter.unusedVariables false
namespace Go.Proofs.YtbcileppebpamaaGreatDoor
open Go Go.RowKit Go.Shelf
set_option maxRecDepth 100000

theorem exec_fldD {ev : Operand → Value} {o : Oper} {x : Operand} {b : Nat} {W : World} (k : Nat) (ho : o.op = .fieldAddr 100 x k) (hx : ev x = .pointer (some ⟨b, 0, none⟩)) (hk : k = 0 ∨ k = 1 ∨ k = 2 ∨ k = 3 ∨ k = 4 ∨ k = 5) : (execOp ev o).run Tryz.prog W = .ok (.value (.pointer (some ⟨b, k, none⟩))) W := by
  rcases hk with rfl | rfl | rfl | rfl | rfl | rfl <;> simp [execOp, ho, hx] <;> go_simp
theorem exec_fldP {ev : Operand → Value} {o : Oper} {x : Operand} {q a : Nat} {W : World} (k : Nat) (ho : o.op = .fieldAddr 114 x k) (hx : ev x = .pointer (some ⟨q, a, none⟩)) (hk : k = 0 ∨ k = 1 ∨ k = 2 ∨ k = 3 ∨ k = 4) : (execOp ev o).run Tryz.prog W = .ok (.value (.pointer (some ⟨q, a + k, none⟩))) W := by
  rcases hk with rfl | rfl | rfl | rfl | rfl <;> simp [execOp, ho, hx] <;> go_simp
theorem StrRow.setOther {W : World} {B : Nat} {v : Value} {ls : List ByteArray} (h : StrRow W B v ls) {k : Nat} {cs : Array Value} {t : TypeId} (hk : W.heap[k]? = some (.cells cs t (0, 0))) (ht : t ≠ 9) (i : Nat) (u : Value) : StrRow (W.setCell ⟨k, i, none⟩ u) B v ls :=
  h.kept fun j o hj ho => (heap_setCell_other W ⟨k, i, none⟩ j _ fun e => by
    have e' : j = k := e
    subst e'
    obtain ⟨_, cs', hc'⟩ := h.own _ hj
    rw [hk] at hc'
    cases hc'
    exact ht rfl).trans ho
theorem DrawAt.setP {W : World} {B b q : Nat} {D : DS} (h : DrawAt W B b q D) {i a : Nat} {p : PS} (k : Nat) (v : Value) (p' : PS) (hp : D.ps[i]? = some p) (ha : a = 5 * i + k) (hk : k < 5) (he : p'.enc = p.enc.set k v) : DrawAt (W.setCell ⟨q, a, none⟩ v) B b q { D with ps := D.ps.set i p' } := by
  subst ha
  obtain ⟨vl, h1, h2⟩ := h.box
  refine ⟨⟨vl, ?_, h2.setOther h.row (by decide) _ _⟩, ?_⟩
  · rw [show boxV vl q { D with ps := D.ps.set i p' } = boxV vl q D from by simp [boxV]]
    exact (heap_setCell_other W ⟨q, _, none⟩ b _ h.ne).trans h1
  · rw [show encP (D.ps.set i p') = (encP D.ps).setIfInBounds (5 * i + k) v from (encP_set _ _ _ hp _ _ _ hk he).symm]
    exact heap_setCell_same W q _ _ _ _ h.row
theorem DrawAt.setB {W : World} {B b q : Nat} {D : DS} (h : DrawAt W B b q D) (j : Nat) (v : Value) (D' : DS) (hv : ∀ vl, (boxV vl q D).setIfInBounds j v = boxV vl q D') (hl : D'.ls = D.ls) (hp : D'.ps = D.ps) : DrawAt (W.setCell ⟨b, j, none⟩ v) B b q D' := by
  obtain ⟨vl, h1, h2⟩ := h.box
  refine ⟨⟨vl, ?_, ?_⟩, ?_⟩
  · rw [← hv]
    exact heap_setCell_same W b _ _ _ _ h1
  · rw [hl]
    exact h2.setOther h1 (by decide) _ _
  · rw [hp]
    exact (heap_setCell_other W ⟨b, _, none⟩ q _ (fun e => h.ne e.symm)).trans h.row
def DS.line (D : DS) (ws : List ByteArray) : DS := { D with ls := D.ls ++ [⟨(lineL ws).toArray⟩] }
theorem writeD_c {W : World} {B b q : Nat} {D : DS} (h : DrawAt W B b q D) (ws : List ByteArray) (bk c : Nat) (hB : B ≤ W.heap.size) (hwc : ∀ (j : Nat) x, ws[j]? = some x → W.cell? ⟨bk, 0 + j, none⟩ = some (.string x)) (hbk : bk < W.heap.size) (hcap : ws.length ≤ c)
    (hls : D.ls.length < 1000000) (hwl : ws.length < 1000000) (hjl : (lineL ws).length ≤ 1000000000) :
    Calls Tryz.prog 51 #[.pointer (some ⟨b, 0, none⟩), .slice (some ⟨bk, 0, none⟩) ws.length c] W fun e W' => e = .returned (.int .i64 ((D.ls.length + 1 : Nat) : Int)) ∧ DrawAt W' B b q (D.line ws) ∧ OnlyD B b q W W' := by
  obtain ⟨vl, h1, h2⟩ := h.box
  refine (write_c b B _ _ vl D.ls ws bk c W h1 (by decide) rfl h2 hB hwc hbk hcap hls hwl hjl).mono ?_
  rintro e W' ⟨he, ho, vl', h3, h4⟩
  have hown : ∀ k, vl.ownBlock = some k → B ≤ k ∧ ∃ cs, W.heap[k]? = some (.cells cs 9 (0, 0)) := h2.own
  refine ⟨he, ⟨⟨vl', h4, h3⟩, ?_⟩, ⟨ho.os, ho.tape, ho.output, ho.size, fun k o hk hkb hkq hor => ho.block k o hk hkb fun e => ?_⟩⟩
  · refine ho.block q _ h.row (fun e => h.ne e.symm) fun e => ?_
    obtain ⟨_, cs, hc⟩ := hown q e
    rw [h.row] at hc
    exact absurd (Obj.cells.inj (Option.some.inj hc)).2.1 (by decide)
  · obtain ⟨hl, cs, hc⟩ := hown k e
    rw [hk] at hc
    cases hc
    rcases hor with hlt | hns
    · omega
    · simp [isStrs] at hns
/-- The errors, and what is sealed. -/
def wSeal : ByteArray := ⟨#[115, 101, 97, 108]⟩
def sealW (p : Int) (h : ByteArray) : List ByteArray := [wSeal, ⟨(Lib.itoa p).toArray⟩, h]
def DS.sealE (D : DS) (p : Int) (h : ByteArray) : Int :=
  if inR p 1 ((D.ps.length : Nat) : Int) = false then 7 else if isHashL h.data.toList = false then 4 else match D.ps[p.toNat - 1]? with | none => 7 | some x => if 0 < x.s then 6 else 0
def DS.sealT (D : DS) (p : Int) (h : ByteArray) : DS :=
  match D.ps[p.toNat - 1]? with
  | none => D
  | some x => { D with ls := D.ls ++ [⟨(lineL (sealW p h)).toArray⟩], ps := D.ps.set (p.toNat - 1) { x with h := h, s := D.ls.length + 1 }, sl := D.sl + 1 }
def DS.seal (D : DS) (p : Int) (h : ByteArray) : DS := if D.sealE p h = 0 then D.sealT p h else D
def lensW : List ByteArray → Nat
  | [] => 0
  | x :: l => x.size + lensW l
theorem lensW_eq : ∀ (ws : List ByteArray), Lib.lens (ws.map (·.data.toList)) = lensW ws
  | [] => rfl
  | x :: l => by
    rw [List.map_cons, lensW, ← lensW_eq l]
    rfl
theorem line_len (ws : List ByteArray) : (lineL ws).length ≤ lensW ws + ws.length + 1 := by
  have h : (Lib.join (ws.map (·.data.toList)) [32]).length ≤ Lib.lens (ws.map (·.data.toList)) + (ws.map (·.data.toList)).length := by
    cases ws with
    | nil => simp [Lib.join]
    | cons x l => rw [List.map_cons, Lib.join_length, List.length_singleton, List.length_cons]; omega
  rw [lensW_eq] at h
  unfold lineL
  rw [List.length_append, List.length_singleton]
  rw [List.length_map] at h
  omega
set_option maxHeartbeats 4000000 in
theorem SealD_c {W : World} {B b q : Nat} {D : DS} (hd : DrawAt W B b q D) (p : Int) (h : ByteArray) (hB : B ≤ W.heap.size) (hbB : B ≤ b) (hqB : B ≤ q) (hL : ∀ W', Below B W W' → LaidW W') (hn : D.ps.length ≤ 30) (hh : h.size ≤ 1000000) (hls : D.ls.length < 1000000) (hsl : D.sl < 1000000) :
    Calls Tryz.prog 18 #[.pointer (some ⟨b, 0, none⟩), .int .i64 p, .string h] W fun e W' => e = .returned (.int .i64 (D.sealE p h)) ∧ DrawAt W' B b q (D.seal p h) ∧ OnlyD B b q W W' := by
  have HF := hid (find_c B b q D p W hd hn)
  have HI := hid (fun W => isHash_c h hh W)
  have FL := hid trivial
  unfold DS.seal DS.sealE
  cases hp : inR p 1 ((D.ps.length : Nat) : Int) with
  | false =>
    rw [hp, if_neg (by simp)] at HF
    rw [if_pos rfl, if_neg (by decide)]
    have HD := hid hd
    clear hd hp hL
    go_enter Tryz.func18, Tryz.ntmps18
    go_wp2_with (go_at_call 56; refine HF.out.mono ?_; rintro e w1 ⟨rfl, rfl⟩)
    go_ret
    exact ⟨rfl, HD.out, .refl _ _ _ _⟩
  | true =>
    rw [hp, if_pos rfl] at HF
    rw [if_neg (by simp)]
    obtain ⟨h1, h2⟩ := (inR_iff _ _ _).1 hp
    obtain ⟨i, hi⟩ : ∃ i, p.toNat - 1 = i := ⟨_, rfl⟩
    have hpi := hid (show p = ((i + 1 : Nat) : Int) by omega)
    obtain ⟨x, hx⟩ : ∃ x, D.ps[i]? = some x := ⟨_, List.getElem?_eq_getElem (by omega)⟩
    unfold DS.sealT
    rw [hi] at HF ⊢
    rw [hx]
    obtain ⟨a, ha⟩ : ∃ a, 5 * i = a := ⟨_, rfl⟩
    rw [ha] at HF
    cases hhs : isHashL h.data.toList with
    | false =>
      rw [hhs] at HI
      rw [if_pos rfl, if_neg (by decide)]
      have HD := hid hd
      clear hd hp hL hhs h1 h2 hi hx ha
      go_enter Tryz.func18, Tryz.ntmps18
      go_wp2_with (first
        | (go_at_call 56; have hq := FL; clear hq FL; refine HF.out.mono ?_; rintro e w1 ⟨rfl, rfl⟩)
        | (go_at_call 35; refine (HI.out _).mono ?_; rintro e w1 ⟨rfl, hb1⟩))
      go_ret
      exact ⟨rfl, HD.out.below hb1, .below hb1⟩
    | true =>
      rw [hhs] at HI
      rw [if_neg (by simp)]
      have hk2 : ∀ W', Below W.heap.size W W' → W'.cell? ⟨q, a + 2, none⟩ = some (.int .i64 ((x.s : Nat) : Int)) := fun W' hW' => by
        rw [cell_of_row _ _ _ _ _ _ (hd.below hW').row, ← ha, encP_get _ _ _ hx 2 (by omega)]
        rfl
      by_cases hs : 0 < x.s
      · simp only [if_pos hs]
        rw [if_neg (by decide)]
        have d1 : decide ((0 : Int) < ((x.s : Nat) : Int)) = true := decide_eq_true (by omega)
        have HD := hid hd
        clear hd hp hL hhs h1 h2 hi hx ha
        go_enter Tryz.func18, Tryz.ntmps18
        go_wp2_with (first
          | (go_at_call 56; have hq := FL; clear hq FL; refine HF.out.mono ?_; rintro e w1 ⟨rfl, rfl⟩)
          | (go_at_call 35; refine (HI.out _).mono ?_; rintro e w1 ⟨rfl, hb1⟩; have hk := hk2 _ hb1))
        go_ret
        exact ⟨rfl, HD.out.below hb1, .below hb1⟩
      · simp only [if_neg hs]
        rw [if_pos trivial]
        have h16 : h.size = 16 := by
          have : h.data.toList.length = 16 := by
            unfold isHashL at hhs
            rw [Bool.and_eq_true] at hhs
            exact of_decide_eq_true hhs.1
          rw [← this, Array.length_toList]; rfl
        have d1 : decide ((0 : Int) < ((x.s : Nat) : Int)) = false := decide_eq_false (by omega)
        have HD := hid hd
        have HLL := hid hL
        have hxs := hid hx
        have has := hid ha
        have hil : i < 30 := by have := (List.getElem?_eq_some_iff.1 hx).1; omega
        clear hd hp hL hhs h1 h2 hi hx ha
        go_enter Tryz.func18, Tryz.ntmps18
        go_upto_region 4 with (first
          | (go_at_call 56; have hq := FL; clear hq FL; refine HF.out.mono ?_; rintro e w1 ⟨rfl, rfl⟩)
          | (go_at_call 35; refine (HI.out _).mono ?_; rintro e w1 ⟨rfl, hb1⟩; have hk := hk2 _ hb1))
        refine regD (fun _ => True) (fun _ => true) (by kernel_rfl) ?_
        have hS := trivial
        have hb2 : Below W.heap.size W w1.drew := ⟨hb1.os, hb1.tape, hb1.output, hb1.size, hb1.block⟩
        generalize w1.drew = V0 at hb2 ⊢
        refine takeE (i := 0) (.pointer (some ⟨q, a, none⟩)) (d := some 13) rfl (by kernel_rfl) (by kernel_rfl) (by kernel_rfl) (by kernel_rfl) (fun _ _ _ h => h) rfl (fun W hSw => by exact exec_mv rfl rfl) hS rfl ?_
        simp only [Act.put, List.setIfInBounds_toArray, List.set_cons_zero, List.set_cons_succ]
        refine takeE (i := 1) (.pointer (some ⟨q, a, none⟩)) (d := some 14) rfl (by kernel_rfl) (by kernel_rfl) (by kernel_rfl) (by kernel_rfl) (fun _ _ _ h => h) rfl (fun W hSw => by exact exec_mv rfl rfl) hS rfl ?_
        simp only [Act.put, List.setIfInBounds_toArray, List.set_cons_zero, List.set_cons_succ]
        refine takeE (i := 2) (.string h) (d := some 15) rfl (by kernel_rfl) (by kernel_rfl) (by kernel_rfl) (by kernel_rfl) (fun _ _ _ h => h) rfl (fun W hSw => by exact exec_mv rfl rfl) hS rfl ?_
        simp only [Act.put, List.setIfInBounds_toArray, List.set_cons_zero, List.set_cons_succ]
        refine takeE (i := 3) (.pointer (some ⟨b, 0, none⟩)) (d := some 16) rfl (by kernel_rfl) (by kernel_rfl) (by kernel_rfl) (by kernel_rfl) (fun _ _ _ h => h) rfl (fun W hSw => by exact exec_mv rfl rfl) hS rfl ?_
        simp only [Act.put, List.setIfInBounds_toArray, List.set_cons_zero, List.set_cons_succ]
        refine takeE (i := 4) (.pointer (some ⟨b, 0, none⟩)) (d := some 17) rfl (by kernel_rfl) (by kernel_rfl) (by kernel_rfl) (by kernel_rfl) (fun _ _ _ h => h) rfl (fun W hSw => by exact exec_nilP rfl rfl) hS rfl ?_
        simp only [Act.put, List.setIfInBounds_toArray, List.set_cons_zero, List.set_cons_succ]
        refine takeE (i := 5) (.pointer (some ⟨b, 0, none⟩)) (d := some 18) rfl (by kernel_rfl) (by kernel_rfl) (by kernel_rfl) (by kernel_rfl) (fun _ _ _ h => h) rfl (fun W hSw => by exact exec_fldD 0 rfl rfl (by simp)) hS rfl ?_
        simp only [Act.put, List.setIfInBounds_toArray, List.set_cons_zero, List.set_cons_succ]
        refine takeE (i := 6) (.int .i64 p) (d := some 19) rfl (by kernel_rfl) (by kernel_rfl) (by kernel_rfl) (by kernel_rfl) (fun _ _ _ h => h) rfl (fun W hSw => by exact exec_mv rfl rfl) hS rfl ?_
        simp only [Act.put, List.setIfInBounds_toArray, List.set_cons_zero, List.set_cons_succ]
        refine takeE (i := 8) (.string h) (d := some 21) rfl (by kernel_rfl) (by kernel_rfl) (by kernel_rfl) (by kernel_rfl) (fun _ _ _ h => h) rfl (fun W hSw => by exact exec_mv rfl rfl) hS rfl ?_
        simp only [Act.put, List.setIfInBounds_toArray, List.set_cons_zero, List.set_cons_succ]
        refine stepD 7 (by kernel_rfl) rfl rfl (fun K hK => ?_)
        go_simp
        go_at_call 52
        refine (number_c p (by have := hpi.out; omega) (by have := hpi.out; omega) V0 (HLL.out _ (hb2.mono hB))).mono ?_
        rintro e V1 ⟨rfl, hb3⟩
        go_simp
        refine hK _ _ (fun _ => trivial) ?_
        clear hK K
        have hb4 := hb2.trans (hb3.mono hb2.size)
        obtain ⟨z, hz⟩ : ∃ z, z = (⟨(Lib.itoa p).toArray⟩ : ByteArray) := ⟨_, rfl⟩
        have HZ := hid hz
        rw [← hz]
        clear hz
        refine stepD 9 (by kernel_rfl) rfl rfl (fun K hK => ?_)
        go_simp
        refine hK _ _ (fun _ => trivial) ?_
        clear hK K
        have hal : Below V1.heap.size V1 (V1.alloc (.cells #[.string wSeal, .string z, .string h] 9)) := (Below.refl _ _).alloc (Nat.le_refl _) _
        have hb5 := hb4.trans (hal.mono hb4.size)
        have hnew := heap_alloc_new V1 (.cells #[.string wSeal, .string z, .string h] 9)
        have hlt : V1.heap.size < (V1.alloc (.cells #[.string wSeal, .string z, .string h] 9)).heap.size := heap_lt hnew
        obtain ⟨gz, hgz⟩ : ∃ gz, V1.heap.size = gz := ⟨_, rfl⟩
        rw [hgz] at hnew hlt
        change wpAnyD _ _ _ _ _ _ _ _ _ (V1.alloc (.cells #[.string wSeal, .string z, .string h] 9))
        rw [hgz]
        generalize V1.alloc (.cells #[.string wSeal, .string z, .string h] 9) = V2 at hb5 hnew hlt ⊢
        have hpl : z.size ≤ 21 := by
          rw [HZ.out]
          show (Lib.itoa p).toArray.size ≤ 21
          rw [List.size_toArray]
          exact Lib.itoa_length_le p (by have := hpi.out; omega) (by have := hpi.out; omega)
        have hll : (lineL [wSeal, z, h]).length ≤ 1000000000 := by
          have h9 := line_len [wSeal, z, h]
          simp only [lensW, List.length_cons, List.length_nil, h16] at h9
          have : wSeal.size = 4 := rfl
          omega
        have HWR := hid (writeD_c (HD.out.below hb5) [wSeal, z, h] gz 3 (Nat.le_trans hB hb5.size) (fun j y hj => by
          rcases j with _ | _ | _ | j
          · cases hj; exact cell_of_row _ gz 0 _ _ _ hnew
          · cases hj; exact cell_of_row _ gz 1 _ _ _ hnew
          · cases hj; exact cell_of_row _ gz 2 _ _ _ hnew
          · simp at hj) hlt (by simp) hls (by simp) hll)
        obtain ⟨n1, hn1⟩ : ∃ n1, D.ls.length + 1 = n1 := ⟨_, rfl⟩
        have HN1 := hid hn1
        rw [hn1] at HWR
        clear hn1
        refine stepD 10 (by kernel_rfl) rfl rfl (fun K hK => ?_)
        go_simp
        go_at_call 51
        refine HWR.out.mono ?_
        rintro e V3 ⟨rfl, hd3, ho3⟩
        go_simp
        refine hK _ _ (fun _ => trivial) ?_
        clear hK K
        refine stepD 11 (by kernel_rfl) rfl rfl (fun K hK => ?_)
        go_simp
        refine hK _ _ (fun _ => trivial) ?_
        clear hK K
        refine stepD 12 (by kernel_rfl) rfl rfl (fun K hK => ?_)
        go_simp
        refine hK _ _ (fun _ => trivial) ?_
        clear hK K
        have hfz3 := frozen_of_row _ _ a _ _ hd3.row
        have k3 : V3.cell? ⟨q, a, none⟩ = some (.string x.h) := by
          rw [cell_of_row _ _ _ _ _ _ hd3.row, ← has.out]
          exact encP_get _ _ _ hxs.out 0 (by omega)
        refine stepD 13 (by kernel_rfl) rfl rfl (fun K hK => ?_)
        go_simp
        refine hK _ _ (fun _ => trivial) ?_
        clear hK K
        have hd4 := hd3.setP 0 (.string h) { x with h := h } hxs.out (show a = 5 * i + 0 by rw [← has.out, Nat.add_zero]) (by omega) rfl
        have ho4 := ho3.set (.inr rfl) a (.string h)
        generalize V3.setCell ⟨q, a, none⟩ (.string h) = V4 at hd4 ho4 ⊢
        refine stepD 14 (by kernel_rfl) rfl rfl (fun K hK => ?_)
        go_simp
        refine hK _ _ (fun _ => trivial) ?_
        clear hK K
        refine stepD 15 (by kernel_rfl) rfl rfl (fun K hK => ?_)
        go_simp
        refine hK _ _ (fun _ => trivial) ?_
        clear hK K
        have hfz4 := frozen_of_row _ _ (a + 2) _ _ hd4.row
        have hx4 : (D.ps.set i { x with h := h })[i]? = some { x with h := h } := List.getElem?_set_self (List.getElem?_eq_some_iff.1 hxs.out).1
        have k4 : V4.cell? ⟨q, a + 2, none⟩ = some (.int .i64 ((x.s : Nat) : Int)) := by
          rw [cell_of_row _ _ _ _ _ _ hd4.row, ← has.out]
          exact encP_get _ _ _ hx4 2 (by omega)
        refine stepD 16 (by kernel_rfl) rfl rfl (fun K hK => ?_)
        go_simp
        refine hK _ _ (fun _ => trivial) ?_
        clear hK K
        have hd5 := hd4.setP (p := { x with h := h }) 2 (.int .i64 ((n1 : Nat) : Int)) { x with h := h, s := n1 } hx4 (show a + 2 = 5 * i + 2 by rw [← has.out]) (by omega) rfl
        have ho5 := ho4.set (.inr rfl) (a + 2) (.int .i64 ((n1 : Nat) : Int))
        generalize V4.setCell ⟨q, a + 2, none⟩ (.int .i64 ((n1 : Nat) : Int)) = V5 at hd5 ho5 ⊢
        refine doneD (by kernel_rfl) ?_ _
        refine OnlyNorm.normal ?_
        rename_i Q' K1 hK1 K hK
        change K _ _
        refine hK _ _ ?_
        clear hK K
        obtain ⟨vl5, hb51, -⟩ := hd5.box
        have k53 := cell_of_row _ _ 3 _ _ _ hb51
        have hfz5 := frozen_of_row _ _ 3 _ _ hb51
        change _ = some (Value.int .i64 ((D.sl : Nat) : Int)) at k53
        have hsw : IntKind.i64.wrap (((D.sl : Nat) : Int) + 1) = ((D.sl + 1 : Nat) : Int) := (IntWalk.i64_in _ (by omega)).trans (by omega)
        have HD5 := hid hd5
        have HO5 := hid ho5
        have HB5 := hid hb5
        clear hd5 ho5 hd4 ho4 hd3 ho3 hb51 hb5 hb4 hb3 hb2 hb1 hnew hlt hk2 hk
        go_wp2_with fail
        go_ret
        refine ⟨rfl, ?_, ((OnlyD.below HB5.out).trans HO5.out).set (.inl rfl) 3 _⟩
        have e := HD5.out.setB 3 (.int .i64 ((D.sl + 1 : Nat) : Int)) { D with ls := D.ls ++ [⟨(lineL (sealW p h)).toArray⟩], ps := D.ps.set i { x with h := h, s := D.ls.length + 1 }, sl := D.sl + 1 } (fun vl => by simp [boxV, DS.line]) (by simp [DS.line, sealW, HZ.out]) (by simp [DS.line, HN1.out])
        exact e
end Go.Proofs.YtbcileppebpamaaGreatDoor
