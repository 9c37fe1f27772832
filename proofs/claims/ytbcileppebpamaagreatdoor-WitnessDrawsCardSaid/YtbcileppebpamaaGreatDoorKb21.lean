/- Lemmas for WitnessDraws: part 21. -/
import Derived.Test.YtbcileppebpamaaGreatDoorKb20
set_option linter.unusedSimpArgs false
set_option linter.unusedVariables false
namespace Go.Proofs.YtbcileppebpamaaGreatDoor
open Go Go.RowKit Go.Shelf
set_option maxRecDepth 100000
theorem bas_all (r : List (List UInt8)) : (bas r).all numBb = r.all numB := by
  rw [bas, List.all_map]
  rfl
theorem bas_num (r : List (List UInt8)) : (bas r).map numBn = r.map fun l => ((numN l : Nat) : Int) := by
  rw [bas, List.map_map]
  rfl
theorem bas_size {r : List (List UInt8)} {n : Nat} (h : ∀ w ∈ r, w.length ≤ n) : ∀ x ∈ bas r, x.size ≤ n := fun x hx => by
  rw [bas, List.mem_map] at hx
  obtain ⟨w, hw, rfl⟩ := hx
  show w.toArray.size ≤ n
  simpa using h w hw
theorem exec_fldR {ev : Operand → Value} {o : Oper} {x : Operand} {b : Nat} {W : World} (ho : o.op = .fieldAddr 89 x 0) (hx : ev x = .pointer (some ⟨b, 0, none⟩)) : (execOp ev o).run Tryz.prog W = .ok (.value (.pointer (some ⟨b, 0, none⟩))) W := by
  simp [execOp, ho, hx]
  go_simp
theorem exec_ldPD {ev : Operand → Value} {o : Oper} {x : Operand} {p : Addr} {W : World} {v : Value} (ho : o.op = .load 43 x) (hx : ev x = .pointer (some p)) (hg : W.cell? p = some v) : (execOp ev o).run Tryz.prog W = .ok (.value v) W := by
  simp [execOp, ho, hx]
  go_simp
def firstW : List (List UInt8) → Option (Nat × Nat)
  | [w, a, c] => if w = wDr ∧ numB a = true ∧ numB c = true then some (numN a, numN c) else none
  | _ => none
theorem first_w (l : List UInt8) : firstOf l = firstW (wordsL 32 l) := rfl
theorem first_no1 (a : List UInt8) (r : List (List UInt8)) (h : r.all numB = false) : firstW (a :: r) = none := by
  rcases r with _ | ⟨x, _ | ⟨y, _ | ⟨z, r⟩⟩⟩
  · rfl
  · rfl
  · rw [firstW, if_neg]
    rintro ⟨_, h1, h2⟩
    rw [List.all_cons, List.all_cons, h1, h2] at h
    cases h
  · rfl
theorem first_no2 (a : List UInt8) (r : List (List UInt8)) (h : r.length ≠ 2) : firstW (a :: r) = none := by
  rcases r with _ | ⟨x, _ | ⟨y, _ | ⟨z, r⟩⟩⟩
  · rfl
  · rfl
  · exact absurd rfl h
  · rfl
theorem first_no3 (a : List UInt8) (r : List (List UInt8)) (h : a ≠ wDr) : firstW (a :: r) = none := by
  rcases r with _ | ⟨x, _ | ⟨y, _ | ⟨z, r⟩⟩⟩
  · rfl
  · rfl
  · rw [firstW, if_neg fun e => h e.1]
  · rfl
theorem readT_none (l : List UInt8) : readT none l = match firstW (wordsL 32 l) with | none => (none, 4) | some (b, n) => if 1 ≤ b ∧ b ≤ 1000000000 ∧ 1 ≤ n ∧ n ≤ 30 then (some (b, n, []), 0) else (none, 3) := rfl
set_option maxHeartbeats 2000000 in
theorem read_none1 (W : World) (B1 z : Nat) (hz : z < B1) (hB1 : B1 ≤ W.heap.size) (hst : W.heap[z]? = some (.cells #[.pointer none] 89 (0, 0))) (l : List UInt8) (hl : l.length ≤ 100000) (hm : ∃ m, W.cell? ⟨2, 0, none⟩ = some (.int .i64 m)) (a0 : List UInt8) (hws : wordsL 32 l = [a0]) :
    Calls Tryz.prog 45 #[.pointer (some ⟨z, 0, none⟩), .string ⟨l.toArray⟩] W fun e W' => e = .returned (.int .i64 (readT none l).2) ∧ OnlyR B1 z W W' ∧ RdAt W' B1 z (readT none l).1 := by
  have HSP := hid (split_l l (by omega) W hm)
  have hR := readT_none l
  rw [hws] at HSP hR
  have hx := heap_alloc_new W (.cells ((bas [a0]).map Value.string).toArray 9)
  have hal : Below W.heap.size W (W.alloc (.cells ((bas [a0]).map Value.string).toArray 9)) := (Below.refl _ _).alloc (Nat.le_refl _) _
  obtain ⟨W1, hW1⟩ : ∃ W1, W.alloc (.cells ((bas [a0]).map Value.string).toArray 9) = W1 := ⟨_, rfl⟩
  rw [hW1] at hx hal HSP
  obtain ⟨g, hg⟩ : ∃ g, W.heap.size = g := ⟨_, rfl⟩
  rw [hg] at hx hal HSP hB1
  have hc0 : W1.cell? ⟨g, 0, none⟩ = some (.string ⟨a0.toArray⟩) := by
    rw [cell_of_row _ _ 0 _ _ (0, 0) hx]
    simp [bas]
  have hst1 := heap_below hal hst (by omega)
  have hcz := cell_of_row _ _ 0 _ _ _ hst1
  rw [show [a0].length = 1 from rfl] at HSP
  have hnu := numbers_c (.slice (some ⟨g, 0, none⟩) 0 0) [] W1 (.inl ⟨rfl, _, _, rfl⟩) (by simp) (by simp)
  have HN1 := hid (hnu.mono fun e w' h => (show (∃ p c, e = .returned (.tuple #[.slice p 0 c, .bool true])) ∧ Below W1.heap.size W1 w' from ⟨by obtain ⟨⟨u, h1, h2⟩, _⟩ := h; rw [if_pos (by rfl)] at h2; obtain ⟨p, c, h3⟩ := own_form h2; exact ⟨p, c, by rw [h1, h3]; rfl⟩, h.2⟩))
  have hOa : OnlyR B1 z W W1 := .below (hg ▸ hal)
  obtain ⟨A0, hA0⟩ : ∃ A : ByteArray, ⟨a0.toArray⟩ = A := ⟨_, rfl⟩
  rw [hA0] at hc0
  have HO1 := hid hOa
  have HZ1 := hid hst1
  have hE : readT none l = (none, 4) := by rw [hR, first_no2 _ _ (by simp)]
  rw [hE]
  clear hnu hR hW1 hx hst hm hst1 hal hOa hA0 hE hws hl
  go_enter Tryz.func45, Tryz.ntmps45
  go_wp2_with (first
    | (go_at_call 26; refine HSP.out.mono ?_; rintro e w1 ⟨rfl, rfl⟩)
    | (go_at_call 78; refine HN1.out.mono ?_; rintro e w2 ⟨⟨p, c, rfl⟩, hb2⟩; have HB2 := hid hb2; clear hb2))
  go_ret
  exact ⟨rfl, HO1.out.trans (.below HB2.out), heap_below HB2.out HZ1.out (heap_lt HZ1.out)⟩
set_option maxHeartbeats 2000000 in
theorem read_none2 (w0 W : World) (L : LaidW w0) (hW : Below w0.heap.size w0 W) (B1 z : Nat) (h0 : w0.heap.size ≤ z) (hz : z < B1) (hB1 : B1 ≤ W.heap.size) (hst : W.heap[z]? = some (.cells #[.pointer none] 89 (0, 0))) (l : List UInt8) (hl : l.length ≤ 100000) (hm : ∃ m, W.cell? ⟨2, 0, none⟩ = some (.int .i64 m)) (a0 : List UInt8) (r : List (List UInt8)) (hws : wordsL 32 l = a0 :: r) (hr1 : 1 ≤ r.length) :
    Calls Tryz.prog 45 #[.pointer (some ⟨z, 0, none⟩), .string ⟨l.toArray⟩] W fun e W' => e = .returned (.int .i64 (readT none l).2) ∧ OnlyR B1 z W W' ∧ RdAt W' B1 z (readT none l).1 := by
  have HSP := hid (split_l l (by omega) W hm)
  have hwl := wordsL_mem 32 l
  have hwn := wordsL_len 32 l
  have hR := readT_none l
  rw [hws] at HSP hwl hwn hR
  have hx := heap_alloc_new W (.cells ((bas (a0 :: r)).map Value.string).toArray 9)
  have hal : Below W.heap.size W (W.alloc (.cells ((bas (a0 :: r)).map Value.string).toArray 9)) := (Below.refl _ _).alloc (Nat.le_refl _) _
  obtain ⟨W1, hW1⟩ : ∃ W1, W.alloc (.cells ((bas (a0 :: r)).map Value.string).toArray 9) = W1 := ⟨_, rfl⟩
  rw [hW1] at hx hal HSP
  obtain ⟨g, hg⟩ : ∃ g, W.heap.size = g := ⟨_, rfl⟩
  rw [hg] at hx hal HSP hB1
  have hrd := reads_bas (o := 1) (c := r.length) (a0 :: r) r hx (fun k x hk => by rw [Nat.add_comm]; simpa using hk)
  have hc0 : W1.cell? ⟨g, 0, none⟩ = some (.string ⟨a0.toArray⟩) := by
    rw [cell_of_row _ _ 0 _ _ (0, 0) hx]
    simp [bas]
  have hst1 := heap_below hal hst (by omega)
  have hcz := cell_of_row _ _ 0 _ _ _ hst1
  have hrs := bas_size (r := r) (n := 1000000) (fun w hw => Nat.le_trans (hwl w (List.mem_cons_of_mem _ hw)) (Nat.le_trans hl (by omega)))
  have hrl : (bas r).length ≤ 1000000 := by simp [bas]; simp at hwn; omega
  obtain ⟨k1, hk1⟩ : ∃ k1, r.length = k1 := ⟨_, rfl⟩
  rw [hk1] at hrd
  rw [List.length_cons, hk1] at HSP
  obtain ⟨k, hk⟩ : ∃ k, k1 + 1 = k := ⟨_, rfl⟩
  rw [hk] at HSP
  have hk2 : 1 < k := by omega
  have hk3 : ¬ k = 1 := by omega
  have hk4 : ¬ 1 = k := by omega
  have hk5 : 1 ≤ k := by omega
  have hks : k - 1 = k1 := by omega
  have hnu := numbers_c _ (bas r) W1 hrd hrl hrs
  rw [bas_all, bas_num] at hnu
  have hOa : OnlyR B1 z W W1 := .below (hg ▸ hal)
  have hg1 : g < W1.heap.size := heap_lt hx
  obtain ⟨A0, hA0⟩ : ∃ A : ByteArray, ⟨a0.toArray⟩ = A := ⟨_, rfl⟩
  rw [hA0] at hc0
  have hAl : A0.toList = a0 := by rw [← hA0, ByteArray.toList_eq]
  have HO1 := hid hOa
  have HZ1 := hid hst1
  have HG1 := hid hg1
  have HRN := hid (And.intro hk1 hal)
  clear hr1 hW1 hx hst hrd hrs hrl hwl hwn hl hm hst1 hal hg1 hOa hA0 hk1 hk hws
  cases hb : r.all numB with
  | false =>
    have hE : readT none l = (none, 4) := by rw [hR, first_no1 _ _ hb]
    rw [hE]
    simp only [hb, Bool.false_eq_true, if_false] at hnu
    have HNU := hid (hnu.mono fun e w' h => (show e = .returned (.tuple #[.slice none 0 0, .bool false]) ∧ Below W1.heap.size W1 w' from ⟨by obtain ⟨⟨u, h1, h2⟩, _⟩ := h; rw [h1, h2], h.2⟩))
    clear hnu hb hE hR hAl
    go_enter Tryz.func45, Tryz.ntmps45
    go_wp2_with (first
      | (go_at_call 26; refine HSP.out.mono ?_; rintro e w1 ⟨rfl, rfl⟩)
      | (go_at_call 78; refine HNU.out.mono ?_; rintro e w2 ⟨rfl, hb2⟩; have HB2 := hid hb2; clear hb2))
    go_ret
    exact ⟨rfl, HO1.out.trans (.below HB2.out), heap_below HB2.out HZ1.out (heap_lt HZ1.out)⟩
  | true =>
    simp only [hb, if_true] at hnu
    have HNU := hid hnu
    clear hnu
    by_cases h2 : k1 = 2
    · obtain ⟨x, y, hxy⟩ : ∃ x y, r = [x, y] := by
        have h3 := HRN.out.1
        rw [h2] at h3
        rcases r with _ | ⟨x, _ | ⟨y, _ | ⟨q, r⟩⟩⟩
        · simp at h3
        · simp at h3
        · exact ⟨x, y, rfl⟩
        · simp at h3
      subst hxy
      obtain ⟨nx, hnx⟩ : ∃ nx, numN x = nx := ⟨_, rfl⟩
      obtain ⟨ny, hny⟩ : ∃ ny, numN y = ny := ⟨_, rfl⟩
      have HN1 := hid (HNU.out.mono fun e w' h => (show (∃ gu cu, e = .returned (.tuple #[.slice (some ⟨gu, 0, none⟩) 2 cu, .bool true]) ∧ w'.cell? ⟨gu, 0, none⟩ = some (.int .i64 ((nx : Nat) : Int)) ∧ w'.cell? ⟨gu, 1, none⟩ = some (.int .i64 ((ny : Nat) : Int)) ∧ gu < w'.heap.size ∧ W1.heap.size ≤ gu) ∧ Below W1.heap.size W1 w' from ⟨by
        obtain ⟨⟨u, h1, h2⟩, _⟩ := h
        obtain ⟨p, cu, rfl⟩ := own_form h2
        obtain ⟨gu, rfl, h3, h4, h5⟩ := own_at h2 (i := 0) (by simp)
        obtain ⟨gu', h6, _, _, h7⟩ := own_at h2 (i := 1) (by simp)
        cases h6
        have h8 := h5 0 (by omega)
        have h9 := h7 0 (by omega)
        refine ⟨gu, cu, h1, ?_, ?_, h3, h4⟩
        · rw [← hnx]; exact h8
        · rw [← hny]; exact h9, h.2⟩))
      subst h2
      by_cases hd : a0 = wDr
      · have hbx : numB x = true ∧ numB y = true := by
          simp only [List.all_cons, List.all_nil, Bool.and_true, Bool.and_eq_true] at hb
          exact hb
        have hf : firstW [a0, x, y] = some (nx, ny) := by rw [firstW, if_pos ⟨hd, hbx⟩, hnx, hny]
        rw [hf] at hR
        have q1 : A0.toList = [100, 114, 97, 119] := by rw [hAl, hd]; rfl
        simp only at hR
        by_cases hrg : 1 ≤ nx ∧ nx ≤ 1000000000 ∧ 1 ≤ ny ∧ ny ≤ 30
        · rw [if_pos hrg] at hR
          rw [hR]
          have HNEW := hid (fun V (hO : OnlyR B1 z W V) (hgV : g ≤ V.heap.size) => New_c nx ny ⟨hrg.1, hrg.2.1⟩ ⟨hrg.2.2.1, hrg.2.2.2⟩ V (L.below (hW.trans (hO.toB h0 (by omega) (by rw [hg]; have := hW.size; omega)))))
          have HRG := hid hrg
          have HBG := hid hB1
          clear hR hAl hb HNU hd hbx hf hrg hnx hny
          go_enter Tryz.func45, Tryz.ntmps45
          go_upto_region 8 with (first
            | (go_at_call 26; refine HSP.out.mono ?_; rintro e w1 ⟨rfl, rfl⟩)
            | (go_at_call 78; refine HN1.out.mono ?_; rintro e w2 ⟨⟨gu, cu, rfl, hc0, hc1, hgu, hgu2⟩, hb2⟩; have HB2 := hid hb2; have HC0 := hid hc0; have HC1 := hid hc1; have HGU := hid hgu; have HGU2 := hid hgu2; clear hb2 hc0 hc1 hgu hgu2))
          have HO2 := hid (HO1.out.trans (OnlyR.below (B1 := B1) (z := z) HB2.out))
          have HZ2 := hid (heap_below HB2.out HZ1.out (heap_lt HZ1.out))
          have HG2 := hid (Nat.le_trans (Nat.le_of_lt HG1.out) HB2.out.size)
          have HGZ := hid (show gu ≠ z by have := HGU2.out; have := HG1.out; omega)
          clear hcz hc0
          refine regD (fun V => V.cell? ⟨gu, 0, none⟩ = some (.int .i64 ((nx : Nat) : Int)) ∧ V.cell? ⟨gu, 1, none⟩ = some (.int .i64 ((ny : Nat) : Int))) (fun _ => true) (by kernel_rfl) ?_
          have hS : w2.drew.cell? ⟨gu, 0, none⟩ = some (.int .i64 ((nx : Nat) : Int)) ∧ w2.drew.cell? ⟨gu, 1, none⟩ = some (.int .i64 ((ny : Nat) : Int)) := ⟨HC0.out, HC1.out⟩
          have hz3 : w2.drew.heap[z]? = some (.cells #[.pointer none] 89 (0, 0)) := HZ2.out
          have hbd : Below w2.heap.size w2 w2.drew := below_drewN (Below.refl _ _) 1
          have hO3 := HO2.out.trans (OnlyR.below (B1 := B1) (z := z) hbd)
          have hg3 : g ≤ w2.drew.heap.size := Nat.le_trans HG2.out hbd.size
          have hgu3 : gu < w2.drew.heap.size := HGU.out
          clear hbd
          generalize w2.drew = w3 at hS hz3 hO3 hg3 hgu3 ⊢
          refine takeE (i := 0) (.pointer (some ⟨z, 0, none⟩)) (d := some 46) rfl (by kernel_rfl) (by kernel_rfl) (by kernel_rfl) (by kernel_rfl) (fun _ _ _ h => h) rfl (fun W hSw => by exact exec_mv rfl rfl) (hS) rfl ?_
          simp only [Act.put, List.setIfInBounds_toArray, List.set_cons_zero, List.set_cons_succ]
          refine takeE (i := 1) (.slice (some ⟨gu, 0, none⟩) 2 cu) (d := some 47) rfl (by kernel_rfl) (by kernel_rfl) (by kernel_rfl) (by kernel_rfl) (fun _ _ _ h => h) rfl (fun W hSw => by exact exec_mv rfl rfl) (hS) rfl ?_
          simp only [Act.put, List.setIfInBounds_toArray, List.set_cons_zero, List.set_cons_succ]
          refine takeE (i := 2) (.pointer (some ⟨gu, 0, none⟩)) (d := some 48) rfl (by kernel_rfl) (by kernel_rfl) (by kernel_rfl) (by kernel_rfl) (fun _ _ _ h => h) rfl (fun W hSw => by exact exec_ixI (oo := 0) (i := 0) rfl rfl rfl rfl (by omega)) (hS) rfl ?_
          simp only [Act.put, List.setIfInBounds_toArray, List.set_cons_zero, List.set_cons_succ]
          refine takeE (i := 3) (.int .i64 ((nx : Nat) : Int)) (d := some 49) rfl (by kernel_rfl) (by kernel_rfl) (by kernel_rfl) (by kernel_rfl) (fun _ _ _ h => h) rfl (fun W hSw => by exact exec_ldcellB rfl rfl hSw.1) (hS) rfl ?_
          simp only [Act.put, List.setIfInBounds_toArray, List.set_cons_zero, List.set_cons_succ]
          refine takeE (i := 4) (.slice (some ⟨gu, 0, none⟩) 2 cu) (d := some 50) rfl (by kernel_rfl) (by kernel_rfl) (by kernel_rfl) (by kernel_rfl) (fun _ _ _ h => h) rfl (fun W hSw => by exact exec_mv rfl rfl) (hS) rfl ?_
          simp only [Act.put, List.setIfInBounds_toArray, List.set_cons_zero, List.set_cons_succ]
          refine takeE (i := 5) (.pointer (some ⟨gu, 1, none⟩)) (d := some 51) rfl (by kernel_rfl) (by kernel_rfl) (by kernel_rfl) (by kernel_rfl) (fun _ _ _ h => h) rfl (fun W hSw => by exact exec_ixI (oo := 0) (i := 1) rfl rfl rfl rfl (by omega)) (hS) rfl ?_
          simp only [Act.put, List.setIfInBounds_toArray, List.set_cons_zero, List.set_cons_succ]
          refine takeE (i := 6) (.int .i64 ((ny : Nat) : Int)) (d := some 52) rfl (by kernel_rfl) (by kernel_rfl) (by kernel_rfl) (by kernel_rfl) (fun _ _ _ h => h) rfl (fun W hSw => by exact exec_ldcellB rfl rfl hSw.2) (hS) rfl ?_
          simp only [Act.put, List.setIfInBounds_toArray, List.set_cons_zero, List.set_cons_succ]
          refine stepD 7 (by kernel_rfl) rfl rfl (fun K hK => ?_)
          refine wpO_call 16 #[.int .i64 ((nx : Nat) : Int), .int .i64 ((ny : Nat) : Int)] (exec_call2 rfl rfl rfl rfl (by go_simp)) ((HNEW.out w3 hO3 hg3).mono ?_)
          rintro e w4 ⟨he, hd4, hb4⟩
          refine ⟨_, he, ?_⟩
          have hS4 : w4.cell? ⟨gu, 0, none⟩ = some (.int .i64 ((nx : Nat) : Int)) ∧ w4.cell? ⟨gu, 1, none⟩ = some (.int .i64 ((ny : Nat) : Int)) := ⟨(hb4.cell (p := ⟨gu, 0, none⟩) hgu3).trans hS.1, (hb4.cell (p := ⟨gu, 1, none⟩) hgu3).trans hS.2⟩
          refine hK _ _ (fun _ => hS4) ?_
          clear hK K he
          have hz4 := heap_below hb4 hz3 (heap_lt hz3)
          have hO4 := hO3.trans (OnlyR.below (B1 := B1) (z := z) hb4)
          have hs4 := hb4.size
          clear hb4 hS hO3 hgu3 hz3
          obtain ⟨B, hB⟩ : ∃ B, w3.heap.size = B := ⟨_, rfl⟩
          rw [hB] at hd4 hg3 hs4
          rw [hB]
          obtain ⟨b, hb⟩ : ∃ b, B + 1 = b := ⟨_, rfl⟩
          rw [hb] at hd4
          rw [hb]
          have HBB := hid hb
          clear hb hB
          refine takeE (i := 8) ((.tuple #[.pointer (some ⟨b, 0, none⟩), .int .i64 0])) (d := some 45) rfl (by kernel_rfl) (by kernel_rfl) (by kernel_rfl) (by kernel_rfl) (fun _ _ _ h => h) rfl (fun W hSw => by exact exec_mv rfl rfl) (hS4) rfl ?_
          simp only [Act.put, List.setIfInBounds_toArray, List.set_cons_zero, List.set_cons_succ]
          refine takeE (i := 9) (.pointer (some ⟨b, 0, none⟩)) (d := some 54) rfl (by kernel_rfl) (by kernel_rfl) (by kernel_rfl) (by kernel_rfl) (fun _ _ _ h => h) rfl (fun W hSw => by exact exec_ext rfl rfl rfl) (hS4) rfl ?_
          simp only [Act.put, List.setIfInBounds_toArray, List.set_cons_zero, List.set_cons_succ]
          refine takeE (i := 10) (.int .i64 0) (d := some 55) rfl (by kernel_rfl) (by kernel_rfl) (by kernel_rfl) (by kernel_rfl) (fun _ _ _ h => h) rfl (fun W hSw => by exact exec_ext rfl rfl rfl) (hS4) rfl ?_
          simp only [Act.put, List.setIfInBounds_toArray, List.set_cons_zero, List.set_cons_succ]
          refine takeE (i := 11) (.pointer (some ⟨z, 0, none⟩)) (d := some 56) rfl (by kernel_rfl) (by kernel_rfl) (by kernel_rfl) (by kernel_rfl) (fun _ _ _ h => h) rfl (fun W hSw => by exact exec_nilP rfl rfl) (hS4) rfl ?_
          simp only [Act.put, List.setIfInBounds_toArray, List.set_cons_zero, List.set_cons_succ]
          refine takeE (i := 12) (.pointer (some ⟨z, 0, none⟩)) (d := some 57) rfl (by kernel_rfl) (by kernel_rfl) (by kernel_rfl) (by kernel_rfl) (fun _ _ _ h => h) rfl (fun W hSw => by exact exec_fldR rfl rfl) (hS4) rfl ?_
          simp only [Act.put, List.setIfInBounds_toArray, List.set_cons_zero, List.set_cons_succ]
          have hfz := frozen_of_row _ _ 0 _ _ hz4
          have hkz := cell_of_row _ _ 0 _ _ _ hz4
          have hS5 : (w4.setCell ⟨z, 0, none⟩ (.pointer (some ⟨b, 0, none⟩))).cell? ⟨gu, 0, none⟩ = some (.int .i64 ((nx : Nat) : Int)) ∧ (w4.setCell ⟨z, 0, none⟩ (.pointer (some ⟨b, 0, none⟩))).cell? ⟨gu, 1, none⟩ = some (.int .i64 ((ny : Nat) : Int)) := ⟨(World.cell?_setCell_far _ _ _ _ (show z ≠ gu from Ne.symm HGZ.out)).trans hS4.1, (World.cell?_setCell_far _ _ _ _ (show z ≠ gu from Ne.symm HGZ.out)).trans hS4.2⟩
          refine stepD 13 (by kernel_rfl) rfl rfl (fun K hK => ?_)
          go_simp
          refine hK _ _ (fun _ => hS5) ?_
          clear hK K
          have hz5 : (w4.setCell ⟨z, 0, none⟩ (.pointer (some ⟨b, 0, none⟩))).heap[z]? = some (.cells #[.pointer (some ⟨b, 0, none⟩)] 89 (0, 0)) := heap_setCell_same w4 z 0 _ _ _ hz4
          have hO5 := hO4.set 0 (.pointer (some ⟨b, 0, none⟩))
          have hd5 := hd4.setOther (k := 0) (u := .pointer (some ⟨b, 0, none⟩)) hz4 (by decide) (by decide) (by decide)
          have hs5 : B ≤ (w4.setCell ⟨z, 0, none⟩ (.pointer (some ⟨b, 0, none⟩))).heap.size := by simpa using hs4
          clear hd4 hs4
          clear hfz hkz hO4 hS4 hz4
          generalize w4.setCell ⟨z, 0, none⟩ (.pointer (some ⟨b, 0, none⟩)) = w5 at *
          refine stepD 14 (by kernel_rfl) rfl rfl (fun K hK => ?_)
          go_simp
          refine hK _ _ (fun _ => hS5) ?_
          clear hK K hS5
          refine doneD (by kernel_rfl) ?_ _
          refine OnlyNorm.normal ?_
          rename_i K hK
          change K _ _
          refine hK _ _ ?_
          clear hK K
          go_wp2_with fail
          go_ret
          exact ⟨rfl, hO5, ⟨⟨HRG.out.1, HRG.out.2.1⟩, HRG.out.2.2.1, HRG.out.2.2.2⟩, B, b, B, DS.start nx ny, hz5, hd5, Rel.start nx ny (by have := HRG.out.1; omega), Nat.le_trans HBG.out hg3, by have := HBB.out; omega, Nat.le_refl _, hs5⟩
        · rw [if_neg hrg] at hR
          rw [hR]
          have hin : ¬ (inR ((nx : Nat) : Int) 1 1000000000 = true ∧ inR ((ny : Nat) : Int) 1 30 = true) := by
            rw [inR_iff, inR_iff]
            omega
          have HNEW := hid (fun V => New_no ((nx : Nat) : Int) ((ny : Nat) : Int) V hin)
          clear hR hAl hb HNU hd hbx hf hrg hnx hny hin
          go_enter Tryz.func45, Tryz.ntmps45
          go_upto_region 8 with (first
            | (go_at_call 26; refine HSP.out.mono ?_; rintro e w1 ⟨rfl, rfl⟩)
            | (go_at_call 78; refine HN1.out.mono ?_; rintro e w2 ⟨⟨gu, cu, rfl, hc0, hc1, hgu, hgu2⟩, hb2⟩; have HB2 := hid hb2; have HC0 := hid hc0; have HC1 := hid hc1; have HGU := hid hgu; have HGU2 := hid hgu2; clear hb2 hc0 hc1 hgu hgu2))
          have HO2 := hid (HO1.out.trans (OnlyR.below (B1 := B1) (z := z) HB2.out))
          have HZ2 := hid (heap_below HB2.out HZ1.out (heap_lt HZ1.out))
          have HG2 := hid (Nat.le_trans (Nat.le_of_lt HG1.out) HB2.out.size)
          have HGZ := hid (show gu ≠ z by have := HGU2.out; have := HG1.out; omega)
          clear hcz hc0
          refine regD (fun V => V.cell? ⟨gu, 0, none⟩ = some (.int .i64 ((nx : Nat) : Int)) ∧ V.cell? ⟨gu, 1, none⟩ = some (.int .i64 ((ny : Nat) : Int))) (fun _ => true) (by kernel_rfl) ?_
          have hS : w2.drew.cell? ⟨gu, 0, none⟩ = some (.int .i64 ((nx : Nat) : Int)) ∧ w2.drew.cell? ⟨gu, 1, none⟩ = some (.int .i64 ((ny : Nat) : Int)) := ⟨HC0.out, HC1.out⟩
          have hz3 : w2.drew.heap[z]? = some (.cells #[.pointer none] 89 (0, 0)) := HZ2.out
          have hbd : Below w2.heap.size w2 w2.drew := below_drewN (Below.refl _ _) 1
          have hO3 := HO2.out.trans (OnlyR.below (B1 := B1) (z := z) hbd)
          have hg3 : g ≤ w2.drew.heap.size := Nat.le_trans HG2.out hbd.size
          have hgu3 : gu < w2.drew.heap.size := HGU.out
          clear hbd
          generalize w2.drew = w3 at hS hz3 hO3 hg3 hgu3 ⊢
          refine takeE (i := 0) (.pointer (some ⟨z, 0, none⟩)) (d := some 46) rfl (by kernel_rfl) (by kernel_rfl) (by kernel_rfl) (by kernel_rfl) (fun _ _ _ h => h) rfl (fun W hSw => by exact exec_mv rfl rfl) (hS) rfl ?_
          simp only [Act.put, List.setIfInBounds_toArray, List.set_cons_zero, List.set_cons_succ]
          refine takeE (i := 1) (.slice (some ⟨gu, 0, none⟩) 2 cu) (d := some 47) rfl (by kernel_rfl) (by kernel_rfl) (by kernel_rfl) (by kernel_rfl) (fun _ _ _ h => h) rfl (fun W hSw => by exact exec_mv rfl rfl) (hS) rfl ?_
          simp only [Act.put, List.setIfInBounds_toArray, List.set_cons_zero, List.set_cons_succ]
          refine takeE (i := 2) (.pointer (some ⟨gu, 0, none⟩)) (d := some 48) rfl (by kernel_rfl) (by kernel_rfl) (by kernel_rfl) (by kernel_rfl) (fun _ _ _ h => h) rfl (fun W hSw => by exact exec_ixI (oo := 0) (i := 0) rfl rfl rfl rfl (by omega)) (hS) rfl ?_
          simp only [Act.put, List.setIfInBounds_toArray, List.set_cons_zero, List.set_cons_succ]
          refine takeE (i := 3) (.int .i64 ((nx : Nat) : Int)) (d := some 49) rfl (by kernel_rfl) (by kernel_rfl) (by kernel_rfl) (by kernel_rfl) (fun _ _ _ h => h) rfl (fun W hSw => by exact exec_ldcellB rfl rfl hSw.1) (hS) rfl ?_
          simp only [Act.put, List.setIfInBounds_toArray, List.set_cons_zero, List.set_cons_succ]
          refine takeE (i := 4) (.slice (some ⟨gu, 0, none⟩) 2 cu) (d := some 50) rfl (by kernel_rfl) (by kernel_rfl) (by kernel_rfl) (by kernel_rfl) (fun _ _ _ h => h) rfl (fun W hSw => by exact exec_mv rfl rfl) (hS) rfl ?_
          simp only [Act.put, List.setIfInBounds_toArray, List.set_cons_zero, List.set_cons_succ]
          refine takeE (i := 5) (.pointer (some ⟨gu, 1, none⟩)) (d := some 51) rfl (by kernel_rfl) (by kernel_rfl) (by kernel_rfl) (by kernel_rfl) (fun _ _ _ h => h) rfl (fun W hSw => by exact exec_ixI (oo := 0) (i := 1) rfl rfl rfl rfl (by omega)) (hS) rfl ?_
          simp only [Act.put, List.setIfInBounds_toArray, List.set_cons_zero, List.set_cons_succ]
          refine takeE (i := 6) (.int .i64 ((ny : Nat) : Int)) (d := some 52) rfl (by kernel_rfl) (by kernel_rfl) (by kernel_rfl) (by kernel_rfl) (fun _ _ _ h => h) rfl (fun W hSw => by exact exec_ldcellB rfl rfl hSw.2) (hS) rfl ?_
          simp only [Act.put, List.setIfInBounds_toArray, List.set_cons_zero, List.set_cons_succ]
          refine stepD 7 (by kernel_rfl) rfl rfl (fun K hK => ?_)
          refine wpO_call 16 #[.int .i64 ((nx : Nat) : Int), .int .i64 ((ny : Nat) : Int)] (exec_call2 rfl rfl rfl rfl (by go_simp)) ((HNEW.out w3).mono ?_)
          rintro e w4 ⟨he, hb4⟩
          refine ⟨_, he, ?_⟩
          subst hb4
          refine hK _ _ (fun _ => hS) ?_
          clear hK K he
          have hS4 := hS
          have hz4 := hz3
          have hO4 := hO3
          clear hS hO3 hgu3 hz3
          refine takeE (i := 8) ((.tuple #[.pointer none, .int .i64 3])) (d := some 45) rfl (by kernel_rfl) (by kernel_rfl) (by kernel_rfl) (by kernel_rfl) (fun _ _ _ h => h) rfl (fun W hSw => by exact exec_mv rfl rfl) (hS4) rfl ?_
          simp only [Act.put, List.setIfInBounds_toArray, List.set_cons_zero, List.set_cons_succ]
          refine takeE (i := 9) (.pointer none) (d := some 54) rfl (by kernel_rfl) (by kernel_rfl) (by kernel_rfl) (by kernel_rfl) (fun _ _ _ h => h) rfl (fun W hSw => by exact exec_ext rfl rfl rfl) (hS4) rfl ?_
          simp only [Act.put, List.setIfInBounds_toArray, List.set_cons_zero, List.set_cons_succ]
          refine takeE (i := 10) (.int .i64 3) (d := some 55) rfl (by kernel_rfl) (by kernel_rfl) (by kernel_rfl) (by kernel_rfl) (fun _ _ _ h => h) rfl (fun W hSw => by exact exec_ext rfl rfl rfl) (hS4) rfl ?_
          simp only [Act.put, List.setIfInBounds_toArray, List.set_cons_zero, List.set_cons_succ]
          refine takeE (i := 11) (.pointer (some ⟨z, 0, none⟩)) (d := some 56) rfl (by kernel_rfl) (by kernel_rfl) (by kernel_rfl) (by kernel_rfl) (fun _ _ _ h => h) rfl (fun W hSw => by exact exec_nilP rfl rfl) (hS4) rfl ?_
          simp only [Act.put, List.setIfInBounds_toArray, List.set_cons_zero, List.set_cons_succ]
          refine takeE (i := 12) (.pointer (some ⟨z, 0, none⟩)) (d := some 57) rfl (by kernel_rfl) (by kernel_rfl) (by kernel_rfl) (by kernel_rfl) (fun _ _ _ h => h) rfl (fun W hSw => by exact exec_fldR rfl rfl) (hS4) rfl ?_
          simp only [Act.put, List.setIfInBounds_toArray, List.set_cons_zero, List.set_cons_succ]
          have hfz := frozen_of_row _ _ 0 _ _ hz4
          have hkz := cell_of_row _ _ 0 _ _ _ hz4
          have hS5 : (w3.setCell ⟨z, 0, none⟩ (.pointer none)).cell? ⟨gu, 0, none⟩ = some (.int .i64 ((nx : Nat) : Int)) ∧ (w3.setCell ⟨z, 0, none⟩ (.pointer none)).cell? ⟨gu, 1, none⟩ = some (.int .i64 ((ny : Nat) : Int)) := ⟨(World.cell?_setCell_far _ _ _ _ (show z ≠ gu from Ne.symm HGZ.out)).trans hS4.1, (World.cell?_setCell_far _ _ _ _ (show z ≠ gu from Ne.symm HGZ.out)).trans hS4.2⟩
          refine stepD 13 (by kernel_rfl) rfl rfl (fun K hK => ?_)
          go_simp
          refine hK _ _ (fun _ => hS5) ?_
          clear hK K
          have hz5 : (w3.setCell ⟨z, 0, none⟩ (.pointer none)).heap[z]? = some (.cells #[.pointer none] 89 (0, 0)) := heap_setCell_same w3 z 0 _ _ _ hz4
          have hO5 := hO4.set 0 (.pointer none)
          clear hfz hkz hO4 hS4 hz4
          generalize w3.setCell ⟨z, 0, none⟩ (.pointer none) = w5 at *
          refine stepD 14 (by kernel_rfl) rfl rfl (fun K hK => ?_)
          go_simp
          refine hK _ _ (fun _ => hS5) ?_
          clear hK K hS5
          refine doneD (by kernel_rfl) ?_ _
          refine OnlyNorm.normal ?_
          rename_i K hK
          change K _ _
          refine hK _ _ ?_
          clear hK K
          go_wp2_with fail
          go_ret
          exact ⟨rfl, hO5, hz5⟩
      · have hE : readT none l = (none, 4) := by rw [hR, first_no3 _ _ hd]
        rw [hE]
        have q1 : (A0.toList == [100, 114, 97, 119]) = false := by rw [hAl]; exact beq_eq_false_iff_ne.2 hd
        clear hE hR hAl hb HNU hd hnx hny
        go_enter Tryz.func45, Tryz.ntmps45
        go_wp2_with (first
          | (go_at_call 26; refine HSP.out.mono ?_; rintro e w1 ⟨rfl, rfl⟩)
          | (go_at_call 78; refine HN1.out.mono ?_; rintro e w2 ⟨⟨gu, cu, rfl, hc0, hc1, hgu, hgu2⟩, hb2⟩; have HB2 := hid hb2; clear hb2 hc0 hc1 hgu hgu2))
        go_ret
        exact ⟨rfl, HO1.out.trans (.below HB2.out), heap_below HB2.out HZ1.out (heap_lt HZ1.out)⟩
    · have hE : readT none l = (none, 4) := by rw [hR, first_no2 _ _ (by rw [HRN.out.1]; exact h2)]
      rw [hE]
      have d1 : (((k1 : Nat) : Int) != 2) = true := by simp; omega
      have d2 : (((k1 : Nat) : Int) == 2) = false := by simp; omega
      have HN1 := hid (HNU.out.mono fun e w' h => (show (∃ p c, e = .returned (.tuple #[.slice p k1 c, .bool true])) ∧ Below W1.heap.size W1 w' from ⟨by obtain ⟨⟨u, h1, h2⟩, _⟩ := h; obtain ⟨p, c, h3⟩ := own_form h2; rw [List.length_map, HRN.out.1] at h3; exact ⟨p, c, by rw [h1, h3]⟩, h.2⟩))
      clear hE hR hAl h2 hb HNU
      go_enter Tryz.func45, Tryz.ntmps45
      go_wp2_with (first
        | (go_at_call 26; refine HSP.out.mono ?_; rintro e w1 ⟨rfl, rfl⟩)
        | (go_at_call 78; refine HN1.out.mono ?_; rintro e w2 ⟨⟨p, c, rfl⟩, hb2⟩; have HB2 := hid hb2; clear hb2))
      go_ret
      exact ⟨rfl, HO1.out.trans (.below HB2.out), heap_below HB2.out HZ1.out (heap_lt HZ1.out)⟩
theorem read_none (w0 W : World) (L : LaidW w0) (hW : Below w0.heap.size w0 W) (B1 z : Nat) (h0 : w0.heap.size ≤ z) (hz : z < B1) (hB1 : B1 ≤ W.heap.size) (hst : W.heap[z]? = some (.cells #[.pointer none] 89 (0, 0))) (l : List UInt8) (hl : l.length ≤ 100000) (hm : ∃ m, W.cell? ⟨2, 0, none⟩ = some (.int .i64 m)) :
    Calls Tryz.prog 45 #[.pointer (some ⟨z, 0, none⟩), .string ⟨l.toArray⟩] W fun e W' => e = .returned (.int .i64 (readT none l).2) ∧ OnlyR B1 z W W' ∧ RdAt W' B1 z (readT none l).1 := by
  obtain ⟨a0, r, hws⟩ := wordsL_form 32 l
  cases r with
  | nil => exact read_none1 W B1 z hz hB1 hst l hl hm a0 hws
  | cons x r => exact read_none2 w0 W L hW B1 z h0 hz hB1 hst l hl hm a0 _ hws (by simp)
end Go.Proofs.YtbcileppebpamaaGreatDoor
set_option linter.unusedSimpArgs false
set_option linter.unusedVariables false
namespace Go.Proofs.YtbcileppebpamaaGreatDoor
open Go Go.RowKit Go.Shelf
set_option maxRecDepth 100000
theorem reads_one (V : World) (x : ByteArray) : ReadsT (V.alloc (.cells #[.string x] 9)) (.slice (some ⟨V.heap.size, 0, none⟩) 1 1) [x] := by
  refine .inr ⟨V.heap.size, 0, 1, rfl, by simp, fun k y hk => ?_⟩
  rw [cell_of_row _ _ (0 + k) _ _ (0, 0) (heap_alloc_new V _)]
  cases k with
  | zero => cases hk; rfl
  | succ k => simp at hk
theorem numbers_no (v : Value) (ws : List ByteArray) (w : World) (hr : ReadsT w v ws) (hl : ws.length ≤ 1000000) (hss : ∀ x ∈ ws, x.size ≤ 1000000) (hb : ws.all numBb = false) :
    Calls Tryz.prog 78 #[v] w fun e w' => e = .returned (.tuple #[.slice none 0 0, .bool false]) ∧ Below w.heap.size w w' := by
  have h := numbers_c v ws w hr hl hss
  simp only [hb, Bool.false_eq_true, if_false] at h
  exact h.mono fun e w' h => ⟨by obtain ⟨⟨u, h1, h2⟩, _⟩ := h; rw [h1, h2], h.2⟩
theorem numbers_yes (v : Value) (ws : List ByteArray) (w : World) (hr : ReadsT w v ws) (hl : ws.length ≤ 1000000) (h1 : 1 ≤ ws.length) (hss : ∀ x ∈ ws, x.size ≤ 1000000) (hb : ws.all numBb = true) :
    Calls Tryz.prog 78 #[v] w fun e w' => (∃ gu cu cur, e = .returned (.tuple #[.slice (some ⟨gu, 0, none⟩) ws.length cu, .bool true]) ∧ w'.heap[gu]? = some (.cells cur 3 (0, 0)) ∧ (∀ (i : Nat) x, ws[i]? = some x → cur[i]? = some (.int .i64 (numBn x))) ∧ w.heap.size ≤ gu) ∧ Below w.heap.size w w' := by
  have h := numbers_c v ws w hr hl hss
  simp only [hb, if_true] at h
  refine h.mono fun e w' h => ⟨?_, h.2⟩
  obtain ⟨⟨u, h1, h2⟩, _⟩ := h
  rcases h2.2 with ⟨_, h0⟩ | ⟨g, cap, cur, h3, h4, h5, h6, h7, h8, h9⟩
  · exact absurd h0 (by rw [List.length_map]; omega)
  · rw [List.length_map] at h3 h9
    refine ⟨g, cap, cur, by rw [h1, h3], h5, fun i x hx => ?_, h4⟩
    have h10 : (cur.toList.take (ws.length * 1))[i]? = ((ws.map numBn).map (Value.int .i64))[i]? := by rw [h9]
    have hi := (List.getElem?_eq_some_iff.1 hx).1
    rw [List.getElem?_take, if_pos (by omega)] at h10
    rw [← Array.getElem?_toList, h10, List.getElem?_map, List.getElem?_map, hx]
    rfl
theorem exec_ixW {ev : Operand → Value} {o : Oper} {x y : Operand} {m cc b oo i : Nat} {W : World} (ho : o.op = .indexAddr 22 x y) (hx : ev x = .slice (some ⟨b, oo, none⟩) m cc) (hy : ev y = .int .i64 ((i : Nat) : Int)) (hi : i < m) : (execOp ev o).run Tryz.prog W = .ok (.value (.pointer (some ⟨b, oo + i, none⟩))) W := by
  have h0 : (0 : Int) ≤ ((i : Nat) : Int) := by omega
  have h1 : ((i : Nat) : Int) < ((m : Nat) : Int) := by omega
  simp [execOp, ho, hx, hy]
  go_simp
def lineW : List (List UInt8) → Option RL
  | [w] => if w = wCl then some ⟨3, ⟨#[]⟩, 0, 0, ⟨#[]⟩⟩ else none
  | [w, a, h] => if w = wSe ∧ numB a = true ∧ isHashL h = true then some ⟨1, ⟨h.toArray⟩, ((numN a : Nat) : Int), 0, ⟨#[]⟩⟩ else none
  | [w, a, c, t] => if w = wOp ∧ (numB a = true ∧ numB c = true) ∧ isSaltL t = true then some ⟨2, ⟨#[]⟩, ((numN a : Nat) : Int), ((numN c : Nat) : Int), ⟨t.toArray⟩⟩ else none
  | _ => none
theorem line_w (l : List UInt8) : lineOf l = lineW (wordsL 32 l) := rfl
theorem readT_some (b n : Nat) (ls : List RL) (l : List UInt8) : readT (some (b, n, ls)) l = match lineW (wordsL 32 l) with | none => (some (b, n, ls), 4) | some x => (some (b, n, addL b n ls x), addE b n ls x) := rfl
theorem lineW_other (a : List UInt8) (r : List (List UInt8)) (h1 : a = wSe → r.length ≠ 2) (h2 : a = wOp → r.length ≠ 3) (h3 : a = wCl → r.length ≠ 0) : lineW (a :: r) = none := by
  rcases r with _ | ⟨x, _ | ⟨y, _ | ⟨z, _ | ⟨u, r⟩⟩⟩⟩
  · rw [lineW, if_neg fun e => h3 e rfl]
  · rfl
  · rw [lineW, if_neg fun e => h1 e.1 rfl]
  · rw [lineW, if_neg fun e => h2 e.1 rfl]
  · rfl
set_option maxHeartbeats 4000000 in
theorem read_other (w0 W : World) (L : LaidW w0) (hW : Below w0.heap.size w0 W) (B1 z : Nat) (h0 : w0.heap.size ≤ z) (hz : z < B1) (hB1 : B1 ≤ W.heap.size) (bl n : Nat) (ls : List RL) (hst : RdAt W B1 z (some (bl, n, ls))) (hls : ls.length ≤ 900000) (l : List UInt8) (hl : l.length ≤ 100000) (hm : ∃ m, W.cell? ⟨2, 0, none⟩ = some (.int .i64 m)) (a0 : List UInt8) (r : List (List UInt8)) (hws : wordsL 32 l = a0 :: r) (h1 : a0 = wSe → r.length ≠ 2) (h2 : a0 = wOp → r.length ≠ 3) (h3 : a0 = wCl → r.length ≠ 0) :
    Calls Tryz.prog 45 #[.pointer (some ⟨z, 0, none⟩), .string ⟨l.toArray⟩] W fun e W' => e = .returned (.int .i64 (readT (some (bl, n, ls)) l).2) ∧ OnlyR B1 z W W' ∧ RdAt W' B1 z (readT (some (bl, n, ls)) l).1 := by
  have HSP := hid (split_l l (by omega) W hm)
  have hwl := wordsL_mem 32 l
  have hR := readT_some bl n ls l
  rw [hws] at HSP hwl hR
  have hx := heap_alloc_new W (.cells ((bas (a0 :: r)).map Value.string).toArray 9)
  have hal : Below W.heap.size W (W.alloc (.cells ((bas (a0 :: r)).map Value.string).toArray 9)) := (Below.refl _ _).alloc (Nat.le_refl _) _
  obtain ⟨W1, hW1⟩ : ∃ W1, W.alloc (.cells ((bas (a0 :: r)).map Value.string).toArray 9) = W1 := ⟨_, rfl⟩
  rw [hW1] at hx hal HSP
  obtain ⟨g, hg⟩ : ∃ g, W.heap.size = g := ⟨_, rfl⟩
  have hst1 := hst.below hal
  obtain ⟨⟨hbl, hn⟩, B, b, q, D, hz1, hd1, hRl, hB1B, hBb, hBq, hBs⟩ := hst1
  have hcz := cell_of_row _ _ 0 _ _ _ hz1
  have hOa : OnlyR B1 z W W1 := .below hal
  rw [hg] at hx hal HSP hB1
  have hg1 : g < W1.heap.size := heap_lt hx
  have hc0 : W1.cell? ⟨g, 0, none⟩ = some (.string ⟨(a0).toArray⟩) := by
    rw [cell_of_row _ _ 0 _ _ (0, 0) hx]
    simp [bas]
  obtain ⟨A0, hA0⟩ : ∃ A : ByteArray, ⟨(a0).toArray⟩ = A := ⟨_, rfl⟩
  have hA0l : A0.toList = a0 := by rw [← hA0, ByteArray.toList_eq]
  have hA0d : A0.data.toList = a0 := by rw [← hA0]
  rw [hA0] at hc0
  rw [hR, lineW_other _ _ h1 h2 h3]
  obtain ⟨k1, hk1⟩ : ∃ k1, r.length = k1 := ⟨_, rfl⟩
  rw [hk1] at h1 h2 h3
  rw [List.length_cons, hk1] at HSP
  obtain ⟨k, hk⟩ : ∃ k, k1 + 1 = k := ⟨_, rfl⟩
  rw [hk] at HSP
  have hk5 : 1 ≤ k := by omega
  have HO1 := hid hOa
  have HZ1 := hid (show RdAt W1 B1 z (some (bl, n, ls)) from ⟨⟨hbl, hn⟩, B, b, q, D, hz1, hd1, hRl, hB1B, hBb, hBq, hBs⟩)
  clear hR hW1 hx hm hst hal hOa hA0 hws hl hwl hz1 hd1 hRl hB1B hBb hBq hBs hg1 hk1 hA0d
  by_cases ewSe : a0 = wSe
  · have q1 : A0.toList = [115, 101, 97, 108] := by rw [hA0l, ewSe]; rfl
    have d1 : (((k : Nat) : Int) == 3) = false := by have := h1 ewSe; simp; omega
    clear hA0l h1 h2 h3 hk
    go_enter Tryz.func45, Tryz.ntmps45
    go_wp2_with (go_at_call 26; refine HSP.out.mono ?_; rintro e w1 ⟨rfl, rfl⟩)
    go_ret
    exact ⟨rfl, HO1.out, HZ1.out⟩
  by_cases ewOp : a0 = wOp
  · have q1 : A0.toList = [111, 112, 101, 110] := by rw [hA0l, ewOp]; rfl
    have d1 : (((k : Nat) : Int) == 4) = false := by have := h2 ewOp; simp; omega
    clear hA0l h1 h2 h3 hk
    go_enter Tryz.func45, Tryz.ntmps45
    go_wp2_with (go_at_call 26; refine HSP.out.mono ?_; rintro e w1 ⟨rfl, rfl⟩)
    go_ret
    exact ⟨rfl, HO1.out, HZ1.out⟩
  by_cases ewCl : a0 = wCl
  · have q1 : A0.toList = [99, 108, 111, 115, 101] := by rw [hA0l, ewCl]; rfl
    have d1 : (((k : Nat) : Int) == 1) = false := by have := h3 ewCl; simp; omega
    clear hA0l h1 h2 h3 hk
    go_enter Tryz.func45, Tryz.ntmps45
    go_wp2_with (go_at_call 26; refine HSP.out.mono ?_; rintro e w1 ⟨rfl, rfl⟩)
    go_ret
    exact ⟨rfl, HO1.out, HZ1.out⟩
  have qwSe : (A0.toList == [115, 101, 97, 108]) = false := by rw [hA0l]; exact beq_eq_false_iff_ne.2 ewSe
  have qwOp : (A0.toList == [111, 112, 101, 110]) = false := by rw [hA0l]; exact beq_eq_false_iff_ne.2 ewOp
  have qwCl : (A0.toList == [99, 108, 111, 115, 101]) = false := by rw [hA0l]; exact beq_eq_false_iff_ne.2 ewCl
  clear ewSe ewOp ewCl
  clear hA0l h1 h2 h3 hk
  go_enter Tryz.func45, Tryz.ntmps45
  go_wp2_with (go_at_call 26; refine HSP.out.mono ?_; rintro e w1 ⟨rfl, rfl⟩)
  go_ret
  exact ⟨rfl, HO1.out, HZ1.out⟩
set_option maxHeartbeats 4000000 in
theorem read_close (w0 W : World) (L : LaidW w0) (hW : Below w0.heap.size w0 W) (B1 z : Nat) (h0 : w0.heap.size ≤ z) (hz : z < B1) (hB1 : B1 ≤ W.heap.size) (bl n : Nat) (ls : List RL) (hst : RdAt W B1 z (some (bl, n, ls))) (hls : ls.length ≤ 900000) (l : List UInt8) (hl : l.length ≤ 100000) (hm : ∃ m, W.cell? ⟨2, 0, none⟩ = some (.int .i64 m)) (hws : wordsL 32 l = [wCl]) :
    Calls Tryz.prog 45 #[.pointer (some ⟨z, 0, none⟩), .string ⟨l.toArray⟩] W fun e W' => e = .returned (.int .i64 (readT (some (bl, n, ls)) l).2) ∧ OnlyR B1 z W W' ∧ RdAt W' B1 z (readT (some (bl, n, ls)) l).1 := by
  have HSP := hid (split_l l (by omega) W hm)
  have hwl := wordsL_mem 32 l
  have hR := readT_some bl n ls l
  rw [hws] at HSP hwl hR
  have hx := heap_alloc_new W (.cells ((bas ([wCl])).map Value.string).toArray 9)
  have hal : Below W.heap.size W (W.alloc (.cells ((bas ([wCl])).map Value.string).toArray 9)) := (Below.refl _ _).alloc (Nat.le_refl _) _
  obtain ⟨W1, hW1⟩ : ∃ W1, W.alloc (.cells ((bas ([wCl])).map Value.string).toArray 9) = W1 := ⟨_, rfl⟩
  rw [hW1] at hx hal HSP
  obtain ⟨g, hg⟩ : ∃ g, W.heap.size = g := ⟨_, rfl⟩
  have hst1 := hst.below hal
  obtain ⟨⟨hbl, hn⟩, B, b, q, D, hz1, hd1, hRl, hB1B, hBb, hBq, hBs⟩ := hst1
  have hcz := cell_of_row _ _ 0 _ _ _ hz1
  have hOa : OnlyR B1 z W W1 := .below hal
  rw [hg] at hx hal HSP hB1
  have hg1 : g < W1.heap.size := heap_lt hx
  have hc0 : W1.cell? ⟨g, 0, none⟩ = some (.string ⟨(wCl).toArray⟩) := by
    rw [cell_of_row _ _ 0 _ _ (0, 0) hx]
    simp [bas]
  obtain ⟨A0, hA0⟩ : ∃ A : ByteArray, ⟨(wCl).toArray⟩ = A := ⟨_, rfl⟩
  have hA0l : A0.toList = wCl := by rw [← hA0, ByteArray.toList_eq]
  have hA0d : A0.data.toList = wCl := by rw [← hA0]
  rw [hA0] at hc0
  rw [show lineW [wCl] = some ⟨3, ⟨#[]⟩, 0, 0, ⟨#[]⟩⟩ from rfl] at hR
  simp only at hR
  rw [hR, ← hRl.closeE 0 0 ⟨#[]⟩ ⟨#[]⟩]
  have HRA := hid (hRl.closeA 0 ⟨#[]⟩ ⟨#[]⟩)
  have q1 : A0.toList = [99, 108, 111, 115, 101] := hA0l
  have HC := hid (CloseD_c hd1 hBs hBb (by rw [hRl.lsl]; omega))
  have HO1 := hid hOa
  have HZ1 := hid hz1
  have HD1 := hid hd1
  have HN := hid (And.intro hbl (And.intro hn (And.intro hB1B (And.intro hBb (And.intro hBq hBs)))))
  obtain ⟨ee, hee⟩ : ∃ ee : Int, (if D.running = true then (0 : Int) else 9) = ee := ⟨_, rfl⟩
  rw [hee] at HC ⊢
  rw [show ([wCl] : List (List UInt8)).length = 1 from rfl] at HSP
  clear hR hW1 hx hm hst hal hOa hA0 hws hl hwl hz1 hd1 hRl hB1B hBb hBq hBs hg1 hA0d hA0l hbl hn hee
  go_enter Tryz.func45, Tryz.ntmps45
  go_wp2_with (first
    | (go_at_call 26; refine HSP.out.mono ?_; rintro e w1 ⟨rfl, rfl⟩)
    | (go_at_call 22; refine HC.out.mono ?_; rintro e w2 ⟨rfl, hd2, ho2⟩; have HD2 := hid hd2; have HO2 := hid ho2; clear hd2 ho2))
  go_ret
  exact ⟨rfl, HO1.out.trans (.only HO2.out HD1.out HN.out.2.2.1 HN.out.2.2.2.1 HN.out.2.2.2.2.1), ⟨HN.out.1, HN.out.2.1⟩, B, b, q, D.close, HO2.out.block z _ HZ1.out (by have := HN.out; omega) (by have := HN.out; omega) (.inr rfl), HD2.out, HRA.out, HN.out.2.2.1, HN.out.2.2.2.1, HN.out.2.2.2.2.1, Nat.le_trans HN.out.2.2.2.2.2 HO2.out.size⟩
end Go.Proofs.YtbcileppebpamaaGreatDoor
set_option linter.unusedSimpArgs false
set_option linter.unusedVariables false
namespace Go.Proofs.YtbcileppebpamaaGreatDoor
open Go Go.RowKit Go.Shelf
set_option maxRecDepth 100000
set_option maxHeartbeats 4000000 in
theorem read_seal (w0 W : World) (L : LaidW w0) (hW : Below w0.heap.size w0 W) (B1 z : Nat) (h0 : w0.heap.size ≤ z) (hz : z < B1) (hB1 : B1 ≤ W.heap.size) (bl n : Nat) (ls : List RL) (hst : RdAt W B1 z (some (bl, n, ls))) (hls : ls.length ≤ 900000) (l : List UInt8) (hl : l.length ≤ 100000) (hm : ∃ m, W.cell? ⟨2, 0, none⟩ = some (.int .i64 m)) (x h : List UInt8) (hws : wordsL 32 l = [wSe, x, h]) :
    Calls Tryz.prog 45 #[.pointer (some ⟨z, 0, none⟩), .string ⟨l.toArray⟩] W fun e W' => e = .returned (.int .i64 (readT (some (bl, n, ls)) l).2) ∧ OnlyR B1 z W W' ∧ RdAt W' B1 z (readT (some (bl, n, ls)) l).1 := by
  have HSP := hid (split_l l (by omega) W hm)
  have hwl := wordsL_mem 32 l
  have hR := readT_some bl n ls l
  rw [hws] at HSP hwl hR
  have hx := heap_alloc_new W (.cells ((bas ([wSe, x, h])).map Value.string).toArray 9)
  have hal : Below W.heap.size W (W.alloc (.cells ((bas ([wSe, x, h])).map Value.string).toArray 9)) := (Below.refl _ _).alloc (Nat.le_refl _) _
  obtain ⟨W1, hW1⟩ : ∃ W1, W.alloc (.cells ((bas ([wSe, x, h])).map Value.string).toArray 9) = W1 := ⟨_, rfl⟩
  rw [hW1] at hx hal HSP
  obtain ⟨g, hg⟩ : ∃ g, W.heap.size = g := ⟨_, rfl⟩
  have hst1 := hst.below hal
  obtain ⟨⟨hbl, hn⟩, B, b, q, D, hz1, hd1, hRl, hB1B, hBb, hBq, hBs⟩ := hst1
  have hcz := cell_of_row _ _ 0 _ _ _ hz1
  have hOa : OnlyR B1 z W W1 := .below hal
  rw [hg] at hx hal HSP hB1
  have hg1 : g < W1.heap.size := heap_lt hx
  have hc0 : W1.cell? ⟨g, 0, none⟩ = some (.string ⟨(wSe).toArray⟩) := by
    rw [cell_of_row _ _ 0 _ _ (0, 0) hx]
    simp [bas]
  obtain ⟨A0, hA0⟩ : ∃ A : ByteArray, ⟨(wSe).toArray⟩ = A := ⟨_, rfl⟩
  have hA0l : A0.toList = wSe := by rw [← hA0, ByteArray.toList_eq]
  have hA0d : A0.data.toList = wSe := by rw [← hA0]
  rw [hA0] at hc0
  have hc1 : W1.cell? ⟨g, 1, none⟩ = some (.string ⟨(x).toArray⟩) := by
    rw [cell_of_row _ _ 1 _ _ (0, 0) hx]
    simp [bas]
  obtain ⟨X, hX⟩ : ∃ A : ByteArray, ⟨(x).toArray⟩ = A := ⟨_, rfl⟩
  have hXl : X.toList = x := by rw [← hX, ByteArray.toList_eq]
  have hXd : X.data.toList = x := by rw [← hX]
  rw [hX] at hc1
  have hc2 : W1.cell? ⟨g, 2, none⟩ = some (.string ⟨(h).toArray⟩) := by
    rw [cell_of_row _ _ 2 _ _ (0, 0) hx]
    simp [bas]
  obtain ⟨H, hH⟩ : ∃ A : ByteArray, ⟨(h).toArray⟩ = A := ⟨_, rfl⟩
  have hHl : H.toList = h := by rw [← hH, ByteArray.toList_eq]
  have hHd : H.data.toList = h := by rw [← hH]
  rw [hH] at hc2
  have hxs : X.size ≤ 1000000 := by rw [size_data, hXd]; have := hwl x (by simp); omega
  have hhs : H.size ≤ 1000000 := by rw [size_data, hHd]; have := hwl h (by simp); omega
  have q1 : A0.toList = [115, 101, 97, 108] := hA0l
  rw [show ([wSe, x, h] : List (List UInt8)).length = 3 from rfl] at HSP
  have HO1 := hid hOa
  have HZ1 := hid hz1
  have HD1 := hid hd1
  have HN := hid (And.intro hbl (And.intro hn (And.intro hB1B (And.intro hBb (And.intro hBq hBs)))))
  have HG1 := hid (And.intro hg hg1)
  have HL := hid (fun V (hV : OnlyR B1 z W V) => fun V' (hV' : Below B V V') => L.below ((hW.trans (hV.toB h0 (by omega) (by have := hW.size; omega))).trans (hV'.mono (by omega))))
  have HRL := hid hRl
  cases hb : numB x with
  | false =>
    have hE : readT (some (bl, n, ls)) l = (some (bl, n, ls), 4) := by rw [hR, lineW, if_neg]; rintro ⟨_, h1, _⟩; rw [hb] at h1; cases h1
    rw [hE]
    have HNU := hid (fun (V : World) => numbers_no _ [X] _ (reads_one V X) (by simp) (by simpa using hxs) (by simp [numBb, hXd, hb]))
    clear hE hb hxs hhs hA0l hA0d hX hXl hXd hH hHl hHd hbl hn hR hW1 hx hm hst hal hOa hA0 hws hl hwl hz1 hd1 hRl hB1B hBb hBq hBs hg1
    go_enter Tryz.func45, Tryz.ntmps45
    go_wp2_with (first
      | (go_at_call 26; refine HSP.out.mono ?_; rintro e w1 ⟨rfl, rfl⟩)
      | (go_at_call 78; refine (HNU.out _).mono ?_; rintro e w2 ⟨rfl, hb2⟩; have HB2 := hid (Below.trans ((Below.refl _ w1).alloc (Nat.le_refl _) (.cells #[.string X] 9)) (hb2.mono (by simp))); clear hb2))
    go_ret
    exact ⟨rfl, HO1.out.trans (.below HB2.out), (show RdAt w1 B1 z (some (bl, n, ls)) from ⟨⟨HN.out.1, HN.out.2.1⟩, B, b, q, D, HZ1.out, HD1.out, HRL.out, HN.out.2.2.1, HN.out.2.2.2.1, HN.out.2.2.2.2.1, HN.out.2.2.2.2.2⟩).below HB2.out⟩
  | true =>
    have HNU := hid (fun (V : World) => numbers_yes _ [X] _ (reads_one V X) (by simp) (by simp) (by simpa using hxs) (by simp [numBb, hXd, hb]))
    obtain ⟨nx, hnx⟩ : ∃ nx, numN x = nx := ⟨_, rfl⟩
    have hnb : numBn X = ((nx : Nat) : Int) := by rw [numBn, hXd, hnx]
    have HIH := hid (fun V => isHash_c H hhs V)
    rw [hHd] at HIH
    cases hh : isHashL h with
    | false =>
      have hE : readT (some (bl, n, ls)) l = (some (bl, n, ls), 4) := by rw [hR, lineW, if_neg]; rintro ⟨_, _, h1⟩; rw [hh] at h1; cases h1
      rw [hE]
      rw [hh] at HIH
      clear hE hb hxs hhs hA0l hA0d hX hXl hXd hH hHl hHd hbl hn hh hnx hnb hR hW1 hx hm hst hal hOa hA0 hws hl hwl hz1 hd1 hRl hB1B hBb hBq hBs hg1
      go_enter Tryz.func45, Tryz.ntmps45
      go_wp2_with (first
        | (go_at_call 26; refine HSP.out.mono ?_; rintro e w1 ⟨rfl, rfl⟩)
        | (go_at_call 78; refine (HNU.out _).mono ?_; rintro e w2 ⟨⟨gu, cu, cur, rfl, hgu, hcur, hgg⟩, hb2⟩; have HB2 := hid (Below.trans ((Below.refl _ w1).alloc (Nat.le_refl _) (.cells #[.string X] 9)) (hb2.mono (by simp))); clear hb2 hgu hcur hgg; have hc2' := (HB2.out.cell (p := ⟨g, 2, none⟩) HG1.out.2).trans hc2)
        | (go_at_call 35; refine (HIH.out _).mono ?_; rintro e w3 ⟨rfl, hb3⟩; have HB3 := hid (HB2.out.trans (hb3.mono HB2.out.size)); clear hb3))
      go_ret
      exact ⟨rfl, HO1.out.trans (.below HB3.out), (show RdAt w1 B1 z (some (bl, n, ls)) from ⟨⟨HN.out.1, HN.out.2.1⟩, B, b, q, D, HZ1.out, HD1.out, HRL.out, HN.out.2.2.1, HN.out.2.2.2.1, HN.out.2.2.2.2.1, HN.out.2.2.2.2.2⟩).below HB3.out⟩
    | true =>
      rw [lineW, if_pos ⟨rfl, hb, hh⟩, hnx, hH] at hR
      simp only at hR
      rw [hh] at HIH
      rw [hR, ← hRl.sealE _ H 0 ⟨#[]⟩]
      have HRA := hid (hRl.sealA ((nx : Nat) : Int) H 0 ⟨#[]⟩)
      have HSD := hid (fun V (hV : OnlyR B1 z W V) (hs : B ≤ V.heap.size) (hd : DrawAt V B b q D) => SealD_c hd ((nx : Nat) : Int) H hs hBb hBq (HL.out V hV) (by rw [hRl.len]; exact hn.2) hhs (by rw [hRl.lsl]; omega) (by rw [hRl.sl]; have := cntL_le 1 ls n; omega))
      have HLT := hid (And.intro (show b < W1.heap.size by obtain ⟨vl, h1, _⟩ := hd1.box; exact heap_lt h1) (And.intro (heap_lt hd1.row) (heap_lt hz1)))
      have HNB := hid hnb
      clear hb hxs hhs hA0l hA0d hX hXl hXd hH hHl hHd hbl hn hh hnx hnb hR hW1 hx hm hst hal hOa hA0 hws hl hwl hz1 hd1 hRl hB1B hBb hBq hBs hg1
      go_enter Tryz.func45, Tryz.ntmps45
      go_upto_region 13 with (first
        | (go_at_call 26; refine HSP.out.mono ?_; rintro e w1 ⟨rfl, rfl⟩)
        | (go_at_call 78; refine (HNU.out _).mono ?_; rintro e w2 ⟨⟨gu, cu, cur, rfl, hgu, hcur, hgg⟩, hb2⟩; have HB2 := hid (Below.trans ((Below.refl _ w1).alloc (Nat.le_refl _) (.cells #[.string X] 9)) (hb2.mono (by simp))); have HGU := hid (And.intro hgu (And.intro ((hcur 0 X rfl).trans (by rw [HNB.out])) (show w1.heap.size ≤ gu from Nat.le_trans (by simp) hgg))); clear hb2 hgu hcur hgg; have hc2' := (HB2.out.cell (p := ⟨g, 2, none⟩) HG1.out.2).trans hc2)
        | (go_at_call 35; refine (HIH.out _).mono ?_; rintro e w3 ⟨rfl, hb3⟩; have HB3 := hid (HB2.out.trans (hb3.mono HB2.out.size)); have HGU3 := hid (heap_below hb3 HGU.out.1 (heap_lt HGU.out.1)); clear hb3))
      have hc2s := (HB3.out.cell (p := ⟨g, 2, none⟩) HG1.out.2).trans hc2
      clear hc0 hc1 hc2 hc2' hcz
      refine regD (fun V => V.heap[z]? = some (.cells #[.pointer (some ⟨b, 0, none⟩)] 89 (0, 0)) ∧ V.heap[gu]? = some (.cells cur 3 (0, 0))) (fun _ => true) (by kernel_rfl) ?_
      have hS : w3.drew.heap[z]? = some (.cells #[.pointer (some ⟨b, 0, none⟩)] 89 (0, 0)) ∧ w3.drew.heap[gu]? = some (.cells cur 3 (0, 0)) := ⟨heap_below HB3.out HZ1.out (heap_lt HZ1.out), HGU3.out⟩
      have hbd : Below w3.heap.size w3 w3.drew := below_drewN (Below.refl _ _) 1
      have hb4 := HB3.out.trans (hbd.mono HB3.out.size)
      have hc4 : w3.drew.cell? ⟨g, 2, none⟩ = some (.string H) := hc2s
      clear hbd hc2s
      generalize w3.drew = w4 at hS hb4 hc4 ⊢
      refine takeE (i := 0) (.pointer (some ⟨z, 0, none⟩)) (d := some 82) rfl (by kernel_rfl) (by kernel_rfl) (by kernel_rfl) (by kernel_rfl) (fun _ _ _ h => h) rfl (fun W hSw => by exact exec_mv rfl rfl) (hS) rfl ?_
      simp only [Act.put, List.setIfInBounds_toArray, List.set_cons_zero, List.set_cons_succ]
      refine takeE (i := 1) (.pointer (some ⟨z, 0, none⟩)) (d := some 83) rfl (by kernel_rfl) (by kernel_rfl) (by kernel_rfl) (by kernel_rfl) (fun _ _ _ h => h) rfl (fun W hSw => by exact exec_nilP rfl rfl) (hS) rfl ?_
      simp only [Act.put, List.setIfInBounds_toArray, List.set_cons_zero, List.set_cons_succ]
      refine takeE (i := 2) (.pointer (some ⟨z, 0, none⟩)) (d := some 84) rfl (by kernel_rfl) (by kernel_rfl) (by kernel_rfl) (by kernel_rfl) (fun _ _ _ h => h) rfl (fun W hSw => by exact exec_fldR rfl rfl) (hS) rfl ?_
      simp only [Act.put, List.setIfInBounds_toArray, List.set_cons_zero, List.set_cons_succ]
      refine takeE (i := 3) (.pointer (some ⟨b, 0, none⟩)) (d := some 85) rfl (by kernel_rfl) (by kernel_rfl) (by kernel_rfl) (by kernel_rfl) (fun _ _ _ h => h) rfl (fun W hSw => by exact exec_ldPD rfl rfl (cell_of_row _ _ 0 _ _ _ hSw.1)) (hS) rfl ?_
      simp only [Act.put, List.setIfInBounds_toArray, List.set_cons_zero, List.set_cons_succ]
      refine takeE (i := 4) (.slice (some ⟨gu, 0, none⟩) 1 cu) (d := some 86) rfl (by kernel_rfl) (by kernel_rfl) (by kernel_rfl) (by kernel_rfl) (fun _ _ _ h => h) rfl (fun W hSw => by exact exec_mv rfl rfl) (hS) rfl ?_
      simp only [Act.put, List.setIfInBounds_toArray, List.set_cons_zero, List.set_cons_succ]
      refine takeE (i := 5) (.pointer (some ⟨gu, 0, none⟩)) (d := some 87) rfl (by kernel_rfl) (by kernel_rfl) (by kernel_rfl) (by kernel_rfl) (fun _ _ _ h => h) rfl (fun W hSw => by exact exec_ixI (oo := 0) (i := 0) rfl rfl rfl rfl (by omega)) (hS) rfl ?_
      simp only [Act.put, List.setIfInBounds_toArray, List.set_cons_zero, List.set_cons_succ]
      refine takeE (i := 6) (.int .i64 ((nx : Nat) : Int)) (d := some 88) rfl (by kernel_rfl) (by kernel_rfl) (by kernel_rfl) (by kernel_rfl) (fun _ _ _ h => h) rfl (fun W hSw => by exact exec_ldcellB rfl rfl ((cell_of_row _ _ 0 _ _ _ hSw.2).trans HGU.out.2.1)) (hS) rfl ?_
      simp only [Act.put, List.setIfInBounds_toArray, List.set_cons_zero, List.set_cons_succ]
      refine takeE (i := 7) (.slice (some ⟨g, 0, none⟩) 3 3) (d := some 89) rfl (by kernel_rfl) (by kernel_rfl) (by kernel_rfl) (by kernel_rfl) (fun _ _ _ h => h) rfl (fun W hSw => by exact exec_mv rfl rfl) (hS) rfl ?_
      simp only [Act.put, List.setIfInBounds_toArray, List.set_cons_zero, List.set_cons_succ]
      refine takeE (i := 8) (.pointer (some ⟨g, 2, none⟩)) (d := some 90) rfl (by kernel_rfl) (by kernel_rfl) (by kernel_rfl) (by kernel_rfl) (fun _ _ _ h => h) rfl (fun W hSw => by exact exec_ixW (oo := 0) (i := 2) rfl rfl rfl (by omega)) (hS) rfl ?_
      simp only [Act.put, List.setIfInBounds_toArray, List.set_cons_zero, List.set_cons_succ]
      refine stepD 9 (by kernel_rfl) rfl rfl (fun K hK => ?_)
      refine wpO_val (.string H) (exec_ldstrB rfl rfl hc4) ?_
      refine hK _ _ (fun _ => hS) ?_
      clear hK K
      simp only [Act.put, List.setIfInBounds_toArray, List.set_cons_zero, List.set_cons_succ]
      have hO4 := HO1.out.trans (OnlyR.below (B1 := B1) (z := z) hb4)
      have hd4 := HD1.out.below hb4
      have hs4 : B ≤ w4.heap.size := Nat.le_trans HN.out.2.2.2.2.2 hb4.size
      refine stepD 10 (by kernel_rfl) rfl rfl (fun K hK => ?_)
      refine wpO_call 18 #[.pointer (some ⟨b, 0, none⟩), .int .i64 ((nx : Nat) : Int), .string H] (exec_call3 rfl rfl rfl rfl rfl (by go_simp)) ((HSD.out w4 hO4 hs4 hd4).mono ?_)
      rintro e w5 ⟨he, hd5, ho5⟩
      refine ⟨_, he, ?_⟩
      have hS5 : w5.heap[z]? = some (.cells #[.pointer (some ⟨b, 0, none⟩)] 89 (0, 0)) ∧ w5.heap[gu]? = some (.cells cur 3 (0, 0)) := ⟨ho5.block z _ hS.1 (by have := HN.out; omega) (by have := HN.out; omega) (.inr rfl), ho5.block gu _ hS.2 (by have := HLT.out; have := HGU.out.2.2; omega) (by have := HLT.out; have := HGU.out.2.2; omega) (.inr rfl)⟩
      refine hK _ _ (fun _ => hS5) ?_
      clear hK K he
      have hO5 := hO4.trans (.only ho5 hd4 HN.out.2.2.1 HN.out.2.2.2.1 HN.out.2.2.2.2.1)
      have hs5 := Nat.le_trans hs4 ho5.size
      clear hO4 hd4 hs4 ho5 hS hc4 hb4
      simp only [Act.put, List.setIfInBounds_toArray, List.set_cons_zero, List.set_cons_succ]
      refine stepD 11 (by kernel_rfl) rfl rfl (fun K hK => ?_)
      go_simp
      refine hK _ _ (fun _ => hS5) ?_
      clear hK K
      refine doneD (by kernel_rfl) ?_ _
      refine OnlyNorm.normal ?_
      rename_i K hK
      change K _ _
      refine hK _ _ ?_
      clear hK K
      go_wp2_with fail
      go_ret
      exact ⟨rfl, hO5, ⟨HN.out.1, HN.out.2.1⟩, B, b, q, D.seal ((nx : Nat) : Int) H, hS5.1, hd5, HRA.out, HN.out.2.2.1, HN.out.2.2.2.1, HN.out.2.2.2.2.1, hs5⟩
end Go.Proofs.YtbcileppebpamaaGreatDoor
