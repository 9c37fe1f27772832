/- Lemmas for WitnessDraws: part 24. -/
import Derived.Test.YtbcileppebpamaaGreatDoorKb23
set_option linter.unusedSimpArgs false
set_option linter.unusedVariables false
namespace Go.Proofs.YtbcileppebpamaaGreatDoor
open Go Go.RowKit Go.Shelf
set_option maxRecDepth 100000
theorem itoa_ne (n : Nat) : Lib.itoa ((n : Nat) : Int) ≠ [] := by
  by_cases h : n < 10
  · rw [itoa_one n h]; simp
  · rw [itoa_big n h, itoa_one (n % 10) (by omega)]; simp
theorem itoa_all (n : Nat) : (Lib.itoa ((n : Nat) : Int)).all digB = true := by
  have hd : ∀ d, d < 10 → digB (UInt8.ofNat (48 + d)) = true := fun d hd => by
    have h : (UInt8.ofNat (48 + d)).toNat = 48 + d := by rw [UInt8.toNat_ofNat']; omega
    rw [digB, h, decide_eq_true (by omega), decide_eq_true (by omega)]
    rfl
  induction n using Nat.strongRecOn with
  | _ n ih =>
    by_cases h : n < 10
    · rw [itoa_one n h, List.all_cons, hd n h]; rfl
    · rw [itoa_big n h, itoa_one (n % 10) (by omega), List.all_append, ih _ (by omega), List.all_cons, hd _ (by omega)]; rfl
theorem itoa_num (n : Nat) : numN (Lib.itoa ((n : Nat) : Int)) = n := by
  have hd : ∀ d, d < 10 → (UInt8.ofNat (48 + d)).toNat = 48 + d := fun d hd => by rw [UInt8.toNat_ofNat']; omega
  induction n using Nat.strongRecOn with
  | _ n ih =>
    by_cases h : n < 10
    · rw [itoa_one n h]
      show 10 * 0 + ((UInt8.ofNat (48 + n)).toNat - 48) = n
      rw [hd n h]
      omega
    · rw [itoa_big n h, itoa_one (n % 10) (by omega), numN_snoc, ih _ (by omega), hd _ (by omega)]
      omega
theorem itoa_head (n : Nat) (h1 : 1 ≤ n) : (Lib.itoa ((n : Nat) : Int)).head? ≠ some 48 := by
  induction n using Nat.strongRecOn with
  | _ n ih =>
    by_cases h : n < 10
    · rw [itoa_one n h]
      intro e
      have e1 : UInt8.ofNat (48 + n) = 48 := by simpa using e
      have e2 := congrArg UInt8.toNat e1
      rw [UInt8.toNat_ofNat'] at e2
      have : (48 : UInt8).toNat = 48 := rfl
      omega
    · rw [itoa_big n h]
      have h2 := ih (n / 10) (by omega) (by omega)
      intro e
      apply h2
      rw [List.head?_append] at e
      cases hh : (Lib.itoa ((n / 10 : Nat) : Int)).head? with
      | none => exact absurd (List.head?_eq_none_iff.1 hh) (itoa_ne _)
      | some x => rw [hh] at e; simpa using e
theorem itoa_len10 : ∀ (k n : Nat), n < 10 ^ (k + 1) → (Lib.itoa ((n : Nat) : Int)).length ≤ k + 1
  | 0, n, h => by rw [itoa_one n (by simpa using h)]; simp
  | k + 1, n, h => by
    by_cases h10 : n < 10
    · rw [itoa_one n h10]; simp
    · rw [itoa_big n h10, itoa_one (n % 10) (by omega), List.length_append]
      have := itoa_len10 k (n / 10) (by rw [Nat.pow_succ] at h; omega)
      rw [List.length_singleton]
      omega
theorem numB_itoa (n : Nat) (h : n ≤ 1000000000) : numB (Lib.itoa ((n : Nat) : Int)) = true := by
  have hl := itoa_len10 9 n (by omega)
  have hne : 1 ≤ (Lib.itoa ((n : Nat) : Int)).length := List.length_pos_iff.2 (itoa_ne n)
  rw [numB, itoa_all, decide_eq_true hne, decide_eq_true (by omega), lead0]
  by_cases h1 : 1 ≤ n
  · rw [show ((Lib.itoa ((n : Nat) : Int)).head? == some 48) = false from beq_eq_false_iff_ne.2 (itoa_head n h1)]
    rfl
  · obtain rfl : n = 0 := by omega
    rw [show Lib.itoa ((0 : Nat) : Int) = [UInt8.ofNat (48 + 0)] from itoa_one 0 (by decide)]
    rfl
theorem itoa_int (p : Int) (h : 0 ≤ p) : ∃ m : Nat, p = ((m : Nat) : Int) := ⟨p.toNat, by omega⟩
/-- A line as the laws write it. -/
def Norm (x : RL) : Prop := (x.k = 1 ∧ x.v = 0 ∧ x.s = ⟨#[]⟩) ∨ (x.k = 2 ∧ x.h = ⟨#[]⟩) ∨ (x.k = 3 ∧ x.p = 0 ∧ x.v = 0 ∧ x.h = ⟨#[]⟩ ∧ x.s = ⟨#[]⟩)
theorem lineL_form (ws : List ByteArray) (hne : ws ≠ []) (h : ∀ c : UInt8, c.toNat < 48 → ∀ w ∈ ws.map (·.data.toList), c ∉ w) : ∃ y, lineL ws = y ++ [10] ∧ (10 : UInt8) ∉ y ∧ wordsL 32 y = ws.map (·.data.toList) :=
  ⟨_, rfl, mem_join 10 [32] _ (h 10 (by decide)) (by decide), wordsL_of 32 _ (by simpa using hne) (h 32 (by decide))⟩
theorem arr_eta (s : ByteArray) : (⟨s.data.toList.toArray⟩ : ByteArray) = s := by cases s; simp
theorem line_back {b n : Nat} (hb : b ≤ 1000000000) (hn : n ≤ 30) {x : RL} (hF : Fit b n x) (hN : Norm x) : ∃ y, txtL x = y ++ [10] ∧ (10 : UInt8) ∉ y ∧ lineOf y = some x := by
  obtain ⟨k, h, p, v, s⟩ := x
  rcases hF with ⟨h1, h2, h3⟩ | ⟨h1, h2, h3, h4⟩ | ⟨h1, h2⟩
  · simp only at h1 h2 h3
    subst h1
    obtain ⟨m, rfl⟩ := itoa_int p (by omega)
    obtain ⟨y, e1, e2, e3⟩ := lineL_form (sealW ((m : Nat) : Int) h) (by simp [sealW]) (fun c hc => sealW_no c hc m h h3)
    refine ⟨y, by rw [txtL, if_pos rfl, e1], e2, ?_⟩
    rw [line_w, e3]
    show lineW [wSe, Lib.itoa ((m : Nat) : Int), h.data.toList] = _
    rw [lineW, if_pos ⟨rfl, numB_itoa m (by omega), h3⟩, itoa_num, arr_eta]
    rcases hN with ⟨_, q1, q2⟩ | ⟨q, _⟩ | ⟨q, _⟩
    · simp only at q1 q2
      rw [q1, q2]
    · exact absurd q (by show ¬ (1 : Int) = 2; decide)
    · exact absurd q (by show ¬ (1 : Int) = 3; decide)
  · simp only at h1 h2 h3 h4
    subst h1
    obtain ⟨m, rfl⟩ := itoa_int p (by omega)
    obtain ⟨u, rfl⟩ := itoa_int v (by omega)
    obtain ⟨y, e1, e2, e3⟩ := lineL_form (openW ((m : Nat) : Int) ((u : Nat) : Int) s) (by simp [openW]) (fun c hc => openW_no c hc m u s h4)
    refine ⟨y, by rw [txtL, if_neg (by show ¬ (2 : Int) = 1; decide), if_pos rfl, e1], e2, ?_⟩
    rw [line_w, e3]
    show lineW [wOp, Lib.itoa ((m : Nat) : Int), Lib.itoa ((u : Nat) : Int), s.data.toList] = _
    rw [lineW, if_pos ⟨rfl, ⟨numB_itoa m (by omega), numB_itoa u (by omega)⟩, h4⟩, itoa_num, itoa_num, arr_eta]
    rcases hN with ⟨q, _⟩ | ⟨_, q1⟩ | ⟨q, _⟩
    · exact absurd q (by show ¬ (2 : Int) = 1; decide)
    · simp only at q1
      rw [q1]
    · exact absurd q (by show ¬ (2 : Int) = 3; decide)
  · simp only at h1 h2
    subst h1
    refine ⟨wCl, by rw [txtL, if_neg (by show ¬ (3 : Int) = 1; decide), if_neg (by show ¬ (3 : Int) = 2; decide)]; rfl, by decide, ?_⟩
    rcases hN with ⟨q, _⟩ | ⟨q, _⟩ | ⟨_, q1, q2, q3, q4⟩
    · exact absurd q (by show ¬ (3 : Int) = 1; decide)
    · exact absurd q (by show ¬ (3 : Int) = 2; decide)
    · simp only at q1 q2 q3 q4
      rw [q1, q2, q3, q4]
      rfl
theorem first_back {b n : Nat} (hb : b ≤ 1000000000) (hn : n ≤ 30) : ∃ y, lineL (newW b n) = y ++ [10] ∧ (10 : UInt8) ∉ y ∧ firstOf y = some (b, n) := by
  obtain ⟨y, e1, e2, e3⟩ := lineL_form (newW b n) (by simp [newW]) (fun c hc => newW_no c hc b n)
  refine ⟨y, e1, e2, ?_⟩
  rw [first_w, e3]
  show firstW [wDr, Lib.itoa ((b : Nat) : Int), Lib.itoa ((n : Nat) : Int)] = _
  rw [firstW, if_pos ⟨rfl, numB_itoa b hb, numB_itoa n (by omega)⟩, itoa_num, itoa_num]
/-- Lines that were taken one after another. -/
def Built (b n : Nat) (ls : List RL) : Prop := ∀ (i : Nat) x, ls[i]? = some x → addE b n (ls.take i) x = 0 ∧ Norm x
theorem Built.nil (b n : Nat) : Built b n [] := fun i x h => by simp at h
theorem Built.add {b n : Nat} {ls : List RL} (h : Built b n ls) (x : RL) (hN : Norm x) : Built b n (addL b n ls x) := by
  unfold addL
  by_cases hE : addE b n ls x = 0
  · rw [if_pos hE]
    intro i y hy
    rcases Nat.lt_or_ge i ls.length with hi | hi
    · rw [List.getElem?_append_left hi] at hy
      rw [List.take_append_of_le_length (by omega)]
      exact h i y hy
    · have hil := (List.getElem?_eq_some_iff.1 hy).1
      simp at hil
      obtain rfl : i = ls.length := by omega
      rw [List.getElem?_append_right (Nat.le_refl _), Nat.sub_self] at hy
      cases hy
      rw [List.take_left]
      exact ⟨hE, hN⟩
  · rw [if_neg hE]
    exact h
theorem lineT_body (st : Option St) (y : List UInt8) : lineT st (y ++ [10]) = readT st y := by rw [lineT, if_pos (by simp), List.dropLast_concat]
theorem good_back {b n : Nat} (hb : b ≤ 1000000000) (hn : n ≤ 30) {ls : List RL} (hB : Built b n ls) (hF : ∀ x ∈ ls, Fit b n x) : ∀ (k : Nat), k ≤ ls.length → goodT (some (b, n, ls.take (ls.length - k))) ((ls.drop (ls.length - k)).map txtL) = some (some (b, n, ls))
  | 0, _ => by rw [Nat.sub_zero, List.drop_length, List.take_length]; rfl
  | k + 1, hk => by
    have hi : ls.length - (k + 1) < ls.length := by omega
    obtain ⟨x, hx⟩ : ∃ x, ls[ls.length - (k + 1)]? = some x := ⟨_, List.getElem?_eq_getElem hi⟩
    obtain ⟨hE, hN⟩ := hB _ x hx
    obtain ⟨y, e1, e2, e3⟩ := line_back hb hn (hF x (List.mem_of_getElem? hx)) hN
    have hd : ls.drop (ls.length - (k + 1)) = x :: ls.drop (ls.length - k) := by
      rw [List.drop_eq_getElem_cons hi, show ls.length - (k + 1) + 1 = ls.length - k by omega, (List.getElem?_eq_some_iff.1 hx).2]
    have ht : ls.take (ls.length - k) = ls.take (ls.length - (k + 1)) ++ [x] := by
      rw [show ls.length - k = ls.length - (k + 1) + 1 by omega, List.take_add_one, hx]
      rfl
    have hr : readT (some (b, n, ls.take (ls.length - (k + 1)))) y = (some (b, n, ls.take (ls.length - k)), 0) := by
      rw [readT_some, ← line_w, e3]
      simp only
      rw [hE, addL, if_pos hE, ht]
    rw [hd, List.map_cons, e1, goodT, lineT_body, hr, if_pos rfl]
    exact good_back hb hn hB hF k (by omega)
theorem lines_write {b n : Nat} (hb : b ≤ 1000000000) (hn : n ≤ 30) : ∀ (ls : List RL), (∀ x ∈ ls, Fit b n x ∧ Norm x) → linesL (ls.flatMap txtL) = ls.map txtL
  | [], _ => rfl
  | x :: ls, h => by
    obtain ⟨hF, hN⟩ := h x (List.mem_cons_self ..)
    obtain ⟨y, e1, e2, _⟩ := line_back hb hn hF hN
    rw [List.flatMap_cons, List.map_cons, e1, List.append_assoc, List.singleton_append, linesL_app _ y e2, lines_write hb hn ls fun z hz => h z (List.mem_cons_of_mem _ hz)]
/-- A transcript is read back. -/
theorem audit_back {b n : Nat} (hb : 1 ≤ b ∧ b ≤ 1000000000) (hn : 1 ≤ n ∧ n ≤ 30) {ls : List RL} (hB : Built b n ls) (hF : ∀ x ∈ ls, Fit b n x) (hl : (writeL b n ls).length ≤ 20000) : auditL (writeL b n ls) = (some (b, n, ls), 0, 0) := by
  obtain ⟨y, e1, e2, e3⟩ := first_back hb.2 hn.2
  have hN : ∀ x ∈ ls, Fit b n x ∧ Norm x := fun x hx => by
    obtain ⟨i, hi⟩ := List.mem_iff_getElem?.1 hx
    exact ⟨hF x hx, (hB i x hi).2⟩
  have hlin : linesL (writeL b n ls) = (y ++ [10]) :: ls.map txtL := by
    rw [writeL, e1, List.append_assoc, List.singleton_append, linesL_app _ y e2, lines_write hb.2 hn.2 ls hN]
  have hg : goodT none (linesL (writeL b n ls)) = some (some (b, n, ls)) := by
    rw [hlin, goodT, lineT_body]
    have hr : readT none y = (some (b, n, []), 0) := by
      rw [readT_none, ← first_w, e3]
      simp only
      rw [if_pos ⟨hb.1, hb.2, hn.1, hn.2⟩]
    rw [hr, if_pos rfl]
    have := good_back hb.2 hn.2 hB hF ls.length (Nat.le_refl _)
    rw [Nat.sub_self] at this
    exact this
  have ha := audT_good (linesL (writeL b n ls)) [] none _ 0 hg
  rw [List.append_nil] at ha
  rw [auditL, if_neg (by omega), ha]
  rfl
end Go.Proofs.YtbcileppebpamaaGreatDoor
set_option linter.unusedSimpArgs false
set_option linter.unusedVariables false
namespace Go.Proofs.YtbcileppebpamaaGreatDoor
open Go Go.RowKit Go.Shelf
set_option maxRecDepth 100000
theorem exec_eq00 {ev : Operand → Value} {o : Oper} {x y : Operand} {W : World} (ho : o.op = .binOp .eql 31 x y 31) (hx : ev x = .int .i64 0) (hy : ev y = .int .i64 0) : (execOp ev o).run Tryz.prog W = .ok (.value (.bool true)) W := by
  simp [execOp, ho, hx, hy]
  go_simp
theorem exec_eq01 {ev : Operand → Value} {o : Oper} {x y : Operand} {W : World} (ho : o.op = .binOp .eql 3 x y 3) (hx : ev x = .int .i64 0) (hy : ev y = .int .i64 0) : (execOp ev o).run Tryz.prog W = .ok (.value (.bool true)) W := by
  simp [execOp, ho, hx, hy]
  go_simp
theorem new_len (b n : Nat) (hb : b ≤ 1000000000) (hn : n ≤ 30) : (lineL (newW b n)).length ≤ 100 := by
  have h1 := itoa_len b hb
  have h2 := itoa_len n (by omega)
  show (Lib.join [wDr, Lib.itoa ((b : Nat) : Int), Lib.itoa ((n : Nat) : Int)] [32] ++ [10]).length ≤ 100
  rw [join_cons2, join_cons2, Lib.join_one]
  simp only [List.length_append, List.length_cons, List.length_nil]
  have : wDr.length = 4 := rfl
  omega
theorem write_len (b n : Nat) (hb : b ≤ 1000000000) (hn : n ≤ 30) (ls : List RL) (hT : OkT ls) (hl : ls.length ≤ 41) : (writeL b n ls).length ≤ 5000 := by
  have h1 := new_len b n hb hn
  have h2 := flat_le ls (txt_le ls hT)
  rw [writeL, List.length_append]
  omega
set_option maxHeartbeats 8000000 in
theorem told_c (V : World) {B b q : Nat} {D : DS} {bl n : Nat} {ls : List RL} {v : Value} (L : LaidW V) (hML : ∃ m, V.cell? ⟨2, 0, none⟩ = some (.int .i64 m)) (hd : DrawAt V B b q D) (hR : Rel bl n D ls) (hbl : 1 ≤ bl ∧ bl ≤ 1000000000) (hn : 1 ≤ n ∧ n ≤ 30) (hB : Built bl n ls) (hl : ls.length ≤ 41) (hr : ReadsL V v ls) :
    Calls Tryz.prog 17 #[.pointer (some ⟨b, 0, none⟩), .agg #[.int .i64 ((bl : Nat) : Int), .int .i64 ((n : Nat) : Int), v]] V fun e V' => e = .returned (.bool true) ∧ Below V.heap.size V V' := by
  have hT := hR.okT hbl.2 hn.2
  have hwl := write_len bl n hbl.2 hn.2 ls hT hl
  have hps : D.ps.length ≤ 30 := by rw [hR.len]; exact hn.2
  have hdv : D.devs.length ≤ 30 := Nat.le_trans (devFrom_len _ _ _) hps
  have hab := audit_back hbl hn hB hR.fit (by omega)
  obtain ⟨pv, cv, rfl⟩ := hr.form
  obtain ⟨lv, hlv⟩ : ∃ lv, ls.length = lv := ⟨_, rfl⟩
  rw [hlv] at hr ⊢
  have hx := heap_alloc_new V (.cells #[.int .i64 ((bl : Nat) : Int), .int .i64 ((n : Nat) : Int), .slice pv lv cv] 49)
  have hal : Below V.heap.size V (V.alloc (.cells #[.int .i64 ((bl : Nat) : Int), .int .i64 ((n : Nat) : Int), .slice pv lv cv] 49)) := (Below.refl _ _).alloc (Nat.le_refl _) _
  obtain ⟨g, hg⟩ : ∃ g, V.heap.size = g := ⟨_, rfl⟩
  have hVA := fun W (hW : Below V.heap.size V W) => Value_c (hd.below hW) hps (by rw [hR.below]; exact hbl)
  rw [hR.val (by omega), hR.valE] at hVA
  have hDE := fun W (hW : Below V.heap.size V W) => Deviants_in (hd.below hW).dev hps hdv
  rw [hR.devs] at hDE
  have htx := hR.txt
  have hTX := fun W (hW : Below V.heap.size V W) => TextD_c (hd.below hW) (by rw [hR.lsl]; omega) (by rw [hR.lsl, hlv]; omega) (by rw [htx]; omega)
  rw [htx] at hTX
  have hRV := fun W (hW : Below V.heap.size V W) => rvalue_c bl n (by omega) hbl.2 (by omega) (.slice pv lv cv) ls W (hr.below hW) (by omega) hT.okB
  have hRW := fun W (hW : Below V.heap.size V W) => rwrite_c bl n hbl.2 (by omega) (.slice pv lv cv) ls W (hr.below hW) (by omega) hT
  have hRD := fun W (hW : Below V.heap.size V W) => rdevs_c ((bl : Nat) : Int) n (by omega) (.slice pv lv cv) ls W (hr.below hW) (by omega) hT.okB
  have hRR := fun W (hW : Below V.heap.size V W) => rreport_c bl n (by omega) hbl.2 (by omega) (.slice pv lv cv) ls W (hr.below hW) (by omega) hT.okB
  have hdl2 : (devL ls n).length ≤ 30 := by rw [← hR.devs]; exact hdv
  have hAU := fun W (hW : Below V.heap.size V W) => (Audit_c (writeL bl n ls) (by omega) W (L.below hW) (max_below hML hW)).mono fun e w' h => (show (∃ u, e = .returned (.tuple #[.agg (repV bl n (overL n ls) (repN bl n ls) u), .int .i64 0, .int .i64 0]) ∧ DvO w' W.heap.size u (devL ls n)) ∧ Below W.heap.size W w' from ⟨by have h1 := h.1; unfold AudR at h1; rw [hab] at h1; exact h1, h.2⟩)
  obtain ⟨TX, hTXe⟩ : ∃ TX : ByteArray, ⟨(writeL bl n ls).toArray⟩ = TX := ⟨_, rfl⟩
  rw [hTXe] at hTX hRW hAU
  obtain ⟨v1, hv1⟩ : ∃ x : Int, (((valL bl n ls).1 : Nat) : Int) = x := ⟨_, rfl⟩
  obtain ⟨v2, hv2⟩ : ∃ x : Int, (valL bl n ls).2 = x := ⟨_, rfl⟩
  rw [hv1, hv2] at hVA hRV
  have e1 : (v1 != v1) = false := by simp
  have e2 : (v2 != v2) = false := by simp
  have e3 : (TX.toList != TX.toList) = false := by simp
  rw [hg] at hx hal ⊢
  simp only [hg] at hVA hDE hTX hRV hRW hRD hRR hAU
  have HVA := hid hVA
  have HDE := hid hDE
  have HTX := hid hTX
  have HRV := hid hRV
  have HRW := hid hRW
  have HRD := hid hRD
  have HRR := hid hRR
  have HAU := hid hAU
  have HX := hid hx
  have HAL := hid hal
  have HDL := hid hdl2
  have HG := hid hg
  clear hT hwl hps hdv hab hR hB hl hd hr hVA hDE hTX hRV hRW hRD hRR hAU hx hal hML L hlv htx hdl2 hTXe hv1 hv2 hbl hn
  go_enter Tryz.func17, Tryz.ntmps17
  go_upto_region 1 with fail
  generalize V.alloc (.cells #[.int .i64 ((bl : Nat) : Int), .int .i64 ((n : Nat) : Int), .slice pv lv cv] 49) = w1 at HX HAL ⊢
  have HX1 := hid HX.out
  have HB1 := hid HAL.out
  have HGE := HG
  go_upto_region 8 with (first
    | (go_at_call 23; refine (HVA.out w1 HB1.out).mono ?_; rintro e w2 ⟨rfl, hb2⟩; have hq2 := heap_below hb2 HX1.out (heap_lt HX1.out); have HX2 := hid hq2; have HB2 := hid (HB1.out.trans (hb2.mono (by have h9 := HB1.out.size; have h8 := HG.out; omega))); clear hq2 hb2)
    | (go_at_call 24; refine (HDE.out w2 HB2.out).mono ?_; rintro e w3 ⟨u3, rfl, hu3, hb3⟩; obtain ⟨p3, c3, rfl⟩ := hu3.form; have HU3 := hid hu3.readsD; clear hu3; have hq3 := heap_below hb3 HX2.out (heap_lt HX2.out); have HX3 := hid hq3; have HB3 := hid (HB2.out.trans (hb3.mono (by have h9 := HB2.out.size; have h8 := HG.out; omega))); clear hq3 hb3)
    | (go_at_call 25; refine (HTX.out w3 HB3.out).mono ?_; rintro e w4 ⟨rfl, hb4⟩; have HU4 := hid (HU3.out.below hb4); have hq4 := heap_below hb4 HX3.out (heap_lt HX3.out); have HX4 := hid hq4; have k0 := cell_of_row _ _ 0 _ _ _ hq4; have k1 := cell_of_row _ _ 1 _ _ _ hq4; have k2 := cell_of_row _ _ 2 _ _ _ hq4; have HB4 := hid (HB3.out.trans (hb4.mono (by have h9 := HB3.out.size; have h8 := HG.out; omega))); clear hq4 hb4)
    | (go_at_call 53; refine (HRV.out w4 HB4.out).mono ?_; rintro e w5 ⟨rfl, hb5⟩; clear k0 k1 k2; have HU5 := hid (HU4.out.below hb5); have hq5 := heap_below hb5 HX4.out (heap_lt HX4.out); have HX5 := hid hq5; have k0 := cell_of_row _ _ 0 _ _ _ hq5; have k1 := cell_of_row _ _ 1 _ _ _ hq5; have k2 := cell_of_row _ _ 2 _ _ _ hq5; have HB5 := hid (HB4.out.trans (hb5.mono (by have h9 := HB4.out.size; have h8 := HG.out; omega))); clear hq5 hb5)
    | (go_at_call 54; refine (HRW.out w5 HB5.out).mono ?_; rintro e w6 ⟨rfl, hb6⟩; clear k0 k1 k2; have HU6 := hid (HU5.out.below hb6); have hq6 := heap_below hb6 HX5.out (heap_lt HX5.out); have HX6 := hid hq6; have k0 := cell_of_row _ _ 0 _ _ _ hq6; have k1 := cell_of_row _ _ 1 _ _ _ hq6; have k2 := cell_of_row _ _ 2 _ _ _ hq6; have HB6 := hid (HB5.out.trans (hb6.mono (by have h9 := HB5.out.size; have h8 := HG.out; omega))); clear hq6 hb6)
    | (go_at_call 55; refine (HRD.out w6 HB6.out).mono ?_; rintro e w7 ⟨u7, rfl, hu7, hb7⟩; clear k0 k1 k2; obtain ⟨p7, c7, rfl⟩ := hu7.form; have HS7 := hid (samedev_c (.slice p3 (devL ls n).length c3) (.slice p7 (devL ls n).length c7) (devL ls n) w7 (HU6.out.below hb7) hu7.readsD (Nat.le_trans HDL.out (by decide))); clear hu7; have hq7 := heap_below hb7 HX6.out (heap_lt HX6.out); have HX7 := hid hq7; have HB7 := hid (HB6.out.trans (hb7.mono (by have h9 := HB6.out.size; have h8 := HG.out; omega))); clear hq7 hb7)
    | (go_at_call 28; refine HS7.out.mono ?_; rintro e w8 ⟨rfl, hb8⟩; have HX8 := hid (heap_below hb8 HX7.out (heap_lt HX7.out)); have HB8 := hid (HB7.out.trans (hb8.mono (by have h9 := HB7.out.size; have h8 := HG.out; omega))); clear hb8)
    | (go_at_call 13; refine (HAU.out w8 HB8.out).mono ?_; rintro e w9 ⟨⟨ua, rfl, hua⟩, hb9⟩; obtain ⟨pa, ca, rfl⟩ := hua.form; have HU9 := hid hua.readsD; have HX9 := hid (heap_below hb9 HX8.out (heap_lt HX8.out)); have HB9 := hid (HB8.out.trans (hb9.mono (by have h9 := HB8.out.size; have h8 := HG.out; omega))); clear hua hb9)
    | (refine wpList_store_rowTo rfl 37 (.tmp 13) (.tmp 68) rfl rfl w9.heap.size (repV bl n (overL n ls) (repN bl n ls) (.slice pa (devL ls n).length ca)) rfl rfl 37 _ (heap_alloc_new w9 _) (by kernel_rfl) rfl (repV_one _ _ _ _ _ _ _) ?_; obtain ⟨hqa, hba⟩ := alloc_row (W := w9) (cs := (repV bl n (overL n ls) (repN bl n ls) (.slice pa (devL ls n).length ca))) (T := 37) (old := #[.int .i64 0, .int .i64 0, .bool false, .int .i64 0, .slice none 0 0]) rfl; have HX10 := hid (heap_below hba HX9.out (heap_lt HX9.out)); have HU10 := hid (HU9.out.below hba); have HB10 := hid (HB9.out.trans (hba.mono (by have h9 := HB9.out.size; have h8 := HG.out; omega))); generalize (w9.alloc (.cells #[.int .i64 0, .int .i64 0, .bool false, .int .i64 0, .slice none 0 0] 37)).setRow w9.heap.size (repV bl n (overL n ls) (repN bl n ls) (.slice pa (devL ls n).length ca)) = w10 at hqa HX10 HU10 HB10 ⊢; obtain ⟨ga, hga⟩ : ∃ q, w9.heap.size = q := ⟨_, rfl⟩; rw [hga] at hqa ⊢; have HQA := hid hqa; clear hqa hba hga))
  refine regD (fun W => W.heap[ga]? = some (.cells (repV bl n (overL n ls) (repN bl n ls) (.slice pa (devL ls n).length ca)) 37 (0, 0)) ∧ W.heap[g]? = some (.cells #[.int .i64 ((bl : Nat) : Int), .int .i64 ((n : Nat) : Int), .slice pv lv cv] 49 (0, 0))) (fun _ => true) (by kernel_rfl) ?_
  have hbd : Below w10.heap.size w10 w10.drew := below_drewN (Below.refl _ _) 1
  have hS : w10.drew.heap[ga]? = some (.cells (repV bl n (overL n ls) (repN bl n ls) (.slice pa (devL ls n).length ca)) 37 (0, 0)) ∧ w10.drew.heap[g]? = some (.cells #[.int .i64 ((bl : Nat) : Int), .int .i64 ((n : Nat) : Int), .slice pv lv cv] 49 (0, 0)) := ⟨HQA.out, HX10.out⟩
  have hu := HU10.out.below hbd
  have hb := HB10.out.trans (hbd.mono (by have h9 := HB10.out.size; have h8 := HG.out; omega))
  clear hbd
  generalize w10.drew = w11 at hS hu hb ⊢
  refine takeE (i := 0) (.int .i64 0) (d := some 71) rfl (by kernel_rfl) (by kernel_rfl) (by kernel_rfl) (by kernel_rfl) (fun _ _ _ h => h) rfl (fun W hSw => by exact exec_mv rfl rfl) (hS) rfl ?_
  simp only [Act.put, List.setIfInBounds_toArray, List.set_cons_zero, List.set_cons_succ]
  refine takeE (i := 1) (.bool true) (d := some 72) rfl (by kernel_rfl) (by kernel_rfl) (by kernel_rfl) (by kernel_rfl) (fun _ _ _ h => h) rfl (fun W hSw => by exact exec_eq00 rfl rfl rfl) (hS) rfl ?_
  simp only [Act.put, List.setIfInBounds_toArray, List.set_cons_zero, List.set_cons_succ]
  refine takeE (i := 2) (.bool true) (d := some 73) rfl (by kernel_rfl) (by kernel_rfl) (by kernel_rfl) (by kernel_rfl) (fun _ _ _ h => h) rfl (fun W hSw => by exact exec_mv rfl rfl) (hS) rfl ?_
  simp only [Act.put, List.setIfInBounds_toArray, List.set_cons_zero, List.set_cons_succ]
  refine takeY (i := 3) (.int .i64 0) (d := some 74) rfl (by kernel_rfl) (by kernel_rfl) (by kernel_rfl) (by kernel_rfl) (fun _ _ _ h => h) (by kernel_rfl) (fun W hSw => by exact exec_mv rfl rfl) (hS) rfl ?_
  simp only [Act.put, List.setIfInBounds_toArray, List.set_cons_zero, List.set_cons_succ]
  refine takeY (i := 4) (.bool true) (d := some 75) rfl (by kernel_rfl) (by kernel_rfl) (by kernel_rfl) (by kernel_rfl) (fun _ _ _ h => h) (by kernel_rfl) (fun W hSw => by exact exec_eq01 rfl rfl rfl) (hS) rfl ?_
  simp only [Act.put, List.setIfInBounds_toArray, List.set_cons_zero, List.set_cons_succ]
  refine takeE (i := 5) (.bool true) (d := some 76) rfl (by kernel_rfl) (by kernel_rfl) (by kernel_rfl) (by kernel_rfl) (fun _ _ _ h => h) rfl (fun W hSw => by exact exec_pick rfl rfl rfl) (hS) rfl ?_
  simp only [Act.put, List.setIfInBounds_toArray, List.set_cons_zero, List.set_cons_succ]
  refine takeE (i := 6) (.bool true) (d := some 77) rfl (by kernel_rfl) (by kernel_rfl) (by kernel_rfl) (by kernel_rfl) (fun _ _ _ h => h) rfl (fun W hSw => by exact exec_mv rfl rfl) (hS) rfl ?_
  simp only [Act.put, List.setIfInBounds_toArray, List.set_cons_zero, List.set_cons_succ]
  refine takeY (i := 7) (.agg (repV bl n (overL n ls) (repN bl n ls) (.slice pa (devL ls n).length ca))) (d := some 78) rfl (by kernel_rfl) (by kernel_rfl) (by kernel_rfl) (by kernel_rfl) (fun _ _ _ h => h) (by kernel_rfl) (fun W hSw => by exact exec_ldRep rfl rfl hSw.1 rfl) (hS) rfl ?_
  simp only [Act.put, List.setIfInBounds_toArray, List.set_cons_zero, List.set_cons_succ]
  refine takeY (i := 8) (.agg #[.int .i64 ((bl : Nat) : Int), .int .i64 ((n : Nat) : Int), .slice pv lv cv]) (d := some 79) rfl (by kernel_rfl) (by kernel_rfl) (by kernel_rfl) (by kernel_rfl) (fun _ _ _ h => h) (by kernel_rfl) (fun W hSw => by exact exec_ldDr rfl rfl hSw.2) (hS) rfl ?_
  simp only [Act.put, List.setIfInBounds_toArray, List.set_cons_zero, List.set_cons_succ]
  refine stepY 9 (by kernel_rfl) rfl (by kernel_rfl) (fun K hK => ?_)
  refine wpO_call 50 #[.agg #[.int .i64 ((bl : Nat) : Int), .int .i64 ((n : Nat) : Int), .slice pv lv cv]] (exec_call1 rfl rfl rfl (by go_simp)) ((HRR.out w11 hb).mono ?_)
  rintro e w12 ⟨ur, he, hur, hb12⟩
  obtain ⟨pr, cr, rfl⟩ := hur.form
  refine ⟨_, he, ?_⟩
  have hS12 : w12.heap[ga]? = some (.cells (repV bl n (overL n ls) (repN bl n ls) (.slice pa (devL ls n).length ca)) 37 (0, 0)) ∧ w12.heap[g]? = some (.cells #[.int .i64 ((bl : Nat) : Int), .int .i64 ((n : Nat) : Int), .slice pv lv cv] 49 (0, 0)) := ⟨heap_below hb12 hS.1 (heap_lt hS.1), heap_below hb12 hS.2 (heap_lt hS.2)⟩
  refine hK _ _ (fun _ => hS12) ?_
  have hsr := samerep_c bl n (overL n ls) (repN bl n ls) (.slice pa (devL ls n).length ca) (.slice pr (devL ls n).length cr) (devL ls n) w12 (hu.below hb12) hur.readsD (Nat.le_trans HDL.out (by decide))
  have hb13 := hb.trans (hb12.mono (by have h9 := hb.size; have h8 := HG.out; omega))
  clear hK K he hS hu hb hur hb12
  simp only [Act.put, List.setIfInBounds_toArray, List.set_cons_zero, List.set_cons_succ]
  refine stepY 10 (by kernel_rfl) rfl (by kernel_rfl) (fun K hK => ?_)
  refine wpO_call 15 #[.agg (repV bl n (overL n ls) (repN bl n ls) (.slice pa (devL ls n).length ca)), .agg (repV bl n (overL n ls) (repN bl n ls) (.slice pr (devL ls n).length cr))] (exec_call2 rfl rfl rfl rfl (by go_simp)) (hsr.mono ?_)
  rintro e w13 ⟨he, hbx⟩
  refine ⟨_, he, ?_⟩
  have hS13 : w13.heap[ga]? = some (.cells (repV bl n (overL n ls) (repN bl n ls) (.slice pa (devL ls n).length ca)) 37 (0, 0)) ∧ w13.heap[g]? = some (.cells #[.int .i64 ((bl : Nat) : Int), .int .i64 ((n : Nat) : Int), .slice pv lv cv] 49 (0, 0)) := ⟨heap_below hbx hS12.1 (heap_lt hS12.1), heap_below hbx hS12.2 (heap_lt hS12.2)⟩
  refine hK _ _ (fun _ => hS13) ?_
  have hb14 := hb13.trans (hbx.mono (by have h9 := hb13.size; have h8 := HG.out; omega))
  clear hK K he hS12 hb13 hbx hsr
  simp only [Act.put, List.setIfInBounds_toArray, List.set_cons_zero, List.set_cons_succ]
  refine stepD 11 (by kernel_rfl) rfl rfl (fun K hK => ?_)
  refine wpO_val (.bool true) (exec_pick rfl rfl rfl) ?_
  refine hK _ _ (fun _ => hS13) ?_
  clear hK K
  simp only [Act.put, List.setIfInBounds_toArray, List.set_cons_zero, List.set_cons_succ]
  refine stepD 12 (by kernel_rfl) rfl rfl (fun K hK => ?_)
  go_simp
  refine hK _ _ (fun _ => hS13) ?_
  clear hK K hS13
  refine doneD (by kernel_rfl) ?_ _
  refine OnlyNorm.normal ?_
  rename_i K hK xq
  change K _ _
  refine hK _ _ ?_
  clear hK K
  go_wp2_with fail
  go_ret
  exact ⟨rfl, hb14⟩
end Go.Proofs.YtbcileppebpamaaGreatDoor
set_option linter.unusedSimpArgs false
set_option linter.unusedVariables false
namespace Go.Proofs.YtbcileppebpamaaGreatDoor
open Go Go.RowKit Go.Shelf
set_option maxRecDepth 100000
theorem sealNil_c (p : Int) (h : ByteArray) (W : World) : Calls Tryz.prog 18 #[.pointer none, .int .i64 p, .string h] W fun e W' => e = .returned (.int .i64 1) ∧ W = W' := by
  go_enter Tryz.func18, Tryz.ntmps18
  go_wp2_with fail
  go_ret
  exact ⟨rfl, rfl⟩
theorem closeNil_c (W : World) : Calls Tryz.prog 22 #[.pointer none] W fun e W' => e = .returned (.int .i64 1) ∧ W = W' := by
  go_enter Tryz.func22, Tryz.ntmps22
  go_wp2_with fail
  go_ret
  exact ⟨rfl, rfl⟩
theorem openNil_c (p v : Int) (s : ByteArray) (W : World) : Calls Tryz.prog 20 #[.pointer none, .agg #[.int .i64 p, .int .i64 v, .string s]] W fun e W' => e = .returned (.tuple #[.bool false, .int .i64 1]) ∧ Below W.heap.size W W' := by
  have hal : Below W.heap.size W (W.alloc (.cells #[.int .i64 p, .int .i64 v, .string s] 27)) := (Below.refl _ _).alloc (Nat.le_refl _) _
  have HAL := hid hal
  clear hal
  go_enter Tryz.func20, Tryz.ntmps20
  go_wp2_with fail
  go_ret2
  exact ⟨rfl, HAL.out⟩
theorem devNil_c (W : World) : Calls Tryz.prog 24 #[.pointer none] W fun e W' => e = .returned (.tuple #[.slice none 0 0, .int .i64 1]) ∧ W = W' := by
  go_enter Tryz.func24, Tryz.ntmps24
  go_wp2_with fail
  go_ret2
  exact ⟨rfl, rfl⟩
theorem textNil_c (W : World) : Calls Tryz.prog 25 #[.pointer none] W fun e W' => e = .returned (.tuple #[.string ⟨#[]⟩, .int .i64 1]) ∧ W = W' := by
  go_enter Tryz.func25, Tryz.ntmps25
  go_wp2_with fail
  go_ret2
  exact ⟨rfl, rfl⟩
attribute [local go_sem] Oper.semAt_some in
theorem valueNil_in (W : World) : CallsIn Fence.wide 4 Tryz.prog 23 #[.pointer none] W fun e W' => e = .returned (.tuple #[.int .i64 0, .int .i64 1]) ∧ Below W.heap.size W W' := by
  have hx := alloc2_first W (.cells #[.int .i64 0] 3) (.cells #[.int .i64 0] 31)
  have hy := alloc2_second W (.cells #[.int .i64 0] 3) (.cells #[.int .i64 0] 31)
  have hb := below2 W (.cells #[.int .i64 0] 3) (.cells #[.int .i64 0] 31)
  obtain ⟨g, hg⟩ : ∃ g, W.heap.size = g := ⟨_, rfl⟩
  rw [hg] at hx hy hb ⊢
  have hs2 : g + 1 < ((W.alloc (.cells #[.int .i64 0] 3)).alloc (.cells #[.int .i64 0] 31)).heap.size := heap_lt hy
  have HX : Hid (Boxed ((W.alloc (.cells #[.int .i64 0] 3)).alloc (.cells #[.int .i64 0] 31)) g 3 (.int .i64 0)) := hid hx
  have HY : Hid (Boxed ((W.alloc (.cells #[.int .i64 0] 3)).alloc (.cells #[.int .i64 0] 31)) (g + 1) 31 (.int .i64 0)) := hid hy
  have HB := hid hb
  refine callsIn_of_wp_marks Tryz.func23 rfl trivial ?_ rfl
  simp only [Tryz.ntmps23, List.size_toArray, List.length_cons, List.length_nil, Nat.reduceAdd, Nat.reduceSub, Array.replicate_succ, Array.replicate_zero, List.push_toArray, List.append_toArray, List.nil_append, List.cons_append]
  clear hx hy hb
  gi_upto_region 1 with fail
  generalize (W.alloc (.cells #[.int .i64 0] 3)).alloc (.cells #[.int .i64 0] 31) = W1 at HX HY HB hs2 ⊢
  clear hg
  have c0 := HX.out.cell
  have f0 := HX.out.frozen
  have c1 := HY.out.cell
  have f1 := HY.out.frozen
  gi_wp2_with fail
  refine leaves_marks g [] _ List.nodup_nil (fun M hM => by cases hM) (fun W' hb' hc' => ?_)
  have hB2 := boxed2 HX.out HY.out (.int .i64 0) (.int .i64 1)
  exact ⟨_, results_cell2 Tryz.results23 rfl rfl Tryz.isAgg3 Tryz.isAgg31 (hc' _ _ hB2.1 rfl) (hc' _ _ hB2.2 rfl), rfl, ((HB.out.setCell (p := ⟨g, 0, none⟩) (show g ≤ g by omega) (.int .i64 0)).setCell (p := ⟨g + 1, 0, none⟩) (show g ≤ g + 1 by omega) (.int .i64 1)).trans hb'⟩
theorem valueNil_c (W : World) : Calls Tryz.prog 23 #[.pointer none] W fun e W' => e = .returned (.tuple #[.int .i64 0, .int .i64 1]) ∧ Below W.heap.size W W' :=
  callsIn_wide.1 (valueNil_in W)
/-- A deed of the law. -/
structure Dd where
  k : Nat
  p : Int
  h : ByteArray
  q : Int
  v : Int
  s : ByteArray
def Dd.cells (x : Dd) : List Value := [.int .u8 ((x.k : Nat) : Int), .int .i64 x.p, .string x.h, .int .i64 x.q, .int .i64 x.v, .string x.s]
def ReadsDd (w : World) (v : Value) (ds : List Dd) : Prop := (ds = [] ∧ ∃ a c, v = .slice a 0 c) ∨ ∃ g o c, v = .slice (some ⟨g, o, none⟩) ds.length c ∧ g < w.heap.size ∧ ∀ (i : Nat) x, ds[i]? = some x → ∀ k, k < 6 → w.cell? ⟨g, o + i * 6 + k, none⟩ = x.cells[k]?
theorem ReadsDd.form {w : World} {v : Value} {ds : List Dd} (h : ReadsDd w v ds) : ∃ p c, v = .slice p ds.length c := by
  rcases h with ⟨rfl, a, c, rfl⟩ | ⟨g, o, c, rfl, _⟩
  · exact ⟨a, c, rfl⟩
  · exact ⟨_, _, rfl⟩
theorem ReadsDd.at' {w w' : World} {p : Option Addr} {n c : Nat} {ds : List Dd} (h : ReadsDd w (.slice p n c) ds) (hb : Below w.heap.size w w') {i : Nat} {x : Dd} (hi : ds[i]? = some x) : ∃ b o, p = some ⟨b, o, none⟩ ∧ w'.cell? ⟨b, o + i * 6, none⟩ = some (.int .u8 ((x.k : Nat) : Int)) ∧ w'.cell? ⟨b, o + i * 6 + 1, none⟩ = some (.int .i64 x.p) ∧ w'.cell? ⟨b, o + i * 6 + 2, none⟩ = some (.string x.h) ∧ w'.cell? ⟨b, o + i * 6 + 3, none⟩ = some (.int .i64 x.q) ∧ w'.cell? ⟨b, o + i * 6 + 4, none⟩ = some (.int .i64 x.v) ∧ w'.cell? ⟨b, o + i * 6 + 5, none⟩ = some (.string x.s) := by
  rcases h with ⟨rfl, _⟩ | ⟨g, o, c', h1, h2, h3⟩
  · simp at hi
  · injection h1 with e1 _ _
    have h4 : ∀ k, k < 6 → w'.cell? ⟨g, o + i * 6 + k, none⟩ = x.cells[k]? := fun k hk => (hb.cell (p := ⟨g, o + i * 6 + k, none⟩) h2).trans (h3 i x hi k hk)
    exact ⟨g, o, e1, h4 0 (by omega), h4 1 (by omega), h4 2 (by omega), h4 3 (by omega), h4 4 (by omega), h4 5 (by omega)⟩
theorem DrawAt.typB {W : World} {B b q : Nat} {D : DS} (h : DrawAt W B b q D) {g : Nat} {cs : Array Value} {T : TypeId} {z : Nat × Nat} (hg : W.heap[g]? = some (.cells cs T z)) (hT : T ≠ 100) : g ≠ b := by
  rintro rfl
  obtain ⟨vl, hx, _⟩ := h.box
  rw [hx] at hg
  exact hT (Obj.cells.inj (Option.some.inj hg)).2.1.symm
theorem DrawAt.typQ {W : World} {B b q : Nat} {D : DS} (h : DrawAt W B b q D) {g : Nat} {cs : Array Value} {T : TypeId} {z : Nat × Nat} (hg : W.heap[g]? = some (.cells cs T z)) (hT : T ≠ 114) : g ≠ q := by
  rintro rfl
  have hx := h.row
  rw [hx] at hg
  exact hT (Obj.cells.inj (Option.some.inj hg)).2.1.symm
theorem OnlyD.kept {W W' : World} {B b q : Nat} {D : DS} (hO : OnlyD B b q W W') (hd : DrawAt W B b q D) {g : Nat} {cs : Array Value} {T : TypeId} {z : Nat × Nat} (hg : W.heap[g]? = some (.cells cs T z)) (h1 : T ≠ 100) (h2 : T ≠ 114) (h3 : (T == 9) = false) : W'.heap[g]? = some (.cells cs T z) :=
  hO.block g _ hg (hd.typB hg h1) (hd.typQ hg h2) (.inr h3)
theorem ReadsL.only {W W' : World} {B b q : Nat} {D : DS} {v : Value} {ls : List RL} (h : ReadsL W v ls) (hd : DrawAt W B b q D) (hO : OnlyD B b q W W') : ReadsL W' v ls := by
  rcases h with h | ⟨g, o, c, h1, ⟨h2, cur, z, h4⟩, h3⟩
  · exact .inl h
  · have h5 := hO.kept hd h4 (by decide) (by decide) (by decide)
    refine .inr ⟨g, o, c, h1, ⟨Nat.lt_of_lt_of_le h2 hO.size, cur, z, h5⟩, fun i x hx k hk => ?_⟩
    rw [← h3 i x hx k hk]
    simp only [World.cell?, h4, h5]
theorem DrawAt.other {W W' : World} {B b q z : Nat} {D : DS} {row : Array Value} {y : Nat × Nat} (h : DrawAt W B b q D) (hz : W.heap[z]? = some (.cells row 49 y)) (hk : ∀ g, g ≠ z → W'.heap[g]? = W.heap[g]?) : DrawAt W' B b q D := by
  obtain ⟨vl, h1, h2⟩ := h.box
  have hzb := h.typB hz (by decide)
  have hzq := h.typQ hz (by decide)
  refine ⟨⟨vl, by rw [hk _ (Ne.symm hzb)]; exact h1, ⟨h2.1, h2.2.imp id fun ⟨g, cap, cur, h3, h4, h5, h6⟩ => ⟨g, cap, cur, h3, h4, ?_, h6⟩⟩⟩, by rw [hk _ (Ne.symm hzq)]; exact h.row⟩
  rw [hk]
  · exact h5
  · rintro rfl
    rw [hz] at h5
    exact absurd (Obj.cells.inj (Option.some.inj h5)).2.1 (by decide)
/-- The drawing and the reference's. -/
structure DI (w V : World) (B b q gr bl n : Nat) (D : DS) (ls : List RL) (v : Value) : Prop where
  d : DrawAt V B b q D
  gg : V.heap[gr]? = some (.cells #[.int .i64 ((bl : Nat) : Int), .int .i64 ((n : Nat) : Int), v] 49 (0, 0))
  l : ReadsL V v ls
  bw : Below w.heap.size w V
  wB : w.heap.size ≤ B
  wg : w.heap.size ≤ gr
  Bb : B ≤ b
  Bq : B ≤ q
theorem DI.sz {w V : World} {B b q gr bl n : Nat} {D : DS} {ls : List RL} {v : Value} (h : DI w V B b q gr bl n D ls v) : B ≤ V.heap.size := by
  obtain ⟨vl, h1, _⟩ := h.d.box
  exact Nat.le_trans h.Bb (Nat.le_of_lt (heap_lt h1))
theorem DI.below {w V V' : World} {B b q gr bl n : Nat} {D : DS} {ls : List RL} {v : Value} (h : DI w V B b q gr bl n D ls v) (hb : Below V.heap.size V V') : DI w V' B b q gr bl n D ls v :=
  ⟨h.d.below hb, heap_below hb h.gg (heap_lt h.gg), h.l.below hb, h.bw.trans (hb.mono (Nat.le_trans h.wB h.sz)), h.wB, h.wg, h.Bb, h.Bq⟩
theorem DI.only {w V V' : World} {B b q gr bl n : Nat} {D D' : DS} {ls : List RL} {v : Value} (h : DI w V B b q gr bl n D ls v) (hd : DrawAt V' B b q D') (hO : OnlyD B b q V V') : DI w V' B b q gr bl n D' ls v :=
  ⟨hd, hO.kept h.d h.gg (by decide) (by decide) (by decide), h.l.only h.d hO, h.bw.trans ((hO.toB h.Bb h.Bq h.sz).mono h.wB), h.wB, h.wg, h.Bb, h.Bq⟩
theorem DI.set {w V : World} {B b q gr bl n : Nat} {D : DS} {ls ls' : List RL} {v v' : Value} (h : DI w V B b q gr bl n D ls v) (hl : ReadsL V v' ls') : DI w (V.setRow gr #[.int .i64 ((bl : Nat) : Int), .int .i64 ((n : Nat) : Int), v']) B b q gr bl n D ls' v' :=
  ⟨h.d.other h.gg (fun _ hne => setRow_ne hne), setRow_at h.gg, hl.setRow3 h.gg (by simp), h.bw.trans (setRow_below h.wg), h.wB, h.wg, h.Bb, h.Bq⟩
end Go.Proofs.YtbcileppebpamaaGreatDoor
