/- The reference's Guess. -/
import Derived.Test.YtbcileppebpamaaGreatDoorGA
import Derived.Test.YtbcileppebpamaaGreatDoorWG
import Derived.Lib.ItoaLen
set_option linter.unusedSimpArgs false
set_option linter.unusedVariables false
namespace Go.Proofs.YtbcileppebpamaaGreatDoor
open Go Go.RowKit Go.Shelf
set_option maxRecDepth 100000

theorem hit_eq (H : ByteArray) (hH : isHashL H.data.toList = true) (p v : Nat) (s : ByteArray) : ((⟨(hashL (⟨(boxL ((p : Nat) : Int) ((v : Nat) : Int) s.data.toList).toArray⟩ : ByteArray).data.toList).toArray⟩ : ByteArray).toList == H.toList) = hit p (hexV H.data.toList) s v := by
  rw [bytes_beq, sameB, hit]
  have h := hash_num H.data.toList hH (sealN ((p : Nat) : Int) ((v : Nat) : Int) s.data.toList) (hashN_lt _ _ h0_lt)
  show (hex16 (hashN h0N (boxL ((p : Nat) : Int) ((v : Nat) : Int) s.data.toList)) == H.data.toList) = _
  by_cases e : sealN ((p : Nat) : Int) ((v : Nat) : Int) s.data.toList = hexV H.data.toList
  · rw [beq_iff_eq.2 e, beq_iff_eq]
    exact h.2 e
  · rw [beq_eq_false_iff_ne.2 e, beq_eq_false_iff_ne]
    exact fun e' => e (h.1 e')
theorem full_iff (m b : Nat) (hm : 0 < m) : 100000 / m < b ↔ 100000 < m * b := by
  rw [Nat.div_lt_iff_lt_mul hm, Nat.mul_comm]
theorem box_size (p v : Nat) (hp : p ≤ 30) (hv : v ≤ 1000000000) (s : ByteArray) (hs : isSaltL s.data.toList = true) : (⟨(boxL ((p : Nat) : Int) ((v : Nat) : Int) s.data.toList).toArray⟩ : ByteArray).size ≤ 1000000 := by
  have h1 := Lib.itoa_length_le ((p : Nat) : Int) (by omega) (by omega)
  have h2 := Lib.itoa_length_le ((v : Nat) : Int) (by omega) (by omega)
  rw [isSaltL, Bool.and_eq_true, Bool.and_eq_true, decide_eq_true_eq, decide_eq_true_eq] at hs
  show (boxL ((p : Nat) : Int) ((v : Nat) : Int) s.data.toList).toArray.size ≤ 1000000
  simp only [boxL, List.size_toArray, List.length_append, List.length_singleton]
  omega
theorem rGuess_form (H : ByteArray) (hsz : H.size ≤ 1000000) (p b : Int) (u : Value) (ss : List ByteArray) (w : World) (hr : ReadsT w u ss) (hH : isHashL H.data.toList = false) :
    Calls Tryz.prog 12 #[.string H, .int .i64 p, .int .i64 b, u] w fun e w' => e = gEnd (0, 0, ⟨#[]⟩, 4) ∧ Below w.heap.size w w' := by
  have HW1 := hid (fun W => rin_c p 1 30 W)
  have HW2 := hid (fun W => rin_c b 1 1000000000 W)
  have HIH := hid (fun W => rhex_c H hsz W)
  rw [hH] at HIH
  obtain ⟨q, cq, rfl⟩ := hr.form
  have hx := heap_alloc_new w (.cells #[.int .i64 0, .int .i64 0, .string ⟨#[]⟩] 27)
  have hal : Below w.heap.size w (w.alloc (.cells #[.int .i64 0, .int .i64 0, .string ⟨#[]⟩] 27)) := (Below.refl _ _).alloc (Nat.le_refl _) _
  have HX := hid (And.intro hx hal)
  have FL := hid trivial
  have hlt := heap_lt hx
  clear hr hx hal hsz
  go_enter Tryz.func12, Tryz.ntmps12
  go_upto_region 1 with fail
  generalize w.alloc (.cells #[.int .i64 0, .int .i64 0, .string ⟨#[]⟩] 27) = W0 at HX hlt ⊢
  obtain ⟨g, hg⟩ : ∃ g, w.heap.size = g := ⟨_, rfl⟩
  rw [hg] at HX hlt ⊢
  have HG := hid hg
  have HG6 := hid HX.out.1
  clear hg
  go_wp2_with (first
    | (go_at_call 42; refine (HIH.out _).mono ?_; rintro e w1 ⟨rfl, hw1⟩; subst w1)
    | (go_at_call 32; have hq := FL; clear hq FL; refine (HW1.out _).mono ?_; rintro e w2 ⟨rfl, rfl⟩)
    | (go_at_call 32; refine (HW2.out _).mono ?_; rintro e w2 ⟨rfl, rfl⟩)
    | (refine wpList_store_row rfl 27 (.tmp 8) (.tmp 17) rfl g #[.int .i64 0, .int .i64 0, .string ⟨#[]⟩] rfl rfl 27 _ HG6.out (show (Tryz.prog.info? 27).map (·.size) = some 3 by kernel_rfl) rfl (by simp [Value.oneCell']) ?_))
  refine bodyPost_ret (results_box Tryz.results12 rfl rfl (setRow_at HG6.out)) rfl ⟨rfl, ?_⟩
  rw [HG.out]
  exact HX.out.2.trans (setRow_below (Nat.le_refl g))
theorem rGuess_ran1 (H : ByteArray) (hsz : H.size ≤ 1000000) (p b : Int) (u : Value) (ss : List ByteArray) (w : World) (hr : ReadsT w u ss) (hH : isHashL H.data.toList = true) (hp : (decide (1 ≤ p) && decide (p ≤ 30)) = false) :
    Calls Tryz.prog 12 #[.string H, .int .i64 p, .int .i64 b, u] w fun e w' => e = gEnd (0, 0, ⟨#[]⟩, 3) ∧ Below w.heap.size w w' := by
  have HW1 := hid (fun W => rin_c p 1 30 W)
  have HW2 := hid (fun W => rin_c b 1 1000000000 W)
  have HIH := hid (fun W => rhex_c H hsz W)
  rw [hH] at HIH
  simp only [hp] at HW1
  obtain ⟨q, cq, rfl⟩ := hr.form
  have hx := heap_alloc_new w (.cells #[.int .i64 0, .int .i64 0, .string ⟨#[]⟩] 27)
  have hal : Below w.heap.size w (w.alloc (.cells #[.int .i64 0, .int .i64 0, .string ⟨#[]⟩] 27)) := (Below.refl _ _).alloc (Nat.le_refl _) _
  have HX := hid (And.intro hx hal)
  have FL := hid trivial
  have hlt := heap_lt hx
  clear hr hx hal hsz
  go_enter Tryz.func12, Tryz.ntmps12
  go_upto_region 1 with fail
  generalize w.alloc (.cells #[.int .i64 0, .int .i64 0, .string ⟨#[]⟩] 27) = W0 at HX hlt ⊢
  obtain ⟨g, hg⟩ : ∃ g, w.heap.size = g := ⟨_, rfl⟩
  rw [hg] at HX hlt ⊢
  have HG := hid hg
  have HG6 := hid HX.out.1
  clear hg
  go_wp2_with (first
    | (go_at_call 42; refine (HIH.out _).mono ?_; rintro e w1 ⟨rfl, hw1⟩; subst w1)
    | (go_at_call 32; have hq := FL; clear hq FL; refine (HW1.out _).mono ?_; rintro e w2 ⟨rfl, rfl⟩)
    | (go_at_call 32; refine (HW2.out _).mono ?_; rintro e w2 ⟨rfl, rfl⟩)
    | (refine wpList_store_row rfl 27 (.tmp 8) (.tmp 26) rfl g #[.int .i64 0, .int .i64 0, .string ⟨#[]⟩] rfl rfl 27 _ HG6.out (show (Tryz.prog.info? 27).map (·.size) = some 3 by kernel_rfl) rfl (by simp [Value.oneCell']) ?_))
  refine bodyPost_ret (results_box Tryz.results12 rfl rfl (setRow_at HG6.out)) rfl ⟨rfl, ?_⟩
  rw [HG.out]
  exact HX.out.2.trans (setRow_below (Nat.le_refl g))
theorem rGuess_ran2 (H : ByteArray) (hsz : H.size ≤ 1000000) (p b : Int) (u : Value) (ss : List ByteArray) (w : World) (hr : ReadsT w u ss) (hH : isHashL H.data.toList = true) (hp : (decide (1 ≤ p) && decide (p ≤ 30)) = true) (hb : (decide (1 ≤ b) && decide (b ≤ 1000000000)) = false) :
    Calls Tryz.prog 12 #[.string H, .int .i64 p, .int .i64 b, u] w fun e w' => e = gEnd (0, 0, ⟨#[]⟩, 3) ∧ Below w.heap.size w w' := by
  have HW1 := hid (fun W => rin_c p 1 30 W)
  have HW2 := hid (fun W => rin_c b 1 1000000000 W)
  have HIH := hid (fun W => rhex_c H hsz W)
  rw [hH] at HIH
  simp only [hp] at HW1
  simp only [hb] at HW2
  obtain ⟨q, cq, rfl⟩ := hr.form
  have hx := heap_alloc_new w (.cells #[.int .i64 0, .int .i64 0, .string ⟨#[]⟩] 27)
  have hal : Below w.heap.size w (w.alloc (.cells #[.int .i64 0, .int .i64 0, .string ⟨#[]⟩] 27)) := (Below.refl _ _).alloc (Nat.le_refl _) _
  have HX := hid (And.intro hx hal)
  have FL := hid trivial
  have hlt := heap_lt hx
  clear hr hx hal hsz
  go_enter Tryz.func12, Tryz.ntmps12
  go_upto_region 1 with fail
  generalize w.alloc (.cells #[.int .i64 0, .int .i64 0, .string ⟨#[]⟩] 27) = W0 at HX hlt ⊢
  obtain ⟨g, hg⟩ : ∃ g, w.heap.size = g := ⟨_, rfl⟩
  rw [hg] at HX hlt ⊢
  have HG := hid hg
  have HG6 := hid HX.out.1
  clear hg
  go_wp2_with (first
    | (go_at_call 42; refine (HIH.out _).mono ?_; rintro e w1 ⟨rfl, hw1⟩; subst w1)
    | (go_at_call 32; have hq := FL; clear hq FL; refine (HW1.out _).mono ?_; rintro e w2 ⟨rfl, rfl⟩)
    | (go_at_call 32; refine (HW2.out _).mono ?_; rintro e w2 ⟨rfl, rfl⟩)
    | (refine wpList_store_row rfl 27 (.tmp 8) (.tmp 26) rfl g #[.int .i64 0, .int .i64 0, .string ⟨#[]⟩] rfl rfl 27 _ HG6.out (show (Tryz.prog.info? 27).map (·.size) = some 3 by kernel_rfl) rfl (by simp [Value.oneCell']) ?_))
  refine bodyPost_ret (results_box Tryz.results12 rfl rfl (setRow_at HG6.out)) rfl ⟨rfl, ?_⟩
  rw [HG.out]
  exact HX.out.2.trans (setRow_below (Nat.le_refl g))
set_option maxHeartbeats 16000000 in
theorem rGuess_main (H : ByteArray) (hsz : H.size ≤ 1000000) (hH : isHashL H.data.toList = true) (pn bn : Nat) (hp : 1 ≤ pn ∧ pn ≤ 30) (hb : 1 ≤ bn ∧ bn ≤ 1000000000) (u : Value) (ss : List ByteArray) (w : World) (hr : ReadsT w u ss) (hl : ss.length ≤ 1000000) (hss : ∀ s ∈ ss, s.size ≤ 1000000) :
    Calls Tryz.prog 12 #[.string H, .int .i64 ((pn : Nat) : Int), .int .i64 ((bn : Nat) : Int), u] w fun e w' => e = gEnd (if allS ss = false then (0, 0, ⟨#[]⟩, 2) else if 100000 < ss.length * bn then (0, 0, ⟨#[]⟩, 8) else gRun pn bn (hexV H.data.toList) ss) ∧ Below w.heap.size w w' := by
  have hw1 := fun W => rin_c ((pn : Nat) : Int) 1 30 W
  have hw2 := fun W => rin_c ((bn : Nat) : Int) 1 1000000000 W
  simp only [decide_eq_true (show (1 : Int) ≤ ((pn : Nat) : Int) by omega), decide_eq_true (show ((pn : Nat) : Int) ≤ 30 by omega), Bool.and_self] at hw1
  simp only [decide_eq_true (show (1 : Int) ≤ ((bn : Nat) : Int) by omega), decide_eq_true (show ((bn : Nat) : Int) ≤ 1000000000 by omega), Bool.and_self] at hw2
  have HW1 := hid hw1
  have HW2 := hid hw2
  have HIH := hid (fun W => hH ▸ rhex_c H hsz W)
  have HHT := hid (fun v s => hit_eq H hH pn v s)
  obtain ⟨N, hN⟩ : ∃ N, hexV H.data.toList = N := ⟨_, rfl⟩
  rw [hN] at HHT ⊢
  obtain ⟨q, cq, rfl⟩ := hr.form
  obtain ⟨m, hm⟩ : ∃ m, ss.length = m := ⟨_, rfl⟩
  rw [hm] at hr hl ⊢
  obtain ⟨R, hR⟩ : ∃ R, (if allS ss = false then ((0, 0, ⟨#[]⟩, 2) : Int × Int × ByteArray × Int) else if 100000 < m * bn then (0, 0, ⟨#[]⟩, 8) else gRun pn bn N ss) = R := ⟨_, rfl⟩
  rw [hR]
  have HRR := hid hR
  have hx := heap_alloc_new w (.cells #[.int .i64 0, .int .i64 0, .string ⟨#[]⟩] 27)
  have hal : Below w.heap.size w (w.alloc (.cells #[.int .i64 0, .int .i64 0, .string ⟨#[]⟩] 27)) := (Below.refl _ _).alloc (Nat.le_refl _) _
  have HX := hid (And.intro hx hal)
  have HR := hid hr
  have HM := hid hm
  have HS := hid hss
  have FL := hid trivial
  have hlt := heap_lt hx
  clear hw1 hw2 hH hN hr hm hss hx hal hsz hR
  go_enter Tryz.func12, Tryz.ntmps12
  go_upto_region 1 with fail
  generalize w.alloc (.cells #[.int .i64 0, .int .i64 0, .string ⟨#[]⟩] 27) = W0 at HX hlt ⊢
  obtain ⟨g, hg⟩ : ∃ g, w.heap.size = g := ⟨_, rfl⟩
  rw [hg] at HX hlt ⊢
  have HG := hid hg
  have HG6 := hid HX.out.1
  clear hg
  go_wp2_with (first
    | (go_at_call 42; refine (HIH.out _).mono ?_; rintro e w1 ⟨rfl, hw1⟩; subst w1)
    | (go_at_call 32; have hq := FL; clear hq FL; refine (HW1.out _).mono ?_; rintro e w2 ⟨rfl, rfl⟩)
    | (go_at_call 32; refine (HW2.out _).mono ?_; rintro e w2 ⟨rfl, rfl⟩))
  go_loopw [10] (fun ix wr => ∃ i : Nat, i ≤ m ∧ ix = .int .i64 ((i : Nat) : Int) ∧ wr = W0 ∧ Aside (∀ s ∈ ss.take i, isSaltL s.data.toList = true)) (fun ix _ => m - (intOf ix).toNat)
  case atStart => exact ⟨0, by omega, rfl, rfl, fun s h => by simp at h⟩
  case round =>
    obtain ⟨i, hi, rfl, hwr, A⟩ := hrel
    subst wr
    rcases Nat.lt_or_ge i m with hlti | hge
    · have hin : decide (((i : Nat) : Int) < ((m : Nat) : Int)) = true := decide_eq_true (by omega)
      have hin' : ((i : Nat) : Int) < ((m : Nat) : Int) := by omega
      have hi0 : (0 : Int) ≤ ((i : Nat) : Int) := by omega
      have hiw : IntKind.i64.wrap (((i : Nat) : Int) + 1) = ((i + 1 : Nat) : Int) := (IntWalk.i64_in _ (by omega)).trans (by omega)
      obtain ⟨x, hx⟩ : ∃ x, ss[i]? = some x := ⟨_, List.getElem?_eq_getElem (by rw [HM.out]; exact hlti)⟩
      obtain ⟨bk, o, rfl, hbk, hc⟩ := HR.out.at' hx
      have hcr : W0.cell? ⟨bk, o + i, none⟩ = some (.string x) := (HX.out.2.cell (p := ⟨bk, o + i, none⟩) (HG.out ▸ hbk)).trans hc
      have HSA := hid (fun W => rsalt_c x (HS.out x (List.mem_of_getElem? hx)) W)
      cases hsx : isSaltL x.data.toList with
      | true =>
        rw [hsx] at HSA
        have hA2 : ∀ s ∈ ss.take (i + 1), isSaltL s.data.toList = true := fun s hs => by
          rw [List.take_add_one, hx] at hs
          rcases List.mem_append.1 hs with hs | hs
          · exact A s hs
          · simp at hs
            rw [hs]
            exact hsx
        have HA2 := hid hA2
        clear hx hbk hc hsx A hA2
        go_wp2_with (go_at_call 33; refine (HSA.out _).mono ?_; rintro e w1 ⟨rfl, hw1⟩; subst w1)
        go_roundw
        case rel => exact ⟨i + 1, by omega, rfl, trivial, HA2.out⟩
        case measure => simp only [intOf, Int.toNat_natCast]; omega
      | false =>
        rw [hsx] at HSA
        have hA : allS ss = false := by
          rw [allS, List.all_eq_false]
          exact ⟨x, List.mem_of_getElem? hx, by rw [hsx]; simp⟩
        have hR2 : R = (0, 0, ⟨#[]⟩, 2) := by rw [← HRR.out, hA, if_pos rfl]
        have HR2 := hid hR2
        clear hx hbk hc hsx A hA hR2
        go_wp2_with (first
          | (go_at_call 33; refine (HSA.out _).mono ?_; rintro e w1 ⟨rfl, hw1⟩; subst w1)
          | (refine wpList_store_row rfl 27 (.tmp 8) (.tmp 39) rfl g #[.int .i64 0, .int .i64 0, .string ⟨#[]⟩] rfl rfl 27 _ HG6.out (show (Tryz.prog.info? 27).map (·.size) = some 3 by kernel_rfl) rfl (by simp [Value.oneCell']) ?_))
        refine bodyPost_ret (results_box Tryz.results12 rfl rfl (setRow_at HG6.out)) rfl ⟨by rw [HR2.out]; rfl, ?_⟩
        rw [HG.out]
        exact HX.out.2.trans (setRow_below (Nat.le_refl g))
    · obtain rfl : m = i := by omega
      have hin : ¬ ((m : Nat) : Int) < ((m : Nat) : Int) := by omega
      have hinN : decide (m < m) = false := decide_eq_false (by omega)
      have hall : ∀ s ∈ ss, isSaltL s.data.toList = true := fun s hs => A s (by rw [List.take_of_length_le (by rw [HM.out]; exact hge)]; exact hs)
      have hR2 : R = if 100000 < m * bn then (0, 0, ⟨#[]⟩, 8) else gRun pn bn N ss := by rw [← HRR.out, show allS ss = true from List.all_eq_true.2 hall, if_neg (by simp)]
      have HSL := hid hall
      clear A hall
      have hb0 := Below.refl (g + 1) W0
      by_cases hm0 : 0 < m
      · have c0 : decide ((0 : Int) < ((m : Nat) : Int)) = true := decide_eq_true (by omega)
        have c0N : decide (0 < m) = true := decide_eq_true hm0
        have cn : (((m : Nat) : Int) == 0) = false := by simp; omega
        have cnz : ((m : Nat) : Int) ≠ 0 := by omega
        obtain ⟨qq, hqq⟩ : ∃ qq, 100000 / m = qq := ⟨_, rfl⟩
        have hq1 : qq ≤ 100000 := hqq ▸ Nat.div_le_self _ _
        have htd : Int.tdiv 100000 ((m : Nat) : Int) = ((qq : Nat) : Int) := by rw [← hqq]; rfl
        have hwq : IntKind.i64.wrap ((qq : Nat) : Int) = ((qq : Nat) : Int) := IntWalk.i64_in _ (by omega)
        have hdiv : (100000 : Int) / ((m : Nat) : Int) = ((qq : Nat) : Int) := by rw [← hqq]; rfl
        have hfi := full_iff m bn hm0
        rw [hqq] at hfi
        by_cases hf : 100000 < m * bn
        · rw [if_pos hf] at hR2
          have HR2 := hid hR2
          clear hR2
          have e1 : decide (((qq : Nat) : Int) < ((bn : Nat) : Int)) = true := decide_eq_true (by have := hfi.2 hf; omega)
          have e2 : decide (qq < bn) = true := decide_eq_true (hfi.2 hf)
          clear hf hfi hqq hm0 hb0
          go_wp2_with (refine wpList_store_row rfl 27 (.tmp 8) (.tmp 50) rfl g #[.int .i64 0, .int .i64 0, .string ⟨#[]⟩] rfl rfl 27 _ HG6.out (show (Tryz.prog.info? 27).map (·.size) = some 3 by kernel_rfl) rfl (by simp [Value.oneCell']) ?_)
          refine bodyPost_ret (results_box Tryz.results12 rfl rfl (setRow_at HG6.out)) rfl ⟨by rw [HR2.out]; rfl, ?_⟩
          rw [HG.out]
          exact HX.out.2.trans (setRow_below (Nat.le_refl g))
        · rw [if_neg hf] at hR2
          have HR2 := hid hR2
          clear hR2
          have e1 : decide (((qq : Nat) : Int) < ((bn : Nat) : Int)) = false := decide_eq_false (by have := mt hfi.1 hf; omega)
          have e2 : decide (qq < bn) = false := decide_eq_false (mt hfi.1 hf)
          clear hf hfi hqq
          go_wp2_with fail
          go_loopw [11] (fun ix wr => ∃ i : Nat, i ≤ m ∧ ix = .int .i64 ((i : Nat) : Int) ∧ Below (g + 1) W0 wr ∧ Aside (∀ (j : Nat) (s' : ByteArray), j < i → ss[j]? = some s' → ∀ v', v' < bn → hit pn N s' v' = false)) (fun ix _ => m - (intOf ix).toNat)
          case atStart => exact ⟨0, by omega, rfl, hb0, fun j s' h => absurd h (by omega)⟩
          case round =>
            clear hb0
            obtain ⟨i, hi, rfl, hb1, A⟩ := hrel
            rcases Nat.lt_or_ge i m with hlti | hge
            · have hin : decide (((i : Nat) : Int) < ((m : Nat) : Int)) = true := decide_eq_true (by omega)
              have hin' : ((i : Nat) : Int) < ((m : Nat) : Int) := by omega
              have hi0 : (0 : Int) ≤ ((i : Nat) : Int) := by omega
              have hiw : IntKind.i64.wrap (((i : Nat) : Int) + 1) = ((i + 1 : Nat) : Int) := (IntWalk.i64_in _ (by omega)).trans (by omega)
              obtain ⟨s, hs⟩ : ∃ x, ss[i]? = some x := ⟨_, List.getElem?_eq_getElem (by rw [HM.out]; exact hlti)⟩
              obtain ⟨bk, o, hqe, hbk, hc⟩ := HR.out.at' hs
              have hid0 : ∀ W, Below (g + 1) W0 W → W.cell? ⟨bk, o + i, none⟩ = some (.string s) := fun W hW => ((HX.out.2.trans (hW.mono (Nat.le_succ g))).cell (p := ⟨bk, o + i, none⟩) (HG.out ▸ hbk)).trans hc
              have hsx := HSL.out s (List.mem_of_getElem? hs)
              have HTX := hid (fun v (hv : v < bn) W => rtext_c pn v (by omega) (by omega) s (size_salt s hsx) W)
              have HHA := hid (fun v (hv : v < bn) W => rhash_c ⟨(boxL ((pn : Nat) : Int) ((v : Nat) : Int) s.data.toList).toArray⟩ (box_size pn v hp.2 (by omega) s hsx) W)
              have HSI := hid (And.intro hs hqe)
              have HC0 := hid hid0
              have HBI := hid hb1
              have HAI := hid A
              subst hqe
              clear hs hc hsx hb1 A hbk hid0
              go_wp2_with fail
              go_loopw [12] (fun ix wr => ∃ v : Nat, v ≤ bn ∧ ix = .int .i64 ((v : Nat) : Int) ∧ Below (g + 1) W0 wr ∧ Aside (∀ v', v' < v → hit pn N s v' = false)) (fun ix _ => bn - (intOf ix).toNat)
              case atStart => exact ⟨0, by omega, rfl, HBI.out, fun v' h => absurd h (by omega)⟩
              case round =>
                clear HBI
                obtain ⟨v, hv, rfl, hb2, A2⟩ := hrel
                rcases Nat.lt_or_ge v bn with hltv | hgev
                · have hinv : decide (((v : Nat) : Int) < ((bn : Nat) : Int)) = true := decide_eq_true (by omega)
                  have hinv' : ((v : Nat) : Int) < ((bn : Nat) : Int) := by omega
                  have hvw : IntKind.i64.wrap (((v : Nat) : Int) + 1) = ((v + 1 : Nat) : Int) := (IntWalk.i64_in _ (by omega)).trans (by omega)
                  have hcr := HC0.out wr hb2
                  have HA2 := hid A2
                  have HB2 := hid hb2
                  have hsz2 := hb2.size
                  have heq := HHT.out v s
                  obtain ⟨tx, htx⟩ : ∃ t : ByteArray, ⟨(boxL ((pn : Nat) : Int) ((v : Nat) : Int) s.data.toList).toArray⟩ = t := ⟨_, rfl⟩
                  have hT := HTX.out v hltv
                  have hA := HHA.out v hltv
                  obtain ⟨hx, hhx⟩ : ∃ t : ByteArray, ⟨(hashL (boxL ((pn : Nat) : Int) ((v : Nat) : Int) s.data.toList)).toArray⟩ = t := ⟨_, rfl⟩
                  rw [hhx] at hA heq
                  rw [htx] at hT hA
                  have HT := hid hT
                  have HA := hid hA
                  clear hb2 A2 hT hA htx hhx
                  have hz5 := heap_alloc_new wr (.cells #[.int .i64 ((pn : Nat) : Int), .int .i64 ((v : Nat) : Int), .string s] 27)
                  have hb5' : Below (g + 1) W0 (wr.alloc (.cells #[.int .i64 ((pn : Nat) : Int), .int .i64 ((v : Nat) : Int), .string s] 27)) := HB2.out.alloc (Nat.le_trans hlt hsz2) _
                  go_upto_region 19 with fail
                  generalize wr.alloc (.cells #[.int .i64 ((pn : Nat) : Int), .int .i64 ((v : Nat) : Int), .string s] 27) = w5 at hz5 hb5' ⊢
                  obtain ⟨z, hz⟩ : ∃ z, wr.heap.size = z := ⟨_, rfl⟩
                  rw [hz] at hz5 ⊢
                  have f0 := cell_of_row _ _ 0 _ _ _ hz5
                  have f1 := cell_of_row _ _ 1 _ _ _ hz5
                  have f2 := cell_of_row _ _ 2 _ _ _ hz5
                  have HN5 := hid (And.intro hz5 hb5')
                  clear hz5 hb5' hz hcr
                  cases hhit : hit pn N s v with
                  | true =>
                    rw [hhit] at heq
                    go_upto_region 20 with (first
                      | (go_at_call 10; refine (HT.out _).mono ?_; rintro e w6 ⟨rfl, hb6⟩; have hn6 := heap_below hb6 HN5.out.1 (heap_lt HN5.out.1); have HN6 := hid (And.intro hn6 (HN5.out.2.trans (hb6.mono (Nat.le_trans hlt HN5.out.2.size)))); clear hn6 hb6)
                      | (go_at_call 9; refine (HA.out _).mono ?_; rintro e w7 ⟨rfl, hb7⟩; have hn7 := heap_below hb7 HN6.out.1 (heap_lt HN6.out.1); have a0 := cell_of_row _ _ 0 _ _ _ hn7; have a1 := cell_of_row _ _ 1 _ _ _ hn7; have a2 := cell_of_row _ _ 2 _ _ _ hn7; have HB6 := hid (HN6.out.2.trans (hb7.mono (Nat.le_trans hlt HN6.out.2.size))); clear hn7 hb7))
                    have hg6 := heap_below HB6.out HX.out.1 (Nat.lt_succ_self g)
                    have HG7 := hid hg6
                    clear hg6
                    go_wp2_with (refine wpList_store_row rfl 27 (.tmp 8) (.tmp 74) rfl g #[.int .i64 ((pn : Nat) : Int), .int .i64 ((v : Nat) : Int), .string s] rfl rfl 27 _ HG7.out (show (Tryz.prog.info? 27).map (·.size) = some 3 by kernel_rfl) rfl (by simp [Value.oneCell']) ?_)
                    refine bodyPost_ret (results_box Tryz.results12 rfl rfl (setRow_at HG7.out)) rfl ⟨?_, ?_⟩
                    · rw [HR2.out]
                      exact GuessR.eq (.inl ⟨i, s, v, HSI.out.1, hltv, hhit, HAI.out, HA2.out, rfl⟩)
                    · rw [HG.out]
                      exact (HX.out.2.trans (HB6.out.mono (Nat.le_succ g))).trans (setRow_below (Nat.le_refl g))
                  | false =>
                    rw [hhit] at heq
                    have HH := hid hhit
                    clear hhit
                    go_wp2_with (first
                      | (go_at_call 10; refine (HT.out _).mono ?_; rintro e w6 ⟨rfl, hb6⟩; have HN6 := hid (HN5.out.2.trans (hb6.mono (Nat.le_trans hlt HN5.out.2.size))); clear hb6)
                      | (go_at_call 9; refine (HA.out _).mono ?_; rintro e w7 ⟨rfl, hb7⟩; have HB6 := hid (HN6.out.trans (hb7.mono (Nat.le_trans hlt HN6.out.size))); clear hb7))
                    go_roundw
                    case rel => exact ⟨v + 1, by omega, rfl, HB6.out, fun v' hv' => by
                      rcases Nat.lt_or_ge v' v with h | h
                      · exact HA2.out v' h
                      · obtain rfl : v' = v := by omega
                        exact HH.out⟩
                    case measure => simp only [intOf, Int.toNat_natCast]; omega
                · obtain rfl : v = bn := by omega
                  have hinv : ¬ ((v : Nat) : Int) < ((v : Nat) : Int) := by omega
                  have HB2 := hid hb2
                  have HA2 := hid A2
                  clear hb2 A2
                  go_wp2_with fail
                  go_roundw
                  case rel => exact ⟨i + 1, by omega, rfl, HB2.out, fun j s' hj hjs => by
                    rcases Nat.lt_or_ge j i with h | h
                    · exact HAI.out j s' h hjs
                    · obtain rfl : j = i := by omega
                      rw [HSI.out.1] at hjs
                      cases hjs
                      exact HA2.out⟩
                  case measure => simp only [intOf, Int.toNat_natCast]; omega
            · obtain rfl : m = i := by omega
              have hin : ¬ ((m : Nat) : Int) < ((m : Nat) : Int) := by omega
              have hg6 := heap_below hb1 HX.out.1 (Nat.lt_succ_self g)
              have HG7 := hid hg6
              have HB6 := hid hb1
              have HA6 := hid A
              clear hg6 hb1 A
              go_wp2_with (refine wpList_store_row rfl 27 (.tmp 8) (.tmp 75) rfl g #[.int .i64 0, .int .i64 0, .string ⟨#[]⟩] rfl rfl 27 _ HG7.out (show (Tryz.prog.info? 27).map (·.size) = some 3 by kernel_rfl) rfl (by simp [Value.oneCell']) ?_)
              refine bodyPost_ret (results_box Tryz.results12 rfl rfl (setRow_at HG7.out)) rfl ⟨?_, ?_⟩
              · rw [HR2.out]
                refine GuessR.eq (.inr ⟨fun s hs v hv => ?_, rfl⟩)
                obtain ⟨j, hj⟩ := List.mem_iff_getElem?.1 hs
                exact HA6.out j s (by rw [← HM.out]; exact (List.getElem?_eq_some_iff.1 hj).1) hj v hv
              · rw [HG.out]
                exact (HX.out.2.trans (HB6.out.mono (Nat.le_succ g))).trans (setRow_below (Nat.le_refl g))
      · obtain rfl : 0 = m := by omega
        rw [if_neg (by omega)] at hR2
        have HR2 := hid hR2
        clear hR2
        go_wp2_with fail
        go_loopw [11] (fun ix wr => ix = .int .i64 0 ∧ Below (g + 1) W0 wr) (fun ix _ => 0)
        case atStart => exact ⟨rfl, hb0⟩
        case round =>
          clear hb0
          obtain ⟨rfl, hb1⟩ := hrel
          have hg6 := heap_below hb1 HX.out.1 (Nat.lt_succ_self g)
          have HG7 := hid hg6
          have HB6 := hid hb1
          clear hg6 hb1
          go_wp2_with (refine wpList_store_row rfl 27 (.tmp 8) (.tmp 75) rfl g #[.int .i64 0, .int .i64 0, .string ⟨#[]⟩] rfl rfl 27 _ HG7.out (show (Tryz.prog.info? 27).map (·.size) = some 3 by kernel_rfl) rfl (by simp [Value.oneCell']) ?_)
          refine bodyPost_ret (results_box Tryz.results12 rfl rfl (setRow_at HG7.out)) rfl ⟨?_, ?_⟩
          · have hnil : ss = [] := List.eq_nil_of_length_eq_zero HM.out
            rw [HR2.out, hnil]
            rfl
          · rw [HG.out]
            exact (HX.out.2.trans (HB6.out.mono (Nat.le_succ g))).trans (setRow_below (Nat.le_refl g))
theorem rguess_c (H : ByteArray) (hsz : H.size ≤ 1000000) (p b : Int) (u : Value) (ss : List ByteArray) (w : World) (hr : ReadsT w u ss) (hl : ss.length ≤ 1000000) (hss : ∀ s ∈ ss, s.size ≤ 1000000) :
    Calls Tryz.prog 12 #[.string H, .int .i64 p, .int .i64 b, u] w fun e w' => e = gEnd (gx H p b ss) ∧ Below w.heap.size w w' := by
  unfold gx
  cases hH : isHashL H.data.toList with
  | false => rw [if_pos rfl]; exact rGuess_form H hsz p b u ss w hr hH
  | true =>
    rw [if_neg (by simp)]
    unfold gRan
    cases hp : (decide (1 ≤ p) && decide (p ≤ 30)) with
    | false => rw [Bool.false_and, if_pos rfl]; exact rGuess_ran1 H hsz p b u ss w hr hH hp
    | true =>
      cases hb : (decide (1 ≤ b) && decide (b ≤ 1000000000)) with
      | false => rw [if_pos (show (true && false) = false from rfl)]; exact rGuess_ran2 H hsz p b u ss w hr hH hp hb
      | true =>
        rw [if_neg (by simp)]
        have hp2 : 1 ≤ p ∧ p ≤ 30 := by simpa using hp
        have hb2 : 1 ≤ b ∧ b ≤ 1000000000 := by simpa using hb
        obtain ⟨pn, rfl⟩ : ∃ n : Nat, p = n := ⟨p.toNat, by omega⟩
        obtain ⟨bn, rfl⟩ : ∃ n : Nat, b = n := ⟨b.toNat, by omega⟩
        rw [Int.toNat_natCast, Int.toNat_natCast]
        exact rGuess_main H hsz hH pn bn (by omega) (by omega) u ss w hr hl hss
end Go.Proofs.YtbcileppebpamaaGreatDoor
