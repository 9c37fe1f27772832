/- Walks of the reference: Salt, Digits, Text, Box. -/
import Derived.Test.YtbcileppebpamaaGreatDoorWX
import Derived.Lib.ItoaLen
set_option linter.unusedSimpArgs false
set_option linter.unusedVariables false
namespace Go.Proofs.YtbcileppebpamaaGreatDoor
open Go Go.RowKit Go.Shelf
set_option maxRecDepth 100000

set_option maxHeartbeats 4000000 in
theorem rsalt_c (s : ByteArray) (hs : s.size ≤ 1000000) (w : World) :
    Calls Tryz.prog 33 #[.string s] w fun e w' => e = .returned (.bool (isSaltL s.data.toList)) ∧ w' = w := by
  obtain ⟨l, hl⟩ : ∃ l, s.data.toList = l := ⟨_, rfl⟩
  obtain ⟨m, hm⟩ : ∃ m, s.size = m := ⟨_, rfl⟩
  have hlm : l.length = m := by rw [← hl, Array.length_toList, ← hm]; rfl
  have hm63 : m ≤ 1000000 := by omega
  rw [hl]
  obtain ⟨r, hr⟩ : ∃ r, isSaltL l = r := ⟨_, rfl⟩
  rw [hr]
  have HR := hid hr
  have HL := hid hl
  have HLM := hid hlm
  have hr2 : (decide (1 ≤ m) && decide (m ≤ 20) && l.all saltB) = r := by rw [← hr, isSaltL, hlm]
  have HR2 := hid hr2
  clear hr hl hs hr2 hlm
  by_cases h1 : m < 1
  · have d1 : decide (((m : Nat) : Int) < 1) = true := decide_eq_true (by omega)
    have d1' : decide (m < 1) = true := decide_eq_true h1
    have hr3 : r = false := by rw [← HR2.out, decide_eq_false (by omega)]; rfl
    subst hr3
    clear h1
    go_enter Tryz.func33, Tryz.ntmps33
    go_wp2_with fail
    go_ret
    exact ⟨rfl, rfl⟩
  · have d1 : decide (((m : Nat) : Int) < 1) = false := decide_eq_false (by omega)
    have d1' : decide (m < 1) = false := decide_eq_false h1
    by_cases h2 : 20 < m
    · have d2 : decide ((20 : Int) < ((m : Nat) : Int)) = true := decide_eq_true (by omega)
      have d2' : decide (20 < m) = true := decide_eq_true h2
      have hr3 : r = false := by rw [← HR2.out, decide_eq_false (show ¬ m ≤ 20 by omega), Bool.and_false, Bool.false_and]
      subst hr3
      clear h1 h2
      go_enter Tryz.func33, Tryz.ntmps33
      go_wp2_with fail
      go_ret
      exact ⟨rfl, rfl⟩
    · have d2 : decide ((20 : Int) < ((m : Nat) : Int)) = false := decide_eq_false (by omega)
      have d2' : decide (20 < m) = false := decide_eq_false h2
      have hlim : 1 ≤ m ∧ m ≤ 20 := by omega
      clear h1 h2
      go_enter Tryz.func33, Tryz.ntmps33
      go_wp2_with fail
      go_loopw [3] (fun ix wr => ∃ i : Nat, i ≤ m ∧ ix = .int .i64 ((i : Nat) : Int) ∧ (l.take i).all saltB = true ∧ wr = w) (fun ix _ => m - (intOf ix).toNat)
      case atStart => exact ⟨0, by omega, rfl, rfl, rfl⟩
      case round =>
        obtain ⟨i, hi, rfl, hA, rfl⟩ := hrel
        rcases Nat.lt_or_ge i m with hlt | hge
        · have hin : decide (((i : Nat) : Int) < ((m : Nat) : Int)) = true := decide_eq_true (by omega)
          have hin' : ((i : Nat) : Int) < ((m : Nat) : Int) := by omega
          have hiw : IntKind.i64.wrap (((i : Nat) : Int) + 1) = ((i + 1 : Nat) : Int) := (IntWalk.i64_in _ (by omega)).trans (by omega)
          obtain ⟨cb, hcb⟩ : ∃ c, l[i]? = some c := ⟨_, List.getElem?_eq_getElem (by rw [HLM.out]; exact hlt)⟩
          obtain ⟨c, hcc⟩ : ∃ c, cb.toNat = c := ⟨_, rfl⟩
          have hc256 : c < 256 := hcc ▸ cb.toNat_lt
          have hgi : ∀ h : i < s.size, (s[i]'h).toNat = c := fun h => by
            have h2 : (s.data.toList)[i]? = some cb := by rw [HL.out]; exact hcb
            obtain ⟨h3, h4⟩ := List.getElem?_eq_some_iff.1 h2
            rw [← hcc, ← h4]
            rfl
          have h : c < 48 ∨ (48 ≤ c ∧ c ≤ 57) ∨ (58 ≤ c ∧ c ≤ 96) ∨ (97 ≤ c ∧ c ≤ 122) ∨ 123 ≤ c := by omega
          rcases h with h | h | h | h | h
          · have el97 : decide (((c : Nat) : Int) < 97) = true := decide_eq_true (by omega)
            have nl97 : decide (c < 97) = true := decide_eq_true (by omega)
            have eg122 : decide ((122 : Int) < ((c : Nat) : Int)) = false := decide_eq_false (by omega)
            have ng122 : decide (122 < c) = false := decide_eq_false (by omega)
            have el48 : decide (((c : Nat) : Int) < 48) = true := decide_eq_true (by omega)
            have nl48 : decide (c < 48) = true := decide_eq_true (by omega)
            have eg57 : decide ((57 : Int) < ((c : Nat) : Int)) = false := decide_eq_false (by omega)
            have ng57 : decide (57 < c) = false := decide_eq_false (by omega)
            have hno : isSaltL l = false := by
              rw [isSaltL, show l.all saltB = false from (by
                rw [Bool.eq_false_iff]
                intro ha
                have := List.all_eq_true.1 ha cb (List.mem_of_getElem? hcb)
                simp [saltB, hcc] at this
                omega), Bool.and_false]
            rw [HR.out] at hno
            subst hno
            clear hA hcb hcc h
            go_wp2_with fail
            go_ret
            exact ⟨rfl, rfl⟩
          · have el97 : decide (((c : Nat) : Int) < 97) = true := decide_eq_true (by omega)
            have nl97 : decide (c < 97) = true := decide_eq_true (by omega)
            have eg122 : decide ((122 : Int) < ((c : Nat) : Int)) = false := decide_eq_false (by omega)
            have ng122 : decide (122 < c) = false := decide_eq_false (by omega)
            have el48 : decide (((c : Nat) : Int) < 48) = false := decide_eq_false (by omega)
            have nl48 : decide (c < 48) = false := decide_eq_false (by omega)
            have eg57 : decide ((57 : Int) < ((c : Nat) : Int)) = false := decide_eq_false (by omega)
            have ng57 : decide (57 < c) = false := decide_eq_false (by omega)
            have hall : (l.take (i + 1)).all saltB = true := by
              rw [List.take_add_one, hcb, List.all_append, hA]
              simp [saltB, hcc]
              omega
            have HAL := hid hall
            clear hall hA hcb hcc h
            go_wp2_with fail
            go_roundw
            case rel => exact ⟨i + 1, by omega, rfl, HAL.out, trivial⟩
            case measure => simp only [intOf, Int.toNat_natCast]; omega
          · have el97 : decide (((c : Nat) : Int) < 97) = true := decide_eq_true (by omega)
            have nl97 : decide (c < 97) = true := decide_eq_true (by omega)
            have eg122 : decide ((122 : Int) < ((c : Nat) : Int)) = false := decide_eq_false (by omega)
            have ng122 : decide (122 < c) = false := decide_eq_false (by omega)
            have el48 : decide (((c : Nat) : Int) < 48) = false := decide_eq_false (by omega)
            have nl48 : decide (c < 48) = false := decide_eq_false (by omega)
            have eg57 : decide ((57 : Int) < ((c : Nat) : Int)) = true := decide_eq_true (by omega)
            have ng57 : decide (57 < c) = true := decide_eq_true (by omega)
            have hno : isSaltL l = false := by
              rw [isSaltL, show l.all saltB = false from (by
                rw [Bool.eq_false_iff]
                intro ha
                have := List.all_eq_true.1 ha cb (List.mem_of_getElem? hcb)
                simp [saltB, hcc] at this
                omega), Bool.and_false]
            rw [HR.out] at hno
            subst hno
            clear hA hcb hcc h
            go_wp2_with fail
            go_ret
            exact ⟨rfl, rfl⟩
          · have el97 : decide (((c : Nat) : Int) < 97) = false := decide_eq_false (by omega)
            have nl97 : decide (c < 97) = false := decide_eq_false (by omega)
            have eg122 : decide ((122 : Int) < ((c : Nat) : Int)) = false := decide_eq_false (by omega)
            have ng122 : decide (122 < c) = false := decide_eq_false (by omega)
            have el48 : decide (((c : Nat) : Int) < 48) = false := decide_eq_false (by omega)
            have nl48 : decide (c < 48) = false := decide_eq_false (by omega)
            have eg57 : decide ((57 : Int) < ((c : Nat) : Int)) = true := decide_eq_true (by omega)
            have ng57 : decide (57 < c) = true := decide_eq_true (by omega)
            have hall : (l.take (i + 1)).all saltB = true := by
              rw [List.take_add_one, hcb, List.all_append, hA]
              simp [saltB, hcc]
              omega
            have HAL := hid hall
            clear hall hA hcb hcc h
            go_wp2_with fail
            go_roundw
            case rel => exact ⟨i + 1, by omega, rfl, HAL.out, trivial⟩
            case measure => simp only [intOf, Int.toNat_natCast]; omega
          · have el97 : decide (((c : Nat) : Int) < 97) = false := decide_eq_false (by omega)
            have nl97 : decide (c < 97) = false := decide_eq_false (by omega)
            have eg122 : decide ((122 : Int) < ((c : Nat) : Int)) = true := decide_eq_true (by omega)
            have ng122 : decide (122 < c) = true := decide_eq_true (by omega)
            have el48 : decide (((c : Nat) : Int) < 48) = false := decide_eq_false (by omega)
            have nl48 : decide (c < 48) = false := decide_eq_false (by omega)
            have eg57 : decide ((57 : Int) < ((c : Nat) : Int)) = true := decide_eq_true (by omega)
            have ng57 : decide (57 < c) = true := decide_eq_true (by omega)
            have hno : isSaltL l = false := by
              rw [isSaltL, show l.all saltB = false from (by
                rw [Bool.eq_false_iff]
                intro ha
                have := List.all_eq_true.1 ha cb (List.mem_of_getElem? hcb)
                simp [saltB, hcc] at this
                omega), Bool.and_false]
            rw [HR.out] at hno
            subst hno
            clear hA hcb hcc h
            go_wp2_with fail
            go_ret
            exact ⟨rfl, rfl⟩
        · obtain rfl : i = m := by omega
          have hin : ¬ ((i : Nat) : Int) < ((i : Nat) : Int) := by omega
          rw [List.take_of_length_le (by rw [HLM.out]; exact Nat.le_refl _)] at hA
          have hr3 : r = true := by rw [← HR2.out, hA, decide_eq_true hlim.1, decide_eq_true hlim.2]; rfl
          subst hr3
          clear hA
          go_wp2_with fail
          go_ret
          exact ⟨rfl, rfl⟩
theorem itoa_one (n : Nat) (h : n < 10) : Lib.itoa ((n : Nat) : Int) = [UInt8.ofNat (48 + n)] := by
  rw [Lib.itoa, if_neg (by omega), Int.toNat_natCast, Lib.decDigits, dif_pos h]
theorem itoa_big (n : Nat) (h : ¬ n < 10) : Lib.itoa ((n : Nat) : Int) = Lib.itoa ((n / 10 : Nat) : Int) ++ Lib.itoa ((n % 10 : Nat) : Int) := by
  rw [itoa_one (n % 10) (by omega), Lib.itoa, if_neg (by omega), Int.toNat_natCast, Lib.itoa, if_neg (by omega), Int.toNat_natCast, Lib.decDigits, dif_neg h]
set_option maxHeartbeats 2000000 in
theorem rdigits_c (n : Nat) : n ≤ 1000000000000000 → ∀ w : World, Calls Tryz.prog 34 #[.int .i64 ((n : Nat) : Int)] w fun e w' => e = .returned (.string ⟨(Lib.itoa ((n : Nat) : Int)).toArray⟩) ∧ Below w.heap.size w w' := by
  induction n using Nat.strongRecOn with
  | _ n ih =>
    intro hn w
    by_cases h : n < 10
    · rw [itoa_one n h]
      have d1 : decide (((n : Nat) : Int) < 10) = true := decide_eq_true (by omega)
      have d2 : ((n : Nat) : Int) < 10 := by omega
      have hw1 : IntKind.i64.wrap (48 + ((n : Nat) : Int)) = ((48 + n : Nat) : Int) := (IntWalk.i64_in _ (by omega)).trans (by omega)
      obtain ⟨m, hm⟩ : ∃ m, 48 + n = m := ⟨_, rfl⟩
      rw [hm] at hw1 ⊢
      have hw2 : IntKind.u8.wrap ((m : Nat) : Int) = ((m : Nat) : Int) := by
        show ((m : Nat) : Int) % 256 = _
        omega
      have hm256 : (UInt8.ofNat m).toNat = m := by
        simp
        omega
      have hal : Below w.heap.size w (w.alloc (.cells #[.int .u8 ((m : Nat) : Int)] 5)) := (Below.refl _ _).alloc (Nat.le_refl _) _
      have hnw := heap_alloc_new w (.cells #[.int .u8 ((m : Nat) : Int)] 5)
      have hcv := run_convert_bytes_back (P := Tryz.prog) (w.alloc (.cells #[.int .u8 ((m : Nat) : Int)] 5)) 78 9 5 ⟨w.heap.size, 0, none⟩ 1 [UInt8.ofNat m] Tryz.underlying78 Tryz.underlying5 Tryz.underlying9 (fun j hj => by
        obtain rfl : j = 0 := by simpa using hj
        have := cell_of_row _ _ 0 _ _ _ hnw
        rw [show (⟨w.heap.size, 0, none⟩ : Addr).add 0 = ⟨w.heap.size, 0, none⟩ from rfl, this]
        simp [hm256])
      rw [List.length_singleton] at hcv
      have HAL := hid hal
      clear hal hnw hm256 hm ih h
      go_enter Tryz.func34, Tryz.ntmps34
      go_wp2_with fail
      go_ret
      exact ⟨rfl, HAL.out⟩
    · rw [itoa_big n h]
      have d1 : decide (((n : Nat) : Int) < 10) = false := decide_eq_false (by omega)
      have d2 : ¬ ((n : Nat) : Int) < 10 := by omega
      have htq : Int.tdiv ((n : Nat) : Int) 10 = ((n / 10 : Nat) : Int) := by rw [Int.tdiv_eq_ediv_of_nonneg (by omega)]; rfl
      have htm : Int.tmod ((n : Nat) : Int) 10 = ((n % 10 : Nat) : Int) := tmod_nat n 10
      have I1 := hid (ih (n / 10) (by omega) (by omega))
      have I2 := hid (ih (n % 10) (by omega) (by omega))
      obtain ⟨a, ha⟩ : ∃ a, n / 10 = a := ⟨_, rfl⟩
      obtain ⟨b, hb⟩ : ∃ b, n % 10 = b := ⟨_, rfl⟩
      rw [ha] at htq I1 ⊢
      rw [hb] at htm I2 ⊢
      have hwa : IntKind.i64.wrap ((a : Nat) : Int) = ((a : Nat) : Int) := IntWalk.i64_in _ (by omega)
      have hwb : IntKind.i64.wrap ((b : Nat) : Int) = ((b : Nat) : Int) := IntWalk.i64_in _ (by omega)
      have FL := hid trivial
      have HAB := hid (And.intro ha hb)
      have hcat : (⟨(Lib.itoa ((a : Nat) : Int)).toArray⟩ : ByteArray) ++ ⟨(Lib.itoa ((b : Nat) : Int)).toArray⟩ = ⟨(Lib.itoa ((a : Nat) : Int) ++ Lib.itoa ((b : Nat) : Int)).toArray⟩ := by
        apply ByteArray.ext
        simp
      obtain ⟨z, hz⟩ : ∃ z : ByteArray, ⟨(Lib.itoa ((a : Nat) : Int) ++ Lib.itoa ((b : Nat) : Int)).toArray⟩ = z := ⟨_, rfl⟩
      obtain ⟨x, hx⟩ : ∃ x : ByteArray, ⟨(Lib.itoa ((a : Nat) : Int)).toArray⟩ = x := ⟨_, rfl⟩
      obtain ⟨y, hy⟩ : ∃ y : ByteArray, ⟨(Lib.itoa ((b : Nat) : Int)).toArray⟩ = y := ⟨_, rfl⟩
      have hxy : ¬ 9223372036854775807 < x.size + y.size := by
        have h1 : x.size ≤ 21 := by
          rw [← hx]
          exact Lib.itoa_length_le ((a : Nat) : Int) (by omega) (by omega)
        have h2 : y.size ≤ 21 := by
          rw [← hy]
          exact Lib.itoa_length_le ((b : Nat) : Int) (by omega) (by omega)
        omega
      rw [hx] at I1 hcat
      rw [hy] at I2 hcat
      rw [hz] at hcat ⊢
      clear ih h ha hb hx hy hz
      go_enter Tryz.func34, Tryz.ntmps34
      go_wp2_with (first
        | (go_at_call 34; have hq := FL; clear hq FL; refine (I1.out _).mono ?_; rintro e w1 ⟨rfl, hb1⟩; have HB1 := hid hb1; clear hb1)
        | (go_at_call 34; refine (I2.out _).mono ?_; rintro e w2 ⟨rfl, hb2⟩; have HB2 := hid (HB1.out.trans (hb2.mono HB1.out.size)); clear hb2))
      go_ret
      exact ⟨rfl, HB2.out⟩
theorem exec_cat {ev : Operand → Value} {o : Oper} {x y : Operand} {a b c : ByteArray} {W : World} (ho : o.op = .binOp .add 9 x y 9) (hx : ev x = .string a) (hy : ev y = .string b) (hc : a ++ b = c) (hs : ¬ 9223372036854775807 < a.size + b.size) : (execOp ev o).run Tryz.prog W = .ok (.value (.string c)) W := by
  simp [execOp, ho, hx, hy]
  go_simp
theorem cat_size (a b : ByteArray) : (a ++ b).size = a.size + b.size := ByteArray.size_append
set_option maxHeartbeats 4000000 in
theorem rtext_c (p v : Nat) (hp : p ≤ 1000000000000000) (hv : v ≤ 1000000000000000) (s : ByteArray) (hs : s.size ≤ 1000000) (w : World) :
    Calls Tryz.prog 10 #[.agg #[.int .i64 ((p : Nat) : Int), .int .i64 ((v : Nat) : Int), .string s]] w fun e w' => e = .returned (.string ⟨(boxL ((p : Nat) : Int) ((v : Nat) : Int) s.data.toList).toArray⟩) ∧ Below w.heap.size w w' := by
  have hx := heap_alloc_new w (.cells #[.int .i64 ((p : Nat) : Int), .int .i64 ((v : Nat) : Int), .string s] 27)
  have hb : Below w.heap.size w (w.alloc (.cells #[.int .i64 ((p : Nat) : Int), .int .i64 ((v : Nat) : Int), .string s] 27)) := (Below.refl _ _).alloc (Nat.le_refl _) _
  have D1 := rdigits_c p hp
  have D2 := rdigits_c v hv
  obtain ⟨d1, h1⟩ : ∃ d : ByteArray, ⟨(Lib.itoa ((p : Nat) : Int)).toArray⟩ = d := ⟨_, rfl⟩
  obtain ⟨d2, h2⟩ : ∃ d : ByteArray, ⟨(Lib.itoa ((v : Nat) : Int)).toArray⟩ = d := ⟨_, rfl⟩
  rw [h1] at D1
  rw [h2] at D2
  have z1 : d1.size ≤ 21 := by
    rw [← h1]
    exact Lib.itoa_length_le ((p : Nat) : Int) (by omega) (by omega)
  have z2 : d2.size ≤ 21 := by
    rw [← h2]
    exact Lib.itoa_length_le ((v : Nat) : Int) (by omega) (by omega)
  obtain ⟨e1, q1⟩ : ∃ d : ByteArray, d1 ++ ⟨#[58]⟩ = d := ⟨_, rfl⟩
  obtain ⟨e2, q2⟩ : ∃ d : ByteArray, e1 ++ d2 = d := ⟨_, rfl⟩
  obtain ⟨e3, q3⟩ : ∃ d : ByteArray, e2 ++ ⟨#[58]⟩ = d := ⟨_, rfl⟩
  obtain ⟨z, q4⟩ : ∃ d : ByteArray, e3 ++ s = d := ⟨_, rfl⟩
  have y1 : e1.size = d1.size + 1 := by rw [← q1, cat_size]; rfl
  have y2 : e2.size = e1.size + d2.size := by rw [← q2, cat_size]
  have y3 : e3.size = e2.size + 1 := by rw [← q3, cat_size]; rfl
  have hz : (⟨(boxL ((p : Nat) : Int) ((v : Nat) : Int) s.data.toList).toArray⟩ : ByteArray) = z := by
    rw [← q4, ← q3, ← q2, ← q1, ← h1, ← h2]
    apply ByteArray.ext
    simp [boxL]
  rw [hz]
  have k1 : ¬ 9223372036854775807 < d1.size + (⟨#[58]⟩ : ByteArray).size := by show ¬ 9223372036854775807 < d1.size + 1; omega
  have k2 : ¬ 9223372036854775807 < e1.size + d2.size := by omega
  have k3 : ¬ 9223372036854775807 < e2.size + (⟨#[58]⟩ : ByteArray).size := by show ¬ 9223372036854775807 < e2.size + 1; omega
  have k4 : ¬ 9223372036854775807 < e3.size + s.size := by omega
  have HQ := hid (And.intro (And.intro q1 q2) (And.intro q3 q4))
  have HKK := hid (And.intro (And.intro k1 k2) (And.intro k3 k4))
  have HD := hid (And.intro D1 D2)
  have HX := hid hx
  have HB := hid hb
  have hlt := heap_lt hx
  clear hx hb D1 D2 h1 h2 z1 z2 q1 q2 q3 q4 y1 y2 y3 hz k1 k2 k3 k4
  go_enter Tryz.func10, Tryz.ntmps10
  go_upto_region 1 with fail
  generalize w.alloc (.cells #[.int .i64 ((p : Nat) : Int), .int .i64 ((v : Nat) : Int), .string s] 27) = W0 at HX HB hlt ⊢
  obtain ⟨g, hg⟩ : ∃ g, w.heap.size = g := ⟨_, rfl⟩
  rw [hg] at HX HB hlt ⊢
  refine grow_vals 12 [3, 4, 5, 6, 7, 8, 9, 10, 11, 12, 13, 14] [(.pointer (some ⟨g, 0, none⟩)), (.int .i64 ((p : Nat) : Int)), (.string d1), (.string e1), (.pointer (some ⟨g, 1, none⟩)), (.int .i64 ((v : Nat) : Int)), (.string d2), (.string e2), (.string e3), (.pointer (some ⟨g, 2, none⟩)), (.string s), (.string z)] (by kernel_rfl) (by kernel_rfl) ?_ ?_
  · intro jq oj hjq hoj a' w' hb' he hdep Kq hKq
    have hr := heap_below hb' HX.out hlt
    have c0 := cell_of_row _ _ 0 _ _ _ hr
    have c1 := cell_of_row _ _ 1 _ _ _ hr
    have c2 := cell_of_row _ _ 2 _ _ _ hr
    have hjq' : jq = 0 ∨ jq = 1 ∨ jq = 2 ∨ jq = 3 ∨ jq = 4 ∨ jq = 5 ∨ jq = 6 ∨ jq = 7 ∨ jq = 8 ∨ jq = 9 ∨ jq = 10 ∨ jq = 11 := by omega
    rcases hjq' with rfl | rfl | rfl | rfl | rfl | rfl | rfl | rfl | rfl | rfl | rfl | rfl
    · obtain rfl := Option.some.inj hoj
      exact wpO_val _ (exec_fldB0 rfl ((he 1 (by decide)).trans rfl : a'.eval (.tmp 1) = (.pointer (some ⟨g, 0, none⟩)))) (hKq _ (Below.refl _ _))
    · obtain rfl := Option.some.inj hoj
      exact wpO_val _ (exec_ldcellB rfl (hdep ⟨0, .data⟩ (by simp) rfl : a'.eval (.tmp 3) = (.pointer (some ⟨g, 0, none⟩))) c0) (hKq _ (Below.refl _ _))
    · obtain rfl := Option.some.inj hoj
      exact wpO_call _ _ (exec_call1 rfl rfl (hdep ⟨1, .data⟩ (by simp) rfl : a'.eval (.tmp 4) = (.int .i64 ((p : Nat) : Int))) (by go_simp)) ((HD.out.1 w').mono fun e w'' ⟨h1, h2⟩ => ⟨_, h1, hKq w'' h2⟩)
    · obtain rfl := Option.some.inj hoj
      exact wpO_val _ (exec_cat rfl (hdep ⟨2, .data⟩ (by simp) rfl : a'.eval (.tmp 5) = (.string d1)) rfl HQ.out.1.1 HKK.out.1.1) (hKq _ (Below.refl _ _))
    · obtain rfl := Option.some.inj hoj
      exact wpO_val _ (exec_fldB1 rfl ((he 1 (by decide)).trans rfl : a'.eval (.tmp 1) = (.pointer (some ⟨g, 0, none⟩)))) (hKq _ (Below.refl _ _))
    · obtain rfl := Option.some.inj hoj
      exact wpO_val _ (exec_ldcellB rfl (hdep ⟨4, .data⟩ (by simp) rfl : a'.eval (.tmp 7) = (.pointer (some ⟨g, 1, none⟩))) c1) (hKq _ (Below.refl _ _))
    · obtain rfl := Option.some.inj hoj
      exact wpO_call _ _ (exec_call1 rfl rfl (hdep ⟨5, .data⟩ (by simp) rfl : a'.eval (.tmp 8) = (.int .i64 ((v : Nat) : Int))) (by go_simp)) ((HD.out.2 w').mono fun e w'' ⟨h1, h2⟩ => ⟨_, h1, hKq w'' h2⟩)
    · obtain rfl := Option.some.inj hoj
      exact wpO_val _ (exec_cat rfl (hdep ⟨3, .data⟩ (by simp) rfl : a'.eval (.tmp 6) = (.string e1)) (hdep ⟨6, .data⟩ (by simp) rfl : a'.eval (.tmp 9) = (.string d2)) HQ.out.1.2 HKK.out.1.2) (hKq _ (Below.refl _ _))
    · obtain rfl := Option.some.inj hoj
      exact wpO_val _ (exec_cat rfl (hdep ⟨7, .data⟩ (by simp) rfl : a'.eval (.tmp 10) = (.string e2)) rfl HQ.out.2.1 HKK.out.2.1) (hKq _ (Below.refl _ _))
    · obtain rfl := Option.some.inj hoj
      exact wpO_val _ (exec_fldB2 rfl ((he 1 (by decide)).trans rfl : a'.eval (.tmp 1) = (.pointer (some ⟨g, 0, none⟩)))) (hKq _ (Below.refl _ _))
    · obtain rfl := Option.some.inj hoj
      exact wpO_val _ (exec_ldstrB rfl (hdep ⟨9, .data⟩ (by simp) rfl : a'.eval (.tmp 12) = (.pointer (some ⟨g, 2, none⟩))) c2) (hKq _ (Below.refl _ _))
    · obtain rfl := Option.some.inj hoj
      exact wpO_val _ (exec_cat rfl (hdep ⟨8, .data⟩ (by simp) rfl : a'.eval (.tmp 11) = (.string e3)) (hdep ⟨10, .data⟩ (by simp) rfl : a'.eval (.tmp 13) = (.string s)) HQ.out.2.2 HKK.out.2.2) (hKq _ (Below.refl _ _))
  · intro w6 hb6
    simp only [puts, Act.put, List.setIfInBounds_toArray, List.set_cons_zero, List.set_cons_succ, List.drop_succ_cons, List.drop_zero, Nat.zero_add, Nat.reduceAdd, List.getD_cons_zero, List.getD_cons_succ]
    have HB6 := hid (HB.out.trans (hb6.mono (by omega)))
    clear hb6
    go_wp2_with fail
    go_ret
    exact ⟨rfl, by rw [hg]; exact HB6.out⟩
set_option maxHeartbeats 2000000 in
theorem rbox_c (p v : Int) (s : ByteArray) (hs : s.size ≤ 1000000) (w : World) :
    Calls Tryz.prog 8 #[.agg #[.int .i64 p, .int .i64 v, .string s]] w fun e w' => e = .returned (.bool (isBoxL p v s.data.toList)) ∧ Below w.heap.size w w' := by
  have hx := heap_alloc_new w (.cells #[.int .i64 p, .int .i64 v, .string s] 27)
  have hb : Below w.heap.size w (w.alloc (.cells #[.int .i64 p, .int .i64 v, .string s] 27)) := (Below.refl _ _).alloc (Nat.le_refl _) _
  have hSA := fun W => (rsalt_c s hs W).mono fun e w' h => (⟨h.1, h.2 ▸ Below.refl _ _⟩ : e = .returned (.bool (isSaltL s.data.toList)) ∧ Below W.heap.size W w')
  unfold isBoxL
  generalize isSaltL s.data.toList = sb at hSA ⊢
  have h1 := rin_c p 1 30
  have h2 := rin_c v 0 999999999
  generalize (decide (1 ≤ p) && decide (p ≤ 30)) = b1 at h1 ⊢
  generalize (decide (0 ≤ v) && decide (v ≤ 999999999)) = b2 at h2 ⊢
  have HS := hid hSA
  have H1 := hid h1
  have HD := hid trivial
  have H2 := hid h2
  have k0 := cell_of_row _ w.heap.size 0 _ _ _ hx
  have k1 := cell_of_row _ w.heap.size 1 _ _ _ hx
  have k2 := cell_of_row _ w.heap.size 2 _ _ _ hx
  obtain ⟨g, hg⟩ : ∃ g, w.heap.size = g := ⟨_, rfl⟩
  rw [hg] at k0 k1 k2
  have HK := hid (And.intro k0 (And.intro k1 (And.intro k2 hb)))
  clear k0 k1 k2
  clear hSA h1 h2 hb hx
  cases b1 with
  | false =>
    go_enter Tryz.func8, Tryz.ntmps8
    go_upto_region 1 with fail
    generalize w.alloc (.cells #[.int .i64 p, .int .i64 v, .string s] 27) = wa at HK ⊢
    have ⟨k0, k1, k2, hb⟩ := HK.out
    have hsz := hb.size
    have HB := hid hb
    clear hb HK
    go_wp2_with (go_at_call 32; have hq := HD; clear hq HD; refine (H1.out _).mono ?_; rintro e w1 ⟨rfl, rfl⟩)
    go_ret
    exact ⟨by simp, HB.out⟩
  | true =>
    cases b2 with
    | false =>
      go_enter Tryz.func8, Tryz.ntmps8
      go_upto_region 1 with fail
      generalize w.alloc (.cells #[.int .i64 p, .int .i64 v, .string s] 27) = wa at HK ⊢
      have ⟨k0, k1, k2, hb⟩ := HK.out
      have hsz := hb.size
      have HB := hid hb
      clear hb HK
      go_wp2_with (first
        | (go_at_call 32; have hq := HD; clear hq HD; refine (H1.out _).mono ?_; rintro e w1 ⟨rfl, rfl⟩)
        | (go_at_call 32; refine (H2.out _).mono ?_; rintro e w1 ⟨rfl, rfl⟩))
      go_ret
      exact ⟨by simp, HB.out⟩
    | true =>
      go_enter Tryz.func8, Tryz.ntmps8
      go_upto_region 1 with fail
      generalize w.alloc (.cells #[.int .i64 p, .int .i64 v, .string s] 27) = wa at HK ⊢
      have ⟨k0, k1, k2, hb⟩ := HK.out
      have hsz := hb.size
      have HB := hid hb
      clear hb HK
      go_wp2_with (first
        | (go_at_call 32; have hq := HD; clear hq HD; refine (H1.out _).mono ?_; rintro e w1 ⟨rfl, rfl⟩)
        | (go_at_call 32; refine (H2.out _).mono ?_; rintro e w1 ⟨rfl, rfl⟩)
        | (go_at_call 33; refine (HS.out _).mono ?_; rintro e w2 ⟨rfl, hb2⟩))
      go_ret
      exact ⟨by simp, HB.out.trans (hb2.mono hsz)⟩
end Go.Proofs.YtbcileppebpamaaGreatDoor
