/- Lemmas for WitnessDraws: part 10. -/
import Derived.Lib.ItoaLen
import Derived.Maps.AppendAt
import Derived.Test.YtbcileppebpamaaGreatDoorKb07
import Derived.Test.YtbcileppebpamaaGreatDoorKb08
import Derived.Test.YtbcileppebpamaaGreatDoorKb09
set_option linter.unusedSimpArgs false
set_option linter.unusedVariables false
namespace Go.Proofs.YtbcileppebpamaaGreatDoor
open Go Go.RowKit Go.Shelf
set_option maxRecDepth 100000
set_option maxHeartbeats 4000000 in
theorem rsalt_c (s : ByteArray) (hs : s.size ≤ 1000000) (w : World) :
    Calls Tryz.prog 33 #[.string s] w fun e w' => e = .returned (.bool (isSaltL s.data.toList)) ∧ w' = w := by
  obtain ⟨l, hl⟩ : ∃ l, s.data.toList = l := ⟨_, rfl⟩
  obtain ⟨m, hm⟩ : ∃ m, s.size = m := ⟨_, rfl⟩
  have hlm : l.length = m := by rw [← hl, Array.length_toList, ← hm]; rfl
  have hm63 : m ≤ 1000000 := by omega
  rw [hl]
  obtain ⟨r, hr⟩ : ∃ r, isSaltL l = r := ⟨_, rfl⟩
  rw [hr]
  have HR := hid hr
  have HL := hid hl
  have HLM := hid hlm
  have hr2 : (decide (1 ≤ m) && decide (m ≤ 20) && l.all saltB) = r := by rw [← hr, isSaltL, hlm]
  have HR2 := hid hr2
  clear hr hl hs hr2 hlm
  by_cases h1 : m < 1
  · have d1 : decide (((m : Nat) : Int) < 1) = true := decide_eq_true (by omega)
    have d1' : decide (m < 1) = true := decide_eq_true h1
    have hr3 : r = false := by rw [← HR2.out, decide_eq_false (by omega)]; rfl
    subst hr3
    clear h1
    go_enter Tryz.func33, Tryz.ntmps33
    go_wp2_with fail
    go_ret
    exact ⟨rfl, rfl⟩
  · have d1 : decide (((m : Nat) : Int) < 1) = false := decide_eq_false (by omega)
    have d1' : decide (m < 1) = false := decide_eq_false h1
    by_cases h2 : 20 < m
    · have d2 : decide ((20 : Int) < ((m : Nat) : Int)) = true := decide_eq_true (by omega)
      have d2' : decide (20 < m) = true := decide_eq_true h2
      have hr3 : r = false := by rw [← HR2.out, decide_eq_false (show ¬ m ≤ 20 by omega), Bool.and_false, Bool.false_and]
      subst hr3
      clear h1 h2
      go_enter Tryz.func33, Tryz.ntmps33
      go_wp2_with fail
      go_ret
      exact ⟨rfl, rfl⟩
    · have d2 : decide ((20 : Int) < ((m : Nat) : Int)) = false := decide_eq_false (by omega)
      have d2' : decide (20 < m) = false := decide_eq_false h2
      have hlim : 1 ≤ m ∧ m ≤ 20 := by omega
      clear h1 h2
      go_enter Tryz.func33, Tryz.ntmps33
      go_wp2_with fail
      go_loopw [3] (fun ix wr => ∃ i : Nat, i ≤ m ∧ ix = .int .i64 ((i : Nat) : Int) ∧ (l.take i).all saltB = true ∧ wr = w) (fun ix _ => m - (intOf ix).toNat)
      case atStart => exact ⟨0, by omega, rfl, rfl, rfl⟩
      case round =>
        obtain ⟨i, hi, rfl, hA, rfl⟩ := hrel
        rcases Nat.lt_or_ge i m with hlt | hge
        · have hin : decide (((i : Nat) : Int) < ((m : Nat) : Int)) = true := decide_eq_true (by omega)
          have hin' : ((i : Nat) : Int) < ((m : Nat) : Int) := by omega
          have hiw : IntKind.i64.wrap (((i : Nat) : Int) + 1) = ((i + 1 : Nat) : Int) := (IntWalk.i64_in _ (by omega)).trans (by omega)
          obtain ⟨cb, hcb⟩ : ∃ c, l[i]? = some c := ⟨_, List.getElem?_eq_getElem (by rw [HLM.out]; exact hlt)⟩
          obtain ⟨c, hcc⟩ : ∃ c, cb.toNat = c := ⟨_, rfl⟩
          have hc256 : c < 256 := hcc ▸ cb.toNat_lt
          have hgi : ∀ h : i < s.size, (s[i]'h).toNat = c := fun h => by
            have h2 : (s.data.toList)[i]? = some cb := by rw [HL.out]; exact hcb
            obtain ⟨h3, h4⟩ := List.getElem?_eq_some_iff.1 h2
            rw [← hcc, ← h4]
            rfl
          have h : c < 48 ∨ (48 ≤ c ∧ c ≤ 57) ∨ (58 ≤ c ∧ c ≤ 96) ∨ (97 ≤ c ∧ c ≤ 122) ∨ 123 ≤ c := by omega
          rcases h with h | h | h | h | h
          · have el97 : decide (((c : Nat) : Int) < 97) = true := decide_eq_true (by omega)
            have nl97 : decide (c < 97) = true := decide_eq_true (by omega)
            have eg122 : decide ((122 : Int) < ((c : Nat) : Int)) = false := decide_eq_false (by omega)
            have ng122 : decide (122 < c) = false := decide_eq_false (by omega)
            have el48 : decide (((c : Nat) : Int) < 48) = true := decide_eq_true (by omega)
            have nl48 : decide (c < 48) = true := decide_eq_true (by omega)
            have eg57 : decide ((57 : Int) < ((c : Nat) : Int)) = false := decide_eq_false (by omega)
            have ng57 : decide (57 < c) = false := decide_eq_false (by omega)
            have hno : isSaltL l = false := by
              rw [isSaltL, show l.all saltB = false from (by
                rw [Bool.eq_false_iff]
                intro ha
                have := List.all_eq_true.1 ha cb (List.mem_of_getElem? hcb)
                simp [saltB, hcc] at this
                omega), Bool.and_false]
            rw [HR.out] at hno
            subst hno
            clear hA hcb hcc h
            go_wp2_with fail
            go_ret
            exact ⟨rfl, rfl⟩
          · have el97 : decide (((c : Nat) : Int) < 97) = true := decide_eq_true (by omega)
            have nl97 : decide (c < 97) = true := decide_eq_true (by omega)
            have eg122 : decide ((122 : Int) < ((c : Nat) : Int)) = false := decide_eq_false (by omega)
            have ng122 : decide (122 < c) = false := decide_eq_false (by omega)
            have el48 : decide (((c : Nat) : Int) < 48) = false := decide_eq_false (by omega)
            have nl48 : decide (c < 48) = false := decide_eq_false (by omega)
            have eg57 : decide ((57 : Int) < ((c : Nat) : Int)) = false := decide_eq_false (by omega)
            have ng57 : decide (57 < c) = false := decide_eq_false (by omega)
            have hall : (l.take (i + 1)).all saltB = true := by
              rw [List.take_add_one, hcb, List.all_append, hA]
              simp [saltB, hcc]
              omega
            have HAL := hid hall
            clear hall hA hcb hcc h
            go_wp2_with fail
            go_roundw
            case rel => exact ⟨i + 1, by omega, rfl, HAL.out, trivial⟩
            case measure => simp only [intOf, Int.toNat_natCast]; omega
          · have el97 : decide (((c : Nat) : Int) < 97) = true := decide_eq_true (by omega)
            have nl97 : decide (c < 97) = true := decide_eq_true (by omega)
            have eg122 : decide ((122 : Int) < ((c : Nat) : Int)) = false := decide_eq_false (by omega)
            have ng122 : decide (122 < c) = false := decide_eq_false (by omega)
            have el48 : decide (((c : Nat) : Int) < 48) = false := decide_eq_false (by omega)
            have nl48 : decide (c < 48) = false := decide_eq_false (by omega)
            have eg57 : decide ((57 : Int) < ((c : Nat) : Int)) = true := decide_eq_true (by omega)
            have ng57 : decide (57 < c) = true := decide_eq_true (by omega)
            have hno : isSaltL l = false := by
              rw [isSaltL, show l.all saltB = false from (by
                rw [Bool.eq_false_iff]
                intro ha
                have := List.all_eq_true.1 ha cb (List.mem_of_getElem? hcb)
                simp [saltB, hcc] at this
                omega), Bool.and_false]
            rw [HR.out] at hno
            subst hno
            clear hA hcb hcc h
            go_wp2_with fail
            go_ret
            exact ⟨rfl, rfl⟩
          · have el97 : decide (((c : Nat) : Int) < 97) = false := decide_eq_false (by omega)
            have nl97 : decide (c < 97) = false := decide_eq_false (by omega)
            have eg122 : decide ((122 : Int) < ((c : Nat) : Int)) = false := decide_eq_false (by omega)
            have ng122 : decide (122 < c) = false := decide_eq_false (by omega)
            have el48 : decide (((c : Nat) : Int) < 48) = false := decide_eq_false (by omega)
            have nl48 : decide (c < 48) = false := decide_eq_false (by omega)
            have eg57 : decide ((57 : Int) < ((c : Nat) : Int)) = true := decide_eq_true (by omega)
            have ng57 : decide (57 < c) = true := decide_eq_true (by omega)
            have hall : (l.take (i + 1)).all saltB = true := by
              rw [List.take_add_one, hcb, List.all_append, hA]
              simp [saltB, hcc]
              omega
            have HAL := hid hall
            clear hall hA hcb hcc h
            go_wp2_with fail
            go_roundw
            case rel => exact ⟨i + 1, by omega, rfl, HAL.out, trivial⟩
            case measure => simp only [intOf, Int.toNat_natCast]; omega
          · have el97 : decide (((c : Nat) : Int) < 97) = false := decide_eq_false (by omega)
            have nl97 : decide (c < 97) = false := decide_eq_false (by omega)
            have eg122 : decide ((122 : Int) < ((c : Nat) : Int)) = true := decide_eq_true (by omega)
            have ng122 : decide (122 < c) = true := decide_eq_true (by omega)
            have el48 : decide (((c : Nat) : Int) < 48) = false := decide_eq_false (by omega)
            have nl48 : decide (c < 48) = false := decide_eq_false (by omega)
            have eg57 : decide ((57 : Int) < ((c : Nat) : Int)) = true := decide_eq_true (by omega)
            have ng57 : decide (57 < c) = true := decide_eq_true (by omega)
            have hno : isSaltL l = false := by
              rw [isSaltL, show l.all saltB = false from (by
                rw [Bool.eq_false_iff]
                intro ha
                have := List.all_eq_true.1 ha cb (List.mem_of_getElem? hcb)
                simp [saltB, hcc] at this
                omega), Bool.and_false]
            rw [HR.out] at hno
            subst hno
            clear hA hcb hcc h
            go_wp2_with fail
            go_ret
            exact ⟨rfl, rfl⟩
        · obtain rfl : i = m := by omega
          have hin : ¬ ((i : Nat) : Int) < ((i : Nat) : Int) := by omega
          rw [List.take_of_length_le (by rw [HLM.out]; exact Nat.le_refl _)] at hA
          have hr3 : r = true := by rw [← HR2.out, hA, decide_eq_true hlim.1, decide_eq_true hlim.2]; rfl
          subst hr3
          clear hA
          go_wp2_with fail
          go_ret
          exact ⟨rfl, rfl⟩
theorem itoa_one (n : Nat) (h : n < 10) : Lib.itoa ((n : Nat) : Int) = [UInt8.ofNat (48 + n)] := by
  rw [Lib.itoa, if_neg (by omega), Int.toNat_natCast, Lib.decDigits, dif_pos h]
theorem itoa_big (n : Nat) (h : ¬ n < 10) : Lib.itoa ((n : Nat) : Int) = Lib.itoa ((n / 10 : Nat) : Int) ++ Lib.itoa ((n % 10 : Nat) : Int) := by
  rw [itoa_one (n % 10) (by omega), Lib.itoa, if_neg (by omega), Int.toNat_natCast, Lib.itoa, if_neg (by omega), Int.toNat_natCast, Lib.decDigits, dif_neg h]
set_option maxHeartbeats 2000000 in
theorem rdigits_c (n : Nat) : n ≤ 1000000000000000 → ∀ w : World, Calls Tryz.prog 34 #[.int .i64 ((n : Nat) : Int)] w fun e w' => e = .returned (.string ⟨(Lib.itoa ((n : Nat) : Int)).toArray⟩) ∧ Below w.heap.size w w' := by
  induction n using Nat.strongRecOn with
  | _ n ih =>
    intro hn w
    by_cases h : n < 10
    · rw [itoa_one n h]
      have d1 : decide (((n : Nat) : Int) < 10) = true := decide_eq_true (by omega)
      have d2 : ((n : Nat) : Int) < 10 := by omega
      have hw1 : IntKind.i64.wrap (48 + ((n : Nat) : Int)) = ((48 + n : Nat) : Int) := (IntWalk.i64_in _ (by omega)).trans (by omega)
      obtain ⟨m, hm⟩ : ∃ m, 48 + n = m := ⟨_, rfl⟩
      rw [hm] at hw1 ⊢
      have hw2 : IntKind.u8.wrap ((m : Nat) : Int) = ((m : Nat) : Int) := by
        show ((m : Nat) : Int) % 256 = _
        omega
      have hm256 : (UInt8.ofNat m).toNat = m := by
        simp
        omega
      have hal : Below w.heap.size w (w.alloc (.cells #[.int .u8 ((m : Nat) : Int)] 5)) := (Below.refl _ _).alloc (Nat.le_refl _) _
      have hnw := heap_alloc_new w (.cells #[.int .u8 ((m : Nat) : Int)] 5)
      have hcv := run_convert_bytes_back (P := Tryz.prog) (w.alloc (.cells #[.int .u8 ((m : Nat) : Int)] 5)) 78 9 5 ⟨w.heap.size, 0, none⟩ 1 [UInt8.ofNat m] Tryz.underlying78 Tryz.underlying5 Tryz.underlying9 (fun j hj => by
        obtain rfl : j = 0 := by simpa using hj
        have := cell_of_row _ _ 0 _ _ _ hnw
        rw [show (⟨w.heap.size, 0, none⟩ : Addr).add 0 = ⟨w.heap.size, 0, none⟩ from rfl, this]
        simp [hm256])
      rw [List.length_singleton] at hcv
      have HAL := hid hal
      clear hal hnw hm256 hm ih h
      go_enter Tryz.func34, Tryz.ntmps34
      go_wp2_with fail
      go_ret
      exact ⟨rfl, HAL.out⟩
    · rw [itoa_big n h]
      have d1 : decide (((n : Nat) : Int) < 10) = false := decide_eq_false (by omega)
      have d2 : ¬ ((n : Nat) : Int) < 10 := by omega
      have htq : Int.tdiv ((n : Nat) : Int) 10 = ((n / 10 : Nat) : Int) := by rw [Int.tdiv_eq_ediv_of_nonneg (by omega)]; rfl
      have htm : Int.tmod ((n : Nat) : Int) 10 = ((n % 10 : Nat) : Int) := tmod_nat n 10
      have I1 := hid (ih (n / 10) (by omega) (by omega))
      have I2 := hid (ih (n % 10) (by omega) (by omega))
      obtain ⟨a, ha⟩ : ∃ a, n / 10 = a := ⟨_, rfl⟩
      obtain ⟨b, hb⟩ : ∃ b, n % 10 = b := ⟨_, rfl⟩
      rw [ha] at htq I1 ⊢
      rw [hb] at htm I2 ⊢
      have hwa : IntKind.i64.wrap ((a : Nat) : Int) = ((a : Nat) : Int) := IntWalk.i64_in _ (by omega)
      have hwb : IntKind.i64.wrap ((b : Nat) : Int) = ((b : Nat) : Int) := IntWalk.i64_in _ (by omega)
      have FL := hid trivial
      have HAB := hid (And.intro ha hb)
      have hcat : (⟨(Lib.itoa ((a : Nat) : Int)).toArray⟩ : ByteArray) ++ ⟨(Lib.itoa ((b : Nat) : Int)).toArray⟩ = ⟨(Lib.itoa ((a : Nat) : Int) ++ Lib.itoa ((b : Nat) : Int)).toArray⟩ := by
        apply ByteArray.ext
        simp
      obtain ⟨z, hz⟩ : ∃ z : ByteArray, ⟨(Lib.itoa ((a : Nat) : Int) ++ Lib.itoa ((b : Nat) : Int)).toArray⟩ = z := ⟨_, rfl⟩
      obtain ⟨x, hx⟩ : ∃ x : ByteArray, ⟨(Lib.itoa ((a : Nat) : Int)).toArray⟩ = x := ⟨_, rfl⟩
      obtain ⟨y, hy⟩ : ∃ y : ByteArray, ⟨(Lib.itoa ((b : Nat) : Int)).toArray⟩ = y := ⟨_, rfl⟩
      have hxy : ¬ 9223372036854775807 < x.size + y.size := by
        have h1 : x.size ≤ 21 := by
          rw [← hx]
          exact Lib.itoa_length_le ((a : Nat) : Int) (by omega) (by omega)
        have h2 : y.size ≤ 21 := by
          rw [← hy]
          exact Lib.itoa_length_le ((b : Nat) : Int) (by omega) (by omega)
        omega
      rw [hx] at I1 hcat
      rw [hy] at I2 hcat
      rw [hz] at hcat ⊢
      clear ih h ha hb hx hy hz
      go_enter Tryz.func34, Tryz.ntmps34
      go_wp2_with (first
        | (go_at_call 34; have hq := FL; clear hq FL; refine (I1.out _).mono ?_; rintro e w1 ⟨rfl, hb1⟩; have HB1 := hid hb1; clear hb1)
        | (go_at_call 34; refine (I2.out _).mono ?_; rintro e w2 ⟨rfl, hb2⟩; have HB2 := hid (HB1.out.trans (hb2.mono HB1.out.size)); clear hb2))
      go_ret
      exact ⟨rfl, HB2.out⟩
theorem exec_cat {ev : Operand → Value} {o : Oper} {x y : Operand} {a b c : ByteArray} {W : World} (ho : o.op = .binOp .add 9 x y 9) (hx : ev x = .string a) (hy : ev y = .string b) (hc : a ++ b = c) (hs : ¬ 9223372036854775807 < a.size + b.size) : (execOp ev o).run Tryz.prog W = .ok (.value (.string c)) W := by
  simp [execOp, ho, hx, hy]
  go_simp
theorem cat_size (a b : ByteArray) : (a ++ b).size = a.size + b.size := ByteArray.size_append
set_option maxHeartbeats 4000000 in
theorem rtext_c (p v : Nat) (hp : p ≤ 1000000000000000) (hv : v ≤ 1000000000000000) (s : ByteArray) (hs : s.size ≤ 1000000) (w : World) :
    Calls Tryz.prog 10 #[.agg #[.int .i64 ((p : Nat) : Int), .int .i64 ((v : Nat) : Int), .string s]] w fun e w' => e = .returned (.string ⟨(boxL ((p : Nat) : Int) ((v : Nat) : Int) s.data.toList).toArray⟩) ∧ Below w.heap.size w w' := by
  have hx := heap_alloc_new w (.cells #[.int .i64 ((p : Nat) : Int), .int .i64 ((v : Nat) : Int), .string s] 27)
  have hb : Below w.heap.size w (w.alloc (.cells #[.int .i64 ((p : Nat) : Int), .int .i64 ((v : Nat) : Int), .string s] 27)) := (Below.refl _ _).alloc (Nat.le_refl _) _
  have D1 := rdigits_c p hp
  have D2 := rdigits_c v hv
  obtain ⟨d1, h1⟩ : ∃ d : ByteArray, ⟨(Lib.itoa ((p : Nat) : Int)).toArray⟩ = d := ⟨_, rfl⟩
  obtain ⟨d2, h2⟩ : ∃ d : ByteArray, ⟨(Lib.itoa ((v : Nat) : Int)).toArray⟩ = d := ⟨_, rfl⟩
  rw [h1] at D1
  rw [h2] at D2
  have z1 : d1.size ≤ 21 := by
    rw [← h1]
    exact Lib.itoa_length_le ((p : Nat) : Int) (by omega) (by omega)
  have z2 : d2.size ≤ 21 := by
    rw [← h2]
    exact Lib.itoa_length_le ((v : Nat) : Int) (by omega) (by omega)
  obtain ⟨e1, q1⟩ : ∃ d : ByteArray, d1 ++ ⟨#[58]⟩ = d := ⟨_, rfl⟩
  obtain ⟨e2, q2⟩ : ∃ d : ByteArray, e1 ++ d2 = d := ⟨_, rfl⟩
  obtain ⟨e3, q3⟩ : ∃ d : ByteArray, e2 ++ ⟨#[58]⟩ = d := ⟨_, rfl⟩
  obtain ⟨z, q4⟩ : ∃ d : ByteArray, e3 ++ s = d := ⟨_, rfl⟩
  have y1 : e1.size = d1.size + 1 := by rw [← q1, cat_size]; rfl
  have y2 : e2.size = e1.size + d2.size := by rw [← q2, cat_size]
  have y3 : e3.size = e2.size + 1 := by rw [← q3, cat_size]; rfl
  have hz : (⟨(boxL ((p : Nat) : Int) ((v : Nat) : Int) s.data.toList).toArray⟩ : ByteArray) = z := by
    rw [← q4, ← q3, ← q2, ← q1, ← h1, ← h2]
    apply ByteArray.ext
    simp [boxL]
  rw [hz]
  have k1 : ¬ 9223372036854775807 < d1.size + (⟨#[58]⟩ : ByteArray).size := by show ¬ 9223372036854775807 < d1.size + 1; omega
  have k2 : ¬ 9223372036854775807 < e1.size + d2.size := by omega
  have k3 : ¬ 9223372036854775807 < e2.size + (⟨#[58]⟩ : ByteArray).size := by show ¬ 9223372036854775807 < e2.size + 1; omega
  have k4 : ¬ 9223372036854775807 < e3.size + s.size := by omega
  have HQ := hid (And.intro (And.intro q1 q2) (And.intro q3 q4))
  have HKK := hid (And.intro (And.intro k1 k2) (And.intro k3 k4))
  have HD := hid (And.intro D1 D2)
  have HX := hid hx
  have HB := hid hb
  have hlt := heap_lt hx
  clear hx hb D1 D2 h1 h2 z1 z2 q1 q2 q3 q4 y1 y2 y3 hz k1 k2 k3 k4
  go_enter Tryz.func10, Tryz.ntmps10
  go_upto_region 1 with fail
  generalize w.alloc (.cells #[.int .i64 ((p : Nat) : Int), .int .i64 ((v : Nat) : Int), .string s] 27) = W0 at HX HB hlt ⊢
  obtain ⟨g, hg⟩ : ∃ g, w.heap.size = g := ⟨_, rfl⟩
  rw [hg] at HX HB hlt ⊢
  refine grow_vals 12 [3, 4, 5, 6, 7, 8, 9, 10, 11, 12, 13, 14] [(.pointer (some ⟨g, 0, none⟩)), (.int .i64 ((p : Nat) : Int)), (.string d1), (.string e1), (.pointer (some ⟨g, 1, none⟩)), (.int .i64 ((v : Nat) : Int)), (.string d2), (.string e2), (.string e3), (.pointer (some ⟨g, 2, none⟩)), (.string s), (.string z)] (by kernel_rfl) (by kernel_rfl) ?_ ?_
  · intro jq oj hjq hoj a' w' hb' he hdep Kq hKq
    have hr := heap_below hb' HX.out hlt
    have c0 := cell_of_row _ _ 0 _ _ _ hr
    have c1 := cell_of_row _ _ 1 _ _ _ hr
    have c2 := cell_of_row _ _ 2 _ _ _ hr
    have hjq' : jq = 0 ∨ jq = 1 ∨ jq = 2 ∨ jq = 3 ∨ jq = 4 ∨ jq = 5 ∨ jq = 6 ∨ jq = 7 ∨ jq = 8 ∨ jq = 9 ∨ jq = 10 ∨ jq = 11 := by omega
    rcases hjq' with rfl | rfl | rfl | rfl | rfl | rfl | rfl | rfl | rfl | rfl | rfl | rfl
    · obtain rfl := Option.some.inj hoj
      exact wpO_val _ (exec_fldB0 rfl ((he 1 (by decide)).trans rfl : a'.eval (.tmp 1) = (.pointer (some ⟨g, 0, none⟩)))) (hKq _ (Below.refl _ _))
    · obtain rfl := Option.some.inj hoj
      exact wpO_val _ (exec_ldcellB rfl (hdep ⟨0, .data⟩ (by simp) rfl : a'.eval (.tmp 3) = (.pointer (some ⟨g, 0, none⟩))) c0) (hKq _ (Below.refl _ _))
    · obtain rfl := Option.some.inj hoj
      exact wpO_call _ _ (exec_call1 rfl rfl (hdep ⟨1, .data⟩ (by simp) rfl : a'.eval (.tmp 4) = (.int .i64 ((p : Nat) : Int))) (by go_simp)) ((HD.out.1 w').mono fun e w'' ⟨h1, h2⟩ => ⟨_, h1, hKq w'' h2⟩)
    · obtain rfl := Option.some.inj hoj
      exact wpO_val _ (exec_cat rfl (hdep ⟨2, .data⟩ (by simp) rfl : a'.eval (.tmp 5) = (.string d1)) rfl HQ.out.1.1 HKK.out.1.1) (hKq _ (Below.refl _ _))
    · obtain rfl := Option.some.inj hoj
      exact wpO_val _ (exec_fldB1 rfl ((he 1 (by decide)).trans rfl : a'.eval (.tmp 1) = (.pointer (some ⟨g, 0, none⟩)))) (hKq _ (Below.refl _ _))
    · obtain rfl := Option.some.inj hoj
      exact wpO_val _ (exec_ldcellB rfl (hdep ⟨4, .data⟩ (by simp) rfl : a'.eval (.tmp 7) = (.pointer (some ⟨g, 1, none⟩))) c1) (hKq _ (Below.refl _ _))
    · obtain rfl := Option.some.inj hoj
      exact wpO_call _ _ (exec_call1 rfl rfl (hdep ⟨5, .data⟩ (by simp) rfl : a'.eval (.tmp 8) = (.int .i64 ((v : Nat) : Int))) (by go_simp)) ((HD.out.2 w').mono fun e w'' ⟨h1, h2⟩ => ⟨_, h1, hKq w'' h2⟩)
    · obtain rfl := Option.some.inj hoj
      exact wpO_val _ (exec_cat rfl (hdep ⟨3, .data⟩ (by simp) rfl : a'.eval (.tmp 6) = (.string e1)) (hdep ⟨6, .data⟩ (by simp) rfl : a'.eval (.tmp 9) = (.string d2)) HQ.out.1.2 HKK.out.1.2) (hKq _ (Below.refl _ _))
    · obtain rfl := Option.some.inj hoj
      exact wpO_val _ (exec_cat rfl (hdep ⟨7, .data⟩ (by simp) rfl : a'.eval (.tmp 10) = (.string e2)) rfl HQ.out.2.1 HKK.out.2.1) (hKq _ (Below.refl _ _))
    · obtain rfl := Option.some.inj hoj
      exact wpO_val _ (exec_fldB2 rfl ((he 1 (by decide)).trans rfl : a'.eval (.tmp 1) = (.pointer (some ⟨g, 0, none⟩)))) (hKq _ (Below.refl _ _))
    · obtain rfl := Option.some.inj hoj
      exact wpO_val _ (exec_ldstrB rfl (hdep ⟨9, .data⟩ (by simp) rfl : a'.eval (.tmp 12) = (.pointer (some ⟨g, 2, none⟩))) c2) (hKq _ (Below.refl _ _))
    · obtain rfl := Option.some.inj hoj
      exact wpO_val _ (exec_cat rfl (hdep ⟨8, .data⟩ (by simp) rfl : a'.eval (.tmp 11) = (.string e3)) (hdep ⟨10, .data⟩ (by simp) rfl : a'.eval (.tmp 13) = (.string s)) HQ.out.2.2 HKK.out.2.2) (hKq _ (Below.refl _ _))
  · intro w6 hb6
    simp only [puts, Act.put, List.setIfInBounds_toArray, List.set_cons_zero, List.set_cons_succ, List.drop_succ_cons, List.drop_zero, Nat.zero_add, Nat.reduceAdd, List.getD_cons_zero, List.getD_cons_succ]
    have HB6 := hid (HB.out.trans (hb6.mono (by omega)))
    clear hb6
    go_wp2_with fail
    go_ret
    exact ⟨rfl, by rw [hg]; exact HB6.out⟩
set_option maxHeartbeats 2000000 in
theorem rbox_c (p v : Int) (s : ByteArray) (hs : s.size ≤ 1000000) (w : World) :
    Calls Tryz.prog 8 #[.agg #[.int .i64 p, .int .i64 v, .string s]] w fun e w' => e = .returned (.bool (isBoxL p v s.data.toList)) ∧ Below w.heap.size w w' := by
  have hx := heap_alloc_new w (.cells #[.int .i64 p, .int .i64 v, .string s] 27)
  have hb : Below w.heap.size w (w.alloc (.cells #[.int .i64 p, .int .i64 v, .string s] 27)) := (Below.refl _ _).alloc (Nat.le_refl _) _
  have hSA := fun W => (rsalt_c s hs W).mono fun e w' h => (⟨h.1, h.2 ▸ Below.refl _ _⟩ : e = .returned (.bool (isSaltL s.data.toList)) ∧ Below W.heap.size W w')
  unfold isBoxL
  generalize isSaltL s.data.toList = sb at hSA ⊢
  have h1 := rin_c p 1 30
  have h2 := rin_c v 0 999999999
  generalize (decide (1 ≤ p) && decide (p ≤ 30)) = b1 at h1 ⊢
  generalize (decide (0 ≤ v) && decide (v ≤ 999999999)) = b2 at h2 ⊢
  have HS := hid hSA
  have H1 := hid h1
  have HD := hid trivial
  have H2 := hid h2
  have k0 := cell_of_row _ w.heap.size 0 _ _ _ hx
  have k1 := cell_of_row _ w.heap.size 1 _ _ _ hx
  have k2 := cell_of_row _ w.heap.size 2 _ _ _ hx
  obtain ⟨g, hg⟩ : ∃ g, w.heap.size = g := ⟨_, rfl⟩
  rw [hg] at k0 k1 k2
  have HK := hid (And.intro k0 (And.intro k1 (And.intro k2 hb)))
  clear k0 k1 k2
  clear hSA h1 h2 hb hx
  cases b1 with
  | false =>
    go_enter Tryz.func8, Tryz.ntmps8
    go_upto_region 1 with fail
    generalize w.alloc (.cells #[.int .i64 p, .int .i64 v, .string s] 27) = wa at HK ⊢
    have ⟨k0, k1, k2, hb⟩ := HK.out
    have hsz := hb.size
    have HB := hid hb
    clear hb HK
    go_wp2_with (go_at_call 32; have hq := HD; clear hq HD; refine (H1.out _).mono ?_; rintro e w1 ⟨rfl, rfl⟩)
    go_ret
    exact ⟨by simp, HB.out⟩
  | true =>
    cases b2 with
    | false =>
      go_enter Tryz.func8, Tryz.ntmps8
      go_upto_region 1 with fail
      generalize w.alloc (.cells #[.int .i64 p, .int .i64 v, .string s] 27) = wa at HK ⊢
      have ⟨k0, k1, k2, hb⟩ := HK.out
      have hsz := hb.size
      have HB := hid hb
      clear hb HK
      go_wp2_with (first
        | (go_at_call 32; have hq := HD; clear hq HD; refine (H1.out _).mono ?_; rintro e w1 ⟨rfl, rfl⟩)
        | (go_at_call 32; refine (H2.out _).mono ?_; rintro e w1 ⟨rfl, rfl⟩))
      go_ret
      exact ⟨by simp, HB.out⟩
    | true =>
      go_enter Tryz.func8, Tryz.ntmps8
      go_upto_region 1 with fail
      generalize w.alloc (.cells #[.int .i64 p, .int .i64 v, .string s] 27) = wa at HK ⊢
      have ⟨k0, k1, k2, hb⟩ := HK.out
      have hsz := hb.size
      have HB := hid hb
      clear hb HK
      go_wp2_with (first
        | (go_at_call 32; have hq := HD; clear hq HD; refine (H1.out _).mono ?_; rintro e w1 ⟨rfl, rfl⟩)
        | (go_at_call 32; refine (H2.out _).mono ?_; rintro e w1 ⟨rfl, rfl⟩)
        | (go_at_call 33; refine (HS.out _).mono ?_; rintro e w2 ⟨rfl, hb2⟩))
      go_ret
      exact ⟨by simp, HB.out.trans (hb2.mono hsz)⟩
end Go.Proofs.YtbcileppebpamaaGreatDoor
set_option linter.unusedSimpArgs false
set_option linter.unusedVariables false
namespace Go.Proofs.YtbcileppebpamaaGreatDoor
open Go Go.RowKit Go.Shelf
set_option maxRecDepth 100000
def sltB (n : Nat) : ByteArray := ⟨[UInt8.ofNat (97 + n % 26), UInt8.ofNat (48 + n % 10)].toArray⟩
theorem exec_ixI {ev : Operand → Value} {o : Oper} {x y : Operand} {p : Option Addr} {m cc b oo i : Nat} {W : World} (ho : o.op = .indexAddr 72 x y) (hx : ev x = .slice p m cc) (hy : ev y = .int .i64 ((i : Nat) : Int)) (hp : p = some ⟨b, oo, none⟩) (hi : i < m) : (execOp ev o).run Tryz.prog W = .ok (.value (.pointer (some ⟨b, oo + i, none⟩))) W := by
  subst hp
  have h0 : (0 : Int) ≤ ((i : Nat) : Int) := by omega
  have h1 : ((i : Nat) : Int) < ((m : Nat) : Int) := by omega
  simp [execOp, ho, hx, hy]
  go_simp
theorem exec_build {ev : Operand → Value} {o : Oper} {x y z : Operand} {a b : Int} {s : ByteArray} {W : World} (ho : o.op = .build 27 #[(0, x), (1, y), (2, z)]) (hx : ev x = .int .i64 a) (hy : ev y = .int .i64 b) (hz : ev z = .string s) : (execOp ev o).run Tryz.prog W = .ok (.value (.agg #[.int .i64 a, .int .i64 b, .string s])) W := by
  simp [execOp, ho, hx, hy, hz]
  go_simp
theorem Stt.congr {D : DS} {b m : Nat} {H : Nat → ByteArray} {v : Nat → Nat} {t : Nat → ByteArray} {i : Nat} {O O' : Nat → Prop} {c : Nat} (h : Stt D b m H v t i O c) (hO : ∀ j, j < m → (O j ↔ O' j)) : Stt D b m H v t i O' c :=
  have hj : ∀ j p, D.ps[j]? = some p → j < m := fun j p hp => by rw [← h.len]; exact (List.getElem?_eq_some_iff.1 hp).1
  ⟨h.below, h.len, h.sl, h.op, h.cl, h.ls, h.un, h.sd, fun j p hp hn => h.op0 j p hp fun ho => hn ((hO j (hj j p hp)).1 ho), fun j p hp ho => h.op1 j p hp ((hO j (hj j p hp)).2 ho)⟩
/-- The value, the salt, the hash of a person. -/
def vsF (vs : List Nat) (j : Nat) : Nat := vs.getD j 0
def slF (n : Nat) (j : Nat) : ByteArray := sltB ((n + j) % 256)
def hsF (vs : List Nat) (n : Nat) (j : Nat) : ByteArray := openH ((j + 1 : Nat) : Int) ((vsF vs j : Nat) : Int) (slF n j)
theorem exec_addD {ev : Operand → Value} {o : Oper} {x y : Operand} {a c : Nat} {W : World} (ho : o.op = .binOp .add 3 x y 3) (hx : ev x = .int .i64 ((a : Nat) : Int)) (hy : ev y = .int .i64 1) (hc : a + 1 = c) (hl : a < 1000000000) : (execOp ev o).run Tryz.prog W = .ok (.value (.int .i64 ((c : Nat) : Int))) W :=
  exec_addN (b := 1) (c := c) ho hx hy hc (by omega)
end Go.Proofs.YtbcileppebpamaaGreatDoor
set_option linter.unusedSimpArgs false
set_option linter.unusedVariables false
namespace Go.Proofs.YtbcileppebpamaaGreatDoor
open Go Go.RowKit Go.Shelf
set_option maxRecDepth 100000
theorem infoDev : (Tryz.prog.info? 124).map (fun i => (i.zero, i.size, i.bytes)) = some (some (.agg #[.int .i64 0, .int .i64 0, .int .i64 0, .int .i64 0]), 4, 32) := by kernel_rfl
def Dv.cells (d : Dv) : List Value := [.int .i64 ((d.p : Nat) : Int), .int .i64 d.k, .int .i64 ((d.s : Nat) : Int), .int .i64 ((d.l : Nat) : Int)]
/-- A slice of deviants of the call's own. -/
def DvO (W : World) (B : Nat) (v : Value) (ds : List Dv) : Prop := W.ownsRow B 124 4 v ds.length (ds.flatMap Dv.cells)
theorem DvO.abd (B B0 : Nat) (v : Value) (ds : List Dv) : Abd B fun W => DvO W B0 v ds :=
  ⟨fun W W' h hb => ⟨h.1, h.2.imp id fun ⟨g, cap, cur, h3, h4, h5, h6⟩ => ⟨g, cap, cur, h3, h4, (Abd.block B g _ rfl).below _ _ h5 hb, h6⟩⟩,
   fun W l r r' hl h hr => ⟨h.1, h.2.imp id fun ⟨g, cap, cur, h3, h4, h5, h6⟩ => ⟨g, cap, cur, h3, h4, (Abd.block B g _ rfl).turn W l r r' hl h5 hr, h6⟩⟩,
   fun W D hl h hr => ⟨h.1, h.2.imp id fun ⟨g, cap, cur, h3, h4, h5, h6⟩ => ⟨g, cap, cur, h3, h4, (Abd.block B g _ rfl).mark W D hl h5 hr, h6⟩⟩⟩
theorem DvO.below {W W' : World} {B : Nat} {v : Value} {ds : List Dv} (h : DvO W B v ds) (hb : Below W.heap.size W W') : DvO W' B v ds :=
  ⟨h.1, h.2.imp id fun ⟨g, cap, cur, h3, h4, h5, h6⟩ => ⟨g, cap, cur, h3, h4, heap_below hb h5 (heap_lt h5), h6⟩⟩
theorem DvO.book {W W' : World} {B B' : Nat} {v : Value} {ds : List Dv} (h : DvO W B v ds) (hk : ∀ (b : Nat) (o : Obj), W.heap[b]? = some o → isBook o = false → W'.heap[b]? = some o) (hB : B' ≤ B := by omega) : DvO W' B' v ds :=
  ⟨h.1, h.2.imp id fun ⟨g, cap, cur, h3, h4, h5, h6⟩ => ⟨g, cap, cur, h3, Nat.le_trans hB h4, hk _ _ h5 rfl, h6⟩⟩
theorem DvO.form {W : World} {B : Nat} {v : Value} {ds : List Dv} (h : DvO W B v ds) : ∃ p c, v = .slice p ds.length c := by
  rcases h.2 with ⟨rfl, h0⟩ | ⟨g, cap, cur, h3, _⟩
  · exact ⟨none, 0, by rw [h0]⟩
  · exact ⟨_, _, h3⟩
theorem DvO.neLow {W : World} {B : Nat} {v : Value} {ds : List Dv} (h : DvO W B v ds) {b : Nat} (hb : b < B) : some b ≠ v.ownBlock := by
  rcases h.2 with ⟨rfl, h0⟩ | ⟨g, cap, cur, rfl, h4, _⟩
  · simp [Value.ownBlock]
  · simp [Value.ownBlock]; omega
theorem DvO.neBook {W : World} {B : Nat} {v : Value} {ds : List Dv} (h : DvO W B v ds) {b : Nat} {o : Obj} (hb : W.heap[b]? = some o) (ho : isBook o = true) : some b ≠ v.ownBlock := by
  rcases h.2 with ⟨rfl, h0⟩ | ⟨g, cap, cur, rfl, h4, h5, _⟩
  · simp [Value.ownBlock]
  · intro e
    simp [Value.ownBlock] at e
    subst e
    rw [h5] at hb
    cases hb
    cases ho
theorem app_round {W V w' : World} {g b q : Nat} {v v2 : Value} {pre ds : List Dv} {o : Obj} {T : TypeId} (hbq : b < g ∧ q < g) (hdv : DvO V (g + 1) v pre) (hbV : Below g W V) (hgV : g + 1 ≤ V.heap.size) (hbx : Boxed V g T v) (hw : (V.alloc o).grownBy w' v.ownBlock) (hv : DvO w' (g + 1) v2 ds) :
    KeepsL V (w'.setCell ⟨g, 0, none⟩ v2) ∧ KeptS (fun k => k = b ∨ k = q) V (w'.setCell ⟨g, 0, none⟩ v2) ∧ (∃ v, Boxed (w'.setCell ⟨g, 0, none⟩ v2) g T v ∧ DvO (w'.setCell ⟨g, 0, none⟩ v2) (g + 1) v ds) ∧ Below g W (w'.setCell ⟨g, 0, none⟩ v2) ∧ g + 1 ≤ (w'.setCell ⟨g, 0, none⟩ v2).heap.size := by
  have hsz : V.heap.size ≤ w'.heap.size := Nat.le_trans (by simp) hw.size
  have hk : ∀ (k : Nat) (o : Obj), V.heap[k]? = some o → some k ≠ v.ownBlock → w'.heap[k]? = some o := fun k o ho hne =>
    (hw.block k (by have := heap_lt ho; simp; omega) hne).trans (heap_below ((Below.refl V.heap.size V).alloc (Nat.le_refl _) _) ho (heap_lt ho))
  have hg0 : w'.heap[g]? = some (.cells #[v] T (0, 0)) := hk _ _ hbx (hdv.neLow (by omega))
  refine ⟨KeepsL.setCell ⟨hsz, fun k o ho hb => hk k o ho (hdv.neBook ho hb)⟩ _ hg0, KeptS.setCell ⟨hsz, fun k hS o ho _ => hk k o ho (hdv.neLow (by omega)), fun k x ho => hk k _ ho (hdv.neBook ho rfl)⟩ _ (by omega), ⟨v2, ?_, ?_⟩, ?_, by simp; omega⟩
  · exact Boxed.set v2 hg0
  · exact ⟨hv.1, hv.2.imp id fun ⟨k, cap, cur, h3, h4, h5, h6⟩ => ⟨k, cap, cur, h3, h4, (heap_setCell_other w' ⟨g, 0, none⟩ k v2 (by show k ≠ g; omega)).trans h5, h6⟩⟩
  · refine Below.setCell (p := ⟨g, 0, none⟩) ?_ (Nat.le_refl _) _
    have h1 : Below g V (V.alloc o) := Below.alloc (Below.refl _ _) (by omega) _
    exact hbV.trans (h1.trans ⟨hw.os, hw.tape, hw.output, hw.size, fun k hk2 => hw.block k (by simp; omega) (hdv.neLow (by omega))⟩)
theorem wpO_app_dev {o : Oper} {a : Act} {w : World} {K : Act → World → Prop} {Q : Exit → Act → World → Prop} (s x : Operand)
    (ho : o.op = .call { callee := .builtin .append, args := #[s, x], argTypes := #[35, 35] }) (B : Nat) (v : Value) (ds : List Dv) (hs : a.eval s = v) (hown : DvO w B v ds)
    (d : Dv) (g c : Nat) (hx : a.eval x = .slice (some ⟨g, 0, none⟩) 1 c) (hc : w.heap[g]? = some (.cells d.cells.toArray 124 (0, 0))) (hlen : ds.length < 100000) (hB : B ≤ w.heap.size)
    (h : ∀ v' w', DvO w' B v' (ds ++ [d]) → w.grownBy w' v.ownBlock → K (a.put o.dst v') w') : o.wp Tryz.prog a w K Q := by
  obtain ⟨i0, hi, hz0, hz1, hz2⟩ := info_parts infoDev
  obtain ⟨v', w', hrun, r1, r2, r3⟩ := run_append_own (P := Tryz.prog) w B 35 o.type 124 i0 (.agg #[.int .i64 0, .int .i64 0, .int .i64 0, .int .i64 0]) 4 32 Tryz.underlying35 hi hz0 hz1 hz2 rfl (by decide) v ds.length _ hown ⟨g, 0, none⟩ 1 c d.cells rfl
    (fun j u hj => by
      rw [show (⟨g, 0, none⟩ : Addr).add j = ⟨g, j, none⟩ by unfold Addr.add; split <;> simp_all, cell_of_row _ _ j _ _ (0, 0) hc]
      simpa using hj) (fun u hu => by
      simp only [Dv.cells, List.mem_cons, List.not_mem_nil, or_false] at hu
      rcases hu with rfl | rfl | rfl | rfl <;> rfl) (by unfold maxLen; omega) (by omega) hB
  unfold Oper.wp execOp
  simp only [ho, resolve, invoke, builtin, Sem.run_bind, Sem.run_pure, Result.andThen_ok, List.map_toArray, List.map_cons, List.map_nil, hs, hx, hrun]
  refine h v' w' ?_ r2
  unfold DvO
  simpa [List.flatMap_append] using r1
theorem wpListIn_appdev {F : Fence} {m : Nat} {ops : Array Oper} (hF : Lets F) {rest : List Oper} {o : Oper} {Q : Exit → Act → World → Prop} {a : Act} {w : World} (hgd : o.guard = none) (hd : ∀ c, o.op ≠ .defer c) (s x : Operand)
    (ho : o.op = .call { callee := .builtin .append, args := #[s, x], argTypes := #[35, 35] }) (B : Nat) (v : Value) (ds : List Dv) (hs : a.eval s = v) (hown : DvO w B v ds)
    (d : Dv) (g c : Nat) (hx : a.eval x = .slice (some ⟨g, 0, none⟩) 1 c) (hc : w.heap[g]? = some (.cells d.cells.toArray 124 (0, 0))) (hlen : ds.length < 100000) (hB : B ≤ w.heap.size)
    (h : ∀ v' w', DvO w' B v' (ds ++ [d]) → w.grownBy w' v.ownBlock → wpListIn F m Tryz.prog ops Q rest (a.put o.dst v') w') : wpListIn F m Tryz.prog ops Q (o :: rest) a w :=
  wpListIn_plain hgd fun K hK' => oper_in hF hd (fun _ _ h => h) (Q' := Q) (K := K) (wpO_app_dev s x ho B v ds hs hown d g c hx hc hlen hB fun v' w' h1 h2 => hK' _ _ (h v' w' h1 h2))
attribute [local go_sem] Oper.semAt_some
set_option maxHeartbeats 4000000 in
theorem appendSeq_in (n : Nat) (hn : 4 ≤ n) {W : World} {b q : Nat} {D : DS} (hd : DevAt W b q D) (hps : D.ps.length ≤ 30) (hdl : D.devs.length ≤ 30) :
    CallsIn Fence.wide n Tryz.prog 82 #[.slice none 0 0, .func (.func 62) #[.pointer (some ⟨b, 0, none⟩)] #[]] W fun e W' => ∃ v, e = .returned v ∧ DvO W' W.heap.size v D.devs ∧ Below W.heap.size W W' := by
  have hx := heap_alloc_new W (.cells #[.slice none 0 0] 35)
  have hb : Below W.heap.size W (W.alloc (.cells #[.slice none 0 0] 35)) := (Below.refl _ _).alloc (Nat.le_refl _) _
  have hbq : b < W.heap.size ∧ q < W.heap.size := ⟨let ⟨_, h⟩ := hd.box; heap_lt h, heap_lt hd.row⟩
  have hs : (W.alloc (.cells #[.slice none 0 0] 35)).heap.size = W.heap.size + 1 := by simp
  have hd2 := hd.below hb
  obtain ⟨g, hg⟩ : ∃ g, W.heap.size = g := ⟨_, rfl⟩
  rw [hg] at hx hb hs hbq ⊢
  have HBQ := hid hbq
  have HG := hid hg
  have HX := hid hx
  have HB := hid hb
  have HD := hid hd2
  have HS := hid hs
  clear hx hb hd hd2 hs hbq
  refine callsIn_of_wp_marks Tryz.func82 rfl trivial ?_ rfl
  simp only [Tryz.ntmps82, List.size_toArray, List.length_cons, List.length_nil, Nat.reduceAdd, Nat.reduceSub, Array.replicate_succ, Array.replicate_zero, List.push_toArray, List.append_toArray, List.nil_append, List.cons_append]
  gi_wp2_with fail
  generalize W.alloc (.cells #[.slice none 0 0] 35) = W1 at HX HB HD HS ⊢
  have hSQ := dev_seq (n - 1) (by omega) b q D hps W1 HD.out
  have hgW : g + 1 ≤ W1.heap.size := by rw [HS.out]; exact Nat.le_refl _
  apply rb_out rfl (show 1 ≤ n by omega) (gf := 62) (pb := #[.pointer (some ⟨b, 0, none⟩)]) (lb := #[]) rfl trivial (enters_of Tryz.func62 (by kernel_rfl) rfl) hSQ (fun _ => rfl)
    (fun pre V => (∃ v, Boxed V g 35 v ∧ DvO V (g + 1) v pre) ∧ Below g W V ∧ g + 1 ≤ V.heap.size)
    (fun c pre V => False)
    (fun pre => (Abd.ex fun v => (Abd.boxed _ _ _ _).and (DvO.abd _ _ _ _)).and ((Abd.belowOf (by have := HG.out; omega) (by omega)).and ⟨fun _ _ h hb => Nat.le_trans h hb.size, fun W l r r' hl h hr => by simpa [World.putObj] using h, fun W D hl h hr => by simpa [World.putObj] using h⟩)) (fun c pre => Abd.pure _ _) (fun pre x => Abd.pure _ _) ⟨⟨_, HX.out, World.ownsRow_nil W1 (g + 1) _ _⟩, HB.out, hgW⟩
    (fun x a' V => ∃ z, g + 1 ≤ z ∧ V.heap[z]? = some (.cells x.cells.toArray 124 (0, 0)) ∧ a' = { tmps := #[.slice none 0 0, .func (.func 62) #[.pointer (some ⟨b, 0, none⟩)] #[], .pointer (some ⟨g, 0, none⟩), undef, .slice none 0 0, .pointer (some ⟨z, 0, none⟩), .func (.func 62) #[.pointer (some ⟨b, 0, none⟩)] #[], x.enc, undef, undef, undef, undef, undef], defers := [] }) (fun x a' => Abd.ex fun z => (Abd.pure _ _).and ((Abd.block _ _ _ rfl).and (Abd.pure _ _)))
  case hstop =>
    rintro M c pre V hM hf hmk
    exact hf.elim
  case hassign =>
    intro l pre x V K hi ho hK
    have hgV := hi.2.2
    have HK := hid hK
    clear hi ho hK
    simp only [Dv.enc]
    gi_wp2_with fail
    exact HK.out _ _ ((Below.refl _ _).alloc (Nat.le_refl _) _) ⟨_, hgV, heap_alloc_new V _, rfl⟩
  case hdone =>
    rintro M xs V hM rfl ⟨⟨v, hbx, hdv⟩, hbV, hgV⟩ hmk
    have c0 := hbx.cell
    have HB4 := hid (And.intro hdv hbV)
    have HMK := hid hmk
    clear hbx hdv hbV hmk hSQ
    gi_wp2_with fail
    refine leaves_marks g [M] _ (by simp) (fun M' hM' => ?_) (fun W' hb' hc' => ?_)
    · obtain rfl : M' = M := by simpa using hM'
      exact ⟨HMK.out, by omega⟩
    · exact ⟨_, results_tmp Tryz.results82 _ _ _, _, rfl, HB4.out.1.book hc', HB4.out.2.trans hb'⟩
  case hbody =>
    rintro l pre x a' V hl hr ⟨⟨v, hbx, hdv⟩, hbV, hgV⟩ hok ⟨z, hgz, hz, rfl⟩
    have c0 := hbx.cell
    have f0 := hbx.frozen
    have d0 := cell_of_row _ _ 0 _ _ _ hz
    have d1 := cell_of_row _ _ 1 _ _ _ hz
    have d2 := cell_of_row _ _ 2 _ _ _ hz
    have d3 := cell_of_row _ _ 3 _ _ _ hz
    have HH := hid (And.intro hdv (And.intro hbV (And.intro hgV (And.intro hz hbx))))
    have HO := hid hok
    clear hdv hbV hgV hz hbx hSQ hok hgz hr
    have hpl : pre.length < 100000 := by
      obtain ⟨rest, h⟩ := HO.out
      have h2 := congrArg List.length h
      simp at h2
      omega
    simp only [Dv.cells] at d0 d1 d2 d3
    refine wpIn_block ?_
    gi_wp2_with (refine wpListIn_appdev (lets_round l) rfl (by intro c; simp) _ _ rfl (g + 1) v pre rfl (HH.out.1.below (Below.alloc (Below.refl _ _) (Nat.le_refl _) _)) x V.heap.size 1 rfl (heap_alloc_new V _) hpl (by have := HH.out.2.2.1; simp; omega) fun v' w' hv' hw' => ?_; obtain ⟨p2, c2, rfl⟩ := hv'.form; have hg0 : w'.heap[g]? = some (.cells #[v] 35 (0, 0)) := (hw'.block g (by have := HH.out.2.2.1; simp; omega) (HH.out.1.neLow (by omega))).trans (heap_below (Below.alloc (Below.refl _ _) (Nat.le_refl _) _) HH.out.2.2.2.2 (by have := HH.out.2.2.1; omega)); have f1 := frozen_of_row w' g 0 _ _ hg0; have c1 := cell_of_row w' g 0 _ _ _ hg0; have HG0 := hid hg0; have HV := hid hv'; have HW := hid hw'; clear hv' hw' hg0)
    all_goals exact app_round HBQ.out HH.out.1 HH.out.2.1 HH.out.2.2.1 HH.out.2.2.2.2 HW.out (by have h := HV.out; rw [List.length_append] at h; exact h)
/-- Collect. -/
theorem collect_in {W : World} {b q : Nat} {D : DS} (hd : DevAt W b q D) (hps : D.ps.length ≤ 30) (hdl : D.devs.length ≤ 30) :
    Calls Tryz.prog 64 #[.func (.func 62) #[.pointer (some ⟨b, 0, none⟩)] #[]] W fun e W' => ∃ v, e = .returned v ∧ DvO W' W.heap.size v D.devs ∧ Below W.heap.size W W' := by
  have HA := hid (callsIn_wide.1 (appendSeq_in 4 (Nat.le_refl _) hd hps hdl))
  clear hd
  go_enter Tryz.func64, Tryz.ntmps64
  go_wp2_with (go_at_call 82; refine HA.out.mono ?_; rintro e w1 ⟨v1, rfl, hv1, hb1⟩)
  go_ret
  exact ⟨_, rfl, hv1, hb1⟩
theorem Deviants_in {W : World} {b q : Nat} {D : DS} (hd : DevAt W b q D) (hps : D.ps.length ≤ 30) (hdl : D.devs.length ≤ 30) :
    Calls Tryz.prog 24 #[.pointer (some ⟨b, 0, none⟩)] W fun e W' => ∃ v, e = .returned (.tuple #[v, .int .i64 0]) ∧ DvO W' W.heap.size v D.devs ∧ Below W.heap.size W W' := by
  have HA := hid (collect_in hd hps hdl)
  clear hd
  go_enter Tryz.func24, Tryz.ntmps24
  go_wp2_with (go_at_call 64; refine HA.out.mono ?_; rintro e w1 ⟨v1, rfl, hv1, hb1⟩)
  go_ret2
  exact ⟨_, rfl, hv1, hb1⟩
end Go.Proofs.YtbcileppebpamaaGreatDoor
set_option linter.unusedSimpArgs false
set_option linter.unusedVariables false
namespace Go.Proofs.YtbcileppebpamaaGreatDoor
open Go Go.RowKit Go.Shelf
set_option maxRecDepth 100000
structure Bx where
  p : Nat
  v : Nat
  s : ByteArray
def Bx.cells (x : Bx) : List Value := [.int .i64 ((x.p : Nat) : Int), .int .i64 ((x.v : Nat) : Int), .string x.s]
section
variable {W W' : World} {B B2 b q : Nat} {T T' : TypeId} {sz sz' n n' : Nat} {v v' : Value} {cs cs' : List Value} {D : DS}
theorem own_ne (h : W.ownsRow B T sz v n cs) {k : Nat} {ks : Array Value} {z : Nat × Nat} (hk : W.heap[k]? = some (.cells ks T' z)) (hT : T' ≠ T) : some k ≠ v.ownBlock := by
  rcases h.2 with ⟨rfl, h0⟩ | ⟨g, cap, cur, rfl, h4, h5, _⟩
  · simp [Value.ownBlock]
  · intro e
    simp [Value.ownBlock] at e
    subst e
    rw [h5] at hk
    cases hk
    exact hT rfl
theorem own_grown (h : W.ownsRow B T sz v n cs) (hv' : W.ownsRow B2 T' sz' v' n' cs') (hT : T ≠ T') (hg : W.grownBy W' v'.ownBlock) : W'.ownsRow B T sz v n cs :=
  ⟨h.1, h.2.imp id fun ⟨g, cap, cur, h3, h4, h5, h6⟩ => ⟨g, cap, cur, h3, h4, (hg.block g (heap_lt h5) (own_ne hv' h5 hT)).trans h5, h6⟩⟩
theorem DrawAt.grown (h : DrawAt W B b q D) (hv : W.ownsRow B2 T' sz' v' n' cs') (h1 : 9 ≠ T') (h2 : 100 ≠ T') (h3 : 114 ≠ T') (hg : W.grownBy W' v'.ownBlock) : DrawAt W' B b q D := by
  obtain ⟨vl, k1, k2⟩ := h.box
  exact ⟨⟨vl, (hg.block b (heap_lt k1) (own_ne hv k1 h2)).trans k1, own_grown k2 hv h1 hg⟩, (hg.block q (heap_lt h.row) (own_ne hv h.row h3)).trans h.row⟩
theorem own_form (h : W.ownsRow B T sz v n cs) : ∃ p c, v = .slice p n c := by
  rcases h.2 with ⟨rfl, h0⟩ | ⟨g, cap, cur, h3, _⟩
  · exact ⟨none, 0, by rw [h0]⟩
  · exact ⟨_, _, h3⟩
theorem own_at {p : Option Addr} {m c : Nat} (h : W.ownsRow B T sz (.slice p m c) n cs) {i : Nat} (hi : i < n) : ∃ g, p = some ⟨g, 0, none⟩ ∧ g < W.heap.size ∧ B ≤ g ∧ ∀ k, k < sz → W.cell? ⟨g, i * sz + k, none⟩ = cs[i * sz + k]? := by
  rcases h.2 with ⟨_, h0⟩ | ⟨g, cap, cur, h3, h4, h5, h6, h7, h8, h9⟩
  · omega
  · injection h3 with e1 _ _
    refine ⟨g, e1, heap_lt h5, h4, fun k hk => ?_⟩
    rw [cell_of_row _ _ _ _ _ _ h5, ← h9, List.getElem?_take]
    have : i * sz + k < n * sz := by
      have : (i + 1) * sz ≤ n * sz := Nat.mul_le_mul_right _ hi
      rw [Nat.add_mul, Nat.one_mul] at this
      omega
    rw [if_pos this, Array.getElem?_toList]
end
theorem flat_get {α : Type} (f : α → List Value) (sz : Nat) (hf : ∀ x, (f x).length = sz) : ∀ (xs : List α) (i : Nat) (x : α) (k : Nat), xs[i]? = some x → k < sz → (xs.flatMap f)[i * sz + k]? = (f x)[k]?
  | y :: xs, 0, x, k, h, hk => by
    simp at h
    subst h
    rw [List.flatMap_cons, Nat.zero_mul, Nat.zero_add, List.getElem?_append_left (by rw [hf]; exact hk)]
  | y :: xs, i + 1, x, k, h, hk => by
    rw [List.flatMap_cons, List.getElem?_append_right (by rw [hf, Nat.add_mul]; omega), hf, Nat.add_mul, show i * sz + 1 * sz + k - sz = i * sz + k by omega]
    exact flat_get f sz hf xs i x k (by simpa using h) hk
section
variable {w V V' : World} {B b q B2 : Nat} {D D' : DS} {vb vd : Value} {xs : List Bx} {ds : List Bool}
theorem DA.grown (h : DA w V B b q D) (hd : DrawAt V' B b q D) {r : Option Nat} (hg : V.grownBy V' r) (hr : ∀ k, k < w.heap.size → some k ≠ r) : DA w V' B b q D :=
  ⟨hd, h.bw.trans ⟨hg.os, hg.tape, hg.output, hg.size, fun k hk => hg.block k (Nat.lt_of_lt_of_le hk h.bw.size) (hr k hk)⟩, h.wB, Nat.le_trans h.le hg.size, h.hb, h.hq⟩
end
end Go.Proofs.YtbcileppebpamaaGreatDoor
set_option linter.unusedSimpArgs false
set_option linter.unusedVariables false
namespace Go.Proofs.YtbcileppebpamaaGreatDoor
open Go Go.RowKit Go.Shelf
set_option maxRecDepth 100000
theorem itoa_no (c : UInt8) (hc : c.toNat < 48) (n : Nat) : c ∉ Lib.itoa ((n : Nat) : Int) := by
  induction n using Nat.strongRecOn with
  | _ n ih =>
    by_cases h : n < 10
    · rw [itoa_one n h, List.mem_singleton]
      intro e
      rw [e, UInt8.toNat_ofNat'] at hc
      omega
    · rw [itoa_big n h, List.mem_append]
      rintro (h1 | h1)
      · exact ih _ (by omega) h1
      · exact ih _ (by omega) h1
theorem salt_no (c : UInt8) (hc : c.toNat < 48) (l : List UInt8) (h : isSaltL l = true) : c ∉ l := by
  rw [isSaltL, Bool.and_eq_true] at h
  intro hm
  have := List.all_eq_true.1 h.2 c hm
  simp only [saltB, Bool.or_eq_true, Bool.and_eq_true, decide_eq_true_eq] at this
  omega
theorem hash_no (c : UInt8) (hc : c.toNat < 48) (l : List UInt8) (h : isHashL l = true) : c ∉ l := by
  rw [isHashL, Bool.and_eq_true] at h
  intro hm
  have := List.all_eq_true.1 h.2 c hm
  simp only [hexB, Bool.or_eq_true, Bool.and_eq_true, decide_eq_true_eq] at this
  omega
theorem itoa_len (n : Nat) (h : n ≤ 1000000000) : (Lib.itoa ((n : Nat) : Int)).length ≤ 21 := Lib.itoa_length_le _ (by omega) (by omega)
theorem sealW_no (c : UInt8) (hc : c.toNat < 48) (p : Nat) (H : ByteArray) (hH : isHashL H.data.toList = true) : ∀ w ∈ (sealW ((p : Nat) : Int) H).map (·.data.toList), c ∉ w := by
  intro w hw
  simp only [sealW, List.map_cons, List.map_nil, List.mem_cons, List.not_mem_nil, or_false] at hw
  rcases hw with rfl | rfl | rfl
  · intro hm
    simp only [wSeal, List.toList_toArray, List.mem_cons, List.not_mem_nil, or_false] at hm
    rcases hm with rfl | rfl | rfl | rfl <;> exact absurd hc (by decide)
  · exact itoa_no c hc p
  · exact hash_no c hc _ hH
theorem openW_no (c : UInt8) (hc : c.toNat < 48) (p v : Nat) (t : ByteArray) (ht : isSaltL t.data.toList = true) : ∀ w ∈ (openW ((p : Nat) : Int) ((v : Nat) : Int) t).map (·.data.toList), c ∉ w := by
  intro w hw
  simp only [openW, List.map_cons, List.map_nil, List.mem_cons, List.not_mem_nil, or_false] at hw
  rcases hw with rfl | rfl | rfl | rfl
  · intro hm
    simp only [wOpen, List.toList_toArray, List.mem_cons, List.not_mem_nil, or_false] at hm
    rcases hm with rfl | rfl | rfl | rfl <;> exact absurd hc (by decide)
  · exact itoa_no c hc p
  · exact itoa_no c hc v
  · exact salt_no c hc _ ht
theorem newW_no (c : UInt8) (hc : c.toNat < 48) (b n : Nat) : ∀ w ∈ (newW b n).map (·.data.toList), c ∉ w := by
  intro w hw
  simp only [newW, List.map_cons, List.map_nil, List.mem_cons, List.not_mem_nil, or_false] at hw
  rcases hw with rfl | rfl | rfl
  · intro hm
    simp only [wDraw, List.toList_toArray, List.mem_cons, List.not_mem_nil, or_false] at hm
    rcases hm with rfl | rfl | rfl | rfl <;> exact absurd hc (by decide)
  · exact itoa_no c hc b
  · exact itoa_no c hc n
theorem size_data (s : ByteArray) : s.size = s.data.toList.length := by
  show s.data.size = _
  simp
theorem devFrom_len (cl : Nat) : ∀ (l : List PS) (i : Nat), (devFrom cl i l).length ≤ l.length
  | [], _ => Nat.le_refl _
  | x :: l, i => by
    have := devFrom_len cl l (i + 1)
    rw [devFrom, List.length_append, List.length_cons]
    cases devOf cl i x <;> simp <;> omega
end Go.Proofs.YtbcileppebpamaaGreatDoor
set_option linter.unusedSimpArgs false
set_option linter.unusedVariables false
namespace Go.Proofs.YtbcileppebpamaaGreatDoor
open Go Go.RowKit Go.Shelf
set_option maxRecDepth 100000
/-- A text that is cut at a byte, its parts given. -/
theorem Cut_all (c : UInt8) (ws : List (List UInt8)) (h0 : 1 ≤ ws.length) (h : ∀ x ∈ ws, c ∉ x) (W : World) (m : Int) (hm : W.cell? ⟨2, 0, none⟩ = some (.int .i64 m)) (hl : (Lib.join ws [c]).length ≤ 1000000000) :
    Calls Tryz.prog 26 #[.string ⟨(Lib.join ws [c]).toArray⟩, .string ⟨#[c]⟩] W fun e W' => e = .returned (.slice (some ⟨W.heap.size, 0, none⟩) ws.length ws.length) ∧ W' = W.alloc (.cells ((bas ws).map Value.string).toArray 9) := by
  obtain ⟨w, r, rfl⟩ : ∃ w r, ws = w :: r := by
    cases ws with
    | nil => exact absurd h0 (by simp)
    | cons w r => exact ⟨w, r, rfl⟩
  exact Cut_c c w r h W m hm hl
end Go.Proofs.YtbcileppebpamaaGreatDoor
set_option linter.unusedSimpArgs false
set_option linter.unusedVariables false
namespace Go.Proofs.YtbcileppebpamaaGreatDoor
open Go Go.RowKit Go.Shelf
set_option maxRecDepth 100000
/-- A slice of strings. -/
def ReadsT (w : World) (v : Value) (ss : List ByteArray) : Prop := (ss = [] ∧ ∃ a c, v = .slice a 0 c) ∨ ∃ g o c, v = .slice (some ⟨g, o, none⟩) ss.length c ∧ g < w.heap.size ∧ ∀ (k : Nat) x, ss[k]? = some x → w.cell? ⟨g, o + k, none⟩ = some (.string x)
theorem ReadsT.form {w : World} {v : Value} {ss : List ByteArray} (h : ReadsT w v ss) : ∃ p c, v = .slice p ss.length c := by
  rcases h with ⟨rfl, a, c, rfl⟩ | ⟨g, o, c, rfl, _⟩
  · exact ⟨_, _, rfl⟩
  · exact ⟨_, _, rfl⟩
theorem ReadsT.below {w w' : World} {v : Value} {ss : List ByteArray} (h : ReadsT w v ss) (hb : Below w.heap.size w w') : ReadsT w' v ss := by
  rcases h with h | ⟨g, o, c, h1, h2, h3⟩
  · exact .inl h
  · exact .inr ⟨g, o, c, h1, Nat.lt_of_lt_of_le h2 hb.size, fun k x hk => (hb.cell (p := ⟨g, o + k, none⟩) h2).trans (h3 k x hk)⟩
theorem ReadsT.at' {w : World} {p : Option Addr} {n c : Nat} {ss : List ByteArray} (h : ReadsT w (.slice p n c) ss) {i : Nat} {x : ByteArray} (hi : ss[i]? = some x) : ∃ b o, p = some ⟨b, o, none⟩ ∧ b < w.heap.size ∧ w.cell? ⟨b, o + i, none⟩ = some (.string x) := by
  rcases h with ⟨rfl, _⟩ | ⟨g, o, c', h1, h2, h3⟩
  · simp at hi
  · injection h1 with e1 _ _
    exact ⟨g, o, e1, h2, h3 i x hi⟩
/-- Whether a box has a hash. -/
def hit (p : Nat) (N : Nat) (s : ByteArray) (v : Nat) : Bool := sealN ((p : Nat) : Int) ((v : Nat) : Int) s.data.toList == N
end Go.Proofs.YtbcileppebpamaaGreatDoor
