/- Walk of law 11: WitnessOne. -/
import Derived.Test.YtbcileppebpamaaDoorYB
import Derived.Test.YtbcileppebpamaaDoorWW
set_option linter.unusedSimpArgs false
set_option linter.unusedVariables false
namespace Go.Proofs.YtbcileppebpamaaDoor
open Go Go.RowKit Go.Shelf
set_option maxRecDepth 100000

/-- The values: one more among those of the others. -/
def bldV (p v : Nat) (O : List Nat) : Nat → List Nat
  | 0 => []
  | i + 1 => bldV p v O i ++ (if i = p then [v] else []) ++ [O.getD i 0]
def allV (p v : Nat) (O : List Nat) (m : Nat) : List Nat := bldV p v O m ++ (if p = m then [v] else [])
theorem bldV_sum (p v : Nat) (O : List Nat) : ∀ i, i ≤ O.length → (bldV p v O i).sum = (O.take i).sum + if p < i then v else 0
  | 0, _ => by simp [bldV]
  | i + 1, h => by
    rw [bldV, List.sum_append, List.sum_append, bldV_sum p v O i (by omega), List.take_add_one, List.getElem?_eq_getElem (show i < O.length by omega)]
    simp only [Option.toList_some, List.sum_append, List.sum_singleton, List.getD_eq_getElem?_getD, List.getElem?_eq_getElem (show i < O.length by omega), Option.getD_some]
    by_cases h1 : i = p
    · subst h1
      simp
      omega
    · by_cases h2 : p < i
      · rw [if_neg h1, if_pos h2, if_pos (by omega)]
        simp
        omega
      · rw [if_neg h1, if_neg h2, if_neg (by omega)]
        simp
theorem bldV_len (p v : Nat) (O : List Nat) : ∀ i, (bldV p v O i).length = i + if p < i then 1 else 0
  | 0 => by simp [bldV]
  | i + 1 => by
    rw [bldV, List.length_append, List.length_append, bldV_len p v O i]
    by_cases h1 : i = p
    · subst h1
      simp
    · by_cases h2 : p < i
      · rw [if_neg h1, if_pos h2, if_pos (by omega)]
        simp
        try omega
      · rw [if_neg h1, if_neg h2, if_neg (by omega)]
        simp
theorem bldV_lt (p v n : Nat) (O : List Nat) (hv : v < n) (hO : ∀ x ∈ O, x < n) : ∀ i, ∀ x ∈ bldV p v O i, x < n
  | 0, x, h => by simp [bldV] at h
  | i + 1, x, h => by
    rw [bldV] at h
    rcases List.mem_append.1 h with h | h
    · rcases List.mem_append.1 h with h | h
      · exact bldV_lt p v n O hv hO i x h
      · split at h
        · rw [List.mem_singleton.1 h]; exact hv
        · simp at h
    · rw [List.mem_singleton.1 h, List.getD_eq_getElem?_getD]
      cases hx : O[i]? with
      | none => show 0 < n; omega
      | some y => exact hO y (List.mem_of_getElem? hx)
theorem allV_sum (p v m : Nat) (O : List Nat) (hm : O.length = m) (hp : p ≤ m) : (allV p v O m).sum = v + O.sum := by
  rw [allV, List.sum_append, bldV_sum p v O m (by omega), List.take_of_length_le (by omega)]
  by_cases h : p = m
  · subst h
    simp
    omega
  · rw [if_pos (by omega), if_neg h]
    simp
    omega
theorem allV_len (p v m : Nat) (O : List Nat) (hp : p ≤ m) : (allV p v O m).length = m + 1 := by
  rw [allV, List.length_append, bldV_len]
  by_cases h : p = m
  · subst h
    simp
  · rw [if_pos (by omega), if_neg h]
    rfl
theorem allV_lt (p v n m : Nat) (O : List Nat) (hv : v < n) (hO : ∀ x ∈ O, x < n) : ∀ x ∈ allV p v O m, x < n := fun x h => by
  rw [allV] at h
  rcases List.mem_append.1 h with h | h
  · exact bldV_lt p v n O hv hO m x h
  · split at h
    · rw [List.mem_singleton.1 h]; exact hv
    · simp at h
theorem sumV_vsF (vs : List Nat) : ∀ i, i ≤ vs.length → sumV (vsF vs) i = (vs.take i).sum
  | 0, _ => by simp [sumV]
  | i + 1, h => by
    rw [sumV, sumV_vsF vs i (by omega), List.take_add_one, List.getElem?_eq_getElem (show i < vs.length by omega)]
    simp only [Option.toList_some, List.sum_append, List.sum_singleton, vsF, List.getD_eq_getElem?_getD, List.getElem?_eq_getElem (show i < vs.length by omega), Option.getD_some]
set_option maxHeartbeats 16000000 in
theorem lawOne (bs : List Nat) (u : Value) (hq bq sq : Nat) (w : World) (hr : ReadsU w u bs) (hhq : hq < 256) (hbq : bq < 256) (hsq : sq < 256) (L : LaidW w) :
    Calls Tryd.prog 6 #[.agg #[u, .int .u8 ((hq : Nat) : Int), .int .u8 ((bq : Nat) : Int), .int .u8 ((sq : Nat) : Int)]] w fun e w' => e = .returned (.bool true) ∧ Below w.heap.size w w' := by
  obtain ⟨p, cc, rfl⟩ := hr.form
  obtain ⟨m, hm⟩ : ∃ m, bs.length = m := ⟨_, rfl⟩
  have hml : m ≤ 9223372036854775807 := by have := hr.2.1; unfold maxLen at this; omega
  rw [hm]
  have hx := heap_alloc_new w (.cells #[.slice p m cc, .int .u8 ((hq : Nat) : Int), .int .u8 ((bq : Nat) : Int), .int .u8 ((sq : Nat) : Int)] 43)
  have hb : Below w.heap.size w (w.alloc (.cells #[.slice p m cc, .int .u8 ((hq : Nat) : Int), .int .u8 ((bq : Nat) : Int), .int .u8 ((sq : Nat) : Int)] 43)) := (Below.refl _ _).alloc (Nat.le_refl _) _
  have hru := hr
  rw [hm] at hru
  have HRU := hid hru
  have HX := hid hx
  have HB := hid hb
  have HM := hid hm
  have HLL := hid L
  clear hx hb hr hru hm L
  go_enter Tryd.func6, Tryd.ntmps6
  go_upto_region 1 with fail
  generalize w.alloc (.cells #[.slice p m cc, .int .u8 ((hq : Nat) : Int), .int .u8 ((bq : Nat) : Int), .int .u8 ((sq : Nat) : Int)] 43) = W0 at HX HB ⊢
  have k0 := cell_of_row _ _ 0 _ _ _ HX.out
  have k1 := cell_of_row _ _ 1 _ _ _ HX.out
  have k2 := cell_of_row _ _ 2 _ _ _ HX.out
  have k3 := cell_of_row _ _ 3 _ _ _ HX.out
  go_quiet (fail)
  have hb1 : Below w.heap.size w (W0.drewN nq) := HB.out.trans ((below_drewN (Below.refl _ _) nq : Below W0.heap.size W0 (W0.drewN nq)).mono HB.out.size)
  generalize W0.drewN nq = W1 at hb1 ⊢
  have HB1 := hid hb1
  clear k0 k1 k2 k3 HX HB hb1
  by_cases h15 : m < 1 ∨ 5 < m
  · have HK := hid (known_c _ (HLL.out.below HB1.out))
    rcases h15 with h | h
    · have d1 : decide (((m : Nat) : Int) < 1) = true := decide_eq_true (by omega)
      have d2 : decide (m < 1) = true := decide_eq_true h
      clear h
      go_wp2_with (go_at_call 9; refine HK.out.mono ?_; rintro e w2 ⟨rfl, hb2⟩; have HB2 := hid (HB1.out.trans (hb2.mono HB1.out.size)); clear hb2)
      go_ret
      exact ⟨rfl, HB2.out⟩
    · have d1 : decide (((m : Nat) : Int) < 1) = false := decide_eq_false (by omega)
      have d2 : decide (m < 1) = false := decide_eq_false (by omega)
      have d3 : decide ((5 : Int) < ((m : Nat) : Int)) = true := decide_eq_true (by omega)
      have d4 : decide (5 < m) = true := decide_eq_true h
      clear h
      go_wp2_with (go_at_call 9; refine HK.out.mono ?_; rintro e w2 ⟨rfl, hb2⟩; have HB2 := hid (HB1.out.trans (hb2.mono HB1.out.size)); clear hb2)
      go_ret
      exact ⟨rfl, HB2.out⟩
  · have hm15 : 1 ≤ m ∧ m ≤ 5 := by omega
    have d1 : decide (((m : Nat) : Int) < 1) = false := decide_eq_false (by omega)
    have d2 : decide (m < 1) = false := decide_eq_false (by omega)
    have d3 : decide ((5 : Int) < ((m : Nat) : Int)) = false := decide_eq_false (by omega)
    have d4 : decide (5 < m) = false := decide_eq_false (by omega)
    obtain ⟨n, hn⟩ : ∃ n, 1 + bq % 12 = n := ⟨_, rfl⟩
    have hn1 : 1 ≤ n := by omega
    have hn12 : n ≤ 12 := by omega
    obtain ⟨m1, hm1⟩ : ∃ m1, m + 1 = m1 := ⟨_, rfl⟩
    obtain ⟨pp, hpp⟩ : ∃ pp, hq % m1 = pp := ⟨_, rfl⟩
    have hppm : pp ≤ m := by
      have : hq % m1 < m1 := Nat.mod_lt _ (by omega)
      omega
    have e1 : IntKind.i64.wrap ((bq : Nat) : Int) = ((bq : Nat) : Int) := IntWalk.i64_in _ (by omega)
    have e2 : Int.tmod ((bq : Nat) : Int) 12 = ((bq % 12 : Nat) : Int) := tmod_nat bq 12
    have e3 : IntKind.i64.wrap ((bq % 12 : Nat) : Int) = ((bq % 12 : Nat) : Int) := IntWalk.i64_in _ (by omega)
    have e4 : IntKind.i64.wrap (1 + ((bq : Nat) : Int) % 12) = ((n : Nat) : Int) := (IntWalk.i64_in _ (by omega)).trans (by omega)
    have e5 : IntKind.i64.wrap (1 + ((bq % 12 : Nat) : Int)) = ((n : Nat) : Int) := (IntWalk.i64_in _ (by omega)).trans (by omega)
    have e6 : IntKind.i64.wrap ((hq : Nat) : Int) = ((hq : Nat) : Int) := IntWalk.i64_in _ (by omega)
    have e7 : IntKind.i64.wrap (((m : Nat) : Int) + 1) = ((m1 : Nat) : Int) := (IntWalk.i64_in _ (by omega)).trans (by omega)
    have e8 : Int.tmod ((hq : Nat) : Int) ((m1 : Nat) : Int) = ((pp : Nat) : Int) := by rw [tmod_nat, hpp]
    have e9 : IntKind.i64.wrap ((pp : Nat) : Int) = ((pp : Nat) : Int) := IntWalk.i64_in _ (by omega)
    have e10 : (((m1 : Nat) : Int) == 0) = false := by simp; omega
    have e11 : ((m1 : Nat) : Int) ≠ 0 := by omega
    have hmk := mk_ints W1 n (by omega)
    have HN := hid (And.intro hn (And.intro hm1 hpp))
    have hcs0 := heap_alloc_new W1 (.cells (irow n fun _ => 0) 3)
    have hal := HB1.out.alloc HB1.out.size (.cells (irow n fun _ => 0) 3)
    have hsB : w.heap.size ≤ W1.heap.size := HB1.out.size
    have HS0 := hid (And.intro hcs0 hal)
    clear h15 hn hm1 hpp hcs0 hal
    go_upto_region 7 with fail
    obtain ⟨s, hs⟩ : ∃ s, W1.heap.size = s := ⟨_, rfl⟩
    rw [hs] at HS0 hsB ⊢
    generalize W1.alloc (.cells (irow n fun _ => 0) 3) = W2 at HS0 ⊢
    clear hs hmk HB1 e1 e2 e3 e4 e5 e6 e8 e9
    obtain ⟨O, hO⟩ : ∃ O, bs.map (fun x => x % n) = O := ⟨_, rfl⟩
    have hOl : O.length = m := by rw [← hO, List.length_map, HM.out]
    have hOn : ∀ x ∈ O, x < n := fun x hx => by
      rw [← hO] at hx
      obtain ⟨y, _, rfl⟩ := List.mem_map.1 hx
      exact Nat.mod_lt _ (by omega)
    obtain ⟨c, hc⟩ : ∃ c, O.sum = c := ⟨_, rfl⟩
    have HO := hid (And.intro hO (And.intro hOl (And.intro hOn hc)))
    have hnI : ((n : Nat) : Int) ≠ 0 := by omega
    have hnB : (((n : Nat) : Int) == 0) = false := by simp; omega
    have HCT := hid (show irow n (cst (cntM n c 0)) = irow n (fun _ => 0) from rfl)
    clear hO hOl hOn hc
    go_wp2_with fail
    go_loopw [10] (fun ix wr => ∃ v : Nat, v ≤ n ∧ ix = .int .i64 ((v : Nat) : Int) ∧ wr.heap[s]? = some (.cells (irow n (cst (cntM n c v))) 3 (0, 0)) ∧ Below w.heap.size w wr) (fun ix _ => n - (intOf ix).toNat)
    case atStart => exact ⟨0, by omega, rfl, HCT.out ▸ HS0.out.1, HS0.out.2⟩
    case round =>
      clear HS0 HCT
      obtain ⟨v, hv, rfl, hse, hbw⟩ := hrel
      rcases Nat.lt_or_ge v n with hlt | hge
      · have hin : decide (((v : Nat) : Int) < ((n : Nat) : Int)) = true := decide_eq_true (by omega)
        have hin' : ((v : Nat) : Int) < ((n : Nat) : Int) := by omega
        have hvw : IntKind.i64.wrap (((v : Nat) : Int) + 1) = ((v + 1 : Nat) : Int) := (IntWalk.i64_in _ (by omega)).trans (by omega)
        have hm0 := Ints.made wr wr.heap.size (Nat.le_refl _)
        have hal : Below wr.heap.size wr (wr.alloc (.cells #[] 3)) := (Below.refl _ _).alloc (Nat.le_refl _) _
        have HM0 := hid (And.intro hm0 hal)
        have HSE := hid (And.intro hse hbw)
        clear hse hbw hm0 hal
        go_upto_region 11 with fail
        obtain ⟨Bv, hBv⟩ : ∃ Bv, wr.heap.size = Bv := ⟨_, rfl⟩
        rw [hBv] at HM0 ⊢
        have HBV := hid hBv
        generalize wr.alloc (.cells #[] 3) = W3 at HM0 ⊢
        clear hBv
        generalize wr = Wo at HM0 HSE HBV
        have hBW : Bv ≤ W3.heap.size := HBV.out ▸ (HBV.out.symm ▸ HM0.out.2 : Below Wo.heap.size Wo W3).size
        go_wp2_with fail
        go_loopw [11, 12] (fun vx ix wl => ∃ i : Nat, i ≤ m ∧ ix = .int .i64 ((i : Nat) : Int) ∧ Ints wl Bv vx ((bldV pp v O i).map fun x => ((x : Nat) : Int)) ∧ Below Bv Wo wl ∧ Bv ≤ wl.heap.size) (fun _ ix _ => m - (intOf ix).toNat)
        case atStart => exact ⟨0, by omega, rfl, HM0.out.1, HM0.out.2, hBW⟩
        case round =>
          clear HM0
          obtain ⟨i, hi, rfl, hI, hbl, hBl⟩ := hrel
          rcases Nat.lt_or_ge i m with hlti | hgei
          · have hini : decide (((i : Nat) : Int) < ((m : Nat) : Int)) = true := decide_eq_true (by omega)
            have hini' : ((i : Nat) : Int) < ((m : Nat) : Int) := by omega
            have hi0 : (0 : Int) ≤ ((i : Nat) : Int) := by omega
            have hiw : IntKind.i64.wrap (((i : Nat) : Int) + 1) = ((i + 1 : Nat) : Int) := (IntWalk.i64_in _ (by omega)).trans (by omega)
            have hiL : i < bs.length := by rw [HM.out]; exact hlti
            obtain ⟨bk, o, rfl, hbk, hcx0⟩ := HRU.out.at' hiL
            have hx256 : bs[i] < 256 := HRU.out.1 _ (List.getElem_mem hiL)
            obtain ⟨x, hx⟩ : ∃ x, bs[i] = x := ⟨_, rfl⟩
            rw [hx] at hcx0 hx256
            have hgetO : O.getD i 0 = x % n := by
              rw [← HO.out.1, List.getD_eq_getElem?_getD, List.getElem?_map, List.getElem?_eq_getElem hiL, hx]
              rfl
            have HCF := hid (show ∀ V, Below Bv Wo V → V.cell? ⟨bk, o + i, none⟩ = some (.int .u8 ((x : Nat) : Int)) from fun V hV => ((HSE.out.2.trans (hV.mono (HBV.out ▸ HSE.out.2.size))).cell (p := ⟨bk, o + i, none⟩) hbk).trans hcx0)
            have hcx : IntKind.i64.wrap ((x : Nat) : Int) = ((x : Nat) : Int) := IntWalk.i64_in _ (by omega)
            have htx := tmod_nat x n
            have hxn : x % n < n := Nat.mod_lt _ (by omega)
            obtain ⟨y, hy⟩ : ∃ y, x % n = y := ⟨_, rfl⟩
            rw [hy] at htx hxn hgetO
            have hrx : IntKind.i64.wrap ((y : Nat) : Int) = ((y : Nat) : Int) := IntWalk.i64_in _ (by omega)
            have HI0 := hid hI
            have HBl0 := hid (And.intro hbl hBl)
            have HLN0 := hid (show ((bldV pp v O i).map fun x => ((x : Nat) : Int)).length < 1000000000 by rw [List.length_map, bldV_len]; split <;> omega)
            have hcr0 := HCF.out wr hbl
            by_cases hip : i = pp
            · have heq : (((i : Nat) : Int) == ((pp : Nat) : Int)) = true := by simp [hip]
              have heq2 : decide (i = pp) = true := decide_eq_true hip
              have hst : ((bldV pp v O (i + 1)).map fun x => ((x : Nat) : Int)) = (((bldV pp v O i).map fun x => ((x : Nat) : Int)) ++ [((v : Nat) : Int)]) ++ [((y : Nat) : Int)] := by
                rw [bldV, if_pos hip, hgetO, List.map_append, List.map_append]
                rfl
              have HST := hid hst
              have HLN1 := hid (show (((bldV pp v O i).map fun x => ((x : Nat) : Int)) ++ [((v : Nat) : Int)]).length < 1000000000 by rw [List.length_append, List.length_map, bldV_len, List.length_singleton]; split <;> omega)
              clear hI hbl hBl hcx0 hx256 hx hgetO hy hip hst
              go_wp2_with (first
                | (refine wp_append_int rfl (.tmp 63) (.tmp 65) rfl Bv _ _ rfl (HI0.out.below ((Below.refl _ _).alloc (Nat.le_refl _) _)) _ wr.heap.size 1 rfl (cell_of_row _ _ 0 _ _ _ (heap_alloc_new wr _)) HLN0.out (by rw [World.size_alloc]; have := HBl0.out.2; omega) ?_; intro v1 w1 hv1 hg1; have HI1 := hid hv1; have hbn : Below Bv Wo w1 ∧ Bv ≤ w1.heap.size := ⟨(HBl0.out.1.alloc HBl0.out.2 _).grown hg1 (by rw [World.size_alloc]; have := HBl0.out.2; omega) HI0.out.own, Nat.le_trans HBl0.out.2 (Nat.le_trans (by rw [World.size_alloc]; omega) hg1.size)⟩; have HBl1 := hid hbn; have hcr1 := HCF.out w1 hbn.1; clear hv1 hg1 hbn)
                | (refine wp_append_int rfl (.tmp 67) (.tmp 75) rfl Bv _ _ rfl (HI1.out.below ((Below.refl _ _).alloc (Nat.le_refl _) _)) _ w1.heap.size 1 rfl (cell_of_row _ _ 0 _ _ _ (heap_alloc_new w1 _)) HLN1.out (by rw [World.size_alloc]; have := HBl1.out.2; omega) ?_; intro v2 w2 hv2 hg2; have HI2 := hid hv2; have hbn : Below Bv Wo w2 ∧ Bv ≤ w2.heap.size := ⟨(HBl1.out.1.alloc HBl1.out.2 _).grown hg2 (by rw [World.size_alloc]; have := HBl1.out.2; omega) HI1.out.own, Nat.le_trans HBl1.out.2 (Nat.le_trans (by rw [World.size_alloc]; omega) hg2.size)⟩; have HBl2 := hid hbn; have hcr2 := HCF.out w2 hbn.1; clear hv2 hg2 hbn))
              go_roundw
              case rel => exact ⟨i + 1, by omega, rfl, by rw [HST.out]; exact HI2.out, HBl2.out.1, HBl2.out.2⟩
              case measure => simp only [intOf, Int.toNat_natCast]; omega
            · have heq : (((i : Nat) : Int) == ((pp : Nat) : Int)) = false := by simp; omega
              have heq2 : decide (i = pp) = false := decide_eq_false hip
              have hst : ((bldV pp v O (i + 1)).map fun x => ((x : Nat) : Int)) = (((bldV pp v O i).map fun x => ((x : Nat) : Int)) ++ [((y : Nat) : Int)]) := by
                rw [bldV, if_neg hip, hgetO, List.map_append, List.map_append]
                simp
              have HST := hid hst
              clear hI hbl hBl hcx0 hx256 hx hgetO hy hip hst
              go_wp2_with (first
                | (refine wp_append_int rfl (.tmp 67) (.tmp 75) rfl Bv _ _ rfl (HI0.out.below ((Below.refl _ _).alloc (Nat.le_refl _) _)) _ wr.heap.size 1 rfl (cell_of_row _ _ 0 _ _ _ (heap_alloc_new wr _)) HLN0.out (by rw [World.size_alloc]; have := HBl0.out.2; omega) ?_; intro v1 w1 hv1 hg1; have HI1 := hid hv1; have hbn : Below Bv Wo w1 ∧ Bv ≤ w1.heap.size := ⟨(HBl0.out.1.alloc HBl0.out.2 _).grown hg1 (by rw [World.size_alloc]; have := HBl0.out.2; omega) HI0.out.own, Nat.le_trans HBl0.out.2 (Nat.le_trans (by rw [World.size_alloc]; omega) hg1.size)⟩; have HBl1 := hid hbn; have hcr1 := HCF.out w1 hbn.1; clear hv1 hg1 hbn))
              go_roundw
              case rel => exact ⟨i + 1, by omega, rfl, by rw [HST.out]; exact HI1.out, HBl1.out.1, HBl1.out.2⟩
              case measure => simp only [intOf, Int.toNat_natCast]; omega
          · obtain rfl : i = m := by omega
            have hini : ¬ ((i : Nat) : Int) < ((i : Nat) : Int) := by omega
            obtain ⟨la, hla⟩ : ∃ la, (v + c) % n = la := ⟨_, rfl⟩
            have hlan : la < n := hla ▸ Nat.mod_lt _ (by omega)
            obtain ⟨VS, hVS⟩ : ∃ VS, allV pp v O i = VS := ⟨_, rfl⟩
            have hVSl : VS.length = m1 := by rw [← hVS, allV_len pp v i O hppm, HN.out.2.1]
            have hVSn : ∀ x ∈ VS, x < n := hVS ▸ allV_lt pp v n i O hlt HO.out.2.2.1
            have hVSs : sumV (vsF VS) m1 % n = la := by
              rw [← hVSl, sumV_vsF VS VS.length (Nat.le_refl _), List.take_length, ← hVS, allV_sum pp v i O HO.out.2.1 hppm, HO.out.2.2.2, hla]
            have hm16 : 1 ≤ m1 ∧ m1 ≤ 30 := by have := HN.out.2.1; omega
            have HDR := hid (fun (q : Value) W (hz : ReadsA W q (VS.map fun x => ((x : Nat) : Int))) (hW : Below w.heap.size w W) => by
              have h := drawn_c n (by omega) VS hVSn (by rw [hVSl]; exact hm16) sq hsq q W hz (HLL.out.below hW)
              rw [hVSl] at h
              exact h)
            have HVA := hid (fun w0 V B b q D (k : DA w0 V B b q D) (st : Stt D n m1 (hsF VS sq) (vsF VS) (slF sq) m1 (fun j => j < m1) m1) => by
              have h := da_value k st hm16.2 (by omega) (fun j hj => hj) (fun j hj => by
                rw [vsF, List.getD_eq_getElem?_getD, List.getElem?_eq_getElem (by rw [hVSl]; exact hj)]
                exact hVSn _ (List.getElem_mem _)) (fun j hj => rfl)
              rw [hVSs] at h
              exact h)
            have HDV := hid (fun w0 V B b q D (k : DA w0 V B b q D) (st : Stt D n m1 (hsF VS sq) (vsF VS) (slF sq) m1 (fun j => j < m1) m1) =>
              Deviants_nil k.d.dev (by rw [st.len]; exact hm16.2) (st.done (by omega) (fun j hj => hj) (fun j hj => by
                rw [vsF, List.getD_eq_getElem?_getD, List.getElem?_eq_getElem (by rw [hVSl]; exact hj)]
                exact hVSn _ (List.getElem_mem _)) (fun j hj => rfl)).2.1)
            obtain ⟨z, hz⟩ : ∃ z, cntM n c v la = z := ⟨_, rfl⟩
            have hzv : z ≤ v := hz ▸ cntM_le n c v la
            obtain ⟨z1, hz1⟩ : ∃ z1, z + 1 = z1 := ⟨_, rfl⟩
            have hzw : IntKind.i64.wrap (((z : Nat) : Int) + 1) = ((z1 : Nat) : Int) := (IntWalk.i64_in _ (by omega)).trans (by omega)
            have hupd : upd (cst (cntM n c v)) la (((z1 : Nat) : Int)) = cst (cntM n c (v + 1)) := by
              funext j
              simp only [upd, cst, cntM, hla]
              by_cases e : j = la
              · subst e
                simp [hz, hz1]
              · rw [if_neg e, if_neg (fun h => e h.symm), Nat.add_zero]
            have HUP := hid (And.intro hz hupd)
            have hla0 : (0 : Int) ≤ ((la : Nat) : Int) := by omega
            have hla1 : ((la : Nat) : Int) < ((n : Nat) : Int) := by omega
            have hd0 : decide (((la : Nat) : Int) < 0) = false := decide_eq_false (by omega)
            have hd1 : decide (((n : Nat) : Int) ≤ ((la : Nat) : Int)) = false := decide_eq_false (by omega)
            have hd2 : decide (n ≤ la) = false := decide_eq_false (by omega)
            have HI0 := hid hI
            have HBl0 := hid (And.intro hbl hBl)
            have HLN0 := hid (show ((bldV pp v O i).map fun x => ((x : Nat) : Int)).length < 1000000000 by rw [List.length_map, bldV_len]; split <;> omega)
            by_cases hip : pp = i
            · have heq : (((pp : Nat) : Int) == ((i : Nat) : Int)) = true := by simp [hip]
              have heq2 : decide (pp = i) = true := decide_eq_true hip
              have HVSI := hid (show ∀ V (q : Value), Ints V Bv q (((bldV pp v O i).map fun x => ((x : Nat) : Int)) ++ [((v : Nat) : Int)]) → ReadsA V q (VS.map fun x => ((x : Nat) : Int)) from fun V q h => by
                rw [← hVS, allV, if_pos hip, List.map_append]
                exact h.readsA)
              clear hI hbl hBl hla hVS hVSl hVSn hVSs hz hz1 hupd hip
              go_wp2_with (first
                | (refine wp_append_int rfl (.tmp 81) (.tmp 83) rfl Bv _ _ rfl (HI0.out.below ((Below.refl _ _).alloc (Nat.le_refl _) _)) _ wr.heap.size 1 rfl (cell_of_row _ _ 0 _ _ _ (heap_alloc_new wr _)) HLN0.out (by rw [World.size_alloc]; have := HBl0.out.2; omega) ?_; intro v1 w1 hv1 hg1; have HI1 := hid hv1; have hbn : Below Bv Wo w1 ∧ Bv ≤ w1.heap.size := ⟨(HBl0.out.1.alloc HBl0.out.2 _).grown hg1 (by rw [World.size_alloc]; have := HBl0.out.2; omega) HI0.out.own, Nat.le_trans HBl0.out.2 (Nat.le_trans (by rw [World.size_alloc]; omega) hg1.size)⟩; have HBl1 := hid hbn; clear hv1 hg1 hbn)
                | (go_at_call 20; refine (HDR.out _ w1 (HVSI.out w1 _ HI1.out) (HSE.out.2.trans (HBl1.out.1.mono (HBV.out ▸ HSE.out.2.size)))).mono ?_; rintro e w4 ⟨rfl, D, hda, hst⟩; have HDA := hid hda; have HST4 := hid hst; have HB4 := hid (HBl1.out.1.trans (hda.bw.mono HBl1.out.2)); clear hda hst)
                | (go_at_call 21; refine (HVA.out _ _ _ _ _ _ HDA.out HST4.out).mono ?_; rintro e w5 ⟨rfl, hb5⟩; have HDA5 := hid (HDA.out.below hb5); have HB5 := hid (HB4.out.trans (hb5.mono (Nat.le_trans (Nat.le_trans HBl1.out.2 HDA.out.bw.size) (Nat.le_refl _)))); have HSZ5 := hid hb5.size; clear hb5)
                | (go_at_call 22; refine (HDV.out _ _ _ _ _ _ HDA5.out HST4.out).mono ?_; rintro e w6 ⟨rfl, hb6⟩; have hb6' := HB5.out.trans (hb6.mono (Nat.le_trans (Nat.le_trans HBl1.out.2 HDA.out.bw.size) (HSZ5.out))); have hsk := heap_below (HBV.out ▸ hb6' : Below Wo.heap.size Wo w6) HSE.out.1 (heap_lt HSE.out.1); have hcs := cell_irow hsk la hlan; rw [show cst (cntM n c v) la = ((z : Nat) : Int) from (by rw [← HUP.out.1]; rfl)] at hcs; have hfz := frozen_of_row _ _ la _ _ hsk; have HSK := hid (And.intro hsk hb6'); clear hb6 hb6' hsk))
              have hs3 : (w6.setCell ⟨s, la, none⟩ (.int .i64 ((z1 : Nat) : Int))).heap[s]? = some (.cells (irow n (cst (cntM n c (v + 1)))) 3 (0, 0)) := by
                rw [heap_setCell_same w6 s la _ _ _ HSK.out.1, irow_set, HUP.out.2]
              have hb3 : Below w.heap.size w (w6.setCell ⟨s, la, none⟩ (.int .i64 ((z1 : Nat) : Int))) := (HSE.out.2.trans (HSK.out.2.mono (HBV.out ▸ HSE.out.2.size))).setCell (p := ⟨s, la, none⟩) hsB _
              go_roundw
              case rel => exact ⟨v + 1, by omega, rfl, hs3, hb3⟩
              case measure => simp only [intOf, Int.toNat_natCast]; omega
            · have heq : (((pp : Nat) : Int) == ((i : Nat) : Int)) = false := by simp; omega
              have heq2 : decide (pp = i) = false := decide_eq_false hip
              have HVSI := hid (show ∀ V (q : Value), Ints V Bv q ((bldV pp v O i).map fun x => ((x : Nat) : Int)) → ReadsA V q (VS.map fun x => ((x : Nat) : Int)) from fun V q h => by
                rw [← hVS, allV, if_neg hip, List.append_nil]
                exact h.readsA)
              clear hI hbl hBl hla hVS hVSl hVSn hVSs hz hz1 hupd hip
              go_wp2_with (first
                | (go_at_call 20; refine (HDR.out _ wr (HVSI.out wr _ HI0.out) (HSE.out.2.trans (HBl0.out.1.mono (HBV.out ▸ HSE.out.2.size)))).mono ?_; rintro e w4 ⟨rfl, D, hda, hst⟩; have HDA := hid hda; have HST4 := hid hst; have HB4 := hid (HBl0.out.1.trans (hda.bw.mono HBl0.out.2)); clear hda hst)
                | (go_at_call 21; refine (HVA.out _ _ _ _ _ _ HDA.out HST4.out).mono ?_; rintro e w5 ⟨rfl, hb5⟩; have HDA5 := hid (HDA.out.below hb5); have HB5 := hid (HB4.out.trans (hb5.mono (Nat.le_trans (Nat.le_trans HBl0.out.2 HDA.out.bw.size) (Nat.le_refl _)))); have HSZ5 := hid hb5.size; clear hb5)
                | (go_at_call 22; refine (HDV.out _ _ _ _ _ _ HDA5.out HST4.out).mono ?_; rintro e w6 ⟨rfl, hb6⟩; have hb6' := HB5.out.trans (hb6.mono (Nat.le_trans (Nat.le_trans HBl0.out.2 HDA.out.bw.size) (HSZ5.out))); have hsk := heap_below (HBV.out ▸ hb6' : Below Wo.heap.size Wo w6) HSE.out.1 (heap_lt HSE.out.1); have hcs := cell_irow hsk la hlan; rw [show cst (cntM n c v) la = ((z : Nat) : Int) from (by rw [← HUP.out.1]; rfl)] at hcs; have hfz := frozen_of_row _ _ la _ _ hsk; have HSK := hid (And.intro hsk hb6'); clear hb6 hb6' hsk))
              have hs3 : (w6.setCell ⟨s, la, none⟩ (.int .i64 ((z1 : Nat) : Int))).heap[s]? = some (.cells (irow n (cst (cntM n c (v + 1)))) 3 (0, 0)) := by
                rw [heap_setCell_same w6 s la _ _ _ HSK.out.1, irow_set, HUP.out.2]
              have hb3 : Below w.heap.size w (w6.setCell ⟨s, la, none⟩ (.int .i64 ((z1 : Nat) : Int))) := (HSE.out.2.trans (HSK.out.2.mono (HBV.out ▸ HSE.out.2.size))).setCell (p := ⟨s, la, none⟩) hsB _
              go_roundw
              case rel => exact ⟨v + 1, by omega, rfl, hs3, hb3⟩
              case measure => simp only [intOf, Int.toNat_natCast]; omega
      · obtain rfl : v = n := by omega
        have hin : ¬ ((v : Nat) : Int) < ((v : Nat) : Int) := by omega
        have HSE2 := hid hse
        have HBB := hid hbw
        clear hse hbw
        go_wp2_with fail
        go_loopw [18] (fun ix wl => ∃ i : Nat, i ≤ v ∧ ix = .int .i64 ((i : Nat) : Int) ∧ wl.heap[s]? = some (.cells (irow v (cst (cntM v c v))) 3 (0, 0)) ∧ Below w.heap.size w wl) (fun ix _ => v - (intOf ix).toNat)
        case atStart => exact ⟨0, by omega, rfl, HSE2.out, HBB.out⟩
        case round =>
          obtain ⟨i, hi, rfl, hse, hb1⟩ := hrel
          rcases Nat.lt_or_ge i v with hlt | hge
          · have hin : decide (((i : Nat) : Int) < ((v : Nat) : Int)) = true := decide_eq_true (by omega)
            have hin' : ((i : Nat) : Int) < ((v : Nat) : Int) := by omega
            have hi0 : (0 : Int) ≤ ((i : Nat) : Int) := by omega
            have hiw : IntKind.i64.wrap (((i : Nat) : Int) + 1) = ((i + 1 : Nat) : Int) := (IntWalk.i64_in _ (by omega)).trans (by omega)
            have hcs := cell_irow hse i hlt
            rw [show cst (cntM v c v) i = 1 from (by show ((cntM v c v i : Nat) : Int) = 1; rw [cntM_one v c i hlt]; rfl)] at hcs
            have HSE3 := hid hse
            have HB3 := hid hb1
            clear hse hb1
            go_wp2_with fail
            go_roundw
            case rel => exact ⟨i + 1, by omega, rfl, HSE3.out, HB3.out⟩
            case measure => simp only [intOf, Int.toNat_natCast]; omega
          · obtain rfl : i = v := by omega
            have hin : ¬ ((i : Nat) : Int) < ((i : Nat) : Int) := by omega
            have HK := hid (known_c _ (HLL.out.below hb1))
            have HB3 := hid hb1
            clear hse hb1
            go_wp2_with (go_at_call 9; refine HK.out.mono ?_; rintro e w8 ⟨rfl, hb8⟩; have HB8 := hid (HB3.out.trans (hb8.mono HB3.out.size)); clear hb8)
            go_ret
            exact ⟨rfl, HB8.out⟩
end Go.Proofs.YtbcileppebpamaaDoor
