/- The number of a hash: strconv.ParseUint at base 16. -/
import Derived.Test.YtbcileppebpamaaGreatDoorWA
import Derived.Test.YtbcileppebpamaaGreatDoorWB
import Derived.Test.YtbcileppebpamaaGreatDoorWC
set_option linter.unusedSimpArgs false
set_option linter.unusedVariables false
namespace Go.Proofs.YtbcileppebpamaaGreatDoor
open Go Go.RowKit Go.Shelf
set_option maxRecDepth 100000

def hexVal (c : Nat) : Nat := if c ≤ 57 then c - 48 else c - 87
def hexV (l : List UInt8) : Nat := l.foldl (fun n c => n * 16 + hexVal c.toNat) 0
theorem hexV_snoc (l : List UInt8) (c : UInt8) : hexV (l ++ [c]) = hexV l * 16 + hexVal c.toNat := by
  rw [hexV, List.foldl_append]
  rfl
theorem hexVal_D (d : Nat) (h : d < 16) : hexVal (hexD d).toNat = d := by
  have : ∀ d : Fin 16, hexVal (hexD d.1).toNat = d.1 := by decide
  exact this ⟨d, h⟩
theorem hexV_K : ∀ k n, n < 16 ^ k → hexV (hexK k n) = n
  | 0, n, h => by
    have : n = 0 := by simpa using h
    subst this
    rfl
  | k + 1, n, h => by
    rw [hexK, hexV_snoc, hexV_K k (n / 16) (by rw [Nat.div_lt_iff_lt_mul (by decide)]; rw [Nat.pow_succ] at h; exact h), hexVal_D _ (Nat.mod_lt _ (by decide))]
    omega
theorem hexVal_lt (c : UInt8) (h : hexB c = true) : hexVal c.toNat < 16 := by
  simp only [hexB, Bool.or_eq_true, Bool.and_eq_true, decide_eq_true_eq] at h
  unfold hexVal
  split <;> omega
theorem hexD_Val (c : UInt8) (h : hexB c = true) : hexD (hexVal c.toNat) = c := by
  have : ∀ c : Fin 256, hexB (UInt8.ofNat c.1) = true → hexD (hexVal (UInt8.ofNat c.1).toNat) = UInt8.ofNat c.1 := by decide +kernel
  have h2 := this ⟨c.toNat, c.toNat_lt⟩
  simp only [UInt8.ofNat_toNat] at h2
  exact h2 h
theorem hexK_V : ∀ (k : Nat) (l : List UInt8), l.length = k → l.all hexB = true → hexK k (hexV l) = l ∧ hexV l < 16 ^ k
  | 0, l, h, _ => by
    have : l = [] := List.eq_nil_of_length_eq_zero h
    subst this
    exact ⟨rfl, by decide⟩
  | k + 1, l, h, ha => by
    obtain ⟨l', c, rfl⟩ : ∃ l' c, l = l' ++ [c] := ⟨l.dropLast, l.getLast (by intro e; rw [e] at h; simp at h), (List.dropLast_concat_getLast _).symm⟩
    rw [List.all_append, Bool.and_eq_true] at ha
    have hc : hexB c = true := by simpa using ha.2
    have hl : l'.length = k := by simpa using h
    obtain ⟨h1, h2⟩ := hexK_V k l' hl ha.1
    have hv := hexVal_lt c hc
    rw [hexV_snoc, hexK, show (hexV l' * 16 + hexVal c.toNat) / 16 = hexV l' by omega, show (hexV l' * 16 + hexVal c.toNat) % 16 = hexVal c.toNat by omega, h1, hexD_Val c hc, Nat.pow_succ]
    exact ⟨rfl, by omega⟩
/-- Two hashes are equal just if their numbers are. -/
theorem hash_num (l : List UInt8) (h : isHashL l = true) (n : Nat) (hn : n < 18446744073709551616) : (hex16 n = l) ↔ n = hexV l := by
  rw [isHashL, Bool.and_eq_true, decide_eq_true_eq] at h
  obtain ⟨h1, h2⟩ := hexK_V 16 l h.1 h.2
  constructor
  · intro e
    rw [← e, hex16, hexV_K 16 n (by omega)]
  · intro e
    rw [e, hex16, h1]
theorem or32 (c : Nat) (h : 97 ≤ c ∧ c ≤ 102) : bits .or .u8 ((c : Nat) : Int) 32 = ((c : Nat) : Int) := by
  have : ∀ d : Fin 6, bits .or .u8 (((97 + d.1 : Nat) : Int)) 32 = ((97 + d.1 : Nat) : Int) := by decide +kernel
  have h2 := this ⟨c - 97, by omega⟩
  simp only [show 97 + (c - 97) = c by omega] at h2
  exact h2
theorem lower_c (c : Nat) (h : 97 ≤ c ∧ c ≤ 102) (w : World) : Calls Tryz.prog 96 #[.int .u8 ((c : Nat) : Int)] w fun e w' => e = .returned (.int .u8 ((c : Nat) : Int)) ∧ w' = w := by
  have ho := or32 c h
  go_enter Tryz.func96, Tryz.ntmps96
  go_wp2_with fail
  go_ret
  exact ⟨rfl, rfl⟩
set_option maxHeartbeats 8000000 in
theorem pu16_in (s : ByteArray) (hs : isHashL s.data.toList = true) (w : World) :
    Calls Tryz.prog 73 #[.string s, .int .i64 16, .int .i64 64] w fun e w' => e = .returned (.tuple #[.int .u64 ((hexV s.data.toList : Nat) : Int), .nilIface]) ∧ Below w.heap.size w w' := by
  have hcv := Lib.run_convert_string_bytes (P := Tryz.prog) w 9 78 5 s Tryz.underlying9 Tryz.underlying78 Tryz.underlying5
  have hcl := fun j (hj : j < s.size) => Lib.bytesWorld_cell w 5 s j hj
  have hbw := Lib.bytesWorld_below w 5 s
  rw [isHashL, Bool.and_eq_true, decide_eq_true_eq] at hs
  obtain ⟨hl16, hall⟩ := hs
  have hn : s.size = 16 := by rw [Array.length_toList] at hl16; exact hl16
  have hie : s.toList.isEmpty = false := by
    rw [ByteArray.toList_eq]
    cases h : s.data.toList with
    | nil => rw [h] at hl16; simp at hl16
    | cons a l => rfl
  have hmx : IntKind.u64.wrap (IntKind.u64.wrap 18446744073709551616 - 1) = 18446744073709551615 := by decide +kernel
  obtain ⟨L, hL⟩ : ∃ L, s.data.toList = L := ⟨_, rfl⟩
  rw [hL] at hl16 hall hcl ⊢
  rw [hn] at hcv hcl
  generalize Lib.bytesWorld w 5 s = wb at hcv hcl hbw
  obtain ⟨cap, hcap⟩ : ∃ cap, grownCap w 16 0 5 = cap := ⟨_, rfl⟩
  rw [hcap] at hcv
  have HCL := hid hcl
  have HBW := hid hbw
  have HL := hid (And.intro hl16 hall)
  clear hcl hbw hcap hL hl16 hall
  go_enter Tryz.func73, Tryz.ntmps73
  go_wp2_with fail
  go_loopw [12, 13, 101] (fun ux nx ix wr => ∃ i : Nat, i ≤ 16 ∧ ux = .bool false ∧ ix = .int .i64 ((i : Nat) : Int) ∧ nx = .int .u64 ((hexV (L.take i) : Nat) : Int) ∧ wr = wb) (fun _ _ ix _ => 16 - (intOf ix).toNat)
  case atStart => exact ⟨0, by omega, rfl, rfl, rfl, rfl⟩
  case round =>
    obtain ⟨i, hi, rfl, rfl, rfl, rfl⟩ := hrel
    rcases Nat.lt_or_ge i 16 with hlt | hge
    · have hin : decide (((i : Nat) : Int) < 16) = true := decide_eq_true (by omega)
      have hin' : ((i : Nat) : Int) < 16 := by omega
      have hi0 : (0 : Int) ≤ ((i : Nat) : Int) := by omega
      have hiw : IntKind.i64.wrap (((i : Nat) : Int) + 1) = ((i + 1 : Nat) : Int) := (IntWalk.i64_in _ (by omega)).trans (by omega)
      have hc := HCL.out i hlt
      have hiL : i < L.length := by rw [HL.out.1]; exact hlt
      have htk : hexV (L.take (i + 1)) = hexV (L.take i) * 16 + hexVal L[i].toNat := by
        rw [List.take_add_one, List.getElem?_eq_getElem hiL]
        exact hexV_snoc _ _
      have hbt := (hexK_V i (L.take i) (by rw [List.length_take]; omega) (List.all_eq_true.2 fun x hx => List.all_eq_true.1 HL.out.2 x (List.mem_of_mem_take hx))).2
      have hhx := List.all_eq_true.1 HL.out.2 L[i] (List.getElem_mem hiL)
      have hvl := hexVal_lt _ hhx
      simp only [hexB, Bool.or_eq_true, Bool.and_eq_true, decide_eq_true_eq] at hhx
      rw [List.getD_eq_getElem?_getD, List.getElem?_eq_getElem hiL, Option.getD_some] at hc
      obtain ⟨c, hcc⟩ : ∃ c, L[i].toNat = c := ⟨_, rfl⟩
      rw [hcc] at hc htk hhx hvl
      obtain ⟨x, hx⟩ : ∃ x, hexV (L.take i) = x := ⟨_, rfl⟩
      rw [hx] at htk hbt ⊢
      have hx60 : x < 1152921504606846976 := Nat.lt_of_lt_of_le hbt (Nat.le_trans (Nat.pow_le_pow_right (by decide) (show i ≤ 15 by omega)) (by decide))
      obtain ⟨d, hd⟩ : ∃ d, hexVal c = d := ⟨_, rfl⟩
      rw [hd] at htk hvl
      obtain ⟨y, hy⟩ : ∃ y, x * 16 = y := ⟨_, rfl⟩
      obtain ⟨z, hz⟩ : ∃ z, y + d = z := ⟨_, rfl⟩
      rw [hy, hz] at htk
      have hwy : IntKind.u64.wrap (((x : Nat) : Int) * 16) = ((y : Nat) : Int) := by rw [← wrap_natU y (by omega)]; congr 1; omega
      have hwz : IntKind.u64.wrap (((y : Nat) : Int) + ((d : Nat) : Int)) = ((z : Nat) : Int) := by rw [← wrap_natU z (by omega)]; congr 1; omega
      have hwd : IntKind.u64.wrap ((d : Nat) : Int) = ((d : Nat) : Int) := wrap_natU d (by omega)
      have hw16 : IntKind.u64.wrap 16 = 16 := by decide +kernel
      have hw16' : IntKind.u8.wrap 16 = 16 := by decide +kernel
      have q1 : decide ((16 : Int) ≤ ((d : Nat) : Int)) = false := decide_eq_false (by omega)
      have q1' : decide (16 ≤ d) = false := decide_eq_false (by omega)
      have q2 : decide ((1152921504606846976 : Int) ≤ ((x : Nat) : Int)) = false := decide_eq_false (by omega)
      have q2' : decide (1152921504606846976 ≤ x) = false := decide_eq_false (by omega)
      have q3 : decide (((z : Nat) : Int) < ((y : Nat) : Int)) = false := decide_eq_false (by omega)
      have q3' : decide (z < y) = false := decide_eq_false (by omega)
      have q4 : decide ((18446744073709551615 : Int) < ((z : Nat) : Int)) = false := decide_eq_false (by omega)
      have q4' : decide (18446744073709551615 < z) = false := decide_eq_false (by omega)
      have q5 : (((c : Nat) : Int) == 95) = false := by simp; omega
      have HT := hid htk
      by_cases h57 : c ≤ 57
      · have hd2 : c - 48 = d := by rw [← hd, hexVal, if_pos h57]
        have r1 : decide ((48 : Int) ≤ ((c : Nat) : Int)) = true := decide_eq_true (by omega)
        have r1' : decide (48 ≤ c) = true := decide_eq_true (by omega)
        have r2 : decide (((c : Nat) : Int) ≤ 57) = true := decide_eq_true (by omega)
        have r2' : decide (c ≤ 57) = true := decide_eq_true h57
        have hw8 : IntKind.u8.wrap (((c : Nat) : Int) - 48) = ((d : Nat) : Int) := by show (((c : Nat) : Int) - 48) % 256 = _; omega
        clear hbt hhx hvl hcc hx hd hy hz htk h57 hd2 hx60
        go_wp2_with fail
        go_roundw
        case rel => exact ⟨i + 1, by omega, rfl, rfl, by rw [HT.out], trivial⟩
        case measure => simp only [intOf, Int.toNat_natCast]; omega
      · have hd2 : c - 87 = d := by rw [← hd, hexVal, if_neg h57]
        have hcr : 97 ≤ c ∧ c ≤ 102 := by omega
        have r1 : decide ((48 : Int) ≤ ((c : Nat) : Int)) = true := decide_eq_true (by omega)
        have r1' : decide (48 ≤ c) = true := decide_eq_true (by omega)
        have r2 : decide (((c : Nat) : Int) ≤ 57) = false := decide_eq_false (by omega)
        have r2' : decide (c ≤ 57) = false := decide_eq_false h57
        have r3 : decide ((97 : Int) ≤ ((c : Nat) : Int)) = true := decide_eq_true (by omega)
        have r3' : decide (97 ≤ c) = true := decide_eq_true (by omega)
        have r4 : decide (((c : Nat) : Int) ≤ 122) = true := decide_eq_true (by omega)
        have r4' : decide (c ≤ 122) = true := decide_eq_true (by omega)
        obtain ⟨e, he⟩ : ∃ e, c - 97 = e := ⟨_, rfl⟩
        have hw8 : IntKind.u8.wrap (((c : Nat) : Int) - 97) = ((e : Nat) : Int) := by show (((c : Nat) : Int) - 97) % 256 = _; omega
        have hw9 : IntKind.u8.wrap (((e : Nat) : Int) + 10) = ((d : Nat) : Int) := by show (((e : Nat) : Int) + 10) % 256 = _; omega
        have HLO := hid (fun W => lower_c c hcr W)
        clear hbt hhx hvl hcc hx hd hy hz htk h57 hd2 hx60 he hcr
        go_wp2_with (go_at_call 96; refine (HLO.out _).mono ?_; rintro e' w2 ⟨rfl, rfl⟩)
        go_roundw
        case rel => exact ⟨i + 1, by omega, rfl, rfl, by rw [HT.out], trivial⟩
        case measure => simp only [intOf, Int.toNat_natCast]; omega
    · obtain rfl : i = 16 := by omega
      have hin : ¬ ((16 : Nat) : Int) < 16 := by omega
      rw [List.take_of_length_le (by rw [HL.out.1]; exact Nat.le_refl _)]
      go_wp2_with fail
      go_ret2
      exact ⟨rfl, HBW.out⟩
theorem pu16_c (s : ByteArray) (hs : isHashL s.data.toList = true) (w : World) :
    Calls Tryz.prog 40 #[.string s, .int .i64 16, .int .i64 64] w fun e w' => e = .returned (.tuple #[.int .u64 ((hexV s.data.toList : Nat) : Int), .nilIface]) ∧ Below w.heap.size w w' := by
  have HP := hid (pu16_in s hs w)
  generalize hexV s.data.toList = x at HP ⊢
  go_enter Tryz.func40, Tryz.ntmps40
  go_wp2_with (go_at_call 73; refine HP.out.mono ?_; rintro e w1 ⟨rfl, hb1⟩)
  go_ret2
  exact ⟨rfl, hb1⟩
end Go.Proofs.YtbcileppebpamaaGreatDoor
