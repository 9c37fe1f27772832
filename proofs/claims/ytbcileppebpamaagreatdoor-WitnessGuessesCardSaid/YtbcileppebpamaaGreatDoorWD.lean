/- Walks of internal/strconv: the digits of sixteen. -/
import Derived.Test.YtbcileppebpamaaGreatDoorWC
import Derived.Lib.SmallJoins
import Derived.Laws.IdiomStrings
set_option linter.unusedSimpArgs false
set_option linter.unusedVariables false
namespace Go.Proofs.YtbcileppebpamaaGreatDoor
open Go Go.RowKit Go.Shelf
set_option maxRecDepth 100000

/-- The tables that are read. -/
structure LaidW (w : World) : Prop where
  size : 7 < w.heap.size
  tz : w.cell? ⟨7, 15, none⟩ = some (.int .u8 4)
  pow : Lib.TabIs Tryz.prog w "internal/strconv.uint64pow10" .u64 Lib.pow10Tab
theorem gPow : Tryz.prog.globalNamed "internal/strconv.uint64pow10" = some 3 := by kernel_rfl
theorem LaidW.below {w w' : World} (h : LaidW w) (hb : Below w.heap.size w w') : LaidW w' :=
  ⟨Nat.lt_of_lt_of_le h.size hb.size, (hb.cell (p := ⟨7, 15, none⟩) h.size).trans h.tz, Go.Joins.tab_stays gPow h.pow hb (Nat.le_refl _)⟩
set_option maxHeartbeats 400000 in
theorem tz16_c (w : World) (L : LaidW w) : Calls Tryz.prog 144 #[.int .u64 16] w fun e w' => e = .returned (.int .i64 4) ∧ w = w' := by
  have hc := L.tz
  have hs := L.size
  have hneg : bits .and .u64 16 (IntKind.u64.wrap (-16)) = 16 := by decide +kernel
  have hmul : IntKind.u64.wrap (16 * 285870213051353865) = 4573923408821661840 := by decide +kernel
  clear L
  have H : Hid (Calls Tryz.prog 148 #[.int .u64 16] w fun e w' => e = .returned (.int .i64 4) ∧ w = w') := hid (by
    go_enter Tryz.func148, Tryz.ntmps148
    go_wp2_with fail
    go_ret
    exact ⟨rfl, rfl⟩)
  clear hc hs
  go_enter Tryz.func144, Tryz.ntmps144
  go_wp2_with (go_at_call 148; refine H.out.mono ?_; rintro e w' ⟨rfl, rfl⟩)
  go_ret
  exact ⟨rfl, rfl⟩
theorem pow16_c (w : World) : Calls Tryz.prog 143 #[.int .i64 16] w fun e w' => e = .returned (.bool true) ∧ w = w' := by
  go_enter Tryz.func143, Tryz.ntmps143
  go_wp2_with fail
  go_ret
  exact ⟨rfl, rfl⟩
/-- A row of bytes. -/
def urow8 (n : Nat) (f : Nat → Nat) : Array Value := Array.ofFn (n := n) fun i => .int .u8 ((f i : Nat) : Int)
theorem urow8_get (n : Nat) (f : Nat → Nat) (i : Nat) (h : i < n) : (urow8 n f)[i]? = some (.int .u8 ((f i : Nat) : Int)) := by simp [urow8, h]
def up1 (f : Nat → Nat) (i x : Nat) : Nat → Nat := fun j => if j = i then x else f j
theorem urow8_set (n : Nat) (f : Nat → Nat) (i x : Nat) : (urow8 n f).setIfInBounds i (.int .u8 ((x : Nat) : Int)) = urow8 n (up1 f i x) := by
  apply Array.ext
  · simp [urow8]
  · intro j h1 h2
    have hj : j < n := by simpa [urow8] using h2
    rw [Array.getElem_setIfInBounds (by simpa [urow8] using h1)]
    simp only [urow8, up1, Array.getElem_ofFn]
    by_cases e : i = j
    · subst e; simp
    · rw [if_neg e, if_neg (fun h => e h.symm)]
theorem set_urow8 {w : World} {g n : Nat} {f : Nat → Nat} {t : TypeId} (hg : w.heap[g]? = some (.cells (urow8 n f) t (0, 0))) (i x : Nat) : (w.setCell ⟨g, i, none⟩ (.int .u8 ((x : Nat) : Int))).heap[g]? = some (.cells (urow8 n (up1 f i x)) t (0, 0)) := by
  rw [heap_setCell_same w g i _ t _ hg, urow8_set]
theorem zc65 : Tryz.zeroCells199 = urow8 65 fun _ => 0 := by kernel_rfl
theorem hexK_get : ∀ (m n t : Nat), t < m → (hexK m n)[t]? = some (hexD (n / 16 ^ (m - 1 - t) % 16))
  | 0, _, _, h => by omega
  | m + 1, n, t, h => by
    rw [hexK]
    have hl := hexK_len m (n / 16)
    rcases Nat.lt_or_ge t m with h1 | h1
    · rw [List.getElem?_append_left (by omega), hexK_get m (n / 16) t h1, Nat.div_div_eq_div_mul, show 16 * 16 ^ (m - 1 - t) = 16 ^ (m + 1 - 1 - t) by rw [← Nat.pow_succ']; congr 1; omega]
    · obtain rfl : t = m := by omega
      rw [List.getElem?_append_right (by omega), hl, Nat.sub_self, show t + 1 - 1 - t = 0 by omega]
      simp
def digS : ByteArray := ⟨#[48, 49, 50, 51, 52, 53, 54, 55, 56, 57, 97, 98, 99, 100, 101, 102, 103, 104, 105, 106, 107, 108, 109, 110, 111, 112, 113, 114, 115, 116, 117, 118, 119, 120, 121, 122]⟩
theorem dig_nat (d : Nat) (hd : d < 16) (h : d < (⟨#[48, 49, 50, 51, 52, 53, 54, 55, 56, 57, 97, 98, 99, 100, 101, 102, 103, 104, 105, 106, 107, 108, 109, 110, 111, 112, 113, 114, 115, 116, 117, 118, 119, 120, 121, 122]⟩ : ByteArray).size) : ((⟨#[48, 49, 50, 51, 52, 53, 54, 55, 56, 57, 97, 98, 99, 100, 101, 102, 103, 104, 105, 106, 107, 108, 109, 110, 111, 112, 113, 114, 115, 116, 117, 118, 119, 120, 121, 122]⟩ : ByteArray)[d]'h).toNat = (hexD d).toNat := by
  rcases (show d = 0 ∨ d = 1 ∨ d = 2 ∨ d = 3 ∨ d = 4 ∨ d = 5 ∨ d = 6 ∨ d = 7 ∨ d = 8 ∨ d = 9 ∨ d = 10 ∨ d = 11 ∨ d = 12 ∨ d = 13 ∨ d = 14 ∨ d = 15 by omega) with rfl | rfl | rfl | rfl | rfl | rfl | rfl | rfl | rfl | rfl | rfl | rfl | rfl | rfl | rfl | rfl <;> rfl
theorem slice65 (g i : Nat) (hi : i < 65) (w : World) : (Instr.sliceAt 199 (.pointer (some ⟨g, 0, none⟩)) (some (.int .i64 ((i : Nat) : Int))) none none).run Tryz.prog w = .ok (.slice (some ⟨g, i, none⟩) (65 - i) (65 - i)) w := by
  have hl : Tryz.prog.arrayLen 199 = 65 := by kernel_rfl
  have he : Tryz.prog.elem 199 = 5 := by kernel_rfl
  have h := run_sliceAt_array_l (P := Tryz.prog) w 199 ⟨g, 0, none⟩ (by kernel_rfl) .i64 ((i : Nat) : Int) (by omega) (by rw [hl]; omega)
  rw [h, hl, he, Tryz.sizeOf5 w]
  have h65 : ¬ (65 = i) := by omega
  simp [slicedAt, h65, Addr.add]
  intro h0
  exact h0.symm
set_option maxHeartbeats 1000000 in
theorem bits_c (u : Nat) (hu : u < 18446744073709551616) (w : World) (L : LaidW w) :
    Calls Tryz.prog 127 #[.slice none 0 0, .int .u64 ((u : Nat) : Int), .int .i64 16, .bool false, .bool false] w fun e w' => (∃ m, 1 ≤ m ∧ m ≤ 16 ∧ u < 16 ^ m ∧ e = .returned (.tuple #[.slice none 0 0, .string ⟨(hexK m u).toArray⟩])) ∧ Below w.heap.size w w' := by
  go_enter Tryz.func127, Tryz.ntmps127
  go_upto_region 4 with fail
  rw [zc65]
  have hx := heap_alloc_new w (.cells (urow8 65 fun _ => 0) 199)
  have hb : Below w.heap.size w (w.alloc (.cells (urow8 65 fun _ => 0) 199)) := (Below.refl _ _).alloc (Nat.le_refl _) _
  have hsz : (w.alloc (.cells (urow8 65 fun _ => 0) 199)).heap.size = w.heap.size + 1 := by simp
  have HL := hid (L.below hb)
  obtain ⟨g, hg⟩ : ∃ g, w.heap.size = g := ⟨_, rfl⟩
  rw [hg] at hx hb hsz ⊢
  generalize w.alloc (.cells (urow8 65 fun _ => 0) 199) = wa at hx hb HL hsz ⊢
  have HB := hid hb
  have HX := hid hx
  clear hx hb hsz L
  go_upto_region 11 with (first
    | (go_at_call 143; refine (pow16_c _).mono ?_; rintro e w1 ⟨rfl, rfl⟩)
    | (go_at_call 144; refine (tz16_c _ HL.out).mono ?_; rintro e w1 ⟨rfl, rfl⟩))
  go_loopw [1, 13] (fun ux ix wr => ∃ (k : Nat) (f : Nat → Nat), k ≤ 15 ∧ ux = .int .u64 ((u / 16 ^ k : Nat) : Int) ∧ ix = .int .i64 ((65 - k : Nat) : Int) ∧ wr.heap[g]? = some (.cells (urow8 65 f) 199 (0, 0)) ∧ (∀ j, j < k → f (64 - j) = (hexD (u / 16 ^ j % 16)).toNat) ∧ Below g w wr) (fun ux _ _ => (intOf ux).toNat)
  case atStart => exact ⟨0, fun _ => 0, by omega, by simp, rfl, HX.out, fun j h => by omega, HB.out⟩
  case round =>
    clear HX HB HL
    obtain ⟨k, f, hk, rfl, rfl, hx, hf, hb⟩ := hrel
    have HF := hid hf
    have HX := hid hx
    have HB := hid hb
    have hcu : u / 16 ^ k < 18446744073709551616 := Nat.lt_of_le_of_lt (Nat.div_le_self _ _) hu
    have hdd : u / 16 ^ k / 16 = u / 16 ^ (k + 1) := by rw [Nat.div_div_eq_div_mul, ← Nat.pow_succ]
    have hup : u < 16 ^ k * (u / 16 ^ k + 1) := by
      have := Nat.div_add_mod u (16 ^ k)
      have h2 := Nat.mod_lt u (show 0 < 16 ^ k from Nat.pow_pos (by decide))
      rw [Nat.mul_add, Nat.mul_one]
      omega
    have hlow : 16 ^ k * (u / 16 ^ k) ≤ u := Nat.mul_div_le _ _
    have HUP := hid hup
    have HLO := hid hlow
    have HDD := hid hdd
    obtain ⟨x, hxx⟩ : ∃ x, u / 16 ^ k = x := ⟨_, rfl⟩
    have HXX := hid hxx
    rw [hxx] at hcu HUP HLO HDD
    rw [hxx]
    obtain ⟨i, hi⟩ : ∃ i, 65 - k = i + 1 := ⟨64 - k, by omega⟩
    have hi4 : i = 64 - k := by omega
    have HI := hid hi4
    rw [hi]
    have hiw : IntKind.i64.wrap (((i + 1 : Nat) : Int) - 1) = ((i : Nat) : Int) := (IntWalk.i64_in _ (by omega)).trans (by omega)
    have hi65 : decide (((i : Nat) : Int) < 65) = true := decide_eq_true (by omega)
    have hi65' : ((i : Nat) : Int) < 65 := by omega
    have hi0 : (0 : Int) ≤ ((i : Nat) : Int) := by omega
    have hfz := frozen_of_row _ _ i _ _ hx
    have hcell : wr.cell? ⟨g, i, none⟩ = some (.int .u8 ((f i : Nat) : Int)) := by rw [cell_of_row _ _ i _ _ (0, 0) hx, urow8_get _ _ _ (by omega)]
    clear hf hx hb hup hlow hdd hxx hi hi4
    rcases Nat.lt_or_ge x 16 with hlt | hge
    · have hin : decide ((16 : Int) ≤ ((x : Nat) : Int)) = false := decide_eq_false (by omega)
      have hin' : ¬ (16 : Int) ≤ ((x : Nat) : Int) := by omega
      go_upto_region 28 with fail
      rw [dig_nat x hlt]
      have hx2 := set_urow8 HX.out i (hexD x).toNat
      have hb2 : Below g w (wr.setCell ⟨g, i, none⟩ (.int .u8 (((hexD x).toNat : Nat) : Int))) := HB.out.trans ⟨rfl, rfl, rfl, by simp, fun q hq => heap_setCell_other wr ⟨g, i, none⟩ q _ (show q ≠ g by omega)⟩
      generalize wr.setCell ⟨g, i, none⟩ (.int .u8 (((hexD x).toNat : Nat) : Int)) = wz at hx2 hb2 ⊢
      have HX2 := hid hx2
      have HB2 := hid hb2
      clear HX HB hfz hcell
      have hlk : (hexK (k + 1) u).length = 65 - i := by rw [hexK_len]; have := HI.out; omega
      have hsl := slice65 g i (by have := HI.out; omega) wz
      have hcv := run_convert_bytes_back (P := Tryz.prog) wz 78 9 5 ⟨g, i, none⟩ (65 - i) (hexK (k + 1) u) Tryz.underlying78 Tryz.underlying5 Tryz.underlying9 (fun j hj => by
        have hj' : j < 65 - i := by omega
        rw [show (⟨g, i, none⟩ : Addr).add j = ⟨g, i + j, none⟩ by unfold Addr.add; split <;> simp_all, cell_of_row _ _ (i + j) _ _ (0, 0) HX2.out, urow8_get _ _ _ (by omega)]
        have hget := hexK_get (k + 1) u j (by have := HI.out; omega)
        rw [List.getElem?_eq_getElem hj] at hget
        rw [Option.some.inj hget]
        congr 3
        unfold up1
        have h4 := HI.out
        by_cases e : i + j = i
        · obtain rfl : j = 0 := by omega
          rw [if_pos (by omega), show k + 1 - 1 - 0 = k by omega, HXX.out, Nat.mod_eq_of_lt hlt]
        · rw [if_neg e, show i + j = 64 - (k - j) by omega, HF.out (k - j) (by omega), show k + 1 - 1 - j = k - j by omega])
      rw [hlk] at hcv
      have HU := hid (show u < 16 ^ (k + 1) by
        have h1 := HUP.out
        rw [Nat.pow_succ]
        exact Nat.lt_of_lt_of_le h1 (Nat.mul_le_mul_left _ (by omega)))
      obtain ⟨rs, hrs⟩ : ∃ rs, rs = (⟨(hexK (k + 1) u).toArray⟩ : ByteArray) := ⟨_, rfl⟩
      rw [← hrs] at hcv
      have HRS := hid hrs
      clear hrs hlk
      go_wp2_with fail
      go_ret2
      exact ⟨⟨k + 1, by omega, by omega, HU.out, by rw [← HRS.out]; rfl⟩, by rw [hg]; exact HB2.out⟩
    · have hin : decide ((16 : Int) ≤ ((x : Nat) : Int)) = true := decide_eq_true (by omega)
      have hin' : (16 : Int) ≤ ((x : Nat) : Int) := by omega
      have hand := u64_and15 x hcu
      have hm16 : x % 16 < 16 := Nat.mod_lt _ (by decide)
      obtain ⟨d, hd⟩ : ∃ d, x % 16 = d := ⟨_, rfl⟩
      have HD := hid hd
      rw [hd] at hand hm16
      clear hd
      have hk14 : k + 1 ≤ 15 := by
        have h1 := HLO.out
        rcases Nat.lt_or_ge k 15 with h | h
        · omega
        · obtain rfl : k = 15 := by omega
          omega
      go_wp2_with fail
      rw [dig_nat d hm16]
      go_roundw
      case rel =>
        refine ⟨k + 1, up1 f i (hexD d).toNat, hk14, by rw [← HDD.out, Int.natCast_ediv]; rfl, by have := HI.out; congr 1; omega, set_urow8 HX.out i _, fun j hj => ?_, HB.out.trans ⟨rfl, rfl, rfl, by simp, fun q hq => heap_setCell_other wr ⟨g, i, none⟩ q _ (show q ≠ g by omega)⟩⟩
        unfold up1
        have h4 := HI.out
        by_cases e : 64 - j = i
        · obtain rfl : j = k := by omega
          rw [if_pos e, HXX.out, HD.out]
        · rw [if_neg e]
          exact HF.out j (by omega)
      case measure => simp only [intOf, Int.toNat_natCast]; omega
theorem fmt16_c (u : Nat) (hu : u < 18446744073709551616) (w : World) (L : LaidW w) :
    Calls Tryz.prog 80 #[.int .u64 ((u : Nat) : Int), .int .i64 16] w fun e w' => (∃ m, 1 ≤ m ∧ m ≤ 16 ∧ u < 16 ^ m ∧ e = .returned (.string ⟨(hexK m u).toArray⟩)) ∧ Below w.heap.size w w' := by
  have H : Hid (Calls Tryz.prog 106 #[.int .u64 ((u : Nat) : Int), .int .i64 16] w fun e w' => (∃ m, 1 ≤ m ∧ m ≤ 16 ∧ u < 16 ^ m ∧ e = .returned (.string ⟨(hexK m u).toArray⟩)) ∧ Below w.heap.size w w') := hid (by
    have H := hid (bits_c u hu w L)
    clear L
    go_enter Tryz.func106, Tryz.ntmps106
    go_wp2_with (go_at_call 127; refine H.out.mono ?_; rintro e w' ⟨⟨m, h1, h2, h3, rfl⟩, hb⟩; have HM := hid (And.intro h1 (And.intro h2 h3)); clear h1 h2 h3)
    go_ret
    exact ⟨⟨m, HM.out.1, HM.out.2.1, HM.out.2.2, rfl⟩, hb⟩)
  clear L
  go_enter Tryz.func80, Tryz.ntmps80
  go_wp2_with (go_at_call 106; refine H.out.mono ?_; rintro e w' ⟨⟨m, h1, h2, h3, rfl⟩, hb⟩; have HM := hid (And.intro h1 (And.intro h2 h3)); clear h1 h2 h3)
  go_ret
  exact ⟨⟨m, HM.out.1, HM.out.2.1, HM.out.2.2, rfl⟩, hb⟩
theorem rep_eq : ∀ c, Lib.repeatL [48] c = List.replicate c 48
  | 0 => rfl
  | c + 1 => by simp [Lib.repeatL, rep_eq c, List.replicate_succ]
theorem rep_len (c : Nat) : (Lib.repeatL [48] c).length = c := by rw [rep_eq, List.length_replicate]
theorem hexK_pad : ∀ (j m n : Nat), n < 16 ^ m → List.replicate j 48 ++ hexK m n = hexK (j + m) n
  | j, 0, n, h => by
    obtain rfl : n = 0 := by simpa using h
    show List.replicate j 48 ++ [] = _
    rw [List.append_nil, Nat.add_zero, hexK_zero]
  | j, m + 1, n, h => by
    have h1 : n / 16 < 16 ^ m := by
      rw [Nat.div_lt_iff_lt_mul (by decide)]
      rw [Nat.pow_succ] at h
      exact h
    rw [hexK, ← List.append_assoc, hexK_pad j m (n / 16) h1, ← Nat.add_assoc, hexK]
set_option maxHeartbeats 1000000 in
/-- The sixteen digits of a hash. -/
theorem String_c (u : Nat) (hu : u < 18446744073709551616) (w : World) (L : LaidW w) :
    Calls Tryz.prog 61 #[.int .u64 ((u : Nat) : Int)] w fun e w' => e = .returned (.string ⟨(hex16 u).toArray⟩) ∧ Below w.heap.size w w' := by
  have HF := hid (fmt16_c u hu w L)
  have HR := hid (fun (c : Nat) (hc : c ≤ 15) W => strings_Repeat ⟨#[48]⟩ c W (by omega) (by show 1 * c ≤ _; omega))
  clear L
  go_enter Tryz.func61, Tryz.ntmps61
  go_upto_region 2 with (go_at_call 80; refine HF.out.mono ?_; rintro e w1 ⟨⟨m, h1, h2, h3, rfl⟩, hb1⟩)
  obtain ⟨rs, hrs⟩ : ∃ rs, rs = (⟨(hexK m u).toArray⟩ : ByteArray) := ⟨_, rfl⟩
  rw [← hrs]
  have hsz : rs.size = m := by rw [hrs]; show (hexK m u).toArray.size = m; rw [List.size_toArray, hexK_len]
  obtain ⟨c, hc⟩ : ∃ c, 16 - m = c := ⟨_, rfl⟩
  have hcw : IntKind.i64.wrap (16 - ((m : Nat) : Int)) = ((c : Nat) : Int) := (IntWalk.i64_in _ (by omega)).trans (by omega)
  have HE := hid (show (⟨(Lib.repeatL [48] c).toArray⟩ : ByteArray) ++ rs = ⟨(hex16 u).toArray⟩ from by
    rw [hrs, rep_eq]
    apply ByteArray.ext
    rw [ByteArray.data_append]
    show (List.replicate c 48).toArray ++ (hexK m u).toArray = _
    rw [List.append_toArray, hexK_pad c m u h3, show c + m = 16 by omega]
    rfl)
  obtain ⟨z, hz⟩ : ∃ z, z = (⟨(Lib.repeatL [48] c).toArray⟩ : ByteArray) := ⟨_, rfl⟩
  have hrc := HR.out c (by omega) w1
  rw [← hz] at HE
  have hzs : z.size = c := by rw [hz]; show (Lib.repeatL [48] c).toArray.size = c; rw [List.size_toArray, rep_len]
  change Calls Tryz.prog 81 _ _ (fun e w' => e = .returned (.string ⟨(Lib.repeatL [48] c).toArray⟩) ∧ Below w1.heap.size w1 w') at hrc
  rw [← hz] at hrc
  have HRC := hid hrc
  have hsum : z.size + rs.size ≤ 9223372036854775807 := by omega
  clear h3 hrs hc HR HF hz hrc
  go_wp2_with (go_at_call 81; refine HRC.out.mono ?_; rintro e w2 ⟨rfl, hb2⟩)
  go_ret
  exact ⟨by rw [HE.out]; rfl, hb1.trans (hb2.mono hb1.size)⟩
end Go.Proofs.YtbcileppebpamaaGreatDoor
