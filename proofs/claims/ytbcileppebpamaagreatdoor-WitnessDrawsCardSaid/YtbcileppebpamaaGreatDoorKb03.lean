/- Lemmas for WitnessDraws: part 3. -/
import Derived.Lib.SmallJoins
import Derived.Laws.IdiomStrings
import Derived.Lib.ItoaLen
import Derived.Lib.AppendIntMem
import Derived.Test.YtbcileppebpamaaGreatDoorKb02
set_option linter.unusedSimpArgs false
set_option linter.unusedVariables false
namespace Go.Proofs.YtbcileppebpamaaGreatDoor
open Go Go.RowKit Go.Shelf
set_option maxRecDepth 100000
theorem dropWhile_nil {α : Type} (p : α → Bool) : ∀ (l : List α), List.dropWhile p l = [] ↔ ∀ x ∈ l, p x = true
  | [] => by simp
  | a :: l => by
    rw [List.dropWhile_cons]
    by_cases h : p a = true
    · rw [if_pos h, dropWhile_nil p l]
      simp [h]
    · rw [if_neg h]
      simp [h]
theorem dropWhile_head {α : Type} (p : α → Bool) : ∀ (l : List α) (x : α) (xs : List α), List.dropWhile p l = x :: xs → p x = false
  | [], x, xs, h => by simp at h
  | a :: l, x, xs, h => by
    rw [List.dropWhile_cons] at h
    by_cases hp : p a = true
    · rw [if_pos hp] at h
      exact dropWhile_head p l x xs h
    · rw [if_neg hp] at h
      injection h with h1 _
      subst h1
      simpa using hp
theorem trim_nil (l cs : List UInt8) : Lib.trimS l cs = [] ↔ ∀ c ∈ l, cs.contains c = true := by
  unfold Lib.trimS Lib.trimLeftS Lib.trimRightS
  constructor
  · intro h
    rw [dropWhile_nil] at h
    cases hd : List.dropWhile (fun x => cs.contains x) l.reverse with
    | nil =>
      rw [dropWhile_nil] at hd
      exact fun c hc => hd c (List.mem_reverse.2 hc)
    | cons x xs =>
      have h1 := h x (by rw [hd]; simp)
      have h2 := dropWhile_head (fun x => cs.contains x) _ x xs hd
      rw [h1] at h2
      cases h2
  · intro h
    have h1 : List.dropWhile (fun x => cs.contains x) l.reverse = [] := (dropWhile_nil _ _).2 fun c hc => h c (List.mem_reverse.1 hc)
    rw [h1]
    rfl
def saltCs : List UInt8 := [97, 98, 99, 100, 101, 102, 103, 104, 105, 106, 107, 108, 109, 110, 111, 112, 113, 114, 115, 116, 117, 118, 119, 120, 121, 122, 48, 49, 50, 51, 52, 53, 54, 55, 56, 57]
def hexCs : List UInt8 := [48, 49, 50, 51, 52, 53, 54, 55, 56, 57, 97, 98, 99, 100, 101, 102]
theorem salt_cs (c : UInt8) : saltCs.contains c = saltB c := by
  have : ∀ n : Fin 256, saltCs.contains (UInt8.ofNat n.1) = saltB (UInt8.ofNat n.1) := by decide +kernel
  have h := this ⟨c.toNat, c.toNat_lt⟩
  simpa using h
theorem hex_cs (c : UInt8) : hexCs.contains c = hexB c := by
  have : ∀ n : Fin 256, hexCs.contains (UInt8.ofNat n.1) = hexB (UInt8.ofNat n.1) := by decide +kernel
  have h := this ⟨c.toNat, c.toNat_lt⟩
  simpa using h
theorem trim_all (l cs : List UInt8) (p : UInt8 → Bool) (hp : ∀ c, cs.contains c = p c) : (⟨(Lib.trimS l cs).toArray⟩ : ByteArray).toList.isEmpty = l.all p := by
  rw [ByteArray.toList_eq]
  have h := trim_nil l cs
  by_cases ha : l.all p = true
  · rw [ha, h.2 (fun c hc => by rw [hp]; exact List.all_eq_true.1 ha c hc)]
    rfl
  · have ha' : l.all p = false := by simpa using ha
    rw [ha']
    have hne : Lib.trimS l cs ≠ [] := fun e => ha (List.all_eq_true.2 fun c hc => by rw [← hp]; exact h.1 e c hc)
    cases hl : Lib.trimS l cs with
    | nil => exact absurd hl hne
    | cons x xs => rfl
set_option maxHeartbeats 1000000 in
theorem isHash_c (s : ByteArray) (hs : s.size ≤ 1000000) (w : World) :
    Calls Tryz.prog 35 #[.string s] w fun e w' => e = .returned (.bool (isHashL s.data.toList)) ∧ Below w.heap.size w w' := by
  have hcon := Any.strings_Trim_laid lays160 (by kernel_rfl) s ⟨#[48, 49, 50, 51, 52, 53, 54, 55, 56, 57, 97, 98, 99, 100, 101, 102]⟩ w (by omega) (by decide) (ascii_of_all (by decide))
  change Calls Tryz.prog 71 _ _ (fun e w' => e = .returned (.string ⟨(Lib.trimS s.data.toList hexCs).toArray⟩) ∧ Below w.heap.size w w') at hcon
  have hall := trim_all s.data.toList hexCs hexB hex_cs
  have hl : s.data.toList.length = s.size := by rw [Array.length_toList]; rfl
  unfold isHashL
  rw [hl]
  generalize (⟨(Lib.trimS s.data.toList hexCs).toArray⟩ : ByteArray) = r at hcon hall ⊢
  generalize s.data.toList.all hexB = b at hall ⊢
  obtain ⟨n, hn⟩ : ∃ n, s.size = n := ⟨_, rfl⟩
  rw [hn] at hs ⊢
  have HC := hid hcon
  clear hcon hl
  by_cases h16 : n = 16
  · have h1 : (((n : Nat) : Int) == 16) = true := by simp; omega
    have h2 : decide (n = 16) = true := decide_eq_true h16
    rw [h2]
    clear h16 h2
    go_enter Tryz.func35, Tryz.ntmps35
    go_wp2_with (go_at_call 71; refine HC.out.mono ?_; rintro e w1 ⟨rfl, hb1⟩)
    go_ret
    exact ⟨by simp [hall], hb1⟩
  · have h1 : (((n : Nat) : Int) == 16) = false := by simp; omega
    have h2 : decide (n = 16) = false := decide_eq_false h16
    rw [h2]
    clear h16 h2
    go_enter Tryz.func35, Tryz.ntmps35
    go_wp2_with fail
    go_ret
    exact ⟨by simp, Below.refl _ _⟩
set_option maxHeartbeats 1000000 in
theorem isSalt_c (s : ByteArray) (hs : s.size ≤ 1000000) (w : World) :
    Calls Tryz.prog 39 #[.string s] w fun e w' => e = .returned (.bool (isSaltL s.data.toList)) ∧ Below w.heap.size w w' := by
  have hcon := fun w => Any.strings_Trim_laid lays160 (by kernel_rfl) s ⟨#[97, 98, 99, 100, 101, 102, 103, 104, 105, 106, 107, 108, 109, 110, 111, 112, 113, 114, 115, 116, 117, 118, 119, 120, 121, 122, 48, 49, 50, 51, 52, 53, 54, 55, 56, 57]⟩ w (by omega) (by decide) (ascii_of_all (by decide))
  change ∀ w, Calls Tryz.prog 71 _ _ (fun e w' => e = .returned (.string ⟨(Lib.trimS s.data.toList saltCs).toArray⟩) ∧ Below w.heap.size w w') at hcon
  have hall := trim_all s.data.toList saltCs saltB salt_cs
  have hl : s.data.toList.length = s.size := by rw [Array.length_toList]; rfl
  unfold isSaltL
  rw [hl]
  generalize (⟨(Lib.trimS s.data.toList saltCs).toArray⟩ : ByteArray) = r at hcon hall ⊢
  generalize s.data.toList.all saltB = b at hall ⊢
  obtain ⟨n, hn⟩ : ∃ n, s.size = n := ⟨_, rfl⟩
  rw [hn] at hs ⊢
  have HC := hid hcon
  have hwi := within_c ((n : Nat) : Int) 1 20
  clear hcon hl
  by_cases h16 : 1 ≤ n ∧ n ≤ 20
  · have h1 : (decide ((1 : Int) ≤ ((n : Nat) : Int)) && decide (((n : Nat) : Int) ≤ 20)) = true := by simp; omega
    have h2 : (decide (1 ≤ n) && decide (n ≤ 20)) = true := by simp; omega
    rw [h2]
    simp only [h1] at hwi
    have HW := hid hwi
    clear h16 h2 h1 hwi
    go_enter Tryz.func39, Tryz.ntmps39
    go_wp2_with (first
      | (go_at_call 36; refine (HW.out w).mono ?_; rintro e w1 ⟨rfl, rfl⟩)
      | (go_at_call 71; refine (HC.out w).mono ?_; rintro e w1 ⟨rfl, hb1⟩))
    go_ret
    exact ⟨by simp [hall], hb1⟩
  · have h1 : (decide ((1 : Int) ≤ ((n : Nat) : Int)) && decide (((n : Nat) : Int) ≤ 20)) = false := by
      rw [Bool.eq_false_iff]
      simp
      omega
    have h2 : (decide (1 ≤ n) && decide (n ≤ 20)) = false := by
      rw [Bool.eq_false_iff]
      simp
      omega
    rw [h2]
    simp only [h1] at hwi
    have HW := hid hwi
    clear h16 h2 h1 hwi
    go_enter Tryz.func39, Tryz.ntmps39
    go_wp2_with (go_at_call 36; refine (HW.out w).mono ?_; rintro e w1 ⟨rfl, rfl⟩)
    go_ret
    exact ⟨by simp, Below.refl _ _⟩
/-- A box. -/
def isBoxL (p v : Int) (s : List UInt8) : Bool := (decide (1 ≤ p) && decide (p ≤ 30)) && ((decide (0 ≤ v) && decide (v ≤ 999999999)) && isSaltL s)
set_option maxHeartbeats 2000000 in
theorem isBox_c (p v : Int) (s : ByteArray) (hs : s.size ≤ 1000000) (w : World) :
    Calls Tryz.prog 70 #[.agg #[.int .i64 p, .int .i64 v, .string s]] w fun e w' => e = .returned (.bool (isBoxL p v s.data.toList)) ∧ Below w.heap.size w w' := by
  have hx := heap_alloc_new w (.cells #[.int .i64 p, .int .i64 v, .string s] 27)
  have hb : Below w.heap.size w (w.alloc (.cells #[.int .i64 p, .int .i64 v, .string s] 27)) := (Below.refl _ _).alloc (Nat.le_refl _) _
  have hSA := fun W => isSalt_c s hs W
  unfold isBoxL
  generalize isSaltL s.data.toList = sb at hSA ⊢
  have h1 := within_c p 1 30
  have h2 := within_c v 0 999999999
  generalize (decide (1 ≤ p) && decide (p ≤ 30)) = b1 at h1 ⊢
  generalize (decide (0 ≤ v) && decide (v ≤ 999999999)) = b2 at h2 ⊢
  have HS := hid hSA
  have H1 := hid h1
  have HD := hid trivial
  have H2 := hid h2
  have k0 := cell_of_row _ w.heap.size 0 _ _ _ hx
  have k1 := cell_of_row _ w.heap.size 1 _ _ _ hx
  have k2 := cell_of_row _ w.heap.size 2 _ _ _ hx
  obtain ⟨g, hg⟩ : ∃ g, w.heap.size = g := ⟨_, rfl⟩
  rw [hg] at k0 k1 k2
  have HK := hid (And.intro k0 (And.intro k1 (And.intro k2 hb)))
  clear k0 k1 k2
  clear hSA h1 h2 hb hx
  cases b1 with
  | false =>
    go_enter Tryz.func70, Tryz.ntmps70
    go_upto_region 1 with fail
    generalize w.alloc (.cells #[.int .i64 p, .int .i64 v, .string s] 27) = wa at HK ⊢
    have ⟨k0, k1, k2, hb⟩ := HK.out
    have hsz := hb.size
    have HB := hid hb
    clear hb HK
    go_wp2_with (go_at_call 36; have hq := HD; clear hq HD; refine (H1.out _).mono ?_; rintro e w1 ⟨rfl, rfl⟩)
    go_ret
    exact ⟨by simp, HB.out⟩
  | true =>
    cases b2 with
    | false =>
      go_enter Tryz.func70, Tryz.ntmps70
      go_upto_region 1 with fail
      generalize w.alloc (.cells #[.int .i64 p, .int .i64 v, .string s] 27) = wa at HK ⊢
      have ⟨k0, k1, k2, hb⟩ := HK.out
      have hsz := hb.size
      have HB := hid hb
      clear hb HK
      go_wp2_with (first
        | (go_at_call 36; have hq := HD; clear hq HD; refine (H1.out _).mono ?_; rintro e w1 ⟨rfl, rfl⟩)
        | (go_at_call 36; refine (H2.out _).mono ?_; rintro e w1 ⟨rfl, rfl⟩))
      go_ret
      exact ⟨by simp, HB.out⟩
    | true =>
      go_enter Tryz.func70, Tryz.ntmps70
      go_upto_region 1 with fail
      generalize w.alloc (.cells #[.int .i64 p, .int .i64 v, .string s] 27) = wa at HK ⊢
      have ⟨k0, k1, k2, hb⟩ := HK.out
      have hsz := hb.size
      have HB := hid hb
      clear hb HK
      go_wp2_with (first
        | (go_at_call 36; have hq := HD; clear hq HD; refine (H1.out _).mono ?_; rintro e w1 ⟨rfl, rfl⟩)
        | (go_at_call 36; refine (H2.out _).mono ?_; rintro e w1 ⟨rfl, rfl⟩)
        | (go_at_call 39; refine (HS.out _).mono ?_; rintro e w2 ⟨rfl, hb2⟩))
      go_ret
      exact ⟨by simp, HB.out.trans (hb2.mono hsz)⟩
end Go.Proofs.YtbcileppebpamaaGreatDoor
set_option linter.unusedSimpArgs false
set_option linter.unusedVariables false
namespace Go.Proofs.YtbcileppebpamaaGreatDoor
open Go Go.RowKit Go.Shelf
set_option maxRecDepth 100000
/-- The tables that are read. -/
structure LaidW (w : World) : Prop where
  size : 7 < w.heap.size
  tz : w.cell? ⟨7, 15, none⟩ = some (.int .u8 4)
  pow : Lib.TabIs Tryz.prog w "internal/strconv.uint64pow10" .u64 Lib.pow10Tab
theorem gPow : Tryz.prog.globalNamed "internal/strconv.uint64pow10" = some 3 := by kernel_rfl
theorem LaidW.below {w w' : World} (h : LaidW w) (hb : Below w.heap.size w w') : LaidW w' :=
  ⟨Nat.lt_of_lt_of_le h.size hb.size, (hb.cell (p := ⟨7, 15, none⟩) h.size).trans h.tz, Go.Joins.tab_stays gPow h.pow hb (Nat.le_refl _)⟩
set_option maxHeartbeats 400000 in
theorem tz16_c (w : World) (L : LaidW w) : Calls Tryz.prog 144 #[.int .u64 16] w fun e w' => e = .returned (.int .i64 4) ∧ w = w' := by
  have hc := L.tz
  have hs := L.size
  have hneg : bits .and .u64 16 (IntKind.u64.wrap (-16)) = 16 := by decide +kernel
  have hmul : IntKind.u64.wrap (16 * 285870213051353865) = 4573923408821661840 := by decide +kernel
  clear L
  have H : Hid (Calls Tryz.prog 148 #[.int .u64 16] w fun e w' => e = .returned (.int .i64 4) ∧ w = w') := hid (by
    go_enter Tryz.func148, Tryz.ntmps148
    go_wp2_with fail
    go_ret
    exact ⟨rfl, rfl⟩)
  clear hc hs
  go_enter Tryz.func144, Tryz.ntmps144
  go_wp2_with (go_at_call 148; refine H.out.mono ?_; rintro e w' ⟨rfl, rfl⟩)
  go_ret
  exact ⟨rfl, rfl⟩
theorem pow16_c (w : World) : Calls Tryz.prog 143 #[.int .i64 16] w fun e w' => e = .returned (.bool true) ∧ w = w' := by
  go_enter Tryz.func143, Tryz.ntmps143
  go_wp2_with fail
  go_ret
  exact ⟨rfl, rfl⟩
/-- A row of bytes. -/
def urow8 (n : Nat) (f : Nat → Nat) : Array Value := Array.ofFn (n := n) fun i => .int .u8 ((f i : Nat) : Int)
theorem urow8_get (n : Nat) (f : Nat → Nat) (i : Nat) (h : i < n) : (urow8 n f)[i]? = some (.int .u8 ((f i : Nat) : Int)) := by simp [urow8, h]
def up1 (f : Nat → Nat) (i x : Nat) : Nat → Nat := fun j => if j = i then x else f j
theorem urow8_set (n : Nat) (f : Nat → Nat) (i x : Nat) : (urow8 n f).setIfInBounds i (.int .u8 ((x : Nat) : Int)) = urow8 n (up1 f i x) := by
  apply Array.ext
  · simp [urow8]
  · intro j h1 h2
    have hj : j < n := by simpa [urow8] using h2
    rw [Array.getElem_setIfInBounds (by simpa [urow8] using h1)]
    simp only [urow8, up1, Array.getElem_ofFn]
    by_cases e : i = j
    · subst e; simp
    · rw [if_neg e, if_neg (fun h => e h.symm)]
theorem set_urow8 {w : World} {g n : Nat} {f : Nat → Nat} {t : TypeId} (hg : w.heap[g]? = some (.cells (urow8 n f) t (0, 0))) (i x : Nat) : (w.setCell ⟨g, i, none⟩ (.int .u8 ((x : Nat) : Int))).heap[g]? = some (.cells (urow8 n (up1 f i x)) t (0, 0)) := by
  rw [heap_setCell_same w g i _ t _ hg, urow8_set]
theorem zc65 : Tryz.zeroCells199 = urow8 65 fun _ => 0 := by kernel_rfl
theorem hexK_get : ∀ (m n t : Nat), t < m → (hexK m n)[t]? = some (hexD (n / 16 ^ (m - 1 - t) % 16))
  | 0, _, _, h => by omega
  | m + 1, n, t, h => by
    rw [hexK]
    have hl := hexK_len m (n / 16)
    rcases Nat.lt_or_ge t m with h1 | h1
    · rw [List.getElem?_append_left (by omega), hexK_get m (n / 16) t h1, Nat.div_div_eq_div_mul, show 16 * 16 ^ (m - 1 - t) = 16 ^ (m + 1 - 1 - t) by rw [← Nat.pow_succ']; congr 1; omega]
    · obtain rfl : t = m := by omega
      rw [List.getElem?_append_right (by omega), hl, Nat.sub_self, show t + 1 - 1 - t = 0 by omega]
      simp
theorem dig_nat (d : Nat) (hd : d < 16) (h : d < (⟨#[48, 49, 50, 51, 52, 53, 54, 55, 56, 57, 97, 98, 99, 100, 101, 102, 103, 104, 105, 106, 107, 108, 109, 110, 111, 112, 113, 114, 115, 116, 117, 118, 119, 120, 121, 122]⟩ : ByteArray).size) : ((⟨#[48, 49, 50, 51, 52, 53, 54, 55, 56, 57, 97, 98, 99, 100, 101, 102, 103, 104, 105, 106, 107, 108, 109, 110, 111, 112, 113, 114, 115, 116, 117, 118, 119, 120, 121, 122]⟩ : ByteArray)[d]'h).toNat = (hexD d).toNat := by
  rcases (show d = 0 ∨ d = 1 ∨ d = 2 ∨ d = 3 ∨ d = 4 ∨ d = 5 ∨ d = 6 ∨ d = 7 ∨ d = 8 ∨ d = 9 ∨ d = 10 ∨ d = 11 ∨ d = 12 ∨ d = 13 ∨ d = 14 ∨ d = 15 by omega) with rfl | rfl | rfl | rfl | rfl | rfl | rfl | rfl | rfl | rfl | rfl | rfl | rfl | rfl | rfl | rfl <;> rfl
theorem slice65 (g i : Nat) (hi : i < 65) (w : World) : (Instr.sliceAt 199 (.pointer (some ⟨g, 0, none⟩)) (some (.int .i64 ((i : Nat) : Int))) none none).run Tryz.prog w = .ok (.slice (some ⟨g, i, none⟩) (65 - i) (65 - i)) w := by
  have hl : Tryz.prog.arrayLen 199 = 65 := by kernel_rfl
  have he : Tryz.prog.elem 199 = 5 := by kernel_rfl
  have h := run_sliceAt_array_l (P := Tryz.prog) w 199 ⟨g, 0, none⟩ (by kernel_rfl) .i64 ((i : Nat) : Int) (by omega) (by rw [hl]; omega)
  rw [h, hl, he, Tryz.sizeOf5 w]
  have h65 : ¬ (65 = i) := by omega
  simp [slicedAt, h65, Addr.add]
  intro h0
  exact h0.symm
set_option maxHeartbeats 1000000 in
theorem bits_c (u : Nat) (hu : u < 18446744073709551616) (w : World) (L : LaidW w) :
    Calls Tryz.prog 127 #[.slice none 0 0, .int .u64 ((u : Nat) : Int), .int .i64 16, .bool false, .bool false] w fun e w' => (∃ m, 1 ≤ m ∧ m ≤ 16 ∧ u < 16 ^ m ∧ e = .returned (.tuple #[.slice none 0 0, .string ⟨(hexK m u).toArray⟩])) ∧ Below w.heap.size w w' := by
  go_enter Tryz.func127, Tryz.ntmps127
  go_upto_region 4 with fail
  rw [zc65]
  have hx := heap_alloc_new w (.cells (urow8 65 fun _ => 0) 199)
  have hb : Below w.heap.size w (w.alloc (.cells (urow8 65 fun _ => 0) 199)) := (Below.refl _ _).alloc (Nat.le_refl _) _
  have hsz : (w.alloc (.cells (urow8 65 fun _ => 0) 199)).heap.size = w.heap.size + 1 := by simp
  have HL := hid (L.below hb)
  obtain ⟨g, hg⟩ : ∃ g, w.heap.size = g := ⟨_, rfl⟩
  rw [hg] at hx hb hsz ⊢
  generalize w.alloc (.cells (urow8 65 fun _ => 0) 199) = wa at hx hb HL hsz ⊢
  have HB := hid hb
  have HX := hid hx
  clear hx hb hsz L
  go_upto_region 11 with (first
    | (go_at_call 143; refine (pow16_c _).mono ?_; rintro e w1 ⟨rfl, rfl⟩)
    | (go_at_call 144; refine (tz16_c _ HL.out).mono ?_; rintro e w1 ⟨rfl, rfl⟩))
  go_loopw [1, 13] (fun ux ix wr => ∃ (k : Nat) (f : Nat → Nat), k ≤ 15 ∧ ux = .int .u64 ((u / 16 ^ k : Nat) : Int) ∧ ix = .int .i64 ((65 - k : Nat) : Int) ∧ wr.heap[g]? = some (.cells (urow8 65 f) 199 (0, 0)) ∧ (∀ j, j < k → f (64 - j) = (hexD (u / 16 ^ j % 16)).toNat) ∧ Below g w wr) (fun ux _ _ => (intOf ux).toNat)
  case atStart => exact ⟨0, fun _ => 0, by omega, by simp, rfl, HX.out, fun j h => by omega, HB.out⟩
  case round =>
    clear HX HB HL
    obtain ⟨k, f, hk, rfl, rfl, hx, hf, hb⟩ := hrel
    have HF := hid hf
    have HX := hid hx
    have HB := hid hb
    have hcu : u / 16 ^ k < 18446744073709551616 := Nat.lt_of_le_of_lt (Nat.div_le_self _ _) hu
    have hdd : u / 16 ^ k / 16 = u / 16 ^ (k + 1) := by rw [Nat.div_div_eq_div_mul, ← Nat.pow_succ]
    have hup : u < 16 ^ k * (u / 16 ^ k + 1) := by
      have := Nat.div_add_mod u (16 ^ k)
      have h2 := Nat.mod_lt u (show 0 < 16 ^ k from Nat.pow_pos (by decide))
      rw [Nat.mul_add, Nat.mul_one]
      omega
    have hlow : 16 ^ k * (u / 16 ^ k) ≤ u := Nat.mul_div_le _ _
    have HUP := hid hup
    have HLO := hid hlow
    have HDD := hid hdd
    obtain ⟨x, hxx⟩ : ∃ x, u / 16 ^ k = x := ⟨_, rfl⟩
    have HXX := hid hxx
    rw [hxx] at hcu HUP HLO HDD
    rw [hxx]
    obtain ⟨i, hi⟩ : ∃ i, 65 - k = i + 1 := ⟨64 - k, by omega⟩
    have hi4 : i = 64 - k := by omega
    have HI := hid hi4
    rw [hi]
    have hiw : IntKind.i64.wrap (((i + 1 : Nat) : Int) - 1) = ((i : Nat) : Int) := (IntWalk.i64_in _ (by omega)).trans (by omega)
    have hi65 : decide (((i : Nat) : Int) < 65) = true := decide_eq_true (by omega)
    have hi65' : ((i : Nat) : Int) < 65 := by omega
    have hi0 : (0 : Int) ≤ ((i : Nat) : Int) := by omega
    have hfz := frozen_of_row _ _ i _ _ hx
    have hcell : wr.cell? ⟨g, i, none⟩ = some (.int .u8 ((f i : Nat) : Int)) := by rw [cell_of_row _ _ i _ _ (0, 0) hx, urow8_get _ _ _ (by omega)]
    clear hf hx hb hup hlow hdd hxx hi hi4
    rcases Nat.lt_or_ge x 16 with hlt | hge
    · have hin : decide ((16 : Int) ≤ ((x : Nat) : Int)) = false := decide_eq_false (by omega)
      have hin' : ¬ (16 : Int) ≤ ((x : Nat) : Int) := by omega
      go_upto_region 28 with fail
      rw [dig_nat x hlt]
      have hx2 := set_urow8 HX.out i (hexD x).toNat
      have hb2 : Below g w (wr.setCell ⟨g, i, none⟩ (.int .u8 (((hexD x).toNat : Nat) : Int))) := HB.out.trans ⟨rfl, rfl, rfl, by simp, fun q hq => heap_setCell_other wr ⟨g, i, none⟩ q _ (show q ≠ g by omega)⟩
      generalize wr.setCell ⟨g, i, none⟩ (.int .u8 (((hexD x).toNat : Nat) : Int)) = wz at hx2 hb2 ⊢
      have HX2 := hid hx2
      have HB2 := hid hb2
      clear HX HB hfz hcell
      have hlk : (hexK (k + 1) u).length = 65 - i := by rw [hexK_len]; have := HI.out; omega
      have hsl := slice65 g i (by have := HI.out; omega) wz
      have hcv := run_convert_bytes_back (P := Tryz.prog) wz 78 9 5 ⟨g, i, none⟩ (65 - i) (hexK (k + 1) u) Tryz.underlying78 Tryz.underlying5 Tryz.underlying9 (fun j hj => by
        have hj' : j < 65 - i := by omega
        rw [show (⟨g, i, none⟩ : Addr).add j = ⟨g, i + j, none⟩ by unfold Addr.add; split <;> simp_all, cell_of_row _ _ (i + j) _ _ (0, 0) HX2.out, urow8_get _ _ _ (by omega)]
        have hget := hexK_get (k + 1) u j (by have := HI.out; omega)
        rw [List.getElem?_eq_getElem hj] at hget
        rw [Option.some.inj hget]
        congr 3
        unfold up1
        have h4 := HI.out
        by_cases e : i + j = i
        · obtain rfl : j = 0 := by omega
          rw [if_pos (by omega), show k + 1 - 1 - 0 = k by omega, HXX.out, Nat.mod_eq_of_lt hlt]
        · rw [if_neg e, show i + j = 64 - (k - j) by omega, HF.out (k - j) (by omega), show k + 1 - 1 - j = k - j by omega])
      rw [hlk] at hcv
      have HU := hid (show u < 16 ^ (k + 1) by
        have h1 := HUP.out
        rw [Nat.pow_succ]
        exact Nat.lt_of_lt_of_le h1 (Nat.mul_le_mul_left _ (by omega)))
      obtain ⟨rs, hrs⟩ : ∃ rs, rs = (⟨(hexK (k + 1) u).toArray⟩ : ByteArray) := ⟨_, rfl⟩
      rw [← hrs] at hcv
      have HRS := hid hrs
      clear hrs hlk
      go_wp2_with fail
      go_ret2
      exact ⟨⟨k + 1, by omega, by omega, HU.out, by rw [← HRS.out]; rfl⟩, by rw [hg]; exact HB2.out⟩
    · have hin : decide ((16 : Int) ≤ ((x : Nat) : Int)) = true := decide_eq_true (by omega)
      have hin' : (16 : Int) ≤ ((x : Nat) : Int) := by omega
      have hand := u64_and15 x hcu
      have hm16 : x % 16 < 16 := Nat.mod_lt _ (by decide)
      obtain ⟨d, hd⟩ : ∃ d, x % 16 = d := ⟨_, rfl⟩
      have HD := hid hd
      rw [hd] at hand hm16
      clear hd
      have hk14 : k + 1 ≤ 15 := by
        have h1 := HLO.out
        rcases Nat.lt_or_ge k 15 with h | h
        · omega
        · obtain rfl : k = 15 := by omega
          omega
      go_wp2_with fail
      rw [dig_nat d hm16]
      go_roundw
      case rel =>
        refine ⟨k + 1, up1 f i (hexD d).toNat, hk14, by rw [← HDD.out, Int.natCast_ediv]; rfl, by have := HI.out; congr 1; omega, set_urow8 HX.out i _, fun j hj => ?_, HB.out.trans ⟨rfl, rfl, rfl, by simp, fun q hq => heap_setCell_other wr ⟨g, i, none⟩ q _ (show q ≠ g by omega)⟩⟩
        unfold up1
        have h4 := HI.out
        by_cases e : 64 - j = i
        · obtain rfl : j = k := by omega
          rw [if_pos e, HXX.out, HD.out]
        · rw [if_neg e]
          exact HF.out j (by omega)
      case measure => simp only [intOf, Int.toNat_natCast]; omega
theorem fmt16_c (u : Nat) (hu : u < 18446744073709551616) (w : World) (L : LaidW w) :
    Calls Tryz.prog 80 #[.int .u64 ((u : Nat) : Int), .int .i64 16] w fun e w' => (∃ m, 1 ≤ m ∧ m ≤ 16 ∧ u < 16 ^ m ∧ e = .returned (.string ⟨(hexK m u).toArray⟩)) ∧ Below w.heap.size w w' := by
  have H : Hid (Calls Tryz.prog 106 #[.int .u64 ((u : Nat) : Int), .int .i64 16] w fun e w' => (∃ m, 1 ≤ m ∧ m ≤ 16 ∧ u < 16 ^ m ∧ e = .returned (.string ⟨(hexK m u).toArray⟩)) ∧ Below w.heap.size w w') := hid (by
    have H := hid (bits_c u hu w L)
    clear L
    go_enter Tryz.func106, Tryz.ntmps106
    go_wp2_with (go_at_call 127; refine H.out.mono ?_; rintro e w' ⟨⟨m, h1, h2, h3, rfl⟩, hb⟩; have HM := hid (And.intro h1 (And.intro h2 h3)); clear h1 h2 h3)
    go_ret
    exact ⟨⟨m, HM.out.1, HM.out.2.1, HM.out.2.2, rfl⟩, hb⟩)
  clear L
  go_enter Tryz.func80, Tryz.ntmps80
  go_wp2_with (go_at_call 106; refine H.out.mono ?_; rintro e w' ⟨⟨m, h1, h2, h3, rfl⟩, hb⟩; have HM := hid (And.intro h1 (And.intro h2 h3)); clear h1 h2 h3)
  go_ret
  exact ⟨⟨m, HM.out.1, HM.out.2.1, HM.out.2.2, rfl⟩, hb⟩
theorem rep_eq : ∀ c, Lib.repeatL [48] c = List.replicate c 48
  | 0 => rfl
  | c + 1 => by simp [Lib.repeatL, rep_eq c, List.replicate_succ]
theorem rep_len (c : Nat) : (Lib.repeatL [48] c).length = c := by rw [rep_eq, List.length_replicate]
theorem hexK_pad : ∀ (j m n : Nat), n < 16 ^ m → List.replicate j 48 ++ hexK m n = hexK (j + m) n
  | j, 0, n, h => by
    obtain rfl : n = 0 := by simpa using h
    show List.replicate j 48 ++ [] = _
    rw [List.append_nil, Nat.add_zero, hexK_zero]
  | j, m + 1, n, h => by
    have h1 : n / 16 < 16 ^ m := by
      rw [Nat.div_lt_iff_lt_mul (by decide)]
      rw [Nat.pow_succ] at h
      exact h
    rw [hexK, ← List.append_assoc, hexK_pad j m (n / 16) h1, ← Nat.add_assoc, hexK]
set_option maxHeartbeats 1000000 in
/-- The sixteen digits of a hash. -/
theorem String_c (u : Nat) (hu : u < 18446744073709551616) (w : World) (L : LaidW w) :
    Calls Tryz.prog 61 #[.int .u64 ((u : Nat) : Int)] w fun e w' => e = .returned (.string ⟨(hex16 u).toArray⟩) ∧ Below w.heap.size w w' := by
  have HF := hid (fmt16_c u hu w L)
  have HR := hid (fun (c : Nat) (hc : c ≤ 15) W => strings_Repeat ⟨#[48]⟩ c W (by omega) (by show 1 * c ≤ _; omega))
  clear L
  go_enter Tryz.func61, Tryz.ntmps61
  go_upto_region 2 with (go_at_call 80; refine HF.out.mono ?_; rintro e w1 ⟨⟨m, h1, h2, h3, rfl⟩, hb1⟩)
  obtain ⟨rs, hrs⟩ : ∃ rs, rs = (⟨(hexK m u).toArray⟩ : ByteArray) := ⟨_, rfl⟩
  rw [← hrs]
  have hsz : rs.size = m := by rw [hrs]; show (hexK m u).toArray.size = m; rw [List.size_toArray, hexK_len]
  obtain ⟨c, hc⟩ : ∃ c, 16 - m = c := ⟨_, rfl⟩
  have hcw : IntKind.i64.wrap (16 - ((m : Nat) : Int)) = ((c : Nat) : Int) := (IntWalk.i64_in _ (by omega)).trans (by omega)
  have HE := hid (show (⟨(Lib.repeatL [48] c).toArray⟩ : ByteArray) ++ rs = ⟨(hex16 u).toArray⟩ from by
    rw [hrs, rep_eq]
    apply ByteArray.ext
    rw [ByteArray.data_append]
    show (List.replicate c 48).toArray ++ (hexK m u).toArray = _
    rw [List.append_toArray, hexK_pad c m u h3, show c + m = 16 by omega]
    rfl)
  obtain ⟨z, hz⟩ : ∃ z, z = (⟨(Lib.repeatL [48] c).toArray⟩ : ByteArray) := ⟨_, rfl⟩
  have hrc := HR.out c (by omega) w1
  rw [← hz] at HE
  have hzs : z.size = c := by rw [hz]; show (Lib.repeatL [48] c).toArray.size = c; rw [List.size_toArray, rep_len]
  change Calls Tryz.prog 81 _ _ (fun e w' => e = .returned (.string ⟨(Lib.repeatL [48] c).toArray⟩) ∧ Below w1.heap.size w1 w') at hrc
  rw [← hz] at hrc
  have HRC := hid hrc
  have hsum : z.size + rs.size ≤ 9223372036854775807 := by omega
  clear h3 hrs hc HR HF hz hrc
  go_wp2_with (go_at_call 81; refine HRC.out.mono ?_; rintro e w2 ⟨rfl, hb2⟩)
  go_ret
  exact ⟨by rw [HE.out]; rfl, hb1.trans (hb2.mono hb1.size)⟩
end Go.Proofs.YtbcileppebpamaaGreatDoor
set_option linter.unusedSimpArgs false
set_option linter.unusedVariables false
namespace Go.Proofs.YtbcileppebpamaaGreatDoor
open Go Go.RowKit Go.Shelf
set_option maxRecDepth 100000
theorem wpO_val {P : Program} {o : Oper} {a : Act} {w w' : World} {K : Act → World → Prop} {Q : Exit → Act → World → Prop} (v : Value) (h : (execOp a.eval o).run P w = .ok (.value v) w') (hK : K (a.put o.dst v) w') : o.wp P a w K Q := by
  unfold Oper.wp
  rw [h]
  exact hK
theorem wpO_call {P : Program} {o : Oper} {a : Act} {w : World} {K : Act → World → Prop} {Q : Exit → Act → World → Prop} (f : FuncId) (args : Array Value) (h : (execOp a.eval o).run P w = .ok (.enter f args) w) (hc : Calls P f args w fun e w' => ∃ v, e = .returned v ∧ K (a.put o.dst v) w') : o.wp P a w K Q := by
  unfold Oper.wp
  rw [h, Oper.upon_enter]
  refine hc.mono fun e w' ⟨v, he, hK⟩ => ?_
  subst he
  exact hK
theorem exec_mv {P : Program} {ev : Operand → Value} {o : Oper} {x : Operand} {v : Value} {W : World} (ho : o.op = .move x) (hx : ev x = v) : (execOp ev o).run P W = .ok (.value v) W := by
  subst hx
  simp [execOp, ho]
theorem exec_asg {P : Program} {ev : Operand → Value} {o : Oper} {x : Operand} {v : Value} {W : World} (ho : o.op = .assign x) (hx : ev x = v) : (execOp ev o).run P W = .ok (.value v) W := by
  subst hx
  simp [execOp, ho]
theorem exec_ext {P : Program} {ev : Operand → Value} {o : Oper} {x : Operand} {i : Nat} {vs : Array Value} {v : Value} {W : World} (ho : o.op = .extract x i) (hx : ev x = .tuple vs) (hv : vs[i]? = some v) : (execOp ev o).run P W = .ok (.value v) W := by
  simp [execOp, ho, hx, Instr.extract, hv]
theorem exec_call1 {ev : Operand → Value} {o : Oper} {x : Operand} {f : FuncId} {ts : Array TypeId} {v : Value} {W : World} (ho : o.op = .call { callee := .value (.func f), args := #[x], argTypes := ts }) (hf : ev (.func f) = .func (.func f) #[] #[]) (hx : ev x = v) (hc : (callFunc f #[v]).run Tryz.prog W = .ok (.enter f #[v]) W) :
    (execOp ev o).run Tryz.prog W = .ok (.enter f #[v]) W := by
  simp [execOp, ho, hx, resolve, hf, Deferred.ofValue, invoke, hc]
theorem exec_call2 {ev : Operand → Value} {o : Oper} {x y : Operand} {f : FuncId} {ts : Array TypeId} {v u : Value} {W : World} (ho : o.op = .call { callee := .value (.func f), args := #[x, y], argTypes := ts }) (hf : ev (.func f) = .func (.func f) #[] #[]) (hx : ev x = v) (hy : ev y = u) (hc : (callFunc f #[v, u]).run Tryz.prog W = .ok (.enter f #[v, u]) W) :
    (execOp ev o).run Tryz.prog W = .ok (.enter f #[v, u]) W := by
  simp [execOp, ho, hx, hy, resolve, hf, Deferred.ofValue, invoke, hc]
theorem puts_congr {vs vs' : Nat → Value} : ∀ (ds : List Tmp) (k : Nat) (a : Act), (∀ j, k ≤ j → j < k + ds.length → vs j = vs' j) → puts vs ds k a = puts vs' ds k a
  | [], _, _, _ => rfl
  | d :: ds, k, a, h => by
    rw [puts, puts, h k (Nat.le_refl _) (by simp), puts_congr ds (k + 1) _ fun j h1 h2 => h j (by omega) (by rw [List.length_cons]; omega)]
theorem grow_vals {P : Program} {id : Nat} {Q : Exit → Act → World → Prop} {a : Act} {w : World} {l : List Oper} (n : Nat) (ds : List Tmp) (vals : List Value) (hm : P.follows .mixedOrders = true) (hB : growB l.toArray n ds a.tmps.size = true)
    (hstep : ∀ j oj, j < n → l.toArray[j]? = some oj → ∀ a' w', Below w.heap.size w w' → (∀ t, t ∉ ds → a'.eval (.tmp t) = a.eval (.tmp t)) →
      (∀ e ∈ oj.after, Region.binds .any e = true → a'.eval (.tmp (ds.getD e.on 0)) = vals.getD e.on undef) →
      ∀ (K : Act → World → Prop), (∀ w'', Below w'.heap.size w' w'' → K (a'.put (some (ds.getD j 0)) (vals.getD j undef)) w'') → oj.wp P a' w' K Q)
    (htail : ∀ w', Below w.heap.size w w' → wpList P l.toArray Q (l.drop n) (puts (fun j => vals.getD j undef) ds 0 a) w') : (Code.region id l.toArray true).wp P Q a w := by
  have hB' := hB
  simp only [growB, Bool.and_eq_true, decide_eq_true_eq] at hB'
  have hlen := hB'.1.1.1.2
  refine grow_region n ds hm hB (fun j v _ => v = vals.getD j undef) (fun _ _ _ => False) (fun _ _ _ _ _ h => h) (fun _ _ _ _ _ h => h.elim)
    (fun j oj hj ho a' w' hb he hd K hK => hstep j oj hj ho a' w' hb he hd K fun w'' hb2 => hK _ w'' hb2 rfl fun b h => h.elim) (fun vs w' hb hD _ _ => ?_)
  rw [puts_congr (vs' := fun j => vals.getD j undef) ds 0 a fun j _ h2 => hD j (by omega)]
  exact htail w' hb
end Go.Proofs.YtbcileppebpamaaGreatDoor
set_option linter.unusedSimpArgs false
set_option linter.unusedVariables false
namespace Go.Proofs.YtbcileppebpamaaGreatDoor
open Go Go.RowKit Go.Shelf
set_option maxRecDepth 100000
theorem h0_lt : h0N < 18446744073709551616 := by decide
set_option maxHeartbeats 1000000 in
theorem Hash_c (s : ByteArray) (hs : s.size ≤ 1000000) (w : World) (L : LaidW w) :
    Calls Tryz.prog 29 #[.string s] w fun e w' => e = .returned (.tuple (if s.size ≤ 1000 then #[.string ⟨(hashL s.data.toList).toArray⟩, .int .i64 0] else #[.string ⟨#[]⟩, .int .i64 5])) ∧ Below w.heap.size w w' := by
  by_cases h : s.size ≤ 1000
  · rw [if_pos h]
    have HW := hid (with_c h0N h0_lt s hs w)
    have HS := hid (fun W (hb : Below w.heap.size w W) => String_c (hashN h0N s.data.toList) (hashN_lt _ _ h0_lt) W (L.below hb))
    unfold hashL
    generalize hashN h0N s.data.toList = x at HW HS ⊢
    have hn : decide ((1000 : Int) < ((s.size : Nat) : Int)) = false := decide_eq_false (by omega)
    have hn' : ¬ (1000 : Int) < ((s.size : Nat) : Int) := by omega
    clear L
    go_enter Tryz.func29, Tryz.ntmps29
    go_wp2_with (first
      | (go_at_call 67; refine HW.out.mono ?_; rintro e w1 ⟨rfl, hb1⟩)
      | (go_at_call 61; refine (HS.out w1 hb1).mono ?_; rintro e w2 ⟨rfl, hb2⟩))
    go_ret2
    exact ⟨rfl, hb1.trans (hb2.mono hb1.size)⟩
  · rw [if_neg h]
    have hn : decide ((1000 : Int) < ((s.size : Nat) : Int)) = true := decide_eq_true (by omega)
    have hn' : (1000 : Int) < ((s.size : Nat) : Int) := by omega
    clear L
    go_enter Tryz.func29, Tryz.ntmps29
    go_wp2_with fail
    go_ret2
    exact ⟨rfl, Below.refl _ _⟩
theorem number_c (n : Int) (h0 : -9223372036854775808 ≤ n) (h1 : n ≤ 9223372036854775807) (w : World) (L : LaidW w) :
    Calls Tryz.prog 52 #[.int .i64 n] w fun e w' => e = .returned (.string ⟨(Lib.itoa n).toArray⟩) ∧ Below w.heap.size w w' := by
  have HI := hid (strconv_Itoa n h0 h1 w L.pow)
  clear L
  go_enter Tryz.func52, Tryz.ntmps52
  go_wp2_with (go_at_call 79; refine HI.out.mono ?_; rintro e w1 ⟨rfl, k, os, rfl⟩)
  go_ret
  exact ⟨rfl, Lib.below_grow _ w (Nat.le_refl _) k os⟩
/-- The text of a box. -/
def boxL (p v : Int) (s : List UInt8) : List UInt8 := Lib.itoa p ++ ([58] ++ (Lib.itoa v ++ ([58] ++ s)))
def sealN (p v : Int) (s : List UInt8) : Nat := hashN h0N (boxL p v s)
theorem exec_fldB {ev : Operand → Value} {o : Oper} {x : Operand} {b k : Nat} {W : World} (ho : o.op = .fieldAddr 27 x k) (hx : ev x = .pointer (some ⟨b, 0, none⟩)) (hk : k = 0 ∨ k = 1 ∨ k = 2) : (execOp ev o).run Tryz.prog W = .ok (.value (.pointer (some ⟨b, k, none⟩))) W := by
  rcases hk with rfl | rfl | rfl <;> simp [execOp, ho, hx] <;> go_simp
theorem exec_fldB0 {ev : Operand → Value} {o : Oper} {x : Operand} {b : Nat} {W : World} (ho : o.op = .fieldAddr 27 x 0) (hx : ev x = .pointer (some ⟨b, 0, none⟩)) : (execOp ev o).run Tryz.prog W = .ok (.value (.pointer (some ⟨b, 0, none⟩))) W := exec_fldB ho hx (by simp)
theorem exec_fldB1 {ev : Operand → Value} {o : Oper} {x : Operand} {b : Nat} {W : World} (ho : o.op = .fieldAddr 27 x 1) (hx : ev x = .pointer (some ⟨b, 0, none⟩)) : (execOp ev o).run Tryz.prog W = .ok (.value (.pointer (some ⟨b, 1, none⟩))) W := exec_fldB ho hx (by simp)
theorem exec_fldB2 {ev : Operand → Value} {o : Oper} {x : Operand} {b : Nat} {W : World} (ho : o.op = .fieldAddr 27 x 2) (hx : ev x = .pointer (some ⟨b, 0, none⟩)) : (execOp ev o).run Tryz.prog W = .ok (.value (.pointer (some ⟨b, 2, none⟩))) W := exec_fldB ho hx (by simp)
theorem exec_ldcellB {ev : Operand → Value} {o : Oper} {x : Operand} {p : Addr} {W : World} {v : Value} (ho : o.op = .load 3 x) (hx : ev x = .pointer (some p)) (hg : W.cell? p = some v) : (execOp ev o).run Tryz.prog W = .ok (.value v) W := by
  simp [execOp, ho, hx]
  go_simp
theorem exec_ldstrB {ev : Operand → Value} {o : Oper} {x : Operand} {p : Addr} {W : World} {v : Value} (ho : o.op = .load 9 x) (hx : ev x = .pointer (some p)) (hg : W.cell? p = some v) : (execOp ev o).run Tryz.prog W = .ok (.value v) W := by
  simp [execOp, ho, hx]
  go_simp
set_option maxHeartbeats 2000000 in
theorem seal_c (p v : Int) (hp : -9223372036854775808 ≤ p ∧ p ≤ 9223372036854775807) (hv : -9223372036854775808 ≤ v ∧ v ≤ 9223372036854775807) (s : ByteArray) (hs : s.size ≤ 1000000) (w : World) (L : LaidW w) :
    Calls Tryz.prog 41 #[.agg #[.int .i64 p, .int .i64 v, .string s]] w fun e w' => e = .returned (.int .u64 ((sealN p v s.data.toList : Nat) : Int)) ∧ Below w.heap.size w w' := by
  have hx := heap_alloc_new w (.cells #[.int .i64 p, .int .i64 v, .string s] 27)
  have hb : Below w.heap.size w (w.alloc (.cells #[.int .i64 p, .int .i64 v, .string s] 27)) := (Below.refl _ _).alloc (Nat.le_refl _) _
  have k0 := cell_of_row _ w.heap.size 0 _ _ _ hx
  have k1 := cell_of_row _ w.heap.size 1 _ _ _ hx
  have k2 := cell_of_row _ w.heap.size 2 _ _ _ hx
  have hlt := heap_lt hx
  have hLa := L.below hb
  obtain ⟨x1, hx1⟩ : ∃ x1, hashN h0N (Lib.itoa p) = x1 := ⟨_, rfl⟩
  obtain ⟨x2, hx2⟩ : ∃ x2, hashN x1 [58] = x2 := ⟨_, rfl⟩
  obtain ⟨x3, hx3⟩ : ∃ x3, hashN x2 (Lib.itoa v) = x3 := ⟨_, rfl⟩
  obtain ⟨x4, hx4⟩ : ∃ x4, hashN x3 [58] = x4 := ⟨_, rfl⟩
  obtain ⟨x5, hx5⟩ : ∃ x5, hashN x4 s.data.toList = x5 := ⟨_, rfl⟩
  have l1 : x1 < 18446744073709551616 := hx1 ▸ hashN_lt _ _ h0_lt
  have l2 : x2 < 18446744073709551616 := hx2 ▸ hashN_lt _ _ l1
  have l3 : x3 < 18446744073709551616 := hx3 ▸ hashN_lt _ _ l2
  have l4 : x4 < 18446744073709551616 := hx4 ▸ hashN_lt _ _ l3
  have e5 : sealN p v s.data.toList = x5 := by
    unfold sealN boxL
    rw [hashN_app, hx1, hashN_app, hx2, hashN_app, hx3, hashN_app, hx4, hx5]
  have itl : ∀ n : Int, -9223372036854775808 ≤ n ∧ n ≤ 9223372036854775807 → (⟨(Lib.itoa n).toArray⟩ : ByteArray).size ≤ 1000000 := fun n hn => by
    show (Lib.itoa n).toArray.size ≤ 1000000
    rw [List.size_toArray]
    have := Lib.itoa_length_le n hn.1 hn.2
    omega
  have HC1 := hid (fun W => show Calls Tryz.prog 67 #[.int .u64 14695981039346656037, .string ⟨(Lib.itoa p).toArray⟩] W fun e w' => e = .returned (.int .u64 ((x1 : Nat) : Int)) ∧ Below W.heap.size W w' from hx1 ▸ with_c h0N h0_lt ⟨(Lib.itoa p).toArray⟩ (itl p hp) W)
  have HC2 := hid (fun W => show Calls Tryz.prog 67 #[.int .u64 ((x1 : Nat) : Int), .string ⟨#[58]⟩] W fun e w' => e = .returned (.int .u64 ((x2 : Nat) : Int)) ∧ Below W.heap.size W w' from hx2 ▸ with_c x1 l1 ⟨#[58]⟩ (by decide) W)
  have HC3 := hid (fun W => show Calls Tryz.prog 67 #[.int .u64 ((x2 : Nat) : Int), .string ⟨(Lib.itoa v).toArray⟩] W fun e w' => e = .returned (.int .u64 ((x3 : Nat) : Int)) ∧ Below W.heap.size W w' from hx3 ▸ with_c x2 l2 ⟨(Lib.itoa v).toArray⟩ (itl v hv) W)
  have HC4 := hid (fun W => show Calls Tryz.prog 67 #[.int .u64 ((x3 : Nat) : Int), .string ⟨#[58]⟩] W fun e w' => e = .returned (.int .u64 ((x4 : Nat) : Int)) ∧ Below W.heap.size W w' from hx4 ▸ with_c x3 l3 ⟨#[58]⟩ (by decide) W)
  have HC5 := hid (fun W => show Calls Tryz.prog 67 #[.int .u64 ((x4 : Nat) : Int), .string s] W fun e w' => e = .returned (.int .u64 ((x5 : Nat) : Int)) ∧ Below W.heap.size W w' from hx5 ▸ with_c x4 l4 s hs W)
  rw [e5]
  clear hx1 hx2 hx3 hx4 hx5 e5 l1 l2 l3 l4 itl
  obtain ⟨g, hg⟩ : ∃ g, w.heap.size = g := ⟨_, rfl⟩
  rw [hg] at k0 k1 k2 hb hlt hx
  go_enter Tryz.func41, Tryz.ntmps41
  go_upto_region 1 with fail
  generalize w.alloc (.cells #[.int .i64 p, .int .i64 v, .string s] 27) = wa at k0 k1 k2 hb hlt hLa hx ⊢
  have HN1 := hid (fun W (hW : Below wa.heap.size wa W) => number_c p hp.1 hp.2 W (hLa.below hW))
  have HN2 := hid (fun W (hW : Below wa.heap.size wa W) => number_c v hv.1 hv.2 W (hLa.below hW))
  have hcell0 : ∀ W, Below wa.heap.size wa W → W.cell? ⟨g, 0, none⟩ = some (.int .i64 p) := fun W hW => (hW.cell (p := ⟨g, 0, none⟩) hlt).trans k0
  have hcell1 : ∀ W, Below wa.heap.size wa W → W.cell? ⟨g, 1, none⟩ = some (.int .i64 v) := fun W hW => (hW.cell (p := ⟨g, 1, none⟩) hlt).trans k1
  have hcell2 : ∀ W, Below wa.heap.size wa W → W.cell? ⟨g, 2, none⟩ = some (.string s) := fun W hW => (hW.cell (p := ⟨g, 2, none⟩) hlt).trans k2
  refine grow_vals 13 [3, 4, 5, 6, 7, 8, 9, 10, 11, 12, 13, 14, 15] [(.pointer (some ⟨g, 0, none⟩)), (.int .i64 p), (.string ⟨(Lib.itoa p).toArray⟩), (.int .u64 ((x1 : Nat) : Int)), (.int .u64 ((x2 : Nat) : Int)), (.pointer (some ⟨g, 1, none⟩)), (.int .i64 v), (.string ⟨(Lib.itoa v).toArray⟩), (.int .u64 ((x3 : Nat) : Int)), (.int .u64 ((x4 : Nat) : Int)), (.pointer (some ⟨g, 2, none⟩)), (.string s), (.int .u64 ((x5 : Nat) : Int))] (by kernel_rfl) (by kernel_rfl) ?_ ?_
  · intro jq oj hjq hoj a' w' hb' he hdep Kq hKq
    have hjq' : jq = 0 ∨ jq = 1 ∨ jq = 2 ∨ jq = 3 ∨ jq = 4 ∨ jq = 5 ∨ jq = 6 ∨ jq = 7 ∨ jq = 8 ∨ jq = 9 ∨ jq = 10 ∨ jq = 11 ∨ jq = 12 := by omega
    rcases hjq' with rfl | rfl | rfl | rfl | rfl | rfl | rfl | rfl | rfl | rfl | rfl | rfl | rfl
    · obtain rfl := Option.some.inj hoj
      exact wpO_val _ (exec_fldB0 rfl ((he 1 (by decide)).trans rfl : a'.eval (.tmp 1) = .pointer (some ⟨g, 0, none⟩))) (hKq _ (Below.refl _ _))
    · obtain rfl := Option.some.inj hoj
      exact wpO_val _ (exec_ldcellB rfl (hdep ⟨0, .data⟩ (by simp) rfl : a'.eval (.tmp 3) = (.pointer (some ⟨g, 0, none⟩))) (hcell0 _ hb')) (hKq _ (Below.refl _ _))
    · obtain rfl := Option.some.inj hoj
      exact wpO_call _ _ (exec_call1 rfl rfl (hdep ⟨1, .data⟩ (by simp) rfl : a'.eval (.tmp 4) = (.int .i64 p)) (by go_simp)) ((HN1.out w' hb').mono fun e w'' ⟨h1, h2⟩ => ⟨_, h1, hKq w'' h2⟩)
    · obtain rfl := Option.some.inj hoj
      exact wpO_call _ _ (exec_call2 rfl rfl rfl (hdep ⟨2, .data⟩ (by simp) rfl : a'.eval (.tmp 5) = (.string ⟨(Lib.itoa p).toArray⟩)) (by go_simp)) ((HC1.out w').mono fun e w'' ⟨h1, h2⟩ => ⟨_, h1, hKq w'' h2⟩)
    · obtain rfl := Option.some.inj hoj
      exact wpO_call _ _ (exec_call2 rfl rfl (hdep ⟨3, .data⟩ (by simp) rfl : a'.eval (.tmp 6) = (.int .u64 ((x1 : Nat) : Int))) rfl (by go_simp)) ((HC2.out w').mono fun e w'' ⟨h1, h2⟩ => ⟨_, h1, hKq w'' h2⟩)
    · obtain rfl := Option.some.inj hoj
      exact wpO_val _ (exec_fldB1 rfl ((he 1 (by decide)).trans rfl : a'.eval (.tmp 1) = .pointer (some ⟨g, 0, none⟩))) (hKq _ (Below.refl _ _))
    · obtain rfl := Option.some.inj hoj
      exact wpO_val _ (exec_ldcellB rfl (hdep ⟨5, .data⟩ (by simp) rfl : a'.eval (.tmp 8) = (.pointer (some ⟨g, 1, none⟩))) (hcell1 _ hb')) (hKq _ (Below.refl _ _))
    · obtain rfl := Option.some.inj hoj
      exact wpO_call _ _ (exec_call1 rfl rfl (hdep ⟨6, .data⟩ (by simp) rfl : a'.eval (.tmp 9) = (.int .i64 v)) (by go_simp)) ((HN2.out w' hb').mono fun e w'' ⟨h1, h2⟩ => ⟨_, h1, hKq w'' h2⟩)
    · obtain rfl := Option.some.inj hoj
      exact wpO_call _ _ (exec_call2 rfl rfl (hdep ⟨4, .data⟩ (by simp) rfl : a'.eval (.tmp 7) = (.int .u64 ((x2 : Nat) : Int))) (hdep ⟨7, .data⟩ (by simp) rfl : a'.eval (.tmp 10) = (.string ⟨(Lib.itoa v).toArray⟩)) (by go_simp)) ((HC3.out w').mono fun e w'' ⟨h1, h2⟩ => ⟨_, h1, hKq w'' h2⟩)
    · obtain rfl := Option.some.inj hoj
      exact wpO_call _ _ (exec_call2 rfl rfl (hdep ⟨8, .data⟩ (by simp) rfl : a'.eval (.tmp 11) = (.int .u64 ((x3 : Nat) : Int))) rfl (by go_simp)) ((HC4.out w').mono fun e w'' ⟨h1, h2⟩ => ⟨_, h1, hKq w'' h2⟩)
    · obtain rfl := Option.some.inj hoj
      exact wpO_val _ (exec_fldB2 rfl ((he 1 (by decide)).trans rfl : a'.eval (.tmp 1) = .pointer (some ⟨g, 0, none⟩))) (hKq _ (Below.refl _ _))
    · obtain rfl := Option.some.inj hoj
      exact wpO_val _ (exec_ldstrB rfl (hdep ⟨10, .data⟩ (by simp) rfl : a'.eval (.tmp 13) = (.pointer (some ⟨g, 2, none⟩))) (hcell2 _ hb')) (hKq _ (Below.refl _ _))
    · obtain rfl := Option.some.inj hoj
      exact wpO_call _ _ (exec_call2 rfl rfl (hdep ⟨9, .data⟩ (by simp) rfl : a'.eval (.tmp 12) = (.int .u64 ((x4 : Nat) : Int))) (hdep ⟨11, .data⟩ (by simp) rfl : a'.eval (.tmp 14) = (.string s)) (by go_simp)) ((HC5.out w').mono fun e w'' ⟨h1, h2⟩ => ⟨_, h1, hKq w'' h2⟩)
  · intro w6 hb6
    simp only [puts, Act.put, List.setIfInBounds_toArray, List.set_cons_zero, List.set_cons_succ, List.drop_succ_cons, List.drop_zero, Nat.zero_add, Nat.reduceAdd, List.getD_cons_zero, List.getD_cons_succ]
    go_wp2_with fail
    go_ret
    exact ⟨rfl, by rw [hg]; exact hb.trans (hb6.mono (Nat.le_of_lt hlt))⟩
end Go.Proofs.YtbcileppebpamaaGreatDoor
set_option linter.unusedSimpArgs false
set_option linter.unusedVariables false
namespace Go.Proofs.YtbcileppebpamaaGreatDoor
open Go Go.RowKit Go.Shelf
set_option maxRecDepth 100000
theorem exec_ldB {ev : Operand → Value} {o : Oper} {x : Operand} {g : Nat} {W : World} {p v : Int} {s : ByteArray} (ho : o.op = .load 27 x) (hx : ev x = .pointer (some ⟨g, 0, none⟩)) (hg : W.heap[g]? = some (.cells #[.int .i64 p, .int .i64 v, .string s] 27 (0, 0))) :
    (execOp ev o).run Tryz.prog W = .ok (.value (.agg #[.int .i64 p, .int .i64 v, .string s])) W := by
  have h := run_loadVar_row (P := Tryz.prog) W g 27 27 #[.int .i64 p, .int .i64 v, .string s] (0, 0) _ hg Tryz.underlying27 rfl (by kernel_rfl)
  simp only [execOp, ho, hx, Instr.loadAt, Instr.sureAddr, Sem.run_bind, Sem.run_pure, Result.andThen_ok, h]
set_option maxHeartbeats 2000000 in
theorem Seal_c (p v : Int) (hp : -9223372036854775808 ≤ p ∧ p ≤ 9223372036854775807) (hv : -9223372036854775808 ≤ v ∧ v ≤ 9223372036854775807) (s : ByteArray) (hs : s.size ≤ 1000000) (w : World) (L : LaidW w) :
    Calls Tryz.prog 31 #[.agg #[.int .i64 p, .int .i64 v, .string s]] w fun e w' => e = .returned (.tuple (if isBoxL p v s.data.toList = true then #[.string ⟨(hashL (boxL p v s.data.toList)).toArray⟩, .int .i64 0] else #[.string ⟨#[]⟩, .int .i64 2])) ∧ Below w.heap.size w w' := by
  have hx := heap_alloc_new w (.cells #[.int .i64 p, .int .i64 v, .string s] 27)
  have hb : Below w.heap.size w (w.alloc (.cells #[.int .i64 p, .int .i64 v, .string s] 27)) := (Below.refl _ _).alloc (Nat.le_refl _) _
  have hlt := heap_lt hx
  have HIB := hid (fun W => isBox_c p v s hs W)
  have HSE := hid (fun W (hW : LaidW W) => seal_c p v hp hv s hs W hW)
  have HST := hid (fun W (hW : LaidW W) => String_c (sealN p v s.data.toList) (hashN_lt _ _ h0_lt) W hW)
  have hre : hashL (boxL p v s.data.toList) = hex16 (sealN p v s.data.toList) := rfl
  rw [hre]
  generalize sealN p v s.data.toList = x at HSE HST ⊢
  generalize isBoxL p v s.data.toList = bb at HIB ⊢
  have hLa := L.below hb
  obtain ⟨g, hg⟩ : ∃ g, w.heap.size = g := ⟨_, rfl⟩
  rw [hg] at hb hlt hx
  clear L hre
  cases bb with
  | false =>
    go_enter Tryz.func31, Tryz.ntmps31
    go_upto_region 1 with fail
    generalize w.alloc (.cells #[.int .i64 p, .int .i64 v, .string s] 27) = wa at hb hlt hLa hx ⊢
    have HX := hid hx
    have HB := hid hb
    have k0 := cell_of_row wa g 0 _ _ _ hx
    have k1 := cell_of_row wa g 1 _ _ _ hx
    have k2 := cell_of_row wa g 2 _ _ _ hx
    clear hx hb hLa
    go_wp2_with (go_at_call 70; refine (HIB.out _).mono ?_; rintro e w1 ⟨rfl, hb1⟩)
    go_ret2
    exact ⟨rfl, by first | exact HB.out.trans (hb1.mono (Nat.le_of_lt hlt)) | (rw [hg]; exact HB.out.trans (hb1.mono (Nat.le_of_lt hlt)))⟩
  | true =>
    go_enter Tryz.func31, Tryz.ntmps31
    go_upto_region 1 with fail
    generalize w.alloc (.cells #[.int .i64 p, .int .i64 v, .string s] 27) = wa at hb hlt hLa hx ⊢
    have HX := hid hx
    have HB := hid hb
    have k0 := cell_of_row wa g 0 _ _ _ hx
    have k1 := cell_of_row wa g 1 _ _ _ hx
    have k2 := cell_of_row wa g 2 _ _ _ hx
    have HL := hid hLa
    clear hx hb hLa
    go_wp2_with (first
      | (go_at_call 70; refine (HIB.out _).mono ?_; rintro e w1 ⟨rfl, hb1⟩; have HX1 := hid (heap_below hb1 HX.out hlt); have HB1 := hid (HB.out.trans (hb1.mono (Nat.le_of_lt hlt))); have HL1 := hid (HL.out.below hb1); have q0 := cell_of_row w1 g 0 _ _ _ HX1.out; have q1 := cell_of_row w1 g 1 _ _ _ HX1.out; have q2 := cell_of_row w1 g 2 _ _ _ HX1.out)
      | (go_at_call 41; refine (HSE.out _ HL1.out).mono ?_; rintro e w2 ⟨rfl, hb2⟩; have HB2 := hid (HB1.out.trans (hb2.mono (Nat.le_of_lt (heap_lt HX1.out)))); have HL2 := hid (HL1.out.below hb2); have hg2 : g ≤ w2.heap.size := Nat.le_trans (Nat.le_of_lt (heap_lt HX1.out)) hb2.size)
      | (go_at_call 61; refine (HST.out _ HL2.out).mono ?_; rintro e w3 ⟨rfl, hb3⟩))
    go_ret2
    exact ⟨rfl, by first | exact HB2.out.trans (hb3.mono hg2) | (rw [hg]; exact HB2.out.trans (hb3.mono hg2))⟩
/-- Shares are added. -/
def addO (b : Nat) : List Int → Nat → Option Nat
  | [], n => some n
  | s :: l, n => if 0 ≤ s ∧ s ≤ ((b : Nat) : Int) - 1 then addO b l ((n + s.toNat) % b) else none
def addV : Option Nat → Array Value
  | some n => #[.int .i64 ((n : Nat) : Int), .bool true]
  | none => #[.int .i64 0, .bool false]
theorem tmod_nat (m b : Nat) : Int.tmod ((m : Nat) : Int) ((b : Nat) : Int) = ((m % b : Nat) : Int) := by rw [Int.tmod_eq_emod_of_nonneg (by omega)]; push_cast; try rfl
theorem ReadsA.at' {w : World} {p : Option Addr} {n c : Nat} {xs : List Int} (h : ReadsA w (.slice p n c) xs) {i : Nat} (hi : i < xs.length) : ∃ b o, p = some ⟨b, o, none⟩ ∧ b < w.heap.size ∧ w.cell? ⟨b, o + i, none⟩ = some (.int .i64 xs[i]) := by
  rcases h with ⟨rfl, _⟩ | ⟨a, c', h1, h2, h3⟩
  · simp at hi
  · injection h1 with e1 _ _
    obtain ⟨g, o, rfl, h4⟩ := ReadsA.plain (n := xs.length) (by omega) h3 rfl
    exact ⟨g, o, e1, h2 (by omega), h4 i hi⟩
set_option maxHeartbeats 2000000 in
theorem add_c (b : Nat) (hb : 1 ≤ b ∧ b ≤ 1000000000) (xs : List Int) (v : Value) (w : World) (hr : ReadsA w v xs) (hl : xs.length ≤ 1000000) :
    Calls Tryz.prog 63 #[.int .i64 ((b : Nat) : Int), v] w fun e w' => e = .returned (.tuple (addV (addO b xs 0))) ∧ Below w.heap.size w w' := by
  obtain ⟨p, c, rfl⟩ := hr.form
  obtain ⟨m, hm⟩ : ∃ m, xs.length = m := ⟨_, rfl⟩
  have HM := hid hm
  rw [hm] at hl hr ⊢
  have HR := hid hr
  obtain ⟨r, hrr⟩ : ∃ r, addO b xs 0 = r := ⟨_, rfl⟩
  rw [hrr]
  have HRR := hid hrr
  clear hm hr hrr
  have hb1 : IntKind.i64.wrap (((b : Nat) : Int) - 1) = ((b : Nat) : Int) - 1 := IntWalk.i64_in _ (by omega)
  go_enter Tryz.func63, Tryz.ntmps63
  go_wp2_with fail
  go_loopw [4, 10] (fun nx ix wr => ∃ (i n : Nat), i ≤ m ∧ nx = .int .i64 ((n : Nat) : Int) ∧ n < b ∧ ix = .int .i64 ((i : Nat) : Int) ∧ addO b (xs.drop i) n = r ∧ Below w.heap.size w wr) (fun _ ix _ => m - (intOf ix).toNat)
  case atStart => exact ⟨0, 0, by omega, rfl, by omega, rfl, by rw [List.drop_zero]; exact HRR.out, Below.refl _ _⟩
  case round =>
    obtain ⟨i, n, hi, rfl, hn, rfl, hA, hB⟩ := hrel
    have HB := hid hB
    clear hB
    rcases Nat.lt_or_ge i m with hlt | hge
    · have hin : decide (((i : Nat) : Int) < ((m : Nat) : Int)) = true := decide_eq_true (by omega)
      have hin' : ((i : Nat) : Int) < ((m : Nat) : Int) := by omega
      have hi0 : (0 : Int) ≤ ((i : Nat) : Int) := by omega
      have hiw : IntKind.i64.wrap (((i : Nat) : Int) + 1) = ((i + 1 : Nat) : Int) := (IntWalk.i64_in _ (by omega)).trans (by omega)
      have hiL : i < xs.length := by rw [HM.out]; exact hlt
      obtain ⟨bk, o, rfl, hbk, hc⟩ := HR.out.at' hiL
      have hcr : wr.cell? ⟨bk, o + i, none⟩ = some (.int .i64 xs[i]) := (HB.out.cell (p := ⟨bk, o + i, none⟩) hbk).trans hc
      rw [List.drop_eq_getElem_cons hiL, addO] at hA
      obtain ⟨x, hx⟩ : ∃ x, xs[i] = x := ⟨_, rfl⟩
      rw [hx] at hA hcr
      have hwi := within_c x 0 (((b : Nat) : Int) - 1)
      clear hc hx hbk
      by_cases hin2 : 0 ≤ x ∧ x ≤ ((b : Nat) : Int) - 1
      · rw [if_pos hin2] at hA
        have hbv : (decide (0 ≤ x) && decide (x ≤ ((b : Nat) : Int) - 1)) = true := by simp; omega
        simp only [hbv] at hwi
        obtain ⟨y, rfl⟩ : ∃ y : Nat, x = ((y : Nat) : Int) := ⟨x.toNat, by omega⟩
        rw [Int.toNat_natCast] at hA
        obtain ⟨z, hz⟩ : ∃ z, n + y = z := ⟨_, rfl⟩
        have hzw : IntKind.i64.wrap (((n : Nat) : Int) + ((y : Nat) : Int)) = ((z : Nat) : Int) := (IntWalk.i64_in _ (by omega)).trans (by omega)
        rw [hz] at hA
        have htm := tmod_nat z b
        have hzb : z % b < b := Nat.mod_lt _ (by omega)
        have hb0 : (((b : Nat) : Int) == 0) = false := by simp; omega
        have hb0' : ((b : Nat) : Int) ≠ 0 := by omega
        have hrw : IntKind.i64.wrap ((z % b : Nat) : Int) = ((z % b : Nat) : Int) := IntWalk.i64_in _ (by omega)
        have HW := hid hwi
        have HA := hid hA
        clear hwi hA hbv hin2
        go_wp2_with (go_at_call 36; refine (HW.out _).mono ?_; rintro e w1 ⟨rfl, rfl⟩)
        go_roundw
        case rel => exact ⟨i + 1, z % b, by omega, by rw [Int.natCast_emod], hzb, rfl, HA.out, HB.out⟩
        case measure => simp only [intOf, Int.toNat_natCast]; omega
      · rw [if_neg hin2] at hA
        have hbv : (decide (0 ≤ x) && decide (x ≤ ((b : Nat) : Int) - 1)) = false := by
          rw [Bool.eq_false_iff]
          simp
          omega
        simp only [hbv] at hwi
        have HW := hid hwi
        clear hwi hbv hin2
        subst hA
        go_wp2_with (go_at_call 36; refine (HW.out _).mono ?_; rintro e w1 ⟨rfl, rfl⟩)
        go_ret2
        exact ⟨rfl, HB.out⟩
    · obtain rfl : i = m := by omega
      have hin : decide (((i : Nat) : Int) < ((i : Nat) : Int)) = false := decide_eq_false (by omega)
      rw [List.drop_of_length_le (by have := HM.out; omega), addO] at hA
      subst hA
      go_wp2_with fail
      go_ret2
      exact ⟨rfl, HB.out⟩
end Go.Proofs.YtbcileppebpamaaGreatDoor
set_option linter.unusedSimpArgs false
set_option linter.unusedVariables false
namespace Go.Proofs.YtbcileppebpamaaGreatDoor
open Go Go.RowKit Go.Shelf
set_option maxRecDepth 100000
theorem rin_c (n a b : Int) (w : World) : Calls Tryz.prog 32 #[.int .i64 n, .int .i64 a, .int .i64 b] w fun e w' => e = .returned (.bool (decide (a ≤ n) && decide (n ≤ b))) ∧ w = w' := by
  by_cases h1 : a ≤ n
  · have d1 : decide (a ≤ n) = true := decide_eq_true h1
    go_enter Tryz.func32, Tryz.ntmps32
    go_wp2_with fail
    go_ret
    exact ⟨by simp [d1], rfl⟩
  · have d1 : decide (a ≤ n) = false := decide_eq_false h1
    go_enter Tryz.func32, Tryz.ntmps32
    go_wp2_with fail
    go_ret
    exact ⟨by simp [d1], rfl⟩
def inR (n a b : Int) : Bool := decide (a ≤ n) && decide (n ≤ b)
/-- The value of shares, or the error. -/
def combR (b : Int) (xs : List Int) : Int × Int :=
  if inR b 1 1000000000 = false then (0, 3) else if 30 < xs.length then (0, 5) else match addO b.toNat xs 0 with | some n => (((n : Nat) : Int), 0) | none => (0, 2)
theorem inR_iff (n a b : Int) : inR n a b = true ↔ a ≤ n ∧ n ≤ b := by simp [inR]
set_option maxHeartbeats 2000000 in
theorem Combine_c (b : Int) (xs : List Int) (v : Value) (w : World) (hr : ReadsA w v xs) (hl : xs.length ≤ 1000000) :
    Calls Tryz.prog 68 #[.int .i64 b, v] w fun e w' => e = .returned (.tuple #[.int .i64 (combR b xs).1, .int .i64 (combR b xs).2]) ∧ Below w.heap.size w w' := by
  have hwi := within_c b 1 1000000000 w
  obtain ⟨p, c, rfl⟩ := hr.form
  unfold combR
  cases hb : inR b 1 1000000000 with
  | false =>
    rw [show (decide ((1 : Int) ≤ b) && decide (b ≤ 1000000000)) = false from hb] at hwi
    have HW := hid hwi
    clear hwi hr
    go_enter Tryz.func68, Tryz.ntmps68
    go_wp2_with (go_at_call 36; refine HW.out.mono ?_; rintro e w1 ⟨rfl, rfl⟩)
    go_ret2
    exact ⟨rfl, Below.refl _ _⟩
  | true =>
    rw [show (decide ((1 : Int) ≤ b) && decide (b ≤ 1000000000)) = true from hb] at hwi
    have HW := hid hwi
    obtain ⟨h1, h2⟩ := (inR_iff _ _ _).1 hb
    obtain ⟨n, rfl⟩ : ∃ n : Nat, b = ((n : Nat) : Int) := ⟨b.toNat, by omega⟩
    rw [Int.toNat_natCast]
    have HA := hid (add_c n (by omega) xs _ w hr hl)
    obtain ⟨m, hm⟩ : ∃ m, xs.length = m := ⟨_, rfl⟩
    rw [hm] at HA ⊢
    rw [if_neg (by simp)]
    by_cases h30 : 30 < m
    · rw [if_pos h30]
      have d1 : decide ((30 : Int) < ((m : Nat) : Int)) = true := decide_eq_true (by omega)
      have d2 : (30 : Int) < ((m : Nat) : Int) := by omega
      clear hwi hr hb h1 h2 hm hl
      go_enter Tryz.func68, Tryz.ntmps68
      go_wp2_with (go_at_call 36; refine HW.out.mono ?_; rintro e w1 ⟨rfl, rfl⟩)
      go_ret2
      exact ⟨rfl, Below.refl _ _⟩
    · rw [if_neg h30]
      have d1 : decide ((30 : Int) < ((m : Nat) : Int)) = false := decide_eq_false (by omega)
      have d2 : ¬ (30 : Int) < ((m : Nat) : Int) := by omega
      clear hwi hr hb h1 h2 hm hl
      cases hadd : addO n xs 0 with
      | none =>
        rw [hadd] at HA
        simp only [addV] at HA
        clear hadd
        go_enter Tryz.func68, Tryz.ntmps68
        go_wp2_with (first
          | (go_at_call 36; refine HW.out.mono ?_; rintro e w1 ⟨rfl, rfl⟩)
          | (go_at_call 63; refine HA.out.mono ?_; rintro e w2 ⟨rfl, hb2⟩))
        go_ret2
        exact ⟨rfl, hb2⟩
      | some z =>
        rw [hadd] at HA
        simp only [addV] at HA
        clear hadd
        go_enter Tryz.func68, Tryz.ntmps68
        go_wp2_with (first
          | (go_at_call 36; refine HW.out.mono ?_; rintro e w1 ⟨rfl, rfl⟩)
          | (go_at_call 63; refine HA.out.mono ?_; rintro e w2 ⟨rfl, hb2⟩))
        go_ret2
        exact ⟨rfl, hb2⟩
theorem clone_c (xs : List Int) (v : Value) (w : World) (hr : ReadsA w v xs) (hl : xs.length ≤ 1000000) :
    Calls Tryz.prog 69 #[v] w fun e w' => ∃ v', e = .returned v' ∧ Ints w' w.heap.size v' xs ∧ Below w.heap.size w w' := by
  rcases hr with ⟨rfl, rfl⟩ | ⟨a, c, rfl, ha, hc⟩
  · exact (slices_Clone_int_nil 0 0 w).mono fun e w' ⟨h1, h2⟩ => ⟨_, h1, ⟨rfl, .inl ⟨rfl, rfl⟩⟩, h2 ▸ Below.refl _ _⟩
  · by_cases h0 : xs.length = 0
    · have hx : xs = [] := List.eq_nil_of_length_eq_zero h0
      subst hx
      exact (slices_Clone_int_zero a c w).mono fun e w' ⟨v', h1, h2, _, h3⟩ => ⟨v', h1, h2, h3⟩
    · obtain ⟨g, o, rfl, h4⟩ := ReadsA.plain (n := xs.length) (by omega) hc rfl
      refine (slices_Clone_int g o xs.length c xs w (Nat.le_refl _) (by omega) fun j hj => ?_).mono fun e w' ⟨v', h1, h2, _, h3⟩ => ⟨v', h1, ?_, h3⟩
      · rw [h4 j hj, List.getD_eq_getElem?_getD, List.getElem?_eq_getElem hj]
        rfl
      · rw [List.take_length] at h2
        exact h2
end Go.Proofs.YtbcileppebpamaaGreatDoor
