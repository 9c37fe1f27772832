/- Walks of package witness: salts, hashes as texts, digits of sixteen. -/
import Derived.Test.YtbcileppebpamaaGreatDoorWB
import Derived.Test.YtbcileppebpamaaGreatDoorWL
set_option linter.unusedSimpArgs false
set_option linter.unusedVariables false
namespace Go.Proofs.YtbcileppebpamaaGreatDoor
open Go Go.RowKit Go.Shelf
set_option maxRecDepth 100000

theorem dropWhile_nil {α : Type} (p : α → Bool) : ∀ (l : List α), List.dropWhile p l = [] ↔ ∀ x ∈ l, p x = true
  | [] => by simp
  | a :: l => by
    rw [List.dropWhile_cons]
    by_cases h : p a = true
    · rw [if_pos h, dropWhile_nil p l]
      simp [h]
    · rw [if_neg h]
      simp [h]
theorem dropWhile_head {α : Type} (p : α → Bool) : ∀ (l : List α) (x : α) (xs : List α), List.dropWhile p l = x :: xs → p x = false
  | [], x, xs, h => by simp at h
  | a :: l, x, xs, h => by
    rw [List.dropWhile_cons] at h
    by_cases hp : p a = true
    · rw [if_pos hp] at h
      exact dropWhile_head p l x xs h
    · rw [if_neg hp] at h
      injection h with h1 _
      subst h1
      simpa using hp
theorem trim_nil (l cs : List UInt8) : Lib.trimS l cs = [] ↔ ∀ c ∈ l, cs.contains c = true := by
  unfold Lib.trimS Lib.trimLeftS Lib.trimRightS
  constructor
  · intro h
    rw [dropWhile_nil] at h
    cases hd : List.dropWhile (fun x => cs.contains x) l.reverse with
    | nil =>
      rw [dropWhile_nil] at hd
      exact fun c hc => hd c (List.mem_reverse.2 hc)
    | cons x xs =>
      have h1 := h x (by rw [hd]; simp)
      have h2 := dropWhile_head (fun x => cs.contains x) _ x xs hd
      rw [h1] at h2
      cases h2
  · intro h
    have h1 : List.dropWhile (fun x => cs.contains x) l.reverse = [] := (dropWhile_nil _ _).2 fun c hc => h c (List.mem_reverse.1 hc)
    rw [h1]
    rfl
def saltCs : List UInt8 := [97, 98, 99, 100, 101, 102, 103, 104, 105, 106, 107, 108, 109, 110, 111, 112, 113, 114, 115, 116, 117, 118, 119, 120, 121, 122, 48, 49, 50, 51, 52, 53, 54, 55, 56, 57]
def hexCs : List UInt8 := [48, 49, 50, 51, 52, 53, 54, 55, 56, 57, 97, 98, 99, 100, 101, 102]
theorem salt_cs (c : UInt8) : saltCs.contains c = saltB c := by
  have : ∀ n : Fin 256, saltCs.contains (UInt8.ofNat n.1) = saltB (UInt8.ofNat n.1) := by decide +kernel
  have h := this ⟨c.toNat, c.toNat_lt⟩
  simpa using h
theorem hex_cs (c : UInt8) : hexCs.contains c = hexB c := by
  have : ∀ n : Fin 256, hexCs.contains (UInt8.ofNat n.1) = hexB (UInt8.ofNat n.1) := by decide +kernel
  have h := this ⟨c.toNat, c.toNat_lt⟩
  simpa using h
theorem trim_all (l cs : List UInt8) (p : UInt8 → Bool) (hp : ∀ c, cs.contains c = p c) : (⟨(Lib.trimS l cs).toArray⟩ : ByteArray).toList.isEmpty = l.all p := by
  rw [ByteArray.toList_eq]
  have h := trim_nil l cs
  by_cases ha : l.all p = true
  · rw [ha, h.2 (fun c hc => by rw [hp]; exact List.all_eq_true.1 ha c hc)]
    rfl
  · have ha' : l.all p = false := by simpa using ha
    rw [ha']
    have hne : Lib.trimS l cs ≠ [] := fun e => ha (List.all_eq_true.2 fun c hc => by rw [← hp]; exact h.1 e c hc)
    cases hl : Lib.trimS l cs with
    | nil => exact absurd hl hne
    | cons x xs => rfl
set_option maxHeartbeats 1000000 in
theorem isHash_c (s : ByteArray) (hs : s.size ≤ 1000000) (w : World) :
    Calls Tryz.prog 35 #[.string s] w fun e w' => e = .returned (.bool (isHashL s.data.toList)) ∧ Below w.heap.size w w' := by
  have hcon := Any.strings_Trim_laid lays160 (by kernel_rfl) s ⟨#[48, 49, 50, 51, 52, 53, 54, 55, 56, 57, 97, 98, 99, 100, 101, 102]⟩ w (by omega) (by decide) (ascii_of_all (by decide))
  change Calls Tryz.prog 71 _ _ (fun e w' => e = .returned (.string ⟨(Lib.trimS s.data.toList hexCs).toArray⟩) ∧ Below w.heap.size w w') at hcon
  have hall := trim_all s.data.toList hexCs hexB hex_cs
  have hl : s.data.toList.length = s.size := by rw [Array.length_toList]; rfl
  unfold isHashL
  rw [hl]
  generalize (⟨(Lib.trimS s.data.toList hexCs).toArray⟩ : ByteArray) = r at hcon hall ⊢
  generalize s.data.toList.all hexB = b at hall ⊢
  obtain ⟨n, hn⟩ : ∃ n, s.size = n := ⟨_, rfl⟩
  rw [hn] at hs ⊢
  have HC := hid hcon
  clear hcon hl
  by_cases h16 : n = 16
  · have h1 : (((n : Nat) : Int) == 16) = true := by simp; omega
    have h2 : decide (n = 16) = true := decide_eq_true h16
    rw [h2]
    clear h16 h2
    go_enter Tryz.func35, Tryz.ntmps35
    go_wp2_with (go_at_call 71; refine HC.out.mono ?_; rintro e w1 ⟨rfl, hb1⟩)
    go_ret
    exact ⟨by simp [hall], hb1⟩
  · have h1 : (((n : Nat) : Int) == 16) = false := by simp; omega
    have h2 : decide (n = 16) = false := decide_eq_false h16
    rw [h2]
    clear h16 h2
    go_enter Tryz.func35, Tryz.ntmps35
    go_wp2_with fail
    go_ret
    exact ⟨by simp, Below.refl _ _⟩
set_option maxHeartbeats 1000000 in
theorem isSalt_c (s : ByteArray) (hs : s.size ≤ 1000000) (w : World) :
    Calls Tryz.prog 39 #[.string s] w fun e w' => e = .returned (.bool (isSaltL s.data.toList)) ∧ Below w.heap.size w w' := by
  have hcon := fun w => Any.strings_Trim_laid lays160 (by kernel_rfl) s ⟨#[97, 98, 99, 100, 101, 102, 103, 104, 105, 106, 107, 108, 109, 110, 111, 112, 113, 114, 115, 116, 117, 118, 119, 120, 121, 122, 48, 49, 50, 51, 52, 53, 54, 55, 56, 57]⟩ w (by omega) (by decide) (ascii_of_all (by decide))
  change ∀ w, Calls Tryz.prog 71 _ _ (fun e w' => e = .returned (.string ⟨(Lib.trimS s.data.toList saltCs).toArray⟩) ∧ Below w.heap.size w w') at hcon
  have hall := trim_all s.data.toList saltCs saltB salt_cs
  have hl : s.data.toList.length = s.size := by rw [Array.length_toList]; rfl
  unfold isSaltL
  rw [hl]
  generalize (⟨(Lib.trimS s.data.toList saltCs).toArray⟩ : ByteArray) = r at hcon hall ⊢
  generalize s.data.toList.all saltB = b at hall ⊢
  obtain ⟨n, hn⟩ : ∃ n, s.size = n := ⟨_, rfl⟩
  rw [hn] at hs ⊢
  have HC := hid hcon
  have hwi := within_c ((n : Nat) : Int) 1 20
  clear hcon hl
  by_cases h16 : 1 ≤ n ∧ n ≤ 20
  · have h1 : (decide ((1 : Int) ≤ ((n : Nat) : Int)) && decide (((n : Nat) : Int) ≤ 20)) = true := by simp; omega
    have h2 : (decide (1 ≤ n) && decide (n ≤ 20)) = true := by simp; omega
    rw [h2]
    simp only [h1] at hwi
    have HW := hid hwi
    clear h16 h2 h1 hwi
    go_enter Tryz.func39, Tryz.ntmps39
    go_wp2_with (first
      | (go_at_call 36; refine (HW.out w).mono ?_; rintro e w1 ⟨rfl, rfl⟩)
      | (go_at_call 71; refine (HC.out w).mono ?_; rintro e w1 ⟨rfl, hb1⟩))
    go_ret
    exact ⟨by simp [hall], hb1⟩
  · have h1 : (decide ((1 : Int) ≤ ((n : Nat) : Int)) && decide (((n : Nat) : Int) ≤ 20)) = false := by
      rw [Bool.eq_false_iff]
      simp
      omega
    have h2 : (decide (1 ≤ n) && decide (n ≤ 20)) = false := by
      rw [Bool.eq_false_iff]
      simp
      omega
    rw [h2]
    simp only [h1] at hwi
    have HW := hid hwi
    clear h16 h2 h1 hwi
    go_enter Tryz.func39, Tryz.ntmps39
    go_wp2_with (go_at_call 36; refine (HW.out w).mono ?_; rintro e w1 ⟨rfl, rfl⟩)
    go_ret
    exact ⟨by simp, Below.refl _ _⟩
/-- A box. -/
def isBoxL (p v : Int) (s : List UInt8) : Bool := (decide (1 ≤ p) && decide (p ≤ 30)) && ((decide (0 ≤ v) && decide (v ≤ 999999999)) && isSaltL s)
set_option maxHeartbeats 2000000 in
theorem isBox_c (p v : Int) (s : ByteArray) (hs : s.size ≤ 1000000) (w : World) :
    Calls Tryz.prog 70 #[.agg #[.int .i64 p, .int .i64 v, .string s]] w fun e w' => e = .returned (.bool (isBoxL p v s.data.toList)) ∧ Below w.heap.size w w' := by
  have hx := heap_alloc_new w (.cells #[.int .i64 p, .int .i64 v, .string s] 27)
  have hb : Below w.heap.size w (w.alloc (.cells #[.int .i64 p, .int .i64 v, .string s] 27)) := (Below.refl _ _).alloc (Nat.le_refl _) _
  have hSA := fun W => isSalt_c s hs W
  unfold isBoxL
  generalize isSaltL s.data.toList = sb at hSA ⊢
  have h1 := within_c p 1 30
  have h2 := within_c v 0 999999999
  generalize (decide (1 ≤ p) && decide (p ≤ 30)) = b1 at h1 ⊢
  generalize (decide (0 ≤ v) && decide (v ≤ 999999999)) = b2 at h2 ⊢
  have HS := hid hSA
  have H1 := hid h1
  have HD := hid trivial
  have H2 := hid h2
  have k0 := cell_of_row _ w.heap.size 0 _ _ _ hx
  have k1 := cell_of_row _ w.heap.size 1 _ _ _ hx
  have k2 := cell_of_row _ w.heap.size 2 _ _ _ hx
  obtain ⟨g, hg⟩ : ∃ g, w.heap.size = g := ⟨_, rfl⟩
  rw [hg] at k0 k1 k2
  have HK := hid (And.intro k0 (And.intro k1 (And.intro k2 hb)))
  clear k0 k1 k2
  clear hSA h1 h2 hb hx
  cases b1 with
  | false =>
    go_enter Tryz.func70, Tryz.ntmps70
    go_upto_region 1 with fail
    generalize w.alloc (.cells #[.int .i64 p, .int .i64 v, .string s] 27) = wa at HK ⊢
    have ⟨k0, k1, k2, hb⟩ := HK.out
    have hsz := hb.size
    have HB := hid hb
    clear hb HK
    go_wp2_with (go_at_call 36; have hq := HD; clear hq HD; refine (H1.out _).mono ?_; rintro e w1 ⟨rfl, rfl⟩)
    go_ret
    exact ⟨by simp, HB.out⟩
  | true =>
    cases b2 with
    | false =>
      go_enter Tryz.func70, Tryz.ntmps70
      go_upto_region 1 with fail
      generalize w.alloc (.cells #[.int .i64 p, .int .i64 v, .string s] 27) = wa at HK ⊢
      have ⟨k0, k1, k2, hb⟩ := HK.out
      have hsz := hb.size
      have HB := hid hb
      clear hb HK
      go_wp2_with (first
        | (go_at_call 36; have hq := HD; clear hq HD; refine (H1.out _).mono ?_; rintro e w1 ⟨rfl, rfl⟩)
        | (go_at_call 36; refine (H2.out _).mono ?_; rintro e w1 ⟨rfl, rfl⟩))
      go_ret
      exact ⟨by simp, HB.out⟩
    | true =>
      go_enter Tryz.func70, Tryz.ntmps70
      go_upto_region 1 with fail
      generalize w.alloc (.cells #[.int .i64 p, .int .i64 v, .string s] 27) = wa at HK ⊢
      have ⟨k0, k1, k2, hb⟩ := HK.out
      have hsz := hb.size
      have HB := hid hb
      clear hb HK
      go_wp2_with (first
        | (go_at_call 36; have hq := HD; clear hq HD; refine (H1.out _).mono ?_; rintro e w1 ⟨rfl, rfl⟩)
        | (go_at_call 36; refine (H2.out _).mono ?_; rintro e w1 ⟨rfl, rfl⟩)
        | (go_at_call 39; refine (HS.out _).mono ?_; rintro e w2 ⟨rfl, hb2⟩))
      go_ret
      exact ⟨by simp, HB.out.trans (hb2.mono hsz)⟩
end Go.Proofs.YtbcileppebpamaaGreatDoor
