/- Walks of package witness: Seal, shares. -/
import Derived.Test.YtbcileppebpamaaGreatDoorWE
set_option linter.unusedSimpArgs false
set_option linter.unusedVariables false
namespace Go.Proofs.YtbcileppebpamaaGreatDoor
open Go Go.RowKit Go.Shelf
set_option maxRecDepth 100000

theorem exec_ldB {ev : Operand → Value} {o : Oper} {x : Operand} {g : Nat} {W : World} {p v : Int} {s : ByteArray} (ho : o.op = .load 27 x) (hx : ev x = .pointer (some ⟨g, 0, none⟩)) (hg : W.heap[g]? = some (.cells #[.int .i64 p, .int .i64 v, .string s] 27 (0, 0))) :
    (execOp ev o).run Tryz.prog W = .ok (.value (.agg #[.int .i64 p, .int .i64 v, .string s])) W := by
  have h := run_loadVar_row (P := Tryz.prog) W g 27 27 #[.int .i64 p, .int .i64 v, .string s] (0, 0) _ hg Tryz.underlying27 rfl (by kernel_rfl)
  simp only [execOp, ho, hx, Instr.loadAt, Instr.sureAddr, Sem.run_bind, Sem.run_pure, Result.andThen_ok, h]
set_option maxHeartbeats 2000000 in
theorem Seal_c (p v : Int) (hp : -9223372036854775808 ≤ p ∧ p ≤ 9223372036854775807) (hv : -9223372036854775808 ≤ v ∧ v ≤ 9223372036854775807) (s : ByteArray) (hs : s.size ≤ 1000000) (w : World) (L : LaidW w) :
    Calls Tryz.prog 31 #[.agg #[.int .i64 p, .int .i64 v, .string s]] w fun e w' => e = .returned (.tuple (if isBoxL p v s.data.toList = true then #[.string ⟨(hashL (boxL p v s.data.toList)).toArray⟩, .int .i64 0] else #[.string ⟨#[]⟩, .int .i64 2])) ∧ Below w.heap.size w w' := by
  have hx := heap_alloc_new w (.cells #[.int .i64 p, .int .i64 v, .string s] 27)
  have hb : Below w.heap.size w (w.alloc (.cells #[.int .i64 p, .int .i64 v, .string s] 27)) := (Below.refl _ _).alloc (Nat.le_refl _) _
  have hlt := heap_lt hx
  have HIB := hid (fun W => isBox_c p v s hs W)
  have HSE := hid (fun W (hW : LaidW W) => seal_c p v hp hv s hs W hW)
  have HST := hid (fun W (hW : LaidW W) => String_c (sealN p v s.data.toList) (hashN_lt _ _ h0_lt) W hW)
  have hre : hashL (boxL p v s.data.toList) = hex16 (sealN p v s.data.toList) := rfl
  rw [hre]
  generalize sealN p v s.data.toList = x at HSE HST ⊢
  generalize isBoxL p v s.data.toList = bb at HIB ⊢
  have hLa := L.below hb
  obtain ⟨g, hg⟩ : ∃ g, w.heap.size = g := ⟨_, rfl⟩
  rw [hg] at hb hlt hx
  clear L hre
  cases bb with
  | false =>
    go_enter Tryz.func31, Tryz.ntmps31
    go_upto_region 1 with fail
    generalize w.alloc (.cells #[.int .i64 p, .int .i64 v, .string s] 27) = wa at hb hlt hLa hx ⊢
    have HX := hid hx
    have HB := hid hb
    have k0 := cell_of_row wa g 0 _ _ _ hx
    have k1 := cell_of_row wa g 1 _ _ _ hx
    have k2 := cell_of_row wa g 2 _ _ _ hx
    clear hx hb hLa
    go_wp2_with (go_at_call 70; refine (HIB.out _).mono ?_; rintro e w1 ⟨rfl, hb1⟩)
    go_ret2
    exact ⟨rfl, by first | exact HB.out.trans (hb1.mono (Nat.le_of_lt hlt)) | (rw [hg]; exact HB.out.trans (hb1.mono (Nat.le_of_lt hlt)))⟩
  | true =>
    go_enter Tryz.func31, Tryz.ntmps31
    go_upto_region 1 with fail
    generalize w.alloc (.cells #[.int .i64 p, .int .i64 v, .string s] 27) = wa at hb hlt hLa hx ⊢
    have HX := hid hx
    have HB := hid hb
    have k0 := cell_of_row wa g 0 _ _ _ hx
    have k1 := cell_of_row wa g 1 _ _ _ hx
    have k2 := cell_of_row wa g 2 _ _ _ hx
    have HL := hid hLa
    clear hx hb hLa
    go_wp2_with (first
      | (go_at_call 70; refine (HIB.out _).mono ?_; rintro e w1 ⟨rfl, hb1⟩; have HX1 := hid (heap_below hb1 HX.out hlt); have HB1 := hid (HB.out.trans (hb1.mono (Nat.le_of_lt hlt))); have HL1 := hid (HL.out.below hb1); have q0 := cell_of_row w1 g 0 _ _ _ HX1.out; have q1 := cell_of_row w1 g 1 _ _ _ HX1.out; have q2 := cell_of_row w1 g 2 _ _ _ HX1.out)
      | (go_at_call 41; refine (HSE.out _ HL1.out).mono ?_; rintro e w2 ⟨rfl, hb2⟩; have HB2 := hid (HB1.out.trans (hb2.mono (Nat.le_of_lt (heap_lt HX1.out)))); have HL2 := hid (HL1.out.below hb2); have hg2 : g ≤ w2.heap.size := Nat.le_trans (Nat.le_of_lt (heap_lt HX1.out)) hb2.size)
      | (go_at_call 61; refine (HST.out _ HL2.out).mono ?_; rintro e w3 ⟨rfl, hb3⟩))
    go_ret2
    exact ⟨rfl, by first | exact HB2.out.trans (hb3.mono hg2) | (rw [hg]; exact HB2.out.trans (hb3.mono hg2))⟩
/-- Shares are added. -/
def addO (b : Nat) : List Int → Nat → Option Nat
  | [], n => some n
  | s :: l, n => if 0 ≤ s ∧ s ≤ ((b : Nat) : Int) - 1 then addO b l ((n + s.toNat) % b) else none
def addV : Option Nat → Array Value
  | some n => #[.int .i64 ((n : Nat) : Int), .bool true]
  | none => #[.int .i64 0, .bool false]
theorem tmod_nat (m b : Nat) : Int.tmod ((m : Nat) : Int) ((b : Nat) : Int) = ((m % b : Nat) : Int) := by rw [Int.tmod_eq_emod_of_nonneg (by omega)]; push_cast; try rfl
theorem ReadsA.at' {w : World} {p : Option Addr} {n c : Nat} {xs : List Int} (h : ReadsA w (.slice p n c) xs) {i : Nat} (hi : i < xs.length) : ∃ b o, p = some ⟨b, o, none⟩ ∧ b < w.heap.size ∧ w.cell? ⟨b, o + i, none⟩ = some (.int .i64 xs[i]) := by
  rcases h with ⟨rfl, _⟩ | ⟨a, c', h1, h2, h3⟩
  · simp at hi
  · injection h1 with e1 _ _
    obtain ⟨g, o, rfl, h4⟩ := ReadsA.plain (n := xs.length) (by omega) h3 rfl
    exact ⟨g, o, e1, h2 (by omega), h4 i hi⟩
set_option maxHeartbeats 2000000 in
theorem add_c (b : Nat) (hb : 1 ≤ b ∧ b ≤ 1000000000) (xs : List Int) (v : Value) (w : World) (hr : ReadsA w v xs) (hl : xs.length ≤ 1000000) :
    Calls Tryz.prog 63 #[.int .i64 ((b : Nat) : Int), v] w fun e w' => e = .returned (.tuple (addV (addO b xs 0))) ∧ Below w.heap.size w w' := by
  obtain ⟨p, c, rfl⟩ := hr.form
  obtain ⟨m, hm⟩ : ∃ m, xs.length = m := ⟨_, rfl⟩
  have HM := hid hm
  rw [hm] at hl hr ⊢
  have HR := hid hr
  obtain ⟨r, hrr⟩ : ∃ r, addO b xs 0 = r := ⟨_, rfl⟩
  rw [hrr]
  have HRR := hid hrr
  clear hm hr hrr
  have hb1 : IntKind.i64.wrap (((b : Nat) : Int) - 1) = ((b : Nat) : Int) - 1 := IntWalk.i64_in _ (by omega)
  go_enter Tryz.func63, Tryz.ntmps63
  go_wp2_with fail
  go_loopw [4, 10] (fun nx ix wr => ∃ (i n : Nat), i ≤ m ∧ nx = .int .i64 ((n : Nat) : Int) ∧ n < b ∧ ix = .int .i64 ((i : Nat) : Int) ∧ addO b (xs.drop i) n = r ∧ Below w.heap.size w wr) (fun _ ix _ => m - (intOf ix).toNat)
  case atStart => exact ⟨0, 0, by omega, rfl, by omega, rfl, by rw [List.drop_zero]; exact HRR.out, Below.refl _ _⟩
  case round =>
    obtain ⟨i, n, hi, rfl, hn, rfl, hA, hB⟩ := hrel
    have HB := hid hB
    clear hB
    rcases Nat.lt_or_ge i m with hlt | hge
    · have hin : decide (((i : Nat) : Int) < ((m : Nat) : Int)) = true := decide_eq_true (by omega)
      have hin' : ((i : Nat) : Int) < ((m : Nat) : Int) := by omega
      have hi0 : (0 : Int) ≤ ((i : Nat) : Int) := by omega
      have hiw : IntKind.i64.wrap (((i : Nat) : Int) + 1) = ((i + 1 : Nat) : Int) := (IntWalk.i64_in _ (by omega)).trans (by omega)
      have hiL : i < xs.length := by rw [HM.out]; exact hlt
      obtain ⟨bk, o, rfl, hbk, hc⟩ := HR.out.at' hiL
      have hcr : wr.cell? ⟨bk, o + i, none⟩ = some (.int .i64 xs[i]) := (HB.out.cell (p := ⟨bk, o + i, none⟩) hbk).trans hc
      rw [List.drop_eq_getElem_cons hiL, addO] at hA
      obtain ⟨x, hx⟩ : ∃ x, xs[i] = x := ⟨_, rfl⟩
      rw [hx] at hA hcr
      have hwi := within_c x 0 (((b : Nat) : Int) - 1)
      clear hc hx hbk
      by_cases hin2 : 0 ≤ x ∧ x ≤ ((b : Nat) : Int) - 1
      · rw [if_pos hin2] at hA
        have hbv : (decide (0 ≤ x) && decide (x ≤ ((b : Nat) : Int) - 1)) = true := by simp; omega
        simp only [hbv] at hwi
        obtain ⟨y, rfl⟩ : ∃ y : Nat, x = ((y : Nat) : Int) := ⟨x.toNat, by omega⟩
        rw [Int.toNat_natCast] at hA
        obtain ⟨z, hz⟩ : ∃ z, n + y = z := ⟨_, rfl⟩
        have hzw : IntKind.i64.wrap (((n : Nat) : Int) + ((y : Nat) : Int)) = ((z : Nat) : Int) := (IntWalk.i64_in _ (by omega)).trans (by omega)
        rw [hz] at hA
        have htm := tmod_nat z b
        have hzb : z % b < b := Nat.mod_lt _ (by omega)
        have hb0 : (((b : Nat) : Int) == 0) = false := by simp; omega
        have hb0' : ((b : Nat) : Int) ≠ 0 := by omega
        have hrw : IntKind.i64.wrap ((z % b : Nat) : Int) = ((z % b : Nat) : Int) := IntWalk.i64_in _ (by omega)
        have HW := hid hwi
        have HA := hid hA
        clear hwi hA hbv hin2
        go_wp2_with (go_at_call 36; refine (HW.out _).mono ?_; rintro e w1 ⟨rfl, rfl⟩)
        go_roundw
        case rel => exact ⟨i + 1, z % b, by omega, by rw [Int.natCast_emod], hzb, rfl, HA.out, HB.out⟩
        case measure => simp only [intOf, Int.toNat_natCast]; omega
      · rw [if_neg hin2] at hA
        have hbv : (decide (0 ≤ x) && decide (x ≤ ((b : Nat) : Int) - 1)) = false := by
          rw [Bool.eq_false_iff]
          simp
          omega
        simp only [hbv] at hwi
        have HW := hid hwi
        clear hwi hbv hin2
        subst hA
        go_wp2_with (go_at_call 36; refine (HW.out _).mono ?_; rintro e w1 ⟨rfl, rfl⟩)
        go_ret2
        exact ⟨rfl, HB.out⟩
    · obtain rfl : i = m := by omega
      have hin : decide (((i : Nat) : Int) < ((i : Nat) : Int)) = false := decide_eq_false (by omega)
      rw [List.drop_of_length_le (by have := HM.out; omega), addO] at hA
      subst hA
      go_wp2_with fail
      go_ret2
      exact ⟨rfl, HB.out⟩
end Go.Proofs.YtbcileppebpamaaGreatDoor
