/- Way. -/
import Derived.Test.YtphnibllfpkkkaaDoorW6
import Derived.Test.YtphnibllfpkkkaaDoorEq
import Derived.Deep.RegionHeld3
namespace Go.Proofs.YtphnibllfpkkkaaDoor
open Go Go.RowKit
set_option maxRecDepth 100000

theorem way1_c (F : Nat → Nat) (k : Nat) (hk : k < 16) (hF : F k < 16) (l : Nat) (hl : l < 4) (Bs Bl : Nat) (w : World) (hg : w.heap[Bs]? = some (.cells (irow 16 (cst F)) 24 (0, 0))) (hlc : w.cell? ⟨Bl, 0, none⟩ = some (.int .i64 (l : Nat))) :
    Calls Tryd.prog 49 #[.int .i64 (k : Nat), .pointer (some ⟨Bs, 0, none⟩), .pointer (some ⟨Bl, 0, none⟩)] w fun e w' => e = .returned (.bool (bitB (F k) l)) ∧ ∃ n, w' = w.drewN n := by
  have hc := cell_irow hg k hk
  have hb := hid (bit_and (F k) l hF)
  have hl0 : (0 : Int) ≤ (l : Nat) := by omega
  have hl1 : ((l : Nat) : Int) ≤ 64 := by omega
  have hk' : ((k : Nat) : Int) < 16 := by omega
  have hk0 : (0 : Int) ≤ (k : Nat) := by omega
  clear hg
  go_enter Tryd.func49, Tryd.ntmps49
  go_wp2_with fail
  go_quiet (fail)
  go_wp2_with fail
  go_ret
  exact ⟨by rw [← hb.out]; rfl, _, rfl⟩

def nilInts : Value := .slice none 0 0

set_option maxHeartbeats 400000 in
theorem Way_inv (S : Nat → Int) (line : Int) (hS : ¬ ∀ i, i < 16 → Fig (S i)) (w : World) :
    Calls Tryd.prog 15 #[.agg (irow 16 S), .int .i64 line] w fun e w' => e = .returned (.tuple #[.slice none 0 0, .int .i64 2]) ∧ Below w.heap.size w w' := by
  have h0 := heap_alloc2_old w (.cells (irow 16 S) 24) (.cells #[.int .i64 line] 3)
  have hb : Below w.heap.size w ((w.alloc (.cells (irow 16 S) 24)).alloc (.cells #[.int .i64 line] 3)) := ((Below.refl _ _).alloc (Nat.le_refl _) _).alloc (by simp) _
  have HV := hid (validS_no S hS w.heap.size 16 _ _ h0)
  clear hS h0
  go_enter Tryd.func15, Tryd.ntmps15
  go_wp2_with (go_at_call 50; refine HV.out.mono ?_; rintro e w' ⟨rfl, rfl⟩)
  go_ret2
  exact ⟨rfl, hb⟩

set_option maxHeartbeats 400000 in
theorem Way_range (S : Nat → Int) (line : Int) (hS : ∀ i, i < 16 → Fig (S i)) (hl : line < 0 ∨ 3 < line) (w : World) :
    Calls Tryd.prog 15 #[.agg (irow 16 S), .int .i64 line] w fun e w' => e = .returned (.tuple #[.slice none 0 0, .int .i64 3]) ∧ Below w.heap.size w w' := by
  have h0 := heap_alloc2_old w (.cells (irow 16 S) 24) (.cells #[.int .i64 line] 3)
  have hb : Below w.heap.size w ((w.alloc (.cells (irow 16 S) 24)).alloc (.cells #[.int .i64 line] 3)) := ((Below.refl _ _).alloc (Nat.le_refl _) _).alloc (by simp) _
  have HV := hid (validS_yes S hS w.heap.size 16 _ _ h0)
  clear hS h0
  by_cases h : line < 0
  · have a1 : decide (line < 0) = true := by simpa using h
    clear hl
    go_enter Tryd.func15, Tryd.ntmps15
    go_wp2_with (go_at_call 50; refine HV.out.mono ?_; rintro e w' ⟨rfl, rfl⟩)
    go_ret2
    exact ⟨rfl, hb⟩
  · have a1 : decide (line < 0) = false := by simpa using h
    have a2 : decide (3 < line) = true := by simp; omega
    clear hl h
    go_enter Tryd.func15, Tryd.ntmps15
    go_wp2_with (go_at_call 50; refine HV.out.mono ?_; rintro e w' ⟨rfl, rfl⟩)
    go_ret2
    exact ⟨rfl, hb⟩

theorem irow4 (M : Nat → Nat) : irow 4 (cst M) = #[.int .i64 ((M 0 : Nat) : Int), .int .i64 ((M 1 : Nat) : Int), .int .i64 ((M 2 : Nat) : Int), .int .i64 ((M 3 : Nat) : Int)] := rfl
theorem arr_at (g : Nat) (w : World) : (Instr.arrayAt 37 (.slice (some ⟨g, 0, none⟩) 4 16)).run Tryd.prog w = .ok (.pointer (some ⟨g, 0, none⟩)) w := by kernel_rfl
/-- The copy is a chart. -/
def Chart (F : Nat → Nat) : Prop := ∀ i, i < 16 → der F i = F i

set_option maxHeartbeats 2000000 in
theorem Way_wrong (F : Nat → Nat) (hF : ∀ i, i < 16 → F i < 16) (l : Nat) (hl : l < 4) (hch : ¬ Chart F) (w : World) (L : Laid w) :
    Calls Tryd.prog 15 #[.agg (irow 16 (cst F)), .int .i64 (l : Nat)] w fun e w' => e = .returned (.tuple #[.slice none 0 0, .int .i64 30]) ∧ Below w.heap.size w w' := by
  have h0 := heap_alloc2_old w (.cells (irow 16 (cst F)) 24) (.cells #[.int .i64 (l : Nat)] 3)
  have h1 := heap_alloc2_new w (.cells (irow 16 (cst F)) 24) (.cells #[.int .i64 (l : Nat)] 3)
  have hb : Below w.heap.size w ((w.alloc (.cells (irow 16 (cst F)) 24)).alloc (.cells #[.int .i64 (l : Nat)] 3)) := ((Below.refl _ _).alloc (Nat.le_refl _) _).alloc (by simp) _
  have hsz : ((w.alloc (.cells (irow 16 (cst F)) 24)).alloc (.cells #[.int .i64 (l : Nat)] 3)).heap.size = w.heap.size + 2 := by simp
  have HV := hid (validS_yes (cst F) (fun i hi => ⟨by simp, by have := hF i hi; simp; omega⟩) w.heap.size 16 _ _ h0)
  have hneq := neqShield (cst (der F)) (cst F) false (by
    simp only [cst]
    constructor
    · intro h
      cases h
    · intro h
      exact absurd (fun i hi => by have := h i hi; omega) hch)
  have hD := derive_c F (fun i hi => hF i (by omega))
  rw [irow4] at hD
  have HD := hid hD
  have HL := hid (L.below hb)
  have HF := hid hF
  clear L hF hD
  generalize hw1 : ((w.alloc (.cells (irow 16 (cst F)) 24)).alloc (.cells #[.int .i64 (l : Nat)] 3)) = w1 at *
  have Hw := hid hw1
  have hcl : w1.cell? ⟨w.heap.size + 1, 0, none⟩ = some (.int .i64 (l : Nat)) := cell_of_row _ _ 0 _ _ (0, 0) h1
  have S2 := hid (fun w2 (hb2 : Below w1.drew.heap.size w1.drew w2) =>
    have h := heap_below (B := w1.heap.size) hb2 h0 (by omega)
    And.intro (cell_irow h 0 (by omega)) (And.intro (cell_irow h 1 (by omega)) (And.intro (cell_irow h 2 (by omega)) (And.intro (cell_irow h 3 (by omega)) (range_irow h)))))
  have S0 := hid (S2.out w1.drew (Below.refl _ _))
  have hu24 : Tryd.prog.underlying 24 = some (.array 16 22) := Tryd.underlying24
  have hi24 : (Tryd.prog.info? 24).map (·.size) = some (irow 16 (cst F)).toList.length := by rw [Array.length_toList, irow_size]; kernel_rfl
  have hlen : (irow 16 (cst F)).toList.length = 16 := by simp
  have hone := irow_one 16 (cst F)
  have a1 : decide (((l : Nat) : Int) < 0) = false := by simp
  have a2 : decide ((3 : Int) < (l : Nat)) = false := by simp; omega
  have Hsz := hid hsz
  have H0 := hid h0
  have H1 := hid h1
  have hch := hid hch
  clear hw1 hsz h0 h1
  have harr : ∀ w' : World, (Instr.arrayAt 37 (.slice (some ⟨w.heap.size, 0, none⟩) 4 16)).run Tryd.prog w' = .ok (.pointer (some ⟨w.heap.size, 0, none⟩)) w' := arr_at w.heap.size
  go_enter Tryd.func15, Tryd.ntmps15
  go_wp2_with (go_at_call 50; rw [Hw.out]; refine HV.out.mono ?_; rintro e w' ⟨rfl, rfl⟩)
  go_region_held3 (fun w' => w'.cell? ⟨w.heap.size, 0, none⟩ = some (.int .i64 (cst F 0)) ∧ w'.cell? ⟨w.heap.size, 1, none⟩ = some (.int .i64 (cst F 1)) ∧ w'.cell? ⟨w.heap.size, 2, none⟩ = some (.int .i64 (cst F 2)) ∧ w'.cell? ⟨w.heap.size, 3, none⟩ = some (.int .i64 (cst F 3)) ∧ w'.rangeAt w.heap.size 0 (irow 16 (cst F)).toList)
    (first | exact S0.out | exact S2.out _ ‹_›)
    (first | (go_at_call 51; refine (HD.out _ (HL.out.below (Below.refl _ _).drew)).mono ?_; rintro e w2 ⟨rfl, hb2⟩))
  go_wp2_with fail
  go_ret2
  exact ⟨rfl, hb.trans (Below.mono (B := w1.heap.size) ⟨hb2.os, hb2.tape, hb2.output, hb2.size, hb2.block⟩ hb.size)⟩

set_option maxHeartbeats 2000000 in
theorem Way_none (F : Nat → Nat) (hF : ∀ i, i < 16 → F i < 16) (l : Nat) (hl : l < 4) (hch : Chart F) (h14 : bitB (F 14) l = false) (w : World) (L : Laid w) :
    Calls Tryd.prog 15 #[.agg (irow 16 (cst F)), .int .i64 (l : Nat)] w fun e w' => e = .returned (.tuple #[.slice none 0 0, .int .i64 7]) ∧ Below w.heap.size w w' := by
  have h0 := heap_alloc2_old w (.cells (irow 16 (cst F)) 24) (.cells #[.int .i64 (l : Nat)] 3)
  have h1 := heap_alloc2_new w (.cells (irow 16 (cst F)) 24) (.cells #[.int .i64 (l : Nat)] 3)
  have hb : Below w.heap.size w ((w.alloc (.cells (irow 16 (cst F)) 24)).alloc (.cells #[.int .i64 (l : Nat)] 3)) := ((Below.refl _ _).alloc (Nat.le_refl _) _).alloc (by simp) _
  have hsz : ((w.alloc (.cells (irow 16 (cst F)) 24)).alloc (.cells #[.int .i64 (l : Nat)] 3)).heap.size = w.heap.size + 2 := by simp
  have HV := hid (validS_yes (cst F) (fun i hi => ⟨by simp, by have := hF i hi; simp; omega⟩) w.heap.size 16 _ _ h0)
  have hneq := neqShield (cst (der F)) (cst F) true (by
    simp only [cst]
    constructor
    · intro h
      intro i hi
      have := hch i hi
      omega
    · intro h
      trivial)
  have hD := derive_c F (fun i hi => hF i (by omega))
  rw [irow4] at hD
  have HD := hid hD
  have HL := hid (L.below hb)
  have HF := hid hF
  clear L hF hD
  generalize hw1 : ((w.alloc (.cells (irow 16 (cst F)) 24)).alloc (.cells #[.int .i64 (l : Nat)] 3)) = w1 at *
  have Hw := hid hw1
  have hcl : w1.cell? ⟨w.heap.size + 1, 0, none⟩ = some (.int .i64 (l : Nat)) := cell_of_row _ _ 0 _ _ (0, 0) h1
  have S2 := hid (fun w2 (hb2 : Below w1.drew.heap.size w1.drew w2) =>
    have h := heap_below (B := w1.heap.size) hb2 h0 (by omega)
    And.intro (cell_irow h 0 (by omega)) (And.intro (cell_irow h 1 (by omega)) (And.intro (cell_irow h 2 (by omega)) (And.intro (cell_irow h 3 (by omega)) (range_irow h)))))
  have S0 := hid (S2.out w1.drew (Below.refl _ _))
  have hu24 : Tryd.prog.underlying 24 = some (.array 16 22) := Tryd.underlying24
  have hi24 : (Tryd.prog.info? 24).map (·.size) = some (irow 16 (cst F)).toList.length := by rw [Array.length_toList, irow_size]; kernel_rfl
  have hlen : (irow 16 (cst F)).toList.length = 16 := by simp
  have hone := irow_one 16 (cst F)
  have a1 : decide (((l : Nat) : Int) < 0) = false := by simp
  have a2 : decide ((3 : Int) < (l : Nat)) = false := by simp; omega
  have Hsz := hid hsz
  have H0 := hid h0
  have H1 := hid h1
  have hch := hid hch
  clear hw1 hsz h0 h1
  have harr : ∀ w' : World, (Instr.arrayAt 37 (.slice (some ⟨w.heap.size, 0, none⟩) 4 16)).run Tryd.prog w' = .ok (.pointer (some ⟨w.heap.size, 0, none⟩)) w' := arr_at w.heap.size
  go_enter Tryd.func15, Tryd.ntmps15
  go_wp2_with (go_at_call 50; rw [Hw.out]; refine HV.out.mono ?_; rintro e w' ⟨rfl, rfl⟩)
  go_region_held3 (fun w' => w'.cell? ⟨w.heap.size, 0, none⟩ = some (.int .i64 (cst F 0)) ∧ w'.cell? ⟨w.heap.size, 1, none⟩ = some (.int .i64 (cst F 1)) ∧ w'.cell? ⟨w.heap.size, 2, none⟩ = some (.int .i64 (cst F 2)) ∧ w'.cell? ⟨w.heap.size, 3, none⟩ = some (.int .i64 (cst F 3)) ∧ w'.rangeAt w.heap.size 0 (irow 16 (cst F)).toList)
    (first | exact S0.out | exact S2.out _ ‹_›)
    (first | (go_at_call 51; refine (HD.out _ (HL.out.below (Below.refl _ _).drew)).mono ?_; rintro e w2 ⟨rfl, hb2⟩))
  have hb2' : Below w1.heap.size w1 w2 := ⟨hb2.os, hb2.tape, hb2.output, hb2.size, hb2.block⟩
  have HW := hid (way1_c F 14 (by omega) (HF.out 14 (by omega)) l hl w.heap.size (w.heap.size + 1) w2 (heap_below hb2' H0.out (by rw [Hsz.out]; omega)) (by rw [hb2'.cell (p := ⟨w.heap.size + 1, 0, none⟩) (by rw [Hsz.out]; exact Nat.lt_succ_self _)]; exact hcl))
  rw [h14] at HW
  clear hcl hneq
  go_wp2_with (go_at_call 49; refine HW.out.mono ?_; rintro e w' ⟨rfl, m, rfl⟩)
  go_ret2
  exact ⟨rfl, below_drewN (hb.trans (hb2'.mono hb.size)) _⟩
end Go.Proofs.YtphnibllfpkkkaaDoor
