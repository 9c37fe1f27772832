/- Walk of the reference: Wrong. -/
import Derived.Test.YtcdbkgpgjjeoiaaDoorR4
import Derived.Test.YtcdbkgpgjjeoiaaDoorSm
import Derived.Deep.DeepMust
namespace Go.Proofs.YtcdbkgpgjjeoiaaDoor
open Go Go.RowKit
set_option maxRecDepth 100000

set_option maxHeartbeats 600000 in
theorem rWrong (F : Nat → Nat) (hF : ∀ i, i < 16 → F i < 16) (w : World) :
    Calls Tryd.prog 42 #[.agg (irow 16 (cst F))] w fun e w' => ∃ v, e = .returned v ∧ Ints w' w.heap.size v (wl F 16) ∧ Below w.heap.size w w' := by
  have h0 := heap_alloc_new w (.cells (irow 16 (cst F)) 88)
  have hb0 : Below w.heap.size w (w.alloc (.cells (irow 16 (cst F)) 88)) := (Below.refl _ _).alloc (Nat.le_refl _) _
  have hcall := hid (rFollows F hF)
  clear hF
  go_enter Tryd.func42, Tryd.ntmps42
  go_wp2_with fail
  go_loopw [3, 4] (fun v i wr => ∃ p : Nat, 4 ≤ p ∧ p ≤ 16 ∧ i = .int .i64 (p : Nat) ∧ Ints wr (w.heap.size + 1) v (wl F p) ∧ wr.heap[w.heap.size]? = some (.cells (irow 16 (cst F)) 88 (0, 0)) ∧ Below w.heap.size w wr) (fun _ i _ => 16 - (intOf i).toNat)
  case atStart =>
    refine ⟨4, by omega, by omega, rfl, ?_, ?_, hb0.alloc (by simp) _⟩
    · have := Ints.made (w.alloc (.cells (irow 16 (cst F)) 88)) (w.heap.size + 1) (by simp)
      simpa [wl] using this
    · rw [Below.heap_alloc _ _ _ (by simp)]; exact h0
  case round =>
    clear h0 hb0
    obtain ⟨p, h4, hp, rfl, hown, hg, hb⟩ := hrel
    by_cases hlt : p < 16
    · have hlt' : (p : Int) < 16 := by omega
      have hp0 : (0 : Int) ≤ (p : Int) := by omega
      have hlt2 := heap_lt hg
      have hu24 : Tryd.prog.underlying 88 = some (.array 16 22) := Tryd.underlying88
      have hi24 : (Tryd.prog.info? 88).map (·.size) = some (irow 16 (cst F)).toList.length := by rw [Array.length_toList, irow_size]; kernel_rfl
      have hlen : (irow 16 (cst F)).toList.length = 16 := by simp
      have hone := irow_one 16 (cst F)
      have H2 : ∀ w2, Below wr.drew.heap.size wr.drew w2 → w2.cell? ⟨w.heap.size, p, none⟩ = some (.int .i64 (cst F p)) ∧ w2.rangeAt w.heap.size 0 (irow 16 (cst F)).toList := fun w2 hb2 =>
        have h := heap_below hb2 hg hlt2
        ⟨cell_irow h p hlt, range_irow h⟩
      have HC := hid H2
      have H0 := hid (H2 wr.drew (Below.refl _ _))
      clear H2
      have HO := hid hown
      have Hg := hid hg
      clear hown hg
      go_wp2_with fail
      go_region_held3 (fun w' => w'.cell? ⟨w.heap.size, p, none⟩ = some (.int .i64 (cst F p)) ∧ w'.rangeAt w.heap.size 0 (irow 16 (cst F)).toList)
        (first | exact H0.out | exact HC.out _ ‹_›)
        (first | (go_at_call 66; refine (hcall.out p (by omega) (by omega) _).mono ?_; rintro e w2 ⟨rfl, hb2⟩))
      have hb2' : Below wr.heap.size wr w2 := ⟨hb2.os, hb2.tape, hb2.output, hb2.size, hb2.block⟩
      have hg2 := heap_below hb2' Hg.out hlt2
      have ho2 := Ints.below HO.out hb2'
      have hb3 := hb.trans (hb2'.mono hb.size)
      have hsz : w.heap.size + 1 ≤ w2.heap.size := Nat.le_trans hlt2 hb2'.size
      by_cases he : F p = fol F p
      · have hbb : (((F p : Nat) : Int) != ((fol F p : Nat) : Int)) = false := by simp [he]
        have HE := hid he
        clear he
        go_wp2_with fail
        go_roundw
        case rel => exact ⟨p + 1, by omega, by omega, by go_num, by rw [wl, if_pos (.inr HE.out)]; exact ho2, hg2, hb3⟩
        case measure => simp [intOf]; omega
      · have hbb : (((F p : Nat) : Int) != ((fol F p : Nat) : Int)) = true := by simp; omega
        have HE := hid he
        have hwl := wl_len F p
        clear he
        have ho2' := ho2.below ((Below.refl _ w2).alloc (Nat.le_refl _) (.cells #[.int .i64 p] 3))
        have HO2 := hid ho2'
        clear ho2'
        go_wp2_with (at_builtin; go_must (refine wp_append_int rfl _ _ rfl (w.heap.size + 1) _ _ rfl HO2.out p w2.heap.size 1 rfl (by simp) (by omega) (by simp; omega) ?_); intro v' w3 ho3 hgr3)
        have ho2' := HO2.out
        have hg3 := grown_heap hgr3 ho2' (g := w.heap.size) (by rw [Below.heap_alloc _ _ _ (by omega)]; exact hg2) (by omega)
        have hb4 := grown_below (hb3.alloc (by omega) (.cells #[.int .i64 p] 3)) hgr3 ho2' (by omega) (by simp; omega)
        go_roundw
        case rel => exact ⟨p + 1, by omega, by omega, by go_num, by rw [wl, if_neg (by simp [HE.out]; omega)]; exact ho3, hg3, hb4⟩
        case measure => simp [intOf]; omega
    · have hge : ¬ (p : Int) < 16 := by omega
      obtain rfl : p = 16 := by omega
      go_wp2_with fail
      go_ret
      exact ⟨_, rfl, hown.mono (by omega), hb⟩
end Go.Proofs.YtcdbkgpgjjeoiaaDoor
