/- Walks of package witness: Close, Text. -/
import Derived.Test.YtbcileppebpamaaDoorWR
set_option linter.unusedSimpArgs false
set_option linter.unusedVariables false
namespace Go.Proofs.YtbcileppebpamaaDoor
open Go Go.RowKit Go.Shelf
set_option maxRecDepth 100000

def wClose : ByteArray := ⟨#[99, 108, 111, 115, 101]⟩
def DS.closeT (D : DS) : DS := { D.line [wClose] with cl := D.ls.length + 1 }
def DS.close (D : DS) : DS := if D.running = true then D.closeT else D
set_option maxHeartbeats 4000000 in
theorem CloseD_c {W : World} {B b q : Nat} {D : DS} (hd : DrawAt W B b q D) (hB : B ≤ W.heap.size) (hbB : B ≤ b) (hls : D.ls.length < 1000000) :
    Calls Tryd.prog 27 #[.pointer (some ⟨b, 0, none⟩)] W fun e W' => e = .returned (.int .i64 (if D.running = true then 0 else 9)) ∧ DrawAt W' B b q D.close ∧ OnlyD B b q W W' := by
  have HR := hid (running_c B b q D W hd)
  unfold DS.close
  cases hrun : D.running with
  | false =>
    rw [hrun] at HR
    simp only [Bool.false_eq_true, if_false]
    have HD := hid hd
    clear hd hrun
    go_enter Tryd.func27, Tryd.ntmps27
    go_wp2_with (go_at_call 51; refine HR.out.mono ?_; rintro e w1 ⟨rfl, m, rfl⟩)
    go_ret
    exact ⟨rfl, HD.out.below (drewN_below W m), .below (drewN_below W m)⟩
  | true =>
    rw [hrun] at HR
    simp only [if_true]
    have HD := hid hd
    have hlen : (lineL [wClose]).length ≤ 1000000000 := by decide +kernel
    clear hd hrun
    go_enter Tryd.func27, Tryd.ntmps27
    go_upto_region 5 with (go_at_call 51; refine HR.out.mono ?_; rintro e w1 ⟨rfl, m, rfl⟩; have hd1 := HD.out.below (drewN_below W m); have hb1 := drewN_below W m; generalize W.drewN m = w1 at hd1 hb1 ⊢; have HD1 := hid (And.intro hd1 hb1); clear hd1 hb1)
    have hnw := heap_alloc_new w1 (.cells #[.string ⟨#[99, 108, 111, 115, 101]⟩] 9)
    have hal : Below w1.heap.size w1 (w1.alloc (.cells #[.string ⟨#[99, 108, 111, 115, 101]⟩] 9)) := (Below.refl _ _).alloc (Nat.le_refl _) _
    have hd2 := HD1.out.1.below hal
    have HWR := hid (writeD_c hd2 [wClose] w1.heap.size 1 (Nat.le_trans hB (Nat.le_trans HD1.out.2.size hal.size)) (fun j x hj => by
      obtain rfl : j = 0 := by
        cases j with
        | zero => rfl
        | succ j => simp at hj
      simp at hj
      subst hj
      exact cell_of_row _ _ 0 _ _ _ hnw) (heap_lt hnw) (Nat.le_refl _) hls (by decide) hlen)
    have HAL := hid (HD1.out.2.trans (hal.mono HD1.out.2.size))
    clear hnw hal hd2 HD1
    go_upto_region 6 with (go_at_call 46; refine HWR.out.mono ?_; rintro e w3 ⟨rfl, hd3, ho3⟩; have hfz := hd3.bf 5; have hk5 := hd3.dev.b5; have HD3 := hid (And.intro hd3 ho3); clear hd3 ho3)
    have hd4 : DrawAt (w3.setCell ⟨b, 5, none⟩ (.int .i64 ((D.ls.length + 1 : Nat) : Int))) B b q D.closeT := HD3.out.1.setB 5 _ D.closeT (fun vl => rfl) rfl rfl
    have ho4 : OnlyD B b q W (w3.setCell ⟨b, 5, none⟩ (.int .i64 ((D.ls.length + 1 : Nat) : Int))) := ((OnlyD.below HAL.out).trans HD3.out.2).set (.inl rfl) 5 _
    have HF := hid (And.intro hd4 ho4)
    clear hd4 ho4
    go_wp2_with fail
    go_ret
    exact ⟨rfl, HF.out.1, HF.out.2⟩
/-- The text of a drawing. -/
def DS.text (D : DS) : List UInt8 := Lib.join (D.ls.map (·.data.toList)) []
theorem TextD_c {W : World} {B b q : Nat} {D : DS} (hd : DrawAt W B b q D) (h1 : 1 ≤ D.ls.length) (hls : D.ls.length ≤ 1000000) (hlen : D.text.length ≤ 1000000000) :
    Calls Tryd.prog 28 #[.pointer (some ⟨b, 0, none⟩)] W fun e W' => e = .returned (.tuple #[.string ⟨D.text.toArray⟩, .int .i64 0]) ∧ Below W.heap.size W W' := by
  obtain ⟨vl, hx, hrow⟩ := hd.box
  rcases hrow.2 with ⟨_, h0⟩ | ⟨g, cap, cur, rfl, hBg, hg, hcap, _, _, htake⟩
  · omega
  · have hcells : ∀ (j : Nat) x, D.ls[j]? = some x → W.cell? ⟨g, 0 + j, none⟩ = some (.string x) := fun j x hj => by
      rw [Nat.zero_add, cell_of_row _ _ j _ _ (0, 0) hg]
      have hjl := (List.getElem?_eq_some_iff.1 hj).1
      have : (cur.toList.take (D.ls.length * 1))[j]? = (D.ls.map Value.string)[j]? := by rw [htake]
      rw [List.getElem?_take, if_pos (by omega), List.getElem?_map, hj] at this
      rw [← Array.getElem?_toList, this]
      rfl
    have HJ := hid (strings_Join g 0 cap D.ls ⟨#[]⟩ W hcells (heap_lt hg) (by omega) hcap (by
      have : (Lib.join (D.ls.map (·.data.toList)) (⟨#[]⟩ : ByteArray).data.toList).length = D.text.length := rfl
      omega))
    have k0 := cell_of_row _ _ 0 _ _ _ hx
    have hte : (⟨(Lib.join (D.ls.map (·.data.toList)) (⟨#[]⟩ : ByteArray).data.toList).toArray⟩ : ByteArray) = ⟨D.text.toArray⟩ := rfl
    rw [hte] at HJ
    obtain ⟨tx, htx⟩ : ∃ t : ByteArray, ⟨D.text.toArray⟩ = t := ⟨_, rfl⟩
    rw [htx] at HJ ⊢
    replace k0 : W.cell? ⟨b, 0, none⟩ = some (.slice (some ⟨g, 0, none⟩) D.ls.length cap) := k0
    obtain ⟨m, hm⟩ : ∃ m, D.ls.length = m := ⟨_, rfl⟩
    rw [hm] at HJ k0
    clear hcells hx hrow hg htake hte htx hd h1 hls hlen hm
    go_enter Tryd.func28, Tryd.ntmps28
    go_wp2_with (go_at_call 31; refine HJ.out.mono ?_; rintro e w1 ⟨rfl, hb1⟩)
    go_ret2
    exact ⟨rfl, hb1⟩
end Go.Proofs.YtbcileppebpamaaDoor
