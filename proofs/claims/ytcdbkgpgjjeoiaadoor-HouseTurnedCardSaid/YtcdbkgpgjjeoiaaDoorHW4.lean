/- Walks of package house: the places of a set, in order. -/
import Derived.Test.YtcdbkgpgjjeoiaaDoorHW3
import Derived.Test.YtcdbkgpgjjeoiaaDoorRF
import Derived.Test.YtcdbkgpgjjeoiaaDoorH2
import Derived.Shelf.Abstract
import Derived.WalkKit
import Derived.TacticsInMore
import Derived.LoopNIn
import Derived.LoopIn
import Derived.BigFrameIn
namespace Go.Proofs.YtcdbkgpgjjeoiaaDoor
open Go Go.RowKit Go.Shelf
set_option maxRecDepth 100000

theorem all_c (s0 : Nat) (w : World) : Calls Tryd.prog 48 #[.int .u64 ((s0 : Nat) : Int)] w fun e w' => e = .returned (.func (.func 70) #[] #[.pointer (some ⟨w.heap.size, 0, none⟩)]) ∧ w' = w.alloc (.cells #[.int .u64 ((s0 : Nat) : Int)] 113) := by
  go_enter Tryd.func48, Tryd.ntmps48
  go_wp2
  go_ret
  exact ⟨rfl, rfl⟩
/-- What the box holds. -/
def boxNat (b : Nat) (w : World) : Nat := match w.cell? ⟨b, 0, none⟩ with
  | some (.int _ i) => i.toNat
  | _ => 0
theorem boxNat_eq {b : Nat} {w : World} {t : TypeId} {k : IntKind} {i : Nat} (h : Boxed w b t (.int k ((i : Nat) : Int))) : boxNat b w = i := by
  unfold boxNat
  rw [h.cell]
  simp
theorem bits_last (c : Nat) (h0 : c ≠ 0) : c &&& (c - 1) < c := Nat.lt_of_le_of_lt Nat.and_le_right (by omega)

attribute [local go_sem] Oper.semAt_some
set_option maxHeartbeats 2000000 in
theorem all1_seq (n : Nat) (hn : 1 ≤ n) (b s0 : Nat) (hs : s0 < 4096) (w : World) (hb : Boxed w b 113 (.int .u64 ((s0 : Nat) : Int))) :
    SeqB Fence.wide n Tryd.prog 70 #[.pointer (some ⟨b, 0, none⟩)] (fun x => #[.int .i64 ((x : Nat) : Int)]) b (bitsL s0.testBit) w := by
  intro l J W hW hJs hJL hY h0
  have hbW : Boxed W b 113 (.int .u64 ((s0 : Nat) : Int)) := (hW.block b hb.lt).trans hb
  obtain ⟨Lst, hq⟩ : ∃ Lst, bitsL s0.testBit = Lst := ⟨_, rfl⟩
  rw [hq] at hY ⊢
  have HQ := hid hq
  clear hq
  clear hb hW
  refine callsIn_of_wp Tryd.func70 rfl trivial ?_ rfl
  simp only [Tryd.ntmps70, List.size_toArray, List.length_cons, List.length_nil, Nat.reduceAdd, Nat.reduceSub, Array.replicate_succ, Array.replicate_zero, List.push_toArray, List.append_toArray, List.nil_append, List.cons_append]
  gi_wp2
  gi_loopw [] (fun wr => ∃ (cur : Nat) (pre : List Nat), Boxed wr b 113 (.int .u64 ((cur : Nat) : Int)) ∧ cur < 4096 ∧ Lst = pre ++ bitsL cur.testBit ∧ J pre wr) (fun wr => boxNat b wr)
  case atStart => exact ⟨s0, [], hbW, hs, HQ.out.symm, h0⟩
  case round =>
    obtain ⟨cur, pre, hbx, hlt, hl, hJ⟩ := hrel
    clear hbW HQ h0
    have hc := hbx.cell
    have hfz := hbx.frozen
    by_cases hz : cur = 0
    · subst hz
      have HJ := hid (show J Lst wr by rw [hl, bits_none, List.append_nil]; exact hJ)
      clear hl hJ hbx hJs hJL hY
      gi_wp2_with fail
      go_end0
      exact ⟨⟨_, rfl⟩, HJ.out⟩
    · obtain ⟨hnext, htz, hnl⟩ := bits_next cur hz hlt
      have hT := hid (tz_c cur (by omega) (by omega) wr (hJL pre wr hJ))
      have hne : (((cur : Nat) : Int) != 0) = true := by simp; exact hz
      obtain ⟨fn, tmps, assign, body, hy, hR⟩ := hY pre (tz cur) wr hJ ⟨_, by rw [hl, hnext]⟩
      have hl2 : Lst = (pre ++ [tz cur]) ++ bitsL (cur &&& (cur - 1)).testBit := by rw [hl, hnext]; simp
      have hsub : ((cur : Nat) : Int) - 1 = ((cur - 1 : Nat) : Int) := by omega
      have hw := wrap_natU (cur - 1) (by omega)
      have hand := u64_and cur (cur - 1) (by omega) (by omega)
      have hless := bits_last cur hz
      have HR := hid hR
      have HL2 := hid hl2
      have HMu := hid (boxNat_eq hbx)
      clear hnext hJ hY hR hl hl2 hz
      generalize tz cur = x at *
      generalize cur - 1 = c1 at *
      generalize cur &&& c1 = c2 at *
      gi_wp2_with (gi_at_call 71; refine (callsIn_wide.2 hT.out).mono ?_; rintro e w' ⟨rfl, rfl⟩)
      refine HR.out.mono ?_
      rintro e w3 ⟨rfl, hJ3, hk3⟩
      have hb3 : Boxed w3 b 113 (.int .u64 ((cur : Nat) : Int)) := hk3 _ hbx rfl
      have hc3 := hb3.cell
      have hf3 := hb3.frozen
      have HJ3 := hid (hJs _ _ (.int .u64 ((c2 : Nat) : Int)) hJ3)
      have HB3 := hid (hb3.set (.int .u64 ((c2 : Nat) : Int)))
      clear hbx hc hfz hb3 hk3 hJ3 hy hT HR hJs hJL
      gi_wp2_with fail
      go_roundw
      case rel => exact ⟨c2, pre ++ [x], HB3.out, hnl, HL2.out, HJ3.out⟩
      case measure => rw [boxNat_eq HB3.out, HMu.out]; exact hless
end Go.Proofs.YtcdbkgpgjjeoiaaDoor
