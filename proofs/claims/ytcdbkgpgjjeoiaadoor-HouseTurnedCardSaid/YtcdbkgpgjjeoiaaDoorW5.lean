/- The iterator 'wrong' and slices.Collect of it. -/
import Derived.Test.YtcdbkgpgjjeoiaaDoorW4
import Derived.Test.YtcdbkgpgjjeoiaaDoorSm
import Derived.RangeFuncBox
import Derived.RangeFuncLeaves
import Derived.Shelf.Abstract
import Derived.OwnWalkIn
import Derived.TacticsInMore
import Derived.LoopNIn
import Derived.LoopIn
import Derived.Stop.RegionWithIn
namespace Go.Proofs.YtcdbkgpgjjeoiaaDoor
open Go Go.RowKit Go.Shelf
set_option maxRecDepth 100000
attribute [local go_sem] Oper.semAt_some

@[go_sem] theorem wide_fn (f : FuncId) : Fence.wide.fn f = True := eq_true trivial
theorem irow16 (F : Nat → Nat) : irow 16 (cst F) = #[.int .i64 ((F 0 : Nat) : Int), .int .i64 ((F 1 : Nat) : Int), .int .i64 ((F 2 : Nat) : Int), .int .i64 ((F 3 : Nat) : Int), .int .i64 ((F 4 : Nat) : Int), .int .i64 ((F 5 : Nat) : Int), .int .i64 ((F 6 : Nat) : Int), .int .i64 ((F 7 : Nat) : Int), .int .i64 ((F 8 : Nat) : Int), .int .i64 ((F 9 : Nat) : Int), .int .i64 ((F 10 : Nat) : Int), .int .i64 ((F 11 : Nat) : Int), .int .i64 ((F 12 : Nat) : Int), .int .i64 ((F 13 : Nat) : Int), .int .i64 ((F 14 : Nat) : Int), .int .i64 ((F 15 : Nat) : Int)] := rfl

theorem Laid.belowN {w w' : World} {N : Nat} (h : Laid w) (hb : Below N w w') (hN : 1 < N ∧ 1 < N) : Laid w' :=
  ⟨⟨Nat.lt_of_lt_of_le h.size.1 hb.size, Nat.lt_of_lt_of_le h.size.2 hb.size⟩,
   fun i hi => (hb.cell (p := ⟨1, i, none⟩) hN.1).trans (h.par i hi), trivial⟩
theorem stop_bool {A B : Prop} {e : Ending} (h : (e = .returned (.bool true) ∧ A) ∨ (e = .returned (.bool false) ∧ B)) : ∃ b : Bool, e = .returned (.bool b) ∧ (b = true → A) ∧ (b = false → B) := by
  rcases h with ⟨rfl, h⟩ | ⟨rfl, h⟩
  · exact ⟨true, rfl, fun _ => h, fun e => Bool.noConfusion e⟩
  · exact ⟨false, rfl, fun e => Bool.noConfusion e, fun _ => h⟩

set_option maxHeartbeats 1000000 in
theorem wrong1_in (F : Nat → Nat) (hF : ∀ i, i < 16 → F i < 16) (n : Nat) (hn : 1 ≤ n) (l Bs n₀ : Nat) (hBs : Bs < n₀) (h20 : 1 < n₀ ∧ 1 < n₀) (J Jx : List Int → World → Prop)
    (hY : ∀ pre x W, J pre W → pre.length < 16 → YieldAt Fence.wide (n - 1) Tryd.prog l #[.int .i64 x] W fun e W' =>
      (e = .returned (.bool true) ∧ J (pre ++ [x]) W' ∧ Below n₀ W W') ∨ (e = .returned (.bool false) ∧ Jx (pre ++ [x]) W'))
    (hJ : ∀ pre W W', J pre W → Below W.heap.size W W' → J pre W')
    (W : World) (L : Laid W) (hW : n₀ ≤ W.heap.size) (hg : W.heap[Bs]? = some (.cells (irow 16 (cst F)) 88 (0, 0))) (h0 : J [] W) :
    CallsIn Fence.wide n Tryd.prog 99 #[.func (.yield l) #[] #[], .pointer (some ⟨Bs, 0, none⟩)] W fun e W' => (∃ v, e = .returned v) ∧
      ((∃ ys, ys = wl F 16 ∧ J ys W') ∨ (∃ pre, True ∧ Jx pre W')) := by
  have hcall := hid (fun k h4 h16 => follows_c F hF k h4 h16)
  refine callsIn_of_wp Tryd.func99 rfl trivial ?_ rfl
  simp only [Tryd.ntmps99, List.size_toArray, List.length_cons, List.length_nil, Nat.reduceAdd, Nat.reduceSub, Array.replicate_succ, Array.replicate_zero, List.push_toArray, List.append_toArray, List.nil_append, List.cons_append]
  gi_wp2
  gi_loopw [3] (fun i wr => ∃ p : Nat, 4 ≤ p ∧ p ≤ 16 ∧ i = .int .i64 (p : Nat) ∧ wr.heap[Bs]? = some (.cells (irow 16 (cst F)) 88 (0, 0)) ∧ J (wl F p) wr ∧ Laid wr ∧ n₀ ≤ wr.heap.size) (fun i _ => 16 - (intOf i).toNat)
  case atStart => exact ⟨4, by omega, by omega, rfl, hg, by simpa [wl] using h0, L, hW⟩
  case round =>
    clear hg h0 L hW
    obtain ⟨p, h4, hp, rfl, hg, hJp, L, hW⟩ := hrel
    by_cases hlt : p < 16
    · have hlt' : (p : Int) < 16 := by omega
      have hp0 : (0 : Int) ≤ (p : Int) := by omega
      have hlt2 := heap_lt hg
      have hwl := wl_len F p
      have hcs : ∀ i, i < 16 → wr.cell? ⟨Bs, i, none⟩ = some (.int .i64 (cst F i)) := fun i hi => cell_irow hg i hi
      have Hg := hid hg
      clear hg
      have HC := hid (fun w2 (hb2 : Below wr.drew.heap.size wr.drew w2) => cell_irow (heap_below (B := wr.heap.size) hb2 Hg.out hlt2) p hlt)
      have hc1 := hcall.out p h4 hlt wr.drew ⟨L.size, L.par, L.nam⟩
      rw [irow16] at hc1
      have HC1 := hid hc1
      clear hc1
      by_cases he : F p = fol F p
      · have hc1 := HC1.out
        rw [← he] at hc1
        have HC2 := hid hc1
        have HE := hid he
        clear he hc1
        gi_wp2_with fail
        first
          | (gi_region_with (gi_at_call 90; refine (callsIn_wide.2 HC2.out).mono ?_; rintro e w2 ⟨rfl, hb2⟩; have hc2 := HC.out w2 hb2))
          | fail
        all_goals
          have hb2' : Below wr.heap.size wr w2 := ⟨hb2.os, hb2.tape, hb2.output, hb2.size, hb2.block⟩
          have hg2 := heap_below hb2' Hg.out hlt2
          have hJ2 := hJ _ _ _ hJp hb2'
          have hL2 := L.below hb2'
          clear hcs L hJp
          gi_wp2_with fail
          go_roundw
          case rel => exact ⟨p + 1, by omega, by omega, by go_num, hg2, by rw [wl, if_pos (.inr HE.out)]; exact hJ2, hL2, Nat.le_trans hW hb2'.size⟩
          case measure => simp [intOf]; omega
      · have hbb : (((F p : Nat) : Int) != ((fol F p : Nat) : Int)) = true := by simp; omega
        have HE := hid he
        clear he
        have HY := hid (fun w2 (hb2 : Below wr.drew.heap.size wr.drew w2) => hY (wl F p) p w2 (hJ _ _ _ hJp ⟨hb2.os, hb2.tape, hb2.output, hb2.size, hb2.block⟩) (by omega))
        gi_wp2_with fail
        gi_region_with (first | (gi_at_call 90; refine (callsIn_wide.2 HC1.out).mono ?_; rintro e w2 ⟨rfl, hb2⟩; have hc2 := HC.out w2 hb2; obtain ⟨fn, tmps, assign, body, hy, hR⟩ := HY.out w2 hb2) | (refine hR.mono ?_; rintro e w3 hw3; obtain ⟨b, rfl, hbt, hbf⟩ := stop_bool hw3))
        all_goals
          have hb2' : Below wr.heap.size wr w2 := ⟨hb2.os, hb2.tape, hb2.output, hb2.size, hb2.block⟩
          have hg2 := heap_below hb2' Hg.out hlt2
          have hL2 := L.below hb2'
          have hn2 := Nat.le_trans hW hb2'.size
          clear hcs L hJp hR hy
          cases b with
          | true =>
            obtain ⟨hJ3, hb3⟩ := hbt rfl
            clear hbt hbf hw3
            gi_wp2_with fail
            go_roundw
            case rel => exact ⟨p + 1, by omega, by omega, by go_num, heap_below hb3 hg2 hBs, by rw [wl, if_neg (by simp [HE.out]; omega)]; exact hJ3, hL2.belowN hb3 h20, Nat.le_trans hn2 hb3.size⟩
            case measure => simp [intOf]; omega
          | false =>
            have hJ3 := hbf rfl
            clear hbt hbf hw3
            gi_wp2_with fail
            refine bodyPost_ret (results_none rfl _ _ _) rfl ?_
            exact ⟨⟨_, rfl⟩, .inr ⟨_, trivial, hJ3⟩⟩
    · have hge : ¬ (p : Int) < 16 := by omega
      obtain rfl : p = 16 := by omega
      gi_wp2_with fail
      go_end0
      first
        | exact ⟨⟨_, rfl⟩, Or.inl hJp⟩
        | exact ⟨⟨_, rfl⟩, Or.inl ⟨wl F 16, rfl, hJp⟩⟩

theorem wrong_stops (F : Nat → Nat) (hF : ∀ i, i < 16 → F i < 16) (n : Nat) (hn : 1 ≤ n) (Bs n₀ : Nat) (hBs : Bs < n₀) (h20 : 1 < n₀ ∧ 1 < n₀) (w : World) (L : Laid w) (hw : n₀ ≤ w.heap.size) (hg : w.heap[Bs]? = some (.cells (irow 16 (cst F)) 88 (0, 0))) :
    SeqStopsK Fence.wide n Tryd.prog 99 #[.pointer (some ⟨Bs, 0, none⟩)] (fun x : Int => #[Value.int .i64 x]) (Below n₀) (fun ys => ys = wl F 16) (fun _ => True) 16 w := fun l J Jx W hW hJ _ hY h0 =>
  wrong1_in F hF n hn l Bs n₀ hBs h20 J Jx hY (fun pre A B h hb => hJ pre A B none h ⟨hb.os, hb.tape, hb.output, hb.size, fun k hk _ => hb.block k hk⟩ (fun r e => by cases e)) W (L.below hW) (Nat.le_trans hw hW.size) (heap_below hW hg (by omega)) h0
end Go.Proofs.YtcdbkgpgjjeoiaaDoor
