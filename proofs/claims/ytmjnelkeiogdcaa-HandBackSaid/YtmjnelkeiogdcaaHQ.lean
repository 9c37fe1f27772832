/- Walks of package hand: lasts. -/
import Derived.Test.YtmjnelkeiogdcaaHP
namespace Go.Proofs.Ytmjnelkeiogdcaa
open Go Go.RowKit Go.Shelf
set_option maxRecDepth 100000

attribute [local go_sem] Oper.semAt_some
set_option maxHeartbeats 1000000 in
theorem lasts_in (n : Nat) (hn : 24 ≤ n) (N : Nat) (H : HV) (fv cv : Value) (hF : Fit H (.divided H.changes H.count)) (w : World) (hH : HandAt w N H fv cv) :
    CallsIn Fence.wide n Try.prog 58 #[.agg (handA H fv cv)] w fun e w' => (∃ b : Bool, e = .returned (.bool b) ∧ (b = true ↔ ∀ k s, Reach H (.divided H.changes H.count) k s → okD s = true)) ∧ Below w.heap.size w w' := by
  have hx := alloc2_first w (.cells (handA H fv cv) 26) (.cells #[.bool false] 4)
  have hy := alloc2_second w (.cells (handA H fv cv) 26) (.cells #[.bool false] 4)
  have hb := below2 w (.cells (handA H fv cv) 26) (.cells #[.bool false] 4)
  have hs2 : ((w.alloc (.cells (handA H fv cv) 26)).alloc (.cells #[.bool false] 4)).heap.size = w.heap.size + 2 := by simp
  have hH2 : HandAt ((w.alloc (.cells (handA H fv cv) 26)).alloc (.cells #[.bool false] 4)) N H fv cv := hH.below (hb.mono hH.le)
  have HS := hid (show Calls Try.prog 72 #[.agg (handA H fv cv), .iface 102 (.agg #[.int .i64 ((H.changes : Nat) : Int), .int .i64 ((H.count : Nat) : Int)]), .func (.func 73) #[] #[]] _ _ from states_c N H fv cv (.divided H.changes H.count) _ hH2)
  have c6 : ((w.alloc (.cells (handA H fv cv) 26)).alloc (.cells #[.bool false] 4)).cell? ⟨w.heap.size, 6, none⟩ = some (.int .i64 ((H.changes : Nat) : Int)) := by rw [cell_of_row _ _ 6 _ _ (0, 0) hx]; rfl
  have c1 : ((w.alloc (.cells (handA H fv cv) 26)).alloc (.cells #[.bool false] 4)).cell? ⟨w.heap.size, 1, none⟩ = some (.int .i64 ((H.count : Nat) : Int)) := by rw [cell_of_row _ _ 1 _ _ (0, 0) hx]; rfl
  have HX := hid hx
  have HY := hid hy
  have HB := hid hb
  refine callsIn_of_wp_marks Try.func58 rfl trivial ?_ rfl
  simp only [Try.ntmps58, List.size_toArray, List.length_cons, List.length_nil, Nat.reduceAdd, Nat.reduceSub, Array.replicate_succ, Array.replicate_zero, List.push_toArray, List.append_toArray, List.nil_append, List.cons_append]
  clear hx hy hb hH hH2
  gi_wp2_with (first
    | (refine wpListIn_value lets_wide rfl (by intro c hc; cases hc) (.agg (handA H fv cv)) (exec_ldhand rfl rfl HX.out) ?_)
    | (gi_at_call 72; refine (callsIn_wide.2 HS.out).mono ?_; rintro e W2 ⟨rfl, hb2, hsz2, hly2, hbi⟩))
  have HY2 := hid (heap_below hb2 HY.out (heap_lt HY.out))
  have HB2 := hid (HB.out.trans (hb2.mono (by rw [hs2]; omega)))
  rw [hs2] at hsz2 hly2 hbi
  obtain ⟨g, hg⟩ : ∃ g, w.heap.size = g := ⟨_, rfl⟩
  rw [hg] at HY2 HB2 hsz2 hly2 hbi ⊢
  have hSQ := states1_one (n - 1) (by omega) N (g + 2 + 1) (g + 2) (g + 2 + 2) H fv cv H.changes H.count hF W2 hly2 hbi
  clear HX HY HB HS hb2 hly2 hbi c6 c1
  gi_wp2_with fail
  apply rg_first rfl (show 1 ≤ n by omega) (gf := 77) (lb := #[.pointer (some ⟨g + 2, 0, none⟩), .pointer (some ⟨g + 2 + 1, 0, none⟩), .pointer (some ⟨g + 2 + 2, 0, none⟩)]) rfl trivial (enters_of Try.func77 (by kernel_rfl) rfl) hSQ (fun _ => rfl)
    (fun c x V => c = .ret ∧ ((∃ k, Reach H (.divided H.changes H.count) k x) ∧ okD x = false) ∧ Boxed V (g + 1) 4 (.bool false) ∧ Below g w V)
    (fun c x => (Abd.pure _ _).and ((Abd.pure _ _).and ((Abd.boxed _ _ _ _).and (Abd.belowOf (by omega) (by omega))))) (fun x => Abd.pure _ _)
  case hassign =>
    intro l x V K hi ho hK
    simp only [encSt]
    gi_wp2_with fail
    first | rfl | exact hK _ rfl
  case hbody =>
    rintro l x V hl hr hBV hok
    have hbx := heap_below hBV HY2.out (heap_lt HY2.out)
    have hbx' : Boxed V (g + 1) 4 (.bool false) := hbx
    have hc := hbx'.cell
    have hf := hbx'.frozen
    have HBX := hid (show Boxed (V.setCell ⟨g + 1, 0, none⟩ (.bool false)) (g + 1) 4 (.bool false) from hbx'.set _)
    have HKL := hid ((KeepsL.refl V).setCell (i := 0) (.bool false) hbx)
    have HB3 := hid ((HB2.out.trans (hBV.mono (by omega))).setCell (p := ⟨g + 1, 0, none⟩) (show g ≤ g + 1 by omega) (.bool false))
    have HOK := hid hok
    clear hbx hbx' hBV hok
    gi_wp2_with fail
    exact ⟨HKL.out.r l, x, rfl, rfl, HOK.out, HBX.out, HB3.out⟩
  case hdone =>
    rintro D V hD hend hBV hmk
    have hbx : Boxed V (g + 1) 4 (.bool false) := heap_below hBV HY2.out (heap_lt HY2.out)
    have hc := hbx.cell
    have hf := hbx.frozen
    have HBX := hid (hbx.set (.bool true))
    have HB3 := hid ((HB2.out.trans (hBV.mono (by omega))).setCell (p := ⟨g + 1, 0, none⟩) (show g ≤ g + 1 by omega) (.bool true))
    have hne : g + 1 ≠ D := by omega
    have HE := hid hend
    clear hbx hBV hend
    gi_wp2_with fail
    refine leaves_marks g [D] _ (by simp) (fun D' hD' => ?_) (fun W' hb' hc' => ?_)
    · obtain rfl : D' = D := by simpa using hD'
      exact ⟨(heap_setCell_other V ⟨g + 1, 0, none⟩ D' _ (show D' ≠ g + 1 by omega)).trans hmk, by omega⟩
    · exact ⟨_, results_cell Try.results58 rfl Try.isAgg4 (hc' _ _ HBX.out rfl), ⟨true, rfl, ⟨fun _ => HE.out, fun _ => rfl⟩⟩, by rw [hg]; exact HB3.out.trans hb'⟩
  case hstop =>
    rintro D c x V hD ⟨rfl, hok, hbx, hB⟩ hmk
    have HBX := hid hbx
    have HB3 := hid hB
    have HOK := hid hok
    clear hbx hB hok
    gi_wp2_with fail
    refine leaves_marks g [D] _ (by simp) (fun D' hD' => ?_) (fun W' hb' hc' => ?_)
    · obtain rfl : D' = D := by simpa using hD'
      exact ⟨hmk, by omega⟩
    · refine ⟨_, results_cell Try.results58 rfl Try.isAgg4 (hc' _ _ HBX.out rfl), ⟨false, rfl, ⟨(fun h => by cases h), fun h => ?_⟩⟩, by rw [hg]; exact HB3.out.trans hb'⟩
      obtain ⟨⟨k, hr⟩, hf⟩ := HOK.out
      rw [h k x hr] at hf
      cases hf
theorem lasts_c (N : Nat) (H : HV) (fv cv : Value) (hF : Fit H (.divided H.changes H.count)) (w : World) (hH : HandAt w N H fv cv) :
    Calls Try.prog 58 #[.agg (handA H fv cv)] w fun e w' => (∃ b : Bool, e = .returned (.bool b) ∧ (b = true ↔ ∀ k s, Reach H (.divided H.changes H.count) k s → okD s = true)) ∧ Below w.heap.size w w' :=
  callsIn_wide.1 (lasts_in 24 (Nat.le_refl _) N H fv cv hF w hH)
end Go.Proofs.Ytmjnelkeiogdcaa
