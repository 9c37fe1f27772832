/- Walks: Deviants of a drawing in which nobody deviates. -/
import Derived.Test.YtbcileppebpamaaGreatDoorYA
set_option linter.unusedSimpArgs false
set_option linter.unusedVariables false
namespace Go.Proofs.YtbcileppebpamaaGreatDoor
open Go Go.RowKit Go.Shelf
set_option maxRecDepth 100000

attribute [local go_sem] Oper.semAt_some
set_option maxHeartbeats 4000000 in
theorem appendSeq_nil (n : Nat) (hn : 4 ≤ n) {W : World} {b q : Nat} {D : DS} (hd : DevAt W b q D) (hps : D.ps.length ≤ 30) (hde : D.devs = []) :
    CallsIn Fence.wide n Tryz.prog 82 #[.slice none 0 0, .func (.func 62) #[.pointer (some ⟨b, 0, none⟩)] #[]] W fun e W' => e = .returned (.slice none 0 0) ∧ Below W.heap.size W W' := by
  have hx := heap_alloc_new W (.cells #[.slice none 0 0] 35)
  have hb : Below W.heap.size W (W.alloc (.cells #[.slice none 0 0] 35)) := (Below.refl _ _).alloc (Nat.le_refl _) _
  have hs : (W.alloc (.cells #[.slice none 0 0] 35)).heap.size = W.heap.size + 1 := by simp
  have hd2 := hd.below hb
  obtain ⟨g, hg⟩ : ∃ g, W.heap.size = g := ⟨_, rfl⟩
  rw [hg] at hx hb hs ⊢
  have HG := hid hg
  have HX := hid hx
  have HB := hid hb
  have HD := hid hd2
  have HS := hid hs
  clear hx hb hd hd2 hs
  refine callsIn_of_wp_marks Tryz.func82 rfl trivial ?_ rfl
  simp only [Tryz.ntmps82, List.size_toArray, List.length_cons, List.length_nil, Nat.reduceAdd, Nat.reduceSub, Array.replicate_succ, Array.replicate_zero, List.push_toArray, List.append_toArray, List.nil_append, List.cons_append]
  gi_wp2_with fail
  generalize W.alloc (.cells #[.slice none 0 0] 35) = W1 at HX HB HD HS ⊢
  have hSQ := dev_seq (n - 1) (by omega) b q D hps W1 HD.out
  apply rb_outA rfl (show 1 ≤ n by omega) (gf := 62) (pb := #[.pointer (some ⟨b, 0, none⟩)]) (lb := #[]) rfl trivial (enters_of Tryz.func62 (by kernel_rfl) rfl) hSQ (fun _ => rfl)
    (fun pre V => pre = [] ∧ Below W1.heap.size W1 V)
    (fun c pre V => False)
    (fun pre => (Abd.pure _ _).and (Abd.belowOf (Nat.le_refl _) (Nat.le_refl _))) (fun c pre => Abd.pure _ _) (fun pre x => Abd.pure _ _) ⟨rfl, Below.refl _ _⟩ (A := fun _ => { tmps := #[], defers := [] })
  case hassign =>
    intro l pre x V K hi ho hK
    obtain ⟨rest, h⟩ := ho
    rw [hde] at h
    exact absurd h.symm (by simp)
  case hbody =>
    rintro l pre x V hl hr hi ho
    obtain ⟨rest, h⟩ := ho
    rw [hde] at h
    exact absurd h.symm (by simp)
  case hstop =>
    rintro M c pre V hM hf hmk
    exact hf.elim
  case hdone =>
    rintro M xs V hM hend ⟨rfl, hBV⟩ hmk
    have hx4 : Boxed V g 35 (.slice none 0 0) := heap_below hBV HX.out (by have := HS.out; omega)
    have c0 := hx4.cell
    have HB4 := hid (HB.out.trans (hBV.mono (by have := HS.out; omega)))
    have HMK := hid hmk
    clear hx4 hBV hmk hend hSQ
    gi_wp2_with fail
    refine leaves_marks g [M] _ (by simp) (fun M' hM' => ?_) (fun W' hb' hc' => ?_)
    · obtain rfl : M' = M := by simpa using hM'
      exact ⟨HMK.out, by have := HS.out; omega⟩
    · exact ⟨_, results_tmp Tryz.results82 _ _ _, rfl, HB4.out.trans hb'⟩
theorem collect_nil {W : World} {b q : Nat} {D : DS} (hd : DevAt W b q D) (hps : D.ps.length ≤ 30) (hde : D.devs = []) :
    Calls Tryz.prog 64 #[.func (.func 62) #[.pointer (some ⟨b, 0, none⟩)] #[]] W fun e W' => e = .returned (.slice none 0 0) ∧ Below W.heap.size W W' := by
  have HA := hid (callsIn_wide.1 (appendSeq_nil 4 (Nat.le_refl _) hd hps hde))
  clear hd hde
  go_enter Tryz.func64, Tryz.ntmps64
  go_wp2_with (go_at_call 82; refine HA.out.mono ?_; rintro e w1 ⟨rfl, hb1⟩)
  go_ret
  exact ⟨rfl, hb1⟩
theorem Deviants_nil {W : World} {b q : Nat} {D : DS} (hd : DevAt W b q D) (hps : D.ps.length ≤ 30) (hde : D.devs = []) :
    Calls Tryz.prog 24 #[.pointer (some ⟨b, 0, none⟩)] W fun e W' => e = .returned (.tuple #[.slice none 0 0, .int .i64 0]) ∧ Below W.heap.size W W' := by
  have HA := hid (collect_nil hd hps hde)
  clear hd hde
  go_enter Tryz.func24, Tryz.ntmps24
  go_wp2_with (go_at_call 64; refine HA.out.mono ?_; rintro e w1 ⟨rfl, hb1⟩)
  go_ret2
  exact ⟨rfl, hb1⟩
end Go.Proofs.YtbcileppebpamaaGreatDoor
