/- Walks: Deviants of a drawing. -/
import Derived.Test.YtbcileppebpamaaDoorYB
set_option linter.unusedSimpArgs false
set_option linter.unusedVariables false
namespace Go.Proofs.YtbcileppebpamaaDoor
open Go Go.RowKit Go.Shelf
set_option maxRecDepth 100000

theorem infoDev : (Tryd.prog.info? 66).map (fun i => (i.zero, i.size, i.bytes)) = some (some (.agg #[.int .i64 0, .int .i64 0, .int .i64 0, .int .i64 0]), 4, 32) := by kernel_rfl
def Dv.cells (d : Dv) : List Value := [.int .i64 ((d.p : Nat) : Int), .int .i64 d.k, .int .i64 ((d.s : Nat) : Int), .int .i64 ((d.l : Nat) : Int)]
/-- A slice of deviants of the call's own. -/
def DvO (W : World) (B : Nat) (v : Value) (ds : List Dv) : Prop := W.ownsRow B 66 4 v ds.length (ds.flatMap Dv.cells)
theorem DvO.abd (B B0 : Nat) (v : Value) (ds : List Dv) : Abd B fun W => DvO W B0 v ds :=
  ⟨fun W W' h hb => ⟨h.1, h.2.imp id fun ⟨g, cap, cur, h3, h4, h5, h6⟩ => ⟨g, cap, cur, h3, h4, (Abd.block B g _ rfl).below _ _ h5 hb, h6⟩⟩,
   fun W l r r' hl h hr => ⟨h.1, h.2.imp id fun ⟨g, cap, cur, h3, h4, h5, h6⟩ => ⟨g, cap, cur, h3, h4, (Abd.block B g _ rfl).turn W l r r' hl h5 hr, h6⟩⟩,
   fun W D hl h hr => ⟨h.1, h.2.imp id fun ⟨g, cap, cur, h3, h4, h5, h6⟩ => ⟨g, cap, cur, h3, h4, (Abd.block B g _ rfl).mark W D hl h5 hr, h6⟩⟩⟩
theorem DvO.below {W W' : World} {B : Nat} {v : Value} {ds : List Dv} (h : DvO W B v ds) (hb : Below W.heap.size W W') : DvO W' B v ds :=
  ⟨h.1, h.2.imp id fun ⟨g, cap, cur, h3, h4, h5, h6⟩ => ⟨g, cap, cur, h3, h4, heap_below hb h5 (heap_lt h5), h6⟩⟩
theorem DvO.book {W W' : World} {B B' : Nat} {v : Value} {ds : List Dv} (h : DvO W B v ds) (hk : ∀ (b : Nat) (o : Obj), W.heap[b]? = some o → isBook o = false → W'.heap[b]? = some o) (hB : B' ≤ B := by omega) : DvO W' B' v ds :=
  ⟨h.1, h.2.imp id fun ⟨g, cap, cur, h3, h4, h5, h6⟩ => ⟨g, cap, cur, h3, Nat.le_trans hB h4, hk _ _ h5 rfl, h6⟩⟩
theorem DvO.form {W : World} {B : Nat} {v : Value} {ds : List Dv} (h : DvO W B v ds) : ∃ p c, v = .slice p ds.length c := by
  rcases h.2 with ⟨rfl, h0⟩ | ⟨g, cap, cur, h3, _⟩
  · exact ⟨none, 0, by rw [h0]⟩
  · exact ⟨_, _, h3⟩
theorem DvO.neLow {W : World} {B : Nat} {v : Value} {ds : List Dv} (h : DvO W B v ds) {b : Nat} (hb : b < B) : some b ≠ v.ownBlock := by
  rcases h.2 with ⟨rfl, h0⟩ | ⟨g, cap, cur, rfl, h4, _⟩
  · simp [Value.ownBlock]
  · simp [Value.ownBlock]; omega
theorem DvO.neBook {W : World} {B : Nat} {v : Value} {ds : List Dv} (h : DvO W B v ds) {b : Nat} {o : Obj} (hb : W.heap[b]? = some o) (ho : isBook o = true) : some b ≠ v.ownBlock := by
  rcases h.2 with ⟨rfl, h0⟩ | ⟨g, cap, cur, rfl, h4, h5, _⟩
  · simp [Value.ownBlock]
  · intro e
    simp [Value.ownBlock] at e
    subst e
    rw [h5] at hb
    cases hb
    cases ho
theorem app_round {W V w' : World} {g b q : Nat} {v v2 : Value} {pre ds : List Dv} {o : Obj} {T : TypeId} (hbq : b < g ∧ q < g) (hdv : DvO V (g + 1) v pre) (hbV : Below g W V) (hgV : g + 1 ≤ V.heap.size) (hbx : Boxed V g T v) (hw : (V.alloc o).grownBy w' v.ownBlock) (hv : DvO w' (g + 1) v2 ds) :
    KeepsL V (w'.setCell ⟨g, 0, none⟩ v2) ∧ KeptS (fun k => k = b ∨ k = q) V (w'.setCell ⟨g, 0, none⟩ v2) ∧ (∃ v, Boxed (w'.setCell ⟨g, 0, none⟩ v2) g T v ∧ DvO (w'.setCell ⟨g, 0, none⟩ v2) (g + 1) v ds) ∧ Below g W (w'.setCell ⟨g, 0, none⟩ v2) ∧ g + 1 ≤ (w'.setCell ⟨g, 0, none⟩ v2).heap.size := by
  have hsz : V.heap.size ≤ w'.heap.size := Nat.le_trans (by simp) hw.size
  have hk : ∀ (k : Nat) (o : Obj), V.heap[k]? = some o → some k ≠ v.ownBlock → w'.heap[k]? = some o := fun k o ho hne =>
    (hw.block k (by have := heap_lt ho; simp; omega) hne).trans (heap_below ((Below.refl V.heap.size V).alloc (Nat.le_refl _) _) ho (heap_lt ho))
  have hg0 : w'.heap[g]? = some (.cells #[v] T (0, 0)) := hk _ _ hbx (hdv.neLow (by omega))
  refine ⟨KeepsL.setCell ⟨hsz, fun k o ho hb => hk k o ho (hdv.neBook ho hb)⟩ _ hg0, KeptS.setCell ⟨hsz, fun k hS o ho _ => hk k o ho (hdv.neLow (by omega)), fun k x ho => hk k _ ho (hdv.neBook ho rfl)⟩ _ (by omega), ⟨v2, ?_, ?_⟩, ?_, by simp; omega⟩
  · exact Boxed.set v2 hg0
  · exact ⟨hv.1, hv.2.imp id fun ⟨k, cap, cur, h3, h4, h5, h6⟩ => ⟨k, cap, cur, h3, h4, (heap_setCell_other w' ⟨g, 0, none⟩ k v2 (by show k ≠ g; omega)).trans h5, h6⟩⟩
  · refine Below.setCell (p := ⟨g, 0, none⟩) ?_ (Nat.le_refl _) _
    have h1 : Below g V (V.alloc o) := Below.alloc (Below.refl _ _) (by omega) _
    exact hbV.trans (h1.trans ⟨hw.os, hw.tape, hw.output, hw.size, fun k hk2 => hw.block k (by simp; omega) (hdv.neLow (by omega))⟩)
theorem wpO_app_dev {o : Oper} {a : Act} {w : World} {K : Act → World → Prop} {Q : Exit → Act → World → Prop} (s x : Operand)
    (ho : o.op = .call { callee := .builtin .append, args := #[s, x], argTypes := #[47, 47] }) (B : Nat) (v : Value) (ds : List Dv) (hs : a.eval s = v) (hown : DvO w B v ds)
    (d : Dv) (g c : Nat) (hx : a.eval x = .slice (some ⟨g, 0, none⟩) 1 c) (hc : w.heap[g]? = some (.cells d.cells.toArray 66 (0, 0))) (hlen : ds.length < 100000) (hB : B ≤ w.heap.size)
    (h : ∀ v' w', DvO w' B v' (ds ++ [d]) → w.grownBy w' v.ownBlock → K (a.put o.dst v') w') : o.wp Tryd.prog a w K Q := by
  obtain ⟨i0, hi, hz0, hz1, hz2⟩ := info_parts infoDev
  obtain ⟨v', w', hrun, r1, r2, r3⟩ := run_append_own (P := Tryd.prog) w B 47 o.type 66 i0 (.agg #[.int .i64 0, .int .i64 0, .int .i64 0, .int .i64 0]) 4 32 Tryd.underlying47 hi hz0 hz1 hz2 rfl (by decide) v ds.length _ hown ⟨g, 0, none⟩ 1 c d.cells rfl
    (fun j u hj => by
      rw [show (⟨g, 0, none⟩ : Addr).add j = ⟨g, j, none⟩ by unfold Addr.add; split <;> simp_all, cell_of_row _ _ j _ _ (0, 0) hc]
      simpa using hj) (fun u hu => by
      simp only [Dv.cells, List.mem_cons, List.not_mem_nil, or_false] at hu
      rcases hu with rfl | rfl | rfl | rfl <;> rfl) (by unfold maxLen; omega) (by omega) hB
  unfold Oper.wp execOp
  simp only [ho, resolve, invoke, builtin, Sem.run_bind, Sem.run_pure, Result.andThen_ok, List.map_toArray, List.map_cons, List.map_nil, hs, hx, hrun]
  refine h v' w' ?_ r2
  unfold DvO
  simpa [List.flatMap_append] using r1
theorem wpListIn_appdev {F : Fence} {m : Nat} {ops : Array Oper} (hF : Lets F) {rest : List Oper} {o : Oper} {Q : Exit → Act → World → Prop} {a : Act} {w : World} (hgd : o.guard = none) (hd : ∀ c, o.op ≠ .defer c) (s x : Operand)
    (ho : o.op = .call { callee := .builtin .append, args := #[s, x], argTypes := #[47, 47] }) (B : Nat) (v : Value) (ds : List Dv) (hs : a.eval s = v) (hown : DvO w B v ds)
    (d : Dv) (g c : Nat) (hx : a.eval x = .slice (some ⟨g, 0, none⟩) 1 c) (hc : w.heap[g]? = some (.cells d.cells.toArray 66 (0, 0))) (hlen : ds.length < 100000) (hB : B ≤ w.heap.size)
    (h : ∀ v' w', DvO w' B v' (ds ++ [d]) → w.grownBy w' v.ownBlock → wpListIn F m Tryd.prog ops Q rest (a.put o.dst v') w') : wpListIn F m Tryd.prog ops Q (o :: rest) a w :=
  wpListIn_plain hgd fun K hK' => oper_in hF hd (fun _ _ h => h) (Q' := Q) (K := K) (wpO_app_dev s x ho B v ds hs hown d g c hx hc hlen hB fun v' w' h1 h2 => hK' _ _ (h v' w' h1 h2))
attribute [local go_sem] Oper.semAt_some
set_option maxHeartbeats 4000000 in
theorem appendSeq_in (n : Nat) (hn : 4 ≤ n) {W : World} {b q : Nat} {D : DS} (hd : DevAt W b q D) (hps : D.ps.length ≤ 30) (hdl : D.devs.length ≤ 30) :
    CallsIn Fence.wide n Tryd.prog 61 #[.slice none 0 0, .func (.func 44) #[.pointer (some ⟨b, 0, none⟩)] #[]] W fun e W' => ∃ v, e = .returned v ∧ DvO W' W.heap.size v D.devs ∧ Below W.heap.size W W' := by
  have hx := heap_alloc_new W (.cells #[.slice none 0 0] 47)
  have hb : Below W.heap.size W (W.alloc (.cells #[.slice none 0 0] 47)) := (Below.refl _ _).alloc (Nat.le_refl _) _
  have hbq : b < W.heap.size ∧ q < W.heap.size := ⟨let ⟨_, h⟩ := hd.box; heap_lt h, heap_lt hd.row⟩
  have hs : (W.alloc (.cells #[.slice none 0 0] 47)).heap.size = W.heap.size + 1 := by simp
  have hd2 := hd.below hb
  obtain ⟨g, hg⟩ : ∃ g, W.heap.size = g := ⟨_, rfl⟩
  rw [hg] at hx hb hs hbq ⊢
  have HBQ := hid hbq
  have HG := hid hg
  have HX := hid hx
  have HB := hid hb
  have HD := hid hd2
  have HS := hid hs
  clear hx hb hd hd2 hs hbq
  refine callsIn_of_wp_marks Tryd.func61 rfl trivial ?_ rfl
  simp only [Tryd.ntmps61, List.size_toArray, List.length_cons, List.length_nil, Nat.reduceAdd, Nat.reduceSub, Array.replicate_succ, Array.replicate_zero, List.push_toArray, List.append_toArray, List.nil_append, List.cons_append]
  gi_wp2_with fail
  generalize W.alloc (.cells #[.slice none 0 0] 47) = W1 at HX HB HD HS ⊢
  have hSQ := dev_seq (n - 1) (by omega) b q D hps W1 HD.out
  have hgW : g + 1 ≤ W1.heap.size := by rw [HS.out]; exact Nat.le_refl _
  apply rb_out rfl (show 1 ≤ n by omega) (gf := 44) (pb := #[.pointer (some ⟨b, 0, none⟩)]) (lb := #[]) rfl trivial (enters_of Tryd.func44 (by kernel_rfl) rfl) hSQ (fun _ => rfl)
    (fun pre V => (∃ v, Boxed V g 47 v ∧ DvO V (g + 1) v pre) ∧ Below g W V ∧ g + 1 ≤ V.heap.size)
    (fun c pre V => False)
    (fun pre => (Abd.ex fun v => (Abd.boxed _ _ _ _).and (DvO.abd _ _ _ _)).and ((Abd.belowOf (by have := HG.out; omega) (by omega)).and ⟨fun _ _ h hb => Nat.le_trans h hb.size, fun W l r r' hl h hr => by simpa [World.putObj] using h, fun W D hl h hr => by simpa [World.putObj] using h⟩)) (fun c pre => Abd.pure _ _) (fun pre x => Abd.pure _ _) ⟨⟨_, HX.out, World.ownsRow_nil W1 (g + 1) _ _⟩, HB.out, hgW⟩
    (fun x a' V => ∃ z, g + 1 ≤ z ∧ V.heap[z]? = some (.cells x.cells.toArray 66 (0, 0)) ∧ a' = { tmps := #[.slice none 0 0, .func (.func 44) #[.pointer (some ⟨b, 0, none⟩)] #[], .pointer (some ⟨g, 0, none⟩), undef, .slice none 0 0, .pointer (some ⟨z, 0, none⟩), .func (.func 44) #[.pointer (some ⟨b, 0, none⟩)] #[], x.enc, undef, undef, undef, undef, undef], defers := [] }) (fun x a' => Abd.ex fun z => (Abd.pure _ _).and ((Abd.block _ _ _ rfl).and (Abd.pure _ _)))
  case hstop =>
    rintro M c pre V hM hf hmk
    exact hf.elim
  case hassign =>
    intro l pre x V K hi ho hK
    have hgV := hi.2.2
    have HK := hid hK
    clear hi ho hK
    simp only [Dv.enc]
    gi_wp2_with fail
    exact HK.out _ _ ((Below.refl _ _).alloc (Nat.le_refl _) _) ⟨_, hgV, heap_alloc_new V _, rfl⟩
  case hdone =>
    rintro M xs V hM rfl ⟨⟨v, hbx, hdv⟩, hbV, hgV⟩ hmk
    have c0 := hbx.cell
    have HB4 := hid (And.intro hdv hbV)
    have HMK := hid hmk
    clear hbx hdv hbV hmk hSQ
    gi_wp2_with fail
    refine leaves_marks g [M] _ (by simp) (fun M' hM' => ?_) (fun W' hb' hc' => ?_)
    · obtain rfl : M' = M := by simpa using hM'
      exact ⟨HMK.out, by omega⟩
    · exact ⟨_, results_tmp Tryd.results61 _ _ _, _, rfl, HB4.out.1.book hc', HB4.out.2.trans hb'⟩
  case hbody =>
    rintro l pre x a' V hl hr ⟨⟨v, hbx, hdv⟩, hbV, hgV⟩ hok ⟨z, hgz, hz, rfl⟩
    have c0 := hbx.cell
    have f0 := hbx.frozen
    have d0 := cell_of_row _ _ 0 _ _ _ hz
    have d1 := cell_of_row _ _ 1 _ _ _ hz
    have d2 := cell_of_row _ _ 2 _ _ _ hz
    have d3 := cell_of_row _ _ 3 _ _ _ hz
    have HH := hid (And.intro hdv (And.intro hbV (And.intro hgV (And.intro hz hbx))))
    have HO := hid hok
    clear hdv hbV hgV hz hbx hSQ hok hgz hr
    have hpl : pre.length < 100000 := by
      obtain ⟨rest, h⟩ := HO.out
      have h2 := congrArg List.length h
      simp at h2
      omega
    simp only [Dv.cells] at d0 d1 d2 d3
    refine wpIn_block ?_
    gi_wp2_with (refine wpListIn_appdev (lets_round l) rfl (by intro c; simp) _ _ rfl (g + 1) v pre rfl (HH.out.1.below (Below.alloc (Below.refl _ _) (Nat.le_refl _) _)) x V.heap.size 1 rfl (heap_alloc_new V _) hpl (by have := HH.out.2.2.1; simp; omega) fun v' w' hv' hw' => ?_; obtain ⟨p2, c2, rfl⟩ := hv'.form; have hg0 : w'.heap[g]? = some (.cells #[v] 47 (0, 0)) := (hw'.block g (by have := HH.out.2.2.1; simp; omega) (HH.out.1.neLow (by omega))).trans (heap_below (Below.alloc (Below.refl _ _) (Nat.le_refl _) _) HH.out.2.2.2.2 (by have := HH.out.2.2.1; omega)); have f1 := frozen_of_row w' g 0 _ _ hg0; have c1 := cell_of_row w' g 0 _ _ _ hg0; have HG0 := hid hg0; have HV := hid hv'; have HW := hid hw'; clear hv' hw' hg0)
    all_goals exact app_round HBQ.out HH.out.1 HH.out.2.1 HH.out.2.2.1 HH.out.2.2.2.2 HW.out (by have h := HV.out; rw [List.length_append] at h; exact h)
/-- Collect. -/
theorem collect_in {W : World} {b q : Nat} {D : DS} (hd : DevAt W b q D) (hps : D.ps.length ≤ 30) (hdl : D.devs.length ≤ 30) :
    Calls Tryd.prog 45 #[.func (.func 44) #[.pointer (some ⟨b, 0, none⟩)] #[]] W fun e W' => ∃ v, e = .returned v ∧ DvO W' W.heap.size v D.devs ∧ Below W.heap.size W W' := by
  have HA := hid (callsIn_wide.1 (appendSeq_in 4 (Nat.le_refl _) hd hps hdl))
  clear hd
  go_enter Tryd.func45, Tryd.ntmps45
  go_wp2_with (go_at_call 61; refine HA.out.mono ?_; rintro e w1 ⟨v1, rfl, hv1, hb1⟩)
  go_ret
  exact ⟨_, rfl, hv1, hb1⟩
theorem Deviants_in {W : World} {b q : Nat} {D : DS} (hd : DevAt W b q D) (hps : D.ps.length ≤ 30) (hdl : D.devs.length ≤ 30) :
    Calls Tryd.prog 22 #[.pointer (some ⟨b, 0, none⟩)] W fun e W' => ∃ v, e = .returned (.tuple #[v, .int .i64 0]) ∧ DvO W' W.heap.size v D.devs ∧ Below W.heap.size W W' := by
  have HA := hid (collect_in hd hps hdl)
  clear hd
  go_enter Tryd.func22, Tryd.ntmps22
  go_wp2_with (go_at_call 45; refine HA.out.mono ?_; rintro e w1 ⟨v1, rfl, hv1, hb1⟩)
  go_ret2
  exact ⟨_, rfl, hv1, hb1⟩
end Go.Proofs.YtbcileppebpamaaDoor
