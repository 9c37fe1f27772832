/- Walks of package house: where the figure of a house stands. -/
import Derived.Test.YtcdbkgpgjjeoiaaDoorHA
import Derived.Test.YtcdbkgpgjjeoiaaDoorHP
import Derived.Test.YtcdbkgpgjjeoiaaDoorSm
import Derived.BigFrameIn
namespace Go.Proofs.YtcdbkgpgjjeoiaaDoor
open Go Go.RowKit Go.Shelf
set_option maxRecDepth 100000
set_option linter.unusedSimpArgs false
set_option linter.unusedVariables false

attribute [local go_sem] Oper.semAt_some
/-- The houses that were found so far are in box bl; the set, in box b. -/
structure Sn (g bl base b : Nat) (w W0 : World) (xs : List Int) (W : World) : Prop where
  keep : KeepT 3 bl W0 W
  l : ∃ v, Boxed W bl 25 v ∧ Ints W base v xs
  box : ∃ u, Boxed W b 113 u
  below : Below g w W
theorem ints_kept {W W' : World} {B : Nat} {v : Value} {xs : List Int} (h : Ints W B v xs) (hk : ∀ (c : Nat) (cs : Array Value), W.heap[c]? = some (Obj.cells cs 3 (0, 0)) → W'.heap[c]? = some (Obj.cells cs 3 (0, 0))) : Ints W' B v xs := by
  refine ⟨h.1, ?_⟩
  rcases h.2 with h2 | ⟨g, cap, cur, h3, h4, h5, h6⟩
  · exact .inl h2
  · exact .inr ⟨g, cap, cur, h3, h4, hk g cur h5, h6⟩
theorem Sn.own {g bl base b : Nat} {w W0 : World} {f : List Nat → List Int} {B : Nat} (hB : W0.heap.size ≤ B) (hg : g ≤ B) (hw : g ≤ w.heap.size) : OwnFrom B (fun pre W => Sn g bl base b w W0 (f pre) W) := fun pre W W' row h hgr hr => by
  have hr' : ∀ r, row = some r → ∃ o : Obj, W.heap[r]? = some o ∧ o.isCells = false := fun r e => (hr r e).2
  obtain ⟨v, hv1, hv2⟩ := h.l
  obtain ⟨u, hu⟩ := h.box
  have hk := h.keep
  refine ⟨⟨hgr.os.trans hk.os, hgr.tape.trans hk.tape, hgr.output.trans hk.output, Nat.le_trans hk.size hgr.size, fun c o ho hb hc => ?_⟩, ⟨v, grown_kept hgr hr' hv1, ints_kept hv2 fun c cs hc => grown_kept hgr hr' hc⟩, ⟨u, grown_kept hgr hr' hu⟩, h.below.grown hgr (Nat.le_trans hw h.below.size) fun k e => Nat.le_trans hg (hr k e).1⟩
  have h1 := hk.block c o ho hb hc
  refine (hgr.block c (heap_lt h1) fun e => ?_).trans h1
  have := (hr c e.symm).1
  have := heap_lt ho
  omega
theorem Sn.setB {g bl base b : Nat} {w W0 W : World} {xs : List Int} (h : Sn g bl base b w W0 xs W) (h0 : W0.heap.size ≤ b) (hb : b ≠ bl) (hg : g ≤ b) (v : Value) : Sn g bl base b w W0 xs (W.setCell ⟨b, 0, none⟩ v) := by
  obtain ⟨x, hv1, hv2⟩ := h.l
  obtain ⟨u, hu⟩ := h.box
  have hk := h.keep
  refine ⟨⟨hk.os, hk.tape, hk.output, by simpa using hk.size, fun c o ho hc hx => ?_⟩, ⟨x, ?_, ints_kept hv2 fun c cs hc => ?_⟩, ⟨v, hu.set v⟩, h.below.setCell (p := ⟨b, 0, none⟩) hg v⟩
  · have h1 := hk.block c o ho hc hx
    have := heap_lt ho
    exact (heap_setCell_other W ⟨b, 0, none⟩ c v (show c ≠ b by omega)).trans h1
  · exact (heap_setCell_other W ⟨b, 0, none⟩ bl v (Ne.symm hb)).trans hv1
  · refine (heap_setCell_other W ⟨b, 0, none⟩ c v fun e => ?_).trans hc
    have e' : c = b := e
    subst e'
    rw [show W.heap[c]? = _ from hu] at hc
    injection hc with hc
    injection hc with _ hc
    exact absurd hc (by decide)
theorem Sn.add {g bl base b : Nat} {w W0 W W' : World} {xs xs' : List Int} (h : Sn g bl base b w W0 xs W) (hbl : b ≠ bl) (hg : g ≤ bl) (hl : ∃ v', Boxed W' bl 25 v' ∧ Ints W' base v' xs') (hb : Below bl W W') (hk : KeepT 3 bl W W') : Sn g bl base b w W0 xs' W' := by
  obtain ⟨u, hu⟩ := h.box
  refine ⟨h.keep.trans hk, hl, ⟨u, hk.block b _ hu hbl fun cs e => ?_⟩, h.below.trans (hb.mono hg)⟩
  injection e with _ e
  exact absurd e (by decide)
theorem enter_ints {g bl base b0 : Nat} {w V : World} {xs : List Int} {v : Value} (hb0 : V.heap.size = b0) (hg : g ≤ V.heap.size) (hB : Below g w V) (v1 : Boxed V bl 25 v) (v2 : Ints V base v xs) (u : Value) :
    Sn g bl base b0 w V xs (V.alloc (.cells #[u] 113)) := by
  subst hb0
  have hV2 : Below V.heap.size V (V.alloc (.cells #[u] 113)) := (Below.refl _ V).alloc (Nat.le_refl _) _
  exact ⟨KeepT.below hV2, ⟨v, boxb v1 hV2, v2.below hV2⟩, ⟨u, Boxed.new V _ _⟩, hB.trans (hV2.mono hg)⟩
theorem ints_not_row {W : World} {bl base : Nat} {u v : Value} {xs : List Int} (hB : Boxed W bl 25 u) (hT : Ints W base v xs) : some bl ≠ v.ownBlock := by
  intro e
  rcases hT.2 with ⟨h2, _⟩ | ⟨g, cap, cur, h3, _, h5, _⟩
  · rw [h2] at e; cases e
  · rw [h3] at e
    cases e
    have hB' : W.heap[_]? = _ := hB
    rw [hB'] at h5
    injection h5 with h5
    injection h5 with _ h5
    exact absurd h5 (by decide)
theorem keep_grown {bl B : Nat} {w w' : World} {v : Value} {xs : List Int} (hg : w.grownBy w' v.ownBlock) (h : Ints w B v xs) : KeepT 3 bl w w' := by
  refine ⟨hg.os, hg.tape, hg.output, hg.size, fun b o ho hb hx => (hg.block b (heap_lt ho) fun e => ?_).trans ho⟩
  rcases h.2 with ⟨h2, _⟩ | ⟨g, cap, cur, h3, _, h5, _⟩
  · rw [h2] at e; cases e
  · rw [h3] at e
    cases e
    rw [h5] at ho
    exact hx cur (by cases ho; rfl)
theorem ints_set {w : World} {B : Nat} {v : Value} {xs : List Int} (h : Ints w B v xs) {g i : Nat} (hg : g < B) (u : Value) : Ints (w.setCell ⟨g, i, none⟩ u) B v xs := by
  refine ⟨h.1, ?_⟩
  rcases h.2 with h2 | ⟨b, cap, cur, h3, h4, h5, h6⟩
  · exact .inl h2
  · exact .inr ⟨b, cap, cur, h3, h4, (heap_setCell_other w ⟨g, i, none⟩ b u (show b ≠ g by omega)).trans h5, h6⟩
/-- A number was added. -/
theorem int_added {W w2 : World} {bl base : Nat} {v v2 : Value} {xs : List Int} {m : Int} {cs : Array Value} (hB : Boxed W bl 25 v) (hbl : bl < base) (hbase : base ≤ W.heap.size) (hT : Ints W base v xs)
    (hg2 : (W.alloc (.cells cs 3)).grownBy w2 v.ownBlock) (hT2 : Ints w2 base v2 (xs ++ [m])) :
    (∃ v', Boxed (w2.setCell ⟨bl, 0, none⟩ v2) bl 25 v' ∧ Ints (w2.setCell ⟨bl, 0, none⟩ v2) base v' (xs ++ [m])) ∧ Below bl W (w2.setCell ⟨bl, 0, none⟩ v2) ∧ KeepT 3 bl W (w2.setCell ⟨bl, 0, none⟩ v2) ∧ Boxed w2 bl 25 v := by
  have hB1 : Boxed (W.alloc (.cells cs 3)) bl 25 v := hB.alloc _
  have hT1 : Ints (W.alloc (.cells cs 3)) base v xs := World.ownsRow.alloc hT _
  have hb1 : Below W.heap.size W (W.alloc (.cells cs 3)) := (Below.refl _ _).alloc (Nat.le_refl _) _
  have hB2 := hB1.kept hg2 (ints_not_row hB1 hT1)
  refine ⟨⟨v2, hB2.set v2, ints_set (i := 0) hT2 hbl v2⟩, ?_, ?_, hB2⟩
  · exact ((hb1.mono (show bl ≤ W.heap.size by omega)).grown hg2 (by simp; omega) (fun j e => by have := (World.ownsRow.lt hT1 j e).1; omega)).setCell (p := ⟨bl, 0, none⟩) (Nat.le_refl _) v2
  · exact ((KeepT.below hb1).trans (keep_grown (bl := bl) hg2 hT1)).trans (KeepT.set _ bl w2 v2)
theorem reads_keep {w w' : World} {v : Value} {xs : List Int} (h : Reads w v xs) (hk : ∀ (b : Nat) (o : Obj), w.heap[b]? = some o → o.isCells = true → w'.heap[b]? = some o) (hs : w.heap.size ≤ w'.heap.size) : Reads w' v xs := by
  rcases h with h | ⟨g, o, c, h1, h2, h3⟩
  · exact .inl h
  · refine .inr ⟨g, o, c, h1, Nat.lt_of_lt_of_le h2 hs, fun k hk' => ?_⟩
    have h4 := h3 k hk'
    obtain ⟨ob, hob⟩ : ∃ ob, w.heap[g]? = some ob := ⟨_, Array.getElem?_eq_getElem h2⟩
    cases hc : ob.isCells with
    | true =>
      have h5 := hk g ob hob hc
      unfold World.cell? at h4 ⊢
      simp only [hob, h5] at h4 ⊢
      exact h4
    | false =>
      exfalso
      unfold World.cell? at h4
      simp only [hob] at h4
      cases ob <;> simp [Obj.isCells] at hc <;> simp at h4
theorem form_ints {w : World} {B : Nat} {v : Value} {xs : List Int} (h : Ints w B v xs) : ∃ a c, v = .slice a xs.length c := row_form h
theorem stskyIn {F : Fence} {nn : Nat} {ops : Array Oper} {rest : List Oper} {o : Oper} {a : Act} {w : World} {Q : Exit → Act → World → Prop} (x y : Operand) (hgd : o.guard = none) (ho : o.op = .store 109 x y)
    (g : Nat) (vs : Array Value) (hv : vs.size = 13) (hall : vs.all Value.oneCell' = true) (hx : a.eval x = .pointer (some ⟨g, 0, none⟩)) (hy : a.eval y = .agg vs) (cs : Array Value) (hcs : cs.size = 13) (t : TypeId) (hg : w.heap[g]? = some (.cells cs t (0, 0)))
    (h : wpListIn F nn Tryd.prog ops Q rest (a.put o.dst undef) (w.setRow g vs)) : wpListIn F nn Tryd.prog ops Q (o :: rest) a w := by
  refine wpListIn_plain hgd fun K hK => ?_
  have hrun := run_storeVar_row (P := Tryd.prog) w g t 109 cs vs hg (by rw [hv]; kernel_rfl) (by rw [hv, hcs]) hall
  unfold Oper.wpIn
  refine ⟨by simp [Oper.about, ho], ?_⟩
  rw [Oper.semAt_plain F _ _ (by rw [ho]; intro c hc; cases hc)]
  simp only [execOp, ho, hx, hy, Instr.storeAt, Instr.sureAddr, Sem.run_bind, Sem.run_pure, Result.andThen_ok, hrun]
  exact hK _ _ h
theorem skym_as {w2 : World} {m : Nat} {F : Nat → Nat} {cs vs : Array Value} {t : TypeId} (hM : SkyM w2 m 12 F) : SkyM ((w2.alloc (.cells cs t)).setRow w2.heap.size vs) m 12 F :=
  hM.block ((setRow_other _ _ _ _ (by have := hM.lt; omega)).trans (heap_alloc_old _ _ hM.lt))
theorem below_as {g : Nat} {w w2 : World} {cs vs : Array Value} {t : TypeId} (hB : Below g w w2) (hg : g ≤ w2.heap.size) : Below g w ((w2.alloc (.cells cs t)).setRow w2.heap.size vs) := below_setRow (hB.alloc hg _) hg _
def staL (h : Nat → Nat) (s : Nat) : List Int := (bitsL fun y => h y == h s).map fun y => ((y + 1 : Nat) : Int)
theorem load_ints {W : World} {B : Nat} {a : Option Addr} {n c : Nat} (h : Boxed W B 25 (.slice a n c)) : (loadVar 25 ⟨B, 0, none⟩).run Tryd.prog W = .ok (.slice a n c) W := by
  have hc := h.cell
  go_simp
theorem results_two {P : Program} {fn : Func} {p q : Tmp} (h : fn.results = #[.tmp p, .tmp q]) (tmps : Array Value) (w : World) (v1 v2 : Value) (h1 : tmps.getD p undef = v1) (h2 : tmps.getD q undef = v2) : (results fn tmps).run P w = .ok (.tuple #[v1, v2]) w := by
  have h1' : tmps[p]?.getD undef = v1 := by simpa using h1
  have h2' : tmps[q]?.getD undef = v2 := by simpa using h2
  simp [results, h, h1', h2']
set_option maxHeartbeats 4000000 in
theorem stands_in (h : Nat → Nat) (hh : ∀ i, i < 12 → h i < 16) (s n : Nat) (hn : 8 ≤ n) (hs : s < 12) (x : Int) (hx : x = ((s : Nat) : Int) + 1) (w : World) (LB : LaidB w) :
    CallsIn Fence.wide n Tryd.prog 11 #[.agg (irow 12 (cst h)), .int .i64 x] w fun e w' => (∃ v, e = .returned (.tuple #[v, .int .i64 0]) ∧ Reads w' v (staL h s)) ∧ Below w.heap.size w w' := by
  have h1 : 1 ≤ n := by omega
  have HLB := hid LB
  have hLg : 3 < w.heap.size := LB.size
  have HC := hid (fun W => hCheck_yes (cst h) (fun i hi => ⟨by simp, by have := hh i hi; simp; omega⟩) W)
  have HN := hid (fun W => seats1_yes s hs x hx W)
  have HL := hid (fun W => look_c h hh W)
  obtain ⟨s1, hs1⟩ : ∃ z : Nat, onF h 12 (h s) = z := ⟨_, rfl⟩
  have l1 : s1 < 4096 := by rw [← hs1]; exact onF_lt _ _
  have HS := hid (show s1 = setN (fun x => h x == h s) 12 by rw [← hs1]; rfl)
  have HO := hid (fun m W hM => of_b h hh m s hs W hM)
  rw [hs1] at HO
  have H0 := hid (heap_alloc_new w (.cells (irow 12 (cst h)) 24))
  have hb : Below w.heap.size w (w.alloc (.cells (irow 12 (cst h)) 24)) := (Below.refl _ _).alloc (Nat.le_refl _) _
  clear hh LB hs1 hx
  obtain ⟨g, hg⟩ : ∃ g, w.heap.size = g := ⟨_, rfl⟩
  refine callsIn_of_wp_marks Tryd.func11 rfl trivial ?_ rfl
  simp only [Tryd.ntmps11, List.size_toArray, List.length_cons, List.length_nil, Nat.reduceAdd, Nat.reduceSub, Array.replicate_succ, Array.replicate_zero, List.push_toArray, List.append_toArray, List.nil_append, List.cons_append]
  gi_wp2_with fail
  generalize w.alloc (.cells (irow 12 (cst h)) 24) = w1 at *
  rw [hg] at H0 hb hLg
  gi_wp2_with (first
    | (refine wpListIn_value lets_wide rfl (by intro c hc; cases hc) (.agg (irow 12 (cst h))) (exec_ldrow arrHouses rfl rfl H0.out) ?_)
    | (refine wpListIn_value lets_wide rfl (by intro c hc; cases hc) (.agg (irow 12 (cst h))) (exec_ldrow arrHouses rfl rfl ((heap_alloc_old _ _ (heap_lt H0.out)).trans H0.out)) ?_)
    | (gi_at_call 40; refine (callsIn_wide.2 (HC.out _)).mono ?_; rintro e w2 ⟨rfl, hb2⟩; have H0 := hid (heap_below hb2 H0.out (heap_lt H0.out)); have hB2 := hb.trans (hb2.mono (by have := hb.size; omega)))
    | (gi_at_call 46; refine (callsIn_wide.2 (HN.out _)).mono ?_; rintro e w3 ⟨gs, cs, rfl, hc0, hgB, hgs, hb3⟩; have H0 := hid (heap_below hb3 H0.out (heap_lt H0.out)); have hB3 := hB2.trans (hb3.mono (by have := hB2.size; omega)))
    | (gi_at_call 47; refine (callsIn_wide.2 (HL.out _)).mono ?_; rintro e w5 ⟨m, rfl, hM, hm, hb5⟩)
    | (refine stskyIn _ _ rfl rfl _ _ (show (sky h m).size = 13 from by simp [sky]) (sky_all h m) rfl rfl _ (by rfl) _ (heap_alloc_new _ _) ?_))
  have hs3 := hB3.size
  have bL := Boxed.new w3 25 (.slice none 0 0)
  have hB4 := hB3.alloc (show g ≤ w3.heap.size by omega) (.cells #[.slice none 0 0] 25)
  have hB5 := hB4.trans (hb5.mono (by simp; omega))
  have hs5 := hb5.size
  simp only [World.size_alloc] at hs5
  have hseat : w5.cell? ⟨gs, 0, none⟩ = some (.int .i64 ((s : Nat) : Int)) := ((bcell hb5).1 gs 0 (by simp; omega)).trans (((bcell ((Below.refl w3.heap.size w3).alloc (Nat.le_refl _) (.cells #[.slice none 0 0] 25))).1 gs 0 hgs).trans hc0)
  have bL5 := boxb bL hb5
  have hgs5 : gs < w5.heap.size := by omega
  obtain ⟨L, hL⟩ : ∃ L, w3.heap.size = L := ⟨_, rfl⟩
  have hlt1 := heap_lt H0.out
  have hgL : g < L := by have := hgB; omega
  simp only [hL] at bL5 hs5 ⊢
  obtain ⟨cz, hcz⟩ : ∃ cz : Array Value, cz = sky0 := ⟨_, rfl⟩
  simp only [zeros13, ← hcz]
  have hsk := setRow_heap (w5.alloc (.cells cz 109)) w5.heap.size cz (sky h m) 109 (0, 0) (heap_alloc_new w5 _)
  have hM5 := skym_as (cs := cz) (vs := sky h m) (t := 109) hM
  have hBV := below_as (cs := cz) (vs := sky h m) (t := 109) hB5 (show g ≤ w5.heap.size by omega)
  have hbV : Below w5.heap.size w5 ((w5.alloc (.cells cz 109)).setRow w5.heap.size (sky h m)) := below_as (Below.refl _ _) (Nat.le_refl _)
  have hszV := hbV.size
  have hseatV := ((bcell hbV).1 gs 0 hgs5).trans hseat
  have bLV := boxb bL5 hbV
  obtain ⟨k5, hk5⟩ : ∃ k5, w5.heap.size = k5 := ⟨_, rfl⟩
  rw [hk5] at hsk hM5 hBV hbV hszV hseatV bLV hs5 hgs5 ⊢
  generalize (w5.alloc (.cells cz 109)).setRow k5 (sky h m) = V0 at *
  have hkV : k5 < V0.heap.size := heap_lt hsk
  have HO2 := hid (HO.out m V0 hM5)
  have HB := hid hBV
  have HBL := hid bLV
  clear H0 hb hb2 hb3 hb5 hB2 hB3 hB4 hB5 hseat bL bL5 hbV hM hM5 HO HC HN HL hc0 hcz hk5 hBV bLV hlt1
  refine wpIn_quiet_tail (lets_wide) 5 (by kernel_rfl) (by kernel_rfl) (by kernel_rfl) (fun V => Below V0.heap.size V0 V) (below_drew (Below.refl _ _)) ?_
  simp only [List.take_succ_cons, List.take_zero, List.drop_succ_cons, List.drop_zero]
  refine qvalK (.agg (sky h m)) rfl (fun W hW => by exact exec_ldsky rfl rfl (heap_below hW hsk (heap_lt hsk))) (fun K hK => ?_)
  go_simp
  refine hK _ ?_
  clear hK K
  refine qvalK (.slice (some ⟨gs, 0, none⟩) 1 cs) rfl (fun W hW => by rfl) (fun K hK => ?_)
  go_simp
  refine hK _ ?_
  clear hK K
  refine qvalK (.pointer (some ⟨gs, 0, none⟩)) rfl (fun W hW => by go_simp) (fun K hK => ?_)
  go_simp
  refine hK _ ?_
  clear hK K
  refine qvalK (.int .i64 ((s : Nat) : Int)) rfl (fun W hW => by have hc := (((bcell hW).1 gs 0 (by omega)).trans hseatV); go_simp) (fun K hK => ?_)
  go_simp
  refine hK _ ?_
  clear hK K
  refine qcallK (.int .u64 ((s1 : Nat) : Int)) 49 #[.agg (sky h m), .int .i64 ((s : Nat) : Int)] rfl (fun W => by kernel_rfl) (fun W hW => by exact HO2.out _ hW) (fun K hK => ?_)
  go_simp
  refine hK _ ?_
  clear hK K
  refine wpQuiet_nil ?_
  intro U hW
  have hWs := hW.size
  gi_wp2_with (gi_at_call 48; refine (callsIn_wide.2 (all_c _ _)).mono ?_; rintro e w' ⟨rfl, rfl⟩)
  obtain ⟨b1, hb1⟩ : ∃ z, U.heap.size = z := ⟨_, rfl⟩
  have S0 : Sn g L (L + 1) b1 w U [] _ := enter_ints hb1 (by omega) (HB.out.trans (hW.mono (by omega))) (boxb HBL.out hW) (show Ints U (L + 1) (.slice none 0 0) [] from Ints.nil _ _) (.int .u64 ((s1 : Nat) : Int))
  have bx := Boxed.new U 113 (.int .u64 ((s1 : Nat) : Int))
  have hsz : (U.alloc (.cells #[.int .u64 ((s1 : Nat) : Int)] 113)).heap.size = U.heap.size + 1 := by simp
  clear hW HB HBL HO2 hsk hseatV
  generalize U.alloc (.cells #[.int .u64 ((s1 : Nat) : Int)] 113) = V3 at *
  rw [hb1] at bx hsz hWs ⊢
  apply rf_outA rfl h1 (gf := 70) (lb := #[.pointer (some ⟨b1, 0, none⟩)]) rfl trivial (enters_of Tryd.func70 (by kernel_rfl) rfl)
    (all1_seq (n - 1) (by omega) b1 s1 l1 V3 bx) bx.lt (fun _ => rfl)
    (fun pre W => Sn g L (L + 1) b1 w U (pre.map fun y => ((y + 1 : Nat) : Int)) W) (Sn.own (by omega) (by omega) (by omega))
    (fun pre W v hS => hS.setB (by omega) (by omega) (by omega) v) (fun pre W hS => HLB.out.below (by rw [hg]; exact hS.below)) (by simpa using S0)
  case hassign =>
    intro l pre x W K hi hK
    gi_wp2_with fail
    first | rfl | exact hK _ rfl
  case hbody =>
    rintro l pre x W hl hr hi ⟨rest, hx⟩
    try dsimp only at hi
    try dsimp only
    obtain ⟨hp1, hp2, hp3⟩ := pre_bits (p := fun x => h x == h s) (by rw [HS.out]; exact bitsL_bit _) hx
    obtain ⟨v, v1, v2⟩ := hi.l
    have hcL := v1.cell
    obtain ⟨ub, hub⟩ := hi.box
    have hlen : (pre.map fun y => ((y + 1 : Nat) : Int)).length < 100000 := by rw [List.length_map]; omega
    have hszW : L + 1 ≤ W.heap.size := by have := hi.keep.size; omega
    obtain ⟨x1, hx1⟩ : ∃ x1, x + 1 = x1 := ⟨_, rfl⟩
    have HX := hid (fun W => house_c x (by omega) W)
    rw [hx1] at HX
    have HFS := hid (show ((pre ++ [x]).map fun y => ((y + 1 : Nat) : Int)) = (pre.map fun y => ((y + 1 : Nat) : Int)) ++ [((x1 : Nat) : Int)] by rw [List.map_append, List.map_singleton, hx1])
    have HI := hid hi
    have HU := hid hub
    have HV1 := hid v1
    have HV2 := hid v2
    clear hi hub v1 v2 hx hp3 hx1
    generalize hts : (pre.map fun y => ((y + 1 : Nat) : Int)) = ts at *
    have HTS := hid hts
    clear hts
    gi_wp2_with fail
    have hS1 : W.cell? ⟨L, 0, none⟩ = some v := hcL
    refine regD_in (lets_round l) (fun W => W.cell? ⟨L, 0, none⟩ = some v) (fun j => j != 5) (by kernel_rfl) (by kernel_rfl) ?_
    refine takeE (i := 1) (.int .i64 ((x : Nat) : Int)) (d := some 35) rfl (by kernel_rfl) (by kernel_rfl) (by kernel_rfl) (by kernel_rfl) (fun _ _ _ h => h) rfl (fun W hSw => by rfl) (hS1) rfl ?_
    simp only [Act.put, List.setIfInBounds_toArray, List.set_cons_zero, List.set_cons_succ]
    refine takeE (i := 0) (v) (d := some 34) rfl (by kernel_rfl) (by kernel_rfl) (by kernel_rfl) (by kernel_rfl) (fun _ _ _ h => h) rfl (fun W hSw => by have hc := hSw; go_simp) (hS1) rfl ?_
    simp only [Act.put, List.setIfInBounds_toArray, List.set_cons_zero, List.set_cons_succ]
    refine stepD 2 (by kernel_rfl) rfl rfl (fun K hK => ?_)
    go_simp
    go_at_call 50
    refine (HX.out _).mono ?_
    rintro e w' ⟨rfl, rfl⟩
    go_simp
    refine hK _ _ (fun _ => hS1) ?_
    clear hK K
    have hS2 : ∀ cs : Array Value, (W.alloc (.cells cs 3)).drew.cell? ⟨L, 0, none⟩ = some v := fun cs => (Boxed.alloc HV1.out (.cells cs 3)).cell
    refine stepD 3 (by kernel_rfl) rfl rfl (fun K hK => ?_)
    go_simp
    refine hK _ _ (fun _ => hS2 _) ?_
    clear hK K
    refine stepD 4 (by kernel_rfl) rfl rfl (fun K hK => ?_)
    refine wpO_append_int _ _ rfl (L + 1) v ts rfl (World.ownsRow.alloc (w := W.drew) HV2.out _) ((x1 : Nat) : Int) W.heap.size 1 rfl (box_new W.drew _ _) (by omega) (by simp; omega) ?_
    intro v2 w2 hT2 hg2
    simp only [Act.put, List.setIfInBounds_toArray, List.set_cons_zero, List.set_cons_succ]
    refine hK _ _ (fun _ => ?_) ?_
    · exact ((int_added (W := W.drew) HV1.out (by omega) (by show _ ≤ W.heap.size; omega) HV2.out hg2 hT2).2.2.2).cell
    clear hK K
    obtain ⟨hl', hb', hk', hB2⟩ := int_added (W := W.drew) HV1.out (by omega) (by show _ ≤ W.heap.size; omega) HV2.out hg2 hT2
    have hk' := KeepT.trans (A := W) (B := W.drew) ⟨rfl, rfl, rfl, Nat.le_refl _, fun _ _ h _ _ => h⟩ hk'
    have hb' := (below_drew (Below.refl L W)).trans hb'
    have hfz := hB2.frozen
    have hcl := hB2.cell
    obtain ⟨q2, c2, e2⟩ := form_ints hT2
    generalize (ts ++ [((x1 : Nat) : Int)]).length = m2 at e2
    have HLL := hid hl'
    clear hT2 hg2 hB2 hl'
    subst e2
    refine stepD 5 (by kernel_rfl) rfl rfl (fun K hK => ?_)
    go_simp
    refine hK _ _ (notD (by kernel_rfl)) ?_
    clear hK K
    refine doneD (by kernel_rfl) ?_ _
    refine OnlyNorm.normal ?_
    gi_wp2_with fail
    refine ⟨hk'.from (by omega), hk'.keptB (by omega) HU.out (by decide), ?_⟩
    show Sn g L (L + 1) b1 w U ((pre ++ [x]).map fun y => ((y + 1 : Nat) : Int)) _
    rw [HFS.out]
    exact HI.out.add (by omega) (by omega) HLL.out hb' hk'
  case hdone =>
    rintro D1 W3 hD1 hi mk1
    try dsimp only at hi
    obtain ⟨v5, v1, v2⟩ := hi.l
    have h8 : (bitsL s1.testBit).map (fun y => ((y + 1 : Nat) : Int)) = staL h s := by rw [HS.out, bitsL_bit]; rfl
    rw [h8] at v2
    have hB3 := hi.below
    have HR := hid v2.reads
    obtain ⟨q5, c5, ev5⟩ := form_ints v2
    have hcL := v1.cell
    have HV1 := hid v1
    have hgD : g ≤ D1 := by omega
    clear hi S0 bx hsz v1 v2 h8
    generalize (staL h s).length = n5 at ev5
    subst ev5
    gi_wp2_with fail
    refine leaves_marks g [D1] _ (by simp) (fun D hD => ?_) (fun W' hb' hc' => ?_)
    · obtain rfl : D = D1 := by simpa using hD
      exact ⟨mk1, hgD⟩
    · refine ⟨.tuple #[.slice q5 n5 c5, .int .i64 0], results_two Tryd.results11 _ _ _ _ rfl rfl, ⟨_, rfl, ?_⟩, ?_⟩
      · exact reads_keep HR.out (fun b o ho hc => hc' b o ho hc) hb'.size
      · rw [hg]
        exact hB3.trans hb'
theorem stands_c (h : Nat → Nat) (hh : ∀ i, i < 12 → h i < 16) (s : Nat) (hs : s < 12) (x : Int) (hx : x = ((s : Nat) : Int) + 1) (w : World) (LB : LaidB w) :
    Calls Tryd.prog 11 #[.agg (irow 12 (cst h)), .int .i64 x] w fun e w' => (∃ v, e = .returned (.tuple #[v, .int .i64 0]) ∧ Reads w' v (staL h s)) ∧ Below w.heap.size w w' :=
  callsIn_wide.1 (stands_in h hh s 8 (Nat.le_refl _) hs x hx w LB)
end Go.Proofs.YtcdbkgpgjjeoiaaDoor
