/- Walks of package house: the aspects of two places. -/
import Derived.Test.YtcdbkgpgjjeoiaaDoorHW9
import Derived.Test.YtcdbkgpgjjeoiaaDoorH4
import Derived.Test.YtcdbkgpgjjeoiaaDoorQD
import Derived.BigFrameIn
namespace Go.Proofs.YtcdbkgpgjjeoiaaDoor
open Go Go.RowKit Go.Shelf
set_option maxRecDepth 100000
set_option linter.unusedSimpArgs false
set_option linter.unusedVariables false

attribute [local go_sem] Oper.semAt_some
/-- A triple was added. -/
theorem tri_added {T SL : TypeId} (hne : SL ≠ T) {W w2 : World} {bl base : Nat} {v v2 : Value} {ts : List Tie3} {t : Tie3} {cs : Array Value} (hB : Boxed W bl SL v) (hbl : bl < base) (hbase : base ≤ W.heap.size) (hT : Trs T W base v ts)
    (hg2 : (W.alloc (.cells cs T)).grownBy w2 v.ownBlock) (hT2 : Trs T w2 base v2 (ts ++ [t])) :
    (∃ v', Boxed (w2.setCell ⟨bl, 0, none⟩ v2) bl SL v' ∧ Trs T (w2.setCell ⟨bl, 0, none⟩ v2) base v' (ts ++ [t])) ∧ Below bl W (w2.setCell ⟨bl, 0, none⟩ v2) ∧ KeepT T bl W (w2.setCell ⟨bl, 0, none⟩ v2) ∧ Boxed w2 bl SL v := by
  have hB1 : Boxed (W.alloc (.cells cs T)) bl SL v := hB.alloc _
  have hT1 : Trs T (W.alloc (.cells cs T)) base v ts := World.ownsRow.alloc hT _
  have hb1 : Below W.heap.size W (W.alloc (.cells cs T)) := (Below.refl _ _).alloc (Nat.le_refl _) _
  have hB2 := hB1.kept hg2 (hB1.not_row hne hT1)
  refine ⟨⟨v2, hB2.set v2, trs_set (i := 0) hT2 hbl v2⟩, ?_, ?_, hB2⟩
  · exact ((hb1.mono (show bl ≤ W.heap.size by omega)).grown hg2 (by simp; omega) (fun j e => by have := (World.ownsRow.lt hT1 j e).1; omega)).setCell (p := ⟨bl, 0, none⟩) (Nat.le_refl _) v2
  · exact ((KeepT.below hb1).trans (KeepT.grown (bl := bl) hg2 hT1)).trans (KeepT.set _ bl w2 v2)
/-- .. another box stays. -/
theorem tri_keepB {T SL : TypeId} (hne : SL ≠ T) {W w2 : World} {bl base : Nat} {u v : Value} {ts : List Tie3} {cs : Array Value} (hB : Boxed W bl SL u) (hT : Trs T W base v ts)
    (hg2 : (W.alloc (.cells cs T)).grownBy w2 v.ownBlock) : Boxed w2 bl SL u := by
  have hB1 : Boxed (W.alloc (.cells cs T)) bl SL u := hB.alloc _
  have hT1 : Trs T (W.alloc (.cells cs T)) base v ts := World.ownsRow.alloc hT _
  exact hB1.kept hg2 (hB1.not_row hne hT1)
/-- What lies when the aspects are begun. -/
structure As (h : Nat → Nat) (m b g : Nat) (w W : World) : Prop where
  sky : W.heap[g]? = some (.cells (sky h m) 109 (0, 0))
  bB : Boxed W (g + 1) 115 (.int .i64 ((b : Nat) : Int))
  bL : Boxed W (g + 1 + 1) 48 (.slice none 0 0)
  below : Below g w W
  size : W.heap.size = g + 1 + 1 + 1
theorem as_start (h : Nat → Nat) (m b : Nat) (w : World) : As h m b w.heap.size w (((w.alloc (.cells (sky h m) 109)).alloc (.cells #[.int .i64 ((b : Nat) : Int)] 115)).alloc (.cells #[.slice none 0 0] 48)) := by
  have hB := Boxed.new (w.alloc (.cells (sky h m) 109)) 115 (.int .i64 ((b : Nat) : Int))
  have hL := Boxed.new ((w.alloc (.cells (sky h m) 109)).alloc (.cells #[.int .i64 ((b : Nat) : Int)] 115)) 48 (.slice none 0 0)
  simp only [World.size_alloc] at hB hL
  refine ⟨?_, hB.alloc _, hL, ?_, by simp⟩
  · rw [heap_alloc_old _ _ (by simp; omega), heap_alloc_old _ _ (by simp)]
    exact heap_alloc_new w _
  · exact (((Below.refl _ w).alloc (Nat.le_refl _) _).alloc (by simp) _).alloc (by simp; omega) _
/-- .. and while they are looked for. -/
structure Fa (h : Nat → Nat) (m b g : Nat) (W : World) : Prop where
  sky : W.heap[g]? = some (.cells (sky h m) 109 (0, 0))
  bB : Boxed W (g + 1) 115 (.int .i64 ((b : Nat) : Int))
theorem Fa.keep {h : Nat → Nat} {m b g : Nat} {W W' : World} (f : Fa h m b g W) (k : KeepT 56 (g + 1 + 1) W W') : Fa h m b g W' :=
  ⟨k.row (by omega) f.sky (by decide), k.boxed (by omega) f.bB (by decide)⟩
theorem load_asps {W : World} {B : Nat} {a : Option Addr} {n c : Nat} (h : Boxed W B 48 (.slice a n c)) : (loadVar 48 ⟨B, 0, none⟩).run Tryd.prog W = .ok (.slice a n c) W := by
  have hc := h.cell
  go_simp
def aspF (b x : Nat) : List Tie3 := if looks (apN x b) then [(apN x b, x, b)] else []
theorem aspF_len (b x : Nat) : (aspF b x).length ≤ 1 := by unfold aspF; split <;> simp
theorem aspF_yes {b x k : Nat} (hk : apN x b = k) (hl : looks k = true) : aspF b x = [(k, x, b)] := by unfold aspF; rw [hk, if_pos hl]
theorem aspF_no {b x k : Nat} (hk : apN x b = k) (hl : looks k = false) : aspF b x = [] := by unfold aspF; rw [hk, if_neg (by rw [hl]; simp)]
theorem looks_or {k : Nat} (h : looks k = true) : k = 2 ∨ k = 3 ∨ k = 4 ∨ k = 6 := by
  unfold looks at h
  simp at h
  omega
theorem looks_not {k : Nat} (h : looks k = false) : k ≠ 2 ∧ k ≠ 3 ∧ k ≠ 4 ∧ k ≠ 6 := by
  unfold looks at h
  simp at h
  omega
set_option maxHeartbeats 4000000 in
theorem asps_in (h : Nat → Nat) (hh : ∀ i, i < 12 → h i < 16) (m a b n : Nat) (hn : 8 ≤ n) (ha : a < 12) (hb : b < 12) (w : World) (LB : LaidB w) (hM : SkyM w m 12 (onF h 12)) :
    CallsIn Fence.wide n Tryd.prog 56 #[.agg (sky h m), .int .i64 ((a : Nat) : Int), .int .i64 ((b : Nat) : Int)] w fun e w' => ∃ v, e = .returned v ∧ ReadsT w' v (aspR h a b) ∧ Below w.heap.size w w' := by
  have h1 : 1 ≤ n := by omega
  have HLB := hid LB
  have hLg : 3 < w.heap.size := LB.size
  have hmg : m < w.heap.size := hM.lt
  have HT := hid (as_start h m b w)
  obtain ⟨s1, hs1⟩ : ∃ z : Nat, onF h 12 (h a) = z := ⟨_, rfl⟩
  have l1 : s1 < 4096 := by rw [← hs1]; exact onF_lt _ _
  have HS := hid (show s1 = setN (fun x => h x == h a) 12 by rw [← hs1]; rfl)
  have HO := hid (of_c h hh m 12 (onF h 12) a ha _ (hM.below HT.out.below hmg))
  rw [hs1] at HO
  have hsky := HT.out.sky
  clear hh LB hM hs1
  refine callsIn_of_wp_marks Tryd.func56 rfl trivial ?_ rfl
  simp only [Tryd.ntmps56, List.size_toArray, List.length_cons, List.length_nil, Nat.reduceAdd, Nat.reduceSub, Array.replicate_succ, Array.replicate_zero, List.push_toArray, List.append_toArray, List.nil_append, List.cons_append]
  gi_wp2_with fail
  generalize ((w.alloc (.cells (sky h m) 109)).alloc (.cells #[.int .i64 ((b : Nat) : Int)] 115)).alloc (.cells #[.slice none 0 0] 48) = w1 at *
  obtain ⟨g, hg⟩ : ∃ g, w.heap.size = g := ⟨_, rfl⟩
  rw [hg] at HT hmg hLg hsky ⊢
  gi_wp2_with (first
    | (refine wpListIn_value lets_wide rfl (by intro c hc; cases hc) (.agg (sky h m)) (exec_ldsky rfl rfl hsky) ?_)
    | (gi_at_call 49; refine (callsIn_wide.2 HO.out).mono ?_; rintro e V ⟨rfl, hW⟩)
    | (gi_at_call 48; refine (callsIn_wide.2 (all_c _ _)).mono ?_; rintro e w' ⟨rfl, rfl⟩))
  have T1 := HT.out
  have fs1 : Fa h m b g V := Fa.keep ⟨T1.sky, T1.bB⟩ (KeepT.below hW)
  have hszV : g + 1 + 1 + 1 ≤ V.heap.size := by have := T1.size; have := hW.size; omega
  obtain ⟨b1, hb1⟩ : ∃ z, V.heap.size = z := ⟨_, rfl⟩
  have hB1 : Below g w w1 := T1.below
  have S0 : St 56 48 g (g + 1 + 1) (g + 1 + 1 + 1) b1 w V [] _ := enter_all hb1 (by omega) (hB1.trans (hW.mono (by have := T1.size; omega))) (boxb T1.bL hW) (Trs.nil _ _ _) (.int .u64 ((s1 : Nat) : Int))
  have bx := Boxed.new V 113 (.int .u64 ((s1 : Nat) : Int))
  have hsz : (V.alloc (.cells #[.int .u64 ((s1 : Nat) : Int)] 113)).heap.size = V.heap.size + 1 := by simp
  clear T1 hW hB1 HO hsky
  generalize V.alloc (.cells #[.int .u64 ((s1 : Nat) : Int)] 113) = V3 at *
  rw [hb1] at bx hszV hsz ⊢
  apply rf_outA rfl h1 (gf := 70) (lb := #[.pointer (some ⟨b1, 0, none⟩)]) rfl trivial (enters_of Tryd.func70 (by kernel_rfl) rfl)
    (all1_seq (n - 1) (by omega) b1 s1 l1 V3 bx) bx.lt (fun _ => rfl)
    (fun pre W => St 56 48 g (g + 1 + 1) (g + 1 + 1 + 1) b1 w V (pre.flatMap (aspF b)) W) (St.own (by omega) (by omega) (by omega))
    (fun pre W v hS => hS.setB (by omega) (by omega) (by omega) (by decide) v) (fun pre W hS => HLB.out.below (by rw [hg]; exact hS.below)) (by simpa using S0)
  case hassign =>
    intro l pre x W K hi hK
    gi_wp2_with fail
    first | rfl | exact hK _ rfl
  case hbody =>
    rintro l pre x W hl hr hi ⟨rest, hx⟩
    try dsimp only at hi
    try dsimp only
    obtain ⟨hp1, hp2, hp3⟩ := pre_bits (p := fun x => h x == h a) (by rw [HS.out]; exact bitsL_bit _) hx
    obtain ⟨v, v1, v2⟩ := hi.l
    have fsW := fs1.keep hi.keep
    have hcB := fsW.bB.cell
    have hcL := v1.cell
    obtain ⟨ub, hub⟩ := hi.box
    have hlen : (pre.flatMap (aspF b)).length < 100000 := by have := flat_len (aspF b) 1 (aspF_len b) pre; omega
    have hszW : g + 1 + 1 + 1 ≤ W.heap.size := by have := hi.keep.size; omega
    obtain ⟨k, hk⟩ : ∃ k, apN x b = k := ⟨_, rfl⟩
    have HP := hid (fun W => apart_c x b hp2 hb W)
    rw [hk] at HP
    have HI := hid hi
    have HU := hid hub
    have HFS := hid (flat_snoc [] pre x (aspF b))
    simp only [List.nil_append] at HFS
    generalize pre.flatMap (aspF b) = ts at *
    cases hlk : looks k with
    | false =>
      obtain ⟨n2, n3, n4, n6⟩ := looks_not hlk
      have e2 : (((k : Nat) : Int) == 2) = false := by simp; omega
      have e3 : (((k : Nat) : Int) == 3) = false := by simp; omega
      have e4 : (((k : Nat) : Int) == 4) = false := by simp; omega
      have e6 : (((k : Nat) : Int) == 6) = false := by simp; omega
      rw [aspF_no hk hlk, List.append_nil] at HFS
      clear hi hub v1 v2 fsW hx hp3 hlen n2 n3 n4 n6 hk hlk
      gi_wp2_with (gi_at_call 60; refine (CallsIn.inRound l (callsIn_wide.2 (HP.out _))).mono ?_; rintro e w' ⟨rfl, rfl⟩)
      refine ⟨KeepsFrom.refl _ _, KeptB.refl _ _, ?_⟩
      show St 56 48 g (g + 1 + 1) (g + 1 + 1 + 1) b1 w V ((pre ++ [x]).flatMap (aspF b)) W
      rw [HFS.out]
      exact HI.out
    | true =>
      rw [aspF_yes hk hlk] at HFS
      obtain ⟨x1, hx1⟩ : ∃ x1, x + 1 = x1 := ⟨_, rfl⟩
      obtain ⟨y1, hy1⟩ : ∃ y1, b + 1 = y1 := ⟨_, rfl⟩
      have HX := hid (fun W => house_c x (by omega) W)
      have HY := hid (fun W => house_c b (by omega) W)
      rw [hx1] at HX
      rw [hy1] at HY
      have HE := hid (cells3_enc k x b x1 y1 hx1 hy1)
      have HV1 := hid v1
      have HV2 := hid v2
      have HBB := hid fsW.bB
      clear hi hub v1 v2 fsW hx hp3 hk hx1 hy1
      have hkk := looks_or hlk
      clear hlk
      rcases hkk with hkq | hkq | hkq | hkq
      all_goals
        first | (have e2 : (((k : Nat) : Int) == 2) = true := by simp; omega) | (have e2 : (((k : Nat) : Int) == 2) = false := by simp; omega)
        first | (have e3 : (((k : Nat) : Int) == 3) = true := by simp; omega) | (have e3 : (((k : Nat) : Int) == 3) = false := by simp; omega)
        first | (have e4 : (((k : Nat) : Int) == 4) = true := by simp; omega) | (have e4 : (((k : Nat) : Int) == 4) = false := by simp; omega)
        first | (have e6 : (((k : Nat) : Int) == 6) = true := by simp; omega) | (have e6 : (((k : Nat) : Int) == 6) = false := by simp; omega)
        clear hkq
        gi_wp2_with (gi_at_call 60; refine (CallsIn.inRound l (callsIn_wide.2 (HP.out _))).mono ?_; rintro e w' ⟨rfl, rfl⟩)
        have hS1 : W.cell? ⟨g + 1 + 1, 0, none⟩ = some v ∧ W.cell? ⟨g + 1, 0, none⟩ = some (.int .i64 ((b : Nat) : Int)) := ⟨hcL, hcB⟩
        refine regD_in (lets_round l) (fun W => W.cell? ⟨g + 1 + 1, 0, none⟩ = some v ∧ W.cell? ⟨g + 1, 0, none⟩ = some (.int .i64 ((b : Nat) : Int))) (fun j => j != 9) (by kernel_rfl) (by kernel_rfl) ?_
        refine takeE (i := 1) (.int .i64 _) (d := some 24) rfl (by kernel_rfl) (by kernel_rfl) (by kernel_rfl) (by kernel_rfl) (fun _ _ _ h => h) rfl (fun W hSw => by rfl) (hS1) rfl ?_
        simp only [Act.put, List.setIfInBounds_toArray, List.set_cons_zero, List.set_cons_succ]
        refine takeE (i := 2) (.int .i64 ((x : Nat) : Int)) (d := some 25) rfl (by kernel_rfl) (by kernel_rfl) (by kernel_rfl) (by kernel_rfl) (fun _ _ _ h => h) rfl (fun W hSw => by rfl) (hS1) rfl ?_
        simp only [Act.put, List.setIfInBounds_toArray, List.set_cons_zero, List.set_cons_succ]
        refine takeE (i := 0) (v) (d := some 23) rfl (by kernel_rfl) (by kernel_rfl) (by kernel_rfl) (by kernel_rfl) (fun _ _ _ h => h) rfl (fun W hSw => by have hc := hSw.1; go_simp) (hS1) rfl ?_
        simp only [Act.put, List.setIfInBounds_toArray, List.set_cons_zero, List.set_cons_succ]
        refine takeE (i := 4) (.int .i64 ((b : Nat) : Int)) (d := some 27) rfl (by kernel_rfl) (by kernel_rfl) (by kernel_rfl) (by kernel_rfl) (fun _ _ _ h => h) rfl (fun W hSw => by have hc := hSw.2; go_simp) (hS1) rfl ?_
        simp only [Act.put, List.setIfInBounds_toArray, List.set_cons_zero, List.set_cons_succ]
        refine stepD 3 (by kernel_rfl) rfl rfl (fun K hK => ?_)
        go_simp
        go_at_call 50
        refine (HX.out _).mono ?_
        rintro e w' ⟨rfl, rfl⟩
        go_simp
        refine hK _ _ (fun _ => hS1) ?_
        clear hK K
        refine stepD 5 (by kernel_rfl) rfl rfl (fun K hK => ?_)
        go_simp
        go_at_call 50
        refine (HY.out _).mono ?_
        rintro e w' ⟨rfl, rfl⟩
        go_simp
        refine hK _ _ (fun _ => hS1) ?_
        clear hK K
        refine stepD 6 (by kernel_rfl) rfl rfl (fun K hK => ?_)
        go_simp
        refine hK _ _ (fun _ => hS1) ?_
        clear hK K
        have hS2 : ∀ cs : Array Value, (W.alloc (.cells cs 56)).drew.cell? ⟨g + 1 + 1, 0, none⟩ = some v ∧ (W.alloc (.cells cs 56)).drew.cell? ⟨g + 1, 0, none⟩ = some (.int .i64 ((b : Nat) : Int)) :=
          fun cs => ⟨(Boxed.alloc HV1.out (.cells cs 56)).cell, (Boxed.alloc HBB.out (.cells cs 56)).cell⟩
        refine stepD 7 (by kernel_rfl) rfl rfl (fun K hK => ?_)
        go_simp
        refine hK _ _ (fun _ => hS2 _) ?_
        clear hK K
        refine stepD 8 (by kernel_rfl) rfl rfl (fun K hK => ?_)
        refine wpO_append_tri triAsp Tryd.underlying48 _ _ rfl (g + 1 + 1 + 1) v ts rfl (World.ownsRow.alloc (w := W.drew) HV2.out _) (k, x, b) W.heap.size 1 rfl (tri_new (k, x, b) W.drew 56 _ HE.out) (by omega) (by simp; omega) ?_
        intro v2 w2 hT2 hg2
        simp only [Act.put, List.setIfInBounds_toArray, List.set_cons_zero, List.set_cons_succ]
        refine hK _ _ (fun _ => ?_) ?_
        · exact ⟨((tri_added (W := W.drew) (by decide) HV1.out (by omega) (by show _ ≤ W.heap.size; omega) HV2.out hg2 hT2).2.2.2).cell, (tri_keepB (W := W.drew) (by decide) HBB.out HV2.out hg2).cell⟩
        clear hK K
        obtain ⟨hl', hb', hk', hB2⟩ := tri_added (W := W.drew) (by decide) HV1.out (by omega) (by show _ ≤ W.heap.size; omega) HV2.out hg2 hT2
        have hk' := KeepT.trans (A := W) (B := W.drew) ⟨rfl, rfl, rfl, Nat.le_refl _, fun _ _ h _ _ => h⟩ hk'
        have hb' := (below_drew (Below.refl (g + 1 + 1) W)).trans hb'
        have hfz := hB2.frozen
        have hcl := hB2.cell
        obtain ⟨q2, c2, e2⟩ := hT2.form
        generalize (ts ++ [(k, x, b)]).length = m2 at e2
        have HLL := hid hl'
        clear hT2 hg2 hB2 hl'
        subst e2
        refine stepD 9 (by kernel_rfl) rfl rfl (fun K hK => ?_)
        go_simp
        refine hK _ _ (notD (by kernel_rfl)) ?_
        clear hK K
        refine doneD (by kernel_rfl) ?_ _
        refine OnlyNorm.normal ?_
        gi_wp2_with fail
        refine ⟨?_, ?_, ?_⟩
        · exact hk'.from (by omega)
        · exact hk'.keptB (by omega) HU.out (by decide)
        show St 56 48 g (g + 1 + 1) (g + 1 + 1 + 1) b1 w V ((pre ++ [x]).flatMap (aspF b)) _
        rw [HFS.out]
        exact HI.out.add (by omega) (by decide) (by omega) HLL.out hb' hk'
  case hdone =>
    rintro D1 W3 hD1 hi mk1
    try dsimp only at hi
    obtain ⟨v5, v1, v2⟩ := hi.l
    have h9 := asp_flat h a b
    have h8 : (bitsL s1.testBit).flatMap (aspF b) = aspR h a b := by rw [HS.out, bitsL_bit]; exact h9
    rw [h8] at v2
    have hB3 := hi.below
    have hszW : g + 1 + 1 + 1 ≤ D1 := by omega
    have HR := v2.reads
    obtain ⟨q5, c5, ev5⟩ := v2.form
    have hcL := v1.cell
    have hfL := v1.frozen
    have hset := set_same v1
    have HV1 := hid v1
    clear hi S0 bx hsz v1 v2 h8 h9
    generalize (aspR h a b).length = n5 at ev5
    subst ev5
    gi_wp2_with fail
    have hB7 := hB3.setCell (p := ⟨g + 1 + 1, 0, none⟩) (by simp; omega) (.slice q5 n5 c5)
    refine leaves_marks g [D1] _ (by simp) (fun D hD => ?_) (fun W' hb' hc' => ?_)
    · obtain rfl : D = D1 := by simpa using hD
      exact ⟨(hset _).trans mk1, by omega⟩
    · have b8 : Boxed W' (g + 1 + 1) 48 (.slice q5 n5 c5) := hc' _ _ ((hset _).trans HV1.out) rfl
      refine ⟨.slice q5 n5 c5, results_slot rfl _ _ (g + 1 + 1) _ rfl (load_asps b8), _, rfl, ?_, ?_⟩
      · exact HR.keep (fun b o ho hc => hc' b o ((hset b).trans ho) hc) (Nat.le_trans (by simp) hb'.size)
      · rw [hg]
        exact hB7.trans hb'
theorem asps_c (h : Nat → Nat) (hh : ∀ i, i < 12 → h i < 16) (m a b : Nat) (ha : a < 12) (hb : b < 12) (w : World) (LB : LaidB w) (hM : SkyM w m 12 (onF h 12)) :
    Calls Tryd.prog 56 #[.agg (sky h m), .int .i64 ((a : Nat) : Int), .int .i64 ((b : Nat) : Int)] w fun e w' => ∃ v, e = .returned v ∧ ReadsT w' v (aspR h a b) ∧ Below w.heap.size w w' :=
  callsIn_wide.1 (asps_in h hh m a b 8 (Nat.le_refl _) ha hb w LB hM)
end Go.Proofs.YtcdbkgpgjjeoiaaDoor
