/- The law ShieldCopies: the walk. -/
import Derived.Test.YtphnibllfpkkkaaDoorG6
namespace Go.Proofs.YtphnibllfpkkkaaDoor
open Go Go.RowKit
set_option maxRecDepth 100000

theorem takeD {P : Program} {md : Region.Mode} {ops : Array Oper} {Q : Exit → Act → World → Prop} {S : World → Prop} {i : Nat} {oi : Oper} {v : Value} {fuel : Nat} {listed : Array Bool} {a : Act} {w : World} {d : Option Tmp} (hi : ops[i]? = some oi)
    (hs : Region.noSelect ops = true) (hf : Region.free md ops listed i = true) (hr : (Region.ready md ops listed).contains i = true)
    (hQ : ∀ c a w, Q (.panic c) (a.put oi.dst v) w → Q (.panic c) a w) (hy : YieldsIf P ops S oi v a) (hS : S w) (hd : oi.dst = d)
    (h : wpAnyH P md ops Q S fuel (listed.setIfInBounds i true) (a.put d v) w) : wpAnyH P md ops Q S (fuel + 1) listed a w := by
  subst hd
  exact wpAnyH_take hi hs hf hr hQ hy hS h
theorem triple (p : Nat × Nat × Nat) : p = (p.1, p.2.1, p.2.2) := rfl
theorem eqlZeroR (w : World) : (binOp .eql 87 (.agg (irow 18 (cst (rep 0 0 (fun _ => 0))))) (.agg #[.int .i64 0, .int .i64 0, .int .i64 0, .int .i64 0, .int .i64 0, .int .i64 0, .int .i64 0, .int .i64 0, .int .i64 0, .int .i64 0, .int .i64 0, .int .i64 0, .int .i64 0, .int .i64 0, .int .i64 0, .int .i64 0, .int .i64 0, .int .i64 0])).run Tryd.prog w = .ok (.bool true) w := by
  rw [rep_zero]
  exact eqlRepair _ _ true (by simp) w

set_option maxHeartbeats 2000000 in
theorem lawCopies_no (S : Nat → Int) (hS : ¬ ∀ i, i < 16 → Fig (S i)) (w : World) (L : Base2 w) :
    Calls Tryd.prog 13 #[.agg (irow 16 S)] w fun e w' => e = .returned (.bool true) ∧ Below w.heap.size w w' := by
  have h0 := heap_alloc_new w (.cells (irow 16 S) 24)
  have hb0 : Below w.heap.size w (w.alloc (.cells (irow 16 S) 24)) := (Below.refl _ _).alloc (Nat.le_refl _) _
  have HW := hid (fun W => Wrong_no S hS W)
  have HM := hid (fun W => Mend_no S hS W)
  have HS := hid (fun W => rShield_no S hS W)
  have HL := hid (fun W (hb : Below w.heap.size w W) => known_b W (L.a.below hb))
  have heR := eqlZeroR
  clear hS L
  go_enter Tryd.func13, Tryd.ntmps13
  go_wp2_with (first
    | (refine ldrow arrShield _ rfl rfl _ rfl _ _ h0 ?_) | (refine ldrow arrShield _ rfl rfl _ rfl _ _ h1 ?_)
    | (go_at_call 40; go_must (refine (HW.out _).mono ?_); rintro e w1 ⟨rfl, hc⟩; obtain ⟨hb1, h1⟩ := stepO hb0 hb0.size h0 hc; clear h0 hb0 hc)
    | (go_at_call 47; go_must (refine (HM.out _).mono ?_); rintro e w2 ⟨rfl, hc⟩; obtain ⟨hb2, h2⟩ := stepO hb1 hb1.size h1 hc; have hz := heap_alloc_new w2 (.cells (irow 18 (cst (rep 0 0 (fun _ => 0)))) 87); have hbz := hb2.alloc hb2.size (.cells (irow 18 (cst (rep 0 0 (fun _ => 0)))) 87); have h2z := (heap_alloc_old w2 (.cells (irow 18 (cst (rep 0 0 (fun _ => 0)))) 87) (heap_lt h2)).trans h2; have hne := heap_lt h2; clear hc h1 hb1 h2)
    | (rw [rep_zero]; refine strec recRepair _ _ rfl rfl _ _ rfl rfl _ _ hz ?_; have hbs := below_setRow hbz hb2.size (irow 18 (cst (rep 0 0 (fun _ => 0)))); have hgs := setRow_heap _ _ _ (irow 18 (cst (rep 0 0 (fun _ => 0)))) _ _ hz; have h2s := (setRow_other _ w2.heap.size w.heap.size (irow 18 (cst (rep 0 0 (fun _ => 0)))) (by omega)).trans h2z; clear hz hbz h2z; generalize World.setRow _ _ _ = ws at hgs hbs h2s ⊢)
    | (refine ldrow arrShield _ rfl rfl _ rfl _ _ h2s ?_)
    | (go_at_call 16; go_must (refine (HS.out _).mono ?_); rintro e w3 ⟨rfl, hc⟩; obtain ⟨hb3, hg3⟩ := stepO hbs hbs.size hgs hc; clear hgs hbs h2s hc)
    | (refine ldrecG recRepair _ rfl rfl _ rfl _ _ hg3 ?_)
    | (go_at_call 19; go_must (refine (HL.out _ hb3).mono ?_); rintro e w4 ⟨rfl, hc⟩; obtain ⟨hb4, h4⟩ := stepO hb3 hb3.size hg3 hc))
  go_ret
  exact ⟨rfl, hb4⟩

set_option maxHeartbeats 4000000 in
theorem lawCopies_yes (F : Nat → Nat) (hF : ∀ i, i < 16 → F i < 16) (mm cc ll : Nat) (hst : rst (DF F) 65536 = (mm, cc, ll)) (w : World) (L : Base2 w) :
    Calls Tryd.prog 13 #[.agg (irow 16 (cst F))] w fun e w' => e = .returned (.bool true) ∧ Below w.heap.size w w' := by
  have h0 := heap_alloc_new w (.cells (irow 16 (cst F)) 24)
  have hb0 : Below w.heap.size w (w.alloc (.cells (irow 16 (cst F)) 24)) := (Below.refl _ _).alloc (Nat.le_refl _) _
  have hfig : ∀ i, i < 16 → Fig (cst F i) := fun i hi => ⟨by simp, by have := hF i hi; simp; omega⟩
  have HW := hid (fun W (hb : Below w.heap.size w W) => Wrong_yes F hF W (L.a.below hb))
  have HM := hid (fun W (hb : Below w.heap.size w W) => Mend_yes F hF 65536 rfl mm cc ll hst W (L.a.below hb) (L.b.below hb))
  have HS := hid (fun W => rShield_yes (cst F) hfig W)
  have HR := hid (fun W => rWrong F hF W)
  have HX := hid (fun W => rMend F hF mm cc ll hst W)
  have HL := hid (fun W (hb : Below w.heap.size w W) => known_b W (L.a.below hb))
  have hwl : (wl F 16).length ≤ 9223372036854775807 := Nat.le_trans (wl_len F 16) (by omega)
  obtain ⟨R, hR⟩ : ∃ R : Nat → Nat, rep mm cc (der (mths ll)) = R := ⟨_, rfl⟩
  rw [hR] at HM HX
  have heR := eqlRepair (cst R) (cst R) true (by simp)
  clear hF hfig L hst hR
  generalize wl F 16 = xs at *
  go_enter Tryd.func13, Tryd.ntmps13
  go_wp2_with (first
    | (refine ldrow arrShield _ rfl rfl _ rfl _ _ h0 ?_) | (refine ldrow arrShield _ rfl rfl _ rfl _ _ h1 ?_)
    | (go_at_call 40; go_must (refine (HW.out _ hb0).mono ?_); rintro e w1 ⟨vw, rfl, hiw, hc⟩; obtain ⟨hb1, h1⟩ := stepO hb0 hb0.size h0 hc; clear h0 hb0 hc)
    | (go_at_call 47; go_must (refine (HM.out _ hb1).mono ?_); rintro e w2 ⟨rfl, hc⟩; obtain ⟨hb2, h2⟩ := stepO hb1 hb1.size h1 hc; have hi2 := hiw.below hc; have hiz := hi2.below ((Below.refl _ _).alloc (Nat.le_refl _) (.cells (irow 18 (cst (rep 0 0 (fun _ => 0)))) 87)); have hz := heap_alloc_new w2 (.cells (irow 18 (cst (rep 0 0 (fun _ => 0)))) 87); have hbz := hb2.alloc hb2.size (.cells (irow 18 (cst (rep 0 0 (fun _ => 0)))) 87); have h2z := (heap_alloc_old w2 (.cells (irow 18 (cst (rep 0 0 (fun _ => 0)))) 87) (heap_lt h2)).trans h2; have hne := heap_lt h2; clear hc h1 hb1 h2)
    | (rw [rep_zero]; refine strec recRepair _ _ rfl rfl _ _ rfl rfl _ _ hz ?_; have hbw := below_setRow ((Below.refl w2.heap.size w2).alloc (Nat.le_refl _) (.cells (irow 18 (cst (rep 0 0 (fun _ => 0)))) 87)) (Nat.le_refl _) (irow 18 (cst R)); have his := hi2.below hbw; have hbs := below_setRow hbz hb2.size (irow 18 (cst R)); have hgs := setRow_heap _ _ _ (irow 18 (cst R)) _ _ hz; have h2s := (setRow_other _ w2.heap.size w.heap.size (irow 18 (cst R)) (by omega)).trans h2z; clear hz hbz h2z hbw hiz hi2; generalize World.setRow _ _ _ = ws at hgs hbs h2s his ⊢)
    | (refine ldrow arrShield _ rfl rfl _ rfl _ _ h2s ?_)
    | (go_at_call 16; go_must (refine (HS.out _).mono ?_); rintro e w3 ⟨rfl, hc⟩; obtain ⟨hb3, hg3⟩ := stepO hbs hbs.size hgs hc; obtain ⟨_, h3⟩ := stepO hbs hbs.size h2s hc; have hi3 := his.below hc; clear hgs hbs h2s hc his))
  have hls := heap_lt hg3
  have hl0 := heap_lt h3
  have hu24 : Tryd.prog.underlying 24 = some (.array 16 22) := Tryd.underlying24
  have hi24 : (Tryd.prog.info? 24).map (·.size) = some (irow 16 (cst F)).toList.length := by rw [Array.length_toList, irow_size]; kernel_rfl
  have hu87 := Tryd.underlying87
  have hi87 : (Tryd.prog.info? 87).map (·.size) = some (irow 18 (cst R)).toList.length := by rw [Array.length_toList, irow_size]; kernel_rfl
  have K := hid (fun W (hb : Below w3.heap.size w3 W) => (⟨range_irow (heap_below hb h3 hl0), range_irow (heap_below hb hg3 hls), hb⟩ : W.rangeAt w.heap.size 0 (irow 16 (cst F)).toList ∧ W.rangeAt w2.heap.size 0 (irow 18 (cst R)).toList ∧ Below w3.heap.size w3 W))
  have K0 := hid (K.out w3.drew (Below.refl _ _).drew)
  have KC := hid (fun W W2 (h2 : Below W.heap.size W W2) (hb : W.rangeAt w.heap.size 0 (irow 16 (cst F)).toList ∧ W.rangeAt w2.heap.size 0 (irow 18 (cst R)).toList ∧ Below w3.heap.size w3 W) => K.out W2 (hb.2.2.trans (h2.mono hb.2.2.size)))
  have KI := hid (fun W (hb : W.rangeAt w.heap.size 0 (irow 16 (cst F)).toList ∧ W.rangeAt w2.heap.size 0 (irow 18 (cst R)).toList ∧ Below w3.heap.size w3 W) => (hi3.below hb.2.2).reads)
  have KL := hid (fun W (hb : W.rangeAt w.heap.size 0 (irow 16 (cst F)).toList ∧ W.rangeAt w2.heap.size 0 (irow 18 (cst R)).toList ∧ Below w3.heap.size w3 W) => HL.out W (hb3.trans (hb.2.2.mono hb3.size)))
  clear K hg3 h3 hi3 hiw HL
  refine wp_region_noPanic ?_
  refine wp_region_held_drew (S := (fun W => W.rangeAt w.heap.size 0 (irow 16 (cst F)).toList ∧ W.rangeAt w2.heap.size 0 (irow 18 (cst R)).toList ∧ Below w3.heap.size w3 W)) (by kernel_rfl) K0.out (fun hHeld => ?_)
  refine takeD (i := 0) (v := ?_) (d := some 39) rfl (by kernel_rfl) (by kernel_rfl) (by kernel_rfl) (fun _ _ _ h => h) (Or.inl ⟨by rfl, ?_⟩) hHeld rfl ?_
  rotate_left 1
  · intro W hSw; (try dsimp only at hSw); go_simp; (try with_reducible rfl)
  simp only [Act.put, List.setIfInBounds_toArray, List.set_cons_zero, List.set_cons_succ]
  refine takeD (i := 1) (v := ?_) (d := some 40) rfl (by kernel_rfl) (by kernel_rfl) (by kernel_rfl) (fun _ _ _ h => h) (Or.inl ⟨by rfl, ?_⟩) hHeld rfl ?_
  rotate_left 1
  · intro W hSw; (try dsimp only at hSw); go_simp; (try with_reducible rfl)
  simp only [Act.put, List.setIfInBounds_toArray, List.set_cons_zero, List.set_cons_succ]
  refine takeD (i := 2) (v := ?_) (d := some 41) rfl (by kernel_rfl) (by kernel_rfl) (by kernel_rfl) (fun _ _ _ h => h) (Or.inl ⟨by rfl, ?_⟩) hHeld rfl ?_
  rotate_left 1
  · intro W hSw; (try dsimp only at hSw); go_simp; (try with_reducible rfl)
  simp only [Act.put, List.setIfInBounds_toArray, List.set_cons_zero, List.set_cons_succ]
  refine takeD (i := 3) (v := ?_) (d := some 42) rfl (by kernel_rfl) (by kernel_rfl) (by kernel_rfl) (fun _ _ _ h => h) (Or.inl ⟨by rfl, ?_⟩) hHeld rfl ?_
  rotate_left 1
  · intro W hSw; (try dsimp only at hSw); go_simp; (try with_reducible rfl)
  simp only [Act.put, List.setIfInBounds_toArray, List.set_cons_zero, List.set_cons_succ]
  refine takeD (i := 4) (v := ?_) (d := some 43) rfl (by kernel_rfl) (by kernel_rfl) (by kernel_rfl) (fun _ _ _ h => h) (Or.inl ⟨by rfl, ?_⟩) hHeld rfl ?_
  rotate_left 1
  · intro W hSw; (try dsimp only at hSw); go_simp; (try with_reducible rfl)
  simp only [Act.put, List.setIfInBounds_toArray, List.set_cons_zero, List.set_cons_succ]
  refine takeD (i := 5) (v := ?_) (d := some 44) rfl (by kernel_rfl) (by kernel_rfl) (by kernel_rfl) (fun _ _ _ h => h) (Or.inl ⟨by rfl, ?_⟩) hHeld rfl ?_
  rotate_left 1
  · intro W hSw; (try dsimp only at hSw); go_simp; (try with_reducible rfl)
  simp only [Act.put, List.setIfInBounds_toArray, List.set_cons_zero, List.set_cons_succ]
  refine takeD (i := 6) (v := ?_) (d := some 45) rfl (by kernel_rfl) (by kernel_rfl) (by kernel_rfl) (fun _ _ _ h => h) (Or.inl ⟨by rfl, ?_⟩) hHeld rfl ?_
  rotate_left 1
  · intro W hSw; (try dsimp only at hSw); go_simp; (try with_reducible rfl)
  simp only [Act.put, List.setIfInBounds_toArray, List.set_cons_zero, List.set_cons_succ]
  refine takeD (i := 7) (v := ?_) (d := some 46) rfl (by kernel_rfl) (by kernel_rfl) (by kernel_rfl) (fun _ _ _ h => h) (Or.inl ⟨by rfl, ?_⟩) hHeld rfl ?_
  rotate_left 1
  · intro W hSw; (try dsimp only at hSw); go_simp; (try with_reducible rfl)
  simp only [Act.put, List.setIfInBounds_toArray, List.set_cons_zero, List.set_cons_succ]
  refine takeD (i := 8) (v := _) (d := some 47) rfl (by kernel_rfl) (by kernel_rfl) (by kernel_rfl) (fun _ _ _ h => h) (yieldsIf_load_mid (by rfl) _ _ rfl _ _ rfl (irow 16 (cst F)).toList _ (fun _ h => h.1) hu24 rfl hi24) hHeld rfl ?_
  simp only [Act.put, List.setIfInBounds_toArray, List.set_cons_zero, List.set_cons_succ]
  refine wpAnyH_ready (rs := [9]) (by kernel_rfl) (by simp) (AllReadyH.cons rfl (fun K hK => ?_) AllReadyH.nil)
  go_simp
  (go_at_call 17; refine (HR.out _).mono ?_; rintro e w6 ⟨vr, rfl, hi6, hb6⟩)
  go_wp2_with fail
  refine hK.out _ _ ?_ (fun hHeld => ?_)
  · first | exact KC.out _ _ (by assumption) (by assumption)
  clear hK K
  refine wpAnyH_ready (rs := [10]) (by kernel_rfl) (by simp) (AllReadyH.cons rfl (fun K hK => ?_) AllReadyH.nil)
  go_simp
  (go_at_call 20; refine (same_true vw vr xs _ (KI.out _ (by assumption)) hi6.reads hwl).mono ?_; rintro e w7 ⟨rfl, hb7⟩)
  go_wp2_with fail
  refine hK.out _ _ ?_ (fun hHeld => ?_)
  · first | exact KC.out _ _ (by assumption) (by assumption)
  clear hK K
  refine takeD (i := 11) (v := ?_) (d := some 50) rfl (by kernel_rfl) (by kernel_rfl) (by kernel_rfl) (fun _ _ _ h => h) (Or.inl ⟨by rfl, ?_⟩) hHeld rfl ?_
  rotate_left 1
  · intro W hSw; (try dsimp only at hSw); go_simp; (try with_reducible rfl)
  simp only [Act.put, List.setIfInBounds_toArray, List.set_cons_zero, List.set_cons_succ]
  refine takeD (i := 12) (v := ?_) (d := some 51) rfl (by kernel_rfl) (by kernel_rfl) (by kernel_rfl) (fun _ _ _ h => h) (Or.inl ⟨by rfl, ?_⟩) hHeld rfl ?_
  rotate_left 1
  · intro W hSw; (try dsimp only at hSw); go_simp; (try with_reducible rfl)
  simp only [Act.put, List.setIfInBounds_toArray, List.set_cons_zero, List.set_cons_succ]
  refine takeD (i := 13) (v := _) (d := some 52) rfl (by kernel_rfl) (by kernel_rfl) (by kernel_rfl) (fun _ _ _ h => h) (yieldsIf_load_mid (by rfl) _ _ rfl _ _ rfl (irow 18 (cst R)).toList _ (fun _ h => h.2.1) hu87 rfl hi87) hHeld rfl ?_
  simp only [Act.put, List.setIfInBounds_toArray, List.set_cons_zero, List.set_cons_succ]
  refine takeD (i := 14) (v := _) (d := some 53) rfl (by kernel_rfl) (by kernel_rfl) (by kernel_rfl) (fun _ _ _ h => h) (yieldsIf_load_mid (by rfl) _ _ rfl _ _ rfl (irow 16 (cst F)).toList _ (fun _ h => h.1) hu24 rfl hi24) hHeld rfl ?_
  simp only [Act.put, List.setIfInBounds_toArray, List.set_cons_zero, List.set_cons_succ]
  refine wpAnyH_ready (rs := [15]) (by kernel_rfl) (by simp) (AllReadyH.cons rfl (fun K hK => ?_) AllReadyH.nil)
  go_simp
  (go_at_call 48; refine (HX.out _).mono ?_; rintro e w8 ⟨rfl, hb8⟩)
  go_wp2_with fail
  refine hK.out _ _ ?_ (fun hHeld => ?_)
  · first | exact KC.out _ _ (by assumption) (by assumption)
  clear hK K
  refine takeD (i := 16) (v := ?_) (d := some 55) rfl (by kernel_rfl) (by kernel_rfl) (by kernel_rfl) (fun _ _ _ h => h) (Or.inl ⟨by rfl, ?_⟩) hHeld rfl ?_
  rotate_left 1
  · intro W hSw; (try dsimp only at hSw); go_simp; (try with_reducible rfl)
  simp only [Act.put, List.setIfInBounds_toArray, List.set_cons_zero, List.set_cons_succ]
  refine takeD (i := 17) (v := ?_) (d := some 56) rfl (by kernel_rfl) (by kernel_rfl) (by kernel_rfl) (fun _ _ _ h => h) (Or.inl ⟨by rfl, ?_⟩) hHeld rfl ?_
  rotate_left 1
  · intro W hSw; (try dsimp only at hSw); go_simp; (try with_reducible rfl)
  simp only [Act.put, List.setIfInBounds_toArray, List.set_cons_zero, List.set_cons_succ]
  refine takeD (i := 18) (v := ?_) (d := some 57) rfl (by kernel_rfl) (by kernel_rfl) (by kernel_rfl) (fun _ _ _ h => h) (Or.inl ⟨by rfl, ?_⟩) hHeld rfl ?_
  rotate_left 1
  · intro W hSw; (try dsimp only at hSw); go_simp; (try with_reducible rfl)
  simp only [Act.put, List.setIfInBounds_toArray, List.set_cons_zero, List.set_cons_succ]
  refine wpAnyH_ready (rs := [19]) (by kernel_rfl) (by simp) (AllReadyH.cons rfl (fun K hK => ?_) AllReadyH.nil)
  go_simp
  (go_at_call 19; refine (KL.out _ (by assumption)).mono ?_; rintro e w9 ⟨rfl, hb9⟩)
  go_wp2_with fail
  refine hK.out _ _ ?_ (fun hHeld => ?_)
  · first | exact KC.out _ _ (by assumption) (by assumption)
  clear hK K
  refine takeD (i := 20) (v := ?_) (d := some 59) rfl (by kernel_rfl) (by kernel_rfl) (by kernel_rfl) (fun _ _ _ h => h) (Or.inl ⟨by rfl, ?_⟩) hHeld rfl ?_
  rotate_left 1
  · intro W hSw; (try dsimp only at hSw); go_simp; (try with_reducible rfl)
  simp only [Act.put, List.setIfInBounds_toArray, List.set_cons_zero, List.set_cons_succ]
  refine takeD (i := 21) (v := ?_) (d := some 2) rfl (by kernel_rfl) (by kernel_rfl) (by kernel_rfl) (fun _ _ _ h => h) (Or.inl ⟨by rfl, ?_⟩) hHeld rfl ?_
  rotate_left 1
  · intro W hSw; (try dsimp only at hSw); go_simp; (try with_reducible rfl)
  simp only [Act.put, List.setIfInBounds_toArray, List.set_cons_zero, List.set_cons_succ]
  refine wpAnyH_done (by kernel_rfl) ?_ _
  refine NoPanic.normal ?_
  have hbA := And.right (And.right (show w9.rangeAt w.heap.size 0 (irow 16 (cst F)).toList ∧ w9.rangeAt w2.heap.size 0 (irow 18 (cst R)).toList ∧ Below w3.heap.size w3 w9 by assumption))
  go_wp2_with fail
  go_ret
  exact ⟨rfl, hb3.trans (hbA.mono hb3.size)⟩

theorem lawCopies (S : Nat → Int) (w : World) (L : Base2 w) :
    Calls Tryd.prog 13 #[.agg (irow 16 S)] w fun e w' => e = .returned (.bool true) ∧ Below w.heap.size w w' := by
  by_cases hS : ∀ i, i < 16 → Fig (S i)
  · have e : irow 16 S = irow 16 (cst (fun i => (S i).toNat)) := irow_congr fun i hi => by have := hS i hi; unfold Fig at this; simp only [cst]; congr 1; omega
    rw [e]
    exact lawCopies_yes _ (fun i hi => by have := hS i hi; unfold Fig at this; show (S i).toNat < 16; omega) _ _ _ (triple _) w L
  · exact lawCopies_no S hS w L
end Go.Proofs.YtphnibllfpkkkaaDoor
