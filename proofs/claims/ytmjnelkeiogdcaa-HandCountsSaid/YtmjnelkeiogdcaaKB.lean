/- Walks of the reference: Follow, Complete, Times. -/
import Derived.Test.YtmjnelkeiogdcaaJZ
set_option linter.unusedSimpArgs false
set_option linter.unusedVariables false
namespace Go.Proofs.Ytmjnelkeiogdcaa
open Go Go.RowKit Go.Shelf
set_option maxRecDepth 100000

/-- A slice within its capacity. -/
def Capd (v : Value) : Prop := ∀ p n c, v = .slice p n c → n ≤ c
def folR : FR → Array Value
  | .ok _ => #[.int .i64 0, .int .i64 0]
  | .bad i e => #[.int .i64 ((i : Nat) : Int), .int .i64 ((e : Nat) : Int)]
theorem CrsAt.part {W : World} {N : Nat} {p : Option Addr} {n c : Nat} {L : List Int} (h : CrsAt W N (.slice p n c) L) (i : Nat) (hi : i ≤ L.length) : CrsAt W N (.slice p i c) (L.take i) := by
  obtain ⟨p', c', hv, hc⟩ := h.at'
  injection hv with e1 e2 e3
  subst e1 e3
  refine ⟨h.le, p, c, by rw [List.length_take, Nat.min_eq_left hi], fun j hj => ?_⟩
  rw [List.length_take] at hj
  obtain ⟨b, o, e, hb, hcell⟩ := hc j (by omega)
  exact ⟨b, o, e, hb, by rw [List.getElem_take]; exact hcell⟩
theorem exec_slcA {ev : Operand → Value} {o : Oper} {x y : Operand} {a : Addr} {n cap k : Nat} {W : World} (ho : o.op = .slice 24 x none (some y) none) (hx : ev x = .slice (some a) n cap) (hy : ev y = .int .i64 ((k : Nat) : Int)) (hk : k ≤ cap) (h0 : 0 < cap) (ha : a.spot = none) :
    (execOp ev o).run Try.prog W = .ok (.value (.slice (some a) k cap)) W := by
  obtain ⟨b, off, spot⟩ := a
  simp only at ha
  subst ha
  have h1 : ((k : Nat) : Int) ≤ ((cap : Nat) : Int) := by omega
  have h2 : (0 : Int) ≤ ((k : Nat) : Int) := by omega
  have h3 : ¬ cap = 0 := by omega
  simp [execOp, ho, hx, hy]
  go_simp
theorem run_snoc (H : HV) : ∀ (A : List Nat) (s u t : St) (c : Nat), runN H s A = some u → pick (brs H u) c = some t → runN H s (A ++ [c]) = some t
  | [], s, u, t, c, h, hp => by
    simp only [runN, Option.some.injEq] at h
    subst h
    rw [List.nil_append, runN, hp]
    rfl
  | a :: A, s, u, t, c, h, hp => by
    rw [List.cons_append, runN]
    rw [runN] at h
    cases hq : pick (brs H s) a with
    | none => rw [hq] at h; cases h
    | some v => rw [hq] at h; exact run_snoc H A v u t c h hp
set_option maxHeartbeats 4000000 in
theorem rfollow_c (H : HV) (hV : Val H) (fv cv : Value) (L : List Int) (v : Value) (hcp : Capd v) (hn : L.length ≤ 1000000) (N : Nat) (w : World) (hR : RawAt w N (rawOf H) fv cv) (hC : CrsAt w N v L) :
    Calls Try.prog 34 #[.agg (handR (rawOf H) fv cv), v] w fun e w' => e = .returned (.tuple (folR (folN H (beginS H) L 0))) ∧ Below w.heap.size w w' := by
  have hx := heap_alloc_new w (.cells (handR (rawOf H) fv cv) 26)
  have hb : Below w.heap.size w (w.alloc (.cells (handR (rawOf H) fv cv) 26)) := (Below.refl _ _).alloc (Nat.le_refl _) _
  have HX := hid hx
  have HB := hid hb
  have HR := hid (hR.below (hb.mono hR.le))
  have HC := hid (hC.below (hb.mono hC.le))
  have HCH := hid (fun (A : List Nat) (u : St) (hu : runN H (beginS H) A = some u) v W (h1 : RawAt W N (rawOf H) fv cv) (h2 : CrsAt W N v (A.map fun c => ((c : Nat) : Int))) => rchoices_c H hV fv cv A v u hu N W h1 h2)
  obtain ⟨p, kp, hv, -⟩ := hC.at'
  have hkp := hcp _ _ _ hv
  subst hv
  have hF0 := begin_fit H hV.hand.ok
  have HF := hid (fun (A : List Nat) (u : St) (hu : runN H (beginS H) A = some u) => brs_small H u (reach_fit H _ hF0 _ _ (run_reachN H (beginS H) A (beginS H) u 0 rfl hu)).1)
  obtain ⟨n, hnL⟩ : ∃ n, L.length = n := ⟨_, rfl⟩
  have HN := hid hnL
  rw [hnL] at hn hkp ⊢
  obtain ⟨s0, hs0⟩ : ∃ s0, beginS H = s0 := ⟨_, rfl⟩
  rw [hs0] at HCH HF ⊢
  obtain ⟨g, hg⟩ : ∃ g, w.heap.size = g := ⟨_, rfl⟩
  have hNg : N ≤ g := hg ▸ hR.le
  rw [hg] at HX HB
  rw [hg]
  clear hx hb hR hC hV hcp hnL hF0 hs0
  go_enter Try.func34, Try.ntmps34
  go_wp2_with fail
  obtain ⟨w1, hw1⟩ : ∃ w1, w.alloc (.cells (handR (rawOf H) fv cv) 26) = w1 := ⟨_, rfl⟩
  rw [hw1] at HX HB HR HC ⊢
  clear hw1
  go_loopw [6] (fun ix wr => ∃ (i : Nat) (A : List Nat) (u : St), i ≤ n ∧ ix = .int .i64 ((i : Nat) : Int) ∧ (A.map fun c => ((c : Nat) : Int)) = L.take i ∧ runN H s0 A = some u ∧ folN H s0 L 0 = folN H u (L.drop i) i ∧ Below w1.heap.size w1 wr) (fun ix _ => n - (intOf ix).toNat)
  case atStart => exact ⟨0, [], s0, by omega, rfl, by simp, rfl, by simp, Below.refl _ _⟩
  case round =>
    obtain ⟨i, A, u, hi, rfl, hA, hu, hfol, hbw⟩ := hrel
    have hgw : g < w1.heap.size := heap_lt HX.out
    have HB2 := hid (HB.out.trans (hbw.mono (by omega)))
    have HX2 := hid (heap_below hbw HX.out hgw)
    have HR2 := hid (HR.out.below (hbw.mono (by omega)))
    have HC2 := hid (HC.out.below (hbw.mono (by omega)))
    rcases Nat.lt_or_ge i n with hlt | hge
    · have hin : decide (((i : Nat) : Int) < ((n : Nat) : Int)) = true := decide_eq_true (by omega)
      have hin' : ((i : Nat) : Int) < ((n : Nat) : Int) := by omega
      have hi0 : (0 : Int) ≤ ((i : Nat) : Int) := by omega
      have hiL : i < L.length := by rw [HN.out]; exact hlt
      obtain ⟨p', c', hv', hcs⟩ := HC2.out.at'
      injection hv' with ep _ ec
      subst ep
      subst ec
      obtain ⟨b, o, rfl, hbN, hcell⟩ := hcs i hiL
      have hdrop : L.drop i = L[i] :: L.drop (i + 1) := List.drop_eq_getElem_cons hiL
      have htake : L.take (i + 1) = L.take i ++ [L[i]] := by rw [List.take_add_one, List.getElem?_eq_getElem hiL]; rfl
      have hpart := HC2.out.part i (by omega)
      rw [← hA] at hpart
      have hch := HF.out A u hu
      have HCU := hid (HCH.out A u hu)
      have HPT := hid hpart
      have HBW := hid hbw
      have HFO := hid hfol
      have HA := hid hA
      have HU := hid hu
      have hkk : i ≤ kp := by omega
      have hk0 : 0 < kp := by omega
      obtain ⟨c, hc⟩ : ∃ c, L[i] = c := ⟨_, rfl⟩
      rw [hc] at hcell hdrop htake
      have HDT := hid (show L.drop i = c :: L.drop (i + 1) ∧ L.take (i + 1) = L.take i ++ [c] from ⟨hdrop, htake⟩)
      obtain ⟨m, hm⟩ : ∃ m, chN H u = m := ⟨_, rfl⟩
      rw [hm] at hch HCU
      have HM := hid hm
      have hCell := hid hcell
      clear hfol hA hu hbw hcs hdrop htake hpart hcell hc hm
      go_upto_region 4 with fail
      have hbd : Below wr.heap.size wr wr.drew := ⟨rfl, rfl, rfl, Nat.le_refl _, fun _ _ => rfl⟩
      have hS0 : Below wr.heap.size wr wr.drew := hbd
      refine regD (fun Y => Below wr.heap.size wr Y) (fun _ => true) (by kernel_rfl) ?_
      refine takeE (i := 0) (.agg (handR (rawOf H) fv cv)) (d := some 14) rfl (by kernel_rfl) (by kernel_rfl) (by kernel_rfl) (by kernel_rfl) (fun _ _ _ h => h) rfl (fun Y hY => by exact exec_ldR rfl rfl (heap_below hY HX2.out (heap_lt HX2.out))) hS0 rfl ?_
      simp only [Act.put, List.setIfInBounds_toArray, List.set_cons_zero, List.set_cons_succ]
      refine takeE (i := 1) (.slice (some ⟨b, o, none⟩) n kp) (d := some 15) rfl (by kernel_rfl) (by kernel_rfl) (by kernel_rfl) (by kernel_rfl) (fun _ _ _ h => h) rfl (fun Y hY => by exact rfl) hS0 rfl ?_
      simp only [Act.put, List.setIfInBounds_toArray, List.set_cons_zero, List.set_cons_succ]
      refine takeE (i := 2) (.int .i64 ((i : Nat) : Int)) (d := some 16) rfl (by kernel_rfl) (by kernel_rfl) (by kernel_rfl) (by kernel_rfl) (fun _ _ _ h => h) rfl (fun Y hY => by exact rfl) hS0 rfl ?_
      simp only [Act.put, List.setIfInBounds_toArray, List.set_cons_zero, List.set_cons_succ]
      refine takeE (i := 3) (.slice (some ⟨b, o, none⟩) i kp) (d := some 17) rfl (by kernel_rfl) (by kernel_rfl) (by kernel_rfl) (by kernel_rfl) (fun _ _ _ h => h) rfl (fun Y hY => by exact exec_slcA rfl rfl rfl hkk hk0 rfl) hS0 rfl ?_
      simp only [Act.put, List.setIfInBounds_toArray, List.set_cons_zero, List.set_cons_succ]
      refine stepD 4 (by kernel_rfl) rfl rfl (fun K hK => ?_)
      go_simp
      go_at_call 35
      refine (HCU.out _ _ (HR2.out.below (hS0.mono HR2.out.le)) (HPT.out.below (hS0.mono HPT.out.le))).mono ?_
      rintro e w2 ⟨rfl, hb2⟩
      have hS0 : Below wr.heap.size wr w2 := hS0.trans hb2
      go_simp
      refine hK _ _ (fun _ => hS0) ?_
      clear hK K hb2
      refine takeE (i := 5) (.int .i64 ((m : Nat) : Int)) (d := some 7) rfl (by kernel_rfl) (by kernel_rfl) (by kernel_rfl) (by kernel_rfl) (fun _ _ _ h => h) rfl (fun Y hY => by exact rfl) hS0 rfl ?_
      simp only [Act.put, List.setIfInBounds_toArray, List.set_cons_zero, List.set_cons_succ]
      refine doneD (by kernel_rfl) ?_ _
      refine OnlyNorm.normal ?_
      have HB3 := hid (HB2.out.trans (hS0.mono (by have := heap_lt HX2.out; omega)))
      by_cases hm0 : m = 0
      · subst hm0
        have hfin : folN H s0 L 0 = .bad i 5 := by rw [HFO.out, HDT.out.1, folN, if_pos HM.out]
        go_wp2_with fail
        go_ret2
        exact ⟨by first | (rw [hfin]; rfl) | rfl, HB3.out⟩
      · have hm1 : (((m : Nat) : Int) == 0) = false := by simp; omega
        have hmw : IntKind.i64.wrap (((m : Nat) : Int) - 1) = ((m : Nat) : Int) - 1 := IntWalk.i64_in _ (by omega)
        have hc2 : w2.cell? ⟨b, o + i, none⟩ = some (.int .i64 c) := by
          obtain ⟨z, hz, _⟩ := cell_book hCell.out
          rw [cell_same ((heap_below hS0 hz (heap_lt hz)).trans hz.symm)]
          exact hCell.out
        by_cases hcr : 0 ≤ c ∧ c < ((m : Nat) : Int)
        · have hw : (decide ((0 : Int) ≤ c) && decide (c ≤ ((m : Nat) : Int) - 1)) = true := by simp; omega
          obtain ⟨cc, rfl⟩ : ∃ cc : Nat, c = ((cc : Nat) : Int) := ⟨c.toNat, by omega⟩
          obtain ⟨t, ht⟩ := pick_yes (brs H u) cc (by rw [← chN_sum, HM.out]; omega)
          have hiw : IntKind.i64.wrap (((i : Nat) : Int) + 1) = ((i + 1 : Nat) : Int) := (IntWalk.i64_in _ (by omega)).trans (by omega)
          have HT := hid ht
          have HS := hid hS0
          clear hS0 ht
          go_wp2_with (go_at_call 38; refine (rin_c _ _ _ _).mono ?_; rintro e w4 ⟨rfl, rfl⟩; rw [hw])
          go_roundw
          case rel =>
            refine ⟨i + 1, A ++ [cc], t, by omega, rfl, ?_, run_snoc H A s0 u t cc HU.out HT.out, ?_, ?_⟩
            · rw [List.map_append, HA.out, HDT.out.2]; rfl
            · rw [HFO.out, HDT.out.1, folN, if_neg (by rw [HM.out]; exact hm0), if_neg (by omega), Int.toNat_natCast, HT.out]
            · exact HBW.out.trans (HS.out.mono HBW.out.size)
          case measure => simp only [intOf, Int.toNat_natCast]; omega
        · have hw : (decide ((0 : Int) ≤ c) && decide (c ≤ ((m : Nat) : Int) - 1)) = false := by simp; omega
          have hfin : folN H s0 L 0 = .bad i 20 := by
            rw [HFO.out, HDT.out.1, folN, if_neg (by rw [HM.out]; exact hm0)]
            by_cases hneg : c < 0
            · rw [if_pos hneg]
            · rw [if_neg hneg, pick_none _ _ (by rw [← chN_sum, HM.out]; omega)]
          clear hS0
          go_wp2_with (go_at_call 38; refine (rin_c _ _ _ _).mono ?_; rintro e w4 ⟨rfl, rfl⟩; rw [hw])
          go_ret2
          exact ⟨by first | (rw [hfin]; rfl) | rfl, HB3.out⟩
    · obtain rfl : i = n := by omega
      have hin : decide (((i : Nat) : Int) < ((i : Nat) : Int)) = false := decide_eq_false (by omega)
      have hfin : folN H s0 L 0 = .ok u := by rw [hfol, List.drop_of_length_le (by rw [HN.out]; omega)]; rfl
      clear hfol
      go_wp2_with fail
      go_ret2
      exact ⟨by first | (rw [hfin]; rfl) | rfl, HB2.out⟩
end Go.Proofs.Ytmjnelkeiogdcaa
/- Walks of the reference: Complete, Times, Outcomes, the face of a choice. -/
namespace Go.Proofs.Ytmjnelkeiogdcaa
open Go Go.RowKit Go.Shelf
set_option maxRecDepth 100000

theorem timesN_eq (a b : Nat) : timesN a b = if 1000000000000000 < a * b then 1000000000000001 else a * b := by
  unfold timesN
  rcases Nat.eq_zero_or_pos b with h0 | h0
  · subst h0; simp
  · have h1 : 1000000000000000 / b < a ↔ 1000000000000000 < a * b := by rw [Nat.div_lt_iff_lt_mul h0]
    simp [h0, h1]
theorem timesN_comm (a b : Nat) : timesN a b = timesN b a := by rw [timesN_eq, timesN_eq, Nat.mul_comm]
set_option maxHeartbeats 1000000 in
theorem rtimes_c (b a : Nat) (ha : a < 9223372036854775808) (hb : b < 9223372036854775808) (w : World) : Calls Try.prog 36 #[.int .i64 ((b : Nat) : Int), .int .i64 ((a : Nat) : Int)] w fun e w' => e = .returned (.int .i64 ((timesN b a : Nat) : Int)) ∧ w = w' := by
  rw [timesN_comm b a]
  have hle := timesN_le a b
  unfold timesN at *
  by_cases h0 : 0 < b
  · have e0 : decide ((0 : Int) < ((b : Nat) : Int)) = true := by simp; omega
    have e0' : (0 : Int) < ((b : Nat) : Int) := by omega
    have hne : (((b : Nat) : Int) == 0) = false := by simp; omega
    have hne' : ((b : Nat) : Int) ≠ 0 := by omega
    have hq : Int.tdiv 1000000000000000 ((b : Nat) : Int) = ((1000000000000000 / b : Nat) : Int) := tdivN 1000000000000000 b
    have hql : 1000000000000000 / b ≤ 1000000000000000 := Nat.div_le_self _ _
    obtain ⟨q, hqq⟩ : ∃ q, 1000000000000000 / b = q := ⟨_, rfl⟩
    rw [hqq] at hq hql hle
    rw [hqq]
    have wq := wrap_nat q (by omega)
    by_cases h1 : q < a
    · have e1 : decide (((q : Nat) : Int) < ((a : Nat) : Int)) = true := by simp; omega
      have e1' : ((q : Nat) : Int) < ((a : Nat) : Int) := by omega
      rw [if_pos ⟨h0, h1⟩]
      clear hqq
      go_enter Try.func36, Try.ntmps36
      go_wp2_with fail
      go_ret
      exact ⟨rfl, rfl⟩
    · have e1 : decide (((q : Nat) : Int) < ((a : Nat) : Int)) = false := by simp; omega
      have e1' : ¬ ((q : Nat) : Int) < ((a : Nat) : Int) := by omega
      rw [if_neg (fun h => h1 h.2)] at hle ⊢
      obtain ⟨z, hz⟩ : ∃ z, a * b = z := ⟨_, rfl⟩
      have hm : ((b : Nat) : Int) * ((a : Nat) : Int) = ((z : Nat) : Int) := by rw [← hz, Int.mul_comm]; push_cast; rfl
      rw [hz] at hle ⊢
      have wz := wrap_nat z (by omega)
      clear hqq hz
      go_enter Try.func36, Try.ntmps36
      go_wp2_with fail
      go_ret
      exact ⟨rfl, rfl⟩
  · obtain rfl : b = 0 := by omega
    have e0 : decide ((0 : Int) < ((0 : Nat) : Int)) = false := rfl
    have wz : IntKind.i64.wrap (0 * ((a : Nat) : Int)) = 0 := by rw [Int.zero_mul]; rfl
    rw [if_neg (fun h => by omega)] at hle ⊢
    rw [Nat.mul_zero]
    go_enter Try.func36, Try.ntmps36
    go_wp2_with fail
    go_ret
    exact ⟨rfl, rfl⟩
theorem fol_dep (H : HV) : ∀ (L : List Int) (s : St) (i : Nat) (t : St), Fit H s → Last H s → folN H s L i = .ok t → Fit H t ∧ Last H t ∧ dep t + L.length = dep s
  | [], s, i, t, hF, hl, h => by
    simp only [folN, FR.ok.injEq] at h
    subst h
    exact ⟨hF, hl, rfl⟩
  | c :: L, s, i, t, hF, hl, h => by
    simp only [folN] at h
    split at h
    · cases h
    · split at h
      · cases h
      · cases hp : pick (brs H s) c.toNat with
        | none => rw [hp] at h; cases h
        | some u =>
          rw [hp] at h
          obtain ⟨w, hw⟩ := pick_mem _ _ _ hp
          obtain ⟨h1, h2⟩ := step_fit H s hF _ hw
          obtain ⟨h3, h4, h5⟩ := fol_dep H L u (i + 1) t h1 (hl.step hw) h
          exact ⟨h3, h4, by simp only [List.length_cons]; simp only at h2; omega⟩
theorem fol_err (H : HV) : ∀ (L : List Int) (s : St) (i : Nat) (j e : Nat), folN H s L i = .bad j e → e ≠ 0
  | [], s, i, j, e, h => by cases h
  | c :: L, s, i, j, e, h => by
    simp only [folN] at h
    split at h
    · injection h with _ h; omega
    · split at h
      · injection h with _ h; omega
      · cases hp : pick (brs H s) c.toNat with
        | none => rw [hp] at h; injection h with _ h; omega
        | some u => rw [hp] at h; exact fol_err H L u (i + 1) j e h
/-- A guarded operation that yields a value. -/
theorem wpList_valueG {P : Program} {ops : Array Oper} {rest : List Oper} {o : Oper} {Q : Exit → Act → World → Prop} {a : Act} {w : World} (hgd : Region.wanted o (yielded ops a.tmps) = true) (v : Value) (hrun : (execOp a.eval o).run P w = .ok (.value v) w)
    (hK : wpList P ops Q rest (a.put o.dst v) w) : wpList P ops Q (o :: rest) a w :=
  wpList_step fun K hK' => by rw [if_pos hgd]; unfold Oper.wp; rw [hrun]; exact hK' _ _ hK
set_option maxHeartbeats 2000000 in
theorem rcomplete_c (H : HV) (hV : Val H) (fv cv : Value) (L : List Int) (v : Value) (hcp : Capd v) (hn : L.length ≤ 1000000) (N : Nat) (w : World) (hR : RawAt w N (rawOf H) fv cv) (hC : CrsAt w N v L) :
    Calls Try.prog 31 #[.agg (handR (rawOf H) fv cv), v] w fun e w' => e = .returned (.tuple (folR (fulN H (beginS H) L))) ∧ Below w.heap.size w w' := by
  have hx := heap_alloc_new w (.cells (handR (rawOf H) fv cv) 26)
  have hb : Below w.heap.size w (w.alloc (.cells (handR (rawOf H) fv cv) 26)) := (Below.refl _ _).alloc (Nat.le_refl _) _
  have HX := hid hx
  have HB := hid hb
  have HFO := hid (rfollow_c H hV fv cv L v hcp hn N _ (hR.below (hb.mono hR.le)) (hC.below (hb.mono hC.le)))
  have HST := hid (fun W => steps_dep H hV.hand.ok hV.hand.bare ▸ rsteps_c (rawOf H) fv cv W)
  obtain ⟨p, kp, hv, -⟩ := hC.at'
  have hF0 := begin_fit H hV.hand.ok
  have hl0 := hV.hand.last
  subst hv
  obtain ⟨n, hnL⟩ : ∃ n, L.length = n := ⟨_, rfl⟩
  obtain ⟨s0, hs0⟩ : ∃ s0, beginS H = s0 := ⟨_, rfl⟩
  rw [hs0] at hF0 hl0 HFO HST
  rw [hs0]
  rw [hnL] at HFO ⊢
  have hgw : (w.alloc (.cells (handR (rawOf H) fv cv) 26)).heap.size = w.heap.size + 1 := by simp
  rw [hgw] at HFO
  unfold fulN
  rw [hnL]
  clear hx hb hR hC hV hcp hs0
  cases hf : folN H s0 L 0 with
  | bad j e =>
    rw [hf] at HFO
    have he := fol_err H L s0 0 j e hf
    have e0 : (((e : Nat) : Int) == 0) = false := by simp; omega
    clear hf hF0 hl0 hgw
    go_enter Try.func31, Try.ntmps31
    go_wp2_with (first
      | (refine wpList_value rfl (by intro c hc; cases hc) (.agg (handR (rawOf H) fv cv)) (exec_ldR rfl rfl HX.out) ?_)
      | (go_at_call 34; refine HFO.out.mono ?_; rintro e w1 ⟨rfl, hb1⟩; have HB1 := hid (HB.out.trans (hb1.mono (by omega))); simp only [folR]))
    go_ret2
    exact ⟨rfl, HB1.out⟩
  | ok t =>
    rw [hf] at HFO
    obtain ⟨hFt, hlt, hdt⟩ := fol_dep H L s0 0 t hF0 hl0 hf
    rw [hnL] at hdt
    by_cases hc0 : chN H t = 0
    · have hd0 := (hlt.zero hFt).1 hc0
      simp only [if_pos hc0]
      obtain ⟨d, hd⟩ : ∃ d, dep s0 = d := ⟨_, rfl⟩
      rw [hd] at HST hdt
      have e1 : decide (((n : Nat) : Int) < ((d : Nat) : Int)) = false := decide_eq_false (by omega)
      have e1' : ¬ ((n : Nat) : Int) < ((d : Nat) : Int) := by omega
      clear hf hF0 hl0 hgw hFt hlt hc0 hd0 hd hdt hnL
      go_enter Try.func31, Try.ntmps31
      go_wp2_with (first
        | (refine wpList_value rfl (by intro c hc; cases hc) (.agg (handR (rawOf H) fv cv)) (exec_ldR rfl rfl HX.out) ?_)
        | (go_at_call 34; refine HFO.out.mono ?_; rintro e w1 ⟨rfl, hb1⟩; have HB1 := hid (HB.out.trans (hb1.mono (by omega))); have HX1 := hid (heap_below hb1 HX.out (by simp)); simp only [folR])
        | (refine wpList_valueG rfl (.agg (handR (rawOf H) fv cv)) (exec_ldR rfl rfl HX1.out) ?_)
        | (go_at_call 46; refine (HST.out _).mono ?_; rintro e w2 ⟨rfl, hb2⟩; have HB2 := hid (HB1.out.trans (hb2.mono (by have := heap_lt HX1.out; omega)))))
      go_ret2
      exact ⟨rfl, HB2.out⟩
    · have hd0 : dep t ≠ 0 := fun h => hc0 ((hlt.zero hFt).2 h)
      simp only [if_neg hc0]
      obtain ⟨d, hd⟩ : ∃ d, dep s0 = d := ⟨_, rfl⟩
      rw [hd] at HST hdt
      have e1 : decide (((n : Nat) : Int) < ((d : Nat) : Int)) = true := decide_eq_true (by omega)
      have e1' : ((n : Nat) : Int) < ((d : Nat) : Int) := by omega
      clear hf hF0 hl0 hgw hFt hlt hc0 hd0 hd hdt hnL
      go_enter Try.func31, Try.ntmps31
      go_wp2_with (first
        | (refine wpList_value rfl (by intro c hc; cases hc) (.agg (handR (rawOf H) fv cv)) (exec_ldR rfl rfl HX.out) ?_)
        | (go_at_call 34; refine HFO.out.mono ?_; rintro e w1 ⟨rfl, hb1⟩; have HB1 := hid (HB.out.trans (hb1.mono (by omega))); have HX1 := hid (heap_below hb1 HX.out (by simp)); simp only [folR])
        | (refine wpList_valueG rfl (.agg (handR (rawOf H) fv cv)) (exec_ldR rfl rfl HX1.out) ?_)
        | (go_at_call 46; refine (HST.out _).mono ?_; rintro e w2 ⟨rfl, hb2⟩; have HB2 := hid (HB1.out.trans (hb2.mono (by have := heap_lt HX1.out; omega)))))
      go_ret2
      exact ⟨rfl, HB2.out⟩
set_option maxHeartbeats 4000000 in
theorem routcomes_c (H : HV) (hV : Val H) (fv cv : Value) (N : Nat) (w : World) (hR : RawAt w N (rawOf H) fv cv) :
    Calls Try.prog 22 #[.agg (handR (rawOf H) fv cv)] w fun e w' => e = .returned (.int .i64 ((outsN H : Nat) : Int)) ∧ Below w.heap.size w w' := by
  have hx := heap_alloc_new w (.cells (handR (rawOf H) fv cv) 26)
  have hb : Below w.heap.size w (w.alloc (.cells (handR (rawOf H) fv cv) 26)) := (Below.refl _ _).alloc (Nat.le_refl _) _
  have HX := hid hx
  have HB := hid hb
  have HR := hid (hR.below (hb.mono hR.le))
  obtain ⟨g, hg⟩ : ∃ g, w.heap.size = g := ⟨_, rfl⟩
  rw [hg] at HX HB
  rw [hg]
  have hNg : N ≤ g := hg ▸ hR.le
  clear hx hb
  rcases hV.hand.ok with ⟨hk, h1, h2, h3, h4, h5⟩ | ⟨hk, h1, h2, h3⟩ | ⟨hk, h1, h2, h3, h4, h5, h6⟩ | ⟨hk, h1, h2, h3, h4, h5⟩ | ⟨hk, h1, h2, h3⟩
  · -- dice
    have q1 : ((rawOf H).kind == 1) = true := by show (((H.kind : Nat) : Int) == 1) = true; simp [hk]
    rw [show outsN H = H.count * topN H.faces H.faces.length + 1 by unfold outsN; rw [if_pos hk]]
    obtain ⟨pf, cf, hfe, -⟩ := hR.faces
    obtain ⟨F, hF⟩ : ∃ F, H.faces.length = F := ⟨_, rfl⟩
    have hFr : (rawOf H).faces.length = F := by simp [rawOf, hF]
    rw [hFr] at hfe
    have HFL := hid (show H.faces.length = F ∧ (rawOf H).faces.length = F from ⟨hF, hFr⟩)
    have H5 := hid h5
    have hst := hid (topN_step H.faces)
    have hle := hid (topN_le H.faces 40 (fun f h => (h5 f h).1))
    rw [hF]
    obtain ⟨C, hCC⟩ : ∃ C, H.count = C := ⟨_, rfl⟩
    have hrk : (rawOf H).count = ((C : Nat) : Int) := by show ((H.count : Nat) : Int) = _; rw [hCC]
    rw [hCC] at h1 h2 ⊢
    have hf20 : F ≤ 20 := by omega
    clear hR hV h3 h4 h5 hF hFr hCC
    subst hfe
    have ⟨k0, k1, k2, k3, k4, k5, k6, k7⟩ := cells8 HX.out
    go_enter Try.func22, Try.ntmps22
    go_wp2_with fail
    obtain ⟨w1, hw1⟩ : ∃ w1, w.alloc (.cells (handR (rawOf H) (.slice pf F cf) cv) 26) = w1 := ⟨_, rfl⟩
    rw [hw1] at HX HB HR k0 k1 k2 k3 k4 k5 k6 k7 ⊢
    clear hw1
    go_loopw [3, 4] (fun nv ix wr => ∃ i : Nat, i ≤ F ∧ ix = .int .i64 ((i : Nat) : Int) ∧ nv = .int .i64 ((topN H.faces i : Nat) : Int) ∧ Below w1.heap.size w1 wr) (fun _ ix _ => F - (intOf ix).toNat)
    case atStart => exact ⟨0, by omega, rfl, rfl, Below.refl _ _⟩
    case round =>
      obtain ⟨i, hi, rfl, rfl, hbw⟩ := hrel
      have ⟨k0, k1, k2, k3, k4, k5, k6, k7⟩ := cells8 (heap_below hbw HX.out (heap_lt HX.out))
      rw [hrk] at k1
      have HBW := hid hbw
      have hR2 := HR.out.below (hbw.mono HR.out.le)
      clear hbw
      rcases Nat.lt_or_ge i F with hlt2 | hge2
      · have hin : decide (((i : Nat) : Int) < ((F : Nat) : Int)) = true := decide_eq_true (by omega)
        have hin' : ((i : Nat) : Int) < ((F : Nat) : Int) := by omega
        have hi0 : (0 : Int) ≤ ((i : Nat) : Int) := by omega
        obtain ⟨p', c', e', hfc⟩ := hR2.faces
        injection e' with ep _ ec
        subst ep
        subst ec
        obtain ⟨b, o, rfl, hbN, c1, c2⟩ := hfc i (by rw [HFL.out.2]; exact hlt2)
        have hiF : i < H.faces.length := by rw [HFL.out.1]; exact hlt2
        have e2 : (rawOf H).faces[i]'(by rw [HFL.out.2]; exact hlt2) = (((H.faces[i].1 : Nat) : Int), ((H.faces[i].2 : Nat) : Int)) := by simp [rawOf]
        rw [e2] at c1
        have hst2 := hst.out i hiF
        have hw1 := (H5.out _ (List.getElem_mem hiF)).1
        have hsl := hle.out i
        obtain ⟨S, hS⟩ : ∃ S, topN H.faces i = S := ⟨_, rfl⟩
        obtain ⟨x, hx⟩ : ∃ x, H.faces[i].1 = x := ⟨_, rfl⟩
        rw [hx] at c1 hw1 hst2
        rw [hS] at hsl hst2 ⊢
        have HS2 := hid hst2
        have hmx : max ((S : Nat) : Int) ((x : Nat) : Int) = ((max S x : Nat) : Int) := by omega
        have hmx2 : max ((x : Nat) : Int) ((S : Nat) : Int) = ((max S x : Nat) : Int) := by omega
        have hiw : IntKind.i64.wrap (((i : Nat) : Int) + 1) = ((i + 1 : Nat) : Int) := (IntWalk.i64_in _ (by omega)).trans (by omega)
        simp only at c1 c2
        clear hst2 hx hS hfc e2 hR2 c2
        go_wp2_with fail
        go_roundw
        case rel => exact ⟨i + 1, by omega, rfl, by rw [HS2.out]; exact congrArg (Value.int .i64) (by split <;> omega), HBW.out⟩
        case measure => simp only [intOf, Int.toNat_natCast]; omega
      · obtain rfl : i = F := by omega
        have hin : decide (((i : Nat) : Int) < ((i : Nat) : Int)) = false := decide_eq_false (by omega)
        have hsl := hle.out i
        obtain ⟨S, hS⟩ : ∃ S, topN H.faces i = S := ⟨_, rfl⟩
        have HSS := hid hS
        rw [hS] at hsl ⊢
        have hm : C * S ≤ 8 * 40 := Nat.mul_le_mul h2 hsl
        obtain ⟨z, hz⟩ : ∃ z, C * S = z := ⟨_, rfl⟩
        have HZ := hid hz
        have hmz : ((C : Nat) : Int) * ((S : Nat) : Int) = ((z : Nat) : Int) := by rw [← hz]; push_cast; rfl
        have hz1 : IntKind.i64.wrap ((z : Nat) : Int) = ((z : Nat) : Int) := IntWalk.i64_in _ (by omega)
        have hz2 : IntKind.i64.wrap (((z : Nat) : Int) + 1) = ((z + 1 : Nat) : Int) := (IntWalk.i64_in _ (by omega)).trans (by omega)
        clear hR2 hS hm hz
        go_wp2_with fail
        go_ret
        exact ⟨by rw [HSS.out, HZ.out]; rfl, HB.out.trans (HBW.out.mono (by have := HB.out.size; have := heap_lt HX.out; omega))⟩
  · -- marks
    have q1 : ((rawOf H).kind == 1) = false := by show (((H.kind : Nat) : Int) == 1) = false; simp [hk]
    have q2 : ((rawOf H).kind == 2) = true := by show (((H.kind : Nat) : Int) == 2) = true; simp [hk]
    rw [show outsN H = 2 by unfold outsN; rw [if_neg (by omega), if_pos hk]]
    have ⟨k0, k1, k2, k3, k4, k5, k6, k7⟩ := cells8 HX.out
    clear hR hV
    go_enter Try.func22, Try.ntmps22
    go_wp2_with fail
    go_ret
    exact ⟨rfl, HB.out⟩
  · -- stalks
    have q1 : ((rawOf H).kind == 1) = false := by show (((H.kind : Nat) : Int) == 1) = false; simp [hk]
    have q2 : ((rawOf H).kind == 2) = false := by show (((H.kind : Nat) : Int) == 2) = false; simp [hk]
    have q3 : ((rawOf H).kind == 3) = true := by show (((H.kind : Nat) : Int) == 3) = true; simp [hk]
    rw [show outsN H = H.count / H.group + 1 by unfold outsN; rw [if_neg (by omega), if_neg (by omega), if_pos hk]]
    have ⟨k0, k1, k2, k3, k4, k5, k6, k7⟩ := cells8 HX.out
    obtain ⟨C, hCC⟩ : ∃ C, H.count = C := ⟨_, rfl⟩
    obtain ⟨G, hGG⟩ : ∃ G, H.group = G := ⟨_, rfl⟩
    have hrk : (rawOf H).count = ((C : Nat) : Int) := by show ((H.count : Nat) : Int) = _; rw [hCC]
    have hrg : (rawOf H).group = ((G : Nat) : Int) := by show ((H.group : Nat) : Int) = _; rw [hGG]
    rw [hCC, hGG]
    rw [hCC] at h4
    rw [hGG] at h1
    rw [hrk] at k1
    rw [hrg] at k5
    have hne : (((G : Nat) : Int) == 0) = false := by simp; omega
    have hne' : ((G : Nat) : Int) ≠ 0 := by omega
    have hq : Int.tdiv ((C : Nat) : Int) ((G : Nat) : Int) = ((C / G : Nat) : Int) := tdivN C G
    have hql : C / G ≤ C := Nat.div_le_self _ _
    obtain ⟨q, hqq⟩ : ∃ q, C / G = q := ⟨_, rfl⟩
    rw [hqq] at hq hql ⊢
    have wq : IntKind.i64.wrap ((q : Nat) : Int) = ((q : Nat) : Int) := IntWalk.i64_in _ (by omega)
    have wq2 : IntKind.i64.wrap (((q : Nat) : Int) + 1) = ((q + 1 : Nat) : Int) := (IntWalk.i64_in _ (by omega)).trans (by omega)
    clear hR hV hqq hCC hGG
    go_enter Try.func22, Try.ntmps22
    go_wp2_with fail
    go_ret
    exact ⟨rfl, HB.out⟩
  · -- cards drawn
    have q1 : ((rawOf H).kind == 1) = false := by show (((H.kind : Nat) : Int) == 1) = false; simp [hk]
    have q2 : ((rawOf H).kind == 2) = false := by show (((H.kind : Nat) : Int) == 2) = false; simp [hk]
    have q3 : ((rawOf H).kind == 3) = false := by show (((H.kind : Nat) : Int) == 3) = false; simp [hk]
    have q4 : ((rawOf H).kind == 4) = true := by show (((H.kind : Nat) : Int) == 4) = true; simp [hk]
    rw [show outsN H = 8 ^ H.count by unfold outsN; rw [if_neg (by omega), if_neg (by omega), if_neg (by omega), if_pos hk]]
    obtain ⟨C, hCC⟩ : ∃ C, H.count = C := ⟨_, rfl⟩
    have hrk : (rawOf H).count = ((C : Nat) : Int) := by show ((H.count : Nat) : Int) = _; rw [hCC]
    rw [hCC] at h2 ⊢
    clear hR hV h1 h3 h4 h5 hCC
    have ⟨k0, k1, k2, k3, k4, k5, k6, k7⟩ := cells8 HX.out
    go_enter Try.func22, Try.ntmps22
    go_wp2_with fail
    obtain ⟨w1, hw1⟩ : ∃ w1, w.alloc (.cells (handR (rawOf H) fv cv) 26) = w1 := ⟨_, rfl⟩
    rw [hw1] at HX HB HR k0 k1 k2 k3 k4 k5 k6 k7 ⊢
    clear hw1
    go_loopw [5, 6] (fun nv ix wr => ∃ i : Nat, i ≤ C ∧ ix = .int .i64 ((i : Nat) : Int) ∧ nv = .int .i64 ((8 ^ i : Nat) : Int) ∧ Below w1.heap.size w1 wr) (fun _ ix _ => C - (intOf ix).toNat)
    case atStart => exact ⟨0, by omega, rfl, rfl, Below.refl _ _⟩
    case round =>
      obtain ⟨i, hi, rfl, rfl, hbw⟩ := hrel
      have ⟨k0, k1, k2, k3, k4, k5, k6, k7⟩ := cells8 (heap_below hbw HX.out (heap_lt HX.out))
      rw [hrk] at k1
      have HBW := hid hbw
      clear hbw
      have hp1 : 8 ^ i ≤ 8 ^ 4 := Nat.pow_le_pow_right (by omega) (by omega)
      have hps : 8 ^ (i + 1) = 8 ^ i * 8 := Nat.pow_succ 8 i
      rcases Nat.lt_or_ge i C with hlt2 | hge2
      · have hin : decide (((i : Nat) : Int) < ((C : Nat) : Int)) = true := decide_eq_true (by omega)
        have hin' : ((i : Nat) : Int) < ((C : Nat) : Int) := by omega
        obtain ⟨S, hS⟩ : ∃ S, 8 ^ i = S := ⟨_, rfl⟩
        rw [hS] at hp1 hps ⊢
        have HS2 := hid hps
        have hsw : IntKind.i64.wrap (((S : Nat) : Int) * 8) = ((S * 8 : Nat) : Int) := (IntWalk.i64_in _ (by omega)).trans (by omega)
        have hiw : IntKind.i64.wrap (((i : Nat) : Int) + 1) = ((i + 1 : Nat) : Int) := (IntWalk.i64_in _ (by omega)).trans (by omega)
        clear hps hS
        go_wp2_with fail
        go_roundw
        case rel => exact ⟨i + 1, by omega, rfl, by rw [HS2.out]; exact congrArg (Value.int .i64) (by omega), HBW.out⟩
        case measure => simp only [intOf, Int.toNat_natCast]; omega
      · obtain rfl : i = C := by omega
        have hin : decide (((i : Nat) : Int) < ((i : Nat) : Int)) = false := decide_eq_false (by omega)
        obtain ⟨S, hS⟩ : ∃ S, 8 ^ i = S := ⟨_, rfl⟩
        have HSS := hid hS
        rw [hS]
        clear hps hp1 hS
        go_wp2_with fail
        go_ret
        exact ⟨by rw [HSS.out]; rfl, HB.out.trans (HBW.out.mono (by have := HB.out.size; have := heap_lt HX.out; omega))⟩
  · -- a card cut
    have q1 : ((rawOf H).kind == 1) = false := by show (((H.kind : Nat) : Int) == 1) = false; simp [hk]
    have q2 : ((rawOf H).kind == 2) = false := by show (((H.kind : Nat) : Int) == 2) = false; simp [hk]
    have q3 : ((rawOf H).kind == 3) = false := by show (((H.kind : Nat) : Int) == 3) = false; simp [hk]
    have q4 : ((rawOf H).kind == 4) = false := by show (((H.kind : Nat) : Int) == 4) = false; simp [hk]
    rw [show outsN H = 8 by unfold outsN; rw [if_neg (by omega), if_neg (by omega), if_neg (by omega), if_neg (by omega)]]
    have ⟨k0, k1, k2, k3, k4, k5, k6, k7⟩ := cells8 HX.out
    clear hR hV
    go_enter Try.func22, Try.ntmps22
    go_wp2_with fail
    go_ret
    exact ⟨rfl, HB.out⟩
end Go.Proofs.Ytmjnelkeiogdcaa
