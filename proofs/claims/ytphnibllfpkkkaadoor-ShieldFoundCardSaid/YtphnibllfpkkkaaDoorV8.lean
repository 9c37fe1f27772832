/- The law ShieldGroup: the walk. -/
import Derived.Test.YtphnibllfpkkkaaDoorV3
import Derived.Test.YtphnibllfpkkkaaDoorW11
import Derived.Deep.DeepMust
namespace Go.Proofs.YtphnibllfpkkkaaDoor
open Go Go.RowKit
set_option maxRecDepth 100000

theorem figure_c (b : Nat) (hb : b < 256) (w : World) : Calls Tryd.prog 43 #[.int .u8 (b : Nat)] w fun e w' => e = .returned (.int .i64 ((b % 16 : Nat) : Int)) ∧ w = w' := by
  go_enter Tryd.func43, Tryd.ntmps43
  go_wp2
  go_ret
  refine ⟨?_, rfl⟩
  first | rfl | (congr 2)

/-- The sum of the first i of some figures. -/
def xorT (S : Nat → Nat) : Nat → Nat
  | 0 => 0
  | i + 1 => xorT S i ^^^ S i
theorem xorT_lt (S : Nat → Nat) (n : Nat) (hS : ∀ i, i < n → S i < 16) : ∀ i, i ≤ n → xorT S i < 16
  | 0, _ => by simp [xorT]
  | i + 1, h => by
    rw [xorT]
    exact Nat.xor_lt_two_pow (n := 4) (xorT_lt S n hS i (by omega)) (hS i (by omega))

set_option maxHeartbeats 400000 in
theorem sum_c (S : Nat → Nat) (n : Nat) (hS : ∀ i, i < n → S i < 16) (g c : Nat) (hn : n ≤ 9223372036854775807) (w : World) (hg : g < w.heap.size) (hc : ∀ i, i < n → w.cell? ⟨g, i, none⟩ = some (.int .i64 ((S i : Nat) : Int))) :
    Calls Tryd.prog 38 #[.slice (some ⟨g, 0, none⟩) n c] w fun e w' => e = .returned (.tuple #[.int .i64 ((xorT S n : Nat) : Int), .bool true]) ∧ Below w.heap.size w w' := by
  have HC := hid hc
  have HX := hid (xorT_lt S n hS)
  have HS := hid hS
  clear hc hS
  go_enter Tryd.func38, Tryd.ntmps38
  go_wp2_with fail
  go_loopw [4, 5, 6] (fun o k i wr => ∃ j : Nat, j ≤ n ∧ i = .int .i64 j ∧ o = .int .i64 ((xorT S j : Nat) : Int) ∧ k = .bool true ∧ Below w.heap.size w wr) (fun _ _ i _ => n - (intOf i).toNat)
  case atStart => exact ⟨0, Nat.zero_le _, rfl, rfl, rfl, Below.refl _ _⟩
  case round =>
    obtain ⟨j, hj, rfl, rfl, rfl, hb⟩ := hrel
    by_cases hlt : j < n
    · have hlt' : (j : Int) < n := by omega
      have hcell := (hb.cell (p := ⟨g, j, none⟩) hg).trans (HC.out j hlt)
      have hcall := hid (fun W => sum_yes (xorT S j) (S j) (HX.out j (by omega)) (HS.out j hlt) W)
      have hst := hid (show xorT S (j + 1) = xorT S j ^^^ S j from rfl)
      generalize hx : xorT S j ^^^ S j = x at hcall hst
      clear hx
      generalize xorT S j = y at *
      go_wp2_with (go_at_call 31; go_must (refine (hcall.out _).mono ?_); rintro e w2 ⟨rfl, hc2⟩; have hb2 := hb.trans (hc2.mono hb.size))
      go_roundw
      case rel => exact ⟨j + 1, by omega, by go_num, by rw [hst.out], rfl, hb2⟩
      case measure => simp [intOf]; omega
    · have hge : ¬ (j : Int) < n := by omega
      obtain rfl : j = n := by omega
      go_wp2_with fail
      go_ret2
      exact ⟨rfl, hb⟩

/-- The sum of two. -/
theorem sum2 (a b r : Nat) (ha : a < 16) (hb : b < 16) (hr : a ^^^ b = r) (g c : Nat) (w : World) (hg : g < w.heap.size) (h0 : w.cell? ⟨g, 0, none⟩ = some (.int .i64 (a : Nat))) (h1 : w.cell? ⟨g, 1, none⟩ = some (.int .i64 (b : Nat))) :
    Calls Tryd.prog 38 #[.slice (some ⟨g, 0, none⟩) 2 c] w fun e w' => e = .returned (.tuple #[.int .i64 (r : Nat), .bool true]) ∧ Below w.heap.size w w' := by
  have h := sum_c (fun i => if i = 0 then a else b) 2 (fun i _ => by show (if i = 0 then a else b) < 16; split <;> assumption) g c (by omega) w hg (fun i hi => by
    rcases (show i = 0 ∨ i = 1 by omega) with rfl | rfl
    · exact h0
    · exact h1)
  have e : xorT (fun i => if i = 0 then a else b) 2 = r := by
    rw [← hr]; simp [xorT]
  rw [e] at h
  exact h
theorem chain {w W w' : World} {o : Obj} (hb : Below w.heap.size w W) (hc : Below (W.alloc o).heap.size (W.alloc o) w') : Below w.heap.size w w' :=
  (hb.alloc hb.size o).trans (hc.mono (by have := hb.size; simp; omega))
theorem rev4_rev4 (a : Nat) (ha : a < 16) : rev4 (rev4 a) = a := by
  have : ∀ a : Fin 16, rev4 (rev4 a.1) = a.1 := by decide
  exact this ⟨a, ha⟩
theorem rev4_xor (a b : Nat) (ha : a < 16) (hb : b < 16) : rev4 a ^^^ rev4 b = rev4 (a ^^^ b) := by
  have : ∀ a b : Fin 16, rev4 a.1 ^^^ rev4 b.1 = rev4 (a.1 ^^^ b.1) := by decide +kernel
  exact this ⟨a, ha⟩ ⟨b, hb⟩
theorem ofS_ln (a : Nat) (ha : a < 16) : ofS (cst (ln a)) 4 = a := by
  have : ∀ a : Fin 16, ofS (cst (ln a.1)) 4 = a.1 := by decide
  exact this ⟨a, ha⟩
theorem parse_nam (a : Nat) (ha : a < 16) (w : World) (L : Laid w) : Calls Tryd.prog 41 #[.string (nam a)] w fun e w' => e = .returned (.tuple #[.int .i64 (a : Nat), .int .i64 0]) ∧ w = w' :=
  parse_yes (nam a) a ha rfl (fun i hi e => by
    have : ∀ i j : Fin 16, namT.getD i.1 [] = namT.getD j.1 [] → i = j := by decide
    have e2 : namT.getD i [] = namT.getD a [] := by
      have := congrArg (fun b : ByteArray => b.data.toList) e
      simpa [nam] using this
    have := congrArg Fin.val (this ⟨i, by omega⟩ ⟨a, ha⟩ e2)
    simp at this; omega) w L
theorem of_ln (a : Nat) (ha : a < 16) (w : World) : Calls Tryd.prog 42 #[.agg (irow 4 (cst (ln a)))] w fun e w' => e = .returned (.tuple #[.int .i64 (a : Nat), .int .i64 0]) ∧ Below w.heap.size w w' := by
  have h := of_yes (cst (ln a)) (fun i _ => by have := ln_bd a i; simp only [cst]; omega) w
  rw [ofS_ln a ha] at h
  exact h

set_option maxHeartbeats 4000000 in
theorem lawGroup_main (x y z a b c ab bc abc o ta tb tab : Nat) (hx : x < 256) (hy : y < 256) (hz : z < 256) (ea : x % 16 = a) (eb : y % 16 = b) (ec : z % 16 = c) (la : a < 16) (lb : b < 16) (lc : c < 16) (lab : ab < 16) (lbc : bc < 16) (lo : o < 16) (lta : ta < 16) (ltb : tb < 16)
    (hab : a ^^^ b = ab) (hba : b ^^^ a = ab) (habc : ab ^^^ c = abc) (hbc : b ^^^ c = bc) (hsame : a ^^^ bc = abc) (ho : a ^^^ 15 = o) (hoo : o ^^^ 15 = a) (hao : a ^^^ o = 15)
    (hta : rev4 a = ta) (htb : rev4 b = tb) (htab : rev4 ab = tab) (htta : rev4 ta = a) (hboth : ta ^^^ tb = tab) (w : World) (L : Base w) :
    Calls Tryd.prog 10 #[.int .u8 (x : Nat), .int .u8 (y : Nat), .int .u8 (z : Nat)] w fun e w' => e = .returned (.bool true) ∧ Below w.heap.size w w' := by
  have Fx := hid (figure_c x hx)
  have Fy := hid (figure_c y hy)
  have Fz := hid (figure_c z hz)
  rw [ea] at Fx
  rw [eb] at Fy
  rw [ec] at Fz
  have S1 := hid (fun g c w => sum2 a b ab la lb hab g c w)
  have S2 := hid (fun g c w => sum2 b a ab lb la hba g c w)
  have S3 := hid (fun g k w => sum2 ab c abc lab lc habc g k w)
  have S4 := hid (fun g k w => sum2 b c bc lb lc hbc g k w)
  have S5 := hid (fun g k w => sum2 a bc abc la lbc hsame g k w)
  have S6 := hid (fun g k w => sum2 a a 0 la la (Nat.xor_self a) g k w)
  have S7 := hid (fun g k w => sum2 a o 15 la lo hao g k w)
  have S8 := hid (fun g k w => sum2 ta tb tab lta ltb hboth g k w)
  have O1 := hid (fun W => opp_yes a la W)
  have O2 := hid (fun W => opp_yes o lo W)
  rw [ho] at O1
  rw [hoo] at O2
  have T1 := hid (fun W => turned_yes a la W)
  have T2 := hid (fun W => turned_yes b lb W)
  have T3 := hid (fun W => turned_yes ab lab W)
  have T4 := hid (fun W => turned_yes ta lta W)
  rw [hta] at T1
  rw [htb] at T2
  rw [htab] at T3
  rw [htta] at T4
  have HN := hid (fun W (hb : Below w.heap.size w W) => name_yes a la W (L.below hb))
  have HP := hid (fun W (hb : Below w.heap.size w W) => parse_nam a la W (L.below hb))
  have HM := hid (fun W => marks_yes a la W)
  have HO := hid (fun W => of_ln a la W)
  have HL := hid (fun W (hb : Below w.heap.size w W) => known_b W (L.below hb))
  have hb0 := Below.refl w.heap.size w
  clear ea eb ec hab hba habc hbc hsame ho hoo hao hta htb htab htta hboth L hx hy hz la lb lc lab lbc lo lta ltb
  go_enter Tryd.func10, Tryd.ntmps10
  go_wp2_with (first
    | (go_at_call 43; first | (refine (Fx.out _).mono ?_; rintro e w' ⟨rfl, rfl⟩) | (refine (Fy.out _).mono ?_; rintro e w' ⟨rfl, rfl⟩) | (refine (Fz.out _).mono ?_; rintro e w' ⟨rfl, rfl⟩))
    | (go_at_call 38; first
      | (refine (S1.out _ _ _ ?_ ?_ ?_).mono ?_; (simp); (simp); (simp); rintro e w1 ⟨rfl, hc⟩; have hb1 := chain hb0 hc; clear hb0 hc S1)
      | (refine (S2.out _ _ _ ?_ ?_ ?_).mono ?_; (simp); (simp); (simp); rintro e w2 ⟨rfl, hc⟩; have hb2 := chain hb1 hc; clear hb1 hc S2)
      | (refine (S3.out _ _ _ ?_ ?_ ?_).mono ?_; (simp); (simp); (simp); rintro e w3 ⟨rfl, hc⟩; have hb3 := chain hb2 hc; clear hb2 hc S3)
      | (refine (S4.out _ _ _ ?_ ?_ ?_).mono ?_; (simp); (simp); (simp); rintro e w4 ⟨rfl, hc⟩; have hb4 := chain hb3 hc; clear hb3 hc S4)
      | (refine (S5.out _ _ _ ?_ ?_ ?_).mono ?_; (simp); (simp); (simp); rintro e w5 ⟨rfl, hc⟩; have hb5 := chain hb4 hc; clear hb4 hc S5)
      | (refine (S6.out _ _ _ ?_ ?_ ?_).mono ?_; (simp); (simp); (simp); rintro e w6 ⟨rfl, hc⟩; have hb6 := chain hb5 hc; clear hb5 hc S6)
      | (refine (S7.out _ _ _ ?_ ?_ ?_).mono ?_; (simp); (simp); (simp); rintro e w9 ⟨rfl, hc⟩; have hb9 := chain hb8 hc; clear hb8 hc S7)
      | (refine (S8.out _ _ _ ?_ ?_ ?_).mono ?_; (simp); (simp); (simp); rintro e w14 ⟨rfl, hc⟩; have hb14 := chain hb13 hc; clear hb13 hc S8))
    | (go_at_call 33; first
      | (refine (O1.out _).mono ?_; rintro e w7 ⟨rfl, hc⟩; have hb7 := hb6.trans (hc.mono hb6.size); clear hb6 hc O1)
      | (refine (O2.out _).mono ?_; rintro e w8 ⟨rfl, hc⟩; have hb8 := hb7.trans (hc.mono hb7.size); clear hb7 hc O2))
    | (go_at_call 32; first
      | (refine (T1.out _).mono ?_; rintro e w10 ⟨rfl, hc⟩; have hb10 := hb9.trans (hc.mono hb9.size); clear hb9 hc T1)
      | (refine (T2.out _).mono ?_; rintro e w11 ⟨rfl, hc⟩; have hb11 := hb10.trans (hc.mono hb10.size); clear hb10 hc T2)
      | (refine (T3.out _).mono ?_; rintro e w12 ⟨rfl, hc⟩; have hb12 := hb11.trans (hc.mono hb11.size); clear hb11 hc T3)
      | (refine (T4.out _).mono ?_; rintro e w13 ⟨rfl, hc⟩; have hb13 := hb12.trans (hc.mono hb12.size); clear hb12 hc T4))
    | (go_at_call 29; refine (HN.out _ hb14).mono ?_; rintro e w15 ⟨rfl, hc⟩; have hb15 := hb14.trans (hc.mono hb14.size); clear hb14 hc)
    | (go_at_call 41; refine (HP.out _ hb15).mono ?_; rintro e w' ⟨rfl, rfl⟩)
    | (go_at_call 30; refine (HM.out _).mono ?_; rintro e w16 ⟨rfl, hc⟩; have hb16 := hb15.trans (hc.mono hb15.size); have hz := heap_alloc_new w16 (.cells (irow 4 (fun _ => 0)) 54); have hbz := hb16.alloc hb16.size (.cells (irow 4 (fun _ => 0)) 54))
    | (rw [zeros4]; refine strow arrFour _ _ rfl rfl _ _ rfl rfl _ _ hz ?_; have hbs := below_setRow hbz hb16.size (irow 4 (cst (ln a))); have hgs := setRow_heap _ _ _ (irow 4 (cst (ln a))) _ _ hz; clear hz hbz; generalize World.setRow _ _ _ = ws at hgs hbs ⊢)
    | (refine ldrow arrFour _ rfl rfl _ rfl _ _ hgs ?_)
    | (go_at_call 42; refine (HO.out _).mono ?_; rintro e w17 ⟨rfl, hc⟩; have hb17 := hbs.trans (hc.mono hbs.size))
    | (go_at_call 19; refine (HL.out _ hb17).mono ?_; rintro e w18 ⟨rfl, hc⟩; have hb18 := hb17.trans (hc.mono hb17.size)))
  go_ret
  exact ⟨rfl, hb18⟩

theorem lawGroup (x y z : Nat) (hx : x < 256) (hy : y < 256) (hz : z < 256) (w : World) (L : Base w) :
    Calls Tryd.prog 10 #[.int .u8 (x : Nat), .int .u8 (y : Nat), .int .u8 (z : Nat)] w fun e w' => e = .returned (.bool true) ∧ Below w.heap.size w w' := by
  have la : x % 16 < 16 := Nat.mod_lt _ (by omega)
  have lb : y % 16 < 16 := Nat.mod_lt _ (by omega)
  have lc : z % 16 < 16 := Nat.mod_lt _ (by omega)
  have xl : ∀ a b, a < 16 → b < 16 → a ^^^ b < 16 := fun a b ha hb => Nat.xor_lt_two_pow (n := 4) ha hb
  exact lawGroup_main x y z _ _ _ _ _ _ _ _ _ _ hx hy hz rfl rfl rfl la lb lc (xl _ _ la lb) (xl _ _ lb lc) (xl _ _ la (by omega)) (rev4_lt _) (rev4_lt _) rfl (Nat.xor_comm _ _) rfl rfl (Nat.xor_assoc _ _ _).symm rfl (by rw [Nat.xor_assoc, Nat.xor_self, Nat.xor_zero]) (by rw [← Nat.xor_assoc, Nat.xor_self, Nat.zero_xor]) rfl rfl rfl (rev4_rev4 _ la) (rev4_xor _ _ la lb) w L
end Go.Proofs.YtphnibllfpkkkaaDoor
