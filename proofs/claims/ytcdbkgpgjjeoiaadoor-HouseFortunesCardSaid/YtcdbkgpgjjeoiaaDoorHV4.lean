/- The law HouseFortunes. -/
import Derived.Test.YtcdbkgpgjjeoiaaDoorHO
import Derived.Test.YtcdbkgpgjjeoiaaDoorHK
import Derived.Test.YtcdbkgpgjjeoiaaDoorV4
namespace Go.Proofs.YtcdbkgpgjjeoiaaDoor
open Go Go.RowKit
set_option maxRecDepth 100000
set_option linter.unusedSimpArgs false
set_option linter.unusedVariables false

theorem fort_even (M : Nat) (h1 : 48 ≤ M) (h2 : M ≤ 96) (h0 : M % 2 = 0) : ∃ F D : Nat, fort M = F ∧ 2 ≤ F ∧ F ≤ 12 ∧ F % 2 = 0 ∧ ((M : Nat) : Int) - ((F : Nat) : Int) = ((D : Nat) : Int) ∧ D % 12 = 0 ∧ D ≤ 96 :=
  ⟨(M - 1) % 12 + 1, M - ((M - 1) % 12 + 1), rfl, by omega, by omega, by omega, by omega, by omega, by omega⟩
set_option maxHeartbeats 4000000 in
theorem lawFortunes (n : Nat) (hn : n < 65536) (w : World) (LP : LaidP w) :
    Calls Tryd.prog 10 #[.int .u16 ((n : Nat) : Int)] w fun e w' => e = .returned (.bool true) ∧ Below w.heap.size w w' := by
  have L := LP.L
  have LH := LP.H
  have HK := LH.known
  have hM4 : ∀ i, i < 4 → mths n i < 16 := fun i _ => mths_lt n i
  have HMo := hid (fun W => Mothers_yes n hn W)
  have HD := hid (fun W (hW : Below w.heap.size w W) => Derive_yes (mths n) hM4 W (L.below hW))
  have hlt := der_lt (mths n) hM4
  have HO := hid (fun W (hW : Below w.heap.size w W) => Of_ok (der (mths n)) hlt ((chart_wl _).1 (chart_der _)) W (L.below hW))
  have HF := hid (fun W => fort_c (der (mths n)) (fun i hi => hlt i (by omega)) W)
  have hbd := mks_bd (der (mths n)) (fun i hi => hlt i (by omega)) 12 (by omega)
  have hev := marks_even (mths n) hM4
  obtain ⟨M, hM⟩ : ∃ M, mks (der (mths n)) 12 = M := ⟨_, rfl⟩
  rw [hM] at HF hbd hev
  obtain ⟨F, D, f0, f1, f2, f3, f4, f5, f6⟩ := fort_even M hbd.1 hbd.2 hev
  rw [f0] at HF
  have m1 : ((M : Nat) : Int) % 2 = 0 := by omega
  have m2 : decide ((48 : Int) ≤ ((M : Nat) : Int)) = true := by simp; omega
  have m3 : decide (((M : Nat) : Int) ≤ 96) = true := by simp; omega
  have m4 : decide ((2 : Int) ≤ ((F : Nat) : Int)) = true := by simp; omega
  have m5 : decide (((F : Nat) : Int) ≤ 12) = true := by simp; omega
  have m6 : ((F : Nat) : Int) % 2 = 0 := by omega
  have m7 := wrap_nat D (by omega)
  have m8 : ((D : Nat) : Int) % 12 = 0 := by omega
  have hbM : M ≤ 96 := hbd.2
  have hw16 : IntKind.i64.wrap ((n : Nat) : Int) = ((n : Nat) : Int) := wrap_nat n (by omega)
  have hB : Below w.heap.size w w := Below.refl _ _
  obtain ⟨A, hA⟩ : ∃ A, der (mths n) = A := ⟨_, rfl⟩
  obtain ⟨B, hBB⟩ : ∃ B, mths n = B := ⟨_, rfl⟩
  have hz0 : A 0 = B 0 := by rw [← hA, ← hBB]; exact der_lo _ 0 (by omega)
  rw [hA] at HD HO HF
  rw [hBB] at HMo HD
  have HZ0 := hid hz0
  clear LP L LH hM4 hlt hM hbd hev f0 f3 f5 hA hBB hz0
  go_enter Tryd.func10, Tryd.ntmps10
  go_wp2_with (first
    | (go_at_call 44; refine (HMo.out _).mono ?_; rintro e w2 ⟨rfl, hb⟩; have hB := hB.trans (hb.mono hB.size); have h2 := heap_alloc_new w2 (.cells (irow 4 fun _ => 0) 98); have hB2 := hB.alloc hB.size (.cells (irow 4 fun _ => 0) 98))
    | (simp only [zeros4]; refine strow arrMothers _ _ rfl rfl _ (cst B) rfl rfl _ _ h2 ?_; have hB := below_setRow hB2 hB.size (irow 4 (cst B)); have HM := hid (setRow_heap _ _ _ (irow 4 (cst B)) _ _ h2); clear h2 hB2; generalize World.setRow _ _ _ = ws at *)
    | (refine ldrow arrMothers _ rfl rfl _ rfl _ _ HM.out ?_)
    | (go_at_call 45; refine (HD.out _ hB).mono ?_; rintro e w4 ⟨rfl, hb⟩; have hB := hB.trans (hb.mono hB.size); have HM := hid (heap_below hb HM.out (heap_lt HM.out)); have h4 := heap_alloc_new w4 (.cells (irow 16 fun _ => 0) 88); have hB2 := hB.alloc hB.size (.cells (irow 16 fun _ => 0) 88); have q4 := heap_lt HM.out; have HM := hid ((heap_alloc_old w4 (.cells (irow 16 fun _ => 0) 88) (heap_lt HM.out)).trans HM.out))
    | (simp only [zeros16]; refine strow arrShield _ _ rfl rfl _ (cst A) rfl rfl _ _ h4 ?_; have hB := below_setRow hB2 hB.size (irow 16 (cst A)); have HM := hid ((setRow_other _ w4.heap.size _ (irow 16 (cst A)) (by omega)).trans HM.out); have HS := hid (setRow_heap _ _ _ (irow 16 (cst A)) _ _ h4); clear h4 hB2; generalize World.setRow _ _ _ = ws2 at *)
    | (refine ldrow arrShield _ rfl rfl _ rfl _ _ HS.out ?_)
    | (go_at_call 39; refine (HO.out _ hB).mono ?_; rintro e w6 ⟨rfl, hb⟩; have hB := hB.trans (hb.mono hB.size); have HM := hid (heap_below hb HM.out (heap_lt HM.out)); have HS := hid (heap_below hb HS.out (heap_lt HS.out)); have h6 := heap_alloc_new w6 (.cells (irow 12 fun _ => 0) 24); have hB2 := hB.alloc hB.size (.cells (irow 12 fun _ => 0) 24); have q6 := heap_lt HM.out; have q7 := heap_lt HS.out; have HM := hid ((heap_alloc_old w6 (.cells (irow 12 fun _ => 0) 24) (heap_lt HM.out)).trans HM.out); have HS := hid ((heap_alloc_old w6 (.cells (irow 12 fun _ => 0) 24) (heap_lt HS.out)).trans HS.out))
    | (simp only [zeros12]; refine strow arrHouses _ _ rfl rfl _ (cst A) rfl rfl _ _ h6 ?_; have hB := below_setRow hB2 hB.size (irow 12 (cst A)); have HM := hid ((setRow_other _ w6.heap.size _ (irow 12 (cst A)) (by omega)).trans HM.out); have HS := hid ((setRow_other _ w6.heap.size _ (irow 12 (cst A)) (by omega)).trans HS.out); have HX := hid (setRow_heap _ _ _ (irow 12 (cst A)) _ _ h6); clear h6 hB2; generalize World.setRow _ _ _ = ws3 at *;
        have c1 := cell_irow HX.out 0 (by omega); have c2 := cell_irow HM.out 0 (by omega); have c3 := cell_irow HX.out 11 (by omega); have c4 := cell_irow HS.out 11 (by omega); rw [cst_app] at c1 c2 c3 c4; rw [HZ0.out] at c1; generalize B 0 = z0 at c1 c2; generalize A 11 = z1 at c3 c4; have hn0 : (((z0 : Nat) : Int) != ((z0 : Nat) : Int)) = false := (by simp); have hn1 : (((z1 : Nat) : Int) != ((z1 : Nat) : Int)) = false := (by simp))
    | (refine ldrow arrHouses _ rfl rfl _ rfl _ _ HX.out ?_)
    | (go_at_call 25; refine (HF.out _).mono ?_; rintro e w8 ⟨rfl, hb⟩; have hB := hB.trans (hb.mono hB.size))
    | (go_at_call 15; refine (HK.out _ hB).mono ?_; rintro e w9 ⟨rfl, hb⟩; have hB := hB.trans (hb.mono hB.size)))
  go_ret
  exact ⟨rfl, hB⟩
end Go.Proofs.YtcdbkgpgjjeoiaaDoor
