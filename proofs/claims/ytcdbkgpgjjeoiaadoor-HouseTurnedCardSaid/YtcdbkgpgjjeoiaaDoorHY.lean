/- Walks of the laws of chapter 5: the houses of a sky. -/
import Derived.Test.YtcdbkgpgjjeoiaaDoorHK
import Derived.Deep.DeepCutAuto
namespace Go.Proofs.YtcdbkgpgjjeoiaaDoor
open Go Go.RowKit
set_option maxRecDepth 100000
set_option linter.unusedSimpArgs false
set_option linter.unusedVariables false

/-- Twelve bytes and two bytes. -/
def u8row (S : Nat → Nat) (A B : Nat) : Array Value := ((Array.ofFn (n := 12) fun i => Value.int .u8 ((S i : Nat) : Int)).push (.int .u8 ((A : Nat) : Int))).push (.int .u8 ((B : Nat) : Int))
theorem u8row_size (S : Nat → Nat) (A B : Nat) : (u8row S A B).size = 14 := by simp [u8row]
theorem u8row_get (S : Nat → Nat) (A B i : Nat) (hi : i < 12) : (u8row S A B)[i]? = some (.int .u8 ((S i : Nat) : Int)) := by
  unfold u8row
  rw [Array.getElem?_push, if_neg (by simp; omega), Array.getElem?_push, if_neg (by simp; omega), Array.getElem?_ofFn]
  simp [hi]
theorem u8row_a (S : Nat → Nat) (A B : Nat) : (u8row S A B)[12]? = some (.int .u8 ((A : Nat) : Int)) := by
  unfold u8row
  rw [Array.getElem?_push, if_neg (by simp), Array.getElem?_push, if_pos (by simp)]
theorem u8row_b (S : Nat → Nat) (A B : Nat) : (u8row S A B)[13]? = some (.int .u8 ((B : Nat) : Int)) := by
  unfold u8row
  rw [Array.getElem?_push, if_pos (by simp)]
/-- Three results, the first one a row. -/
theorem ret_row3 {P : Program} {T n : Nat} (hT : ArrT P T n) {fn : Func} {p q r : Tmp} (h : fn.results = #[.cell p T, .tmp q, .tmp r]) {a : Act} {w : World} {R : Ending → World → Prop} (g : Nat) (S : Nat → Int) (t : TypeId) (v1 v2 : Value)
    (hp : a.tmps.getD p undef = .pointer (some ⟨g, 0, none⟩)) (h1 : a.tmps.getD q undef = v1) (h2 : a.tmps.getD r undef = v2) (hg : w.heap[g]? = some (.cells (irow n S) t (0, 0))) (hd : a.defers = []) (hR : R (.returned (.tuple #[.agg (irow n S), v1, v2])) w) : bodyPost P fn R .ret a w := by
  refine bodyPost_ret (v := .tuple #[.agg (irow n S), v1, v2]) ?_ hd hR
  have hl := run_loadVar_irow hT hg
  have hp' : a.tmps[p]?.getD undef = .pointer (some ⟨g, 0, none⟩) := by simpa using hp
  have h1' : a.tmps[q]?.getD undef = v1 := by simpa using h1
  have h2' : a.tmps[r]?.getD undef = v2 := by simpa using h2
  simp [results, h, hp', h1', h2', asAddr, hl]
theorem sky_start (S : Nat → Nat) (A B : Nat) (w : World) : ((w.alloc (.cells (u8row S A B) 42)).alloc (.cells (irow 12 fun _ => 0) 24)).heap[w.heap.size]? = some (.cells (u8row S A B) 42 (0, 0)) ∧
    ((w.alloc (.cells (u8row S A B) 42)).alloc (.cells (irow 12 fun _ => 0) 24)).heap[w.heap.size + 1]? = some (.cells (irow 12 fun _ => 0) 24 (0, 0)) ∧
    Below w.heap.size w ((w.alloc (.cells (u8row S A B) 42)).alloc (.cells (irow 12 fun _ => 0) 24)) :=
  ⟨heap_alloc2_old w _ _, heap_alloc2_new w _ _, ((Below.refl _ _).alloc (Nat.le_refl _) _).alloc (by simp) _⟩
/-- The houses of a sky. -/
def skyH (S : Nat → Nat) : Nat → Nat := fun i => S i % 16
def skyA (A : Nat) : Nat := A % 12
def skyB (A B : Nat) : Nat := (A % 12 + 1 + B % 11) % 12
theorem sky_ab (A B : Nat) : skyA A < 12 ∧ skyB A B < 12 ∧ skyA A ≠ skyB A B := by unfold skyA skyB; omega
theorem skyH_lt (S : Nat → Nat) : ∀ i, i < 12 → skyH S i < 16 := fun i _ => Nat.mod_lt _ (by omega)
def skyT (S : Nat → Nat) (k : Nat) : Nat → Nat := fun i => if i < k then skyH S i else 0
theorem skyT_step (S : Nat → Nat) (k : Nat) : irow 12 (upd (cst (skyT S k)) k ((skyH S k : Nat) : Int)) = irow 12 (cst (skyT S (k + 1))) := irow_congr fun i hi => by
  unfold upd cst skyT
  by_cases e : i = k
  · subst e; simp
  · rw [if_neg e]
    by_cases h : i < k
    · rw [if_pos h, if_pos (by omega)]
    · rw [if_neg h, if_neg (by omega)]
theorem skyT_all (S : Nat → Nat) : irow 12 (cst (skyT S 12)) = irow 12 (cst (skyH S)) := irow_congr fun i hi => by unfold cst skyT; rw [if_pos hi]
theorem skyT_none (S : Nat → Nat) : irow 12 (cst (skyT S 0)) = irow 12 (fun _ => 0) := irow_congr fun i hi => by unfold cst skyT; simp
set_option maxHeartbeats 2000000 in
theorem houses_c (S : Nat → Nat) (A B : Nat) (hS : ∀ i, i < 12 → S i < 256) (hA : A < 256) (hB : B < 256) (w : World) :
    Calls Tryd.prog 20 #[.agg (u8row S A B)] w fun e w' => e = .returned (.tuple #[.agg (irow 12 (cst (skyH S))), .int .i64 ((skyA A : Nat) + 1), .int .i64 ((skyB A B : Nat) + 1)]) ∧ Below w.heap.size w w' := by
  have HS := hid hS
  obtain ⟨a, ha⟩ : ∃ a, skyA A = a := ⟨_, rfl⟩
  obtain ⟨b, hb⟩ : ∃ b, skyB A B = b := ⟨_, rfl⟩
  have ha12 : a < 12 := by rw [← ha]; exact (sky_ab A B).1
  have hb12 : b < 12 := by rw [← hb]; exact (sky_ab A B).2.1
  obtain ⟨r, hr⟩ : ∃ r, B % 11 = r := ⟨_, rfl⟩
  have hr11 : r < 11 := by omega
  have e1 : ((A : Nat) : Int) % 12 = ((a : Nat) : Int) := by rw [← ha]; unfold skyA; omega
  have e2 : ((B : Nat) : Int) % 11 = ((r : Nat) : Int) := by omega
  obtain ⟨c, hc⟩ : ∃ c, a + 1 + r = c := ⟨_, rfl⟩
  have hc24 : c < 24 := by omega
  have e3 : ((a : Nat) : Int) + 1 + ((r : Nat) : Int) = ((c : Nat) : Int) := by omega
  have e4 : ((c : Nat) : Int) % 12 = ((b : Nat) : Int) := by rw [← hb, ← hc, ← hr, ← ha]; unfold skyA skyB; omega
  have hwa := wrap_nat a (by omega)
  have hwr := wrap_nat r (by omega)
  have hwc := wrap_nat c (by omega)
  have hwb := wrap_nat b (by omega)
  rw [ha, hb]
  clear ha hb hr hc hS
  obtain ⟨h0, h1, hBw⟩ := sky_start S A B w
  have H0 := hid h0
  have H1 := hid h1
  clear h0 h1
  obtain ⟨g, hg⟩ : ∃ g, w.heap.size = g := ⟨_, rfl⟩
  go_enter Tryd.func20, Tryd.ntmps20
  go_upto_region 1 with fail
  simp only [zeros12]
  have hsz : ((w.alloc (.cells (u8row S A B) 42)).alloc (.cells (irow 12 fun _ => 0) 24)).heap.size = w.heap.size + 2 := by simp
  generalize (w.alloc (.cells (u8row S A B) 42)).alloc (.cells (irow 12 fun _ => 0) 24) = w1 at *
  rw [hg] at H0 H1 hBw hsz
  have h2 := heap_alloc_new w1 (.cells (irow 12 fun _ => 0) 24)
  have hB2 := hBw.alloc (show g ≤ w1.heap.size by omega) (.cells (irow 12 fun _ => 0) 24)
  have H0 := hid ((heap_alloc_old w1 (.cells (irow 12 fun _ => 0) 24) (heap_lt H0.out)).trans H0.out)
  have H1 := hid ((heap_alloc_old w1 (.cells (irow 12 fun _ => 0) 24) (heap_lt H1.out)).trans H1.out)
  rw [hsz] at h2
  go_wp2_with (simp only [zeros12]; refine strow arrHouses _ _ rfl rfl _ (fun _ => 0) rfl rfl _ _ h2 ?_)
  have hB3 := below_setRow hB2 (show g ≤ g + 2 by omega) (irow 12 fun _ => 0)
  have H2 := hid (setRow_heap _ _ _ (irow 12 fun _ => 0) _ _ h2)
  have H0 := hid ((setRow_other _ (g + 2) g (irow 12 fun _ => 0) (by omega)).trans H0.out)
  have H1 := hid ((setRow_other _ (g + 2) (g + 1) (irow 12 fun _ => 0) (by omega)).trans H1.out)
  generalize World.setRow _ _ _ = w3 at *
  clear h2 hB2 hBw
  go_loopw [6] (fun i wr => ∃ k : Nat, k ≤ 12 ∧ i = .int .i64 k ∧ wr.heap[g + 2]? = some (.cells (irow 12 (cst (skyT S k))) 24 (0, 0)) ∧ wr.heap[g]? = some (.cells (u8row S A B) 42 (0, 0)) ∧ wr.heap[g + 1]? = some (.cells (irow 12 fun _ => 0) 24 (0, 0)) ∧ Below g w wr) (fun i _ => 12 - (intOf i).toNat)
  case atStart => exact ⟨0, by omega, rfl, by rw [skyT_none]; exact H2.out, H0.out, H1.out, hB3⟩
  case round =>
    clear H0 H1 H2 hB3
    obtain ⟨k, hk, rfl, k2, k0, k1, hB⟩ := hrel
    by_cases hlt : k < 12
    · have hlt' : ((k : Nat) : Int) < 12 := by omega
      have hp0 : (0 : Int) ≤ k := by omega
      have c := cell_of_row _ _ k _ _ (0, 0) k0
      rw [u8row_get S A B k hlt] at c
      have hS := HS.out k hlt
      have c2 := cell_irow k2 k hlt
      have hf2 : wr.frozen? ⟨g + 2, k, none⟩ = false := frozen_of_row _ _ k _ _ k2
      have HST := hid (skyT_step S k)
      have HSH := hid (show skyH S k = S k % 16 from rfl)
      have hm : ((S k : Nat) : Int) % 16 = ((skyH S k : Nat) : Int) := by unfold skyH; omega
      have hh := skyH_lt S k hlt
      have K0 := hid k0
      have K1 := hid k1
      have K2 := hid k2
      generalize skyH S k = f at *
      generalize S k = s at *
      have hwf := wrap_nat f (by omega)
      clear k0 k1 k2
      go_wp2_with fail
      have q2 := set_irow K2.out k ((f : Nat) : Int)
      rw [HST.out] at q2
      go_roundw
      case rel => exact ⟨k + 1, by omega, by go_num, q2, (heap_setCell_other _ ⟨g + 2, k, none⟩ g _ (by show g ≠ g + 2; omega)).trans K0.out, (heap_setCell_other _ ⟨g + 2, k, none⟩ (g + 1) _ (by show g + 1 ≠ g + 2; omega)).trans K1.out, hB.setCell (p := ⟨g + 2, k, none⟩) (by show g ≤ g + 2; omega) _⟩
      case measure => simp [intOf]; omega
    · have hge : ¬ ((k : Nat) : Int) < 12 := by omega
      obtain rfl : k = 12 := by omega
      have cA := cell_of_row _ _ 12 _ _ (0, 0) k0
      rw [u8row_a] at cA
      have cB := cell_of_row _ _ 13 _ _ (0, 0) k0
      rw [u8row_b] at cB
      rw [skyT_all] at k2
      have K2 := hid k2
      have K1 := hid k1
      clear k0 k1 k2
      go_wp2_with (first
        | (refine ldrow arrHouses _ rfl rfl _ rfl _ _ K2.out ?_)
        | (refine strow arrHouses _ _ rfl rfl _ (cst (skyH S)) rfl rfl _ _ K1.out ?_))
      refine ret_row3 arrHouses Tryd.results20 (g + 1) (cst (skyH S)) _ _ _ rfl rfl rfl (setRow_heap _ _ _ _ _ _ K1.out) rfl ?_
      exact ⟨rfl, hg ▸ below_setRow hB (by omega) _⟩
end Go.Proofs.YtcdbkgpgjjeoiaaDoor
