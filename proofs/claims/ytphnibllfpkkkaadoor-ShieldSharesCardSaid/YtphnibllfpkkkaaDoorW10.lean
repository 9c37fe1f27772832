/- known: the examples. -/
import Derived.Test.YtphnibllfpkkkaaDoorW8
import Derived.Test.YtphnibllfpkkkaaDoorW9
import Derived.Test.YtphnibllfpkkkaaDoorW4
import Derived.Deep.RegionHeld3
import Derived.Deep.DeepMust
namespace Go.Proofs.YtphnibllfpkkkaaDoor
open Go Go.RowKit
set_option maxRecDepth 100000

def viaM : Nat → Nat := fun i => if i = 0 then 15 else 0
theorem via_lit : (#[.int .i64 15, .int .i64 0, .int .i64 0, .int .i64 0] : Array Value) = irow 4 (cst viaM) := rfl
theorem der_via : irow 16 (cst (der viaM)) = irow 16 (cst loneF) := irow_congr fun i hi => by
  have : ∀ i : Fin 16, der viaM i = loneF i := by decide
  simp only [cst]; rw [this ⟨i, hi⟩]
theorem lone_chart : Chart loneF := fun i hi => by
  have : ∀ i : Fin 16, der loneF i = loneF i := by decide
  exact this ⟨i, hi⟩
theorem lone_bit : bitB (loneF 14) 0 = true := by decide
theorem lone_way : wlist loneF 0 3 = [14, 12, 8, 0] := by decide
/-- The chart with the judge changed. -/
def badF : Nat → Nat := fun i => if i = 14 then 11 else loneF i
theorem bad_lt : ∀ i, i < 16 → badF i < 16 := fun i hi => by
  have : ∀ i : Fin 16, badF i < 16 := by decide
  exact this ⟨i, hi⟩
theorem bad_wl : wl badF 16 = [14, 15] := by decide
theorem nam12 : nam 12 = ⟨#[102, 111, 114, 116, 117, 110, 97, 32, 109, 97, 106, 111, 114]⟩ := rfl

theorem same_true (va vb : Value) (xs : List Int) (w : World) (ha : Reads w va xs) (hb : Reads w vb xs) (hx : xs.length ≤ 9223372036854775807) :
    Calls Tryd.prog 20 #[va, vb] w fun e w' => e = .returned (.bool true) ∧ Below w.heap.size w w' :=
  (same_c va vb xs xs w ha hb hx hx).mono fun e w' ⟨he, hw⟩ => ⟨by rw [he]; simp, hw⟩
theorem reads4 (W : World) (a b c d : Int) : Reads (W.alloc (.cells #[.int .i64 a, .int .i64 b, .int .i64 c, .int .i64 d] 3)) (.slice (some ⟨W.heap.size, 0, none⟩) 4 4) [a, b, c, d] := by
  refine .inr ⟨W.heap.size, 0, 4, rfl, by simp, fun k hk => ?_⟩
  have hk4 : k < 4 := hk
  rw [Nat.zero_add, cell_of_row _ _ k _ _ (0, 0) (heap_alloc_new W _)]
  have : k = 0 ∨ k = 1 ∨ k = 2 ∨ k = 3 := by omega
  rcases this with rfl | rfl | rfl | rfl <;> rfl
theorem reads2 (W : World) (a b : Int) : Reads (W.alloc (.cells #[.int .i64 a, .int .i64 b] 3)) (.slice (some ⟨W.heap.size, 0, none⟩) 2 2) [a, b] := by
  refine .inr ⟨W.heap.size, 0, 2, rfl, by simp, fun k hk => ?_⟩
  have hk4 : k < 2 := hk
  rw [Nat.zero_add, cell_of_row _ _ k _ _ (0, 0) (heap_alloc_new W _)]
  have : k = 0 ∨ k = 1 := by omega
  rcases this with rfl | rfl <;> rfl

theorem bad_row {w : World} {g : Nat} {t : TypeId} (hg : w.heap[g]? = some (.cells (irow 16 (cst loneF)) t (0, 0))) : (w.setCell ⟨g, 14, none⟩ (.int .i64 11)).heap[g]? = some (.cells (irow 16 (cst badF)) t (0, 0)) := by
  rw [set_irow hg]
  refine congrArg some (congrArg (fun c => Obj.cells c t (0, 0)) (irow_congr fun i hi => ?_))
  by_cases h : i = 14
  · subst h; rfl
  · simp [upd, cst, badF, h]

set_option maxHeartbeats 1000000 in
theorem known_c (w : World) (L : Laid w) : Calls Tryd.prog 19 #[] w fun e w' => e = .returned (.bool true) ∧ Below w.heap.size w w' := by
  have HS := hid (fun W => sum_yes 15 4 (by omega) (by omega) W)
  have HD := hid (fun W (hb : Below w.heap.size w W) => Derive_yes viaM (fun i hi => by unfold viaM; split <;> omega) W (L.below hb))
  rw [der_via] at HD
  have HW := hid (fun W (hb : Below w.heap.size w W) => Way_ok loneF lone_lt 0 (by omega) lone_chart lone_bit W (L.below hb))
  rw [lone_way] at HW
  have HN := hid (fun W (hb : Below w.heap.size w W) => name_yes 12 (by omega) W (L.below hb))
  rw [nam12] at HN
  have HX := hid (fun W (hb : Below w.heap.size w W) => Wrong_yes badF bad_lt W (L.below hb))
  rw [bad_wl] at HX
  clear L
  go_enter Tryd.func19, Tryd.ntmps19
  go_wp2_with (first
    | (go_at_call 31; refine (HS.out _).mono ?_; rintro e w1 ⟨rfl, hb1⟩)
    | (go_at_call 23; refine (HD.out _ hb1).mono ?_; rintro e w2 ⟨rfl, hb2⟩; have hb3 := hb1.trans (hb2.mono hb1.size); have h2 := heap_alloc_new w2 (.cells (irow 16 (fun _ => 0)) 24); have hb4 := hb3.alloc hb3.size (.cells (irow 16 (fun _ => 0)) 24); clear hb1 hb2)
    | (rw [zeros16]; go_must (refine strow arrShield _ _ rfl rfl _ _ rfl rfl _ _ h2 ?_); go_must (have hb5 := below_setRow hb4 hb3.size (irow 16 (cst loneF)); have hg5 := setRow_heap _ _ _ (irow 16 (cst loneF)) _ _ h2; clear h2 hb4; generalize World.setRow _ _ _ = ws at hb5 hg5 ⊢))
    | (go_at_call 53; refine (lone_c _).mono ?_; rintro e w3 ⟨rfl, hb6⟩; have hg6 := heap_below hb6 hg5 (heap_lt hg5); have hb7 := hb5.trans (hb6.mono hb5.size); clear hg5 hb5 hb6)
    | (go_at_call 15; refine (HW.out _ hb7).mono ?_; rintro e w4 ⟨vw, rfl, hi8, hb8⟩; have hg8 := heap_below hb8 hg6 (heap_lt hg6); have hb9 := hb7.trans (hb8.mono hb7.size); clear hg6 hb7 hb8)
    | (go_at_call 29; refine (HN.out _ hb9).mono ?_; rintro e w5 ⟨rfl, hbA⟩; have hgA := heap_below hbA hg8 (heap_lt hg8); have hiA := hi8.below hbA; have hbB := hb9.trans (hbA.mono hb9.size); clear hg8 hi8 hb9 hbA))
  have hlt := heap_lt hgA
  have hu24 : Tryd.prog.underlying 24 = some (.array 16 22) := Tryd.underlying24
  have hi24 : (Tryd.prog.info? 24).map (·.size) = some (irow 16 (cst loneF)).toList.length := by rw [Array.length_toList, irow_size]; kernel_rfl
  have hlen : (irow 16 (cst loneF)).toList.length = 16 := by simp
  have hone := irow_one 16 (cst loneF)
  have hneq := neqShield (cst loneF) (cst loneF) true (by simp)
  have K := hid (fun W (hb : Below w5.heap.size w5 W) => (⟨range_irow (heap_below hb hgA hlt), hb⟩ : W.rangeAt w2.heap.size 0 (irow 16 (cst loneF)).toList ∧ Below w5.heap.size w5 W))
  have HR := hid (fun W (hb : (W.rangeAt w2.heap.size 0 (irow 16 (cst loneF)).toList ∧ Below w5.heap.size w5 W)) => (hiA.below hb.2).reads)
  have K0 := hid (K.out w5.drew (Below.refl _ _).drew)
  have KD := hid (fun W (hb : (W.rangeAt w2.heap.size 0 (irow 16 (cst loneF)).toList ∧ Below w5.heap.size w5 W)) => K.out W.drew hb.2.drew)
  have KA := hid (fun W o (hb : (W.rangeAt w2.heap.size 0 (irow 16 (cst loneF)).toList ∧ Below w5.heap.size w5 W)) => K.out (W.alloc o) (hb.2.alloc hb.2.size o))
  have KC := hid (fun W W2 (h2 : Below W.heap.size W W2) (hb : (W.rangeAt w2.heap.size 0 (irow 16 (cst loneF)).toList ∧ Below w5.heap.size w5 W)) => K.out W2 (hb.2.trans (h2.mono hb.2.size)))
  clear K hiA hgA
  go_region_held3 (fun w' => w'.rangeAt w2.heap.size 0 (irow 16 (cst loneF)).toList ∧ Below w5.heap.size w5 w')
    (first | exact K0.out | exact KD.out _ (by assumption) | exact KA.out _ _ (by assumption) | exact KC.out _ _ (by assumption) (by assumption))
    (first | (go_at_call 53; refine (lone_c _).mono ?_; rintro e w6 ⟨rfl, hb6⟩) | (go_at_call 20; refine (same_true vw _ [14, 12, 8, 0] _ (HR.out _ (by assumption)) (reads4 _ 14 12 8 0) (by simp)).mono ?_; rintro e w7 ⟨rfl, hb7⟩))
  have hb8 := And.right (show w7.rangeAt w2.heap.size 0 (irow 16 (cst loneF)).toList ∧ Below w5.heap.size w5 w7 by assumption)
  have hb9 := hbB.trans (hb8.mono hbB.size)
  clear hb8 hb7 hb6 hbB hlt hneq hone hlen hi24 hu24 KC KA KD K0 HR
  go_wp2_with (first
    | (go_at_call 53; refine (lone_c _).mono ?_; rintro e w8 ⟨rfl, hbb1⟩; have hbb2 := hb9.trans (hbb1.mono hb9.size); have h8 := heap_alloc_new w8 (.cells (irow 16 (fun _ => 0)) 24); have hbb3 := hbb2.alloc hbb2.size (.cells (irow 16 (fun _ => 0)) 24); clear hbb1)
    | (rw [zeros16]; go_must (refine strow arrShield _ _ rfl rfl _ _ rfl rfl _ _ h8 ?_); have hbb4 := below_setRow hbb3 hbb2.size (irow 16 (cst loneF)); have hg9 := setRow_heap _ _ _ (irow 16 (cst loneF)) _ _ h8; clear h8 hbb3; generalize World.setRow _ _ _ = ws2 at hbb4 hg9 ⊢; have hc14 : ws2.cell? ⟨w8.heap.size, 14, none⟩ = some (.int .i64 15) := cell_irow hg9 14 (by omega); have hf14 := frozen_of_row _ _ 14 _ _ hg9)
    | (refine ldrow arrShield _ rfl rfl _ rfl _ _ (bad_row hg9) ?_; have hbb5 := hbb4.setCell (p := ⟨w8.heap.size, 14, none⟩) hbb2.size (.int .i64 11))
    | (go_at_call 40; go_must (refine (HX.out _ hbb5).mono ?_); rintro e w9 ⟨vx, rfl, hi9, hbb6⟩; have hbb7 := (hbb5.trans (hbb6.mono hbb5.size)))
    | (go_at_call 20; go_must (refine (same_true vx _ [14, 15] _ (hi9.below ((Below.refl _ _).alloc (Nat.le_refl _) _)).reads (reads2 _ 14 15) (by simp)).mono ?_); rintro e wA ⟨rfl, hbb8⟩))
  go_ret
  refine ⟨rfl, (hbb7.alloc hbb7.size _).trans (hbb8.mono ?_)⟩
  have := hbb7.size
  simp
  omega
end Go.Proofs.YtphnibllfpkkkaaDoor
