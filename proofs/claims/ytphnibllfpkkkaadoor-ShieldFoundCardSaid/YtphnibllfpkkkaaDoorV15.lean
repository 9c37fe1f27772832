/- The law ShieldFound: the walk. -/
import Derived.Test.YtphnibllfpkkkaaDoorV14
import Derived.Test.YtphnibllfpkkkaaDoorV10
import Derived.Test.YtphnibllfpkkkaaDoorG7
import Derived.Deep.MidRow
namespace Go.Proofs.YtphnibllfpkkkaaDoor
open Go Go.RowKit
set_option maxRecDepth 100000

/-- A slice of pairs of bytes that came in. -/
def ReadsP (w : World) (v : Value) (n : Nat) (A C : Nat → Nat) : Prop :=
  (n = 0 ∧ ∃ a c, v = .slice a 0 c) ∨ (∃ g o c, v = .slice (some ⟨g, o, none⟩) n c ∧ g < w.heap.size ∧ ∀ k, k < n → A k < 256 ∧ C k < 256 ∧ w.cell? ⟨g, o + k * 2, none⟩ = some (.int .u8 ((A k : Nat) : Int)) ∧ w.cell? ⟨g, o + k * 2 + 1, none⟩ = some (.int .u8 ((C k : Nat) : Int)))
theorem ReadsP.form {w : World} {v : Value} {n : Nat} {A C : Nat → Nat} (h : ReadsP w v n A C) : ∃ p c, v = .slice p n c ∧ ∀ k, k < n → ∃ g o, p = some ⟨g, o, none⟩ ∧ g < w.heap.size ∧ A k < 256 ∧ C k < 256 ∧ w.cell? ⟨g, o + k * 2, none⟩ = some (.int .u8 ((A k : Nat) : Int)) ∧ w.cell? ⟨g, o + k * 2 + 1, none⟩ = some (.int .u8 ((C k : Nat) : Int)) := by
  rcases h with ⟨rfl, a, c, rfl⟩ | ⟨g, o, c, rfl, h1, h2⟩
  · exact ⟨a, c, rfl, fun k hk => by omega⟩
  · exact ⟨_, c, rfl, fun k hk => ⟨g, o, rfl, h1, h2 k hk⟩⟩

theorem hd_wrong {B : Nat → Nat} {n ch mm cc ll : Nat} (h : FoundAt B n ch mm cc ll) : (wl B 16 = []) = (ch = 0) := propext h.wrong
theorem isList {P : Program} {ops : Array Oper} {rest : List Oper} {o : Oper} {a : Act} {w : World} {Q : Exit → Act → World → Prop} (h : wpList P ops Q (o :: rest) a w) : wpList P ops Q (o :: rest) a w := h
/-- The shield of a record. -/
theorem rangeShield {w : World} {g : Nat} {t : TypeId} (m c : Nat) (G : Nat → Nat) (hg : w.heap[g]? = some (.cells (irow 18 (cst (rep m c G))) t (0, 0))) : w.rangeAt g 2 (irow 16 (cst G)).toList := fun j v hv => by
  rw [Array.getElem?_toList] at hv
  have hj : j < 16 := by
    rcases Nat.lt_or_ge j 16 with h | h
    · exact h
    · rw [Array.getElem?_eq_none (by simp; omega)] at hv; cases hv
  rw [irow_get _ _ _ hj] at hv
  rw [cell_irow hg (2 + j) (by omega), ← hv]
  simp only [cst, rep]
  rw [if_neg (by omega), if_neg (by omega), show 2 + j - 2 = j by omega]
theorem ldsh {ops : Array Oper} {rest : List Oper} {o : Oper} {a : Act} {w : World} {Q : Exit → Act → World → Prop} (x : Operand) (hgd : o.guard = none) (ho : o.op = .load 24 x)
    (g : Nat) (hx : a.eval x = .pointer (some ⟨g, 2, none⟩)) (m c : Nat) (G : Nat → Nat) (t : TypeId) (hg : w.heap[g]? = some (.cells (irow 18 (cst (rep m c G))) t (0, 0)))
    (h : wpList Tryd.prog ops Q rest (a.put o.dst (.agg (irow 16 (cst G)))) w) : wpList Tryd.prog ops Q (o :: rest) a w :=
  wpList_load_mid hgd _ x ho g 2 hx (irow 16 (cst G)).toList _ (rangeShield m c G hg) Tryd.underlying24 rfl (by rw [Array.length_toList, irow_size]; kernel_rfl) h
theorem ldshG {ops : Array Oper} {rest : List Oper} {o : Oper} {a : Act} {w : World} {Q : Exit → Act → World → Prop} (x : Operand) (ho : o.op = .load 24 x)
    (hw : Region.wanted o (yielded ops a.tmps) = true)
    (g : Nat) (hx : a.eval x = .pointer (some ⟨g, 2, none⟩)) (m c : Nat) (G : Nat → Nat) (t : TypeId) (hg : w.heap[g]? = some (.cells (irow 18 (cst (rep m c G))) t (0, 0)))
    (h : wpList Tryd.prog ops Q rest (a.put o.dst (.agg (irow 16 (cst G)))) w) : wpList Tryd.prog ops Q (o :: rest) a w :=
  Go.BigFrame.wpList_want hw fun _ hK => wp_load_mid _ x ho g 2 hx (irow 16 (cst G)).toList _ (rangeShield m c G hg) Tryd.underlying24 rfl (by rw [Array.length_toList, irow_size]; kernel_rfl) (hK _ _ h)

set_option maxHeartbeats 1000000 in
theorem lawFound_long (n : Nat) (p : Option Addr) (c k : Nat) (hk : 5 < k) (w : World) (L : Base2 w) :
    Calls Tryd.prog 14 #[.int .u16 (n : Nat), .slice p k c] w fun e w' => e = .returned (.bool true) ∧ Below w.heap.size w w' := by
  have HL := hid (fun W (hb : Below w.heap.size w W) => known_b W (L.a.below hb))
  have hk' : (5 : Int) < ((k : Nat) : Int) := by omega
  clear hk L
  go_enter Tryd.func14, Tryd.ntmps14
  go_wp2_with (go_at_call 19; go_must (refine (HL.out _ (Below.refl _ _)).mono ?_); rintro e w1 ⟨rfl, hc⟩)
  go_ret
  exact ⟨rfl, hc⟩

set_option maxHeartbeats 4000000 in
theorem lawFound_main (n : Nat) (hn : n < 65536) (v : Value) (k : Nat) (A C : Nat → Nat) (w : World) (hv : ReadsP w v k A C) (hk : k ≤ 5) (F M : Nat → Nat) (hM : ∀ i, i < 4 → M i < 16) (eM : mths n = M) (eF : der M = F) (hF : ∀ i, i < 16 → F i < 16)
    (G : Nat → Nat → Nat) (hG0 : G 0 = F) (hGs : ∀ j, G (j + 1) = flip1 (G j) (A j) (C j)) (hGl : ∀ j i, i < 16 → G j i < 16) (ch mm cc ll : Nat) (hch : dist (G k) F = ch) (hst : rst (DF (G k)) 65536 = (mm, cc, ll)) (hd : FoundAt (G k) n ch mm cc ll) (L : Base2 w) :
    Calls Tryd.prog 14 #[.int .u16 (n : Nat), v] w fun e w' => e = .returned (.bool true) ∧ Below w.heap.size w w' := by
  have HM := hid (fun W => Mothers_yes n hn W)
  rw [eM] at HM
  have HD := hid (fun W (hb : Below w.heap.size w W) => Derive_yes M hM W (L.a.below hb))
  rw [eF] at HD
  have HW := hid (fun W (hb : Below w.heap.size w W) => Wrong_yes (G k) (hGl k) W (L.a.below hb))
  have HX := hid (fun W (hb : Below w.heap.size w W) => Mend_yes (G k) (hGl k) 65536 rfl mm cc ll hst W (L.a.below hb) (L.b.below hb))
  have HT := hid (fun W (hb : Below w.heap.size w W) => Wrong_yes (der (mths ll)) (der_lt (mths ll) (fun i _ => mths_lt ll i)) W (L.a.below hb))
  rw [hd.right] at HT
  have HL := hid (fun W (hb : Below w.heap.size w W) => known_b W (L.a.below hb))
  have hsame : ch ≤ 2 → der (mths ll) = F := fun h => by rw [(hd.two h).2.2, eM, eF]
  obtain ⟨R, hR⟩ : ∃ R : Nat → Nat, der (mths ll) = R := ⟨_, rfl⟩
  rw [hR] at HX HT hsame
  obtain ⟨p, c, rfl, hp⟩ := hv.form
  have HP := hid hp
  have HGs := hid hGs
  have HGl := hid hGl
  have HF := hid hF
  have Hch := hid hch
  have Hd := hid hd
  have Hsame := hid hsame
  have HdT := hid (distT_le (G k) F (hGl k) hF)
  have hk' : ¬ (5 : Int) < ((k : Nat) : Int) := by omega
  have hwn := wrap_nat n (by omega)
  clear eM eF hM hn L hst hd hsame hR hv hp hGs hGl hF hch
  go_enter Tryd.func14, Tryd.ntmps14
  go_wp2_with (first
    | (go_at_call 27; go_must (refine (HM.out _).mono ?_); rintro e w1 ⟨rfl, hc⟩; have hz := heap_alloc_new w1 (.cells (irow 4 (fun _ => 0)) 37); have hbz := hc.alloc hc.size (.cells (irow 4 (fun _ => 0)) 37))
    | (rw [zeros4]; refine strow arrMothers _ _ rfl rfl _ _ rfl rfl _ _ hz ?_; have hb2 := below_setRow hbz hc.size (irow 4 (cst M)); have hm2 := setRow_heap _ _ _ (irow 4 (cst M)) _ _ hz; clear hz hbz hc; generalize World.setRow _ _ _ = w2 at hb2 hm2 ⊢)
    | (refine ldrow arrMothers _ rfl rfl _ rfl _ _ hm2 ?_)
    | (go_at_call 23; go_must (refine (HD.out _ hb2).mono ?_); rintro e w3 ⟨rfl, hc3⟩; have hb3 := hb2.trans (hc3.mono hb2.size); have hz3 := heap_alloc_new w3 (.cells (irow 16 (fun _ => 0)) 24); have hbz3 := hb3.alloc hb3.size (.cells (irow 16 (fun _ => 0)) 24); clear hb2 hm2 hc3)
    | (rw [zeros16]; refine strow arrShield _ _ rfl rfl _ _ rfl rfl _ _ hz3 ?_; have hb4 := below_setRow hbz3 hb3.size (irow 16 (cst F)); have hs4 := setRow_heap _ _ _ (irow 16 (cst F)) _ _ hz3; clear hz3 hbz3; generalize World.setRow _ _ _ = w4 at hb4 hs4 ⊢; have hz5 := heap_alloc_new w4 (.cells (irow 16 (fun _ => 0)) 24); have hbz5 := hb4.alloc hb4.size (.cells (irow 16 (fun _ => 0)) 24); have hs5z := (heap_alloc_old w4 (.cells (irow 16 (fun _ => 0)) 24) (heap_lt hs4)).trans hs4; have hne := heap_lt hs4)
    | (refine ldrow arrShield _ rfl rfl _ rfl _ _ hs4 ?_)
    | (rw [zeros16]; refine strow arrShield _ _ rfl rfl _ _ rfl rfl _ _ hz5 ?_; have hb5 := below_setRow hbz5 hb4.size (irow 16 (cst F)); have hg5 := setRow_heap _ _ _ (irow 16 (cst F)) _ _ hz5; have hs5 := (setRow_other _ w4.heap.size w3.heap.size (irow 16 (cst F)) (by omega)).trans hs5z; clear hz5 hbz5 hs5z hs4; generalize World.setRow _ _ _ = w5 at hb5 hg5 hs5 ⊢))
  have hBs : w.heap.size ≤ w3.heap.size := hb3.size
  have hBb : w.heap.size ≤ w4.heap.size := hb4.size
  clear hb3 hb4 HM HD
  generalize w3.heap.size = Bs at *
  generalize w4.heap.size = Bb at *
  rw [← hG0] at hg5
  go_loopw [10] (fun i wr => ∃ j : Nat, j ≤ k ∧ i = .int .i64 j ∧ wr.heap[Bs]? = some (.cells (irow 16 (cst F)) 24 (0, 0)) ∧ wr.heap[Bb]? = some (.cells (irow 16 (cst (G j))) 24 (0, 0)) ∧ Below w.heap.size w wr) (fun i _ => k - (intOf i).toNat)
  case atStart => exact ⟨0, by omega, rfl, hs5, hg5, hb5⟩
  case round =>
    clear hs5 hg5 hb5
    obtain ⟨j, hj, rfl, hs, hg, hb⟩ := hrel
    by_cases hlt : j < k
    · have hlt' : ((j : Nat) : Int) < ((k : Nat) : Int) := by omega
      obtain ⟨gg, o, rfl, hgl, ha256, hc256, hca, hcc⟩ := HP.out j hlt
      have hca' := (hb.cell (p := ⟨gg, o + j * 2, none⟩) hgl).trans hca
      have hcc' := (hb.cell (p := ⟨gg, o + j * 2 + 1, none⟩) hgl).trans hcc
      obtain ⟨x, hx⟩ : ∃ x, A j % 16 = x := ⟨_, rfl⟩
      have hx16 : x < 16 := by omega
      have hmod : ((A j : Nat) : Int) % 16 = ((x : Nat) : Int) := by omega
      have hcb : wr.cell? ⟨Bb, x, none⟩ = some (.int .i64 ((G j x : Nat) : Int)) := cell_irow hg x hx16
      have hfz := frozen_of_row _ _ x _ _ hg
      have hbn : Bs ≠ Bb := by omega
      have hG16 := HGl.out j x hx16
      have HstQ : ∀ q v, C j % 4 = q → 2 ^ q = v → G (j + 1) = upN (G j) x (G j x ^^^ v) := fun q v e1 e2 => by rw [HGs.out]; unfold flip1; rw [hx, e1, e2]
      have q4 : C j % 4 = 0 ∨ C j % 4 = 1 ∨ C j % 4 = 2 ∨ C j % 4 = 3 := by omega
      have P1 := fun v => (heap_setCell_other wr ⟨Bb, x, none⟩ Bs (.int .i64 v) hbn).trans hs
      have P3 := fun v => hb.setCell (show w.heap.size ≤ Bb by omega) (p := ⟨Bb, x, none⟩) (.int .i64 v)
      have H1 := hid P1
      have H3 := hid P3
      have Hg := hid hg
      clear hca hcc hs hg hb hx hbn P1 P3
      rcases q4 with q4 | q4 | q4 | q4
      · have hmod4 : ((C j : Nat) : Int) % 4 = 0 := by omega
        have hxor := i64_xor (G j x) 1 (by omega) (by omega)
        rw [show ((1 : Nat) : Int) = 1 from rfl] at hxor
        have P2 := set_irow Hg.out x ((G j x ^^^ 1 : Nat) : Int)
        rw [upd_cst, ← HstQ 0 1 q4 rfl] at P2
        have H2 := hid P2
        clear q4 HstQ P2 Hg
        generalize G j x ^^^ 1 = y at *
        generalize A j = a at *
        generalize C j = b at *
        generalize G j x = u at *
        go_wp2_with fail
        go_region
        go_wp2_with fail
        go_roundw
        case rel => exact ⟨j + 1, by omega, by go_num, H1.out _, H2.out, (H3.out _).drew⟩
        case measure => simp [intOf]; omega
      · have hmod4 : ((C j : Nat) : Int) % 4 = 1 := by omega
        have hxor := i64_xor (G j x) 2 (by omega) (by omega)
        rw [show ((2 : Nat) : Int) = 2 from rfl] at hxor
        have P2 := set_irow Hg.out x ((G j x ^^^ 2 : Nat) : Int)
        rw [upd_cst, ← HstQ 1 2 q4 rfl] at P2
        have H2 := hid P2
        clear q4 HstQ P2 Hg
        generalize G j x ^^^ 2 = y at *
        generalize A j = a at *
        generalize C j = b at *
        generalize G j x = u at *
        go_wp2_with fail
        go_region
        go_wp2_with fail
        go_roundw
        case rel => exact ⟨j + 1, by omega, by go_num, H1.out _, H2.out, (H3.out _).drew⟩
        case measure => simp [intOf]; omega
      · have hmod4 : ((C j : Nat) : Int) % 4 = 2 := by omega
        have hxor := i64_xor (G j x) 4 (by omega) (by omega)
        rw [show ((4 : Nat) : Int) = 4 from rfl] at hxor
        have P2 := set_irow Hg.out x ((G j x ^^^ 4 : Nat) : Int)
        rw [upd_cst, ← HstQ 2 4 q4 rfl] at P2
        have H2 := hid P2
        clear q4 HstQ P2 Hg
        generalize G j x ^^^ 4 = y at *
        generalize A j = a at *
        generalize C j = b at *
        generalize G j x = u at *
        go_wp2_with fail
        go_region
        go_wp2_with fail
        go_roundw
        case rel => exact ⟨j + 1, by omega, by go_num, H1.out _, H2.out, (H3.out _).drew⟩
        case measure => simp [intOf]; omega
      · have hmod4 : ((C j : Nat) : Int) % 4 = 3 := by omega
        have hxor := i64_xor (G j x) 8 (by omega) (by omega)
        rw [show ((8 : Nat) : Int) = 8 from rfl] at hxor
        have P2 := set_irow Hg.out x ((G j x ^^^ 8 : Nat) : Int)
        rw [upd_cst, ← HstQ 3 8 q4 rfl] at P2
        have H2 := hid P2
        clear q4 HstQ P2 Hg
        generalize G j x ^^^ 8 = y at *
        generalize A j = a at *
        generalize C j = b at *
        generalize G j x = u at *
        go_wp2_with fail
        go_region
        go_wp2_with fail
        go_roundw
        case rel => exact ⟨j + 1, by omega, by go_num, H1.out _, H2.out, (H3.out _).drew⟩
        case measure => simp [intOf]; omega
    · have hge : ¬ ((j : Nat) : Int) < ((k : Nat) : Int) := by omega
      obtain rfl : j = k := by omega
      clear HP HGs hG0
      have HGk := hid (HGl.out j)
      clear HGl
      generalize G j = B at *
      have hz : sumN (fun i => onT (B i ^^^ F i) 4) 0 = 0 := rfl
      go_wp2_with fail
      go_loopw [11, 12] (fun x i wr => ∃ k : Nat, k ≤ 16 ∧ i = .int .i64 k ∧ x = .int .i64 ((sumN (fun i => onT (B i ^^^ F i) 4) k : Nat) : Int) ∧ wr.heap[Bs]? = some (.cells (irow 16 (cst F)) 24 (0, 0)) ∧ wr.heap[Bb]? = some (.cells (irow 16 (cst B)) 24 (0, 0)) ∧ Below w.heap.size w wr) (fun _ i _ => 16 - (intOf i).toNat)
      case atStart => exact ⟨0, by omega, rfl, rfl, hs, hg, hb⟩
      case round =>
        clear hs hg hb
        obtain ⟨k, hk, rfl, rfl, h0, h1, hb⟩ := hrel
        by_cases hlt : k < 16
        · have hlt' : ((k : Nat) : Int) < 16 := by omega
          have hcf := cell_irow h0 k hlt
          have hcg := cell_irow h1 k hlt
          have hx := i64_xor (B k) (F k) (by have := HGk.out k hlt; omega) (by have := HF.out k hlt; omega)
          have hO := hid (fun W => ones_c (B k ^^^ F k) (x4 _ _ (HGk.out k hlt) (HF.out k hlt)) W)
          have hle := HdT.out (k + 1) (by omega)
          have hst : sumN (fun i => onT (B i ^^^ F i) 4) (k + 1) = sumN (fun i => onT (B i ^^^ F i) 4) k + onT (B k ^^^ F k) 4 := rfl
          have hadd : IntKind.i64.wrap (((sumN (fun i => onT (B i ^^^ F i) 4) k : Nat) : Int) + ((onT (B k ^^^ F k) 4 : Nat) : Int)) = ((sumN (fun i => onT (B i ^^^ F i) 4) (k + 1) : Nat) : Int) := by
            rw [IntWalk.i64_in _ (by omega)]; omega
          generalize onT (B k ^^^ F k) 4 = o at *
          generalize B k ^^^ F k = x at *
          generalize hy : sumN (fun i => onT (B i ^^^ F i) 4) (k + 1) = y at *
          have Hy := hid hy
          generalize sumN (fun i => onT (B i ^^^ F i) 4) k = z at *
          have H0 := hid h0
          have H1 := hid h1
          clear hst hle hy h0 h1
          go_wp2_with fail
          go_quiet ((go_at_call 39; exact quiet_same (hO.out _)))
          go_wp2_with fail
          go_roundw
          case rel => exact ⟨k + 1, by omega, by go_num, by rw [Hy.out], H0.out, H1.out, below_drewN hb _⟩
          case measure => simp [intOf]; omega
        · have hge : ¬ ((k : Nat) : Int) < 16 := by omega
          obtain rfl : k = 16 := by omega
          have hchd : sumN (fun i => onT (B i ^^^ F i) 4) 16 = ch := Hch.out
          rw [hchd]
          -- the end
          have hD := Hd.out
          obtain ⟨l, hl⟩ : ∃ l, (wl B 16).length = l := ⟨_, rfl⟩
          have hw : l = 0 ↔ ch = 0 := by rw [← hd_wrong hD, ← hl, List.length_eq_zero_iff]
          have hle : ¬ ((ch : Nat) : Int) < ((mm : Nat) : Int) := by have := hD.le; omega
          have hc1 : ¬ ((cc : Nat) : Int) < 1 := by have := hD.some; omega
          have hmz0 := hD.marks
          have htwo := hD.two
          generalize wl B 16 = xs at *
          clear hD Hd Hch HdT HGk hchd hge hlt hz
          by_cases h2 : ch ≤ 2
          · obtain ⟨rfl, rfl, rfl⟩ := htwo h2
            have hRF := Hsame.out h2
            subst hRF
            have h2' : ((mm : Nat) : Int) ≤ 2 := by omega
            have hneq := neqShield (cst R) (cst R) true (by simp)
            clear htwo Hsame
            by_cases hz0 : mm = 0
            · have hcz : (((mm : Nat) : Int) == 0) = true := by simp; omega
              have hlz : (((l : Nat) : Int) == 0) = true := by simp; omega
              clear hz0 hw hmz0
              go_wp2_with (first
                | (have hq := h1; clear hq; with_reducible refine isList ?_; refine ldrow arrShield _ rfl rfl _ rfl _ _ h1 ?_)
                | (go_at_call 40; refine (HW.out _ hb).mono ?_; rintro e w1 ⟨vw, rfl, hi, hc⟩; obtain ⟨p1, c1, rfl⟩ := hi.form; rw [hl]; obtain ⟨hb1, h01⟩ := stepO hb hb.size h0 hc; obtain ⟨_, h11⟩ := stepO hb hb.size h1 hc; clear HW hc hb h0 h1 hi)
                | (have hq := h11; clear hq; with_reducible refine isList ?_; refine ldrow arrShield _ rfl rfl _ rfl _ _ h11 ?_)
                | (go_at_call 47; go_must (refine (HX.out _ hb1).mono ?_); rintro e w2 ⟨rfl, hc⟩; obtain ⟨hb2, h02⟩ := stepO hb1 hb1.size h01 hc; have hz := heap_alloc_new w2 (.cells (irow 18 (cst (rep 0 0 (fun _ => 0)))) 87); have hbz := hb2.alloc hb2.size (.cells (irow 18 (cst (rep 0 0 (fun _ => 0)))) 87); have h0z := (heap_alloc_old w2 (.cells (irow 18 (cst (rep 0 0 (fun _ => 0)))) 87) (heap_lt h02)).trans h02; have hne := heap_lt h02; clear hc h01 h11 hb1 h02)
                | (rw [rep_zero]; refine strec recRepair _ _ rfl rfl _ _ rfl rfl _ _ hz ?_; have hb3 := below_setRow hbz hb2.size (irow 18 (cst (rep mm 1 R))); have hr3 := setRow_heap _ _ _ (irow 18 (cst (rep mm 1 R))) _ _ hz; have h03 := (setRow_other _ w2.heap.size Bs (irow 18 (cst (rep mm 1 R))) (by omega)).trans h0z; clear hz hbz h0z; generalize World.setRow _ _ _ = w3 at hb3 hr3 h03 ⊢; have hm0 : w3.cell? ⟨w2.heap.size, 0, none⟩ = some (.int .i64 ((mm : Nat) : Int)) := cell_irow hr3 0 (by omega); have hm1 : w3.cell? ⟨w2.heap.size, 1, none⟩ = some (.int .i64 1) := cell_irow hr3 1 (by omega))
                | (have hq := hr3; clear hq; with_reducible refine isList ?_; refine ldshG _ rfl rfl _ rfl _ _ _ _ hr3 ?_)
                | (have hq := h03; clear hq; with_reducible refine isList ?_; refine ldrowG arrShield _ rfl rfl _ rfl _ _ h03 ?_)
                | (have hq := hr3; clear hq; with_reducible refine isList ?_; refine ldshG _ rfl rfl _ rfl _ _ _ _ hr3 ?_)
                | (go_at_call 40; refine (HT.out _ hb3).mono ?_; rintro e w5 ⟨vt, rfl, hit, hc⟩; obtain ⟨pt, ct, rfl⟩ := hit.form; obtain ⟨hb5, h05⟩ := stepO hb3 hb3.size h03 hc; clear hc)
                | (go_at_call 19; go_must (refine (HL.out _ hb5).mono ?_); rintro e w6 ⟨rfl, hc6⟩; obtain ⟨hb6, _⟩ := stepO hb5 hb5.size h05 hc6))
              go_ret
              exact ⟨rfl, hb6⟩
            · have hcz : (((mm : Nat) : Int) == 0) = false := by simp; omega
              have hlz : (((l : Nat) : Int) == 0) = false := by simp; omega
              clear hz0 hw hmz0
              go_wp2_with (first
                | (have hq := h1; clear hq; with_reducible refine isList ?_; refine ldrow arrShield _ rfl rfl _ rfl _ _ h1 ?_)
                | (go_at_call 40; refine (HW.out _ hb).mono ?_; rintro e w1 ⟨vw, rfl, hi, hc⟩; obtain ⟨p1, c1, rfl⟩ := hi.form; rw [hl]; obtain ⟨hb1, h01⟩ := stepO hb hb.size h0 hc; obtain ⟨_, h11⟩ := stepO hb hb.size h1 hc; clear HW hc hb h0 h1 hi)
                | (have hq := h11; clear hq; with_reducible refine isList ?_; refine ldrow arrShield _ rfl rfl _ rfl _ _ h11 ?_)
                | (go_at_call 47; go_must (refine (HX.out _ hb1).mono ?_); rintro e w2 ⟨rfl, hc⟩; obtain ⟨hb2, h02⟩ := stepO hb1 hb1.size h01 hc; have hz := heap_alloc_new w2 (.cells (irow 18 (cst (rep 0 0 (fun _ => 0)))) 87); have hbz := hb2.alloc hb2.size (.cells (irow 18 (cst (rep 0 0 (fun _ => 0)))) 87); have h0z := (heap_alloc_old w2 (.cells (irow 18 (cst (rep 0 0 (fun _ => 0)))) 87) (heap_lt h02)).trans h02; have hne := heap_lt h02; clear hc h01 h11 hb1 h02)
                | (rw [rep_zero]; refine strec recRepair _ _ rfl rfl _ _ rfl rfl _ _ hz ?_; have hb3 := below_setRow hbz hb2.size (irow 18 (cst (rep mm 1 R))); have hr3 := setRow_heap _ _ _ (irow 18 (cst (rep mm 1 R))) _ _ hz; have h03 := (setRow_other _ w2.heap.size Bs (irow 18 (cst (rep mm 1 R))) (by omega)).trans h0z; clear hz hbz h0z; generalize World.setRow _ _ _ = w3 at hb3 hr3 h03 ⊢; have hm0 : w3.cell? ⟨w2.heap.size, 0, none⟩ = some (.int .i64 ((mm : Nat) : Int)) := cell_irow hr3 0 (by omega); have hm1 : w3.cell? ⟨w2.heap.size, 1, none⟩ = some (.int .i64 1) := cell_irow hr3 1 (by omega))
                | (have hq := hr3; clear hq; with_reducible refine isList ?_; refine ldshG _ rfl rfl _ rfl _ _ _ _ hr3 ?_)
                | (have hq := h03; clear hq; with_reducible refine isList ?_; refine ldrowG arrShield _ rfl rfl _ rfl _ _ h03 ?_)
                | (have hq := hr3; clear hq; with_reducible refine isList ?_; refine ldshG _ rfl rfl _ rfl _ _ _ _ hr3 ?_)
                | (go_at_call 40; refine (HT.out _ hb3).mono ?_; rintro e w5 ⟨vt, rfl, hit, hc⟩; obtain ⟨pt, ct, rfl⟩ := hit.form; obtain ⟨hb5, h05⟩ := stepO hb3 hb3.size h03 hc; clear hc)
                | (go_at_call 19; go_must (refine (HL.out _ hb5).mono ?_); rintro e w6 ⟨rfl, hc6⟩; obtain ⟨hb6, _⟩ := stepO hb5 hb5.size h05 hc6))
              go_ret
              exact ⟨rfl, hb6⟩
          · have h2' : ¬ ((ch : Nat) : Int) ≤ 2 := by omega
            have hcz : (((ch : Nat) : Int) == 0) = false := by simp; omega
            have hlz : (((l : Nat) : Int) == 0) = false := by simp; omega
            have hmz : (((mm : Nat) : Int) == 0) = false := by simp; omega
            have e1 : ¬ ch < mm := by omega
            have e2 : ¬ cc = 0 := by omega
            have e3 : ¬ cc < 1 := by omega
            have e4 : ¬ ch = 0 := by omega
            have e5 : ¬ mm = 0 := by omega
            have d1 : decide (((ch : Nat) : Int) < ((mm : Nat) : Int)) = false := by simp; omega
            have d2 : decide (((cc : Nat) : Int) < 1) = false := by simp; omega
            have d3 : decide (((ch : Nat) : Int) ≤ 2) = false := by simp; omega
            clear htwo Hsame hw hmz0
            go_wp2_with (first
              | (have hq := h1; clear hq; with_reducible refine isList ?_; refine ldrow arrShield _ rfl rfl _ rfl _ _ h1 ?_)
              | (go_at_call 40; refine (HW.out _ hb).mono ?_; rintro e w1 ⟨vw, rfl, hi, hc⟩; obtain ⟨p1, c1, rfl⟩ := hi.form; rw [hl]; obtain ⟨hb1, h01⟩ := stepO hb hb.size h0 hc; obtain ⟨_, h11⟩ := stepO hb hb.size h1 hc; clear HW hc hb h0 h1 hi)
              | (have hq := h11; clear hq; with_reducible refine isList ?_; refine ldrow arrShield _ rfl rfl _ rfl _ _ h11 ?_)
              | (go_at_call 47; go_must (refine (HX.out _ hb1).mono ?_); rintro e w2 ⟨rfl, hc⟩; obtain ⟨hb2, h02⟩ := stepO hb1 hb1.size h01 hc; have hz := heap_alloc_new w2 (.cells (irow 18 (cst (rep 0 0 (fun _ => 0)))) 87); have hbz := hb2.alloc hb2.size (.cells (irow 18 (cst (rep 0 0 (fun _ => 0)))) 87); have h0z := (heap_alloc_old w2 (.cells (irow 18 (cst (rep 0 0 (fun _ => 0)))) 87) (heap_lt h02)).trans h02; have hne := heap_lt h02; clear hc h01 h11 hb1 h02)
              | (rw [rep_zero]; refine strec recRepair _ _ rfl rfl _ _ rfl rfl _ _ hz ?_; have hb3 := below_setRow hbz hb2.size (irow 18 (cst (rep mm cc R))); have hr3 := setRow_heap _ _ _ (irow 18 (cst (rep mm cc R))) _ _ hz; have h03 := (setRow_other _ w2.heap.size Bs (irow 18 (cst (rep mm cc R))) (by omega)).trans h0z; clear hz hbz h0z; generalize World.setRow _ _ _ = w3 at hb3 hr3 h03 ⊢; have hm0 : w3.cell? ⟨w2.heap.size, 0, none⟩ = some (.int .i64 ((mm : Nat) : Int)) := cell_irow hr3 0 (by omega); have hm1 : w3.cell? ⟨w2.heap.size, 1, none⟩ = some (.int .i64 ((cc : Nat) : Int)) := cell_irow hr3 1 (by omega))
              | (have hq := hr3; clear hq; with_reducible refine isList ?_; refine ldshG _ rfl rfl _ rfl _ _ _ _ hr3 ?_)
              | (go_at_call 40; refine (HT.out _ hb3).mono ?_; rintro e w5 ⟨vt, rfl, hit, hc⟩; obtain ⟨pt, ct, rfl⟩ := hit.form; obtain ⟨hb5, h05⟩ := stepO hb3 hb3.size h03 hc; clear hc)
              | (go_at_call 19; go_must (refine (HL.out _ hb5).mono ?_); rintro e w6 ⟨rfl, hc6⟩; obtain ⟨hb6, _⟩ := stepO hb5 hb5.size h05 hc6))
            go_ret
            exact ⟨rfl, hb6⟩

theorem lawFound (n : Nat) (v : Value) (k : Nat) (A C : Nat → Nat) (w : World) (hn : n < 65536) (hv : ReadsP w v k A C) (L : Base2 w) :
    Calls Tryd.prog 14 #[.int .u16 (n : Nat), v] w fun e w' => e = .returned (.bool true) ∧ Below w.heap.size w w' := by
  by_cases hk : 5 < k
  · obtain ⟨p, c, rfl, _⟩ := hv.form
    exact lawFound_long n p c k hk w L
  · obtain ⟨N, hN⟩ : ∃ N : Nat, 65536 = N := ⟨_, rfl⟩
    have hF := der_lt (mths n) (fun i _ => mths_lt n i)
    have hG := flipN_lt (der (mths n)) A C hF
    have h5 := dist_flips (der (mths n)) A C hF k
    obtain ⟨s, hs⟩ : ∃ s, rst (DF (flipN (der (mths n)) A C k)) N = s := ⟨_, rfl⟩
    have hst := hs.trans (triple s)
    have hd := found n N hN (by omega) (flipN (der (mths n)) A C k) (hG k) _ rfl (by omega) _ _ _ hst
    rw [← hN] at hst
    exact lawFound_main n hn v k A C w hv (by omega) (der (mths n)) (mths n) (fun i _ => mths_lt n i) rfl rfl hF (flipN (der (mths n)) A C) rfl (fun _ => rfl) hG _ _ _ _ rfl hst hd L
end Go.Proofs.YtphnibllfpkkkaaDoor
