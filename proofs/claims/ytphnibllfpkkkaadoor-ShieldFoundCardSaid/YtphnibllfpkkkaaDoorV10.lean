/- The law ShieldIdentities: the walk. -/
import Derived.Test.YtphnibllfpkkkaaDoorV8
import Derived.Test.YtphnibllfpkkkaaDoorV9
namespace Go.Proofs.YtphnibllfpkkkaaDoor
open Go Go.RowKit
set_option maxRecDepth 100000

theorem onT_step (f k : Nat) (hf : f < 16) : ((onT f k : Nat) : Int) + bits .and .i64 (((f : Nat) : Int) / 2 ^ k) 1 = ((onT f (k + 1) : Nat) : Int) := by
  have e1 : ((f : Nat) : Int) / 2 ^ k = ((f / 2 ^ k : Nat) : Int) := by push_cast; rfl
  have hlt : f / 2 ^ k < 16 := Nat.lt_of_le_of_lt (Nat.div_le_self _ _) hf
  rw [e1, i64_and1 _ (by omega), onT]
  omega
set_option maxHeartbeats 400000 in
theorem ones_c (f : Nat) (hf : f < 16) (w : World) : Calls Tryd.prog 39 #[.int .i64 (f : Nat)] w fun e w' => e = .returned (.int .i64 ((onT f 4 : Nat) : Int)) ∧ w = w' := by
  go_enter Tryd.func39, Tryd.ntmps39
  go_wp2_with fail
  go_loop [3, 4] (fun n i => ∃ k : Nat, k ≤ 4 ∧ i = .int .i64 k ∧ n = .int .i64 ((onT f k : Nat) : Int)) (fun _ i => 4 - (intOf i).toNat)
  case atStart => exact ⟨0, by omega, rfl, rfl⟩
  case round =>
    obtain ⟨k, hk, rfl, rfl⟩ := hrel
    by_cases hlt : k < 4
    · have hlt' : (k : Int) < 4 := by omega
      have hst := onT_step f k hf
      have hle := onT_le f (k + 1)
      have hw := IntWalk.wrap64_in ((onT f (k + 1) : Nat) : Int) (by omega)
      have Hst := hid hst
      generalize hy : onT f (k + 1) = y at *
      have Hy := hid hy
      clear hy
      generalize onT f k = x at *
      go_wp2_with fail
      go_round
      case rel => exact ⟨k + 1, by omega, by go_num, by rw [Hy.out]⟩
      case measure => simp [intOf]; omega
    · have hge : ¬ (k : Int) < 4 := by omega
      obtain rfl : k = 4 := by omega
      go_wp2_with fail
      go_ret
      exact ⟨rfl, rfl⟩
theorem sum8 (F : Nat → Nat) (r : Nat) (hF : ∀ i, i < 8 → F i < 16) (hr : xorT F 8 = r) (g c : Nat) (w : World) (hg : g < w.heap.size) (h0 : w.cell? ⟨g, 0, none⟩ = some (.int .i64 ((F 0 : Nat) : Int))) (h1 : w.cell? ⟨g, 1, none⟩ = some (.int .i64 ((F 1 : Nat) : Int))) (h2 : w.cell? ⟨g, 2, none⟩ = some (.int .i64 ((F 2 : Nat) : Int))) (h3 : w.cell? ⟨g, 3, none⟩ = some (.int .i64 ((F 3 : Nat) : Int))) (h4 : w.cell? ⟨g, 4, none⟩ = some (.int .i64 ((F 4 : Nat) : Int))) (h5 : w.cell? ⟨g, 5, none⟩ = some (.int .i64 ((F 5 : Nat) : Int))) (h6 : w.cell? ⟨g, 6, none⟩ = some (.int .i64 ((F 6 : Nat) : Int))) (h7 : w.cell? ⟨g, 7, none⟩ = some (.int .i64 ((F 7 : Nat) : Int))) :
    Calls Tryd.prog 38 #[.slice (some ⟨g, 0, none⟩) 8 c] w fun e w' => e = .returned (.tuple #[.int .i64 (r : Nat), .bool true]) ∧ Below w.heap.size w w' := by
  rw [← hr]
  exact sum_c F 8 hF g c (by omega) w hg (fun i hi => by
    rcases (show i = 0 ∨ i = 1 ∨ i = 2 ∨ i = 3 ∨ i = 4 ∨ i = 5 ∨ i = 6 ∨ i = 7 by omega) with rfl | rfl | rfl | rfl | rfl | rfl | rfl | rfl <;> assumption)
theorem mothers_lit (F : Nat → Nat) : irow 4 (cst (fun i => F (4 + i))) = #[.int .i64 ((F 4 : Nat) : Int), .int .i64 ((F 5 : Nat) : Int), .int .i64 ((F 6 : Nat) : Int), .int .i64 ((F 7 : Nat) : Int)] := rfl

theorem cells16 {w : World} {g : Nat} {F : Nat → Nat} {t : TypeId} (hg : w.heap[g]? = some (.cells (irow 16 (cst F)) t (0, 0))) :
    w.cell? ⟨g, 0, none⟩ = some (.int .i64 ((F 0 : Nat) : Int)) ∧ w.cell? ⟨g, 1, none⟩ = some (.int .i64 ((F 1 : Nat) : Int)) ∧ w.cell? ⟨g, 2, none⟩ = some (.int .i64 ((F 2 : Nat) : Int)) ∧ w.cell? ⟨g, 3, none⟩ = some (.int .i64 ((F 3 : Nat) : Int)) ∧ w.cell? ⟨g, 4, none⟩ = some (.int .i64 ((F 4 : Nat) : Int)) ∧ w.cell? ⟨g, 5, none⟩ = some (.int .i64 ((F 5 : Nat) : Int)) ∧ w.cell? ⟨g, 6, none⟩ = some (.int .i64 ((F 6 : Nat) : Int)) ∧ w.cell? ⟨g, 7, none⟩ = some (.int .i64 ((F 7 : Nat) : Int)) ∧ w.cell? ⟨g, 8, none⟩ = some (.int .i64 ((F 8 : Nat) : Int)) ∧ w.cell? ⟨g, 9, none⟩ = some (.int .i64 ((F 9 : Nat) : Int)) ∧ w.cell? ⟨g, 10, none⟩ = some (.int .i64 ((F 10 : Nat) : Int)) ∧ w.cell? ⟨g, 11, none⟩ = some (.int .i64 ((F 11 : Nat) : Int)) ∧ w.cell? ⟨g, 12, none⟩ = some (.int .i64 ((F 12 : Nat) : Int)) ∧ w.cell? ⟨g, 13, none⟩ = some (.int .i64 ((F 13 : Nat) : Int)) ∧ w.cell? ⟨g, 14, none⟩ = some (.int .i64 ((F 14 : Nat) : Int)) ∧ w.cell? ⟨g, 15, none⟩ = some (.int .i64 ((F 15 : Nat) : Int)) :=
  ⟨cell_irow hg 0 (by omega), cell_irow hg 1 (by omega), cell_irow hg 2 (by omega), cell_irow hg 3 (by omega), cell_irow hg 4 (by omega), cell_irow hg 5 (by omega), cell_irow hg 6 (by omega), cell_irow hg 7 (by omega), cell_irow hg 8 (by omega), cell_irow hg 9 (by omega), cell_irow hg 10 (by omega), cell_irow hg 11 (by omega), cell_irow hg 12 (by omega), cell_irow hg 13 (by omega), cell_irow hg 14 (by omega), cell_irow hg 15 (by omega)⟩
theorem chainO {W w' : World} {o x : Obj} {g : Nat} (hg : W.heap[g]? = some x) (hc : Below (W.alloc o).heap.size (W.alloc o) w') : w'.heap[g]? = some x :=
  heap_below hc ((heap_alloc_old W o (heap_lt hg)).trans hg) (by have := heap_lt hg; simp; omega)

set_option maxHeartbeats 4000000 in
theorem lawIdent_main (n : Nat) (hn : n < 65536) (F M G : Nat → Nat) (hM : ∀ i, i < 4 → M i < 16) (hF : ∀ i, i < 16 → F i < 16) (eM : mths n = M) (eF : der M = F) (eG : der (fun i => F (4 + i)) = G) (hnum : num M 4 = n)
    (hall : xorT F 8 = F 14) (hlast : F 14 ^^^ F 0 = F 15) (hones : onT (F 14) 4 % 2 = 0) (h0 : F 0 = M 0) (h3 : F 3 = M 3) (g12 : G 12 = F 13) (g13 : G 13 = F 12) (g14 : G 14 = F 14) (g4 : G 4 = F 0) (g5 : G 5 = F 1) (g6 : G 6 = F 2) (g7 : G 7 = F 3) (hwl : wl F 16 = []) (w : World) (L : Base w) :
    Calls Tryd.prog 8 #[.int .u16 (n : Nat)] w fun e w' => e = .returned (.bool true) ∧ Below w.heap.size w w' := by
  have HM := hid (fun W => Mothers_yes n hn W)
  rw [eM] at HM
  have HD := hid (fun W (hb : Below w.heap.size w W) => Derive_yes M hM W (L.below hb))
  rw [eF] at HD
  have HN := hid (fun W => Number_yes M hM W)
  rw [hnum] at HN
  have HS8 := hid (fun g c W => sum8 F (F 14) (fun i hi => hF i (by omega)) hall g c W)
  have HS2 := hid (fun g c W => sum2 (F 14) (F 0) (F 15) (hF 14 (by omega)) (hF 0 (by omega)) hlast g c W)
  have HO := hid (fun W => ones_c (F 14) (hF 14 (by omega)) W)
  have hpar : ((onT (F 14) 4 : Nat) : Int) % 2 = 0 := by omega
  have HG := hid (fun W (hb : Below w.heap.size w W) => Derive_yes (fun i => F (4 + i)) (fun i hi => hF (4 + i) (by omega)) W (L.below hb))
  rw [eG, mothers_lit] at HG
  have HWr := hid (fun W (hb : Below w.heap.size w W) => Wrong_yes F hF W (L.below hb))
  rw [hwl] at HWr
  have HL := hid (fun W (hb : Below w.heap.size w W) => known_b W (L.below hb))
  generalize onT (F 14) 4 = x at HO hpar
  have E := hid (And.intro h0 (And.intro h3 (And.intro g12 (And.intro g13 (And.intro g14 (And.intro g4 (And.intro g5 (And.intro g6 g7))))))))
  clear eM eF eG hnum hall hlast hones h0 h3 g12 g13 g14 g4 g5 g6 g7 hwl L hM hF
  go_enter Tryd.func8, Tryd.ntmps8
  go_wp2_with (first
    | (go_at_call 27; go_must (refine (HM.out _).mono ?_); rintro e w1 ⟨rfl, hb1⟩; have hz := heap_alloc_new w1 (.cells (irow 4 (fun _ => 0)) 37); have hbz : Below w.heap.size w (w1.alloc (.cells (irow 4 (fun _ => 0)) 37)) := hb1.alloc hb1.size _)
    | (rw [zeros4]; refine strow arrMothers _ _ rfl rfl _ _ rfl rfl _ _ hz ?_; have hbs := below_setRow hbz hb1.size (irow 4 (cst M)); have hgs := setRow_heap _ _ _ (irow 4 (cst M)) _ _ hz; clear hz hbz; generalize World.setRow _ _ _ = ws at hgs hbs ⊢)
    | (refine ldrow arrMothers _ rfl rfl _ rfl _ _ hgs ?_)
    | (go_at_call 23; refine (HD.out _ hbs).mono ?_; rintro e w2 ⟨rfl, hc⟩; obtain ⟨hb2, hm2⟩ := stepO hbs hbs.size hgs hc; have hz2 := heap_alloc_new w2 (.cells (irow 16 (fun _ => 0)) 24); have hbz2 := hb2.alloc hb2.size (.cells (irow 16 (fun _ => 0)) 24); have hmz2 := (heap_alloc_old w2 (.cells (irow 16 (fun _ => 0)) 24) (heap_lt hm2)).trans hm2; clear HD hgs hbs hc)
    | (rw [zeros16]; refine strow arrShield _ _ rfl rfl _ _ rfl rfl _ _ hz2 ?_; have hbt := below_setRow hbz2 hb2.size (irow 16 (cst F)); have hgt := setRow_heap _ _ _ (irow 16 (cst F)) _ _ hz2; have hmt := (setRow_other _ w2.heap.size w1.heap.size (irow 16 (cst F)) (by have := heap_lt hm2; omega)).trans hmz2; clear hz2 hbz2 hmz2 hm2; generalize World.setRow _ _ _ = wt at hgt hbt hmt ⊢)
    | (refine ldrow arrMothers _ rfl rfl _ rfl _ _ hmt ?_)
    | (go_at_call 22; go_must (refine (HN.out _).mono ?_); rintro e w3 ⟨rfl, hc⟩; obtain ⟨hb3, hg3⟩ := stepO hbt hbt.size hgt hc; obtain ⟨_, hm3⟩ := stepO hbt hbt.size hmt hc; obtain ⟨a0, a1, a2, a3, a4, a5, a6, a7, _⟩ := cells16 hg3; clear hc hmt hgt hbt)
    | (go_at_call 38; first
      | (refine (HS8.out _ _ _ ?_ ?_ ?_ ?_ ?_ ?_ ?_ ?_ ?_).mono ?_; (simp); (simp); (simp); (simp); (simp); (simp); (simp); (simp); (simp); rintro e w4 ⟨rfl, hc⟩; have hb4 := chain hb3 hc; have hg4 := chainO hg3 hc; have hm4 := chainO hm3 hc; obtain ⟨d0, _, _, _, _, _, _, _, _, _, _, _, _, _, d14, _⟩ := cells16 hg4; clear HS8 hc a0 a1 a2 a3 a4 a5 a6 a7 hg3 hm3 hb3)
      | (refine (HS2.out _ _ _ ?_ ?_ ?_).mono ?_; (simp); (simp); (simp); rintro e w5 ⟨rfl, hc⟩; have hb5 := chain hb4 hc; have hg5 := chainO hg4 hc; have hm5 := chainO hm4 hc; obtain ⟨f0, _, _, f3, f4, f5, f6, f7, _, _, _, _, _, _, f14, f15⟩ := cells16 hg5; have m0 : w5.cell? ⟨w1.heap.size, 0, none⟩ = some (.int .i64 (F 0 : Nat)) := by { rw [E.out.1]; exact cell_irow hm5 0 (by omega) }; have m3 : w5.cell? ⟨w1.heap.size, 3, none⟩ = some (.int .i64 (F 3 : Nat)) := by { rw [E.out.2.1]; exact cell_irow hm5 3 (by omega) }; clear HS2 hc d0 d14 hg4 hm4 hm5 hb4))
    | (go_at_call 39; refine (HO.out _).mono ?_; rintro e w' ⟨rfl, rfl⟩)
    | (go_at_call 23; refine (HG.out _ hb5).mono ?_; rintro e w6 ⟨rfl, hc⟩; obtain ⟨hb6, hg6⟩ := stepO hb5 hb5.size hg5 hc; have hz6 := heap_alloc_new w6 (.cells (irow 16 (fun _ => 0)) 24); have hbz6 := hb6.alloc hb6.size (.cells (irow 16 (fun _ => 0)) 24); have hgz6 := (heap_alloc_old w6 (.cells (irow 16 (fun _ => 0)) 24) (heap_lt hg6)).trans hg6; clear hc f0 f3 f4 f5 f6 f7 f14 f15 m0 m3 hg5 hb5)
    | (rw [zeros16]; refine strow arrShield _ _ rfl rfl _ _ rfl rfl _ _ hz6 ?_; have hbu := below_setRow hbz6 hb6.size (irow 16 (cst G)); have hgu := setRow_heap _ _ _ (irow 16 (cst G)) _ _ hz6; have hfu := (setRow_other _ w6.heap.size w2.heap.size (irow 16 (cst G)) (by have := heap_lt hg6; omega)).trans hgz6; clear hz6 hbz6 hgz6 hg6; generalize World.setRow _ _ _ = wu at hgu hbu hfu ⊢)
    | (refine ldrow arrShield _ rfl rfl _ rfl _ _ hfu ?_)
    | (go_at_call 40; refine (HWr.out _ hbu).mono ?_; rintro e w8 ⟨v, rfl, hi, hc⟩; obtain ⟨hb8, hf8⟩ := stepO hbu hbu.size hfu hc; obtain ⟨_, hg8⟩ := stepO hbu hbu.size hgu hc; obtain ⟨p, c, rfl⟩ := hi.form; obtain ⟨f0, f1, f2, f3, _, _, _, _, _, _, _, _, f12, f13, f14, _⟩ := cells16 hf8; obtain ⟨_, _, _, _, g4, g5, g6, g7, _, _, _, _, g12, g13, g14, _⟩ := cells16 hg8; obtain ⟨_, _, e12, e13, e14, e4, e5, e6, e7⟩ := E.out; rw [e12] at g12; rw [e13] at g13; rw [e14] at g14; rw [e4] at g4; rw [e5] at g5; rw [e6] at g6; rw [e7] at g7; clear hc hi hgu hbu hfu e12 e13 e14 e4 e5 e6 e7))
  have H8 := hid hg8
  clear hg8 hf8
  go_loopw [15] (fun i wr => (i = .int .i64 0 ∨ i = .int .i64 1 ∨ i = .int .i64 2 ∨ i = .int .i64 3 ∨ i = .int .i64 4) ∧ ∃ nd, wr = w8.drewN nd) (fun i _ => 4 - (intOf i).toNat)
  case atStart => exact ⟨.inl rfl, 0, rfl⟩
  case round =>
    obtain ⟨hrel, nd, rfl⟩ := hrel
    rcases hrel with rfl | rfl | rfl | rfl | rfl
    · go_wp2_with fail
      go_quiet (fail)
      go_wp2_with fail
      go_roundw
      case rel => exact ⟨.inr (.inl rfl), _, rfl⟩
      case measure => simp [intOf]
    · go_wp2_with fail
      go_quiet (fail)
      go_wp2_with fail
      go_roundw
      case rel => exact ⟨.inr (.inr (.inl rfl)), _, rfl⟩
      case measure => simp [intOf]
    · go_wp2_with fail
      go_quiet (fail)
      go_wp2_with fail
      go_roundw
      case rel => exact ⟨.inr (.inr (.inr (.inl rfl))), _, rfl⟩
      case measure => simp [intOf]
    · go_wp2_with fail
      go_quiet (fail)
      go_wp2_with fail
      go_roundw
      case rel => exact ⟨.inr (.inr (.inr (.inr rfl))), _, rfl⟩
      case measure => simp [intOf]
    · go_wp2_with (go_at_call 19; go_must (refine (HL.out _ (below_drewN hb8 nd)).mono ?_); rintro e w9 ⟨rfl, hc9⟩; obtain ⟨hb9, h9⟩ := stepO (below_drewN hb8 nd) hb8.size H8.out hc9)
      go_ret
      exact ⟨rfl, hb9⟩

theorem lawIdent (n : Nat) (hn : n < 65536) (w : World) (L : Base w) :
    Calls Tryd.prog 8 #[.int .u16 (n : Nat)] w fun e w' => e = .returned (.bool true) ∧ Below w.heap.size w w' := by
  have hM : ∀ i, i < 4 → mths n i < 16 := fun i _ => mths_lt n i
  obtain ⟨x4, x12, x13, x14⟩ := ex_at (mths n) hM
  refine lawIdent_main n hn (der (mths n)) (mths n) (ex (mths n)) hM (der_lt (mths n) hM) rfl rfl rfl (num_mths n hn) ?_ (der_at (mths n) 15 (by omega) (by omega) 14 0 rfl rfl).symm (judge_even (mths n) hM) (der_lo _ 0 (by omega)) (der_lo _ 3 (by omega)) x12 x13 x14 (x4 0 (by omega)) (x4 1 (by omega)) (x4 2 (by omega)) (x4 3 (by omega)) ((chart_wl _).1 (chart_der _)) w L
  simp only [xorT, Nat.zero_xor]
  exact der_sum (mths n)
end Go.Proofs.YtphnibllfpkkkaaDoor
