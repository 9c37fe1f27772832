/- The law ShieldPath: the walk. -/
import Derived.Test.YtphnibllfpkkkaaDoorV3
import Derived.Test.YtphnibllfpkkkaaDoorV4
import Derived.Deep.DeepMust
namespace Go.Proofs.YtphnibllfpkkkaaDoor
open Go Go.RowKit
set_option maxRecDepth 100000
theorem bit_and0 (f l : Nat) (hf : f < 16) : (bits .and .i64 (((f : Nat) : Int) / 2 ^ l) 1 == 0) = !bitB f l := by
  have e1 : ((f : Nat) : Int) / 2 ^ l = ((f / 2 ^ l : Nat) : Int) := by push_cast; rfl
  have hlt : f / 2 ^ l < 16 := Nat.lt_of_le_of_lt (Nat.div_le_self _ _) hf
  rw [e1, i64_and1 _ (by omega)]
  unfold bitB
  have := Nat.mod_lt (f / 2 ^ l) (show 0 < 2 by omega)
  rw [Bool.eq_iff_iff]; simp; omega

set_option maxHeartbeats 600000 in
theorem lawPath_none (n b : Nat) (hn : n < 65536) (hb8 : b < 256) (l : Nat) (hl : l < 4) (hbl : ((b : Nat) : Int) % 4 = (l : Nat)) (h14 : bitB (der (mths n) 14) l = false) (w : World) (L : Base w) :
    Calls Tryd.prog 5 #[.int .u16 (n : Nat), .int .u8 (b : Nat)] w fun e w' => e = .returned (.bool true) ∧ Below w.heap.size w w' := by
  have HM := hid (fun W => Mothers_yes n hn W)
  have HD := hid (fun W (hb : Below w.heap.size w W) => Derive_yes (mths n) (fun i _ => mths_lt n i) W (L.below hb))
  have HW := hid (fun W (hb : Below w.heap.size w W) => Way_none (der (mths n)) (fun i hi => der_lt (mths n) (fun i _ => mths_lt n i) i hi) l hl (chart_der (mths n)) h14 W (L.below hb))
  have HL := hid (fun W (hb : Below w.heap.size w W) => known_b W (L.below hb))
  have hF14 := der_lt (mths n) (fun i _ => mths_lt n i) 14 (by omega)
  have hbit := bit_and0 _ l hF14
  rw [h14] at hbit
  generalize der (mths n) = F at *
  generalize mths n = M at *
  clear L
  go_enter Tryd.func5, Tryd.ntmps5
  go_wp2_with (first
    | (go_at_call 27; go_must (refine (HM.out _).mono ?_); rintro e w1 ⟨rfl, hb1⟩; have hz := heap_alloc_new w1 (.cells (irow 4 (fun _ => 0)) 37); have hbz : Below w.heap.size w (w1.alloc (.cells (irow 4 (fun _ => 0)) 37)) := hb1.alloc hb1.size _)
    | (rw [zeros4]; refine strow arrMothers _ _ rfl rfl _ _ rfl rfl _ _ hz ?_; have hbs := below_setRow hbz hb1.size (irow 4 (cst M)); have hgs := setRow_heap _ _ _ (irow 4 (cst M)) _ _ hz; clear hz hbz; generalize World.setRow _ _ _ = ws at hgs hbs ⊢)
    | (refine ldrow arrMothers _ rfl rfl _ rfl _ _ hgs ?_)
    | (go_at_call 23; go_must (refine (HD.out _ hbs).mono ?_); rintro e w2 ⟨rfl, hc⟩; have hb2 := hbs.trans (hc.mono hbs.size); have hz2 := heap_alloc_new w2 (.cells (irow 16 (fun _ => 0)) 24); have hbz2 := hb2.alloc hb2.size (.cells (irow 16 (fun _ => 0)) 24); clear hgs hbs hc)
    | (rw [zeros16]; refine strow arrShield _ _ rfl rfl _ _ rfl rfl _ _ hz2 ?_; have hbt := below_setRow hbz2 hb2.size (irow 16 (cst F)); have hgt := setRow_heap _ _ _ (irow 16 (cst F)) _ _ hz2; clear hz2 hbz2; generalize World.setRow _ _ _ = wt at hgt hbt ⊢)
    | (refine ldrow arrShield _ rfl rfl _ rfl _ _ hgt ?_)
    | (go_at_call 15; go_must (refine (HW.out _ hbt).mono ?_); rintro e w3 ⟨rfl, hc3⟩; obtain ⟨hb3, h3⟩ := stepO hbt hbt.size hgt hc3; have hc14 : w3.cell? ⟨w2.heap.size, 14, none⟩ = some (.int .i64 (F 14 : Nat)) := cell_irow h3 14 (by omega))
    | (go_at_call 19; go_must (refine (HL.out _ hb3).mono ?_); rintro e w4 ⟨rfl, hc4⟩; obtain ⟨hb4, h4⟩ := stepO hb3 hb3.size h3 hc4))
  go_ret
  exact ⟨rfl, hb4⟩

theorem Ints.at4 {w : World} {B : Nat} {v : Value} {xs : List Int} (h : Ints w B v xs) (hne : xs ≠ []) : ∃ g c, v = .slice (some ⟨g, 0, none⟩) xs.length c ∧ ∀ k (hk : k < xs.length), w.cell? ⟨g, k, none⟩ = some (.int .i64 xs[k]) := by
  rcases h.2 with ⟨h2, h3⟩ | ⟨g, cap, cur, h3, h4, h5, _, _, _, h7⟩
  · exact absurd (List.eq_nil_of_length_eq_zero h3) hne
  · refine ⟨g, cap, h3, fun k hk => ?_⟩
    rw [cell_of_row _ _ k _ _ (0, 0) h5]
    have : (cur.toList.take (xs.length * 1))[k]? = (xs.map (Value.int .i64))[k]? := by rw [h7]
    rw [List.getElem?_take, if_pos (by omega)] at this
    rw [← Array.getElem?_toList, this]
    simp [hk]

theorem bne_of {a b : Int} {v : Bool} (h : (a == b) = v) : (a != b) = !v := by rw [bne, h]

/- The main case: the way's four places are numbers. -/
set_option maxHeartbeats 4000000 in
theorem lawPath_at (n b : Nat) (hn : n < 65536) (hb8 : b < 256) (l : Nat) (hl : l < 4) (hbl : ((b : Nat) : Int) % 4 = (l : Nat)) (h14 : bitB (der (mths n) 14) l = true) (k1 k2 k3 o1 o2 o3 : Nat)
    (hw : wlist (der (mths n)) l 3 = [14, (k1 : Int), (k2 : Int), (k3 : Int)])
    (q1 : (k1 = 12 ∧ o1 = 13) ∨ (k1 = 13 ∧ o1 = 12)) (q2 : (k2 = 2 * (k1 - 8) ∧ o2 = k2 + 1) ∨ (k2 = 2 * (k1 - 8) + 1 ∧ o2 + 1 = k2)) (q3 : (k3 = 2 * (k2 - 8) ∧ o3 = k3 + 1) ∨ (k3 = 2 * (k2 - 8) + 1 ∧ o3 + 1 = k3))
    (b1 : bitB (der (mths n) k1) l = true) (b2 : bitB (der (mths n) k2) l = true) (b3 : bitB (der (mths n) k3) l = true) (c1 : bitB (der (mths n) o1) l = false) (c2 : bitB (der (mths n) o2) l = false) (c3 : bitB (der (mths n) o3) l = false) (w : World) (L : Base w) :
    Calls Tryd.prog 5 #[.int .u16 (n : Nat), .int .u8 (b : Nat)] w fun e w' => e = .returned (.bool true) ∧ Below w.heap.size w w' := by
  have HM := hid (fun W => Mothers_yes n hn W)
  have HD := hid (fun W (hb : Below w.heap.size w W) => Derive_yes (mths n) (fun i _ => mths_lt n i) W (L.below hb))
  have HW := hid (fun W (hb : Below w.heap.size w W) => Way_ok (der (mths n)) (fun i hi => der_lt (mths n) (fun i _ => mths_lt n i) i hi) l hl (chart_der (mths n)) h14 W (L.below hb))
  rw [hw] at HW
  have HL := hid (fun W (hb : Below w.heap.size w W) => known_b W (L.below hb))
  have hlt := der_lt (mths n) (fun i _ => mths_lt n i)
  have hbit := bit_and0 _ l (hlt 14 (by omega))
  rw [h14] at hbit
  have hk : k1 < 16 ∧ k2 < 16 ∧ k3 < 8 ∧ o1 < 16 ∧ o2 < 16 ∧ o3 < 16 := by omega
  have d1 := bne_of (bit_and _ l (hlt k1 (by omega)))
  have d2 := bne_of (bit_and _ l (hlt k2 (by omega)))
  have d3 := bne_of (bit_and _ l (hlt k3 (by omega)))
  have e1 := bne_of (bit_and0 _ l (hlt o1 (by omega)))
  have e2 := bne_of (bit_and0 _ l (hlt o2 (by omega)))
  have e3 := bne_of (bit_and0 _ l (hlt o3 (by omega)))
  rw [b1] at d1
  rw [b2] at d2
  rw [b3] at d3
  rw [c1] at e1
  rw [c2] at e2
  rw [c3] at e3
  clear hlt hw h14 b1 b2 b3 c1 c2 c3
  generalize der (mths n) = F at *
  generalize mths n = M at *
  clear L
  have Q := hid (And.intro q1 (And.intro q2 (And.intro q3 hk)))
  clear q1 q2 q3 hk
  go_enter Tryd.func5, Tryd.ntmps5
  go_wp2_with (first
    | (go_at_call 27; go_must (refine (HM.out _).mono ?_); rintro e w1 ⟨rfl, hb1⟩; have hz := heap_alloc_new w1 (.cells (irow 4 (fun _ => 0)) 37); have hbz : Below w.heap.size w (w1.alloc (.cells (irow 4 (fun _ => 0)) 37)) := hb1.alloc hb1.size _)
    | (rw [zeros4]; refine strow arrMothers _ _ rfl rfl _ _ rfl rfl _ _ hz ?_; have hbs := below_setRow hbz hb1.size (irow 4 (cst M)); have hgs := setRow_heap _ _ _ (irow 4 (cst M)) _ _ hz; clear hz hbz; generalize World.setRow _ _ _ = ws at hgs hbs ⊢)
    | (refine ldrow arrMothers _ rfl rfl _ rfl _ _ hgs ?_)
    | (go_at_call 23; go_must (refine (HD.out _ hbs).mono ?_); rintro e w2 ⟨rfl, hc⟩; have hb2 := hbs.trans (hc.mono hbs.size); have hz2 := heap_alloc_new w2 (.cells (irow 16 (fun _ => 0)) 24); have hbz2 := hb2.alloc hb2.size (.cells (irow 16 (fun _ => 0)) 24); clear hgs hbs hc)
    | (rw [zeros16]; refine strow arrShield _ _ rfl rfl _ _ rfl rfl _ _ hz2 ?_; have hbt := below_setRow hbz2 hb2.size (irow 16 (cst F)); have hgt := setRow_heap _ _ _ (irow 16 (cst F)) _ _ hz2; clear hz2 hbz2; generalize World.setRow _ _ _ = wt at hgt hbt ⊢)
    | (refine ldrow arrShield _ rfl rfl _ rfl _ _ hgt ?_)
    | (go_at_call 15; go_must (refine (HW.out _ hbt).mono ?_); rintro e w3 ⟨vw, rfl, hi3, hc3⟩; obtain ⟨hb3, h3⟩ := stepO hbt hbt.size hgt hc3; obtain ⟨g, c, rfl, hcs⟩ := hi3.at4 (by simp); have hc14 : w3.cell? ⟨w2.heap.size, 14, none⟩ = some (.int .i64 (F 14 : Nat)) := cell_irow h3 14 (by omega); have s0 : w3.cell? ⟨g, 0, none⟩ = some (.int .i64 14) := hcs 0 (by simp); have s1 : w3.cell? ⟨g, 1, none⟩ = some (.int .i64 (k1 : Nat)) := hcs 1 (by simp); have s2 : w3.cell? ⟨g, 2, none⟩ = some (.int .i64 (k2 : Nat)) := hcs 2 (by simp); have s3 : w3.cell? ⟨g, 3, none⟩ = some (.int .i64 (k3 : Nat)) := hcs 3 (by simp); clear hcs hi3))
  have K := hid (fun k hk => cell_irow h3 k hk)
  have H3 := hid h3
  clear h3 hc14 hbit hgt HM HD HW
  have D := hid (And.intro d1 (And.intro d2 (And.intro d3 (And.intro e1 (And.intro e2 e3)))))
  have C := hid (And.intro s0 (And.intro s1 (And.intro s2 s3)))
  clear d1 d2 d3 e1 e2 e3 s0 s1 s2 s3
  go_loop [11] (fun i => i = .int .i64 1 ∨ i = .int .i64 2 ∨ i = .int .i64 3 ∨ i = .int .i64 4) (fun i => 4 - (intOf i).toNat)
  case atStart => exact .inl rfl
  case round =>
    obtain ⟨q1, q2, q3, hk1, hk2, hk3, ho1, ho2, ho3⟩ := Q.out
    obtain ⟨s0, s1, s2, s3⟩ := C.out
    obtain ⟨d1, d2, d3, e1, e2, e3⟩ := D.out
    rcases hrel with rfl | rfl | rfl | rfl
    · have t1 : w3.cell? ⟨w2.heap.size, k1, none⟩ = some (.int .i64 (F k1 : Nat)) := K.out k1 hk1
      have t2 : w3.cell? ⟨w2.heap.size, o1, none⟩ = some (.int .i64 (F o1 : Nat)) := K.out o1 ho1
      clear Q C D K s2 s3 d2 d3 e2 e3 q2 q3 hk1 hk2 hk3 ho1 ho2 ho3
      rcases q1 with ⟨rfl, rfl⟩ | ⟨rfl, rfl⟩
      all_goals
        go_wp2_with fail
        go_round
        case rel => exact .inr (.inl rfl)
        case measure => decide
    · have t1 : w3.cell? ⟨w2.heap.size, k2, none⟩ = some (.int .i64 (F k2 : Nat)) := K.out k2 hk2
      have t2 : w3.cell? ⟨w2.heap.size, o2, none⟩ = some (.int .i64 (F o2 : Nat)) := K.out o2 ho2
      have qq : (k1 = 12 ∧ k2 = 8 ∧ o2 = 9) ∨ (k1 = 12 ∧ k2 = 9 ∧ o2 = 8) ∨ (k1 = 13 ∧ k2 = 10 ∧ o2 = 11) ∨ (k1 = 13 ∧ k2 = 11 ∧ o2 = 10) := by
        rcases q1 with ⟨h, _⟩ | ⟨h, _⟩ <;> rcases q2 with ⟨h1, h2⟩ | ⟨h1, h2⟩
        · exact .inl ⟨h, by omega, by omega⟩
        · exact .inr (.inl ⟨h, by omega, by omega⟩)
        · exact .inr (.inr (.inl ⟨h, by omega, by omega⟩))
        · exact .inr (.inr (.inr ⟨h, by omega, by omega⟩))
      clear Q C D K s0 s3 d1 d3 e1 e3 q1 q2 q3 hk1 hk2 hk3 ho1 ho2 ho3
      rcases qq with ⟨rfl, rfl, rfl⟩ | ⟨rfl, rfl, rfl⟩ | ⟨rfl, rfl, rfl⟩ | ⟨rfl, rfl, rfl⟩
      all_goals
        go_wp2_with fail
        go_round
        case rel => exact .inr (.inr (.inl rfl))
        case measure => decide
    · have t1 : w3.cell? ⟨w2.heap.size, k3, none⟩ = some (.int .i64 (F k3 : Nat)) := K.out k3 (by omega)
      have t2 : w3.cell? ⟨w2.heap.size, o3, none⟩ = some (.int .i64 (F o3 : Nat)) := K.out o3 ho3
      have qq : (k2 = 8 ∧ k3 = 0 ∧ o3 = 1) ∨ (k2 = 8 ∧ k3 = 1 ∧ o3 = 0) ∨ (k2 = 9 ∧ k3 = 2 ∧ o3 = 3) ∨ (k2 = 9 ∧ k3 = 3 ∧ o3 = 2) ∨ (k2 = 10 ∧ k3 = 4 ∧ o3 = 5) ∨ (k2 = 10 ∧ k3 = 5 ∧ o3 = 4) ∨ (k2 = 11 ∧ k3 = 6 ∧ o3 = 7) ∨ (k2 = 11 ∧ k3 = 7 ∧ o3 = 6) := by
        rcases q1 with ⟨h, _⟩ | ⟨h, _⟩ <;> rcases q2 with ⟨h1, h2⟩ | ⟨h1, h2⟩ <;> rcases q3 with ⟨h3, h4⟩ | ⟨h3, h4⟩
        · exact .inl ⟨by omega, by omega, by omega⟩
        · exact .inr (.inl ⟨by omega, by omega, by omega⟩)
        · exact .inr (.inr (.inl ⟨by omega, by omega, by omega⟩))
        · exact .inr (.inr (.inr (.inl ⟨by omega, by omega, by omega⟩)))
        · exact .inr (.inr (.inr (.inr (.inl ⟨by omega, by omega, by omega⟩))))
        · exact .inr (.inr (.inr (.inr (.inr (.inl ⟨by omega, by omega, by omega⟩)))))
        · exact .inr (.inr (.inr (.inr (.inr (.inr (.inl ⟨by omega, by omega, by omega⟩))))))
        · exact .inr (.inr (.inr (.inr (.inr (.inr (.inr (⟨by omega, by omega, by omega⟩)))))))
      clear Q C D K s0 s1 d1 d2 e1 e2 q1 q2 q3 hk1 hk2 hk3 ho1 ho2 ho3
      rcases qq with ⟨rfl, rfl, rfl⟩ | ⟨rfl, rfl, rfl⟩ | ⟨rfl, rfl, rfl⟩ | ⟨rfl, rfl, rfl⟩ | ⟨rfl, rfl, rfl⟩ | ⟨rfl, rfl, rfl⟩ | ⟨rfl, rfl, rfl⟩ | ⟨rfl, rfl, rfl⟩
      all_goals
        go_wp2_with fail
        go_round
        case rel => exact .inr (.inr (.inr rfl))
        case measure => decide
    · have hk3' : ((k3 : Nat) : Int) < 8 := by omega
      clear Q C D K s0 s1 s2 d1 d2 d3 e1 e2 e3 q1 q2 q3 hk1 hk2 hk3 ho1 ho2 ho3
      go_wp2_with (go_at_call 19; go_must (refine (HL.out _ hb3).mono ?_); rintro e w4 ⟨rfl, hc4⟩; obtain ⟨hb4, h4⟩ := stepO hb3 hb3.size H3.out hc4)
      go_ret
      exact ⟨rfl, hb4⟩

theorem lawPath (n b : Nat) (hn : n < 65536) (hb8 : b < 256) (w : World) (L : Base w) :
    Calls Tryd.prog 5 #[.int .u16 (n : Nat), .int .u8 (b : Nat)] w fun e w' => e = .returned (.bool true) ∧ Below w.heap.size w w' := by
  have hl : b % 4 < 4 := Nat.mod_lt _ (by omega)
  have hbl : ((b : Nat) : Int) % 4 = ((b % 4 : Nat) : Int) := by omega
  generalize b % 4 = l at hl hbl
  have hch := chart_der (mths n)
  cases h14 : bitB (der (mths n) 14) l with
  | false => exact lawPath_none n b hn hb8 l hl hbl h14 w L
  | true =>
    have p14 : pa 14 = 12 ∧ pb 14 = 13 := by decide
    have p12 : pa 12 = 8 ∧ pb 12 = 9 := by decide
    have p13 : pa 13 = 10 ∧ pb 13 = 11 := by decide
    have p8 : pa 8 = 0 ∧ pb 8 = 1 := by decide
    have p9 : pa 9 = 2 ∧ pb 9 = 3 := by decide
    have p10 : pa 10 = 4 ∧ pb 10 = 5 := by decide
    have p11 : pa 11 = 6 ∧ pb 11 = 7 := by decide
    have step : ∀ k, 8 ≤ k → k < 16 → bitB (der (mths n) k) l = true → ∃ x o, (if bitB (der (mths n) (pa k)) l then pa k else pb k) = x ∧ ((x = pa k ∧ o = pb k) ∨ (x = pb k ∧ o = pa k)) ∧ bitB (der (mths n) x) l = true ∧ bitB (der (mths n) o) l = false := fun k h8 h16 hk => by
      rcases way_step (der (mths n)) hch l k h8 h16 hk with ⟨e, u, v⟩ | ⟨e, u, v⟩
      · exact ⟨_, pb k, e, .inl ⟨rfl, rfl⟩, u, v⟩
      · exact ⟨_, pa k, e, .inr ⟨rfl, rfl⟩, v, u⟩
    obtain ⟨k1, o1, x1, y1, u1, v1⟩ := step 14 (by omega) (by omega) h14
    have hk1 : k1 = 12 ∨ k1 = 13 := by omega
    obtain ⟨k2, o2, x2, y2, u2, v2⟩ := step k1 (by omega) (by omega) u1
    have hk2 : k2 = 8 ∨ k2 = 9 ∨ k2 = 10 ∨ k2 = 11 := by rcases hk1 with rfl | rfl <;> omega
    obtain ⟨k3, o3, x3, y3, u3, v3⟩ := step k2 (by omega) (by omega) u2
    have w1 : wk (der (mths n)) l 1 = k1 := x1
    have w2 : wk (der (mths n)) l 2 = k2 := by rw [wk, w1]; exact x2
    have w3 : wk (der (mths n)) l 3 = k3 := by rw [wk, w2]; exact x3
    refine lawPath_at n b hn hb8 l hl hbl h14 k1 k2 k3 o1 o2 o3 ?_ ?_ ?_ ?_ u1 u2 u3 v1 v2 v3 w L
    · rw [wlist, wlist, wlist, wlist, w1, w2, w3]; rfl
    · omega
    · rcases hk1 with rfl | rfl <;> omega
    · rcases hk2 with rfl | rfl | rfl | rfl <;> omega
end Go.Proofs.YtphnibllfpkkkaaDoor
