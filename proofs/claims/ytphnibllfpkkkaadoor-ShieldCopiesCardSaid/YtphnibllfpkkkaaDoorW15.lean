/- The iterator 'charts'. -/
import Derived.Test.YtphnibllfpkkkaaDoorW14
import Derived.Test.YtphnibllfpkkkaaDoorW5
import Derived.BigFrameIn
namespace Go.Proofs.YtphnibllfpkkkaaDoor
open Go Go.RowKit Go.Shelf
set_option maxRecDepth 100000

/-- A row of words. -/
def urow (n : Nat) (S : Nat → Nat) : Array Value := Array.ofFn (n := n) fun i => .int .u64 ((S i : Nat) : Int)
@[simp] theorem urow_size (n : Nat) (S : Nat → Nat) : (urow n S).size = n := by simp [urow]
theorem urow_get (n : Nat) (S : Nat → Nat) (i : Nat) (h : i < n) : (urow n S)[i]? = some (.int .u64 ((S i : Nat) : Int)) := by simp [urow, h]
theorem urow_congr {n : Nat} {S T : Nat → Nat} (h : ∀ i, i < n → S i = T i) : urow n S = urow n T := by
  apply Array.ext_getElem?
  intro i
  by_cases hi : i < n
  · rw [urow_get _ _ _ hi, urow_get _ _ _ hi, h i hi]
  · rw [Array.getElem?_eq_none (by simp; omega), Array.getElem?_eq_none (by simp; omega)]
theorem urow_set (n : Nat) (S : Nat → Nat) (j v : Nat) : (urow n S).setIfInBounds j (.int .u64 ((v : Nat) : Int)) = urow n (upN S j v) := by
  apply Array.ext_getElem?
  intro i
  rw [Array.getElem?_setIfInBounds]
  by_cases e : j = i
  · subst e
    by_cases hi : j < n
    · rw [if_pos rfl, if_pos (by simpa using hi), urow_get _ _ _ hi]; simp [upN]
    · rw [if_pos rfl, if_neg (by simpa using hi), Array.getElem?_eq_none (by simp; omega)]
  · rw [if_neg e]
    by_cases hi : i < n
    · rw [urow_get _ _ _ hi, urow_get _ _ _ hi]; simp [upN, Ne.symm e]
    · rw [Array.getElem?_eq_none (by simp; omega), Array.getElem?_eq_none (by simp; omega)]
theorem cell_urow {w : World} {g n : Nat} {S : Nat → Nat} {t : TypeId} (hg : w.heap[g]? = some (.cells (urow n S) t (0, 0))) (i : Nat) (hi : i < n) : w.cell? ⟨g, i, none⟩ = some (.int .u64 ((S i : Nat) : Int)) := by
  rw [cell_of_row _ _ i _ _ (0, 0) hg, urow_get _ _ _ hi]
theorem set_urow {w : World} {g n : Nat} {S : Nat → Nat} {t : TypeId} (hg : w.heap[g]? = some (.cells (urow n S) t (0, 0))) (j v : Nat) : (w.setCell ⟨g, j, none⟩ (.int .u64 ((v : Nat) : Int))).heap[g]? = some (.cells (urow n (upN S j v)) t (0, 0)) := by
  rw [heap_setCell_same w g j _ t _ hg, urow_set]
theorem uzeros16 : (#[.int .u64 0, .int .u64 0, .int .u64 0, .int .u64 0, .int .u64 0, .int .u64 0, .int .u64 0, .int .u64 0, .int .u64 0, .int .u64 0, .int .u64 0, .int .u64 0, .int .u64 0, .int .u64 0, .int .u64 0, .int .u64 0] : Array Value) = urow 16 (fun _ => 0) := rfl
/-- The changes, the first k of them laid. -/
def chTo (k : Nat) : Nat → Nat := fun j => if j < k then word (2 ^ j) else 0
theorem ch_step (k : Nat) : urow 16 (upN (chTo k) k (word (2 ^ k))) = urow 16 (chTo (k + 1)) := urow_congr fun j _ => by
  simp only [upN, chTo]
  by_cases e : j = k
  · subst e; rw [if_pos rfl, if_pos (by omega)]
  · rw [if_neg e]
    by_cases h : j < k
    · rw [if_pos h, if_pos (by omega)]
    · rw [if_neg h, if_neg (by omega)]
/-- The word ahead of a place of Gray's order. -/
def wd : Nat → Nat
  | 0 => 0
  | k + 1 => word (gr k)
/-- What the body of a range over the charts keeps: all cells but those of the blocks from lo to n₀. -/
structure KeepO (lo n₀ : Nat) (W W' : World) : Prop where
  os : W'.os = W.os
  tape : W'.tape = W.tape
  output : W'.output = W.output
  size : W.heap.size ≤ W'.heap.size
  block : ∀ b o, W.heap[b]? = some o → o.isCells = true → ¬ (lo ≤ b ∧ b < n₀) → W'.heap[b]? = some o
theorem KeepO.trans {lo n₀ : Nat} {A B C : World} (h : KeepO lo n₀ A B) (k : KeepO lo n₀ B C) : KeepO lo n₀ A C :=
  ⟨k.os.trans h.os, k.tape.trans h.tape, k.output.trans h.output, Nat.le_trans h.size k.size, fun b o ho hc hb => k.block b o (h.block b o ho hc hb) hc hb⟩
theorem keepO_b {lo n₀ : Nat} {w : World} (W : World) (l : Nat) (o o' : Obj) (_ : w.heap.size ≤ l) (h : W.heap[l]? = some o) (hc : o.isCells = false) (_ : o.isWalk = false) : KeepO lo n₀ W (W.putObj l o') :=
  ⟨rfl, rfl, rfl, by simp, fun b x hb hx _ => by
    have hne : b ≠ l := by
      rintro rfl
      rw [h] at hb
      cases hb
      rw [hc] at hx; cases hx
    rw [World.putObj_heap_other hne]; exact hb⟩
theorem cells_isCells (cs : Array Value) (t : TypeId) : (Obj.cells cs t (0, 0)).isCells = true := rfl
theorem cell_keep {lo n₀ : Nat} {W W' : World} (h : KeepO lo n₀ W W') {b i : Nat} {v : Value} (hc : W.cell? ⟨b, i, none⟩ = some v) (hb : ¬ (lo ≤ b ∧ b < n₀)) : W'.cell? ⟨b, i, none⟩ = some v := by
  cases ho : W.heap[b]? with
  | none => simp [World.cell?, ho] at hc
  | some o =>
    have hcell : o.isCells = true := by
      cases o <;> simp [World.cell?, ho] at hc <;> rfl
    have := h.block b o ho hcell hb
    rw [← hc]
    simp only [World.cell?, this, ho]
theorem Laid.keep {lo n₀ : Nat} {W W' : World} (h : Laid W) (k : KeepO lo n₀ W W') (h1 : 0 < lo ∧ 1 < lo) : Laid W' :=
  ⟨⟨Nat.lt_of_lt_of_le h.size.1 k.size, Nat.lt_of_lt_of_le h.size.2 k.size⟩, fun i hi => cell_keep k (h.par i hi) (by omega), fun i hi => cell_keep k (h.nam i hi) (by omega)⟩
theorem LaidB.keep {lo n₀ : Nat} {W W' : World} (h : LaidB W) (k : KeepO lo n₀ W W') (h1 : 3 < lo) : LaidB W' :=
  ⟨Nat.lt_of_lt_of_le h.size k.size, fun i hi => cell_keep k (h.tab i hi) (by omega)⟩
/-- All places of Gray's order. -/
def gAll : List Nat := List.range 65536
theorem range_snoc (k : Nat) : List.range (k + 1) = List.range k ++ [k] := List.range_succ

attribute [local go_sem] Oper.semAt_some
set_option maxHeartbeats 2000000 in
theorem charts1_in (n : Nat) (hn : 1 ≤ n) (l lo n₀ : Nat) (hlo : (0 < lo ∧ 1 < lo) ∧ 3 < lo) (J Jx : List Nat → World → Prop)
    (hY : ∀ pre x W, J pre W → pre.length < 65536 → YieldAt Fence.wide (n - 1) Tryd.prog l #[.int .i64 ((gr x : Nat) : Int), .int .u64 ((word (gr x) : Nat) : Int)] W fun e W' =>
      (e = .returned (.bool true) ∧ J (pre ++ [x]) W' ∧ KeepO lo n₀ W W') ∨ (e = .returned (.bool false) ∧ Jx (pre ++ [x]) W'))
    (hJ : ∀ pre W W', J pre W → Below W.heap.size W W' → J pre W')
    (W : World) (L : Laid W) (LB : LaidB W) (hW : n₀ ≤ W.heap.size) (h0 : J [] W) :
    CallsIn Fence.wide n Tryd.prog 82 #[.func (.yield l) #[] #[]] W fun e W' => (∃ v, e = .returned v) ∧
      ((∃ ys, ys = gAll ∧ J ys W') ∨ (∃ pre, True ∧ Jx pre W')) := by
  have hb0 : Below W.heap.size W (W.alloc (.cells (urow 16 (fun _ => 0)) 130)) := (Below.refl _ _).alloc (Nat.le_refl _) _
  have hg0 := heap_alloc_new W (.cells (urow 16 (fun _ => 0)) 130)
  refine callsIn_of_wp Tryd.func82 rfl trivial ?_ rfl
  simp only [Tryd.ntmps82, List.size_toArray, List.length_cons, List.length_nil, Nat.reduceAdd, Nat.reduceSub, Array.replicate_succ, Array.replicate_zero, List.push_toArray, List.append_toArray, List.nil_append, List.cons_append]
  gi_wp2
  rw [uzeros16]
  have HJ0 := hid (fun W' (h : Below W.heap.size W W') => hJ [] W W' h0 h)
  have HL := hid (fun W' (h : Below W.heap.size W W') => L.below h)
  have HLB := hid (fun W' (h : Below W.heap.size W W') => LB.below h)
  clear h0 L LB
  generalize W.alloc (.cells (urow 16 (fun _ => 0)) 130) = w1 at hb0 hg0 ⊢
  have hB1 := heap_lt hg0
  generalize hWB : W.heap.size = B at *
  gi_loopw [6] (fun i wr => ∃ k : Nat, k ≤ 16 ∧ i = .int .i64 k ∧ wr.heap[B]? = some (.cells (urow 16 (chTo k)) 130 (0, 0)) ∧ Below B W wr) (fun i _ => 16 - (intOf i).toNat)
  case atStart => exact ⟨0, by omega, rfl, by rw [hg0, show urow 16 (fun _ => 0) = urow 16 (chTo 0) from urow_congr fun i _ => by simp [chTo]], hb0⟩
  case round =>
    clear hb0 hg0
    obtain ⟨k, hk, rfl, hg, hb⟩ := hrel
    by_cases hlt : k < 16
    · have hlt' : (k : Int) < 16 := by omega
      have hp16 : 2 ^ k ≤ 2 ^ 15 := Nat.pow_le_pow_right (by omega) (by omega)
      have hst := ch_step k
      obtain ⟨p, hp⟩ : ∃ p : Nat, 2 ^ k = p := ⟨_, rfl⟩
      have hp' : (2 : Int) ^ k = (p : Nat) := by rw [← hp]; push_cast; rfl
      rw [hp] at hst hp16
      have Hst := hid hst
      have HM := hid (fun W => mothers_c p (by omega) W)
      have HD := hid (fun W' (h : Below B W W') => derive_c (mths p) (fun i _ => mths_lt p i) W' (HL.out W' h))
      have HP := hid (fun W => pack_c (der (mths p)) (fun i hi => der_lt (mths p) (fun i _ => mths_lt p i) i hi) W)
      have hBw : B ≤ wr.heap.size := by rw [← hWB]; exact hb.size
      have Hg := hid hg
      have hgl := heap_lt hg
      clear hst hp hg
      gi_wp2_with (first
        | (gi_at_call 56; refine (callsIn_wide.2 (HM.out _)).mono ?_; rintro e w2 ⟨rfl, hc2⟩; have hb2 := hb.trans (hc2.mono hBw); have hg2 := heap_below hc2 Hg.out hgl)
        | (gi_at_call 51; refine (callsIn_wide.2 (HD.out _ hb2)).mono ?_; rintro e w3 ⟨rfl, hc3⟩; have hb3 := hb2.trans (hc3.mono (Nat.le_trans hBw hc2.size)); have hg3 := heap_below hc3 hg2 (heap_lt hg2))
        | (gi_at_call 72; refine (callsIn_wide.2 (HP.out _)).mono ?_; rintro e w4 ⟨rfl, hc4⟩; have hb4 := hb3.trans (hc4.mono (Nat.le_trans hBw (Nat.le_trans hc2.size hc3.size))); have hg4 := heap_below hc4 hg3 (heap_lt hg3); have hcu := cell_urow hg4 k hlt; have hfz := frozen_of_row _ _ k _ _ hg4; have Hg4 := hid hg4; clear hg2 hg3 hg4 hc2 hc3 hc4))
      go_roundw
      case rel => exact ⟨k + 1, by omega, by go_num, by rw [set_urow Hg4.out, ← Hst.out]; rfl, hb4.setCell (Nat.le_refl _) _⟩
      case measure => simp [intOf]; omega
    · have hge : ¬ (k : Int) < 16 := by omega
      obtain rfl : k = 16 := by omega
      have hBw : B ≤ wr.heap.size := by rw [← hWB]; exact hb.size
      have hgc : wr.heap[B]? = some (.cells (urow 16 (fun j => word (2 ^ j))) 130 (0, 0)) := by
        rw [hg, show urow 16 (chTo 16) = urow 16 (fun j => word (2 ^ j)) from urow_congr fun j hj => by simp only [chTo]; rw [if_pos hj]]
      have hJw := HJ0.out wr hb
      have hLw := HL.out wr hb
      have hLBw := HLB.out wr hb
      have hnw : n₀ ≤ B := hW
      clear hg HJ0 HL HLB
      gi_wp2
      clear hb
      obtain ⟨N, hN⟩ : ∃ N : Nat, 65536 = N := ⟨_, rfl⟩
      have HN := hid hN
      clear hN
      gi_loopw [4, 17] (fun x i wr => ∃ k : Nat, k ≤ N ∧ i = .int .i64 k ∧ x = .int .u64 ((wd k : Nat) : Int) ∧ wr.heap[B]? = some (.cells (urow 16 (fun j => word (2 ^ j))) 130 (0, 0)) ∧ J (List.range k) wr ∧ Laid wr ∧ LaidB wr ∧ B ≤ wr.heap.size) (fun _ i _ => N - (intOf i).toNat)
      case atStart => exact ⟨0, by omega, rfl, rfl, hgc, by simpa using hJw, hLw, hLBw, hBw⟩
      case round =>
        clear hgc hJw hLw hLBw hBw
        obtain ⟨k, hk, rfl, rfl, hg, hJp, hLw, hLBw, hBw⟩ := hrel
        by_cases hlt : k < N
        · have hlt' : (k : Int) < 65536 := by have := HN.out; omega
          obtain ⟨fn, tmps, assign, body, hy, hR⟩ := hY (List.range k) k wr hJp (by rw [HN.out]; simpa using hlt)
          have hgx : bits .xor .i64 ((k : Nat) : Int) (((k / 2 : Nat) : Nat) : Int) = ((gr k : Nat) : Int) := i64_xor k (k / 2) (by omega) (by omega)
          have hdiv : ((k : Nat) : Int) / 2 = ((k / 2 : Nat) : Int) := by omega
          generalize k / 2 = kh at hgx hdiv
          have Hg := hid hg
          have HL := hid hLw
          have HLB := hid hLBw
          by_cases h0 : k = 0
          · have hwg : word (gr k) = wd k := by subst h0; exact word_zero
            have hrs := hid (range_snoc k)
            have hwk := hid (show wd k = wd (k + 1) from hwg.symm)
            rw [hwg] at hy
            have hk0 : ¬ (0 : Int) < k := by omega
            have HRr := hid hR
            clear hg hLw hLBw hJp h0 hwg hR hY hJ
            have hNi : (65536 : Int) = ((N : Nat) : Int) := by have := HN.out; omega
            have hltN : ((k : Nat) : Int) < (N : Nat) := by omega
            clear hlt'
            gi_wp2_with fail
            refine HRr.out.mono ?_
            rintro e w3 hw3
            obtain ⟨b, rfl, hbt, hbf⟩ := stop_bool hw3
            clear HRr hw3 hy
            cases b with
            | true =>
              obtain ⟨hJ3, hk3⟩ := hbt rfl
              clear hbt hbf
              gi_wp2_with fail
              go_roundw
              case rel => exact ⟨k + 1, by omega, by go_num, by rw [hwk.out], hk3.block B _ Hg.out rfl (by omega), by rw [hrs.out]; exact hJ3, HL.out.keep hk3 hlo.1, HLB.out.keep hk3 hlo.2, Nat.le_trans hBw hk3.size⟩
              case measure => simp [intOf]; omega
            | false =>
              have hJ3 := hbf rfl
              clear hbt hbf
              gi_wp2_with fail
              refine bodyPost_ret (results_none rfl _ _ _) rfl ?_
              exact ⟨⟨_, rfl⟩, .inr ⟨_, trivial, hJ3⟩⟩
          · have hk1 : 0 < k := by omega
            obtain ⟨_, ht, _⟩ := (gray_at k (by have := HN.out; omega)).2.2.2.2 hk1
            have hwst := word_step k hk1 (by have := HN.out; omega)
            have hwk0 : wd k = word (gr (k - 1)) := by
              obtain ⟨q, rfl⟩ : ∃ q, k = q + 1 := ⟨k - 1, by omega⟩
              rfl
            have hx64 := u64_xor (wd k) (word (2 ^ tz k)) (by rw [hwk0]; exact word_lt _) (word_lt _)
            rw [hwk0, ← hwst, ← hwk0] at hx64
            have hrs := hid (range_snoc k)
            have hwk := hid (show word (gr k) = wd (k + 1) from rfl)
            have hk0 : (0 : Int) < k := by omega
            have HRr := hid hR
            have HT := hid (tz_c k hk1 (by have := HN.out; omega) wr hLBw)
            have hct : wr.cell? ⟨B, tz k, none⟩ = some (.int .u64 ((word (2 ^ tz k) : Nat) : Int)) := cell_urow hg (tz k) ht
            have ht' : ((tz k : Nat) : Int) < 16 := by omega
            have hNi : (65536 : Int) = ((N : Nat) : Int) := by have := HN.out; omega
            have hltN : ((k : Nat) : Int) < (N : Nat) := by omega
            generalize word (2 ^ tz k) = wt at *
            generalize tz k = t at *
            clear hg hLw hLBw hJp h0 hR hY hJ hlt' hwst hwk0 hk1
            gi_wp2_with (gi_at_call 83; refine (callsIn_wide.2 HT.out).mono ?_; rintro e w' ⟨rfl, rfl⟩)
            refine HRr.out.mono ?_
            rintro e w3 hw3
            obtain ⟨b, rfl, hbt, hbf⟩ := stop_bool hw3
            clear HRr hw3 hy
            cases b with
            | true =>
              obtain ⟨hJ3, hk3⟩ := hbt rfl
              clear hbt hbf
              gi_wp2_with fail
              go_roundw
              case rel => exact ⟨k + 1, by omega, by go_num, by rw [hwk.out], hk3.block B _ Hg.out rfl (by omega), by rw [hrs.out]; exact hJ3, HL.out.keep hk3 hlo.1, HLB.out.keep hk3 hlo.2, Nat.le_trans hBw hk3.size⟩
              case measure => simp [intOf]; omega
            | false =>
              have hJ3 := hbf rfl
              clear hbt hbf
              gi_wp2_with fail
              refine bodyPost_ret (results_none rfl _ _ _) rfl ?_
              exact ⟨⟨_, rfl⟩, .inr ⟨_, trivial, hJ3⟩⟩
        · have hge : ¬ (k : Int) < 65536 := by have := HN.out; omega
          have hk' : k = 65536 := by have := HN.out; omega
          have HJ := hid (show J gAll wr from by rw [hk'] at hJp; exact hJp)
          clear hk'
          clear hJp hk
          gi_wp2_with fail
          go_end0
          first | exact ⟨⟨_, rfl⟩, Or.inl HJ.out⟩ | exact ⟨⟨_, rfl⟩, Or.inl ⟨_, rfl, HJ.out⟩⟩
end Go.Proofs.YtphnibllfpkkkaaDoor
