/- Walks of the reference: whether stalks last. -/
import Derived.Test.YtmjnelkeiogdcaaKD
set_option linter.unusedSimpArgs false
set_option linter.unusedVariables false
namespace Go.Proofs.Ytmjnelkeiogdcaa
open Go Go.RowKit Go.Shelf
set_option maxRecDepth 100000

/-- 65 marks. -/
def brow (f : Nat → Bool) : Array Value := Array.ofFn (n := 65) fun i => .bool (f i)
theorem brow_get (f : Nat → Bool) (i : Nat) (h : i < 65) : (brow f)[i]? = some (.bool (f i)) := by simp [brow, h]
def updB (f : Nat → Bool) (j : Nat) : Nat → Bool := fun i => if i = j then true else f i
theorem brow_set (f : Nat → Bool) (j : Nat) : (brow f).setIfInBounds j (.bool true) = brow (updB f j) := by
  apply Array.ext
  · simp [brow]
  · intro i h1 h2
    rw [Array.getElem_setIfInBounds (by simpa [brow] using h1)]
    simp only [brow, Array.getElem_ofFn, updB]
    by_cases e : j = i
    · subst e; simp
    · rw [if_neg e, if_neg (Ne.symm e)]
theorem cell_brow {w : World} {g : Nat} {f : Nat → Bool} (hg : w.heap[g]? = some (.cells (brow f) 4 (0, 0))) (i : Nat) (hi : i < 65) : w.cell? ⟨g, i, none⟩ = some (.bool (f i)) := by
  rw [cell_of_row _ _ i _ _ (0, 0) hg, brow_get _ _ hi]
theorem set_brow {w : World} {g : Nat} {f : Nat → Bool} (hg : w.heap[g]? = some (.cells (brow f) 4 (0, 0))) (j : Nat) : (w.setCell ⟨g, j, none⟩ (.bool true)).heap[g]? = some (.cells (brow (updB f j)) 4 (0, 0)) := by
  rw [heap_setCell_same w g j _ _ _ hg, brow_set]
theorem mk_bools (W : World) : (Instr.makeSlice 94 (.int .i64 65) (.int .i64 65)).run Try.prog W = .ok (.slice (some ⟨W.heap.size, 0, none⟩) 65 65) (W.alloc (.cells (brow fun _ => false) 4)) := by
  obtain ⟨i, hi⟩ := Option.isSome_iff_exists.1 (show (Try.prog.info? 4).isSome = true by kernel_rfl)
  have h1 : (Try.prog.info? 4).map (·.size) = some 1 := by kernel_rfl
  have h2 : (Try.prog.info? 4).map (·.bytes) = some 1 := by kernel_rfl
  have h3 : (Try.prog.info? 4).bind (·.zero) = some (.bool false) := by kernel_rfl
  rw [hi] at h1 h2 h3
  simp only [Option.map_some, Option.some.injEq, Option.bind_some] at h1 h2 h3
  have h := run_makeSlice (P := Try.prog) W 94 4 i (.bool false) Try.underlying94 hi h3 .i64 .i64 65 65 (by omega) (Int.le_refl _) (by rw [h1]; omega) (by rw [h2]; omega) (by omega)
  rw [h, h1]
  have e : madeCells (Value.bool false).cells (Int.toNat 65 * 1) = brow fun _ => false := by
    refine Array.ext (by simp [madeCells, brow]) fun j h1 h2 => ?_
    have h2' : j < 65 := by simpa [brow] using h2
    have e : (madeCells (Value.bool false).cells (Int.toNat 65 * 1))[j]? = (brow fun _ => false)[j]? := by
      rw [brow_get _ _ h2']
      simp only [madeCells, show (Value.bool false).cells = #[.bool false] from rfl]
      simp [Nat.mod_one, h2']
    rw [Array.getElem?_eq_getElem h1, Array.getElem?_eq_getElem h2] at e
    exact Option.some.inj e
  rw [e]
  rfl
theorem below_set {B : Nat} {w : World} {g i : Nat} {v : Value} (hB : B ≤ g) : Below B w (w.setCell ⟨g, i, none⟩ v) := ⟨rfl, rfl, rfl, by simp, fun k hk => heap_setCell_other w ⟨g, i, none⟩ k v (by show k ≠ g; omega)⟩

/-- The numbers of stalks that can be there, change by change. -/
def canN (g s : Nat) : Nat → Nat → Prop
  | 0, m => m = s
  | k + 1, m => ∃ n c, canN g s k n ∧ c + 2 < n ∧ leftN g n (c + 1) = m
theorem canN_le (g s : Nat) (hs : s ≤ 64) : ∀ k m, canN g s k m → m ≤ 64
  | 0, m, h => by have h' : m = s := h; omega
  | k + 1, m, ⟨n, c, h1, h2, h3⟩ => by have := canN_le g s hs k n h1; have := leftN_le g n (c + 1); omega
set_option maxHeartbeats 8000000 in
theorem rlasts_c (s g ch : Nat) (hg : 2 ≤ g ∧ g ≤ 8) (hs : s ≤ 64) (hch : ch ≤ 5) (bb : Bool) (hbb : bb = true ↔ ∀ j, j < ch → ∀ n, canN g s j n → 3 ≤ n) (w : World) :
    Calls Try.prog 39 #[.int .i64 ((s : Nat) : Int), .int .i64 ((g : Nat) : Int), .int .i64 ((ch : Nat) : Int)] w fun e w' => e = .returned (.bool bb) ∧ Below w.heap.size w w' := by
  have HBB := hid hbb
  clear hbb
  have hmk := mk_bools
  obtain ⟨q, hq⟩ : ∃ q, w.heap.size = q := ⟨_, rfl⟩
  have hx : (w.alloc (.cells (brow fun _ => false) 4)).heap[w.heap.size]? = some (.cells (brow fun _ => false) 4 (0, 0)) := heap_alloc_new w _
  have hb : Below q w (w.alloc (.cells (brow fun _ => false) 4)) := hq ▸ (Below.refl _ _).alloc (Nat.le_refl _) _
  rw [hq] at hx
  rw [hq]
  have c0 := cell_brow hx s (by omega)
  have f0 := frozen_of_row _ _ s _ _ hx
  have hsI : ((s : Nat) : Int) < 65 := by omega
  have hs0 : (0 : Int) ≤ ((s : Nat) : Int) := by omega
  have hx2 : (w.alloc (.cells ((brow fun _ => false).setIfInBounds s (.bool true)) 4)).heap[w.heap.size]? = some (.cells ((brow fun _ => false).setIfInBounds s (.bool true)) 4 (0, 0)) := heap_alloc_new w _
  rw [hq, brow_set] at hx2
  have HX := hid hx2
  have HB := hid (show Below q w (w.alloc (.cells ((brow fun _ => false).setIfInBounds s (.bool true)) 4)) from hq ▸ (Below.refl _ _).alloc (Nat.le_refl _) _)
  rw [brow_set] at HB
  clear hx hx2 hb
  go_enter Try.func39, Try.ntmps39
  go_wp2_with fail
  rw [brow_set]
  obtain ⟨w1, hw1⟩ : ∃ w1, w.alloc (.cells (brow (updB (fun _ => false) s)) 4) = w1 := ⟨_, rfl⟩
  rw [hw1] at HX HB ⊢
  clear hw1 c0 f0 hsI hs0
  go_loopw [2, 7] (fun cv dv wr => ∃ (k q' : Nat) (f : Nat → Bool), k ≤ ch ∧ cv = .int .i64 ((ch - k : Nat) : Int) ∧ dv = .slice (some ⟨q', 0, none⟩) 65 65 ∧ q ≤ q' ∧ wr.heap[q']? = some (.cells (brow f) 4 (0, 0)) ∧ (∀ m, f m = true ↔ canN g s k m) ∧ (∀ j, j < k → ∀ n, canN g s j n → 3 ≤ n) ∧ Below q w wr) (fun cv _ _ => (intOf cv).toNat)
  case atStart =>
    refine ⟨0, q, _, by omega, rfl, rfl, Nat.le_refl _, HX.out, fun m => ?_, fun j hj => by omega, HB.out⟩
    show updB (fun _ => false) s m = true ↔ m = s
    unfold updB
    by_cases e : m = s <;> simp [e]
  case round =>
    obtain ⟨k, q', f, hk, rfl, rfl, hq', hx, hf, hok, hb⟩ := hrel
    have HXF := hid (show ∀ m, f m = true ↔ canN g s k m from hf)
    have HOK := hid (show ∀ j, j < k → ∀ n, canN g s j n → 3 ≤ n from hok)
    have HB2 := hid hb
    rcases Nat.lt_or_ge k ch with hlt | hge
    · have hp : decide ((0 : Int) < ((ch - k : Nat) : Int)) = true := decide_eq_true (by omega)
      have hp' : (0 : Int) < ((ch - k : Nat) : Int) := by omega
      obtain ⟨d, hd⟩ : ∃ d, ch - k = d := ⟨_, rfl⟩
      rw [hd] at hp hp' ⊢
      have hdw : IntKind.i64.wrap (((d : Nat) : Int) - 1) = ((d - 1 : Nat) : Int) := (IntWalk.i64_in _ (by omega)).trans (by omega)
      have hy0 : (wr.alloc (.cells (brow fun _ => false) 4)).heap[wr.heap.size]? = some (.cells (brow fun _ => false) 4 (0, 0)) := heap_alloc_new wr _
      have hbN : Below wr.heap.size wr (wr.alloc (.cells (brow fun _ => false) 4)) := (Below.refl _ _).alloc (Nat.le_refl _) _
      have hqr : q' < wr.heap.size := heap_lt hx
      have HX2 := hid (heap_below hbN hx hqr)
      have HB3 := hid (hb.trans (hbN.mono (by omega)))
      obtain ⟨r, hr⟩ : ∃ r, wr.heap.size = r := ⟨_, rfl⟩
      rw [hr] at hy0 hqr
      have HY := hid hy0
      clear hy0 hbN hx hf hok hb
      go_wp2_with fail
      obtain ⟨w2, hw2⟩ : ∃ w2, wr.alloc (.cells (brow fun _ => false) 4) = w2 := ⟨_, rfl⟩
      rw [hw2] at HX2 HB3 HY ⊢
      clear hw2
      go_loopw [9] (fun ix wx => ∃ (j : Nat) (f2 : Nat → Bool), j ≤ 65 ∧ ix = .int .i64 ((j : Nat) : Int) ∧ wx.heap[q']? = some (.cells (brow f) 4 (0, 0)) ∧ wx.heap[r]? = some (.cells (brow f2) 4 (0, 0)) ∧ (∀ m, f2 m = true ↔ ∃ n c, n < j ∧ canN g s k n ∧ c + 2 < n ∧ leftN g n (c + 1) = m) ∧ (∀ n, n < j → canN g s k n → 3 ≤ n) ∧ Below q w wx) (fun ix _ => 65 - (intOf ix).toNat)
      case atStart =>
        refine ⟨0, _, by omega, rfl, HX2.out, HY.out, fun m => ?_, fun n hn => by omega, HB3.out⟩
        constructor
        · intro h; cases h
        · rintro ⟨n, c, hn, _⟩; omega
      case round =>
        clear HX2 HB3 HY HB2
        obtain ⟨j, f2, hj, rfl, hx, hy, hf2, hok2, hb⟩ := hrel
        have HF2 := hid (show ∀ m, f2 m = true ↔ ∃ n c, n < j ∧ canN g s k n ∧ c + 2 < n ∧ leftN g n (c + 1) = m from hf2)
        have HO2 := hid (show ∀ n, n < j → canN g s k n → 3 ≤ n from hok2)
        have HB2 := hid hb
        have HX2 := hid hx
        have HY2 := hid hy
        rcases Nat.lt_or_ge 64 j with hjj | hjj
        · obtain rfl : j = 65 := by omega
          clear hx hy hf2 hok2 hb
          go_wp2_with fail
          go_roundw
          case rel =>
            refine ⟨k + 1, r, f2, by omega, by rw [show ch - (k + 1) = d - 1 by omega], rfl, by omega, HY2.out, fun m => ?_, fun j' hj' n hn => ?_, HB2.out⟩
            · rw [HF2.out]
              constructor
              · rintro ⟨n, c, _, h1, h2, h3⟩; exact ⟨n, c, h1, h2, h3⟩
              · rintro ⟨n, c, h1, h2, h3⟩; exact ⟨n, c, by have := canN_le g s hs k n h1; omega, h1, h2, h3⟩
            · rcases Nat.lt_or_ge j' k with h | h
              · exact HOK.out j' h n hn
              · obtain rfl : j' = k := by omega
                exact HO2.out n (by have := canN_le g s hs j' n hn; omega) hn
          case measure => simp only [intOf, Int.toNat_natCast]; omega
        · have hjn : decide (((j : Nat) : Int) ≤ 64) = true := decide_eq_true (by omega)
          have hjn' : ((j : Nat) : Int) ≤ 64 := by omega
          have hj65 : ((j : Nat) : Int) < 65 := by omega
          have hj0 : (0 : Int) ≤ ((j : Nat) : Int) := by omega
          have c1 := cell_brow hx j (by omega)
          have hjw : IntKind.i64.wrap (((j : Nat) : Int) + 1) = ((j + 1 : Nat) : Int) := (IntWalk.i64_in _ (by omega)).trans (by omega)
          have hfj := HXF.out j
          obtain ⟨bj, hbj⟩ : ∃ bj, f j = bj := ⟨_, rfl⟩
          rw [hbj] at c1 hfj
          have HFJ := hid hfj
          clear hx hy hf2 hok2 hb hbj hfj
          cases bj with
          | false =>
            go_wp2_with fail
            go_loopw [10] (fun ix wz => ix = .int .i64 0 ∧ wz = wr) (fun _ _ => 0)
            case atStart => exact ⟨rfl, rfl⟩
            case round =>
              obtain ⟨rfl, rfl⟩ := hrel
              go_wp2_with fail
              go_roundw
              case rel =>
                have hno : ¬ canN g s k j := fun h => by have := HFJ.out.2 h; cases this
                refine ⟨j + 1, f2, by omega, rfl, HX2.out, HY2.out, fun m => ?_, fun n hn h => ?_, HB2.out⟩
                · rw [HF2.out]
                  constructor
                  · rintro ⟨n, c, h0, h1, h2, h3⟩; exact ⟨n, c, by omega, h1, h2, h3⟩
                  · rintro ⟨n, c, h0, h1, h2, h3⟩; exact ⟨n, c, by have : n ≠ j := fun e => hno (e ▸ h1); omega, h1, h2, h3⟩
                · exact HO2.out n (by have : n ≠ j := fun e => hno (e ▸ h); omega) h
              case measure => simp only [intOf, Int.toNat_natCast]; omega
          | true =>
            have hcan : canN g s k j := HFJ.out.1 rfl
            rcases Nat.lt_or_ge j 3 with hj3 | hj3
            · have h3 : decide (((j : Nat) : Int) < 3) = true := decide_eq_true (by omega)
              have h3' : ((j : Nat) : Int) < 3 := by omega
              have HCN := hid hcan
              clear hcan
              go_wp2_with fail
              go_ret
              have hbf : bb = false := by cases bb with | false => rfl | true => (have := HBB.out.1 rfl k hlt j HCN.out; omega)
              exact ⟨by rw [hbf]; rfl, HB2.out⟩
            · have h3 : decide (((j : Nat) : Int) < 3) = false := decide_eq_false (by omega)
              have h3' : ¬ ((j : Nat) : Int) < 3 := by omega
              have HCN := hid hcan
              have hjm : IntKind.i64.wrap (((j : Nat) : Int) - 2) = ((j - 2 : Nat) : Int) := (IntWalk.i64_in _ (by omega)).trans (by omega)
              clear hcan
              go_wp2_with fail
              go_loopw [10] (fun ix wz => ∃ (c : Nat) (f3 : Nat → Bool), c + 2 ≤ j ∧ ix = .int .i64 ((c : Nat) : Int) ∧ wz.heap[q']? = some (.cells (brow f) 4 (0, 0)) ∧ wz.heap[r]? = some (.cells (brow f3) 4 (0, 0)) ∧ (∀ m, f3 m = true ↔ (f2 m = true ∨ ∃ c', c' < c ∧ leftN g j (c' + 1) = m)) ∧ Below q w wz) (fun ix _ => j - (intOf ix).toNat)
              case atStart => exact ⟨0, f2, by omega, rfl, HX2.out, HY2.out, fun m => ⟨fun h => .inl h, fun h => by rcases h with h | ⟨c', h, _⟩; exact h; omega⟩, HB2.out⟩
              case round =>
                clear HX2 HY2 HB2 c1
                obtain ⟨c, f3, hc2, rfl, hx, hy, hf3, hb⟩ := hrel
                have HF3 := hid (show ∀ m, f3 m = true ↔ (f2 m = true ∨ ∃ c', c' < c ∧ leftN g j (c' + 1) = m) from hf3)
                have c1 := cell_brow hx j (by omega)
                have hfj : f j = true := (HXF.out j).2 HCN.out
                rw [hfj] at c1
                have HB2 := hid hb
                have HX2 := hid hx
                have HY2 := hid hy
                rcases Nat.lt_or_ge (c + 2) j with hcj | hcj
                · have hci : decide (((c : Nat) : Int) < ((j - 2 : Nat) : Int)) = true := decide_eq_true (by omega)
                  have hci' : ((c : Nat) : Int) < ((j - 2 : Nat) : Int) := by omega
                  have hL := leftN_le g j (c + 1)
                  have HL := hid (fun W => rleft_c j g c ⟨hcj, by omega⟩ ⟨by omega, by omega⟩ W)
                  obtain ⟨L, hLL⟩ : ∃ L, leftN g j (c + 1) = L := ⟨_, rfl⟩
                  rw [hLL] at hL HL
                  have HLL := hid hLL
                  have c2 := cell_brow hy L (by omega)
                  have f2' := frozen_of_row _ _ L _ _ hy
                  have hL65 : ((L : Nat) : Int) < 65 := by omega
                  have hL0 : (0 : Int) ≤ ((L : Nat) : Int) := by omega
                  have hcw : IntKind.i64.wrap (((c : Nat) : Int) + 1) = ((c + 1 : Nat) : Int) := (IntWalk.i64_in _ (by omega)).trans (by omega)
                  obtain ⟨jm, hjm2⟩ : ∃ jm, j - 2 = jm := ⟨_, rfl⟩
                  rw [hjm2] at hjm hci hci'
                  clear hx hy hf3 hb hfj hLL hL
                  go_wp2_with (go_at_call 52; refine (HL.out _).mono ?_; rintro e wl ⟨rfl, rfl⟩)
                  go_roundw
                  case rel =>
                    refine ⟨c + 1, updB f3 L, by omega, rfl, ?_, set_brow HY2.out L, fun m => ?_, HB2.out.trans (below_set (by omega))⟩
                    · exact (heap_setCell_other _ ⟨r, L, none⟩ q' _ (by show q' ≠ r; omega)).trans HX2.out
                    · unfold updB
                      by_cases e : m = L
                      · rw [if_pos e]
                        exact ⟨fun _ => .inr ⟨c, by omega, by rw [HLL.out, e]⟩, fun _ => rfl⟩
                      · rw [if_neg e, HF3.out]
                        constructor
                        · rintro (h | ⟨c', h1, h2⟩)
                          · exact .inl h
                          · exact .inr ⟨c', by omega, h2⟩
                        · rintro (h | ⟨c', h1, h2⟩)
                          · exact .inl h
                          · exact .inr ⟨c', by have : c' ≠ c := fun e' => e (by rw [← h2, e', HLL.out]); omega, h2⟩
                  case measure => simp only [intOf, Int.toNat_natCast]; omega
                · obtain rfl : j = c + 2 := by omega
                  have hjm : IntKind.i64.wrap (((c + 2 : Nat) : Int) - 2) = ((c : Nat) : Int) := (IntWalk.i64_in _ (by omega)).trans (by omega)
                  have hci : decide (((c : Nat) : Int) < ((c : Nat) : Int)) = false := decide_eq_false (by omega)
                  clear hx hy hf3 hb hfj
                  go_wp2_with fail
                  go_roundw
                  case rel =>
                    refine ⟨c + 2 + 1, f3, by omega, by first | rfl | exact congrArg (Value.int .i64) (by omega), HX2.out, HY2.out, fun m => ?_, fun n hn h => ?_, HB2.out⟩
                    · rw [HF3.out, HF2.out]
                      constructor
                      · rintro (⟨n, c', h0, h1, h2, h3⟩ | ⟨c', h1, h2⟩)
                        · exact ⟨n, c', by omega, h1, h2, h3⟩
                        · exact ⟨c + 2, c', by omega, HCN.out, by omega, h2⟩
                      · rintro ⟨n, c', h0, h1, h2, h3⟩
                        by_cases e : n = c + 2
                        · subst e; exact .inr ⟨c', by omega, h3⟩
                        · exact .inl ⟨n, c', by omega, h1, h2, h3⟩
                    · by_cases e : n = c + 2
                      · omega
                      · exact HO2.out n (by omega) h
                  case measure => simp only [intOf, Int.toNat_natCast]; omega
    · obtain rfl : k = ch := by omega
      have hp : decide ((0 : Int) < ((k - k : Nat) : Int)) = false := decide_eq_false (by omega)
      rw [Nat.sub_self]
      clear hx hf hok hb
      go_wp2_with fail
      go_ret
      exact ⟨by rw [HBB.out.2 HOK.out]; rfl, HB2.out⟩
end Go.Proofs.Ytmjnelkeiogdcaa
