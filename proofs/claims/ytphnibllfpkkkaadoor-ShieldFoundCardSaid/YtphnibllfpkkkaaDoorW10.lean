/- Way: the way. -/
import Derived.Test.YtphnibllfpkkkaaDoorW7
import Derived.Test.YtphnibllfpkkkaaDoorW6
import Derived.Test.YtphnibllfpkkkaaDoorR5
import Derived.Test.YtphnibllfpkkkaaDoorW4
import Derived.Deep.RegionHeld3
import Derived.Deep.DeepMust
namespace Go.Proofs.YtphnibllfpkkkaaDoor
open Go Go.RowKit
set_option maxRecDepth 100000

@[simp] theorem size_drewN (w : World) (n : Nat) : (w.drewN n).heap.size = w.heap.size := rfl
theorem one_cell (W : World) (g : Nat) (h : g = W.heap.size) (v : Value) (t : TypeId) : (W.alloc (.cells #[v] t)).cell? ⟨g, 0, none⟩ = some v := by subst h; simp
theorem own_ne {w : World} {B : Nat} {v : Value} {xs : List Int} (h : Ints w B v xs) {g : Nat} {cs : Array Value} {t : TypeId} (hg : w.heap[g]? = some (.cells cs t (0, 0))) (ht : t ≠ 3) : some g ≠ v.ownBlock := by
  rcases h.2 with ⟨rfl, _⟩ | ⟨g', cap, cur, rfl, _, hgb, _⟩
  · simp [Value.ownBlock]
  · intro e
    obtain rfl : g = g' := by simpa [Value.ownBlock] using e
    rw [hg] at hgb
    simp at hgb
    exact ht hgb.2
/-- What the loop of Way keeps across an append: all at once. -/
theorem way_keep {w wr W : World} {v : Value} {F : Nat → Nat} {l g at' : Nat} {xs : List Int} {a b : Int} (hi : Ints wr (w.heap.size + 2) v xs)
    (hg : wr.heap[w.heap.size]? = some (.cells (irow 16 (cst F)) 24 (0, 0))) (hl : wr.heap[w.heap.size + 1]? = some (.cells #[.int .i64 (l : Nat)] 3 (0, 0))) (hb : Below w.heap.size w wr)
    (hW : ∀ x : Nat, x < wr.heap.size → x ≠ g → W.heap[x]? = wr.heap[x]?) (hgB : w.heap.size + 2 ≤ g) (hWs : wr.heap.size ≤ W.heap.size) (hos : W.os = wr.os) (htp : W.tape = wr.tape) (hou : W.output = wr.output)
    (hgo : some g ≠ v.ownBlock) (hpair : W.heap[g]? = some (.cells #[.int .i64 a, .int .i64 b] 98 (0, 0))) :
    Ints (W.alloc (.cells #[.int .i64 (at' : Nat)] 3)) (w.heap.size + 2) v xs ∧ (∀ w', W.heap.size ≤ w'.heap.size → (W.alloc (.cells #[.int .i64 (at' : Nat)] 3)).grownBy w' v.ownBlock →
      w'.heap[w.heap.size]? = some (.cells (irow 16 (cst F)) 24 (0, 0)) ∧ w'.heap[w.heap.size + 1]? = some (.cells #[.int .i64 (l : Nat)] 3 (0, 0)) ∧ Below w.heap.size w w' ∧ w'.heap[g]? = some (.cells #[.int .i64 a, .int .i64 b] 98 (0, 0))) := by
  have hgl := heap_lt hg
  have hll := heap_lt hl
  have hgW := heap_lt hpair
  have hi2 : Ints W (w.heap.size + 2) v xs := by
    refine ⟨hi.1, ?_⟩
    rcases hi.2 with h2 | ⟨g', cap, cur, h3, h4, h5, h6⟩
    · exact .inl h2
    · exact .inr ⟨g', cap, cur, h3, h4, (hW g' (heap_lt h5) (fun e => hgo (by rw [h3, ← e]; rfl))).trans h5, h6⟩
  have hi3 : Ints (W.alloc (.cells #[.int .i64 (at' : Nat)] 3)) (w.heap.size + 2) v xs := hi2.below ((Below.refl _ _).alloc (Nat.le_refl _) _)
  refine ⟨hi3, fun w' _ hgr => ?_⟩
  have hb2 : Below w.heap.size w W := hb.trans ⟨hos, htp, hou, hWs, fun k hk => hW k (by omega) (by omega)⟩
  have p1 : (W.alloc (.cells #[.int .i64 (at' : Nat)] 3)).heap[w.heap.size]? = some (.cells (irow 16 (cst F)) 24 (0, 0)) := by rw [Below.heap_alloc _ _ _ (by omega), hW _ hgl (by omega)]; exact hg
  have p2 : (W.alloc (.cells #[.int .i64 (at' : Nat)] 3)).heap[w.heap.size + 1]? = some (.cells #[.int .i64 (l : Nat)] 3 (0, 0)) := by rw [Below.heap_alloc _ _ _ (by omega), hW _ hll (by omega)]; exact hl
  have p3 : (W.alloc (.cells #[.int .i64 (at' : Nat)] 3)).heap[g]? = some (.cells #[.int .i64 a, .int .i64 b] 98 (0, 0)) := by rw [Below.heap_alloc _ _ _ hgW]; exact hpair
  refine ⟨grown_heap hgr hi3 p1 (by omega), grown_heap hgr hi3 p2 (by omega), grown_below (hb2.alloc hb2.size _) hgr hi3 (by omega) (by simp; omega), ?_⟩
  exact (hgr.block g (by simp; omega) (own_ne hi3 p3 (by decide))).trans p3
theorem pa_dn (k : Nat) (h8 : 8 ≤ k) (h16 : k < 16) : pa k < k ∧ pb k < k := by
  have : k = 8 ∨ k = 9 ∨ k = 10 ∨ k = 11 ∨ k = 12 ∨ k = 13 ∨ k = 14 ∨ k = 15 := by omega
  rcases this with rfl | rfl | rfl | rfl | rfl | rfl | rfl | rfl <;> decide
theorem par_pa (k : Nat) : par (k * 2) = ((pa k : Nat) : Int) := by have := par_bd (k * 2); unfold pa; omega
theorem par_pb (k : Nat) : par (k * 2 + 1) = ((pb k : Nat) : Int) := by have := par_bd (k * 2 + 1); unfold pb; omega

set_option maxHeartbeats 2000000 in
theorem Way_ok (F : Nat → Nat) (hF : ∀ i, i < 16 → F i < 16) (l : Nat) (hl : l < 4) (hch : Chart F) (h14 : bitB (F 14) l = true) (w : World) (L : Laid w) :
    Calls Tryd.prog 15 #[.agg (irow 16 (cst F)), .int .i64 (l : Nat)] w fun e w' => ∃ v, e = .returned (.tuple #[v, .int .i64 0]) ∧ Ints w' w.heap.size v (wlist F l 3) ∧ Below w.heap.size w w' := by
  have h0 := heap_alloc2_old w (.cells (irow 16 (cst F)) 24) (.cells #[.int .i64 (l : Nat)] 3)
  have h1 := heap_alloc2_new w (.cells (irow 16 (cst F)) 24) (.cells #[.int .i64 (l : Nat)] 3)
  have hb : Below w.heap.size w ((w.alloc (.cells (irow 16 (cst F)) 24)).alloc (.cells #[.int .i64 (l : Nat)] 3)) := ((Below.refl _ _).alloc (Nat.le_refl _) _).alloc (by simp) _
  have hsz : ((w.alloc (.cells (irow 16 (cst F)) 24)).alloc (.cells #[.int .i64 (l : Nat)] 3)).heap.size = w.heap.size + 2 := by simp
  have HV := hid (validS_yes (cst F) (fun i hi => ⟨by simp, by have := hF i hi; simp; omega⟩) w.heap.size 16 _ _ h0)
  have hneq := neqShield (cst (der F)) (cst F) true (by
    simp only [cst]
    constructor
    · intro h
      intro i hi
      have := hch i hi
      omega
    · intro h
      trivial)
  have hD := derive_c F (fun i hi => hF i (by omega))
  rw [irow4] at hD
  have HD := hid hD
  have HL := hid (L.below hb)
  have HF := hid hF
  have HLw := hid L
  clear L hF hD
  generalize hw1 : ((w.alloc (.cells (irow 16 (cst F)) 24)).alloc (.cells #[.int .i64 (l : Nat)] 3)) = w1 at *
  have Hw := hid hw1
  have hcl : w1.cell? ⟨w.heap.size + 1, 0, none⟩ = some (.int .i64 (l : Nat)) := cell_of_row _ _ 0 _ _ (0, 0) h1
  have S2 := hid (fun w2 (hb2 : Below w1.drew.heap.size w1.drew w2) =>
    have h := heap_below (B := w1.heap.size) hb2 h0 (by omega)
    And.intro (cell_irow h 0 (by omega)) (And.intro (cell_irow h 1 (by omega)) (And.intro (cell_irow h 2 (by omega)) (And.intro (cell_irow h 3 (by omega)) (range_irow h)))))
  have S0 := hid (S2.out w1.drew (Below.refl _ _))
  have hu24 : Tryd.prog.underlying 24 = some (.array 16 22) := Tryd.underlying24
  have hi24 : (Tryd.prog.info? 24).map (·.size) = some (irow 16 (cst F)).toList.length := by rw [Array.length_toList, irow_size]; kernel_rfl
  have hlen : (irow 16 (cst F)).toList.length = 16 := by simp
  have hone := irow_one 16 (cst F)
  have a1 : decide (((l : Nat) : Int) < 0) = false := by simp
  have a2 : decide ((3 : Int) < (l : Nat)) = false := by simp; omega
  have Hsz := hid hsz
  have H0 := hid h0
  have H1 := hid h1
  have hch := hid hch
  clear hw1 hsz h0 h1
  have harr : ∀ w' : World, (Instr.arrayAt 37 (.slice (some ⟨w.heap.size, 0, none⟩) 4 16)).run Tryd.prog w' = .ok (.pointer (some ⟨w.heap.size, 0, none⟩)) w' := arr_at w.heap.size
  go_enter Tryd.func15, Tryd.ntmps15
  go_wp2_with (go_at_call 50; rw [Hw.out]; refine HV.out.mono ?_; rintro e w' ⟨rfl, rfl⟩)
  go_region_held3 (fun w' => w'.cell? ⟨w.heap.size, 0, none⟩ = some (.int .i64 (cst F 0)) ∧ w'.cell? ⟨w.heap.size, 1, none⟩ = some (.int .i64 (cst F 1)) ∧ w'.cell? ⟨w.heap.size, 2, none⟩ = some (.int .i64 (cst F 2)) ∧ w'.cell? ⟨w.heap.size, 3, none⟩ = some (.int .i64 (cst F 3)) ∧ w'.rangeAt w.heap.size 0 (irow 16 (cst F)).toList)
    (first | exact S0.out | exact S2.out _ ‹_›)
    (first | (go_at_call 51; refine (HD.out _ (HL.out.below (Below.refl _ _).drew)).mono ?_; rintro e w2 ⟨rfl, hb2⟩))
  have hb2' : Below w1.heap.size w1 w2 := ⟨hb2.os, hb2.tape, hb2.output, hb2.size, hb2.block⟩
  have hg2 := heap_below hb2' H0.out (by rw [Hsz.out]; omega)
  have hl2 := heap_below hb2' H1.out (by rw [Hsz.out]; omega)
  have HW := hid (way1_c F 14 (by omega) (HF.out 14 (by omega)) l hl w.heap.size (w.heap.size + 1) w2 hg2 (cell_of_row _ _ 0 _ _ (0, 0) hl2))
  rw [h14] at HW
  have hbw : Below w.heap.size w w2 := hb.trans (hb2'.mono hb.size)
  have hs2 : w.heap.size + 2 ≤ w2.heap.size := by rw [← Hsz.out]; exact hb2'.size
  clear hcl hneq
  go_wp2_with (go_at_call 49; refine HW.out.mono ?_; rintro e w' ⟨rfl, m, rfl⟩)
  have hs2' : w.heap.size + 2 ≤ (w2.drewN m).heap.size := hs2
  have hg3 : ((w2.drewN m).alloc (.cells #[.int .i64 14] 3)).heap[w.heap.size]? = some (.cells (irow 16 (cst F)) 24 (0, 0)) := (Below.heap_alloc _ _ _ (by omega)).trans hg2
  have hl3 : ((w2.drewN m).alloc (.cells #[.int .i64 14] 3)).heap[w.heap.size + 1]? = some (.cells #[.int .i64 (l : Nat)] 3 (0, 0)) := (Below.heap_alloc _ _ _ (by omega)).trans hl2
  have hi3 : Ints ((w2.drewN m).alloc (.cells #[.int .i64 14] 3)) (w.heap.size + 2) (.slice (some ⟨w2.heap.size, 0, none⟩) 1 1) (wlist F l 0) := Ints.one (w2.drewN m) _ hs2' 14
  have hb3 : Below w.heap.size w ((w2.drewN m).alloc (.cells #[.int .i64 14] 3)) := (below_drewN hbw m).alloc (by omega) _
  generalize hW3 : (w2.drewN m).alloc (.cells #[.int .i64 14] 3) = w3 at *
  clear hW3 hs2 hs2' hbw hg2 hl2 hb2' hb2
  go_loopw [7, 8] (fun v i wr => ∃ j : Nat, j ≤ 3 ∧ i = .int .i64 (wk F l j : Nat) ∧ Ints wr (w.heap.size + 2) v (wlist F l j) ∧ wr.heap[w.heap.size]? = some (.cells (irow 16 (cst F)) 24 (0, 0)) ∧ wr.heap[w.heap.size + 1]? = some (.cells #[.int .i64 (l : Nat)] 3 (0, 0)) ∧ Below w.heap.size w wr) (fun _ i _ => (intOf i).toNat)
  case atStart => exact ⟨0, by omega, rfl, hi3, hg3, hl3, hb3⟩
  case round =>
    clear hi3 hg3 hl3 hb3
    obtain ⟨j, hj, rfl, hi, hg, hl, hb3⟩ := hrel
    have hbd := wk_bd F l
    by_cases hlt : j < 3
    · have hk8 : 8 ≤ wk F l j ∧ wk F l j < 16 := by
        have : j = 0 ∨ j = 1 ∨ j = 2 := by omega
        rcases this with rfl | rfl | rfl
        · exact ⟨by rw [wk]; omega, by rw [wk]; omega⟩
        · omega
        · omega
      have hdn : pa (wk F l j) < wk F l j ∧ pb (wk F l j) < wk F l j := pa_dn _ hk8.1 hk8.2
      have hwk := hid (show wk F l (j + 1) = if bitB (F (pa (wk F l j))) l then pa (wk F l j) else pb (wk F l j) from rfl)
      have hwl := hid (show wlist F l (j + 1) = wlist F l j ++ [((wk F l (j + 1) : Nat) : Int)] from rfl)
      have hlen := wlist_len F l j
      clear hbd
      generalize wk F l j = k at *
      obtain ⟨hk8, hk16⟩ := hk8
      obtain ⟨hda, hdb⟩ := hdn
      have L := HLw.out.below hb3
      have hs0 := L.size.1
      have c1 := L.par (k * 2) (by omega)
      have c2 := L.par (k * 2 + 1) (by omega)
      rw [par_pa] at c1
      rw [par_pb] at c2
      clear L
      have hk8' : (8 : Int) ≤ (k : Nat) := by omega
      have hk16' : ((k : Nat) : Int) < 16 := by omega
      have HK := hid (fun W g at' a b => way_keep (W := W) (g := g) (at' := at') (a := a) (b := b) hi hg hl hb3)
      have hgl := heap_lt hg
      have hll := heap_lt hl
      have HG := hid hg
      have HLn := hid hl
      have Hi := hid hi
      clear hg hl hi
      have Hway := hid (fun q (hq : q < 16) => way1_c F q hq (HF.out q hq) l ‹l < 4› w.heap.size (w.heap.size + 1) (wr.alloc (.cells #[.int .i64 (pa k : Nat), .int .i64 (pb k : Nat)] 98)) ((Below.heap_alloc _ _ _ hgl).trans HG.out) (cell_of_row _ _ 0 _ _ (0, 0) ((Below.heap_alloc _ _ _ hll).trans HLn.out)))
      cases hbit : bitB (F (pa k)) l with
      | true =>
        have hw := Hway.out (pa k) (pa_lt k)
        rw [hbit] at hw
        have HWa := hid hw
        have Hb := hid hbit
        clear hw hbit
        go_wp2_with (first
          | (go_at_call 49; refine HWa.out.mono ?_; rintro e w' ⟨rfl, m2, rfl⟩)
          | (at_builtin; obtain ⟨hI, hK⟩ := HK.out ((wr.alloc (.cells #[.int .i64 (pa k : Nat), .int .i64 (pb k : Nat)] 98)).drewN m2) wr.heap.size (pa k) (pa k : Nat) (pb k : Nat) (fun x hx _ => Below.heap_alloc _ _ x hx) (by omega) (by simp) rfl rfl rfl (fun e => by have := (World.ownsRow.lt Hi.out _ e.symm).2; omega) (heap_alloc_new wr _); refine wp_append_int rfl _ _ rfl (w.heap.size + 2) _ _ rfl hI (pa k : Nat) _ 1 rfl (one_cell _ _ (by simp) _ _) (by omega) (by simp; omega) ?_; intro v' w4 ho4 hg4))
        obtain ⟨p1, p2, p3, p4⟩ := hK w4 (Nat.le_trans (by simp) hg4.size) hg4
        have hbit := Hb.out
        go_roundw
        case rel => exact ⟨j + 1, by omega, by rw [hwk.out, if_pos hbit], by rw [hwl.out, hwk.out, if_pos hbit]; exact ho4, p1, p2, p3⟩
        case measure => simp [intOf]; omega
      | false =>
        have hw := Hway.out (pa k) (pa_lt k)
        rw [hbit] at hw
        have HWa := hid hw
        have Hb := hid hbit
        clear hw hbit
        go_wp2_with (first
          | (go_at_call 49; refine HWa.out.mono ?_; rintro e w' ⟨rfl, m2, rfl⟩)
          | (at_builtin; obtain ⟨hI, hK⟩ := HK.out ((wr.alloc (.cells #[.int .i64 (pa k : Nat), .int .i64 (pb k : Nat)] 98)).drewN m2) wr.heap.size (pb k) (pa k : Nat) (pb k : Nat) (fun x hx _ => Below.heap_alloc _ _ x hx) (by omega) (by simp) rfl rfl rfl (fun e => by have := (World.ownsRow.lt Hi.out _ e.symm).2; omega) (heap_alloc_new wr _); refine wp_append_int rfl _ _ rfl (w.heap.size + 2) _ _ rfl hI (pb k : Nat) _ 1 rfl (one_cell _ _ (by simp) _ _) (by omega) (by simp; omega) ?_; intro v' w4 ho4 hg4))
        obtain ⟨p1, p2, p3, p4⟩ := hK w4 (Nat.le_trans (by simp) hg4.size) hg4
        have hbit := Hb.out
        go_roundw
        case rel => exact ⟨j + 1, by omega, by rw [hwk.out, if_neg (by rw [hbit]; decide)], by rw [hwl.out, hwk.out, if_neg (by rw [hbit]; decide)]; exact ho4, p1, p2, p3⟩
        case measure => simp [intOf]; omega
    · have hk7 : wk F l j ≤ 7 := by
        obtain rfl : j = 3 := by omega
        omega
      obtain rfl : j = 3 := by omega
      have hge : ¬ (8 : Int) ≤ (wk F l 3 : Nat) := by omega
      go_wp2_with fail
      go_ret2
      exact ⟨_, rfl, hi.mono (by omega), hb3⟩
end Go.Proofs.YtphnibllfpkkkaaDoor
/- The example chart; ref.Way. -/
namespace Go.Proofs.YtphnibllfpkkkaaDoor
open Go Go.RowKit
set_option maxRecDepth 100000

/-- The chart of the document's second example. -/
def loneF : Nat → Nat := fun i => [15, 0, 0, 0, 1, 1, 1, 1, 15, 0, 0, 0, 15, 0, 15, 0].getD i 0
theorem lone_lit : (#[.int .i64 15, .int .i64 0, .int .i64 0, .int .i64 0, .int .i64 1, .int .i64 1, .int .i64 1, .int .i64 1, .int .i64 15, .int .i64 0, .int .i64 0, .int .i64 0, .int .i64 15, .int .i64 0, .int .i64 15, .int .i64 0] : Array Value) = irow 16 (cst loneF) := rfl
theorem lone_lt : ∀ i, i < 16 → loneF i < 16 := fun i hi => by
  have : ∀ i : Fin 16, loneF i < 16 := by decide
  exact this ⟨i, hi⟩

set_option maxHeartbeats 400000 in
theorem lone_c (w : World) : Calls Tryd.prog 53 #[] w fun e w' => e = .returned (.agg (irow 16 (cst loneF))) ∧ Below w.heap.size w w' := by
  go_enter Tryd.func53, Tryd.ntmps53
  go_wp2_with fail
  rw [lone_lit]
  exact retrow arrShield Tryd.results53 w.heap.size _ _ rfl (heap_alloc_new w _) rfl ⟨rfl, (Below.refl _ _).alloc (Nat.le_refl _) _⟩
end Go.Proofs.YtphnibllfpkkkaaDoor
/- known: the examples. -/
namespace Go.Proofs.YtphnibllfpkkkaaDoor
open Go Go.RowKit
set_option maxRecDepth 100000

def viaM : Nat → Nat := fun i => if i = 0 then 15 else 0
theorem via_lit : (#[.int .i64 15, .int .i64 0, .int .i64 0, .int .i64 0] : Array Value) = irow 4 (cst viaM) := rfl
theorem der_via : irow 16 (cst (der viaM)) = irow 16 (cst loneF) := irow_congr fun i hi => by
  have : ∀ i : Fin 16, der viaM i = loneF i := by decide
  simp only [cst]; rw [this ⟨i, hi⟩]
theorem lone_chart : Chart loneF := fun i hi => by
  have : ∀ i : Fin 16, der loneF i = loneF i := by decide
  exact this ⟨i, hi⟩
theorem lone_bit : bitB (loneF 14) 0 = true := by decide
theorem lone_way : wlist loneF 0 3 = [14, 12, 8, 0] := by decide
/-- The chart with the judge changed. -/
def badF : Nat → Nat := fun i => if i = 14 then 11 else loneF i
theorem bad_lt : ∀ i, i < 16 → badF i < 16 := fun i hi => by
  have : ∀ i : Fin 16, badF i < 16 := by decide
  exact this ⟨i, hi⟩
theorem bad_wl : wl badF 16 = [14, 15] := by decide
theorem nam12 : nam 12 = ⟨#[102, 111, 114, 116, 117, 110, 97, 32, 109, 97, 106, 111, 114]⟩ := rfl

theorem same_true (va vb : Value) (xs : List Int) (w : World) (ha : Reads w va xs) (hb : Reads w vb xs) (hx : xs.length ≤ 9223372036854775807) :
    Calls Tryd.prog 20 #[va, vb] w fun e w' => e = .returned (.bool true) ∧ Below w.heap.size w w' :=
  (same_c va vb xs xs w ha hb hx hx).mono fun e w' ⟨he, hw⟩ => ⟨by rw [he]; simp, hw⟩
theorem reads4 (W : World) (a b c d : Int) : Reads (W.alloc (.cells #[.int .i64 a, .int .i64 b, .int .i64 c, .int .i64 d] 3)) (.slice (some ⟨W.heap.size, 0, none⟩) 4 4) [a, b, c, d] := by
  refine .inr ⟨W.heap.size, 0, 4, rfl, by simp, fun k hk => ?_⟩
  have hk4 : k < 4 := hk
  rw [Nat.zero_add, cell_of_row _ _ k _ _ (0, 0) (heap_alloc_new W _)]
  have : k = 0 ∨ k = 1 ∨ k = 2 ∨ k = 3 := by omega
  rcases this with rfl | rfl | rfl | rfl <;> rfl
theorem reads2 (W : World) (a b : Int) : Reads (W.alloc (.cells #[.int .i64 a, .int .i64 b] 3)) (.slice (some ⟨W.heap.size, 0, none⟩) 2 2) [a, b] := by
  refine .inr ⟨W.heap.size, 0, 2, rfl, by simp, fun k hk => ?_⟩
  have hk4 : k < 2 := hk
  rw [Nat.zero_add, cell_of_row _ _ k _ _ (0, 0) (heap_alloc_new W _)]
  have : k = 0 ∨ k = 1 := by omega
  rcases this with rfl | rfl <;> rfl

theorem bad_row {w : World} {g : Nat} {t : TypeId} (hg : w.heap[g]? = some (.cells (irow 16 (cst loneF)) t (0, 0))) : (w.setCell ⟨g, 14, none⟩ (.int .i64 11)).heap[g]? = some (.cells (irow 16 (cst badF)) t (0, 0)) := by
  rw [set_irow hg]
  refine congrArg some (congrArg (fun c => Obj.cells c t (0, 0)) (irow_congr fun i hi => ?_))
  by_cases h : i = 14
  · subst h; rfl
  · simp [upd, cst, badF, h]

set_option maxHeartbeats 1000000 in
theorem known_c (w : World) (L : Laid w) : Calls Tryd.prog 19 #[] w fun e w' => e = .returned (.bool true) ∧ Below w.heap.size w w' := by
  have HS := hid (fun W => sum_yes 15 4 (by omega) (by omega) W)
  have HD := hid (fun W (hb : Below w.heap.size w W) => Derive_yes viaM (fun i hi => by unfold viaM; split <;> omega) W (L.below hb))
  rw [der_via] at HD
  have HW := hid (fun W (hb : Below w.heap.size w W) => Way_ok loneF lone_lt 0 (by omega) lone_chart lone_bit W (L.below hb))
  rw [lone_way] at HW
  have HN := hid (fun W (hb : Below w.heap.size w W) => name_yes 12 (by omega) W (L.below hb))
  rw [nam12] at HN
  have HX := hid (fun W (hb : Below w.heap.size w W) => Wrong_yes badF bad_lt W (L.below hb))
  rw [bad_wl] at HX
  clear L
  go_enter Tryd.func19, Tryd.ntmps19
  go_wp2_with (first
    | (go_at_call 31; refine (HS.out _).mono ?_; rintro e w1 ⟨rfl, hb1⟩)
    | (go_at_call 23; refine (HD.out _ hb1).mono ?_; rintro e w2 ⟨rfl, hb2⟩; have hb3 := hb1.trans (hb2.mono hb1.size); have h2 := heap_alloc_new w2 (.cells (irow 16 (fun _ => 0)) 24); have hb4 := hb3.alloc hb3.size (.cells (irow 16 (fun _ => 0)) 24); clear hb1 hb2)
    | (rw [zeros16]; go_must (refine strow arrShield _ _ rfl rfl _ _ rfl rfl _ _ h2 ?_); go_must (have hb5 := below_setRow hb4 hb3.size (irow 16 (cst loneF)); have hg5 := setRow_heap _ _ _ (irow 16 (cst loneF)) _ _ h2; clear h2 hb4; generalize World.setRow _ _ _ = ws at hb5 hg5 ⊢))
    | (go_at_call 53; refine (lone_c _).mono ?_; rintro e w3 ⟨rfl, hb6⟩; have hg6 := heap_below hb6 hg5 (heap_lt hg5); have hb7 := hb5.trans (hb6.mono hb5.size); clear hg5 hb5 hb6)
    | (go_at_call 15; refine (HW.out _ hb7).mono ?_; rintro e w4 ⟨vw, rfl, hi8, hb8⟩; have hg8 := heap_below hb8 hg6 (heap_lt hg6); have hb9 := hb7.trans (hb8.mono hb7.size); clear hg6 hb7 hb8)
    | (go_at_call 29; refine (HN.out _ hb9).mono ?_; rintro e w5 ⟨rfl, hbA⟩; have hgA := heap_below hbA hg8 (heap_lt hg8); have hiA := hi8.below hbA; have hbB := hb9.trans (hbA.mono hb9.size); clear hg8 hi8 hb9 hbA))
  have hlt := heap_lt hgA
  have hu24 : Tryd.prog.underlying 24 = some (.array 16 22) := Tryd.underlying24
  have hi24 : (Tryd.prog.info? 24).map (·.size) = some (irow 16 (cst loneF)).toList.length := by rw [Array.length_toList, irow_size]; kernel_rfl
  have hlen : (irow 16 (cst loneF)).toList.length = 16 := by simp
  have hone := irow_one 16 (cst loneF)
  have hneq := neqShield (cst loneF) (cst loneF) true (by simp)
  have K := hid (fun W (hb : Below w5.heap.size w5 W) => (⟨range_irow (heap_below hb hgA hlt), hb⟩ : W.rangeAt w2.heap.size 0 (irow 16 (cst loneF)).toList ∧ Below w5.heap.size w5 W))
  have HR := hid (fun W (hb : (W.rangeAt w2.heap.size 0 (irow 16 (cst loneF)).toList ∧ Below w5.heap.size w5 W)) => (hiA.below hb.2).reads)
  have K0 := hid (K.out w5.drew (Below.refl _ _).drew)
  have KD := hid (fun W (hb : (W.rangeAt w2.heap.size 0 (irow 16 (cst loneF)).toList ∧ Below w5.heap.size w5 W)) => K.out W.drew hb.2.drew)
  have KA := hid (fun W o (hb : (W.rangeAt w2.heap.size 0 (irow 16 (cst loneF)).toList ∧ Below w5.heap.size w5 W)) => K.out (W.alloc o) (hb.2.alloc hb.2.size o))
  have KC := hid (fun W W2 (h2 : Below W.heap.size W W2) (hb : (W.rangeAt w2.heap.size 0 (irow 16 (cst loneF)).toList ∧ Below w5.heap.size w5 W)) => K.out W2 (hb.2.trans (h2.mono hb.2.size)))
  clear K hiA hgA
  go_region_held3 (fun w' => w'.rangeAt w2.heap.size 0 (irow 16 (cst loneF)).toList ∧ Below w5.heap.size w5 w')
    (first | exact K0.out | exact KD.out _ (by assumption) | exact KA.out _ _ (by assumption) | exact KC.out _ _ (by assumption) (by assumption))
    (first | (go_at_call 53; refine (lone_c _).mono ?_; rintro e w6 ⟨rfl, hb6⟩) | (go_at_call 20; refine (same_true vw _ [14, 12, 8, 0] _ (HR.out _ (by assumption)) (reads4 _ 14 12 8 0) (by simp)).mono ?_; rintro e w7 ⟨rfl, hb7⟩))
  have hb8 := And.right (show w7.rangeAt w2.heap.size 0 (irow 16 (cst loneF)).toList ∧ Below w5.heap.size w5 w7 by assumption)
  have hb9 := hbB.trans (hb8.mono hbB.size)
  clear hb8 hb7 hb6 hbB hlt hneq hone hlen hi24 hu24 KC KA KD K0 HR
  go_wp2_with (first
    | (go_at_call 53; refine (lone_c _).mono ?_; rintro e w8 ⟨rfl, hbb1⟩; have hbb2 := hb9.trans (hbb1.mono hb9.size); have h8 := heap_alloc_new w8 (.cells (irow 16 (fun _ => 0)) 24); have hbb3 := hbb2.alloc hbb2.size (.cells (irow 16 (fun _ => 0)) 24); clear hbb1)
    | (rw [zeros16]; go_must (refine strow arrShield _ _ rfl rfl _ _ rfl rfl _ _ h8 ?_); have hbb4 := below_setRow hbb3 hbb2.size (irow 16 (cst loneF)); have hg9 := setRow_heap _ _ _ (irow 16 (cst loneF)) _ _ h8; clear h8 hbb3; generalize World.setRow _ _ _ = ws2 at hbb4 hg9 ⊢; have hc14 : ws2.cell? ⟨w8.heap.size, 14, none⟩ = some (.int .i64 15) := cell_irow hg9 14 (by omega); have hf14 := frozen_of_row _ _ 14 _ _ hg9)
    | (refine ldrow arrShield _ rfl rfl _ rfl _ _ (bad_row hg9) ?_; have hbb5 := hbb4.setCell (p := ⟨w8.heap.size, 14, none⟩) hbb2.size (.int .i64 11))
    | (go_at_call 40; go_must (refine (HX.out _ hbb5).mono ?_); rintro e w9 ⟨vx, rfl, hi9, hbb6⟩; have hbb7 := (hbb5.trans (hbb6.mono hbb5.size)))
    | (go_at_call 20; go_must (refine (same_true vx _ [14, 15] _ (hi9.below ((Below.refl _ _).alloc (Nat.le_refl _) _)).reads (reads2 _ 14 15) (by simp)).mono ?_); rintro e wA ⟨rfl, hbb8⟩))
  go_ret
  refine ⟨rfl, (hbb7.alloc hbb7.size _).trans (hbb8.mono ?_)⟩
  have := hbb7.size
  simp
  omega
end Go.Proofs.YtphnibllfpkkkaaDoor
