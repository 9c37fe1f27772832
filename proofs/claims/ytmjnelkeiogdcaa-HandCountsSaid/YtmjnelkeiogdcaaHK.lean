/- Walks of package hand: where courses begin, and how many outcomes there are. -/
import Derived.Test.YtmjnelkeiogdcaaHI
set_option linter.unusedSimpArgs false
set_option linter.unusedVariables false
namespace Go.Proofs.Ytmjnelkeiogdcaa
open Go Go.RowKit Go.Shelf
set_option maxRecDepth 100000

@[go_sem] theorem wide_fn (f : FuncId) : Fence.wide.fn f = True := eq_true trivial
theorem two_set {W : World} {g : Nat} {a b c d : Value} {t : TypeId} (h : W.heap[g]? = some (.cells #[a, b] t (0, 0))) : ((W.setCell ⟨g, 0, none⟩ c).setCell ⟨g, 1, none⟩ d).heap[g]? = some (.cells #[c, d] t (0, 0)) := by
  have h1 := heap_setCell_same W g 0 _ t c h
  have h2 := heap_setCell_same _ g 1 _ t d h1
  simpa using h2
theorem begin1_c (a b c d : Nat) (ha : a ≤ 40) (hc : c ≤ 40) (w : World) : Calls Try.prog 66 #[.agg #[.int .i64 ((a : Nat) : Int), .int .i64 ((b : Nat) : Int)], .agg #[.int .i64 ((c : Nat) : Int), .int .i64 ((d : Nat) : Int)]] w fun e w' => e = .returned (.int .i64 (((a : Nat) : Int) - ((c : Nat) : Int))) ∧ Below w.heap.size w w' := by
  have hb := below2 w (.cells #[.int .i64 ((a : Nat) : Int), .int .i64 ((b : Nat) : Int)] 50) (.cells #[.int .i64 ((c : Nat) : Int), .int .i64 ((d : Nat) : Int)] 50)
  have HB := hid hb
  obtain ⟨z, hz⟩ : ∃ z : Int, ((a : Nat) : Int) - ((c : Nat) : Int) = z := ⟨_, rfl⟩
  have wz : IntKind.i64.wrap z = z := IntWalk.i64_in _ (by omega)
  rw [hz]
  clear hb ha hc
  go_enter Try.func66, Try.ntmps66
  go_wp2_with fail
  go_ret
  exact ⟨rfl, HB.out⟩
/-- The greatest value of the first k faces. -/
def topN (L : List (Nat × Nat)) (k : Nat) : Nat := (L.take k).foldl (fun t f => max t f.1) 0
theorem topN_step (L : List (Nat × Nat)) (k : Nat) (hk : k < L.length) : topN L (k + 1) = max (topN L k) L[k].1 := by
  unfold topN
  rw [List.take_add_one, List.getElem?_eq_getElem hk, Option.toList_some, List.foldl_append]
  rfl
theorem topN_le (L : List (Nat × Nat)) (c : Nat) (h : ∀ f ∈ L, f.1 ≤ c) (k : Nat) : topN L k ≤ c := by
  induction k with
  | zero => simp [topN]
  | succ k ih =>
    by_cases hk : k < L.length
    · rw [topN_step L k hk]
      have := h _ (List.getElem_mem hk)
      omega
    · have : topN L (k + 1) = topN L k := by unfold topN; rw [List.take_of_length_le (by omega), List.take_of_length_le (by omega)]
      omega
set_option maxHeartbeats 1000000 in
theorem maxFunc_c (N : Nat) (H : HV) (fv cv : Value) (hk1 : H.kind = 1) (h1 : 0 < H.faces.length) (h20 : H.faces.length ≤ 20) (hf : ∀ f ∈ H.faces, f.1 ≤ 40 ∧ f.2 ≤ 1000) (w : World) (hH : HandAt w N H fv cv) :
    Calls Try.prog 65 #[fv, .func (.func 66) #[] #[]] w fun e w' => (∃ u : Nat, e = .returned (.agg #[.int .i64 ((topN H.faces H.faces.length : Nat) : Int), .int .i64 ((u : Nat) : Int)])) ∧ Below w.heap.size w w' := by
  obtain ⟨p, c, rfl, hfc⟩ := hH.faces hk1
  obtain ⟨b, o, rfl, hbN, g0, g1⟩ := hfc 0 h1
  obtain ⟨m, hm⟩ : ∃ m, H.faces.length = m := ⟨_, rfl⟩
  have hst := topN_step H.faces
  have hle := topN_le H.faces 40 (fun f h => (hf f h).1)
  have ht1 := topN_step H.faces 0 h1
  have ht0 : topN H.faces 0 = 0 := rfl
  have HFC := hid (fun i (h : i < H.faces.length) => (by obtain ⟨b', o', e, h2, h3, h4⟩ := hfc i h; injection e with e; injection e with e1 e2; subst e1; subst e2; exact ⟨h3, h4⟩ : w.cell? ⟨b, o + i * 2, none⟩ = some (.int .i64 ((H.faces[i].1 : Nat) : Int)) ∧ w.cell? ⟨b, o + i * 2 + 1, none⟩ = some (.int .i64 ((H.faces[i].2 : Nat) : Int))))
  have HF := hid hf
  have HM := hid hm
  have HST := hid hst
  have HLE := hid hle
  have hNw := hH.le
  rw [hm] at h1 h20 ⊢
  simp only [Nat.zero_mul, Nat.add_zero] at g0 g1
  rw [ht0] at ht1
  generalize H.faces[0].1 = v0 at *
  generalize H.faces[0].2 = u0 at *
  have htop : topN H.faces 1 = v0 := by rw [ht1]; omega
  have hbl : b < w.heap.size := by omega
  have hx := alloc2_first w (.cells #[.int .i64 0, .int .i64 0] 50) (.cells #[.int .i64 ((v0 : Nat) : Int), .int .i64 ((u0 : Nat) : Int)] 50)
  have hy := alloc2_second w (.cells #[.int .i64 0, .int .i64 0] 50) (.cells #[.int .i64 ((v0 : Nat) : Int), .int .i64 ((u0 : Nat) : Int)] 50)
  have hb2 := below2 w (.cells #[.int .i64 0, .int .i64 0] 50) (.cells #[.int .i64 ((v0 : Nat) : Int), .int .i64 ((u0 : Nat) : Int)] 50)
  have HX := hid hx
  have HY := hid hy
  have HB := hid hb2
  have HTOP := hid htop
  have hlt1 : decide (((m : Nat) : Int) < 1) = false := by simp; omega
  have hlt1' : ¬ ((m : Nat) : Int) < 1 := by omega
  clear hst hle ht1 ht0 hf hm hfc hx hy hb2 htop hH
  go_enter Try.func65, Try.ntmps65
  go_wp2_with fail
  obtain ⟨g, hg⟩ : ∃ g, w.heap.size = g := ⟨_, rfl⟩
  rw [hg] at HX HY HB hbl hNw ⊢
  go_loopw [6] (fun ix wr => ∃ i tu : Nat, 1 ≤ i ∧ i ≤ m ∧ ix = .int .i64 i ∧ wr.heap[g + 1]? = some (.cells #[.int .i64 ((topN H.faces i : Nat) : Int), .int .i64 ((tu : Nat) : Int)] 50 (0, 0)) ∧ wr.heap[g]? = some (.cells #[.int .i64 0, .int .i64 0] 50 (0, 0)) ∧ Below g w wr) (fun ix _ => m - (intOf ix).toNat)
  case atStart => exact ⟨1, u0, by omega, by omega, rfl, by rw [HTOP.out]; exact HY.out, HX.out, HB.out⟩
  case round =>
    clear HX HY HB g0 g1
    obtain ⟨i, tu, hi1, him, rfl, hy, hx, hB⟩ := hrel
    have hle := HLE.out i
    have HST1 := HST.out i
    obtain ⟨tv, htv⟩ : ∃ tv, topN H.faces i = tv := ⟨_, rfl⟩
    rw [htv] at hy hle HST1
    have t0 : wr.cell? ⟨g + 1, 0, none⟩ = some (.int .i64 ((tv : Nat) : Int)) := by rw [cell_of_row _ _ 0 _ _ (0, 0) hy]; rfl
    have t1 : wr.cell? ⟨g + 1, 1, none⟩ = some (.int .i64 ((tu : Nat) : Int)) := by rw [cell_of_row _ _ 1 _ _ (0, 0) hy]; rfl
    have hltg := heap_lt hy
    by_cases hlt : i < m
    · have hlt' : ((i : Nat) : Int) < m := by omega
      have hi0 : (0 : Int) ≤ i := by omega
      have hif : i < H.faces.length := by rw [HM.out]; exact hlt
      obtain ⟨f0, f1⟩ := HFC.out i hif
      rw [← cell_same (hB.block b hbl)] at f0 f1
      have hf := HF.out _ (List.getElem_mem hif)
      have hst := HST1 hif
      generalize H.faces[i].1 = v at *
      generalize H.faces[i].2 = u at *
      have hblw : b < wr.heap.size := by omega
      have HB1 := hid (fun W => begin1_c v u tv tu (by omega) (by omega) W)
      have HY := hid hy
      have HX := hid hx
      have HBB := hid hB
      obtain ⟨z, hz⟩ : ∃ z : Int, ((v : Nat) : Int) - ((tv : Nat) : Int) = z := ⟨_, rfl⟩
      rw [hz] at HB1
      by_cases hgt : tv < v
      · have hd : decide (0 < z) = true := by simp; omega
        have hd' : 0 < z := by omega
        have HT := hid (show topN H.faces (i + 1) = v by omega)
        clear hst hy hx hB htv HST1 hz hgt
        go_wp2_with fail
        refine wpIn_wide.1 (wpIn_quiet_tail (m := 1) lets_wide 6 (by kernel_rfl) (by kernel_rfl) (by kernel_rfl) (fun V => V = wr.drew) (rfl) ?_)
        simp only [List.take_succ_cons, List.take_zero, List.drop_succ_cons, List.drop_zero]
        refine qvalK (.func (.func 66) #[] #[]) rfl (fun W hW => by rfl) (fun K hK => ?_)
        go_simp
        refine hK _ ?_
        clear hK K
        refine qvalK (.slice (some ⟨b, o, none⟩) m c) rfl (fun W hW => by rfl) (fun K hK => ?_)
        go_simp
        refine hK _ ?_
        clear hK K
        refine qvalK (.int .i64 ((i : Nat) : Int)) rfl (fun W hW => by rfl) (fun K hK => ?_)
        go_simp
        refine hK _ ?_
        clear hK K
        refine qvalK (.pointer (some ⟨b, o + i * 2, none⟩)) rfl (fun W hW => by go_simp) (fun K hK => ?_)
        go_simp
        refine hK _ ?_
        clear hK K
        refine qvalK (.agg #[.int .i64 ((v : Nat) : Int), .int .i64 ((u : Nat) : Int)]) rfl (fun W hW => by subst hW; have h1 := f0; have h2 := f1; go_simp) (fun K hK => ?_)
        go_simp
        refine hK _ ?_
        clear hK K
        refine qvalK (.agg #[.int .i64 ((tv : Nat) : Int), .int .i64 ((tu : Nat) : Int)]) rfl (fun W hW => by subst hW; have h1 := t0; have h2 := t1; go_simp) (fun K hK => ?_)
        go_simp
        refine hK _ ?_
        clear hK K
        refine wpQuiet_nil ?_
        intro V hW
        subst hW
        gi_wp2_with (gi_at_call 66; refine (callsIn_wide.2 (HB1.out _)).mono ?_; rintro e w2 ⟨rfl, hb2⟩)
        have HY := hid (heap_below hb2 (show wr.drew.heap[g + 1]? = _ from HY.out) (heap_lt HY.out))
        have HX := hid (heap_below hb2 (show wr.drew.heap[g]? = _ from HX.out) (heap_lt HX.out))
        have hBw : Below g w wr.drew := HBB.out.trans ⟨rfl, rfl, rfl, Nat.le_refl _, fun _ _ => rfl⟩
        have HBB := hid (hBw.trans (hb2.mono (show g ≤ wr.heap.size by omega)))
        have f0 : w2.cell? ⟨b, o + i * 2, none⟩ = some (.int .i64 ((v : Nat) : Int)) := (cell_same (hb2.block b hblw)).trans f0
        have f1 : w2.cell? ⟨b, o + i * 2 + 1, none⟩ = some (.int .i64 ((u : Nat) : Int)) := (cell_same (hb2.block b hblw)).trans f1
        have t0 : w2.cell? ⟨g + 1, 0, none⟩ = some (.int .i64 ((tv : Nat) : Int)) := by rw [cell_of_row _ _ 0 _ _ (0, 0) HY.out]; rfl
        have t1 : w2.cell? ⟨g + 1, 1, none⟩ = some (.int .i64 ((tu : Nat) : Int)) := by rw [cell_of_row _ _ 1 _ _ (0, 0) HY.out]; rfl
        have z0 := frozen_of_row _ _ 0 _ _ HY.out
        have z1 := frozen_of_row _ _ 1 _ _ HY.out
        have HY2 := hid (two_set (c := .int .i64 ((v : Nat) : Int)) (d := .int .i64 ((u : Nat) : Int)) HY.out)
        have HX2 := hid ((heap_setCell_other _ ⟨g + 1, 1, none⟩ g (.int .i64 ((u : Nat) : Int)) (show g ≠ g + 1 by omega)).trans ((heap_setCell_other w2 ⟨g + 1, 0, none⟩ g (.int .i64 ((v : Nat) : Int)) (show g ≠ g + 1 by omega)).trans HX.out))
        have HB3 := hid ((HBB.out.setCell (p := ⟨g + 1, 0, none⟩) (show g ≤ g + 1 by omega) (.int .i64 ((v : Nat) : Int))).setCell (p := ⟨g + 1, 1, none⟩) (show g ≤ g + 1 by omega) (.int .i64 ((u : Nat) : Int)))
        clear hb2 hBw
        go_wp2_with fail
        go_roundw
        case rel => exact ⟨i + 1, u, by omega, by omega, by go_num, by rw [HT.out]; exact HY2.out, HX2.out, HB3.out⟩
        case measure => simp [intOf]; omega
      · have hd : decide (0 < z) = false := by simp; omega
        have hd' : ¬ 0 < z := by omega
        have HT := hid (show topN H.faces (i + 1) = tv by omega)
        clear hst hy hx hB htv HST1 hz hgt
        go_wp2_with fail
        refine wpIn_wide.1 (wpIn_quiet_tail (m := 1) lets_wide 6 (by kernel_rfl) (by kernel_rfl) (by kernel_rfl) (fun V => V = wr.drew) (rfl) ?_)
        simp only [List.take_succ_cons, List.take_zero, List.drop_succ_cons, List.drop_zero]
        refine qvalK (.func (.func 66) #[] #[]) rfl (fun W hW => by rfl) (fun K hK => ?_)
        go_simp
        refine hK _ ?_
        clear hK K
        refine qvalK (.slice (some ⟨b, o, none⟩) m c) rfl (fun W hW => by rfl) (fun K hK => ?_)
        go_simp
        refine hK _ ?_
        clear hK K
        refine qvalK (.int .i64 ((i : Nat) : Int)) rfl (fun W hW => by rfl) (fun K hK => ?_)
        go_simp
        refine hK _ ?_
        clear hK K
        refine qvalK (.pointer (some ⟨b, o + i * 2, none⟩)) rfl (fun W hW => by go_simp) (fun K hK => ?_)
        go_simp
        refine hK _ ?_
        clear hK K
        refine qvalK (.agg #[.int .i64 ((v : Nat) : Int), .int .i64 ((u : Nat) : Int)]) rfl (fun W hW => by subst hW; have h1 := f0; have h2 := f1; go_simp) (fun K hK => ?_)
        go_simp
        refine hK _ ?_
        clear hK K
        refine qvalK (.agg #[.int .i64 ((tv : Nat) : Int), .int .i64 ((tu : Nat) : Int)]) rfl (fun W hW => by subst hW; have h1 := t0; have h2 := t1; go_simp) (fun K hK => ?_)
        go_simp
        refine hK _ ?_
        clear hK K
        refine wpQuiet_nil ?_
        intro V hW
        subst hW
        gi_wp2_with (gi_at_call 66; refine (callsIn_wide.2 (HB1.out _)).mono ?_; rintro e w2 ⟨rfl, hb2⟩)
        have HY := hid (heap_below hb2 (show wr.drew.heap[g + 1]? = _ from HY.out) (heap_lt HY.out))
        have HX := hid (heap_below hb2 (show wr.drew.heap[g]? = _ from HX.out) (heap_lt HX.out))
        have hBw : Below g w wr.drew := HBB.out.trans ⟨rfl, rfl, rfl, Nat.le_refl _, fun _ _ => rfl⟩
        have HBB := hid (hBw.trans (hb2.mono (show g ≤ wr.heap.size by omega)))
        clear t0 t1 hb2 hBw f0 f1
        go_wp2_with fail
        go_roundw
        case rel => exact ⟨i + 1, tu, by omega, by omega, by go_num, by rw [HT.out]; exact HY.out, HX.out, HBB.out⟩
        case measure => simp [intOf]; omega
    · have hge : ¬ ((i : Nat) : Int) < m := by omega
      obtain rfl : i = m := by omega
      have k0 : wr.cell? ⟨g, 0, none⟩ = some (.int .i64 0) := by rw [cell_of_row _ _ 0 _ _ (0, 0) hx]; rfl
      have k1 : wr.cell? ⟨g, 1, none⟩ = some (.int .i64 0) := by rw [cell_of_row _ _ 1 _ _ (0, 0) hx]; rfl
      have z0 := frozen_of_row _ _ 0 _ _ hx
      have z1 := frozen_of_row _ _ 1 _ _ hx
      have HX := hid hx
      have HBB := hid hB
      have HTV := hid htv
      have HX2 := hid (two_set (c := .int .i64 ((tv : Nat) : Int)) (d := .int .i64 ((tu : Nat) : Int)) hx)
      have HB3 := hid ((hB.setCell (p := ⟨g, 0, none⟩) (Nat.le_refl _) (.int .i64 ((tv : Nat) : Int))).setCell (p := ⟨g, 1, none⟩) (Nat.le_refl _) (.int .i64 ((tu : Nat) : Int)))
      clear hx hB hy htv HST1
      go_wp2_with fail
      refine bodyPost_ret (results_cell_row Try.results65 _ _ g _ _ _ _ rfl HX2.out Try.underlying50 rfl (by kernel_rfl)) rfl ?_
      exact ⟨⟨tu, by rw [HTV.out]⟩, HB3.out⟩
end Go.Proofs.Ytmjnelkeiogdcaa
/- Walks of package hand: where courses begin, and how many outcomes there are. -/
namespace Go.Proofs.Ytmjnelkeiogdcaa
open Go Go.RowKit Go.Shelf
set_option maxRecDepth 100000

def beginS (H : HV) : St :=
  if H.kind = 1 then .thrown H.count 0 else if H.kind = 2 then .marked 0 else if H.kind = 3 then .divided H.changes H.count else if H.kind = 4 then .drawn H.count 0 0 else .cut (-1)
def outsN (H : HV) : Nat :=
  if H.kind = 1 then H.count * topN H.faces H.faces.length + 1 else if H.kind = 2 then 2 else if H.kind = 3 then H.count / H.group + 1 else if H.kind = 4 then 8 ^ H.count else 8
/-- A valid hand, but for its stalks lasting. -/
def Okh (H : HV) : Prop :=
  (H.kind = 1 ∧ 1 ≤ H.count ∧ H.count ≤ 8 ∧ 1 ≤ H.faces.length ∧ H.faces.length ≤ 20 ∧ (∀ f ∈ H.faces, f.1 ≤ 40 ∧ 1 ≤ f.2 ∧ f.2 ≤ 1000)) ∨
  (H.kind = 2 ∧ 1 ≤ H.low ∧ H.low ≤ H.high ∧ H.high ≤ 1000) ∨
  (H.kind = 3 ∧ 2 ≤ H.group ∧ H.group ≤ 8 ∧ 2 * H.group + 1 ≤ H.count ∧ H.count ≤ 64 ∧ 1 ≤ H.changes ∧ H.changes ≤ 5) ∨
  (H.kind = 4 ∧ 1 ≤ H.count ∧ H.count ≤ 4 ∧ H.count ≤ H.cards.length ∧ H.cards.length ≤ 20 ∧ ∀ c ∈ H.cards, c < 8) ∨
  (H.kind = 5 ∧ 1 ≤ H.cards.length ∧ H.cards.length ≤ 20 ∧ ∀ c ∈ H.cards, c < 8)
theorem begin_fit (H : HV) (h : Okh H) : Fit H (beginS H) := by
  rcases h with ⟨hk, h1, h2, h3, h4, h5⟩ | ⟨hk, h1, h2, h3⟩ | ⟨hk, h1, h2, h3, h4, h5, h6⟩ | ⟨hk, h1, h2, h3, h4, h5⟩ | ⟨hk, h1, h2, h3⟩
  · simp only [beginS, hk]; exact ⟨⟨h2, by omega, h4, fun f hf => ⟨(h5 f hf).1, (h5 f hf).2.2⟩⟩, hk⟩
  · simp only [beginS, hk]; exact ⟨⟨by omega, h1, h3⟩, by unfold HV.low at *; omega, by unfold HV.high HV.low at *; omega⟩
  · simp only [beginS, hk]; exact ⟨⟨h6, h4, h1, h2⟩, trivial⟩
  · simp only [beginS, hk]; exact ⟨⟨h2, by decide, Nat.pow_pos (by omega), h4, h5⟩, hk⟩
  · simp only [beginS, hk]; exact ⟨⟨by decide, by decide, h2, h3⟩, hk⟩
set_option maxHeartbeats 1000000 in
theorem begin_c (N : Nat) (H : HV) (fv cv : Value) (h : Okh H) (w : World) (hH : HandAt w N H fv cv) :
    Calls Try.prog 41 #[.agg (handA H fv cv)] w fun e w' => e = .returned (.tuple #[encS (beginS H), .int .i64 ((outsN H : Nat) : Int)]) ∧ Below w.heap.size w w' := by
  have hb : Below w.heap.size w (w.alloc (.cells (handA H fv cv) 26)) := (Below.refl _ _).alloc (Nat.le_refl _) _
  have HB := hid hb
  rcases h with ⟨hk, h1, h2, h3, h4, h5⟩ | ⟨hk, h1, h2, h3⟩ | ⟨hk, h1, h2, h3, h4, h5, h6⟩ | ⟨hk, h1, h2, h3, h4, h5⟩ | ⟨hk, h1, h2, h3⟩
  · have hH1 : HandAt (w.alloc (.cells (handA H fv cv) 26)) N H fv cv := hH.below (hb.mono hH.le)
    have HMF := hid (maxFunc_c N H fv cv hk (by omega) h4 (fun f hf => ⟨(h5 f hf).1, (h5 f hf).2.2⟩) _ hH1)
    have htop := topN_le H.faces 40 (fun f hf => (h5 f hf).1) H.faces.length
    simp only [beginS, outsN, hk, handA] at HB HMF ⊢
    obtain ⟨tp, htp⟩ : ∃ tp, topN H.faces H.faces.length = tp := ⟨_, rfl⟩
    rw [htp] at HMF htop ⊢
    obtain ⟨ct, hct⟩ : ∃ ct, H.count = ct := ⟨_, rfl⟩
    rw [hct] at HMF HB h1 h2 ⊢
    obtain ⟨z, hz⟩ : ∃ z, ct * tp = z := ⟨_, rfl⟩
    have hm : ((ct : Nat) : Int) * ((tp : Nat) : Int) = ((z : Nat) : Int) := by rw [← hz]; push_cast; rfl
    have hzl : z ≤ 320 := by rw [← hz]; exact Nat.mul_le_mul h2 htop
    rw [hz]
    have hp : ((z : Nat) : Int) + 1 = ((z + 1 : Nat) : Int) := by omega
    have w1 := wrap_nat z (by omega)
    have w2 := wrap_nat (z + 1) (by omega)
    generalize z + 1 = z1 at *
    have C1 := hid (show (w.alloc (.cells #[.int .i64 1, .int .i64 ((ct : Nat) : Int), fv, .int .i64 H.lowI, .int .i64 H.highI, .int .i64 ((H.group : Nat) : Int), .int .i64 ((H.changes : Nat) : Int), cv] 26)).cell? ⟨w.heap.size, 1, none⟩ = some (.int .i64 ((ct : Nat) : Int)) by rw [cell_of_row _ _ 1 _ _ (0, 0) (heap_alloc_new w _)]; rfl)
    clear hb hH hH1 h4 h5 htp hct hz hk
    go_enter Try.func41, Try.ntmps41
    go_wp2_with (go_at_call 65; refine HMF.out.mono ?_; rintro e w3 ⟨⟨u, rfl⟩, hb3⟩; have c1 : w3.cell? ⟨w.heap.size, 1, none⟩ = some (.int .i64 ((ct : Nat) : Int)) := (cell_same (hb3.block w.heap.size (by simp))).trans C1.out; have hlt3 : w.heap.size < w3.heap.size := by (have := hb3.size; simp at this; omega))
    go_quiet (fail)
    have HBA := hid (below_drewN ((HB.out.trans (hb3.mono (by simp))).alloc (by omega) (.cells #[.int .i64 ((tp : Nat) : Int), .int .i64 ((u : Nat) : Int)] 50)) nq)
    clear hb3 c1
    go_wp2_with fail
    go_ret2
    exact ⟨rfl, HBA.out⟩
  · simp only [beginS, outsN, hk, handA] at HB ⊢
    clear hb hH
    go_enter Try.func41, Try.ntmps41
    go_wp2_with fail
    go_ret2
    exact ⟨rfl, HB.out⟩
  · have hq := tdivN H.count H.group
    have hql : H.count / H.group ≤ H.count := Nat.div_le_self _ _
    simp only [beginS, outsN, hk, handA] at HB ⊢
    generalize H.count / H.group = q at *
    generalize H.count = ct at *
    generalize H.group = gr at *
    generalize H.changes = ch at *
    have hne : (((gr : Nat) : Int) == 0) = false := by simp; omega
    have hne' : ((gr : Nat) : Int) ≠ 0 := by omega
    have hp : ((q : Nat) : Int) + 1 = ((q + 1 : Nat) : Int) := by omega
    have w1 := wrap_nat q (by omega)
    have w2 := wrap_nat (q + 1) (by omega)
    generalize q + 1 = q1 at *
    clear hb hH
    go_enter Try.func41, Try.ntmps41
    go_wp2_with fail
    go_quiet (fail)
    go_wp2_with fail
    go_ret2
    exact ⟨rfl, below_drewN HB.out _⟩
  · simp only [beginS, outsN, hk, handA] at HB ⊢
    generalize H.count = ct at *
    obtain ⟨tot, htot⟩ : ∃ tot, 8 ^ ct = tot := ⟨_, rfl⟩
    rw [htot]
    have HTOT := hid htot
    clear hb hH htot
    go_enter Try.func41, Try.ntmps41
    go_wp2_with fail
    go_loop [5, 45] (fun n i => ∃ k : Nat, k ≤ ct ∧ i = .int .i64 k ∧ n = .int .i64 ((8 ^ k : Nat) : Int)) (fun _ i => ct - (intOf i).toNat)
    case atStart => exact ⟨0, by omega, rfl, rfl⟩
    case round =>
      obtain ⟨k, hk', rfl, rfl⟩ := hrel
      have h8 : 8 ^ k ≤ 8 ^ 4 := Nat.pow_le_pow_right (by omega) (by omega)
      have h9 : 8 ^ (k + 1) = 8 ^ k * 8 := Nat.pow_succ 8 k
      by_cases hlt : k < ct
      · have hlt' : ((k : Nat) : Int) < ct := by omega
        have H9 := hid h9
        have hp : 8 ^ k * 8 ≤ 32768 := by omega
        clear h9
        generalize 8 ^ k = p at *
        have w1 := wrap_nat (p * 8) (by omega)
        have hm : ((p : Nat) : Int) * 8 = ((p * 8 : Nat) : Int) := by omega
        generalize p * 8 = p8 at *
        go_wp2_with fail
        go_round
        case rel => exact ⟨k + 1, by omega, by go_num, by rw [H9.out]⟩
        case measure => simp [intOf]; omega
      · have hge : ¬ ((k : Nat) : Int) < ct := by omega
        obtain rfl : k = ct := by omega
        clear h9
        have hpt := HTOT.out
        clear HTOT
        generalize 8 ^ k = p at *
        subst hpt
        go_wp2_with fail
        go_ret2
        exact ⟨rfl, HB.out⟩
  · simp only [beginS, outsN, hk, handA] at HB ⊢
    clear hb hH
    go_enter Try.func41, Try.ntmps41
    go_wp2_with fail
    go_ret2
    exact ⟨rfl, HB.out⟩
end Go.Proofs.Ytmjnelkeiogdcaa
