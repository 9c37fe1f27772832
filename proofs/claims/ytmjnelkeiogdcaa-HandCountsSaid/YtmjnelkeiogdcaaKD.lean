/- Walks of the reference: the face of a choice, the outcome of a course. -/
import Derived.Test.YtmjnelkeiogdcaaKB
set_option linter.unusedSimpArgs false
set_option linter.unusedVariables false
namespace Go.Proofs.Ytmjnelkeiogdcaa
open Go Go.RowKit Go.Shelf
set_option maxRecDepth 100000

theorem shF_drop (F : List (Nat × Nat)) (i : Nat) (h : i < F.length) (c : Nat) : shF (F.drop i) c = if c < F[i].2 then F[i].1 else shF (F.drop (i + 1)) (c - F[i].2) := by
  rw [List.drop_eq_getElem_cons h, shF]
set_option maxHeartbeats 2000000 in
theorem rshown_c (H : HV) (hw : ∀ f ∈ H.faces, f.1 ≤ 40 ∧ 1 ≤ f.2 ∧ f.2 ≤ 1000) (hl : H.faces.length ≤ 20) (fv cv : Value) (c : Nat) (hc : c ≤ 1000000) (N : Nat) (w : World) (hR : RawAt w N (rawOf H) fv cv) :
    Calls Try.prog 51 #[.agg (handR (rawOf H) fv cv), .int .i64 ((c : Nat) : Int)] w fun e w' => e = .returned (.int .i64 ((shF H.faces c : Nat) : Int)) ∧ Below w.heap.size w w' := by
  have hx := heap_alloc_new w (.cells (handR (rawOf H) fv cv) 26)
  have hb : Below w.heap.size w (w.alloc (.cells (handR (rawOf H) fv cv) 26)) := (Below.refl _ _).alloc (Nat.le_refl _) _
  have HX := hid hx
  have HB := hid hb
  have HR := hid (hR.below (hb.mono hR.le))
  obtain ⟨g, hg⟩ : ∃ g, w.heap.size = g := ⟨_, rfl⟩
  rw [hg] at HX HB
  rw [hg]
  have hNg : N ≤ g := hg ▸ hR.le
  obtain ⟨pf, cf, hfe, -⟩ := hR.faces
  obtain ⟨F, hF⟩ : ∃ F, H.faces.length = F := ⟨_, rfl⟩
  have hFr : (rawOf H).faces.length = F := by simp [rawOf, hF]
  rw [hFr] at hfe
  have HFL := hid (show H.faces.length = F ∧ (rawOf H).faces.length = F from ⟨hF, hFr⟩)
  have H5 := hid hw
  have hf20 : F ≤ 20 := by omega
  clear hx hb hR hw hl hF hFr
  subst hfe
  go_enter Try.func51, Try.ntmps51
  go_wp2_with fail
  obtain ⟨w1, hw1⟩ : ∃ w1, w.alloc (.cells (handR (rawOf H) (.slice pf F cf) cv) 26) = w1 := ⟨_, rfl⟩
  rw [hw1] at HX HB HR ⊢
  clear hw1
  go_loopw [1, 5] (fun cv' ix wr => ∃ i d : Nat, i ≤ F ∧ ix = .int .i64 ((i : Nat) : Int) ∧ cv' = .int .i64 ((d : Nat) : Int) ∧ d ≤ 1000000 ∧ shF H.faces c = shF (H.faces.drop i) d ∧ Below w1.heap.size w1 wr) (fun _ ix _ => F - (intOf ix).toNat)
  case atStart => exact ⟨0, c, by omega, rfl, rfl, hc, rfl, Below.refl _ _⟩
  case round =>
    obtain ⟨i, d, hi, rfl, rfl, hd, hsh, hbw⟩ := hrel
    have ⟨k0, k1, k2, k3, k4, k5, k6, k7⟩ := cells8 (heap_below hbw HX.out (heap_lt HX.out))
    have HBW := hid hbw
    have hR2 := HR.out.below (hbw.mono HR.out.le)
    have HSH := hid hsh
    clear hbw hsh
    rcases Nat.lt_or_ge i F with hlt2 | hge2
    · have hin : decide (((i : Nat) : Int) < ((F : Nat) : Int)) = true := decide_eq_true (by omega)
      have hin' : ((i : Nat) : Int) < ((F : Nat) : Int) := by omega
      have hi0 : (0 : Int) ≤ ((i : Nat) : Int) := by omega
      obtain ⟨p', c', e', hfc⟩ := hR2.faces
      injection e' with ep _ ec
      subst ep
      subst ec
      obtain ⟨b, o, rfl, hbN, c1, c2⟩ := hfc i (by rw [HFL.out.2]; exact hlt2)
      have hiF : i < H.faces.length := by rw [HFL.out.1]; exact hlt2
      have e2 : (rawOf H).faces[i]'(by rw [HFL.out.2]; exact hlt2) = (((H.faces[i].1 : Nat) : Int), ((H.faces[i].2 : Nat) : Int)) := by simp [rawOf]
      rw [e2] at c1 c2
      have hsd := shF_drop H.faces i hiF d
      have hw1 := (H5.out _ (List.getElem_mem hiF)).2.2
      obtain ⟨x, hx⟩ : ∃ x, H.faces[i].1 = x := ⟨_, rfl⟩
      obtain ⟨y, hy⟩ : ∃ y, H.faces[i].2 = y := ⟨_, rfl⟩
      rw [hx] at c1 hsd
      rw [hy] at c2 hsd hw1
      simp only at c1 c2
      clear hx hy hfc e2 hR2
      by_cases hdy : d < y
      · have hdl : decide (((d : Nat) : Int) < ((y : Nat) : Int)) = true := decide_eq_true (by omega)
        rw [if_pos hdy] at hsd
        have HSD := hid hsd
        clear hsd
        go_wp2_with fail
        go_ret
        exact ⟨by rw [HSH.out, HSD.out]; rfl, HB.out.trans (HBW.out.mono (by have := HB.out.size; have := heap_lt HX.out; omega))⟩
      · have hdl : decide (((d : Nat) : Int) < ((y : Nat) : Int)) = false := decide_eq_false (by omega)
        rw [if_neg hdy] at hsd
        have HSD := hid hsd
        have hdw : IntKind.i64.wrap (((d : Nat) : Int) - ((y : Nat) : Int)) = ((d - y : Nat) : Int) := (IntWalk.i64_in _ (by omega)).trans (by omega)
        have hiw : IntKind.i64.wrap (((i : Nat) : Int) + 1) = ((i + 1 : Nat) : Int) := (IntWalk.i64_in _ (by omega)).trans (by omega)
        clear hsd
        go_wp2_with fail
        go_roundw
        case rel => exact ⟨i + 1, d - y, by omega, rfl, rfl, by omega, by rw [HSH.out, HSD.out], HBW.out⟩
        case measure => simp only [intOf, Int.toNat_natCast]; omega
    · obtain rfl : i = F := by omega
      have hin : decide (((i : Nat) : Int) < ((i : Nat) : Int)) = false := decide_eq_false (by omega)
      have hall : H.faces.drop i = [] := List.drop_of_length_le (by rw [HFL.out.1]; omega)
      clear hR2
      go_wp2_with fail
      go_ret
      exact ⟨by rw [HSH.out, hall]; rfl, HB.out.trans (HBW.out.mono (by have := HB.out.size; have := heap_lt HX.out; omega))⟩

/-- The deck behind a course. -/
def deckN : List Nat → List Nat → List Nat
  | D, [] => D
  | D, c :: L => deckN (D.eraseIdx c) L
theorem num_snoc : ∀ (A : List Nat) (D : List Nat) (c k : Nat), numD D (A ++ [c]) k = numD D A k * 8 + (deckN D A).getD c 0 ∧ deckN D (A ++ [c]) = (deckN D A).eraseIdx c
  | [], D, c, k => ⟨rfl, rfl⟩
  | a :: A, D, c, k => num_snoc A (D.eraseIdx a) c (k * 8 + D.getD a 0)
theorem erase_len (D : List Nat) (c : Nat) : (D.eraseIdx c).length ≤ D.length ∧ D.length ≤ (D.eraseIdx c).length + 1 := by
  rw [List.length_eraseIdx]
  split <;> omega
theorem deck_len : ∀ (A : List Nat) (D : List Nat), (deckN D A).length ≤ D.length ∧ D.length ≤ (deckN D A).length + A.length
  | [], D => ⟨Nat.le_refl _, Nat.le_refl _⟩
  | a :: A, D => by
    have h1 := deck_len A (D.eraseIdx a)
    have h2 := erase_len D a
    simp only [deckN, List.length_cons]
    omega
theorem deck_mem : ∀ (A : List Nat) (D : List Nat) (x : Nat), x ∈ deckN D A → x ∈ D
  | [], D, x, h => h
  | a :: A, D, x, h => List.mem_of_mem_eraseIdx (deck_mem A (D.eraseIdx a) x h)
theorem deck_lt : ∀ (A : List Nat) (D : List Nat) (k j : Nat), (∀ x ∈ D, x < 8) → k < 8 ^ j → numD D A k < 8 ^ (j + A.length)
  | [], D, k, j, _, hk => hk
  | a :: A, D, k, j, hD, hk => by
    have h1 : D.getD a 0 < 8 := by
      rw [List.getD_eq_getElem?_getD]
      rcases Nat.lt_or_ge a D.length with h | h
      · rw [List.getElem?_eq_getElem h]; exact hD _ (List.getElem_mem h)
      · rw [List.getElem?_eq_none h]; simp
    have h2 := deck_lt A (D.eraseIdx a) (k * 8 + D.getD a 0) (j + 1) (fun x hx => hD x (List.mem_of_mem_eraseIdx hx)) (by rw [Nat.pow_succ]; omega)
    rw [numD, List.length_cons, show j + (A.length + 1) = j + 1 + A.length by omega]
    exact h2
theorem drw_step (H : HV) (xs : List Nat) (l : Nat) (s : St) (hr : runN H (.drawn l 0 0) xs = some s) (i : Nat) (hi : i < xs.length) : xs[i] + i < H.cards.length := by
  have hsp : xs = (xs.take i ++ [xs[i]]) ++ xs.drop (i + 1) := by simp
  rw [hsp] at hr
  obtain ⟨u, h1, h2⟩ := run_take H _ _ _ _ hr
  obtain ⟨v, h3, h4⟩ := run_split H _ _ _ _ h1
  obtain ⟨h5, ga, h6, h7⟩ := run_drawn H _ _ _ _ _ h3
  have h8 := pick_lt _ _ _ h4
  rw [← chN_sum, h6] at h8
  have h9 : (restI H.cards.length 0).length = H.cards.length := by unfold restI; rw [List.filter_eq_self.2 (by simp), List.length_range]
  have h10 : (xs.take i).length = i := by rw [List.length_take]; omega
  rcases Nat.eq_zero_or_pos (l - (xs.take i).length) with h0 | h0
  · rw [h0] at h8
    simp [chN, brs] at h8
  · rw [chN_drawn _ _ _ _ (by omega)] at h8
    omega
theorem rest0 (L : List Nat) : (restI L.length 0).map (fun i => L.getD i 0) = L := by
  unfold restI
  rw [List.filter_eq_self.2 (by simp)]
  apply List.ext_getElem
  · simp
  · intro i h1 h2
    simp at h1
    simp [List.getD_eq_getElem?_getD, h1]
theorem exec_slcL {ev : Operand → Value} {o : Oper} {x y : Operand} {b n cap k : Nat} {W : World} (ho : o.op = .slice 24 x (some y) none none) (hx : ev x = .slice (some ⟨b, 0, none⟩) n cap) (hy : ev y = .int .i64 ((k : Nat) : Int)) (hk : k ≤ n) (h0 : n ≤ cap) :
    (execOp ev o).run Try.prog W = .ok (.value (.slice (some ⟨b, if cap = k then 0 else k, none⟩) (n - k) (cap - k))) W := by
  have h1 : ((k : Nat) : Int) ≤ ((n : Nat) : Int) := by omega
  have h2 : (0 : Int) ≤ ((k : Nat) : Int) := by omega
  by_cases h3 : cap = k
  · subst h3
    simp [execOp, ho, hx, hy]
    go_simp
  · simp [execOp, ho, hx, hy, h3]
    go_simp
theorem Ints.tail {W : World} {b q n cap : Nat} {L : List Int} (h : Ints W b (.slice (some ⟨q, 0, none⟩) n cap) L) (k : Nat) (hk : k ≤ L.length) : ReadsA W (.slice (some ⟨q, if cap = k then 0 else k, none⟩) (n - k) (cap - k)) (L.drop k) := by
  obtain ⟨q', c', e, h1, h2⟩ : ∃ q' c', Value.slice (some ⟨q, 0, none⟩) n cap = .slice (some ⟨q', 0, none⟩) L.length c' ∧ L.length ≤ c' ∧ W.heap[q']? ≠ none := by
    rcases h.2 with ⟨h2, _⟩ | ⟨g, cap', cur, h3, h4, h5, h6, _⟩
    · cases h2
    · exact ⟨g, cap', h3, h6, by rw [h5]; simp⟩
  injection e with e1 e2 e3
  injection e1 with e1
  injection e1 with e1 _ _
  subst e1 e2 e3
  refine .inr ⟨⟨q, if cap = k then 0 else k, none⟩, cap - k, by rw [List.length_drop], fun _ => ?_, fun j hj => ?_⟩
  · rcases Nat.lt_or_ge q W.heap.size with h3 | h3
    · exact h3
    · exact absurd (Array.getElem?_eq_none h3) h2
  · rw [List.length_drop] at hj
    rw [if_neg (by omega), List.getElem_drop, show (⟨q, k, none⟩ : Addr).add j = ⟨q, k + j, none⟩ by unfold Addr.add; split <;> simp_all]
    exact h.at (k + j) (by omega)
theorem exec_idxA {ev : Operand → Value} {o : Oper} {x y : Operand} {b o' n cap k : Nat} {W : World} (ho : o.op = .indexAddr 24 x y) (hx : ev x = .slice (some ⟨b, o', none⟩) n cap) (hy : ev y = .int .i64 ((k : Nat) : Int)) (hk : ((k : Nat) : Int) < ((n : Nat) : Int)) :
    (execOp ev o).run Try.prog W = .ok (.value (.pointer (some ⟨b, o' + k, none⟩))) W := by
  have h2 : (0 : Int) ≤ ((k : Nat) : Int) := by omega
  simp [execOp, ho, hx, hy]
  go_simp
theorem exec_ldI {ev : Operand → Value} {o : Oper} {x : Operand} {a : Addr} {v : Value} {W : World} (ho : o.op = .load 3 x) (hx : ev x = .pointer (some a)) (hc : W.cell? a = some v) :
    (execOp ev o).run Try.prog W = .ok (.value v) W := by
  simp [execOp, ho, hx]
  go_simp
theorem crs_cell {W W' : World} {b i : Nat} {v : Value} (hb : Below W.heap.size W W') (hc : W.cell? ⟨b, i, none⟩ = some v) : W'.cell? ⟨b, i, none⟩ = some v := by
  obtain ⟨z, hz, _⟩ := cell_book hc
  rw [cell_same ((heap_below hb hz (heap_lt hz)).trans hz.symm)]
  exact hc
set_option maxHeartbeats 4000000 in
theorem rout1_c (H : HV) (hV : Val H) (hk : H.kind = 1) (fv cv : Value) (xs : List Nat) (v : Value) (t : St) (hr : runN H (beginS H) xs = some t) (hd : dep t = 0) (N : Nat) (w : World) (hR : RawAt w N (rawOf H) fv cv) (hC : CrsAt w N v (xs.map fun c => ((c : Nat) : Int))) :
    Calls Try.prog 23 #[.agg (handR (rawOf H) fv cv), v] w fun e w' => e = .returned (.int .i64 (outN H t)) ∧ Below w.heap.size w w' := by
  have hx := heap_alloc_new w (.cells (handR (rawOf H) fv cv) 26)
  have hb : Below w.heap.size w (w.alloc (.cells (handR (rawOf H) fv cv) 26)) := (Below.refl _ _).alloc (Nat.le_refl _) _
  have HX := hid hx
  have HB := hid hb
  have HR := hid (hR.below (hb.mono hR.le))
  have HC := hid (hC.below (hb.mono hC.le))
  obtain ⟨p, kp, hv, -⟩ := hC.at'
  rw [List.length_map] at hv
  have hF0 := begin_fit H hV.hand.ok
  have hds := (run_fit H xs _ t hF0 hr).2
  have hd8 := dep_le hF0
  have hff := hV.faces
  subst hv
  obtain ⟨n, hn⟩ : ∃ n, xs.length = n := ⟨_, rfl⟩
  have HN := hid hn
  rw [hn] at hds ⊢
  obtain ⟨g, hg⟩ : ∃ g, w.heap.size = g := ⟨_, rfl⟩
  have hNg : N ≤ g := hg ▸ hR.le
  rw [hg] at HX HB
  rw [hg]
  clear hx hb
  have q1 : ((rawOf H).kind == 1) = true := by show (((H.kind : Nat) : Int) == 1) = true; simp [hk]
  obtain ⟨-, h1, h2, h3, h4, h5⟩ : H.kind = 1 ∧ 1 ≤ H.count ∧ H.count ≤ 8 ∧ 1 ≤ H.faces.length ∧ H.faces.length ≤ 20 ∧ (∀ f ∈ H.faces, f.1 ≤ 40 ∧ 1 ≤ f.2 ∧ f.2 ≤ 1000) := by
    rcases hV.hand.ok with h | h | h | h | h
    · exact h
    all_goals (exact absurd h.1 (by omega))
  have hb0 : beginS H = .thrown H.count 0 := by simp [beginS, hk]
  rw [hb0] at hr
  have hst : ∀ i (hi : i < xs.length), xs[i] ≤ 20000 := fun i hi => by
    have hsp : xs = (xs.take i ++ [xs[i]]) ++ xs.drop (i + 1) := by simp
    rw [hsp] at hr
    obtain ⟨u, g1, g2⟩ := run_take H _ _ _ _ hr
    obtain ⟨v, g3, g4⟩ := run_split H _ _ _ _ g1
    have g5 := pick_lt _ _ _ g4
    rw [← chN_sum] at g5
    obtain ⟨g6, g7⟩ := run_thrown H _ _ _ _ g3
    rw [g7] at g5
    have g8 : (H.faces.map Prod.snd).sum ≤ 20 * 1000 := sum_le_mul _ 20 (by simp; omega) (fun x hx => by obtain ⟨f, hf, rfl⟩ := List.mem_map.1 hx; exact (h5 f hf).2.2)
    rcases Nat.eq_zero_or_pos (H.count - (xs.take i).length) with h0 | h0
    · rw [h0] at g5
      simp [chN, brs] at g5
    · rw [chN_thrown _ _ _ (by omega)] at g5
      omega
  obtain ⟨-, es⟩ := run_thrown H xs _ _ t hr
  have hout : outN H t = ((sumF H.faces xs : Nat) : Int) := by rw [es]; simp [outN]
  rw [hout]
  have shle : ∀ c, shF H.faces c ≤ 40 := fun c => by
    have : ∀ (F : List (Nat × Nat)) c, (∀ f ∈ F, f.1 ≤ 40) → shF F c ≤ 40 := fun F => by
      induction F with
      | nil => intro c _; simp [shF]
      | cons f F ih =>
        intro c hf
        rw [shF]
        split
        · exact hf f List.mem_cons_self
        · exact ih _ fun x hx => hf x (List.mem_cons_of_mem _ hx)
    exact this _ _ fun f hf => (h5 f hf).1
  have sstep : ∀ i (hi : i < xs.length), sumF H.faces (xs.take (i + 1)) = sumF H.faces (xs.take i) + shF H.faces xs[i] := fun i hi => by
    unfold sumF
    rw [← List.take_append_getElem hi, List.map_append, List.sum_append]
    simp
  have sle : ∀ i, i ≤ 8 → sumF H.faces (xs.take i) ≤ 8 * 1000 := fun i hi => by
    unfold sumF
    exact sum_le_mul _ 8 (by simp; omega) fun x hx => by obtain ⟨c, _, rfl⟩ := List.mem_map.1 hx; have := shle c; omega
  have HSH := hid (fun (c : Nat) (hc : c ≤ 1000000) W (h : RawAt W N (rawOf H) fv cv) => rshown_c H h5 h4 fv cv c hc N W h)
  have HST := hid hst
  have HSL := hid shle
  have HSS := hid sstep
  have HLE := hid sle
  obtain ⟨P, hP⟩ : ∃ P : Nat → Nat, P = (fun i => sumF H.faces (xs.take i)) := ⟨_, rfl⟩
  have HP := hid hP
  have hxs8 : n ≤ 8 := by omega
  have hPn : sumF H.faces xs = P n := by rw [hP, ← HN.out]; simp
  have hP0 : P 0 = 0 := by rw [hP]; simp [sumF]
  rw [hPn]
  clear hr hR hC hV hF0 hff hn hds hd hd8 es hb0 h1 h2 h3 h4 h5 hst shle sstep sle hout hP hPn
  have ⟨k0, k1, k2, k3, k4, k5, k6, k7⟩ := cells8 HX.out
  go_enter Try.func23, Try.ntmps23
  go_wp2_with fail
  obtain ⟨w1, hw1⟩ : ∃ w1, w.alloc (.cells (handR (rawOf H) fv cv) 26) = w1 := ⟨_, rfl⟩
  rw [hw1] at HX HB HR HC k0 k1 k2 k3 k4 k5 k6 k7 ⊢
  clear hw1
  have hgw : g < w1.heap.size := heap_lt HX.out
  go_loopw [5, 6] (fun nv ix wr => ∃ i : Nat, i ≤ n ∧ ix = .int .i64 ((i : Nat) : Int) ∧ nv = .int .i64 ((P i : Nat) : Int) ∧ Below w1.heap.size w1 wr) (fun _ ix _ => n - (intOf ix).toNat)
  case atStart => exact ⟨0, by omega, rfl, by rw [hP0]; rfl, Below.refl _ _⟩
  case round =>
    obtain ⟨i, hi, rfl, rfl, hbw⟩ := hrel
    have HBW := hid hbw
    have HX2 := hid (heap_below hbw HX.out hgw)
    have HR2 := hid (HR.out.below (hbw.mono HR.out.le))
    have hC2 := HC.out.below (hbw.mono HC.out.le)
    clear hbw
    rcases Nat.lt_or_ge i n with hlt2 | hge2
    · have hin : decide (((i : Nat) : Int) < ((n : Nat) : Int)) = true := decide_eq_true (by omega)
      have hin' : ((i : Nat) : Int) < ((n : Nat) : Int) := by omega
      have hi0 : (0 : Int) ≤ ((i : Nat) : Int) := by omega
      have hix : i < xs.length := by rw [HN.out]; exact hlt2
      obtain ⟨p', c', e', hfc⟩ := hC2.at'
      injection e' with ep _ ec
      subst ep
      subst ec
      obtain ⟨b, o, rfl, hbN, c1⟩ := hfc i (by rw [List.length_map]; exact hix)
      rw [List.getElem_map] at c1
      have hx2 := HST.out i hix
      have hs1 : P (i + 1) = P i + shF H.faces xs[i] := by rw [HP.out]; exact HSS.out i hix
      have hs2 := HSL.out xs[i]
      have hs3 : P i ≤ 8 * 1000 := by rw [HP.out]; exact HLE.out i (by omega)
      have HC1 := hid c1
      obtain ⟨x, hx'⟩ : ∃ x, xs[i] = x := ⟨_, rfl⟩
      rw [hx'] at HC1 hx2 hs1 hs2
      have HSX := hid (HSH.out x (by omega))
      obtain ⟨y, hy⟩ : ∃ y, shF H.faces x = y := ⟨_, rfl⟩
      rw [hy] at HSX hs1 hs2
      obtain ⟨S, hS⟩ : ∃ S, P i = S := ⟨_, rfl⟩
      rw [hS] at hs1 hs3 ⊢
      have HSN := hid hs1
      have hiw : IntKind.i64.wrap (((i : Nat) : Int) + 1) = ((i + 1 : Nat) : Int) := (IntWalk.i64_in _ (by omega)).trans (by omega)
      have hsw : IntKind.i64.wrap (((S : Nat) : Int) + ((y : Nat) : Int)) = ((S + y : Nat) : Int) := (IntWalk.i64_in _ (by omega)).trans (by omega)
      have hsy : S + y ≤ 9000000000000000000 := by omega
      clear hs1 hs2 hx2 hx' hy hS hfc hC2 c1
      go_upto_region 7 with fail
      have hbd : Below wr.heap.size wr wr.drew := ⟨rfl, rfl, rfl, Nat.le_refl _, fun _ _ => rfl⟩
      have hS0 : Below wr.heap.size wr wr.drew := hbd
      refine regD (fun Y => Below wr.heap.size wr Y) (fun _ => true) (by kernel_rfl) ?_
      refine takeE (i := 0) (.int .i64 ((S : Nat) : Int)) (d := some 23) rfl (by kernel_rfl) (by kernel_rfl) (by kernel_rfl) (by kernel_rfl) (fun _ _ _ h => h) rfl (fun Y hY => by exact rfl) hS0 rfl ?_
      simp only [Act.put, List.setIfInBounds_toArray, List.set_cons_zero, List.set_cons_succ]
      refine takeE (i := 1) (.agg (handR (rawOf H) fv cv)) (d := some 24) rfl (by kernel_rfl) (by kernel_rfl) (by kernel_rfl) (by kernel_rfl) (fun _ _ _ h => h) rfl (fun Y hY => by exact exec_ldR rfl rfl (heap_below hY HX2.out (heap_lt HX2.out))) hS0 rfl ?_
      simp only [Act.put, List.setIfInBounds_toArray, List.set_cons_zero, List.set_cons_succ]
      refine takeE (i := 2) (.slice (some ⟨b, o, none⟩) n kp) (d := some 25) rfl (by kernel_rfl) (by kernel_rfl) (by kernel_rfl) (by kernel_rfl) (fun _ _ _ h => h) rfl (fun Y hY => by exact rfl) hS0 rfl ?_
      simp only [Act.put, List.setIfInBounds_toArray, List.set_cons_zero, List.set_cons_succ]
      refine takeE (i := 3) (.int .i64 ((i : Nat) : Int)) (d := some 26) rfl (by kernel_rfl) (by kernel_rfl) (by kernel_rfl) (by kernel_rfl) (fun _ _ _ h => h) rfl (fun Y hY => by exact rfl) hS0 rfl ?_
      simp only [Act.put, List.setIfInBounds_toArray, List.set_cons_zero, List.set_cons_succ]
      refine takeE (i := 4) (.pointer (some ⟨b, o + i, none⟩)) (d := some 27) rfl (by kernel_rfl) (by kernel_rfl) (by kernel_rfl) (by kernel_rfl) (fun _ _ _ h => h) rfl (fun Y hY => by exact exec_idxA rfl rfl rfl hin') hS0 rfl ?_
      simp only [Act.put, List.setIfInBounds_toArray, List.set_cons_zero, List.set_cons_succ]
      refine takeE (i := 5) (.int .i64 ((x : Nat) : Int)) (d := some 28) rfl (by kernel_rfl) (by kernel_rfl) (by kernel_rfl) (by kernel_rfl) (fun _ _ _ h => h) rfl (fun Y hY => by exact exec_ldI rfl rfl (crs_cell hY HC1.out)) hS0 rfl ?_
      simp only [Act.put, List.setIfInBounds_toArray, List.set_cons_zero, List.set_cons_succ]
      refine stepD 6 (by kernel_rfl) rfl rfl (fun K hK => ?_)
      go_simp
      go_at_call 51
      refine (HSX.out _ (HR2.out.below (hS0.mono HR2.out.le))).mono ?_
      rintro e w2 ⟨rfl, hb2⟩
      have hS0 : Below wr.heap.size wr w2 := hS0.trans (hb2.mono hS0.size)
      go_simp
      refine hK _ _ (fun _ => hS0) ?_
      clear hK K hb2
      refine takeE (i := 7) (.int .i64 ((S + y : Nat) : Int)) (d := some 30) rfl (by kernel_rfl) (by kernel_rfl) (by kernel_rfl) (by kernel_rfl) (fun _ _ _ h => h) rfl (fun Y hY => by exact exec_addN rfl rfl rfl hsy) hS0 rfl ?_
      simp only [Act.put, List.setIfInBounds_toArray, List.set_cons_zero, List.set_cons_succ]
      refine stepD 8 (by kernel_rfl) rfl rfl (fun K hK => ?_)
      go_simp
      refine hK _ _ (fun _ => hS0) ?_
      clear hK K
      refine doneD (by kernel_rfl) ?_ _
      refine OnlyNorm.normal ?_
      have HS := hid hS0
      clear hS0 hbd
      go_wp2_with fail
      go_roundw
      case rel => exact ⟨i + 1, by omega, rfl, by rw [HSN.out]; first | rfl | exact congrArg (Value.int .i64) (by omega), HBW.out.trans (HS.out.mono HBW.out.size)⟩
      case measure => simp only [intOf, Int.toNat_natCast]; omega
    · obtain rfl : i = n := by omega
      have hin : decide (((i : Nat) : Int) < ((i : Nat) : Int)) = false := decide_eq_false (by omega)
      clear hC2
      go_wp2_with fail
      go_ret
      exact ⟨rfl, HB.out.trans (HBW.out.mono (by have := HB.out.size; omega))⟩
end Go.Proofs.Ytmjnelkeiogdcaa
/- Walks of the reference: the outcome of a course, of all kinds. -/
namespace Go.Proofs.Ytmjnelkeiogdcaa
open Go Go.RowKit Go.Shelf
set_option maxRecDepth 100000

theorem ints_mono {w : World} {B B' : Nat} {v : Value} {xs : List Int} (h : Ints w B v xs) (hB : B' ≤ B) : Ints w B' v xs := ⟨h.1, h.2.imp id fun ⟨g, cap, cur, h3, h4, h5⟩ => ⟨g, cap, cur, h3, by omega, h5⟩⟩
theorem RawAt.readsC {W : World} {N : Nat} {R : RH} {fv cv : Value} (h : RawAt W N R fv cv) (h0 : 0 < R.cards.length) : ReadsA W cv R.cards := by
  obtain ⟨p, c, rfl, hc⟩ := h.cards
  obtain ⟨b, o, e, hb, _⟩ := hc 0 h0
  subst e
  refine .inr ⟨⟨b, o, none⟩, c, rfl, fun _ => Nat.lt_of_lt_of_le hb h.le, fun k hk => ?_⟩
  obtain ⟨b', o', e', _, hcell⟩ := hc k hk
  injection e' with e'
  injection e' with e1 e2 _
  subst e1 e2
  rw [show (⟨b, o, none⟩ : Addr).add k = ⟨b, o + k, none⟩ by unfold Addr.add; split <;> simp_all]
  exact hcell
set_option maxHeartbeats 4000000 in
theorem rout2_c (H : HV) (hV : Val H) (hk : H.kind = 2) (fv cv : Value) (xs : List Nat) (v : Value) (t : St) (hr : runN H (beginS H) xs = some t) (hd : dep t = 0) (N : Nat) (w : World) (hR : RawAt w N (rawOf H) fv cv) (hC : CrsAt w N v (xs.map fun c => ((c : Nat) : Int))) :
    Calls Try.prog 23 #[.agg (handR (rawOf H) fv cv), v] w fun e w' => e = .returned (.int .i64 (outN H t)) ∧ Below w.heap.size w w' := by
  have hx := heap_alloc_new w (.cells (handR (rawOf H) fv cv) 26)
  have hb : Below w.heap.size w (w.alloc (.cells (handR (rawOf H) fv cv) 26)) := (Below.refl _ _).alloc (Nat.le_refl _) _
  have HX := hid hx
  have HB := hid hb
  have HR := hid (hR.below (hb.mono hR.le))
  have HC := hid (hC.below (hb.mono hC.le))
  obtain ⟨p, kp, hv, -⟩ := hC.at'
  rw [List.length_map] at hv
  have hF0 := begin_fit H hV.hand.ok
  have hds := (run_fit H xs _ t hF0 hr).2
  have hd8 := dep_le hF0
  have hff := hV.faces
  subst hv
  obtain ⟨n, hn⟩ : ∃ n, xs.length = n := ⟨_, rfl⟩
  have HN := hid hn
  rw [hn] at hds ⊢
  obtain ⟨g, hg⟩ : ∃ g, w.heap.size = g := ⟨_, rfl⟩
  have hNg : N ≤ g := hg ▸ hR.le
  rw [hg] at HX HB
  rw [hg]
  clear hx hb
  have q1 : ((rawOf H).kind == 1) = false := by show (((H.kind : Nat) : Int) == 1) = false; simp [hk]
  have q2 : ((rawOf H).kind == 2) = true := by show (((H.kind : Nat) : Int) == 2) = true; simp [hk]
  obtain ⟨-, h1, h2, h3⟩ : H.kind = 2 ∧ 1 ≤ H.low ∧ H.low ≤ H.high ∧ H.high ≤ 1000 := by
    rcases hV.hand.ok with h | h | h | h | h
    · exact absurd h.1 (by omega)
    · exact h
    all_goals (exact absurd h.1 (by omega))
  have hb0 : beginS H = .marked 0 := by simp [beginS, hk]
  rw [hb0] at hr
  obtain ⟨c, hxs, hc, ht⟩ : ∃ c, xs = [c] ∧ c < H.high + 1 - H.low ∧ t = .marked (H.low + c) := by
    rcases run_marked H h1 xs t hr with ⟨-, rfl⟩ | h
    · simp [dep] at hd
    · exact h
  have hout : outN H t = (((H.low + c) % 2 : Nat) : Int) := by rw [ht]; rfl
  rw [hout]
  have hlo : (rawOf H).low = ((H.low : Nat) : Int) := by show H.lowI = _; unfold HV.low at *; omega
  obtain ⟨lo, hlo'⟩ : ∃ lo, H.low = lo := ⟨_, rfl⟩
  rw [hlo'] at hlo hc h1 h2
  rw [hlo']
  have hn1 : n = 1 := by rw [← hn, hxs]; rfl
  subst hn1
  obtain ⟨p', c', e', hfc⟩ := HC.out.at'
  injection e' with ep _ ec
  subst ep
  subst ec
  obtain ⟨b, o, rfl, hbN, c1⟩ := hfc 0 (by rw [List.length_map, hn]; omega)
  simp only [hxs, List.map_cons, List.getElem_cons_zero, Nat.add_zero] at c1
  have ⟨k0, k1, k2, k3, k4, k5, k6, k7⟩ := cells8 HX.out
  rw [hlo] at k3
  obtain ⟨z, hz⟩ : ∃ z, lo + c = z := ⟨_, rfl⟩
  have hz1 : z ≤ 2001 := by omega
  rw [hz]
  have hw1 : IntKind.i64.wrap (((lo : Nat) : Int) + ((c : Nat) : Int)) = ((z : Nat) : Int) := (IntWalk.i64_in _ (by omega)).trans (by omega)
  have hw2 : IntKind.i64.wrap (((z : Nat) : Int) % 2) = ((z % 2 : Nat) : Int) := (IntWalk.i64_in _ (by omega)).trans (by omega)
  have hw3 : Int.tmod ((z : Nat) : Int) 2 = ((z % 2 : Nat) : Int) := tmodN z 2
  have hw4 : IntKind.i64.wrap ((z % 2 : Nat) : Int) = ((z % 2 : Nat) : Int) := IntWalk.i64_in _ (by omega)
  have h01 : (0 : Int) < 1 := by omega
  clear hr hR hC hV hF0 hff hn hds hd hd8 hb0 h1 h2 h3 hc ht hout hxs hlo' hz hfc
  go_enter Try.func23, Try.ntmps23
  go_upto_region 10 with fail
  go_quiet (fail)
  go_wp2_with fail
  go_ret
  exact ⟨by first | rfl | (exact congrArg Ending.returned (congrArg (Value.int .i64) (by omega))), HB.out.trans ⟨rfl, rfl, rfl, Nat.le_refl _, fun _ _ => rfl⟩⟩
set_option maxHeartbeats 4000000 in
theorem rout5_c (H : HV) (hV : Val H) (hk : H.kind = 5) (fv cv : Value) (xs : List Nat) (v : Value) (t : St) (hr : runN H (beginS H) xs = some t) (hd : dep t = 0) (N : Nat) (w : World) (hR : RawAt w N (rawOf H) fv cv) (hC : CrsAt w N v (xs.map fun c => ((c : Nat) : Int))) :
    Calls Try.prog 23 #[.agg (handR (rawOf H) fv cv), v] w fun e w' => e = .returned (.int .i64 (outN H t)) ∧ Below w.heap.size w w' := by
  have hx := heap_alloc_new w (.cells (handR (rawOf H) fv cv) 26)
  have hb : Below w.heap.size w (w.alloc (.cells (handR (rawOf H) fv cv) 26)) := (Below.refl _ _).alloc (Nat.le_refl _) _
  have HX := hid hx
  have HB := hid hb
  have HR := hid (hR.below (hb.mono hR.le))
  have HC := hid (hC.below (hb.mono hC.le))
  obtain ⟨p, kp, hv, -⟩ := hC.at'
  rw [List.length_map] at hv
  have hF0 := begin_fit H hV.hand.ok
  have hds := (run_fit H xs _ t hF0 hr).2
  have hd8 := dep_le hF0
  have hff := hV.faces
  subst hv
  obtain ⟨n, hn⟩ : ∃ n, xs.length = n := ⟨_, rfl⟩
  have HN := hid hn
  rw [hn] at hds ⊢
  obtain ⟨g, hg⟩ : ∃ g, w.heap.size = g := ⟨_, rfl⟩
  have hNg : N ≤ g := hg ▸ hR.le
  rw [hg] at HX HB
  rw [hg]
  clear hx hb
  have q1 : ((rawOf H).kind == 1) = false := by show (((H.kind : Nat) : Int) == 1) = false; simp [hk]
  have q2 : ((rawOf H).kind == 2) = false := by show (((H.kind : Nat) : Int) == 2) = false; simp [hk]
  have q3 : ((rawOf H).kind == 3) = false := by show (((H.kind : Nat) : Int) == 3) = false; simp [hk]
  have q4 : ((rawOf H).kind == 4) = false := by show (((H.kind : Nat) : Int) == 4) = false; simp [hk]
  obtain ⟨-, h1, h2, h3⟩ : H.kind = 5 ∧ 1 ≤ H.cards.length ∧ H.cards.length ≤ 20 ∧ ∀ c ∈ H.cards, c < 8 := by
    rcases hV.hand.ok with h | h | h | h | h
    · exact absurd h.1 (by omega)
    · exact absurd h.1 (by omega)
    · exact absurd h.1 (by omega)
    · exact absurd h.1 (by omega)
    · exact h
  have hb0 : beginS H = .cut (-1) := by simp [beginS, hk]
  rw [hb0] at hr
  obtain ⟨c, hc, hxs, ht⟩ : ∃ (c : Nat) (hc : c < H.cards.length), xs = [c] ∧ t = .cut ((H.cards[c] : Nat) : Int) := by
    rcases run_cut H xs t hr with ⟨-, rfl⟩ | h
    · simp [dep] at hd
    · exact h
  have hout : outN H t = ((H.cards[c] : Nat) : Int) := by rw [ht]; rfl
  rw [hout]
  have hn1 : n = 1 := by rw [← hn, hxs]; rfl
  subst hn1
  obtain ⟨p', c', e', hfc⟩ := HC.out.at'
  injection e' with ep _ ec
  subst ep
  subst ec
  obtain ⟨b, o, rfl, hbN, c1⟩ := hfc 0 (by rw [List.length_map, hn]; omega)
  simp only [hxs, List.map_cons, List.getElem_cons_zero, Nat.add_zero] at c1
  obtain ⟨pc, cc, hce, hcd⟩ := HR.out.cards
  have hCr : (rawOf H).cards.length = H.cards.length := by simp [rawOf]
  obtain ⟨b2, o2, hpe, hbN2, c2⟩ := hcd c (by rw [hCr]; exact hc)
  have e2 : (rawOf H).cards[c]'(by rw [hCr]; exact hc) = ((H.cards[c] : Nat) : Int) := by simp [rawOf]
  rw [e2] at c2
  obtain ⟨y, hy⟩ : ∃ y, H.cards[c] = y := ⟨_, rfl⟩
  rw [hy] at c2
  rw [hy]
  obtain ⟨C, hCC⟩ : ∃ C, H.cards.length = C := ⟨_, rfl⟩
  rw [hCr, hCC] at hce
  rw [hCC] at hc
  subst hpe
  have hcI : ((c : Nat) : Int) < ((C : Nat) : Int) := by omega
  have hc0 : (0 : Int) ≤ ((c : Nat) : Int) := by omega
  have h01 : (0 : Int) < 1 := by omega
  clear hr hR hC hV hF0 hff hn hds hd hd8 hb0 h1 h2 h3 ht hout hfc hcd hy e2 hCr hCC hxs hbN hbN2
  subst hce
  have ⟨k0, k1, k2, k3, k4, k5, k6, k7⟩ := cells8 HX.out
  go_enter Try.func23, Try.ntmps23
  go_upto_region 27 with fail
  go_quiet (fail)
  go_wp2_with fail
  go_ret
  exact ⟨rfl, HB.out.trans ⟨rfl, rfl, rfl, Nat.le_refl _, fun _ _ => rfl⟩⟩
set_option maxHeartbeats 4000000 in
theorem rout3_c (H : HV) (hV : Val H) (hk : H.kind = 3) (fv cv : Value) (xs : List Nat) (v : Value) (t : St) (hr : runN H (beginS H) xs = some t) (hd : dep t = 0) (N : Nat) (w : World) (hR : RawAt w N (rawOf H) fv cv) (hC : CrsAt w N v (xs.map fun c => ((c : Nat) : Int))) :
    Calls Try.prog 23 #[.agg (handR (rawOf H) fv cv), v] w fun e w' => e = .returned (.int .i64 (outN H t)) ∧ Below w.heap.size w w' := by
  have hx := heap_alloc_new w (.cells (handR (rawOf H) fv cv) 26)
  have hb : Below w.heap.size w (w.alloc (.cells (handR (rawOf H) fv cv) 26)) := (Below.refl _ _).alloc (Nat.le_refl _) _
  have HX := hid hx
  have HB := hid hb
  have HR := hid (hR.below (hb.mono hR.le))
  have HC := hid (hC.below (hb.mono hC.le))
  obtain ⟨p, kp, hv, -⟩ := hC.at'
  rw [List.length_map] at hv
  have hF0 := begin_fit H hV.hand.ok
  have hds := (run_fit H xs _ t hF0 hr).2
  have hd8 := dep_le hF0
  have hff := hV.faces
  subst hv
  obtain ⟨n, hn⟩ : ∃ n, xs.length = n := ⟨_, rfl⟩
  have HN := hid hn
  rw [hn] at hds ⊢
  obtain ⟨g, hg⟩ : ∃ g, w.heap.size = g := ⟨_, rfl⟩
  have hNg : N ≤ g := hg ▸ hR.le
  rw [hg] at HX HB
  rw [hg]
  clear hx hb
  have q1 : ((rawOf H).kind == 1) = false := by show (((H.kind : Nat) : Int) == 1) = false; simp [hk]
  have q2 : ((rawOf H).kind == 2) = false := by show (((H.kind : Nat) : Int) == 2) = false; simp [hk]
  have q3 : ((rawOf H).kind == 3) = true := by show (((H.kind : Nat) : Int) == 3) = true; simp [hk]
  obtain ⟨-, h1, h2, h3, h4, h5, h6⟩ : H.kind = 3 ∧ 2 ≤ H.group ∧ H.group ≤ 8 ∧ 2 * H.group + 1 ≤ H.count ∧ H.count ≤ 64 ∧ 1 ≤ H.changes ∧ H.changes ≤ 5 := by
    rcases hV.hand.ok with h | h | h | h | h
    · exact absurd h.1 (by omega)
    · exact absurd h.1 (by omega)
    · exact h
    · exact absurd h.1 (by omega)
    · exact absurd h.1 (by omega)
  have hb0 : beginS H = .divided H.changes H.count := by simp [beginS, hk]
  rw [hb0] at hr
  have hst := stk_step H xs t _ _ hr
  obtain ⟨-, es⟩ := run_divided H xs _ _ t hr
  have hout : outN H t = ((stkN H.group xs H.count / H.group : Nat) : Int) := by rw [es]; rfl
  rw [hout]
  obtain ⟨G, hG⟩ : ∃ G, H.group = G := ⟨_, rfl⟩
  obtain ⟨C, hCC⟩ : ∃ C, H.count = C := ⟨_, rfl⟩
  have hrg : (rawOf H).group = ((G : Nat) : Int) := by show ((H.group : Nat) : Int) = _; rw [hG]
  have hrk : (rawOf H).count = ((C : Nat) : Int) := by show ((H.count : Nat) : Int) = _; rw [hCC]
  rw [hG, hCC] at hst
  rw [hG] at h1 h2
  rw [hCC] at h4
  rw [hG, hCC]
  have HST2 := hid hst
  have hn8 : n ≤ 8 := by omega
  clear hr hR hC hV hF0 hff hn hds hd hd8 hout es hb0 h3 h5 h6 hG hCC hst
  have ⟨k0, k1, k2, k3, k4, k5, k6, k7⟩ := cells8 HX.out
  rw [hrk] at k1
  go_enter Try.func23, Try.ntmps23
  go_wp2_with fail
  obtain ⟨w1, hw1⟩ : ∃ w1, w.alloc (.cells (handR (rawOf H) fv cv) 26) = w1 := ⟨_, rfl⟩
  rw [hw1] at HX HB HR HC k0 k1 k2 k3 k4 k5 k6 k7 ⊢
  clear hw1
  have hgw : g < w1.heap.size := heap_lt HX.out
  go_loopw [7, 8] (fun nv ix wr => ∃ i : Nat, i ≤ n ∧ ix = .int .i64 ((i : Nat) : Int) ∧ nv = .int .i64 ((stkN G (xs.take i) C : Nat) : Int) ∧ Below w1.heap.size w1 wr) (fun _ ix _ => n - (intOf ix).toNat)
  case atStart => exact ⟨0, by omega, rfl, by simp [stkN], Below.refl _ _⟩
  case round =>
    obtain ⟨i, hi, rfl, rfl, hbw⟩ := hrel
    have ⟨k0, k1, k2, k3, k4, k5, k6, k7⟩ := cells8 (heap_below hbw HX.out (heap_lt HX.out))
    rw [hrg] at k5
    have HBW := hid hbw
    have hC2 := HC.out.below (hbw.mono HC.out.le)
    clear hbw
    rcases Nat.lt_or_ge i n with hlt2 | hge2
    · have hin : decide (((i : Nat) : Int) < ((n : Nat) : Int)) = true := decide_eq_true (by omega)
      have hin' : ((i : Nat) : Int) < ((n : Nat) : Int) := by omega
      have hi0 : (0 : Int) ≤ ((i : Nat) : Int) := by omega
      have hix : i < xs.length := by rw [HN.out]; exact hlt2
      obtain ⟨p', c', e', hfc⟩ := hC2.at'
      injection e' with ep _ ec
      subst ep
      subst ec
      obtain ⟨b, o, rfl, hbN, c1⟩ := hfc i (by rw [List.length_map]; exact hix)
      rw [List.getElem_map] at c1
      have hx := HST2.out i hix
      have hS64 := stk_le G (xs.take i) C
      have hsn := stk_snoc G (xs.take i) xs[i] C
      rw [List.take_append_getElem hix] at hsn
      obtain ⟨x, hx'⟩ : ∃ x, xs[i] = x := ⟨_, rfl⟩
      obtain ⟨S, hS⟩ : ∃ S, stkN G (xs.take i) C = S := ⟨_, rfl⟩
      rw [hx'] at c1 hx hsn
      rw [hS] at hx hS64 hsn ⊢
      have HSN := hid hsn
      have HL := hid (fun W => rleft_c S G x ⟨hx, by omega⟩ ⟨by omega, by omega⟩ W)
      have hiw : IntKind.i64.wrap (((i : Nat) : Int) + 1) = ((i + 1 : Nat) : Int) := (IntWalk.i64_in _ (by omega)).trans (by omega)
      clear hsn hx' hS hfc hC2 hx hS64
      go_upto_region 16 with fail
      go_quiet ((go_at_call 52; refine Calls.quiet_of_same ((HL.out _).mono (by rintro e w' ⟨h, h'⟩; exact ⟨h, h'.symm⟩))))
      go_wp2_with fail
      go_roundw
      case rel => exact ⟨i + 1, by omega, rfl, by rw [HSN.out], HBW.out.trans ⟨rfl, rfl, rfl, Nat.le_refl _, fun _ _ => rfl⟩⟩
      case measure => simp only [intOf, Int.toNat_natCast]; omega
    · obtain rfl : i = n := by omega
      have hin : decide (((i : Nat) : Int) < ((i : Nat) : Int)) = false := decide_eq_false (by omega)
      have hall : xs.take i = xs := List.take_of_length_le (by rw [HN.out]; omega)
      rw [hall]
      have hS64 := stk_le G xs C
      obtain ⟨S, hS⟩ : ∃ S, stkN G xs C = S := ⟨_, rfl⟩
      rw [hS] at hS64 ⊢
      have HSS := hid hS
      have hne : (((G : Nat) : Int) == 0) = false := by simp; omega
      have hne' : ((G : Nat) : Int) ≠ 0 := by omega
      have hq : Int.tdiv ((S : Nat) : Int) ((G : Nat) : Int) = ((S / G : Nat) : Int) := tdivN S G
      have hql : S / G ≤ S := Nat.div_le_self _ _
      obtain ⟨q, hqq⟩ : ∃ q, S / G = q := ⟨_, rfl⟩
      have HQQ := hid hqq
      rw [hqq] at hq hql
      have wq : IntKind.i64.wrap ((q : Nat) : Int) = ((q : Nat) : Int) := IntWalk.i64_in _ (by omega)
      clear hC2 hall hS hS64 hqq
      go_wp2_with fail
      go_ret
      exact ⟨by rw [HSS.out, HQQ.out]; rfl, HB.out.trans (HBW.out.mono (by have := HB.out.size; omega))⟩
set_option maxHeartbeats 4000000 in
theorem rout4_c (H : HV) (hV : Val H) (hk : H.kind = 4) (fv cv : Value) (xs : List Nat) (v : Value) (t : St) (hr : runN H (beginS H) xs = some t) (hd : dep t = 0) (N : Nat) (w : World) (hR : RawAt w N (rawOf H) fv cv) (hC : CrsAt w N v (xs.map fun c => ((c : Nat) : Int))) :
    Calls Try.prog 23 #[.agg (handR (rawOf H) fv cv), v] w fun e w' => e = .returned (.int .i64 (outN H t)) ∧ Below w.heap.size w w' := by
  have hx := heap_alloc_new w (.cells (handR (rawOf H) fv cv) 26)
  have hb : Below w.heap.size w (w.alloc (.cells (handR (rawOf H) fv cv) 26)) := (Below.refl _ _).alloc (Nat.le_refl _) _
  have HX := hid hx
  have HB := hid hb
  have HR := hid (hR.below (hb.mono hR.le))
  have HC := hid (hC.below (hb.mono hC.le))
  obtain ⟨p, kp, hv, -⟩ := hC.at'
  rw [List.length_map] at hv
  have hF0 := begin_fit H hV.hand.ok
  have hds := (run_fit H xs _ t hF0 hr).2
  have hd8 := dep_le hF0
  have hff := hV.faces
  subst hv
  obtain ⟨n, hn⟩ : ∃ n, xs.length = n := ⟨_, rfl⟩
  have HN := hid hn
  rw [hn] at hds ⊢
  obtain ⟨g, hg⟩ : ∃ g, w.heap.size = g := ⟨_, rfl⟩
  have hNg : N ≤ g := hg ▸ hR.le
  rw [hg] at HX HB
  rw [hg]
  clear hx hb
  have q1 : ((rawOf H).kind == 1) = false := by show (((H.kind : Nat) : Int) == 1) = false; simp [hk]
  have q2 : ((rawOf H).kind == 2) = false := by show (((H.kind : Nat) : Int) == 2) = false; simp [hk]
  have q3 : ((rawOf H).kind == 3) = false := by show (((H.kind : Nat) : Int) == 3) = false; simp [hk]
  have q4 : ((rawOf H).kind == 4) = true := by show (((H.kind : Nat) : Int) == 4) = true; simp [hk]
  obtain ⟨-, h1, h2, h3, h4, h5⟩ : H.kind = 4 ∧ 1 ≤ H.count ∧ H.count ≤ 4 ∧ H.count ≤ H.cards.length ∧ H.cards.length ≤ 20 ∧ ∀ c ∈ H.cards, c < 8 := by
    rcases hV.hand.ok with h | h | h | h | h
    · exact absurd h.1 (by omega)
    · exact absurd h.1 (by omega)
    · exact absurd h.1 (by omega)
    · exact h
    · exact absurd h.1 (by omega)
  have hb0 : beginS H = .drawn H.count 0 0 := by simp [beginS, hk]
  rw [hb0] at hr hds
  have hn4 : n ≤ 4 := by simp only [dep] at hds; omega
  have hst := drw_step H xs _ t hr
  obtain ⟨-, ga, es, -⟩ := run_drawn H xs _ _ _ t hr
  rw [rest0] at es
  have hout : outN H t = ((numD H.cards xs 0 : Nat) : Int) := by rw [es]; rfl
  rw [hout]
  have hCr : (rawOf H).cards = H.cards.map fun c => ((c : Nat) : Int) := rfl
  have hRC := hR.readsC (by rw [hCr, List.length_map]; omega)
  rw [hCr] at hRC
  obtain ⟨D, hD⟩ : ∃ D, H.cards = D := ⟨_, rfl⟩
  rw [hD] at hRC hst h3 h4 h5
  rw [hD]
  have HST2 := hid hst
  have H8 := hid h5
  have HRC := hid (hRC.below (show Below w.heap.size w (w.alloc (.cells (handR (rawOf H) fv cv) 26)) from (Below.refl _ _).alloc (Nat.le_refl _) _))
  have HDL := hid (show D.length ≤ 20 from h4)
  clear hr hR hC hV hF0 hff hn hds hd hd8 hout es hb0 h1 h2 h3 h4 h5 hst hRC hCr hD
  have ⟨k0, k1, k2, k3, k4, k5, k6, k7⟩ := cells8 HX.out
  go_enter Try.func23, Try.ntmps23
  go_upto_region 19 with fail
  obtain ⟨w1, hw1⟩ : ∃ w1, w.alloc (.cells (handR (rawOf H) fv cv) 26) = w1 := ⟨_, rfl⟩
  rw [hw1] at HX HB HR HC HRC k0 k1 k2 k3 k4 k5 k6 k7 ⊢
  clear hw1
  have hgw : g < w1.heap.size := heap_lt HX.out
  have hbL : Below w1.heap.size w1 (w1.alloc (.cells #[] 3)) := (Below.refl _ _).alloc (Nat.le_refl _) _
  have HBL := hid hbL
  have HM := hid (Ints.made w1 w1.heap.size (Nat.le_refl _))
  have HRL := hid (HRC.out.below hbL)
  have ⟨j0, j1, j2, j3, j4, j5, j6, j7⟩ := cells8 (heap_below hbL HX.out hgw)
  clear hbL
  go_upto_region 20 with (refine wp_append_reads rfl (.tmp 65) (.tmp 67) rfl w1.heap.size _ [] rfl HM.out cv (D.map fun c => ((c : Nat) : Int)) rfl HRL.out (by rw [List.length_map]; have := HDL.out; simp; omega) HBL.out.size ?_; intro dv w2 h1 h2; rw [List.nil_append] at h1)
  have HB2 := hid (HBL.out.grown h2 HBL.out.size (fun k hk => (HM.out.own k hk).1))
  have HD2 := hid h1
  clear h1 h2 HRL HM HBL j0 j1 j2 j3 j4 j5 j6 j7 k0 k1 k2 k3 k4 k5 k6 k7
  go_wp2_with fail
  go_loopw [9, 10, 11] (fun dv nv ix wr => ∃ i : Nat, i ≤ n ∧ ix = .int .i64 ((i : Nat) : Int) ∧ nv = .int .i64 ((numD D (xs.take i) 0 : Nat) : Int) ∧ Ints wr w1.heap.size dv ((deckN D (xs.take i)).map fun c => ((c : Nat) : Int)) ∧ Below w1.heap.size w1 wr) (fun _ _ ix _ => n - (intOf ix).toNat)
  case atStart => exact ⟨0, by omega, rfl, by simp [numD], HD2.out, HB2.out⟩
  case round =>
    obtain ⟨i, hi, rfl, rfl, hdv, hbw⟩ := hrel
    have HBW := hid hbw
    have hC2 := HC.out.below (hbw.mono HC.out.le)
    have HDV := hid hdv
    have hzw := hbw.size
    clear hbw hdv HD2 HB2
    rcases Nat.lt_or_ge i n with hlt2 | hge2
    · have hin : decide (((i : Nat) : Int) < ((n : Nat) : Int)) = true := decide_eq_true (by omega)
      have hin' : ((i : Nat) : Int) < ((n : Nat) : Int) := by omega
      have hi0 : (0 : Int) ≤ ((i : Nat) : Int) := by omega
      have hix : i < xs.length := by rw [HN.out]; exact hlt2
      obtain ⟨p', c', e', hfc⟩ := hC2.at'
      injection e' with ep _ ec
      subst ep
      subst ec
      obtain ⟨b, o, rfl, hbN, c1⟩ := hfc i (by rw [List.length_map]; exact hix)
      rw [List.getElem_map] at c1
      have hx := HST2.out i hix
      have hns := num_snoc (xs.take i) D xs[i] 0
      rw [List.take_append_getElem hix] at hns
      have hnl := deck_lt (xs.take i) D 0 0 H8.out (by decide)
      rw [List.length_take, Nat.min_eq_left (by omega)] at hnl
      have hp4 : 8 ^ (0 + i) ≤ 8 ^ 4 := Nat.pow_le_pow_right (by omega) (by omega)
      have hdl := deck_len (xs.take i) D
      rw [List.length_take, Nat.min_eq_left (by omega)] at hdl
      have hdm := fun y (h : y ∈ deckN D (xs.take i)) => H8.out y (deck_mem (xs.take i) D y h)
      obtain ⟨x, hx'⟩ : ∃ x, xs[i] = x := ⟨_, rfl⟩
      obtain ⟨S, hS⟩ : ∃ S, numD D (xs.take i) 0 = S := ⟨_, rfl⟩
      obtain ⟨E, hE⟩ : ∃ E, deckN D (xs.take i) = E := ⟨_, rfl⟩
      rw [hx'] at c1 hx hns
      rw [hS] at hns hnl ⊢
      rw [hE] at hns hdl hdm HDV
      have hxE : x < E.length := by omega
      have hE20 : E.length ≤ 20 := by have := HDL.out; omega
      have hgd : E.getD x 0 = E[x] := by rw [List.getD_eq_getElem?_getD, List.getElem?_eq_getElem hxE]; rfl
      rw [hgd] at hns
      have hy8 := hdm _ (List.getElem_mem hxE)
      obtain ⟨q, cap, hdf, hcap, hqz⟩ := HDV.out.form (by rw [List.length_map]; omega)
      rw [List.length_map] at hdf hcap
      subst hdf
      have c2 := HDV.out.at x (by rw [List.length_map]; exact hxE)
      rw [List.getElem_map] at c2
      obtain ⟨y, hy⟩ : ∃ y, E[x] = y := ⟨_, rfl⟩
      rw [hy] at c2 hns hy8
      have HNS := hid hns
      have HPT := hid (HDV.out.part x (by rw [List.length_map]; omega))
      have HTL := hid (HDV.out.tail (x + 1) (by rw [List.length_map]; omega))
      obtain ⟨m, hm⟩ : ∃ m, E.length = m := ⟨_, rfl⟩
      rw [hm] at HTL hcap hE20 hxE ⊢
      rw [hm] at HDV
      have hxI : ((x : Nat) : Int) < ((m : Nat) : Int) := by omega
      have hx0 : (0 : Int) ≤ ((x : Nat) : Int) := by omega
      have hw8 : IntKind.i64.wrap (8 * ((S : Nat) : Int)) = ((S * 8 : Nat) : Int) := (IntWalk.i64_in _ (by omega)).trans (by omega)
      have hws : IntKind.i64.wrap (((S : Nat) : Int) * 8 + ((y : Nat) : Int)) = ((S * 8 + y : Nat) : Int) := (IntWalk.i64_in _ (by omega)).trans (by omega)
      have hiw : IntKind.i64.wrap (((i : Nat) : Int) + 1) = ((i + 1 : Nat) : Int) := (IntWalk.i64_in _ (by omega)).trans (by omega)
      have hxc : x ≤ cap := by omega
      have hc0 : 0 < cap := by omega
      have hx1 : x + 1 ≤ m := by omega
      have hx9 : x + 1 ≤ 9000000000000000000 := by omega
      have hel : (E.take x).length ≤ 20 := by rw [List.length_take]; omega
      have hel2 : (E.drop (x + 1)).length ≤ 20 := by rw [List.length_drop]; omega
      clear hns hnl hp4 hdl hdm hx' hS hE hgd hy hm hfc hC2 hx hqz
      go_upto_region 25 with fail
      have hS0 : Below wr.heap.size wr wr.drew := ⟨rfl, rfl, rfl, Nat.le_refl _, fun _ _ => rfl⟩
      refine regD (fun Y => True) (fun _ => true) (by kernel_rfl) ?_
      have hS1 : True := trivial
      refine takeE (i := 1) (.slice (some ⟨q, 0, none⟩) m cap) (d := some 87) rfl (by kernel_rfl) (by kernel_rfl) (by kernel_rfl) (by kernel_rfl) (fun _ _ _ h => h) rfl (fun Y hY => by exact rfl) hS1 rfl ?_
      simp only [Act.put, List.setIfInBounds_toArray, List.set_cons_zero, List.set_cons_succ]
      refine takeE (i := 2) (.int .i64 ((x : Nat) : Int)) (d := some 88) rfl (by kernel_rfl) (by kernel_rfl) (by kernel_rfl) (by kernel_rfl) (fun _ _ _ h => h) rfl (fun Y hY => by exact rfl) hS1 rfl ?_
      simp only [Act.put, List.setIfInBounds_toArray, List.set_cons_zero, List.set_cons_succ]
      refine takeE (i := 3) (.slice (some ⟨q, 0, none⟩) x cap) (d := some 89) rfl (by kernel_rfl) (by kernel_rfl) (by kernel_rfl) (by kernel_rfl) (fun _ _ _ h => h) rfl (fun Y hY => by exact exec_slc rfl rfl rfl hxc hc0) hS1 rfl ?_
      simp only [Act.put, List.setIfInBounds_toArray, List.set_cons_zero, List.set_cons_succ]
      refine takeE (i := 5) (.slice (some ⟨q, 0, none⟩) m cap) (d := some 91) rfl (by kernel_rfl) (by kernel_rfl) (by kernel_rfl) (by kernel_rfl) (fun _ _ _ h => h) rfl (fun Y hY => by exact rfl) hS1 rfl ?_
      simp only [Act.put, List.setIfInBounds_toArray, List.set_cons_zero, List.set_cons_succ]
      refine takeE (i := 6) (.int .i64 ((x : Nat) : Int)) (d := some 92) rfl (by kernel_rfl) (by kernel_rfl) (by kernel_rfl) (by kernel_rfl) (fun _ _ _ h => h) rfl (fun Y hY => by exact rfl) hS1 rfl ?_
      simp only [Act.put, List.setIfInBounds_toArray, List.set_cons_zero, List.set_cons_succ]
      refine takeE (i := 7) (.int .i64 ((x + 1 : Nat) : Int)) (d := some 93) rfl (by kernel_rfl) (by kernel_rfl) (by kernel_rfl) (by kernel_rfl) (fun _ _ _ h => h) rfl (fun Y hY => by exact exec_addN (a := x) (b := 1) rfl rfl rfl hx9) hS1 rfl ?_
      simp only [Act.put, List.setIfInBounds_toArray, List.set_cons_zero, List.set_cons_succ]
      refine takeE (i := 8) (.slice (some ⟨q, if cap = x + 1 then 0 else x + 1, none⟩) (m - (x + 1)) (cap - (x + 1))) (d := some 94) rfl (by kernel_rfl) (by kernel_rfl) (by kernel_rfl) (by kernel_rfl) (fun _ _ _ h => h) rfl (fun Y hY => by exact exec_slcL rfl rfl rfl hx1 hcap) hS1 rfl ?_
      simp only [Act.put, List.setIfInBounds_toArray, List.set_cons_zero, List.set_cons_succ]
      obtain ⟨X0, hX0⟩ : ∃ X0, wr.drew = X0 := ⟨_, rfl⟩
      rw [hX0] at hS0 ⊢
      have hsz : X0.heap.size = wr.heap.size := by rw [← hX0]; rfl
      clear hX0
      refine stepD 0 (by kernel_rfl) rfl rfl (fun K hK => ?_)
      go_simp
      have hbN : Below X0.heap.size X0 (X0.alloc (.cells #[] 3)) := (Below.refl _ _).alloc (Nat.le_refl _) _
      have hcX1 := Ints.made X0 X0.heap.size (Nat.le_refl _)
      have hBX1 : Below wr.heap.size wr (X0.alloc (.cells #[] 3)) := hS0.trans (hbN.mono (by omega))
      have hsX1 : wr.heap.size ≤ (X0.alloc (.cells #[] 3)).heap.size := hBX1.size
      rw [hsz] at hcX1
      refine hK _ _ (fun _ => trivial) ?_
      clear hK K hbN hS0
      try simp only [hsz]
      generalize X0.alloc (.cells #[] 3) = X1 at *
      refine stepD 4 (by kernel_rfl) rfl rfl (fun K hK => ?_)
      refine wpO_app_ints (.tmp 86) (.tmp 89) rfl wr.heap.size _ [] rfl hcX1 (.slice (some ⟨q, 0, none⟩) x cap) _ rfl (HPT.out.below hBX1) (by rw [← List.map_take, List.length_map, List.length_nil]; omega) hsX1 (fun v1 X2 hcX2 hG => ?_)
      rw [List.nil_append] at hcX2
      have hBX2 := hBX1.grown hG hsX1 (fun k hk => (hcX1.own k hk).1)
      have hsX2 : wr.heap.size ≤ X2.heap.size := hBX2.size
      try simp only [Act.put, List.setIfInBounds_toArray, List.set_cons_zero, List.set_cons_succ]
      refine hK _ _ (fun _ => trivial) ?_
      clear hK K hG
      refine stepD 9 (by kernel_rfl) rfl rfl (fun K hK => ?_)
      refine wpO_app_ints (.tmp 90) (.tmp 94) rfl wr.heap.size _ _ rfl hcX2 (.slice (some ⟨q, if cap = x + 1 then 0 else x + 1, none⟩) (m - (x + 1)) (cap - (x + 1))) _ rfl (HTL.out.below hBX2) (by rw [← List.map_take, ← List.map_drop, List.length_map, List.length_map]; omega) hsX2 (fun v2 X3 hcX3 hG => ?_)
      have hBX3 := hBX2.grown hG hsX2 (fun k hk => (hcX2.own k hk).1)
      try simp only [Act.put, List.setIfInBounds_toArray, List.set_cons_zero, List.set_cons_succ]
      refine hK _ _ (fun _ => trivial) ?_
      clear hK K hG
      refine stepD 10 (by kernel_rfl) rfl rfl (fun K hK => ?_)
      go_simp
      refine hK _ _ (fun _ => trivial) ?_
      clear hK K
      refine doneD (by kernel_rfl) ?_ _
      refine OnlyNorm.normal ?_
      have HC3 := hid hcX3
      have HB3 := hid hBX3
      clear hcX3 hBX3 hcX2 hBX2 hcX1 hBX1
      go_wp2_with fail
      go_roundw
      case rel =>
        refine ⟨i + 1, by omega, rfl, by rw [HNS.out.1]; first | rfl | exact congrArg (Value.int .i64) (by omega), ?_, HBW.out.trans (HB3.out.mono hzw)⟩
        rw [HNS.out.2, List.eraseIdx_eq_take_drop_succ, List.map_append, List.map_take, List.map_drop]
        exact ints_mono HC3.out hzw
      case measure => simp only [intOf, Int.toNat_natCast]; omega
    · obtain rfl : i = n := by omega
      have hin : decide (((i : Nat) : Int) < ((i : Nat) : Int)) = false := decide_eq_false (by omega)
      have hall : xs.take i = xs := List.take_of_length_le (by rw [HN.out]; omega)
      rw [hall]
      clear hC2 hall
      go_wp2_with fail
      go_ret
      exact ⟨rfl, HB.out.trans (HBW.out.mono (by have := HB.out.size; omega))⟩
/-- The outcome of a complete course. -/
theorem routcome_c (H : HV) (hV : Val H) (fv cv : Value) (xs : List Nat) (v : Value) (t : St) (hr : runN H (beginS H) xs = some t) (hd : dep t = 0) (N : Nat) (w : World) (hR : RawAt w N (rawOf H) fv cv) (hC : CrsAt w N v (xs.map fun c => ((c : Nat) : Int))) :
    Calls Try.prog 23 #[.agg (handR (rawOf H) fv cv), v] w fun e w' => e = .returned (.int .i64 (outN H t)) ∧ Below w.heap.size w w' := by
  rcases hV.hand.ok with h | h | h | h | h
  · exact rout1_c H hV h.1 fv cv xs v t hr hd N w hR hC
  · exact rout2_c H hV h.1 fv cv xs v t hr hd N w hR hC
  · exact rout3_c H hV h.1 fv cv xs v t hr hd N w hR hC
  · exact rout4_c H hV h.1 fv cv xs v t hr hd N w hR hC
  · exact rout5_c H hV h.1 fv cv xs v t hr hd N w hR hC
end Go.Proofs.Ytmjnelkeiogdcaa
