/- The law HandCounts. -/
import Derived.Test.YtmjnelkeiogdcaaMH
set_option linter.unusedSimpArgs false
set_option linter.unusedVariables false
namespace Go.Proofs.Ytmjnelkeiogdcaa
open Go Go.RowKit Go.Shelf
set_option maxRecDepth 100000

/-- The courses of an outcome among the first k. -/
def ofK (H : HV) (o : Int) (k : Nat) : List (List Nat) := ((allC H).take k).filter (endP H (beginS H) (okO H o))
theorem of_zero (H : HV) (o : Int) : ofK H o 0 = [] := by simp [ofK]
theorem of_succ (H : HV) (o : Int) (h0 : 0 ≤ o) (k : Nat) (h : k < (allC H).length) (t : St) (hr : runN H (beginS H) (allC H)[k] = some t) : ofK H o (k + 1) = ofK H o k ++ if outN H t = o then [(allC H)[k]] else [] := by
  have h1 : ¬ o < 0 := by omega
  have he : endP H (beginS H) (okO H o) (allC H)[k] = decide (o = outN H t) := by
    unfold endP
    rw [hr]
    simp [okO, h1]
  rw [ofK, List.take_add_one, List.getElem?_eq_getElem h, Option.toList_some, List.filter_append]
  congr 1
  by_cases e : outN H t = o
  · rw [if_pos e, List.filter_cons_of_pos (by rw [he]; simpa using e.symm)]
    rfl
  · rw [if_neg e, List.filter_cons_of_neg (by rw [he]; simpa using fun h => e h.symm)]
    rfl
theorem of_all (H : HV) (o : Int) (k : Nat) (h : (allC H).length ≤ k) : ofK H o k = crs H (okO H o) (dep (beginS H)) (beginS H) := by
  rw [ofK, List.take_of_length_le h, crs_filter]
  rfl
theorem any_len (H : HV) : cntO H (-1) (beginS H) = (allC H).length := by
  have e : okO H (-1) = anyS := by funext t; simp [okO, anyS]
  rw [cntO, e]
  rfl
theorem lex_irr : ∀ A : List Nat, ¬ lexL A A
  | [], h => by cases h
  | a :: A, h => by
    rcases h with h | ⟨_, h⟩
    · omega
    · exact lex_irr A h
/-- A course of an outcome, by its number. -/
theorem of_get (H : HV) (hV : Val H) (o : Int) (h0 : 0 ≤ o) (i : Nat) (hi : i < cntO H o (beginS H)) : ∃ (p : List Nat) (t : St), nthN H (okO H o) (dep (beginS H)) (beginS H) i = p ∧ (crs H (okO H o) (dep (beginS H)) (beginS H))[i]? = some p ∧ p.length = dep (beginS H) ∧ runN H (beginS H) p = some t ∧ outN H t = o ∧
    fulN H (beginS H) (intL p) = .ok t ∧ numT H o (trN H (beginS H) (intL p)) = i ∧ ∀ c ∈ intL p, c ≤ 9223372036854775807 := by
  have hn := nth_spec H (okO H o) (dep (beginS H)) (beginS H) i hi
  obtain ⟨p, hp⟩ : ∃ p, nthN H (okO H o) (dep (beginS H)) (beginS H) i = p := ⟨_, rfl⟩
  rw [hp] at hn
  obtain ⟨hl, t, hr, hP⟩ := crs_run H (okO H o) _ _ p (List.mem_of_getElem? hn)
  have hF := begin_fit H hV.hand.ok
  have hfd := run_fit H _ _ _ hF hr
  have ho : outN H t = o := by
    have h1 : ¬ o < 0 := by omega
    simp [okO, h1] at hP
    exact hP.symm
  obtain ⟨hful, _⟩ := course_facts H hV.hand.ok hV.hand.last p t hr (by omega) hl (dep_pos H hV.hand.ok)
  refine ⟨p, t, hp, hn, hl, hr, ho, hful, ?_, fun c hc => ?_⟩
  · show numT H o (trN H (beginS H) (p.map fun c => ((c : Nat) : Int))) = i
    rw [num_rank H o p (beginS H) t hF hr]
    obtain ⟨h1, h2⟩ := rank_spec H (okO H o) (dep (beginS H)) (beginS H) p t hl hr hP
    have hs := crs_sorted H (okO H o) (dep (beginS H)) (beginS H)
    rw [List.pairwise_iff_getElem] at hs
    obtain ⟨i1, e1⟩ := List.getElem?_eq_some_iff.1 h2
    obtain ⟨i2, e2⟩ := List.getElem?_eq_some_iff.1 hn
    rcases Nat.lt_trichotomy (rankN H (okO H o) (dep (beginS H)) (beginS H) p) i with h | h | h
    · have := hs _ _ i1 i2 h
      rw [e1, e2] at this
      exact absurd this (lex_irr p)
    · exact h
    · have := hs _ _ i2 i1 h
      rw [e1, e2] at this
      exact absurd this (lex_irr p)
  · obtain ⟨x, hx, rfl⟩ := List.mem_map.1 hc
    have := run_small H _ _ t hF hr x hx
    omega
/-- What Nth returns. -/
def NthR (H : HV) (o num : Int) (vl : Value) (fe : Int) (W : World) (B : Nat) : Prop :=
  (fe = 7 ∧ vl = .slice none 0 0 ∧ ¬ (0 ≤ num ∧ num < ((cntO H o (beginS H) : Nat) : Int))) ∨
  (fe = 0 ∧ ∃ i : Nat, num = ((i : Nat) : Int) ∧ i < cntO H o (beginS H) ∧ Ints W B vl (intL (nthN H (okO H o) (dep (beginS H)) (beginS H) i)))
theorem nth_all (H : HV) (hV : Val H) (o num : Int) (hor : 0 ≤ o ∧ o < ((outsN H : Nat) : Int)) (hall : cntO H (-1) (beginS H) ≤ 1000000000000000) (f c : Value) (W : World) (h1 : ReadsF W f (rawOf H).faces) (h2 : ReadsA W c (rawOf H).cards) :
    Calls Try.prog 21 #[.agg (handR (rawOf H) f c), .int .i64 o, .int .i64 num] W fun e w' => ∃ vl fe, e = .returned (.tuple #[vl, .int .i64 fe]) ∧ NthR H o num vl fe w' W.heap.size ∧ Below W.heap.size W w' := by
  by_cases hn : 0 ≤ num ∧ num < ((cntO H o (beginS H) : Nat) : Int)
  · obtain ⟨i, rfl⟩ : ∃ i : Nat, num = ((i : Nat) : Int) := ⟨num.toNat, by omega⟩
    have hi : i < cntO H o (beginS H) := by omega
    exact (callsIn_wide.1 (Nth_in 24 (by omega) H hV f c o hor hall i hi W.heap.size W (RawAt.came h1 h2))).mono fun e w' ⟨v, h3, h4, h5⟩ => ⟨v, 0, h3, .inr ⟨rfl, i, rfl, hi, h4⟩, h5⟩
  · exact (callsIn_wide.1 (Nth_none H hV f c o num hor hall hn W.heap.size W (RawAt.came h1 h2))).mono fun e w' ⟨h3, h4⟩ => ⟨_, 7, h3, .inl ⟨rfl, rfl, hn⟩, h4⟩
/-- A row of the call's own whose members lie elsewhere. -/
structure OFI (w : World) (B0 B : Nat) (v : Value) (L : List Value) (LL : List (List Int)) : Prop where
  row : w.ownsRow B 24 1 v L.length L
  len : L.length = LL.length
  each : ∀ i (h : i < L.length) (h' : i < LL.length), Ints w B0 L[i] LL[i]
theorem OFI.below {w w' : World} {B0 B : Nat} {v : Value} {L : List Value} {LL : List (List Int)} (h : OFI w B0 B v L LL) (hb : Below w.heap.size w w') : OFI w' B0 B v L LL :=
  ⟨⟨h.row.1, h.row.2.imp id fun ⟨g, cap, cur, h3, h4, h5, h6⟩ => ⟨g, cap, cur, h3, h4, heap_below hb h5 (heap_lt h5), h6⟩⟩, h.len, fun i hi hi' => (h.each i hi hi').below hb⟩
theorem OFI.made (w : World) (B0 B : Nat) (hB : B ≤ w.heap.size) : OFI (w.alloc (.cells #[] 24)) B0 B (.slice (some ⟨w.heap.size, 0, none⟩) 0 0) [] [] :=
  ⟨World.ownsRow_made w #[] 0 hB (by decide) rfl, rfl, fun i h => by simp at h⟩
theorem OFI.own {W : World} {B0 B : Nat} {v : Value} {L : List Value} {LL : List (List Int)} (h : OFI W B0 B v L LL) : ∀ k, v.ownBlock = some k → B ≤ k ∧ ∃ cs, W.heap[k]? = some (.cells cs 24 (0, 0)) := fun k hk => by
  rcases h.row.2 with ⟨h3, _⟩ | ⟨g, cap, cur, h3, h4, h5, _⟩
  · rw [h3] at hk; cases hk
  · rw [h3] at hk
    have : g = k := by simpa [Value.ownBlock] using hk
    subst this
    exact ⟨h4, _, h5⟩
theorem OFI.slice {W : World} {B0 B : Nat} {v : Value} {L : List Value} {LL : List (List Int)} (h : OFI W B0 B v L LL) : ∃ p c, v = .slice p LL.length c := by
  rcases h.row.2 with ⟨h3, h4⟩ | ⟨g, cap, cur, h3, _⟩
  · exact ⟨none, 0, by rw [h3, ← h.len, h4]⟩
  · exact ⟨_, _, by rw [h3, h.len]⟩
theorem OFI.elem {W : World} {B0 B : Nat} {p : Option Addr} {n c : Nat} {L : List Value} {LL : List (List Int)} (h : OFI W B0 B (.slice p n c) L LL) {i : Nat} (hi : i < LL.length) : ∃ b u, p = some ⟨b, 0, none⟩ ∧ b < W.heap.size ∧ W.cell? ⟨b, i, none⟩ = some u ∧ Ints W B0 u LL[i] := by
  rcases h.row.2 with ⟨h3, h4⟩ | ⟨g, cap, cur, h3, h4, h5, _, _, _, h7⟩
  · rw [← h.len, h4] at hi; omega
  · injection h3 with e1 _ _
    have hi' : i < L.length := by rw [h.len]; exact hi
    refine ⟨g, L[i], e1, heap_lt h5, ?_, h.each i hi' hi⟩
    rw [cell_of_row _ _ i _ _ (0, 0) h5, ← List.getElem?_eq_getElem hi', ← h7, List.getElem?_take, if_pos (by omega), ← Array.getElem?_toList]
theorem wpO_app_of {o : Oper} {a : Act} {w : World} {K : Act → World → Prop} {Q : Exit → Act → World → Prop} (s x : Operand)
    (ho : o.op = .call { callee := .builtin .append, args := #[s, x], argTypes := #[33, 33] }) (B0 B : Nat) (v : Value) (L : List Value) (LL : List (List Int)) (hs : a.eval s = v) (hown : OFI w B0 B v L LL)
    (u : Value) (xs : List Int) (hu : Ints w B0 u xs) (g c : Nat) (hx : a.eval x = .slice (some ⟨g, 0, none⟩) 1 c) (hc0 : w.cell? ⟨g, 0, none⟩ = some u) (hlen : LL.length < 1000000000) (hB : B ≤ w.heap.size)
    (h : ∀ v' w', OFI w' B0 B v' (L ++ [u]) (LL ++ [xs]) → Below B w w' → K (a.put o.dst v') w') : o.wp Try.prog a w K Q := by
  obtain ⟨i0, hi, hz0, hz1, hz2⟩ := info_parts infoRow
  have hl := hown.len
  obtain ⟨v', w', hrun, r1, r2, r3⟩ := run_append_own (P := Try.prog) w B 33 o.type 24 i0 (.slice none 0 0) 1 24 Try.underlying33 hi hz0 hz1 hz2 rfl (by decide) v L.length _ hown.row ⟨g, 0, none⟩ 1 c [u] rfl
    (fun j q hj => by
      rcases j with _ | j
      · simp at hj; subst hj; exact hc0
      · simp at hj) (fun q hq => by
        obtain ⟨p, n, k, rfl⟩ := hu.slice
        simp at hq
        subst hq
        rfl) (by unfold maxLen; omega) (by omega) hB
  unfold Oper.wp execOp
  simp only [ho, resolve, invoke, builtin, Sem.run_bind, Sem.run_pure, Result.andThen_ok, List.map_toArray, List.map_cons, List.map_nil, hs, hx, hrun]
  have hkeep : ∀ {q : Value} {ys : List Int}, Ints w B0 q ys → Ints w' B0 q ys := fun {q ys} hq => hq.kept fun k ob hk hob => (r2.block k (heap_lt hob) fun e => by
    obtain ⟨_, cs, h1⟩ := hown.own k e.symm
    obtain ⟨_, cs', h2⟩ := hq.own k hk
    rw [h1] at h2
    cases h2).trans hob
  refine h v' w' ⟨?_, by simp [hl], fun i h1 h2 => ?_⟩ ⟨r2.os, r2.tape, r2.output, r2.size, fun k hk => r2.block k (by omega) (fun e => by have := (hown.own k e.symm).1; omega)⟩
  · rw [List.length_append]
    exact r1
  · rw [List.length_append] at h1 h2
    rcases Nat.lt_or_ge i L.length with hlt | hge
    · rw [List.getElem_append_left hlt, List.getElem_append_left (by omega)]
      exact hkeep (hown.each i hlt (by omega))
    · rw [List.getElem_append_right hge, List.getElem_append_right (by omega)]
      simp only [List.length_singleton] at h1
      have e1 : i - L.length = 0 := by omega
      have e2 : i - LL.length = 0 := by omega
      simp only [e1, e2, List.getElem_cons_zero]
      exact hkeep hu
/-- The ranking of one of them. -/
def D24 (R : RH) (hv rv : Value) (i b : Nat) (u x y z : Value) (xs : List Int) : Nat → Value → World → Prop
  | 0, v, _ => v = hv
  | 1, v, w => ∃ f c, v = .agg (handR R f c) ∧ ReadsF w f R.faces ∧ ReadsA w c R.cards
  | 2, v, _ => v = rv
  | 3, v, _ => v = .int .i64 ((i : Nat) : Int)
  | 4, v, _ => v = .pointer (some ⟨b, i, none⟩)
  | 5, v, _ => v = u
  | 6, v, w => ReadsA w v xs
  | 7, v, _ => v = .tuple #[x, y, z]
  | 8, v, _ => v = .tuple #[x, y, z]
  | 9, v, _ => v = x
  | 10, v, _ => v = y
  | 11, v, _ => v = z
  | 12, v, _ => v = x
  | 13, v, _ => v = y
  | _, _, _ => True
theorem D24.mono {R : RH} {hv rv : Value} {i b : Nat} {u x y z : Value} {xs : List Int} : ∀ j v w w', Below w.heap.size w w' → D24 R hv rv i b u x y z xs j v w → D24 R hv rv i b u x y z xs j v w'
  | 0, _, _, _, _, h => h
  | 1, _, _, _, hb, ⟨f, c, h1, h2, h3⟩ => ⟨f, c, h1, h2.below hb, h3.below hb⟩
  | 2, _, _, _, _, h => h | 3, _, _, _, _, h => h | 4, _, _, _, _, h => h | 5, _, _, _, _, h => h
  | 6, _, _, _, hb, h => ReadsA.below h hb
  | 7, _, _, _, _, h => h | 8, _, _, _, _, h => h | 9, _, _, _, _, h => h | 10, _, _, _, _, h => h | 11, _, _, _, _, h => h | 12, _, _, _, _, h => h | 13, _, _, _, _, h => h
  | _ + 14, _, _, _, _, _ => trivial
set_option maxHeartbeats 8000000 in
theorem counts_c (R : RH) (fv cv : Value) (o num : Int) (w : World) (hrf : ReadsF w fv R.faces) (hrc : ReadsA w cv R.cards) :
    Calls Try.prog 4 #[.agg (handR R fv cv), .int .i64 o, .int .i64 num] w fun e w' => e = .returned (.bool true) ∧ Below w.heap.size w w' := by
  have hx := heap_alloc_new w (.cells (handR R fv cv) 26)
  have hb : Below w.heap.size w (w.alloc (.cells (handR R fv cv) 26)) := (Below.refl _ _).alloc (Nat.le_refl _) _
  have HX := hid hx
  have HB := hid hb
  obtain ⟨pf, cf, hfe⟩ := hrf.form
  obtain ⟨pc, cc, hce⟩ := hrc.form
  have HLG := hid (fun W => large_c R pf pc R.faces.length cf R.cards.length cc W)
  rw [← hfe, ← hce] at HLG
  obtain ⟨g, hg⟩ : ∃ g, w.heap.size = g := ⟨_, rfl⟩
  rw [hg] at HX HB
  clear hx hb
  by_cases hbig : 30 < R.faces.length ∨ 30 < R.cards.length
  · have hbg : (decide (30 < R.faces.length) || decide (30 < R.cards.length)) = true := by simpa using hbig
    rw [hbg] at HLG
    clear hbig hbg hfe hce hrf hrc
    go_enter Try.func4, Try.ntmps4
    go_wp2_with (first
      | (refine wpList_value rfl (by intro c hc; cases hc) (.agg (handR R fv cv)) (exec_ldR rfl rfl HX.out) ?_)
      | (go_at_call 11; refine (HLG.out _).mono ?_; rintro e w1 ⟨rfl, hb1⟩; have HB1 := hid (HB.out.trans (hb1.mono (by simp; omega))); have HX1 := hid (heap_below hb1 HX.out (heap_lt HX.out)))
      | (go_at_call 12; refine (known_c _).mono ?_; rintro e wk ⟨rfl, hbk⟩))
    go_ret
    exact ⟨rfl, by rw [hg]; exact HB1.out.trans (hbk.mono (Nat.le_of_lt (heap_lt HX1.out)))⟩
  · have hsm : (decide (30 < R.faces.length) || decide (30 < R.cards.length)) = false := by simpa using hbig
    rw [hsm] at HLG
    have hlf : R.faces.length ≤ 30 := by omega
    have hlc : R.cards.length ≤ 30 := by omega
    have HOW := hid (fun W hW => own_r R fv cv w hrf hrc (by omega) (by omega) g hg W hW)
    have HHD := hid (fun W (hW : Below g w W) => rhand_c R fv cv (by omega) (by omega) W.heap.size W (RawAt.came (hrf.below (hg ▸ hW)) (hrc.below (hg ▸ hW))))
    by_cases hok : okR R = true
    · obtain ⟨H, rfl, hV⟩ : ∃ H, R = rawOf H ∧ Val H := ⟨toH R, (Val.of hok).2.symm, (Val.of hok).1⟩
      simp only [hok] at HHD
      have HRF := hid hrf
      have HRC := hid hrc
      have HVL := hid hV
      have HCS := hid (fun f c W (h1 : ReadsF W f (rawOf H).faces) (h2 : ReadsA W c (rawOf H).cards) => Courses_any H hV f c o W.heap.size W (RawAt.came h1 h2))
      have HOC := hid (fun W (hW : Below g w W) => routcomes_c H hV fv cv W.heap.size W (RawAt.came (hrf.below (hg ▸ hW)) (hrc.below (hg ▸ hW))))
      obtain ⟨M, hM⟩ : ∃ M, outsN H = M := ⟨_, rfl⟩
      rw [hM] at HOC
      clear hbig hsm hfe hce hrf hrc hok hV
      go_enter Try.func4, Try.ntmps4
      go_upto_region 7 with (first
        | (refine wpList_value rfl (by intro c hc; cases hc) (.agg (handR (rawOf H) fv cv)) (exec_ldR rfl rfl HX.out) ?_)
        | (refine wpList_value rfl (by intro c hc; cases hc) (.agg (handR (rawOf H) fv cv)) (exec_ldR rfl rfl HX1.out) ?_)
        | (go_at_call 11; refine (HLG.out _).mono ?_; rintro e w1 ⟨rfl, hb1⟩; have HB1 := hid (HB.out.trans (hb1.mono (by simp; omega))); have HX1 := hid (heap_below hb1 HX.out (heap_lt HX.out)))
        | (go_at_call 13; refine (HHD.out _ HB1.out).mono ?_; rintro e w2 ⟨rfl, hb_w2⟩; have HB2 := hid (HB1.out.trans (hb_w2.mono (Nat.le_of_lt (heap_lt HX1.out)))); have HX2 := hid (heap_below hb_w2 HX1.out (heap_lt HX1.out))))
      go_wp2_with (refine wpList_value rfl (by intro c hc; cases hc) (.agg (handR (rawOf H) fv cv)) (exec_ldR rfl rfl HX2.out) ?_)
      go_at_call 16
      refine (all_c H HVL.out fv cv w2 (HRF.out.below (hg ▸ HB2.out)) (HRC.out.below (hg ▸ HB2.out))).mono ?_
      rintro e w5 ⟨rfl | ⟨va, La, rfl, hao, hl15⟩, hb5⟩
      · have HB5 := hid (HB2.out.trans (hb5.mono (Nat.le_of_lt (heap_lt HX2.out))))
        have HX5 := hid (heap_below hb5 HX2.out (heap_lt HX2.out))
        go_wp2_with (go_at_call 12; refine (known_c _).mono ?_; rintro e wk ⟨rfl, hbk⟩)
        go_ret
        exact ⟨rfl, by rw [hg]; exact HB5.out.trans (hbk.mono (Nat.le_of_lt (heap_lt HX5.out)))⟩
      · have HB5 := hid (HB2.out.trans (hb5.mono (Nat.le_of_lt (heap_lt HX2.out))))
        have HX5 := hid (heap_below hb5 HX2.out (heap_lt HX2.out))
        have HAO := hid (show AO w5 w2.heap.size va La (intLL (allC H)) from hao)
        have hlen : (allC H).length ≤ 1500 := hl15
        have hany := any_len H
        have hcl := cntO_le H o (beginS H)
        obtain ⟨B0, hB0⟩ : ∃ B0, w2.heap.size = B0 := ⟨_, rfl⟩
        rw [hB0] at HAO
        clear hao hl15 hB0 hb5
        by_cases hor : 0 ≤ o ∧ o < ((M : Nat) : Int)
        · have hcr : crsR H o = (((cntO H o (beginS H) : Nat) : Int), 0) := by
            unfold crsR
            rw [hM, if_pos hor, if_pos (by omega)]
          rw [hcr] at HCS
          have HNT := hid (fun f c W (h1 : ReadsF W f (rawOf H).faces) (h2 : ReadsA W c (rawOf H).cards) => nth_all H HVL.out o num (by rw [hM]; exact hor) (by omega) f c W h1 h2)
          have ho1 : decide (o < 0) = false := decide_eq_false (by omega)
          have ho2 : ¬ o < 0 := by omega
          have ho3 : decide (((M : Nat) : Int) ≤ o) = false := decide_eq_false (by omega)
          have ho4 : ¬ ((M : Nat) : Int) ≤ o := by omega
          have HO0 := hid (show 0 ≤ o from hor.1)
          have HAN := hid hany
          have HCC := hid (show (crs H (okO H o) (dep (beginS H)) (beginS H)).length = cntO H o (beginS H) from rfl)
          obtain ⟨cn, hcn⟩ : ∃ cn, cntO H o (beginS H) = cn := ⟨_, rfl⟩
          have HCN := hid hcn
          rw [hcn] at HCS hcl HCC
          have hc15 : cn ≤ 1500 := by omega
          obtain ⟨m, hm⟩ : ∃ m, (allC H).length = m := ⟨_, rfl⟩
          have HM := hid hm
          rw [hm] at hlen
          obtain ⟨pa, co, hva⟩ := HAO.out.slice
          rw [intLL_len, hm] at hva
          subst hva
          clear hcr hany hcl hcn hm hor hM
          go_upto_region 14 with (first
        | (refine wpList_value rfl (by intro c hc; cases hc) (.agg (handR (rawOf H) fv cv)) (exec_ldR rfl rfl HX5.out) ?_)
        | (refine wpList_value rfl (by intro c hc; cases hc) (.agg (handR (rawOf H) fv cv)) (exec_ldR rfl rfl HX7.out) ?_)
        | (refine wpList_valueG rfl (.agg (handR (rawOf H) fv cv)) (exec_ldR rfl rfl HX9.out) ?_)
        | (go_at_call 15; refine (HOW.out _ HB5.out).mono ?_; rintro e w6 ⟨f_w6, c_w6, rfl, hf_w6, hc_w6, hb_w6⟩; have HB6 := hid (HB5.out.trans (hb_w6.mono (Nat.le_of_lt (heap_lt HX5.out)))); have HX6 := hid (heap_below hb_w6 HX5.out (heap_lt HX5.out)))
        | (go_at_call 15; refine (HOW.out _ HB7.out).mono ?_; rintro e w8 ⟨f_w8, c_w8, rfl, hf_w8, hc_w8, hb_w8⟩; have HB8 := hid (HB7.out.trans (hb_w8.mono (Nat.le_of_lt (heap_lt HX7.out)))); have HX8 := hid (heap_below hb_w8 HX7.out (heap_lt HX7.out)))
        | (go_at_call 20; refine (HCS.out f_w6 c_w6 w6 hf_w6 hc_w6).mono ?_; rintro e w7 ⟨rfl, hb_w7⟩; have HB7 := hid (HB6.out.trans (hb_w7.mono (Nat.le_of_lt (heap_lt HX6.out)))); have HX7 := hid (heap_below hb_w7 HX6.out (heap_lt HX6.out)))
        | (go_at_call 21; refine (HNT.out f_w8 c_w8 w8 hf_w8 hc_w8).mono ?_; rintro e w9 ⟨vl, fe, rfl, hnr, hb_w9⟩; have HB9 := hid (HB8.out.trans (hb_w9.mono (Nat.le_of_lt (heap_lt HX8.out)))); have HX9 := hid (heap_below hb_w9 HX8.out (heap_lt HX8.out)))
        | (go_at_call 22; refine (HOC.out _ HB9.out).mono ?_; rintro e w10 ⟨rfl, hb_w10⟩; have HB10 := hid (HB9.out.trans (hb_w10.mono (Nat.le_of_lt (heap_lt HX9.out)))); have HX10 := hid (heap_below hb_w10 HX9.out (heap_lt HX9.out))))
          have HAOs := hid (((((HAO.out.below hb_w6).below hb_w7).below hb_w8).below hb_w9).below hb_w10)
          have HNR := hid hnr
          have hb910 := hb_w10
          obtain ⟨Bs, hBs⟩ : ∃ Bs, w10.heap.size = Bs := ⟨_, rfl⟩
          have hal : Below w10.heap.size w10 (w10.alloc (.cells #[] 24)) := (Below.refl _ _).alloc (Nat.le_refl _) _
          have hof := OFI.made w10 B0 w10.heap.size (Nat.le_refl _)
          rw [hBs] at hof
          have HOF0 := hid hof
          have HAL := hid hal
          clear hof hal hb_w6 hb_w7 hb_w8 hf_w6 hc_w6 hf_w8 hc_w8 hnr HCS HNT HOC HHD HLG
          go_upto_region 16 with fail
          generalize w10.alloc (.cells #[] 24) = wz at HOF0 HAL ⊢
          go_loopw [17, 18] (fun vx ix wr => ∃ (vof : Value) (k : Nat) (Lof : List Value), vof = vx ∧ k ≤ m ∧ ix = .int .i64 ((k : Nat) : Int) ∧ OFI wr B0 Bs vof Lof (intLL (ofK H o k)) ∧ Below w10.heap.size w10 wr) (fun _ ix _ => m - (intOf ix).toNat)
          case atStart => exact ⟨_, 0, _, rfl, by omega, rfl, by rw [of_zero]; exact HOF0.out, HAL.out⟩
          case round =>
            clear HOF0 HAL
            obtain ⟨vof, k, Lof, rfl, hk, rfl, hof, hB⟩ := hrel
            have HOF := hid hof
            have HBr := hid (HB10.out.trans (hB.mono (Nat.le_of_lt (heap_lt HX10.out))))
            have HXr := hid (heap_below hB HX10.out (heap_lt HX10.out))
            have HBB := hid hB
            have hBr : Bs ≤ wr.heap.size := hBs ▸ hB.size
            rcases Nat.lt_or_ge k m with hkm | hkm
            · have hkn : decide (((k : Nat) : Int) < ((m : Nat) : Int)) = true := decide_eq_true (by omega)
              have hkn' : ((k : Nat) : Int) < ((m : Nat) : Int) := by omega
              have hk0 : (0 : Int) ≤ ((k : Nat) : Int) := by omega
              have hkw : IntKind.i64.wrap (((k : Nat) : Int) + 1) = ((k + 1 : Nat) : Int) := (IntWalk.i64_in _ (by omega)).trans (by omega)
              have hkL : k < (allC H).length := by rw [HM.out]; exact hkm
              obtain ⟨t, hpl, hrt⟩ := all_run H k hkL
              have hos := of_succ H o HO0.out k hkL t hrt
              obtain ⟨bo, u, hpo, hbo, hcu, hel⟩ := (HAOs.out.below hB).elem (i := k) (by rw [intLL_len]; exact hkL)
              rw [intLL_get _ _ _ hkL] at hel
              obtain ⟨p, hp⟩ : ∃ p, (allC H)[k] = p := ⟨_, rfl⟩
              rw [hp] at hpl hrt hos hel
              subst hpo
              have hd0 : dep t = 0 := by have := (run_fit H _ _ _ (begin_fit H HVL.out.hand.ok) hrt).2; omega
              obtain ⟨ou, hou⟩ : ∃ ou, outN H t = ou := ⟨_, rfl⟩
              rw [hou] at hos
              have HOS := hid hos
              obtain ⟨q, cap, hue, -, -, -⟩ := slc_reads hel (by have := dep_pos H HVL.out.hand.ok; omega) 0 (by omega)
              subst hue
              obtain ⟨n, hn⟩ : ∃ n, p.length = n := ⟨_, rfl⟩
              rw [hn] at hcu hel
              have hcq := hcu
              have hbq := hbo
              have HEL := hid hel
              have HOU := hid (show ∀ W, Below g w W → ReadsA W (.slice (some ⟨q, 0, none⟩) n cap) (intL p) → Calls Try.prog 23 #[.agg (handR (rawOf H) fv cv), .slice (some ⟨q, 0, none⟩) n cap] W fun e w' => e = .returned (.int .i64 ou) ∧ Below W.heap.size W w' from fun W hW hr => by
                have h := routcome_c H HVL.out fv cv p _ t hrt hd0 W.heap.size W (RawAt.came (HRF.out.below (hg ▸ hW)) (HRC.out.below (hg ▸ hW))) (CrsAt.came hr)
                rw [hou] at h
                exact h)
              have HLO := hid (show (ofK H o k).length < 1000000000 from Nat.lt_of_le_of_lt (by unfold ofK; exact Nat.le_trans (List.length_filter_le _ _) (by rw [List.length_take]; exact Nat.min_le_left _ _)) (by omega))
              clear hcu hbo hel hos hrt hpl hp hou hd0 hn hof hB
              go_upto_region 18 with fail
              refine grow_vals 7 [119, 120, 121, 122, 123, 124, 125] [(.agg (handR (rawOf H) fv cv)), (.slice (some ⟨bo, 0, none⟩) m co), (.int .i64 ((k : Nat) : Int)), (.pointer (some ⟨bo, k, none⟩)), (.slice (some ⟨q, 0, none⟩) n cap), (.int .i64 ou), (.int .i64 o)] (by kernel_rfl) (by kernel_rfl) ?_ ?_
              · intro jq oj hjq hoj a' w' hb' he hdep Kq hKq
                have hjq' : jq = 0 ∨ jq = 1 ∨ jq = 2 ∨ jq = 3 ∨ jq = 4 ∨ jq = 5 ∨ jq = 6 := by omega
                rcases hjq' with rfl | rfl | rfl | rfl | rfl | rfl | rfl
                · obtain rfl := Option.some.inj hoj
                  exact wpO_val _ (exec_ldR rfl ((he 3 (by decide)).trans rfl : a'.eval (.tmp 3) = .pointer (some ⟨g, 0, none⟩)) (heap_below hb' HXr.out (heap_lt HXr.out))) (hKq _ (Below.refl _ _))
                · obtain rfl := Option.some.inj hoj
                  exact wpO_val _ (exec_mv rfl ((he 11 (by decide)).trans rfl : a'.eval (.tmp 11) = (.slice (some ⟨bo, 0, none⟩) m co))) (hKq _ (Below.refl _ _))
                · obtain rfl := Option.some.inj hoj
                  exact wpO_val _ (exec_mv rfl ((he 18 (by decide)).trans rfl : a'.eval (.tmp 18) = (.int .i64 ((k : Nat) : Int)))) (hKq _ (Below.refl _ _))
                · obtain rfl := Option.some.inj hoj
                  exact wpO_val _ (exec_ixL rfl (hdep ⟨1, .data⟩ (by simp) rfl : a'.eval (.tmp 120) = (.slice (some ⟨bo, 0, none⟩) m co)) (hdep ⟨2, .data⟩ (by simp) rfl : a'.eval (.tmp 121) = (.int .i64 ((k : Nat) : Int))) hkm) (hKq _ (Below.refl _ _))
                · obtain rfl := Option.some.inj hoj
                  exact wpO_val _ (exec_ldslc rfl (hdep ⟨3, .data⟩ (by simp) rfl : a'.eval (.tmp 122) = (.pointer (some ⟨bo, k, none⟩))) ((hb'.cell (p := ⟨bo, k, none⟩) hbq).trans hcq)) (hKq _ (Below.refl _ _))
                · obtain rfl := Option.some.inj hoj
                  exact wpO_call _ _ (exec_call2 rfl rfl (hdep ⟨0, .data⟩ (by simp) rfl : a'.eval (.tmp 119) = (.agg (handR (rawOf H) fv cv))) (hdep ⟨4, .data⟩ (by simp) rfl : a'.eval (.tmp 123) = (.slice (some ⟨q, 0, none⟩) n cap)) (by go_simp)) ((HOU.out w' (HBr.out.trans (hb'.mono (Nat.le_of_lt (heap_lt HXr.out)))) (HEL.out.below hb').readsA).mono fun e w'' ⟨h1, h2⟩ => ⟨_, h1, hKq w'' h2⟩)
                · obtain rfl := Option.some.inj hoj
                  exact wpO_val _ (exec_mv rfl ((he 1 (by decide)).trans rfl : a'.eval (.tmp 1) = (.int .i64 o))) (hKq _ (Below.refl _ _))
              · intro w6 hb6
                simp only [puts, Act.put, List.setIfInBounds_toArray, List.set_cons_zero, List.set_cons_succ, List.drop_succ_cons, List.drop_zero, Nat.zero_add, Nat.reduceAdd, List.getD_cons_zero, List.getD_cons_succ]
                have hc6 : w6.cell? ⟨bo, k, none⟩ = some (.slice (some ⟨q, 0, none⟩) n cap) := (hb6.cell (p := ⟨bo, k, none⟩) hbq).trans hcq
                clear hcq
                by_cases heq : ou = o
                · have he1 : (ou == o) = true := by simp [heq]
                  have he2 : decide (ou = o) = true := decide_eq_true heq
                  have hal6 : Below w6.heap.size w6 (w6.alloc (.cells #[.slice (some ⟨q, 0, none⟩) n cap] 24)) := (Below.refl _ _).alloc (Nat.le_refl _) _
                  have hb7 := hb6.trans (hal6.mono hb6.size)
                  have hk6 := cell_of_row _ w6.heap.size 0 _ _ _ (heap_alloc_new w6 (.cells #[.slice (some ⟨q, 0, none⟩) n cap] 24))
                  clear hal6
                  go_wp2_with (refine wpList_plain rfl fun _ hK => wpO_app_of (.tmp 127) (.tmp 132) rfl B0 Bs vof Lof _ rfl (HOF.out.below hb7) _ _ (HEL.out.below hb7) w6.heap.size 1 rfl hk6 (by rw [intLL_len]; exact HLO.out) (Nat.le_trans hBr hb7.size) fun v8 w8' hof8 hb8 => hK _ _ ?_)
                  go_roundw
                  case rel => exact ⟨_, k + 1, _, rfl, by omega, rfl, by rw [HOS.out, if_pos heq, intLL_app]; exact hof8, (HBB.out.trans (hb7.mono HBB.out.size)).trans (hBs ▸ hb8)⟩
                  case measure => simp only [intOf, Int.toNat_natCast]; omega
                · have he1 : (ou == o) = false := by simpa using heq
                  have he2 : decide (ou = o) = false := decide_eq_false heq
                  go_wp2_with fail
                  go_roundw
                  case rel => exact ⟨_, k + 1, _, rfl, by omega, rfl, by rw [HOS.out, if_neg heq, List.append_nil]; exact HOF.out.below hb6, HBB.out.trans (hb6.mono HBB.out.size)⟩
                  case measure => simp only [intOf, Int.toNat_natCast]; omega
            · obtain rfl : k = m := by omega
              have hkn : decide (((k : Nat) : Int) < ((k : Nat) : Int)) = false := decide_eq_false (by omega)
              have hall := of_all H o k (by rw [HM.out]; exact Nat.le_refl _)
              rw [hall] at hof
              obtain ⟨pf2, cof, hvf⟩ := hof.slice
              rw [intLL_len, HCC.out] at hvf
              subst hvf
              have HOG := hid hof
              clear hof hB hall HOF
              have hnr := HNR.out
              clear HNR
              rcases hnr with ⟨rfl, rfl, hnum⟩ | ⟨rfl, i, rfl, hicn, hints⟩
              · rw [HCN.out] at hnum
                by_cases hneg : num < 0
                · have hn1 : decide (num < 0) = true := decide_eq_true hneg
                  go_wp2_with (go_at_call 12; refine (known_c _).mono ?_; rintro e wk ⟨rfl, hbk⟩)
                  go_ret
                  exact ⟨rfl, by rw [hg]; exact HBr.out.trans (hbk.mono (Nat.le_of_lt (heap_lt HXr.out)))⟩
                · have hn1 : decide (num < 0) = false := decide_eq_false hneg
                  have hn2 : decide (((cn : Nat) : Int) ≤ num) = true := decide_eq_true (by omega)
                  have hn3 : ((cn : Nat) : Int) ≤ num := by omega
                  go_wp2_with (go_at_call 12; refine (known_c _).mono ?_; rintro e wk ⟨rfl, hbk⟩)
                  go_ret
                  exact ⟨rfl, by rw [hg]; exact HBr.out.trans (hbk.mono (Nat.le_of_lt (heap_lt HXr.out)))⟩
              · obtain ⟨p, t, hp, hget, hpl, hrt, hou, hful, hnumT, h63⟩ := of_get H HVL.out o HO0.out i hicn
                rw [HCN.out] at hicn
                have hn1 : decide (((i : Nat) : Int) < 0) = false := decide_eq_false (by omega)
                have hn1' : ¬ ((i : Nat) : Int) < 0 := by omega
                have hn2 : decide (((cn : Nat) : Int) ≤ ((i : Nat) : Int)) = false := decide_eq_false (by omega)
                have hn3 : ¬ ((cn : Nat) : Int) ≤ ((i : Nat) : Int) := by omega
                have hn4 : decide (((i : Nat) : Int) < ((cn : Nat) : Int)) = true := decide_eq_true (by omega)
                have hn5 : ((i : Nat) : Int) < ((cn : Nat) : Int) := by omega
                have hn6 : (0 : Int) ≤ ((i : Nat) : Int) := by omega
                obtain ⟨ilt, ige⟩ := List.getElem?_eq_some_iff.1 hget
                obtain ⟨bf, uf, hpo, hbf, hcf, hel⟩ := HOG.out.elem (i := i) (by rw [intLL_len]; exact ilt)
                rw [intLL_get _ _ _ ilt, ige] at hel
                rw [hp] at hints
                subst hpo
                have HUF := hid hel
                have HNLr := hid ((hints.below hb_w10).below HBB.out)
                have hp8 : p.length ≤ 8 := by have := dep_le8 H HVL.out.hand.ok; omega
                have HRN := hid (show ∀ f c v W, ReadsF W f (rawOf H).faces → ReadsA W c (rawOf H).cards → ReadsA W v (intL p) → Calls Try.prog 24 #[.agg (handR (rawOf H) f c), v] W fun e w'' => e = .returned (.tuple #[.int .i64 ((i : Nat) : Int), .int .i64 0, .int .i64 0]) ∧ Below W.heap.size W w'' from fun f c v W h1 h2 h3 => by
                  have h := Rank_yes W.heap.size W.heap.size H HVL.out f c v (intL p) (by rw [intL_len]; omega) h63 W (RawAt.came h1 h2) (CrsAt.came h3)
                  have e : rankV H (intL p) = #[.int .i64 ((i : Nat) : Int), .int .i64 0, .int .i64 0] := by
                    unfold rankV
                    rw [hful]
                    simp only
                    rw [if_pos (by rw [HAN.out, HM.out]; omega), hou, hnumT]
                  rw [e] at h
                  exact h)
                obtain ⟨qf, nf, kf, huf⟩ := hel.slice
                clear hp hget hpl hrt hou hful hnumT h63 ige ilt hel hints HOG huf
                go_upto_region 24 with fail
                refine grow_region 14 [161, 162, 163, 164, 165, 166, 167, 168, 160, 169, 170, 171, 19, 20] (by kernel_rfl) (by kernel_rfl) (D24 (rawOf H) (.agg (handR (rawOf H) fv cv)) (.slice (some ⟨bf, 0, none⟩) cn cof) i bf uf (.int .i64 ((i : Nat) : Int)) (.int .i64 0) (.int .i64 0) (intL p)) (fun _ _ _ => False) D24.mono (fun _ _ _ _ _ h => h.elim) ?_ ?_
                · intro jq oj hjq hoj a' w' hb' he hdep Kq hKq
                  have h3 : a'.eval (.tmp 3) = .pointer (some ⟨g, 0, none⟩) := (he 3 (by decide)).trans rfl
                  have h17 : a'.eval (.tmp 17) = .slice (some ⟨bf, 0, none⟩) cn cof := (he 17 (by decide)).trans rfl
                  have h2 : a'.eval (.tmp 2) = .int .i64 ((i : Nat) : Int) := (he 2 (by decide)).trans rfl
                  have hld : w'.heap[g]? = some (.cells (handR (rawOf H) fv cv) 26 (0, 0)) := heap_below hb' HXr.out (heap_lt HXr.out)
                  have d0 := (hb'.cell (p := ⟨bf, i, none⟩) hbf).trans hcf
                  have hB' : Below g w w' := HBr.out.trans (hb'.mono (Nat.le_of_lt (heap_lt HXr.out)))
                  have hcow : Calls Try.prog 15 #[.agg (handR (rawOf H) fv cv)] w' fun e w'' => ∃ v, e = .returned v ∧ (∃ f c, v = .agg (handR (rawOf H) f c) ∧ ReadsF w'' f (rawOf H).faces ∧ ReadsA w'' c (rawOf H).cards) ∧ Below w'.heap.size w' w'' :=
                    (HOW.out w' hB').mono fun e w'' ⟨f, c, h1, h2, h3, h4⟩ => ⟨_, h1, ⟨f, c, rfl, h2, h3⟩, h4⟩
                  have hcin : Calls Try.prog 25 #[uf] w' fun e w'' => ∃ v, e = .returned v ∧ ReadsA w'' v (intL p) ∧ Below w'.heap.size w' w'' :=
                    (ints_c uf (intL p) w' (HUF.out.below hb').readsA (by rw [intL_len]; omega)).mono fun e w'' ⟨v, h1, h2, h3⟩ => ⟨v, h1, h2.readsA, h3⟩
                  have hjq' : jq = 0 ∨ jq = 1 ∨ jq = 2 ∨ jq = 3 ∨ jq = 4 ∨ jq = 5 ∨ jq = 6 ∨ jq = 7 ∨ jq = 8 ∨ jq = 9 ∨ jq = 10 ∨ jq = 11 ∨ jq = 12 ∨ jq = 13 := by omega
                  rcases hjq' with rfl | rfl | rfl | rfl | rfl | rfl | rfl | rfl | rfl | rfl | rfl | rfl | rfl | rfl
                  · obtain rfl := Option.some.inj hoj
                    exact wpO_val _ (exec_ldR rfl h3 hld) (hKq _ _ (Below.refl _ _) rfl (fun b h => h.elim))
                  · obtain rfl := Option.some.inj hoj
                    exact wpO_call _ _ (exec_call1 rfl rfl (hdep ⟨0, .data⟩ (by simp) rfl) (by go_simp)) (hcow.mono fun e w'' ⟨v, h1, h2, h3⟩ => ⟨v, h1, hKq v w'' h3 h2 (fun b h => h.elim)⟩)
                  · obtain rfl := Option.some.inj hoj
                    exact wpO_val _ (exec_mv rfl h17) (hKq _ _ (Below.refl _ _) rfl (fun b h => h.elim))
                  · obtain rfl := Option.some.inj hoj
                    exact wpO_val _ (exec_mv rfl h2) (hKq _ _ (Below.refl _ _) rfl (fun b h => h.elim))
                  · obtain rfl := Option.some.inj hoj
                    exact wpO_val _ (exec_ixL rfl (hdep ⟨2, .data⟩ (by simp) rfl) (hdep ⟨3, .data⟩ (by simp) rfl) hicn) (hKq _ _ (Below.refl _ _) rfl (fun b h => h.elim))
                  · obtain rfl := Option.some.inj hoj
                    exact wpO_val _ (exec_ldslc rfl (hdep ⟨4, .data⟩ (by simp) rfl) d0) (hKq _ _ (Below.refl _ _) rfl (fun b h => h.elim))
                  · obtain rfl := Option.some.inj hoj
                    exact wpO_call _ _ (exec_call1 rfl rfl (hdep ⟨5, .data⟩ (by simp) rfl) (by go_simp)) (hcin.mono fun e w'' ⟨v, h1, h2, h3⟩ => ⟨v, h1, hKq v w'' h3 h2 (fun b h => h.elim)⟩)
                  · obtain rfl := Option.some.inj hoj
                    obtain ⟨fa, ca, ea, hfa, hca⟩ : D24 (rawOf H) (.agg (handR (rawOf H) fv cv)) (.slice (some ⟨bf, 0, none⟩) cn cof) i bf uf (.int .i64 ((i : Nat) : Int)) (.int .i64 0) (.int .i64 0) (intL p) 1 (a'.eval (.tmp 162)) w' := (hdep ⟨1, .data⟩ (by simp) rfl)
                    have hxa : ReadsA w' (a'.eval (.tmp 167)) (intL p) := (hdep ⟨6, .data⟩ (by simp) rfl)
                    exact wpO_call _ _ (exec_call2 rfl rfl ea rfl (by go_simp)) ((HRN.out fa ca _ w' hfa hca hxa).mono fun e w'' ⟨h1, h2⟩ => ⟨_, h1, hKq _ w'' h2 rfl (fun b h => h.elim)⟩)
                  · obtain rfl := Option.some.inj hoj
                    exact wpO_val _ (exec_mv rfl (hdep ⟨7, .data⟩ (by simp) rfl)) (hKq _ _ (Below.refl _ _) rfl (fun b h => h.elim))
                  · obtain rfl := Option.some.inj hoj
                    exact wpO_val _ (exec_ext rfl (hdep ⟨8, .data⟩ (by simp) rfl) rfl) (hKq _ _ (Below.refl _ _) rfl (fun b h => h.elim))
                  · obtain rfl := Option.some.inj hoj
                    exact wpO_val _ (exec_ext rfl (hdep ⟨8, .data⟩ (by simp) rfl) rfl) (hKq _ _ (Below.refl _ _) rfl (fun b h => h.elim))
                  · obtain rfl := Option.some.inj hoj
                    exact wpO_val _ (exec_ext rfl (hdep ⟨8, .data⟩ (by simp) rfl) rfl) (hKq _ _ (Below.refl _ _) rfl (fun b h => h.elim))
                  · obtain rfl := Option.some.inj hoj
                    exact wpO_val _ (exec_asg rfl (hdep ⟨9, .data⟩ (by simp) rfl)) (hKq _ _ (Below.refl _ _) rfl (fun b h => h.elim))
                  · obtain rfl := Option.some.inj hoj
                    exact wpO_val _ (exec_asg rfl (hdep ⟨10, .data⟩ (by simp) rfl)) (hKq _ _ (Below.refl _ _) rfl (fun b h => h.elim))
                · intro vs w11 hb_w11 hD hap hnw
                  have e9 : vs 9 = .int .i64 ((i : Nat) : Int) := hD 9 (by omega)
                  have e10 : vs 10 = .int .i64 0 := hD 10 (by omega)
                  have e11 : vs 11 = .int .i64 0 := hD 11 (by omega)
                  have e12 : vs 12 = .int .i64 ((i : Nat) : Int) := hD 12 (by omega)
                  have e13 : vs 13 = .int .i64 0 := hD 13 (by omega)
                  simp only [puts, Act.put, List.setIfInBounds_toArray, List.set_cons_zero, List.set_cons_succ, List.drop_succ_cons, List.drop_zero, Nat.zero_add, Nat.reduceAdd, e9, e10, e11, e12, e13]
                  have HB11 := hid (HBr.out.trans (hb_w11.mono (Nat.le_of_lt (heap_lt HXr.out))))
                  have HX11 := hid (heap_below hb_w11 HXr.out (heap_lt HXr.out))
                  have hcf11 : w11.cell? ⟨bf, i, none⟩ = some uf := (hb_w11.cell (p := ⟨bf, i, none⟩) hbf).trans hcf
                  have HUF11 := hid (HUF.out.below hb_w11)
                  have HNL11 := hid (HNLr.out.below hb_w11)
                  clear hD hap hnw e9 e10 e11 e12 e13 hcf
                  go_wp2_with (first
        | (go_at_call 18; refine (sam_c vl uf (intL p) (intL p) w11 HNL11.out.reads HUF11.out.reads (by rw [intL_len]; omega) (by rw [intL_len]; omega)).mono ?_; rintro e w12 ⟨rfl, hb_w12⟩; rw [show decide (intL p = intL p) = true from decide_eq_true rfl]; have HB12 := hid (HB11.out.trans (hb_w12.mono (Nat.le_of_lt (heap_lt HX11.out)))); have HX12 := hid (heap_below hb_w12 HX11.out (heap_lt HX11.out)))
        | (go_at_call 12; refine (known_c _).mono ?_; rintro e wk ⟨rfl, hbk⟩))
                  go_ret
                  exact ⟨rfl, by rw [hg]; exact HB12.out.trans (hbk.mono (Nat.le_of_lt (heap_lt HX12.out)))⟩
        · have hcr : crsR H o = (0, 3) := by
            unfold crsR
            rw [hM, if_neg hor]
          rw [hcr] at HCS
          have HNE := hid (fun f c W (h1 : ReadsF W f (rawOf H).faces) (h2 : ReadsA W c (rawOf H).cards) => callsIn_wide.1 (Nth_any H HVL.out f c o num (by rw [hcr]; decide) W.heap.size W (RawAt.came h1 h2)))
          rw [hcr] at HNE
          clear hcr hany hcl HAO hM
          by_cases hneg : o < 0
          · have ho1 : decide (o < 0) = true := decide_eq_true hneg
            go_wp2_with (first
        | (refine wpList_value rfl (by intro c hc; cases hc) (.agg (handR (rawOf H) fv cv)) (exec_ldR rfl rfl HX5.out) ?_)
        | (refine wpList_value rfl (by intro c hc; cases hc) (.agg (handR (rawOf H) fv cv)) (exec_ldR rfl rfl HX7.out) ?_)
        | (refine wpList_valueG rfl (.agg (handR (rawOf H) fv cv)) (exec_ldR rfl rfl HX9.out) ?_)
        | (go_at_call 15; refine (HOW.out _ HB5.out).mono ?_; rintro e w6 ⟨f_w6, c_w6, rfl, hf_w6, hc_w6, hb_w6⟩; have HB6 := hid (HB5.out.trans (hb_w6.mono (Nat.le_of_lt (heap_lt HX5.out)))); have HX6 := hid (heap_below hb_w6 HX5.out (heap_lt HX5.out)))
        | (go_at_call 15; refine (HOW.out _ HB7.out).mono ?_; rintro e w8 ⟨f_w8, c_w8, rfl, hf_w8, hc_w8, hb_w8⟩; have HB8 := hid (HB7.out.trans (hb_w8.mono (Nat.le_of_lt (heap_lt HX7.out)))); have HX8 := hid (heap_below hb_w8 HX7.out (heap_lt HX7.out)))
        | (go_at_call 20; refine (HCS.out f_w6 c_w6 w6 hf_w6 hc_w6).mono ?_; rintro e w7 ⟨rfl, hb_w7⟩; have HB7 := hid (HB6.out.trans (hb_w7.mono (Nat.le_of_lt (heap_lt HX6.out)))); have HX7 := hid (heap_below hb_w7 HX6.out (heap_lt HX6.out)))
        | (go_at_call 21; refine (HNE.out f_w8 c_w8 w8 hf_w8 hc_w8).mono ?_; rintro e w9 ⟨rfl, hb_w9⟩; have HB9 := hid (HB8.out.trans (hb_w9.mono (Nat.le_of_lt (heap_lt HX8.out)))); have HX9 := hid (heap_below hb_w9 HX8.out (heap_lt HX8.out)))
        | (go_at_call 22; refine (HOC.out _ HB9.out).mono ?_; rintro e w10 ⟨rfl, hb_w10⟩; have HB10 := hid (HB9.out.trans (hb_w10.mono (Nat.le_of_lt (heap_lt HX9.out)))); have HX10 := hid (heap_below hb_w10 HX9.out (heap_lt HX9.out)))
        | (go_at_call 12; refine (known_c _).mono ?_; rintro e wk ⟨rfl, hbk⟩))
            go_ret
            exact ⟨rfl, by rw [hg]; exact HB9.out.trans (hbk.mono (Nat.le_of_lt (heap_lt HX9.out)))⟩
          · have ho1 : decide (o < 0) = false := decide_eq_false hneg
            have ho3 : decide (((M : Nat) : Int) ≤ o) = true := decide_eq_true (by omega)
            have ho4 : ((M : Nat) : Int) ≤ o := by omega
            go_wp2_with (first
        | (refine wpList_value rfl (by intro c hc; cases hc) (.agg (handR (rawOf H) fv cv)) (exec_ldR rfl rfl HX5.out) ?_)
        | (refine wpList_value rfl (by intro c hc; cases hc) (.agg (handR (rawOf H) fv cv)) (exec_ldR rfl rfl HX7.out) ?_)
        | (refine wpList_valueG rfl (.agg (handR (rawOf H) fv cv)) (exec_ldR rfl rfl HX9.out) ?_)
        | (go_at_call 15; refine (HOW.out _ HB5.out).mono ?_; rintro e w6 ⟨f_w6, c_w6, rfl, hf_w6, hc_w6, hb_w6⟩; have HB6 := hid (HB5.out.trans (hb_w6.mono (Nat.le_of_lt (heap_lt HX5.out)))); have HX6 := hid (heap_below hb_w6 HX5.out (heap_lt HX5.out)))
        | (go_at_call 15; refine (HOW.out _ HB7.out).mono ?_; rintro e w8 ⟨f_w8, c_w8, rfl, hf_w8, hc_w8, hb_w8⟩; have HB8 := hid (HB7.out.trans (hb_w8.mono (Nat.le_of_lt (heap_lt HX7.out)))); have HX8 := hid (heap_below hb_w8 HX7.out (heap_lt HX7.out)))
        | (go_at_call 20; refine (HCS.out f_w6 c_w6 w6 hf_w6 hc_w6).mono ?_; rintro e w7 ⟨rfl, hb_w7⟩; have HB7 := hid (HB6.out.trans (hb_w7.mono (Nat.le_of_lt (heap_lt HX6.out)))); have HX7 := hid (heap_below hb_w7 HX6.out (heap_lt HX6.out)))
        | (go_at_call 21; refine (HNE.out f_w8 c_w8 w8 hf_w8 hc_w8).mono ?_; rintro e w9 ⟨rfl, hb_w9⟩; have HB9 := hid (HB8.out.trans (hb_w9.mono (Nat.le_of_lt (heap_lt HX8.out)))); have HX9 := hid (heap_below hb_w9 HX8.out (heap_lt HX8.out)))
        | (go_at_call 22; refine (HOC.out _ HB9.out).mono ?_; rintro e w10 ⟨rfl, hb_w10⟩; have HB10 := hid (HB9.out.trans (hb_w10.mono (Nat.le_of_lt (heap_lt HX9.out)))); have HX10 := hid (heap_below hb_w10 HX9.out (heap_lt HX9.out)))
        | (go_at_call 12; refine (known_c _).mono ?_; rintro e wk ⟨rfl, hbk⟩))
            go_ret
            exact ⟨rfl, by rw [hg]; exact HB10.out.trans (hbk.mono (Nat.le_of_lt (heap_lt HX10.out)))⟩
    · have hok' : okR R = false := by simpa using hok
      have HCS := hid (fun f c W (h1 : ReadsF W f R.faces) (h2 : ReadsA W c R.cards) => Courses_no R hok' f c o W.heap.size W (RawAt.came h1 h2) (by omega) (by omega))
      have HNE := hid (fun f c W (h1 : ReadsF W f R.faces) (h2 : ReadsA W c R.cards) => callsIn_wide.1 (Nth_no R hok' f c o num W.heap.size W (RawAt.came h1 h2) (by omega) (by omega)))
      simp only [hok'] at HHD
      clear hbig hsm hfe hce hrf hrc hok hok'
      go_enter Try.func4, Try.ntmps4
      go_wp2_with (first
        | (refine wpList_value rfl (by intro c hc; cases hc) (.agg (handR R fv cv)) (exec_ldR rfl rfl HX.out) ?_)
        | (refine wpList_value rfl (by intro c hc; cases hc) (.agg (handR R fv cv)) (exec_ldR rfl rfl HX1.out) ?_)
        | (refine wpList_value rfl (by intro c hc; cases hc) (.agg (handR R fv cv)) (exec_ldR rfl rfl HX2.out) ?_)
        | (refine wpList_value rfl (by intro c hc; cases hc) (.agg (handR R fv cv)) (exec_ldR rfl rfl HX7.out) ?_)
        | (go_at_call 11; refine (HLG.out _).mono ?_; rintro e w1 ⟨rfl, hb1⟩; have HB1 := hid (HB.out.trans (hb1.mono (by simp; omega))); have HX1 := hid (heap_below hb1 HX.out (heap_lt HX.out)))
        | (go_at_call 13; refine (HHD.out _ HB1.out).mono ?_; rintro e w2 ⟨rfl, hb_w2⟩; have HB2 := hid (HB1.out.trans (hb_w2.mono (Nat.le_of_lt (heap_lt HX1.out)))); have HX2 := hid (heap_below hb_w2 HX1.out (heap_lt HX1.out)))
        | (go_at_call 15; refine (HOW.out _ HB2.out).mono ?_; rintro e w6 ⟨f_w6, c_w6, rfl, hf_w6, hc_w6, hb_w6⟩; have HB6 := hid (HB2.out.trans (hb_w6.mono (Nat.le_of_lt (heap_lt HX2.out)))); have HX6 := hid (heap_below hb_w6 HX2.out (heap_lt HX2.out)))
        | (go_at_call 20; refine (HCS.out f_w6 c_w6 w6 hf_w6 hc_w6).mono ?_; rintro e w7 ⟨rfl, hb_w7⟩; have HB7 := hid (HB6.out.trans (hb_w7.mono (Nat.le_of_lt (heap_lt HX6.out)))); have HX7 := hid (heap_below hb_w7 HX6.out (heap_lt HX6.out)))
        | (go_at_call 15; refine (HOW.out _ HB7.out).mono ?_; rintro e w8 ⟨f_w8, c_w8, rfl, hf_w8, hc_w8, hb_w8⟩; have HB8 := hid (HB7.out.trans (hb_w8.mono (Nat.le_of_lt (heap_lt HX7.out)))); have HX8 := hid (heap_below hb_w8 HX7.out (heap_lt HX7.out)))
        | (go_at_call 21; refine (HNE.out f_w8 c_w8 w8 hf_w8 hc_w8).mono ?_; rintro e w9 ⟨rfl, hb_w9⟩; have HB9 := hid (HB8.out.trans (hb_w9.mono (Nat.le_of_lt (heap_lt HX8.out)))); have HX9 := hid (heap_below hb_w9 HX8.out (heap_lt HX8.out)))
        | (go_at_call 12; refine (known_c _).mono ?_; rintro e wk ⟨rfl, hbk⟩))
      go_ret
      exact ⟨rfl, by rw [hg]; exact HB9.out.trans (hbk.mono (Nat.le_of_lt (heap_lt HX9.out)))⟩
end Go.Proofs.Ytmjnelkeiogdcaa
