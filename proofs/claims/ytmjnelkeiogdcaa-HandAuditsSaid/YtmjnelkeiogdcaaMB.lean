/- The law HandAudits. -/
import Derived.Test.YtmjnelkeiogdcaaJU
import Derived.Test.YtmjnelkeiogdcaaMA
set_option linter.unusedSimpArgs false
set_option linter.unusedVariables false
namespace Go.Proofs.Ytmjnelkeiogdcaa
open Go Go.RowKit Go.Shelf
set_option maxRecDepth 100000

/-- What the audit returns. -/
inductive AudK (R : RH) (Rs : List (List Int × Int)) : Int → Int → Int → Prop
  | no : okR R = false → AudK R Rs 0 0 2
  | long : okR R = true → 200 < Rs.length → AudK R Rs 0 0 5
  | yes (H : HV) (c a e : Int) : R = rawOf H → Val H → Rs.length ≤ 200 → audN H Rs 0 = (c, a, e) → AudK R Rs c a e
theorem audits_all (R : RH) (Rs : List (List Int × Int)) (hf : R.faces.length ≤ 1000) (hc : R.cards.length ≤ 1000) (h63 : ∀ x ∈ Rs, x.1.length ≤ 1000000 ∧ ∀ c ∈ x.1, c ≤ 9223372036854775807) :
    ∃ c0 a0 e0, AudK R Rs c0 a0 e0 ∧ ∀ f c v W, ReadsF W f R.faces → ReadsA W c R.cards → RecAt W W.heap.size v Rs → Calls Try.prog 30 #[.agg (handR R f c), v] W fun e w' => e = .returned (.tuple #[.int .i64 c0, .int .i64 a0, .int .i64 e0]) ∧ Below W.heap.size W w' := by
  cases hok : okR R with
  | false =>
    refine ⟨_, _, _, .no hok, fun f c v W h1 h2 h3 => ?_⟩
    obtain ⟨p, m, rfl, _⟩ := h3.at'
    exact Audit_no R hok f c W.heap.size p Rs.length m W (RawAt.came h1 h2) hf hc
  | true =>
    obtain ⟨H, rfl, hV⟩ : ∃ H, R = rawOf H ∧ Val H := ⟨toH R, (Val.of hok).2.symm, (Val.of hok).1⟩
    by_cases hl : 200 < Rs.length
    · refine ⟨_, _, _, .long hok hl, fun f c v W h1 h2 h3 => ?_⟩
      obtain ⟨p, m, rfl, _⟩ := h3.at'
      exact Audit_long W.heap.size H hV f c p Rs.length m hl W (RawAt.came h1 h2)
    · exact ⟨_, _, _, .yes H _ _ _ rfl hV (by omega) rfl, fun f c v W h1 h2 h3 => Audit_yes W.heap.size W.heap.size H hV f c v Rs (by omega) h63 W (RawAt.came h1 h2) h3⟩
/-- What holds while the record is copied. -/
structure AudI (g : Nat) (w : World) (R : RH) (fv cv vl : Value) (L : List (Value × Int)) (Rs : List (List Int × Int)) (W : World) : Prop where
  bel : Below g w W
  hx : W.heap[g]? = some (.cells (handR R fv cv) 26 (0, 0))
  ro : RO W (g + 1) vl L Rs
theorem AudI.below {g : Nat} {w : World} {R : RH} {fv cv vl : Value} {L : List (Value × Int)} {Rs : List (List Int × Int)} {W W' : World} (h : AudI g w R fv cv vl L Rs W) (hb : Below W.heap.size W W') : AudI g w R fv cv vl L Rs W' :=
  ⟨h.bel.trans (hb.mono (Nat.le_of_lt (heap_lt h.hx))), heap_below hb h.hx (heap_lt h.hx), h.ro.below hb⟩
theorem AudI.app {g : Nat} {w : World} {R : RH} {fv cv vl v' : Value} {L L' : List (Value × Int)} {Rs Rs' : List (List Int × Int)} {W W' : World} (h : AudI g w R fv cv vl L Rs W) (hg : W.grownBy W' vl.ownBlock) (hr : RO W' (g + 1) v' L' Rs') : AudI g w R fv cv v' L' Rs' W' :=
  have hl := heap_lt h.hx
  have hne : ∀ k, k ≤ g → some k ≠ vl.ownBlock := fun k hk e => by have := (h.ro.own k e.symm).1; omega
  have hb : Below g W W' := ⟨hg.os, hg.tape, hg.output, hg.size, fun k hk => hg.block k (by omega) (hne k (by omega))⟩
  ⟨h.bel.trans hb, (hg.block g hl (hne g (Nat.le_refl _))).trans h.hx, hr⟩
/-- The copying of one cast. -/
def D9 (B : Nat) (vl rv : Value) (i b o : Nat) (u : Value) (z : Int) (xs : List Int) : Nat → Value → World → Prop
  | 0, v, _ => v = vl
  | 1, v, _ => v = rv
  | 2, v, _ => v = .int .i64 ((i : Nat) : Int)
  | 3, v, _ => v = .pointer (some ⟨b, o + i * 2, none⟩)
  | 4, v, _ => v = .pointer (some ⟨b, o + i * 2, none⟩)
  | 5, v, _ => v = u
  | 6, v, w => Ints w B v xs
  | 7, v, _ => v = rv
  | 8, v, _ => v = .int .i64 ((i : Nat) : Int)
  | 9, v, _ => v = .pointer (some ⟨b, o + i * 2, none⟩)
  | 10, v, _ => v = .pointer (some ⟨b, o + i * 2 + 1, none⟩)
  | 11, v, _ => v = .int .i64 z
  | 12, v, w => ∃ u', v = .agg #[u', .int .i64 z] ∧ Ints w B u' xs
  | 13, v, w => ∃ q u', v = .slice (some ⟨q, 0, none⟩) 1 1 ∧ w.heap[q]? = some (.cells #[u', .int .i64 z] 57 (0, 0)) ∧ Ints w B u' xs
  | _, _, _ => True
theorem D9.mono {B : Nat} {vl rv : Value} {i b o : Nat} {u : Value} {z : Int} {xs : List Int} : ∀ j v w w', Below w.heap.size w w' → D9 B vl rv i b o u z xs j v w → D9 B vl rv i b o u z xs j v w'
  | 0, _, _, _, _, h => h | 1, _, _, _, _, h => h | 2, _, _, _, _, h => h | 3, _, _, _, _, h => h | 4, _, _, _, _, h => h | 5, _, _, _, _, h => h
  | 6, _, _, _, hb, h => Ints.below h hb
  | 7, _, _, _, _, h => h | 8, _, _, _, _, h => h | 9, _, _, _, _, h => h | 10, _, _, _, _, h => h | 11, _, _, _, _, h => h
  | 12, _, _, _, hb, ⟨u', h1, h2⟩ => ⟨u', h1, h2.below hb⟩
  | 13, _, _, _, hb, ⟨q, u', h1, h2, h3⟩ => ⟨q, u', h1, heap_below hb h2 (heap_lt h2), h3.below hb⟩
  | _ + 14, _, _, _, _, _ => trivial
/-- One cast is checked: Complete. -/
def D18 (hv rv : Value) (i b o : Nat) (u x y : Value) : Nat → Value → World → Prop
  | 0, v, _ => v = hv
  | 1, v, _ => v = rv
  | 2, v, _ => v = .int .i64 ((i : Nat) : Int)
  | 3, v, _ => v = .pointer (some ⟨b, o + i * 2, none⟩)
  | 4, v, _ => v = .pointer (some ⟨b, o + i * 2, none⟩)
  | 5, v, _ => v = u
  | 6, v, _ => v = .tuple #[x, y]
  | 7, v, _ => v = .tuple #[x, y]
  | 8, v, _ => v = x
  | 9, v, _ => v = y
  | 10, v, _ => v = x
  | _, _, _ => True
theorem D18.mono {hv rv : Value} {i b o : Nat} {u x y : Value} : ∀ j v w w', Below w.heap.size w w' → D18 hv rv i b o u x y j v w → D18 hv rv i b o u x y j v w'
  | 0, _, _, _, _, h => h | 1, _, _, _, _, h => h | 2, _, _, _, _, h => h | 3, _, _, _, _, h => h | 4, _, _, _, _, h => h | 5, _, _, _, _, h => h | 6, _, _, _, _, h => h | 7, _, _, _, _, h => h | 8, _, _, _, _, h => h | 9, _, _, _, _, h => h | 10, _, _, _, _, h => h
  | _ + 11, _, _, _, _, _ => trivial
/-- .. Rank. -/
def D20 (R : RH) (hv rv : Value) (i b o : Nat) (u x y z : Value) (xs : List Int) : Nat → Value → World → Prop
  | 0, v, _ => v = hv
  | 1, v, w => ∃ f c, v = .agg (handR R f c) ∧ ReadsF w f R.faces ∧ ReadsA w c R.cards
  | 2, v, _ => v = rv
  | 3, v, _ => v = .int .i64 ((i : Nat) : Int)
  | 4, v, _ => v = .pointer (some ⟨b, o + i * 2, none⟩)
  | 5, v, _ => v = .pointer (some ⟨b, o + i * 2, none⟩)
  | 6, v, _ => v = u
  | 7, v, w => ReadsA w v xs
  | 8, v, _ => v = .tuple #[x, y, z]
  | 9, v, _ => v = .tuple #[x, y, z]
  | 10, v, _ => v = x
  | 11, v, _ => v = y
  | 12, v, _ => v = z
  | 13, v, _ => v = x
  | 14, v, _ => v = y
  | _, _, _ => True
theorem D20.mono {R : RH} {hv rv : Value} {i b o : Nat} {u x y z : Value} {xs : List Int} : ∀ j v w w', Below w.heap.size w w' → D20 R hv rv i b o u x y z xs j v w → D20 R hv rv i b o u x y z xs j v w'
  | 0, _, _, _, _, h => h
  | 1, _, _, _, hb, ⟨f, c, h1, h2, h3⟩ => ⟨f, c, h1, h2.below hb, h3.below hb⟩
  | 2, _, _, _, _, h => h | 3, _, _, _, _, h => h | 4, _, _, _, _, h => h | 5, _, _, _, _, h => h | 6, _, _, _, _, h => h
  | 7, _, _, _, hb, h => ReadsA.below h hb
  | 8, _, _, _, _, h => h | 9, _, _, _, _, h => h | 10, _, _, _, _, h => h | 11, _, _, _, _, h => h | 12, _, _, _, _, h => h | 13, _, _, _, _, h => h | 14, _, _, _, _, h => h
  | _ + 15, _, _, _, _, _ => trivial
/-- .. Outcome. -/
def D22 (hv rv : Value) (i b o : Nat) (u x : Value) : Nat → Value → World → Prop
  | 0, v, _ => v = hv
  | 1, v, _ => v = rv
  | 2, v, _ => v = .int .i64 ((i : Nat) : Int)
  | 3, v, _ => v = .pointer (some ⟨b, o + i * 2, none⟩)
  | 4, v, _ => v = .pointer (some ⟨b, o + i * 2, none⟩)
  | 5, v, _ => v = u
  | 6, v, _ => v = x
  | _, _, _ => True
theorem D22.mono {hv rv : Value} {i b o : Nat} {u x : Value} : ∀ j v w w', Below w.heap.size w w' → D22 hv rv i b o u x j v w → D22 hv rv i b o u x j v w'
  | 0, _, _, _, _, h => h | 1, _, _, _, _, h => h | 2, _, _, _, _, h => h | 3, _, _, _, _, h => h | 4, _, _, _, _, h => h | 5, _, _, _, _, h => h | 6, _, _, _, _, h => h
  | _ + 7, _, _, _, _, _ => trivial
theorem aud_bad {H : HV} {Rs : List (List Int × Int)} {i k e : Nat} (hi : i < Rs.length) (h : fulN H (beginS H) Rs[i].1 = .bad k e) : audN H (Rs.drop i) i = (((i : Nat) : Int), ((k : Nat) : Int), ((e : Nat) : Int)) := by
  rw [List.drop_eq_getElem_cons hi, audN, h]
theorem aud_other {H : HV} {Rs : List (List Int × Int)} {i : Nat} {t : St} (hi : i < Rs.length) (h : fulN H (beginS H) Rs[i].1 = .ok t) (hne : outN H t ≠ Rs[i].2) : audN H (Rs.drop i) i = (((i : Nat) : Int), outN H t, 9) := by
  rw [List.drop_eq_getElem_cons hi, audN, h]
  simp only [if_neg hne]
theorem aud_same {H : HV} {Rs : List (List Int × Int)} {i : Nat} {t : St} (hi : i < Rs.length) (h : fulN H (beginS H) Rs[i].1 = .ok t) (he : outN H t = Rs[i].2) : audN H (Rs.drop i) i = audN H (Rs.drop (i + 1)) (i + 1) := by
  rw [List.drop_eq_getElem_cons hi, audN, h]
  simp only [if_pos he]
theorem fulbad_ne {H : HV} {s : St} {L : List Int} {k e : Nat} (h : fulN H s L = .bad k e) : e ≠ 0 := by
  unfold fulN at h
  split at h
  · split at h
    · cases h
    · injection h with _ h; omega
  · rename_i i e' hf
    injection h with _ h
    exact h ▸ fol_err H _ _ _ _ _ hf
theorem ful_ok {H : HV} {s t : St} {L : List Int} (h : fulN H s L = .ok t) : folN H s L 0 = .ok t ∧ chN H t = 0 := by
  unfold fulN at h
  split at h
  · rename_i t' hf
    split at h
    · rename_i h0
      injection h with h
      subst h
      exact ⟨hf, h0⟩
    · cases h
  · cases h
set_option maxHeartbeats 8000000 in
theorem audits_c (R : RH) (fv cv : Value) (Rs : List (List Int × Int)) (v : Value) (w : World) (hrf : ReadsF w fv R.faces) (hrc : ReadsA w cv R.cards) (hrr : ReadsR w v Rs) :
    Calls Try.prog 8 #[.agg (handR R fv cv), v] w fun e w' => e = .returned (.bool true) ∧ Below w.heap.size w w' := by
  have hx := heap_alloc_new w (.cells (handR R fv cv) 26)
  have hb : Below w.heap.size w (w.alloc (.cells (handR R fv cv) 26)) := (Below.refl _ _).alloc (Nat.le_refl _) _
  have HX := hid hx
  have HB := hid hb
  obtain ⟨pf, cf, hfe⟩ := hrf.form
  obtain ⟨pc, cc, hce⟩ := hrc.form
  obtain ⟨pu, cu, hue⟩ := hrr.form
  have HLG := hid (fun W => large_c R pf pc R.faces.length cf R.cards.length cc W)
  rw [← hfe, ← hce] at HLG
  obtain ⟨g, hg⟩ : ∃ g, w.heap.size = g := ⟨_, rfl⟩
  rw [hg] at HX HB
  clear hx hb
  obtain ⟨n, hn⟩ : ∃ n, Rs.length = n := ⟨_, rfl⟩
  rw [hn] at hue
  by_cases hbig : 30 < R.faces.length ∨ 30 < R.cards.length
  · have hbg : (decide (30 < R.faces.length) || decide (30 < R.cards.length)) = true := by simpa using hbig
    rw [hbg] at HLG
    clear hbig hbg hfe hce hue hrf hrc hrr
    go_enter Try.func8, Try.ntmps8
    go_wp2_with (first
      | (refine wpList_value rfl (by intro c hc; cases hc) (.agg (handR R fv cv)) (exec_ldR rfl rfl HX.out) ?_)
      | (go_at_call 11; refine (HLG.out _).mono ?_; rintro e w1 ⟨rfl, hb1⟩; have HB1 := hid (HB.out.trans (hb1.mono (by simp; omega))); have HX1 := hid (heap_below hb1 HX.out (heap_lt HX.out)); have hg1 : g < w1.heap.size := heap_lt HX1.out)
      | (go_at_call 12; refine (known_c _).mono ?_; rintro e wk ⟨rfl, hbk⟩))
    go_ret
    exact ⟨rfl, by rw [hg]; exact HB1.out.trans (hbk.mono (by omega))⟩
  · have hsm : (decide (30 < R.faces.length) || decide (30 < R.cards.length)) = false := by simpa using hbig
    rw [hsm] at HLG
    have hlf : R.faces.length ≤ 30 := by omega
    have hlc : R.cards.length ≤ 30 := by omega
    by_cases hlong : 210 < n
    · have hl1 : decide ((210 : Int) < ((n : Nat) : Int)) = true := decide_eq_true (by omega)
      have hl2 : (210 : Int) < ((n : Nat) : Int) := by omega
      subst hue
      clear hbig hsm hfe hce hrf hrc hrr hlf hlc
      go_enter Try.func8, Try.ntmps8
      go_wp2_with (first
        | (refine wpList_value rfl (by intro c hc; cases hc) (.agg (handR R fv cv)) (exec_ldR rfl rfl HX.out) ?_)
        | (go_at_call 11; refine (HLG.out _).mono ?_; rintro e w1 ⟨rfl, hb1⟩; have HB1 := hid (HB.out.trans (hb1.mono (by simp; omega))); have HX1 := hid (heap_below hb1 HX.out (heap_lt HX.out)); have hg1 : g < w1.heap.size := heap_lt HX1.out)
        | (go_at_call 12; refine (known_c _).mono ?_; rintro e wk ⟨rfl, hbk⟩))
      go_ret
      exact ⟨rfl, by rw [hg]; exact HB1.out.trans (hbk.mono (by omega))⟩
    · have hl1 : decide ((210 : Int) < ((n : Nat) : Int)) = false := decide_eq_false (by omega)
      have hl2 : ¬ (210 : Int) < ((n : Nat) : Int) := by omega
      have HRF := hid hrf
      have HRC := hid hrc
      have HRR := hid hrr
      have HN := hid hn
      have HFE := hid hfe
      have HCE := hid hce
      subst hue
      clear hbig hsm hrf hrc hrr hn hfe hce
      go_enter Try.func8, Try.ntmps8
      go_upto_region 4 with (first
        | (refine wpList_value rfl (by intro c hc; cases hc) (.agg (handR R fv cv)) (exec_ldR rfl rfl HX.out) ?_)
        | (refine wpList_value rfl (by intro c hc; cases hc) (.agg (handR R fv cv)) (exec_ldR rfl rfl HX1.out) ?_)
        | (go_at_call 11; refine (HLG.out _).mono ?_; rintro e w1 ⟨rfl, hb1⟩; have HB1 := hid (HB.out.trans (hb1.mono (by simp; omega))); have HX1 := hid (heap_below hb1 HX.out (heap_lt HX.out)); have hg1 : g < w1.heap.size := heap_lt HX1.out))
      have hro := RO.made w1 (g + 1) hg1
      have hAI : AudI g w R fv cv (.slice (some ⟨w1.heap.size, 0, none⟩) 0 0) [] (Rs.take 0) (w1.alloc (.cells #[] 57)) :=
        AudI.mk (HB1.out.trans ((Below.refl _ _).alloc (Nat.le_of_lt hg1) _)) (heap_below ((Below.refl w1.heap.size _).alloc (Nat.le_refl _) _) HX1.out hg1) (by rw [List.take_zero]; exact hro)
      generalize w1.alloc (.cells #[] 57) = w2 at hAI ⊢
      obtain ⟨v2, hv2⟩ : ∃ v2, v2 = Value.slice (some ⟨w1.heap.size, 0, none⟩) 0 0 := ⟨_, rfl⟩
      rw [← hv2] at hAI ⊢
      have HA2 := hid hAI
      clear hro hAI hv2 HX HB HX1 HB1 hb1 HLG hg1
      go_wp2_with fail
      go_loopw [5, 6] (fun vx ix wr => ∃ (vl : Value) (i : Nat) (L : List (Value × Int)), vl = vx ∧ i ≤ n ∧ ix = .int .i64 ((i : Nat) : Int) ∧ (∀ j (h : j < Rs.length), j < i → Rs[j].1.length ≤ 12) ∧ AudI g w R fv cv vl L (Rs.take i) wr) (fun _ ix _ => n - (intOf ix).toNat)
      case atStart => exact ⟨_, 0, [], rfl, by omega, rfl, fun j _ h => by omega, HA2.out⟩
      case round =>
        clear HA2
        obtain ⟨vl, i, L, rfl, hi, rfl, hsh, hAr⟩ := hrel
        have HAI := hid hAr
        rcases Nat.lt_or_ge i n with hlt | hge
        · have hin : decide (((i : Nat) : Int) < ((n : Nat) : Int)) = true := decide_eq_true (by omega)
          have hin' : ((i : Nat) : Int) < ((n : Nat) : Int) := by omega
          have hi0 : (0 : Int) ≤ ((i : Nat) : Int) := by omega
          have hiw : IntKind.i64.wrap (((i : Nat) : Int) + 1) = ((i + 1 : Nat) : Int) := (IntWalk.i64_in _ (by omega)).trans (by omega)
          have hiL : i < Rs.length := by rw [HN.out]; exact hlt
          obtain ⟨bh, oh, u, hpu, hbN, c0, c1, hru, hcpu, h63⟩ := (HRR.out.below (hg ▸ hAr.bel)).elem hiL
          subst hpu
          have htk : Rs.take (i + 1) = Rs.take i ++ [(Rs[i].1, Rs[i].2)] := by rw [List.take_add_one, List.getElem?_eq_getElem hiL]; rfl
          have hsn : ∀ j (h : j < Rs.length), j < i + 1 → Rs[i].1.length ≤ 12 → Rs[j].1.length ≤ 12 := fun j h1 h2 h3 => by
            by_cases e : j = i
            · subst e; exact h3
            · exact hsh j h1 (by omega)
          obtain ⟨xs, hxs⟩ : ∃ xs, Rs[i].1 = xs := ⟨_, rfl⟩
          obtain ⟨z, hz⟩ : ∃ z, Rs[i].2 = z := ⟨_, rfl⟩
          rw [hxs] at hru htk hsn
          rw [hz] at c1 htk
          obtain ⟨m, hm⟩ : ∃ m, xs.length = m := ⟨_, rfl⟩
          obtain ⟨px, cx, hux⟩ := hru.form
          rw [hm] at hux
          subst hux
          have HRU := hid hru
          have HTK := hid htk
          have HM := hid hm
          have hgr : g < wr.heap.size := heap_lt hAr.hx
          clear hru htk hcpu h63 hxs hz hAr hm
          by_cases h12 : 12 < m
          · have h12' : decide ((12 : Int) < ((m : Nat) : Int)) = true := decide_eq_true (by omega)
            have h12'' : (12 : Int) < ((m : Nat) : Int) := by omega
            go_wp2_with (go_at_call 12; refine (known_c _).mono ?_; rintro e wk ⟨rfl, hbk⟩)
            go_ret
            exact ⟨rfl, by rw [hg]; exact HAI.out.bel.trans (hbk.mono (Nat.le_of_lt hgr))⟩
          · have h12' : decide ((12 : Int) < ((m : Nat) : Int)) = false := decide_eq_false (by omega)
            have h12'' : ¬ (12 : Int) < ((m : Nat) : Int) := by omega
            have HLM := hid (show xs.length ≤ 12 by rw [HM.out]; omega)
            go_upto_region 9 with fail
            refine grow_region 14 [40, 41, 42, 43, 44, 45, 46, 47, 48, 49, 50, 51, 52, 53] (by kernel_rfl) (by kernel_rfl) (D9 (g + 1) vl (.slice (some ⟨bh, oh, none⟩) n cu) i bh oh (.slice px m cx) z xs) (fun _ _ _ => False) D9.mono (fun _ _ _ _ _ h => h.elim) ?_ ?_
            · intro j oj hj hoj a' w' hb' he hdep K hK
              have h5 : a'.eval (.tmp 5) = vl := (he 5 (by decide)).trans rfl
              have h1 : a'.eval (.tmp 1) = (.slice (some ⟨bh, oh, none⟩) n cu) := (he 1 (by decide)).trans rfl
              have h6 : a'.eval (.tmp 6) = (.int .i64 ((i : Nat) : Int)) := (he 6 (by decide)).trans rfl
              have d0 := (hb'.cell (p := ⟨bh, oh + i * 2, none⟩) hbN).trans c0
              have d1 := (hb'.cell (p := ⟨bh, oh + i * 2 + 1, none⟩) hbN).trans c1
              have hcall : Calls Try.prog 25 #[(.slice px m cx)] w' fun e w'' => ∃ v, e = .returned v ∧ Ints w'' (g + 1) v xs ∧ Below w'.heap.size w' w'' :=
                (ints_c (.slice px m cx) xs w' (HRU.out.below hb') (by have := HLM.out; omega)).mono fun e w'' ⟨v, h1, h2, h3⟩ => ⟨v, h1, h2.mono (by have := hb'.size; have := heap_lt HAI.out.hx; omega), h3⟩
              have hj' : j = 0 ∨ j = 1 ∨ j = 2 ∨ j = 3 ∨ j = 4 ∨ j = 5 ∨ j = 6 ∨ j = 7 ∨ j = 8 ∨ j = 9 ∨ j = 10 ∨ j = 11 ∨ j = 12 ∨ j = 13 := by omega
              rcases hj' with rfl | rfl | rfl | rfl | rfl | rfl | rfl | rfl | rfl | rfl | rfl | rfl | rfl | rfl
              · obtain rfl := Option.some.inj hoj
                exact wpO_val _ (exec_mv rfl h5) (hK _ _ (Below.refl _ _) rfl (fun b h => h.elim))
              · obtain rfl := Option.some.inj hoj
                exact wpO_val _ (exec_mv rfl h1) (hK _ _ (Below.refl _ _) rfl (fun b h => h.elim))
              · obtain rfl := Option.some.inj hoj
                exact wpO_val _ (exec_mv rfl h6) (hK _ _ (Below.refl _ _) rfl (fun b h => h.elim))
              · obtain rfl := Option.some.inj hoj
                exact wpO_val _ (exec_ixC rfl (hdep ⟨1, .data⟩ (by simp) rfl) (hdep ⟨2, .data⟩ (by simp) rfl) hlt) (hK _ _ (Below.refl _ _) rfl (fun b h => h.elim))
              · obtain rfl := Option.some.inj hoj
                exact wpO_val _ (exec_fldC0 rfl (hdep ⟨3, .data⟩ (by simp) rfl)) (hK _ _ (Below.refl _ _) rfl (fun b h => h.elim))
              · obtain rfl := Option.some.inj hoj
                exact wpO_val _ (exec_ldslc rfl (hdep ⟨4, .data⟩ (by simp) rfl) d0) (hK _ _ (Below.refl _ _) rfl (fun b h => h.elim))
              · obtain rfl := Option.some.inj hoj
                exact wpO_call _ _ (exec_call1 rfl rfl (hdep ⟨5, .data⟩ (by simp) rfl) (by go_simp)) (hcall.mono fun e w'' ⟨v, h1, h2, h3⟩ => ⟨v, h1, hK v w'' h3 h2 (fun b h => h.elim)⟩)
              · obtain rfl := Option.some.inj hoj
                exact wpO_val _ (exec_mv rfl h1) (hK _ _ (Below.refl _ _) rfl (fun b h => h.elim))
              · obtain rfl := Option.some.inj hoj
                exact wpO_val _ (exec_mv rfl h6) (hK _ _ (Below.refl _ _) rfl (fun b h => h.elim))
              · obtain rfl := Option.some.inj hoj
                exact wpO_val _ (exec_ixC rfl (hdep ⟨7, .data⟩ (by simp) rfl) (hdep ⟨8, .data⟩ (by simp) rfl) hlt) (hK _ _ (Below.refl _ _) rfl (fun b h => h.elim))
              · obtain rfl := Option.some.inj hoj
                exact wpO_val _ (exec_fldC1 rfl (hdep ⟨9, .data⟩ (by simp) rfl)) (hK _ _ (Below.refl _ _) rfl (fun b h => h.elim))
              · obtain rfl := Option.some.inj hoj
                exact wpO_val _ (exec_ldI rfl (hdep ⟨10, .data⟩ (by simp) rfl) d1) (hK _ _ (Below.refl _ _) rfl (fun b h => h.elim))
              · obtain rfl := Option.some.inj hoj
                have k6 : Ints w' (g + 1) (a'.eval (.tmp 46)) xs := (hdep ⟨6, .data⟩ (by simp) rfl)
                have k11 : a'.eval (.tmp 51) = .int .i64 z := (hdep ⟨11, .data⟩ (by simp) rfl)
                obtain ⟨p9, n9, c9, e9⟩ := k6.slice
                rw [e9] at k6
                exact wpO_val _ (exec_bldC rfl e9 k11) (hK _ _ (Below.refl _ _) ⟨_, rfl, k6⟩ (fun b h => h.elim))
              · obtain rfl := Option.some.inj hoj
                obtain ⟨u9, e9, k6⟩ : D9 (g + 1) vl (.slice (some ⟨bh, oh, none⟩) n cu) i bh oh (.slice px m cx) z xs 12 (a'.eval (.tmp 52)) w' := (hdep ⟨12, .data⟩ (by simp) rfl)
                obtain ⟨p9, n9, c9, rfl⟩ := k6.slice
                have hbal : Below w'.heap.size w' (w'.alloc (.cells #[.slice p9 n9 c9, .int .i64 z] 57)) := (Below.refl _ _).alloc (Nat.le_refl _) _
                exact wpO_val _ (exec_bslC rfl e9) (hK _ _ hbal ⟨_, _, rfl, heap_alloc_new w' _, k6.below hbal⟩ (fun b h => h.elim))
            · intro vs w6 hb6 hD hap hnw
              have e0 : vs 0 = vl := hD 0 (by omega)
              obtain ⟨q, u', e13, hq, hu'⟩ := hD 13 (by omega)
              simp only [puts, Act.put, List.setIfInBounds_toArray, List.set_cons_zero, List.set_cons_succ, List.drop_succ_cons, List.drop_zero, Nat.zero_add, Nat.reduceAdd, e0, e13]
              have HA6 := hid (HAI.out.below hb6)
              clear hD hap hnw e0 e13 hb6
              have k0 := cell_of_row w6 q 0 _ _ _ hq
              have k1 := cell_of_row w6 q 1 _ _ _ hq
              have hs6 : g + 1 ≤ w6.heap.size := heap_lt HA6.out.hx
              go_wp2_with (refine wpList_plain rfl fun _ hK => wpO_app_cast (.tmp 40) (.tmp 53) rfl (g + 1) vl L (Rs.take i) rfl HA6.out.ro u' z xs hu' q 1 rfl k0 k1 (by rw [List.length_take]; omega) hs6 fun v7 w7 hro hgr => hK _ _ ?_)
              go_roundw
              case rel => exact ⟨_, i + 1, L ++ [(u', z)], rfl, by omega, rfl, fun j h1 h2 => hsn j h1 h2 HLM.out, by rw [HTK.out]; exact HA6.out.app hgr hro⟩
              case measure => simp only [intOf, Int.toNat_natCast]; omega
        · have e : n = i := by omega
          subst e
          have hin : decide (((n : Nat) : Int) < ((n : Nat) : Int)) = false := decide_eq_false (by omega)
          have HSH := hid (fun i (h : i < Rs.length) => hsh i h (by have := HN.out; omega))
          have hfull : Rs.take n = Rs := List.take_of_length_le (by have := HN.out; omega)
          rw [hfull] at HAI
          have HA9 := HAI
          clear hAr hfull hsh hge hi HAI
          have hres : ∀ x ∈ Rs, x.1.length ≤ 1000000 ∧ ∀ c ∈ x.1, c ≤ 9223372036854775807 := fun x hx => by
            obtain ⟨i, hi, rfl⟩ := List.getElem_of_mem hx
            obtain ⟨_, _, _, _, _, _, _, _, _, h63⟩ := HRR.out.elem hi
            exact ⟨by have := HSH.out i hi; omega, h63⟩
          obtain ⟨q0, a0, e0, hRK, hAU⟩ := audits_all R Rs (by omega) (by omega) hres
          have HAU := hid hAU
          have HRK := hid hRK
          obtain ⟨w9, hw9⟩ : ∃ w9, wr = w9 := ⟨_, rfl⟩
          subst hw9
          clear hRK hAU hres
          go_upto_region 11 with (first
        | (refine wpList_value rfl (by intro c hc; cases hc) (.agg (handR R fv cv)) (exec_ldR rfl rfl HA9.out.hx) ?_)
        | (go_at_call 15; refine (own_c R fv cv wr (HRF.out.below (hg ▸ HA9.out.bel)) (HRC.out.below (hg ▸ HA9.out.bel)) (by omega) (by omega)).mono ?_; rintro e wa ⟨fa, ca, rfl, hfa, hca, hba⟩; have HAa := hid (HA9.out.below hba))
        | (go_at_call 30; refine (HAU.out fa ca vl wa hfa.reads hca.readsA (by have h := HAa.out.ro.recAt; exact h)).mono ?_; rintro e wb ⟨rfl, hbb⟩; have HBb := hid (HAa.out.bel.trans (hbb.mono (Nat.le_of_lt (heap_lt HAa.out.hx)))); have HXb := hid (heap_below hbb HAa.out.hx (heap_lt HAa.out.hx))))
          have hk := HRK.out
          have HHD := hid (rhand_c R fv cv (by omega) (by omega) wb.heap.size wb (RawAt.came (HRF.out.below (hg ▸ HBb.out)) (HRC.out.below (hg ▸ HBb.out))))
          clear HRK HAU hfa hca hba hbb
          cases hk with
          | no h0 =>
            rw [h0] at HHD
            go_wp2_with (first
        | (refine wpList_value rfl (by intro c hc; cases hc) (.agg (handR R fv cv)) (exec_ldR rfl rfl HXb.out) ?_)
        | (go_at_call 13; refine HHD.out.mono ?_; rintro e wd ⟨rfl, hbd⟩; have HBd := hid (HBb.out.trans (hbd.mono (Nat.le_of_lt (heap_lt HXb.out)))); have HXd := hid (heap_below hbd HXb.out (heap_lt HXb.out)); clear hbd)
        | (go_at_call 12; refine (known_c _).mono ?_; rintro e wk ⟨rfl, hbk⟩))
            go_ret
            exact ⟨rfl, by rw [hg]; exact HBd.out.trans (hbk.mono (Nat.le_of_lt (heap_lt HXd.out)))⟩
          | long h0 h2 =>
            rw [h0] at HHD
            rw [HN.out] at h2
            have hl3 : decide ((200 : Int) < ((n : Nat) : Int)) = true := decide_eq_true (by omega)
            have hl4 : (200 : Int) < ((n : Nat) : Int) := by omega
            go_wp2_with (first
        | (refine wpList_value rfl (by intro c hc; cases hc) (.agg (handR R fv cv)) (exec_ldR rfl rfl HXb.out) ?_)
        | (go_at_call 13; refine HHD.out.mono ?_; rintro e wd ⟨rfl, hbd⟩; have HBd := hid (HBb.out.trans (hbd.mono (Nat.le_of_lt (heap_lt HXb.out)))); have HXd := hid (heap_below hbd HXb.out (heap_lt HXb.out)); clear hbd)
        | (go_at_call 12; refine (known_c _).mono ?_; rintro e wk ⟨rfl, hbk⟩))
            go_ret
            exact ⟨rfl, by rw [hg]; exact HBd.out.trans (hbk.mono (Nat.le_of_lt (heap_lt HXd.out)))⟩
          | yes H c a e hR hV h2 hau =>
            subst hR
            rw [hV.ok] at HHD
            rw [HN.out] at h2
            have hl3 : decide ((200 : Int) < ((n : Nat) : Int)) = false := decide_eq_false (by omega)
            have hl4 : ¬ (200 : Int) < ((n : Nat) : Int) := by omega
            have HVL := hid hV
            have HAN := hid hau
            clear hV hau
            go_upto_region 15 with (first
        | (refine wpList_value rfl (by intro c hc; cases hc) (.agg (handR (rawOf H) fv cv)) (exec_ldR rfl rfl HXb.out) ?_)
        | (go_at_call 13; refine HHD.out.mono ?_; rintro e wd ⟨rfl, hbd⟩; have HBd := hid (HBb.out.trans (hbd.mono (Nat.le_of_lt (heap_lt HXb.out)))); have HXd := hid (heap_below hbd HXb.out (heap_lt HXb.out)); clear hbd))
            go_wp2_with fail
            clear HHD HAa HBb HXb HA9
            go_loopw [10] (fun ix wr => ∃ i : Nat, i ≤ n ∧ ix = .int .i64 ((i : Nat) : Int) ∧ audN H (Rs.drop i) i = audN H Rs 0 ∧ Below wd.heap.size wd wr) (fun ix _ => n - (intOf ix).toNat)
            case atStart => exact ⟨0, by omega, rfl, by rw [List.drop_zero], Below.refl _ _⟩
            case round =>
              obtain ⟨i, hi, rfl, hA, hB⟩ := hrel
              have HOr := hid hB
              have HBr := hid (HBd.out.trans (hB.mono (Nat.le_of_lt (heap_lt HXd.out))))
              have HXr := hid (heap_below hB HXd.out (heap_lt HXd.out))
              clear hB
              rcases Nat.lt_or_ge i n with hlt | hge
              · have hin : decide (((i : Nat) : Int) < ((n : Nat) : Int)) = true := decide_eq_true (by omega)
                have hin' : ((i : Nat) : Int) < ((n : Nat) : Int) := by omega
                have hi0 : (0 : Int) ≤ ((i : Nat) : Int) := by omega
                have hiw : IntKind.i64.wrap (((i : Nat) : Int) + 1) = ((i + 1 : Nat) : Int) := (IntWalk.i64_in _ (by omega)).trans (by omega)
                have hiL : i < Rs.length := by rw [HN.out]; exact hlt
                obtain ⟨bh, oh, u, hpu, hbN, c0, c1, hru, hcpu, h63⟩ := (HRR.out.below (hg ▸ HBr.out)).elem hiL
                subst hpu
                have hx12 := HSH.out i hiL
                obtain ⟨xs, hxs⟩ : ∃ xs, Rs[i].1 = xs := ⟨_, rfl⟩
                obtain ⟨z, hz⟩ : ∃ z, Rs[i].2 = z := ⟨_, rfl⟩
                rw [hxs] at hru h63 hx12
                rw [hz] at c1
                have HRU := hid hru
                have HCP := hid hcpu
                have H63 := hid h63
                clear hru hcpu h63
                cases hfu : fulN H (beginS H) xs with
                | bad k e2 =>
                  have hne2 := fulbad_ne hfu
                  have hA2 := aud_bad hiL (hxs ▸ hfu)
                  have HFU := hid hfu
                  rw [hA, HAN.out] at hA2
                  injection hA2 with ea1 ea2
                  injection ea2 with ea2 ea3
                  subst ea1 ea2 ea3
                  clear hfu hA hxs hz
                  go_upto_region 18 with fail
                  refine grow_region 11 [102, 103, 104, 105, 106, 107, 108, 101, 109, 110, 11] (by kernel_rfl) (by kernel_rfl) (D18 (.agg (handR (rawOf H) fv cv)) (.slice (some ⟨bh, oh, none⟩) n cu) i bh oh u (.int .i64 ((k : Nat) : Int)) (.int .i64 ((e2 : Nat) : Int))) (fun _ _ _ => False) D18.mono (fun _ _ _ _ _ h => h.elim) ?_ ?_
                  · intro j oj hj hoj a' w' hb' he hdep K hK
                    have h1 : a'.eval (.tmp 1) = (.slice (some ⟨bh, oh, none⟩) n cu) := (he 1 (by decide)).trans rfl
                    have h2 : a'.eval (.tmp 2) = (.pointer (some ⟨g, 0, none⟩)) := (he 2 (by decide)).trans rfl
                    have h10 : a'.eval (.tmp 10) = (.int .i64 ((i : Nat) : Int)) := (he 10 (by decide)).trans rfl
                    have hld : w'.heap[g]? = some (.cells (handR (rawOf H) fv cv) 26 (0, 0)) := heap_below hb' HXr.out (heap_lt HXr.out)
                    have d0 := (hb'.cell (p := ⟨bh, oh + i * 2, none⟩) hbN).trans c0
                    have hB' : Below g w w' := HBr.out.trans (hb'.mono (Nat.le_of_lt (heap_lt HXr.out)))
                    have hcall : Calls Try.prog 31 #[.agg (handR (rawOf H) fv cv), u] w' fun e w'' => e = .returned (.tuple #[(.int .i64 ((k : Nat) : Int)), (.int .i64 ((e2 : Nat) : Int))]) ∧ Below w'.heap.size w' w'' := by
                      have h := rcomplete_c H HVL.out fv cv xs u HCP.out (by omega) w'.heap.size w' (RawAt.came (HRF.out.below (hg ▸ hB')) (HRC.out.below (hg ▸ hB'))) (CrsAt.came (HRU.out.below hb'))
                      rw [HFU.out] at h
                      exact h
                    have hj' : j = 0 ∨ j = 1 ∨ j = 2 ∨ j = 3 ∨ j = 4 ∨ j = 5 ∨ j = 6 ∨ j = 7 ∨ j = 8 ∨ j = 9 ∨ j = 10 := by omega
                    rcases hj' with rfl | rfl | rfl | rfl | rfl | rfl | rfl | rfl | rfl | rfl | rfl
                    · obtain rfl := Option.some.inj hoj
                      exact wpO_val _ (exec_ldR rfl h2 hld) (hK _ _ (Below.refl _ _) rfl (fun b h => h.elim))
                    · obtain rfl := Option.some.inj hoj
                      exact wpO_val _ (exec_mv rfl h1) (hK _ _ (Below.refl _ _) rfl (fun b h => h.elim))
                    · obtain rfl := Option.some.inj hoj
                      exact wpO_val _ (exec_mv rfl h10) (hK _ _ (Below.refl _ _) rfl (fun b h => h.elim))
                    · obtain rfl := Option.some.inj hoj
                      exact wpO_val _ (exec_ixC rfl (hdep ⟨1, .data⟩ (by simp) rfl) (hdep ⟨2, .data⟩ (by simp) rfl) hlt) (hK _ _ (Below.refl _ _) rfl (fun b h => h.elim))
                    · obtain rfl := Option.some.inj hoj
                      exact wpO_val _ (exec_fldC0 rfl (hdep ⟨3, .data⟩ (by simp) rfl)) (hK _ _ (Below.refl _ _) rfl (fun b h => h.elim))
                    · obtain rfl := Option.some.inj hoj
                      exact wpO_val _ (exec_ldslc rfl (hdep ⟨4, .data⟩ (by simp) rfl) d0) (hK _ _ (Below.refl _ _) rfl (fun b h => h.elim))
                    · obtain rfl := Option.some.inj hoj
                      exact wpO_call _ _ (exec_call2 rfl rfl (hdep ⟨0, .data⟩ (by simp) rfl) (hdep ⟨5, .data⟩ (by simp) rfl) (by go_simp)) (hcall.mono fun e w'' ⟨h1, h2⟩ => ⟨_, h1, hK _ w'' h2 rfl (fun b h => h.elim)⟩)
                    · obtain rfl := Option.some.inj hoj
                      exact wpO_val _ (exec_mv rfl (hdep ⟨6, .data⟩ (by simp) rfl)) (hK _ _ (Below.refl _ _) rfl (fun b h => h.elim))
                    · obtain rfl := Option.some.inj hoj
                      exact wpO_val _ (exec_ext rfl (hdep ⟨7, .data⟩ (by simp) rfl) rfl) (hK _ _ (Below.refl _ _) rfl (fun b h => h.elim))
                    · obtain rfl := Option.some.inj hoj
                      exact wpO_val _ (exec_ext rfl (hdep ⟨7, .data⟩ (by simp) rfl) rfl) (hK _ _ (Below.refl _ _) rfl (fun b h => h.elim))
                    · obtain rfl := Option.some.inj hoj
                      exact wpO_val _ (exec_asg rfl (hdep ⟨8, .data⟩ (by simp) rfl)) (hK _ _ (Below.refl _ _) rfl (fun b h => h.elim))
                  · intro vs w6 hb6 hD hap hnw
                    have e8 : vs 8 = (.int .i64 ((k : Nat) : Int)) := hD 8 (by omega)
                    have e9 : vs 9 = (.int .i64 ((e2 : Nat) : Int)) := hD 9 (by omega)
                    have e10 : vs 10 = (.int .i64 ((k : Nat) : Int)) := hD 10 (by omega)
                    simp only [puts, Act.put, List.setIfInBounds_toArray, List.set_cons_zero, List.set_cons_succ, List.drop_succ_cons, List.drop_zero, Nat.zero_add, Nat.reduceAdd, e8, e9, e10]
                    have HB6 := hid (HBr.out.trans (hb6.mono (Nat.le_of_lt (heap_lt HXr.out))))
                    have HX6 := hid (heap_below hb6 HXr.out (heap_lt HXr.out))
                    have HU6 := hid (HRU.out.below hb6)
                    have f0 := (hb6.cell (p := ⟨bh, oh + i * 2, none⟩) hbN).trans c0
                    have f1 := (hb6.cell (p := ⟨bh, oh + i * 2 + 1, none⟩) hbN).trans c1
                    have hbN6 : bh < w6.heap.size := Nat.lt_of_lt_of_le hbN hb6.size
                    have HO6 := hid (HOr.out.trans (hb6.mono HOr.out.size))
                    clear hD hap hnw e8 e9 e10
                    have hb2 : (((e2 : Nat) : Int) != 0) = true := by simp; omega
                    go_upto_region 20 with fail
                    refine grow_region 15 [114, 115, 116, 117, 118, 119, 120, 121, 122, 113, 123, 124, 125, 13, 14] (by kernel_rfl) (by kernel_rfl) (D20 (rawOf H) (.agg (handR (rawOf H) fv cv)) (.slice (some ⟨bh, oh, none⟩) n cu) i bh oh u (.int .i64 0) (.int .i64 ((k : Nat) : Int)) (.int .i64 ((e2 : Nat) : Int)) xs) (fun _ _ _ => False) D20.mono (fun _ _ _ _ _ h => h.elim) ?_ ?_
                    · intro j oj hj hoj a' w' hb' he hdep K hK
                      have h1 : a'.eval (.tmp 1) = (.slice (some ⟨bh, oh, none⟩) n cu) := (he 1 (by decide)).trans rfl
                      have h2 : a'.eval (.tmp 2) = (.pointer (some ⟨g, 0, none⟩)) := (he 2 (by decide)).trans rfl
                      have h10 : a'.eval (.tmp 10) = (.int .i64 ((i : Nat) : Int)) := (he 10 (by decide)).trans rfl
                      have hld : w'.heap[g]? = some (.cells (handR (rawOf H) fv cv) 26 (0, 0)) := heap_below hb' HX6.out (heap_lt HX6.out)
                      have d0 := (hb'.cell (p := ⟨bh, oh + i * 2, none⟩) hbN6).trans f0
                      have hB' : Below g w w' := HB6.out.trans (hb'.mono (Nat.le_of_lt (heap_lt HX6.out)))
                      have hcow : Calls Try.prog 15 #[.agg (handR (rawOf H) fv cv)] w' fun e w'' => ∃ v, e = .returned v ∧ (∃ f c, v = .agg (handR (rawOf H) f c) ∧ ReadsF w'' f (rawOf H).faces ∧ ReadsA w'' c (rawOf H).cards) ∧ Below w'.heap.size w' w'' :=
                        (own_c (rawOf H) fv cv w' (HRF.out.below (hg ▸ hB')) (HRC.out.below (hg ▸ hB')) (by omega) (by omega)).mono fun e w'' ⟨f, c, h1, h2, h3, h4⟩ => ⟨_, h1, ⟨f, c, rfl, h2.reads, h3.readsA⟩, h4⟩
                      have hcin : Calls Try.prog 25 #[u] w' fun e w'' => ∃ v, e = .returned v ∧ ReadsA w'' v xs ∧ Below w'.heap.size w' w'' :=
                        (ints_c u xs w' (HU6.out.below hb') (by omega)).mono fun e w'' ⟨v, h1, h2, h3⟩ => ⟨v, h1, h2.readsA, h3⟩
                      have hcrk : ∀ f c v, ReadsF w' f (rawOf H).faces → ReadsA w' c (rawOf H).cards → ReadsA w' v xs → Calls Try.prog 24 #[.agg (handR (rawOf H) f c), v] w' fun e w'' => e = .returned (.tuple #[.int .i64 0, .int .i64 ((k : Nat) : Int), .int .i64 ((e2 : Nat) : Int)]) ∧ Below w'.heap.size w' w'' := fun f c v h1 h2 h3 => by
                        have h := Rank_yes w'.heap.size w'.heap.size H HVL.out f c v xs (by omega) H63.out w' (RawAt.came h1 h2) (CrsAt.came h3)
                        unfold rankV at h
                        rw [HFU.out] at h
                        exact h
                      have hj' : j = 0 ∨ j = 1 ∨ j = 2 ∨ j = 3 ∨ j = 4 ∨ j = 5 ∨ j = 6 ∨ j = 7 ∨ j = 8 ∨ j = 9 ∨ j = 10 ∨ j = 11 ∨ j = 12 ∨ j = 13 ∨ j = 14 := by omega
                      rcases hj' with rfl | rfl | rfl | rfl | rfl | rfl | rfl | rfl | rfl | rfl | rfl | rfl | rfl | rfl | rfl
                      · obtain rfl := Option.some.inj hoj
                        exact wpO_val _ (exec_ldR rfl h2 hld) (hK _ _ (Below.refl _ _) rfl (fun b h => h.elim))
                      · obtain rfl := Option.some.inj hoj
                        exact wpO_call _ _ (exec_call1 rfl rfl (hdep ⟨0, .data⟩ (by simp) rfl) (by go_simp)) (hcow.mono fun e w'' ⟨v, h1, h2, h3⟩ => ⟨v, h1, hK v w'' h3 h2 (fun b h => h.elim)⟩)
                      · obtain rfl := Option.some.inj hoj
                        exact wpO_val _ (exec_mv rfl h1) (hK _ _ (Below.refl _ _) rfl (fun b h => h.elim))
                      · obtain rfl := Option.some.inj hoj
                        exact wpO_val _ (exec_mv rfl h10) (hK _ _ (Below.refl _ _) rfl (fun b h => h.elim))
                      · obtain rfl := Option.some.inj hoj
                        exact wpO_val _ (exec_ixC rfl (hdep ⟨2, .data⟩ (by simp) rfl) (hdep ⟨3, .data⟩ (by simp) rfl) hlt) (hK _ _ (Below.refl _ _) rfl (fun b h => h.elim))
                      · obtain rfl := Option.some.inj hoj
                        exact wpO_val _ (exec_fldC0 rfl (hdep ⟨4, .data⟩ (by simp) rfl)) (hK _ _ (Below.refl _ _) rfl (fun b h => h.elim))
                      · obtain rfl := Option.some.inj hoj
                        exact wpO_val _ (exec_ldslc rfl (hdep ⟨5, .data⟩ (by simp) rfl) d0) (hK _ _ (Below.refl _ _) rfl (fun b h => h.elim))
                      · obtain rfl := Option.some.inj hoj
                        exact wpO_call _ _ (exec_call1 rfl rfl (hdep ⟨6, .data⟩ (by simp) rfl) (by go_simp)) (hcin.mono fun e w'' ⟨v, h1, h2, h3⟩ => ⟨v, h1, hK v w'' h3 h2 (fun b h => h.elim)⟩)
                      · obtain rfl := Option.some.inj hoj
                        obtain ⟨fa, ca, ea, hfa, hca⟩ : D20 (rawOf H) (.agg (handR (rawOf H) fv cv)) (.slice (some ⟨bh, oh, none⟩) n cu) i bh oh u (.int .i64 0) (.int .i64 ((k : Nat) : Int)) (.int .i64 ((e2 : Nat) : Int)) xs 1 (a'.eval (.tmp 115)) w' := (hdep ⟨1, .data⟩ (by simp) rfl)
                        have hxa : ReadsA w' (a'.eval (.tmp 121)) xs := (hdep ⟨7, .data⟩ (by simp) rfl)
                        exact wpO_call _ _ (exec_call2 rfl rfl ea rfl (by go_simp)) ((hcrk fa ca _ hfa hca hxa).mono fun e w'' ⟨h1, h2⟩ => ⟨_, h1, hK _ w'' h2 rfl (fun b h => h.elim)⟩)
                      · obtain rfl := Option.some.inj hoj
                        exact wpO_val _ (exec_mv rfl (hdep ⟨8, .data⟩ (by simp) rfl)) (hK _ _ (Below.refl _ _) rfl (fun b h => h.elim))
                      · obtain rfl := Option.some.inj hoj
                        exact wpO_val _ (exec_ext rfl (hdep ⟨9, .data⟩ (by simp) rfl) rfl) (hK _ _ (Below.refl _ _) rfl (fun b h => h.elim))
                      · obtain rfl := Option.some.inj hoj
                        exact wpO_val _ (exec_ext rfl (hdep ⟨9, .data⟩ (by simp) rfl) rfl) (hK _ _ (Below.refl _ _) rfl (fun b h => h.elim))
                      · obtain rfl := Option.some.inj hoj
                        exact wpO_val _ (exec_ext rfl (hdep ⟨9, .data⟩ (by simp) rfl) rfl) (hK _ _ (Below.refl _ _) rfl (fun b h => h.elim))
                      · obtain rfl := Option.some.inj hoj
                        exact wpO_val _ (exec_asg rfl (hdep ⟨10, .data⟩ (by simp) rfl)) (hK _ _ (Below.refl _ _) rfl (fun b h => h.elim))
                      · obtain rfl := Option.some.inj hoj
                        exact wpO_val _ (exec_asg rfl (hdep ⟨11, .data⟩ (by simp) rfl)) (hK _ _ (Below.refl _ _) rfl (fun b h => h.elim))
                    · intro vs w8 hb8 hD hap hnw
                      have e10 : vs 10 = .int .i64 0 := hD 10 (by omega)
                      have e11 : vs 11 = .int .i64 ((k : Nat) : Int) := hD 11 (by omega)
                      have e12 : vs 12 = .int .i64 ((e2 : Nat) : Int) := hD 12 (by omega)
                      have e13 : vs 13 = .int .i64 0 := hD 13 (by omega)
                      have e14 : vs 14 = .int .i64 ((k : Nat) : Int) := hD 14 (by omega)
                      simp only [puts, Act.put, List.setIfInBounds_toArray, List.set_cons_zero, List.set_cons_succ, List.drop_succ_cons, List.drop_zero, Nat.zero_add, Nat.reduceAdd, e10, e11, e12, e13, e14]
                      have HB8 := hid (HB6.out.trans (hb8.mono (Nat.le_of_lt (heap_lt HX6.out))))
                      have hg8 : g ≤ w8.heap.size := Nat.le_trans (Nat.le_of_lt (heap_lt HX6.out)) hb8.size
                      clear hD hap hnw e10 e11 e12 e13 e14
                      go_wp2_with (go_at_call 12; refine (known_c _).mono ?_; rintro e wk ⟨rfl, hbk⟩)
                      go_ret
                      exact ⟨rfl, by rw [hg]; exact HB8.out.trans (hbk.mono hg8)⟩
                | ok t =>
                  obtain ⟨hfo, ht0⟩ := ful_ok hfu
                  obtain ⟨hFt, hLt, hdp⟩ := fol_dep H xs (beginS H) 0 t (begin_fit H HVL.out.hand.ok) HVL.out.hand.last hfo
                  obtain ⟨M, hM⟩ := fol_nat H _ _ _ _ hfo
                  have hrn := (fol_run H M (beginS H) 0 t).1 (hM ▸ hfo)
                  have hd0 : dep t = 0 := (hLt.zero hFt).1 ht0
                  obtain ⟨ou, hou⟩ : ∃ ou, outN H t = ou := ⟨_, rfl⟩
                  have HOU := hid (show ∀ W, Below g w W → ReadsA W u xs → Calls Try.prog 23 #[.agg (handR (rawOf H) fv cv), u] W fun e w'' => e = .returned (.int .i64 ou) ∧ Below W.heap.size W w'' from fun W hW hr => by
                    have h := routcome_c H HVL.out fv cv M u t hrn hd0 W.heap.size W (RawAt.came (HRF.out.below (hg ▸ hW)) (HRC.out.below (hg ▸ hW))) (hM ▸ CrsAt.came hr)
                    rw [hou] at h
                    exact h)
                  have HFU := hid hfu
                  clear hfo ht0 hFt hLt hdp hM hrn hd0
                  go_upto_region 18 with fail
                  refine grow_region 11 [102, 103, 104, 105, 106, 107, 108, 101, 109, 110, 11] (by kernel_rfl) (by kernel_rfl) (D18 (.agg (handR (rawOf H) fv cv)) (.slice (some ⟨bh, oh, none⟩) n cu) i bh oh u (.int .i64 0) (.int .i64 0)) (fun _ _ _ => False) D18.mono (fun _ _ _ _ _ h => h.elim) ?_ ?_
                  · intro j oj hj hoj a' w' hb' he hdep K hK
                    have h1 : a'.eval (.tmp 1) = (.slice (some ⟨bh, oh, none⟩) n cu) := (he 1 (by decide)).trans rfl
                    have h2 : a'.eval (.tmp 2) = (.pointer (some ⟨g, 0, none⟩)) := (he 2 (by decide)).trans rfl
                    have h10 : a'.eval (.tmp 10) = (.int .i64 ((i : Nat) : Int)) := (he 10 (by decide)).trans rfl
                    have hld : w'.heap[g]? = some (.cells (handR (rawOf H) fv cv) 26 (0, 0)) := heap_below hb' HXr.out (heap_lt HXr.out)
                    have d0 := (hb'.cell (p := ⟨bh, oh + i * 2, none⟩) hbN).trans c0
                    have hB' : Below g w w' := HBr.out.trans (hb'.mono (Nat.le_of_lt (heap_lt HXr.out)))
                    have hcall : Calls Try.prog 31 #[.agg (handR (rawOf H) fv cv), u] w' fun e w'' => e = .returned (.tuple #[(.int .i64 0), (.int .i64 0)]) ∧ Below w'.heap.size w' w'' := by
                      have h := rcomplete_c H HVL.out fv cv xs u HCP.out (by omega) w'.heap.size w' (RawAt.came (HRF.out.below (hg ▸ hB')) (HRC.out.below (hg ▸ hB'))) (CrsAt.came (HRU.out.below hb'))
                      rw [HFU.out] at h
                      exact h
                    have hj' : j = 0 ∨ j = 1 ∨ j = 2 ∨ j = 3 ∨ j = 4 ∨ j = 5 ∨ j = 6 ∨ j = 7 ∨ j = 8 ∨ j = 9 ∨ j = 10 := by omega
                    rcases hj' with rfl | rfl | rfl | rfl | rfl | rfl | rfl | rfl | rfl | rfl | rfl
                    · obtain rfl := Option.some.inj hoj
                      exact wpO_val _ (exec_ldR rfl h2 hld) (hK _ _ (Below.refl _ _) rfl (fun b h => h.elim))
                    · obtain rfl := Option.some.inj hoj
                      exact wpO_val _ (exec_mv rfl h1) (hK _ _ (Below.refl _ _) rfl (fun b h => h.elim))
                    · obtain rfl := Option.some.inj hoj
                      exact wpO_val _ (exec_mv rfl h10) (hK _ _ (Below.refl _ _) rfl (fun b h => h.elim))
                    · obtain rfl := Option.some.inj hoj
                      exact wpO_val _ (exec_ixC rfl (hdep ⟨1, .data⟩ (by simp) rfl) (hdep ⟨2, .data⟩ (by simp) rfl) hlt) (hK _ _ (Below.refl _ _) rfl (fun b h => h.elim))
                    · obtain rfl := Option.some.inj hoj
                      exact wpO_val _ (exec_fldC0 rfl (hdep ⟨3, .data⟩ (by simp) rfl)) (hK _ _ (Below.refl _ _) rfl (fun b h => h.elim))
                    · obtain rfl := Option.some.inj hoj
                      exact wpO_val _ (exec_ldslc rfl (hdep ⟨4, .data⟩ (by simp) rfl) d0) (hK _ _ (Below.refl _ _) rfl (fun b h => h.elim))
                    · obtain rfl := Option.some.inj hoj
                      exact wpO_call _ _ (exec_call2 rfl rfl (hdep ⟨0, .data⟩ (by simp) rfl) (hdep ⟨5, .data⟩ (by simp) rfl) (by go_simp)) (hcall.mono fun e w'' ⟨h1, h2⟩ => ⟨_, h1, hK _ w'' h2 rfl (fun b h => h.elim)⟩)
                    · obtain rfl := Option.some.inj hoj
                      exact wpO_val _ (exec_mv rfl (hdep ⟨6, .data⟩ (by simp) rfl)) (hK _ _ (Below.refl _ _) rfl (fun b h => h.elim))
                    · obtain rfl := Option.some.inj hoj
                      exact wpO_val _ (exec_ext rfl (hdep ⟨7, .data⟩ (by simp) rfl) rfl) (hK _ _ (Below.refl _ _) rfl (fun b h => h.elim))
                    · obtain rfl := Option.some.inj hoj
                      exact wpO_val _ (exec_ext rfl (hdep ⟨7, .data⟩ (by simp) rfl) rfl) (hK _ _ (Below.refl _ _) rfl (fun b h => h.elim))
                    · obtain rfl := Option.some.inj hoj
                      exact wpO_val _ (exec_asg rfl (hdep ⟨8, .data⟩ (by simp) rfl)) (hK _ _ (Below.refl _ _) rfl (fun b h => h.elim))
                  · intro vs w6 hb6 hD hap hnw
                    have e8 : vs 8 = (.int .i64 0) := hD 8 (by omega)
                    have e9 : vs 9 = (.int .i64 0) := hD 9 (by omega)
                    have e10 : vs 10 = (.int .i64 0) := hD 10 (by omega)
                    simp only [puts, Act.put, List.setIfInBounds_toArray, List.set_cons_zero, List.set_cons_succ, List.drop_succ_cons, List.drop_zero, Nat.zero_add, Nat.reduceAdd, e8, e9, e10]
                    have HB6 := hid (HBr.out.trans (hb6.mono (Nat.le_of_lt (heap_lt HXr.out))))
                    have HX6 := hid (heap_below hb6 HXr.out (heap_lt HXr.out))
                    have HU6 := hid (HRU.out.below hb6)
                    have f0 := (hb6.cell (p := ⟨bh, oh + i * 2, none⟩) hbN).trans c0
                    have f1 := (hb6.cell (p := ⟨bh, oh + i * 2 + 1, none⟩) hbN).trans c1
                    have hbN6 : bh < w6.heap.size := Nat.lt_of_lt_of_le hbN hb6.size
                    have HO6 := hid (HOr.out.trans (hb6.mono HOr.out.size))
                    clear hD hap hnw e8 e9 e10
                    go_upto_region 22 with fail
                    refine grow_region 7 [156, 157, 158, 159, 160, 161, 162] (by kernel_rfl) (by kernel_rfl) (D22 (.agg (handR (rawOf H) fv cv)) (.slice (some ⟨bh, oh, none⟩) n cu) i bh oh u (.int .i64 ou)) (fun _ _ _ => False) D22.mono (fun _ _ _ _ _ h => h.elim) ?_ ?_
                    · intro j oj hj hoj a' w' hb' he hdep K hK
                      have h1 : a'.eval (.tmp 1) = (.slice (some ⟨bh, oh, none⟩) n cu) := (he 1 (by decide)).trans rfl
                      have h2 : a'.eval (.tmp 2) = (.pointer (some ⟨g, 0, none⟩)) := (he 2 (by decide)).trans rfl
                      have h10 : a'.eval (.tmp 10) = (.int .i64 ((i : Nat) : Int)) := (he 10 (by decide)).trans rfl
                      have hld : w'.heap[g]? = some (.cells (handR (rawOf H) fv cv) 26 (0, 0)) := heap_below hb' HX6.out (heap_lt HX6.out)
                      have d0 := (hb'.cell (p := ⟨bh, oh + i * 2, none⟩) hbN6).trans f0
                      have hB' : Below g w w' := HB6.out.trans (hb'.mono (Nat.le_of_lt (heap_lt HX6.out)))
                      have hcall : Calls Try.prog 23 #[.agg (handR (rawOf H) fv cv), u] w' fun e w'' => e = .returned (.int .i64 ou) ∧ Below w'.heap.size w' w'' := HOU.out w' hB' (HU6.out.below hb')
                      have hj' : j = 0 ∨ j = 1 ∨ j = 2 ∨ j = 3 ∨ j = 4 ∨ j = 5 ∨ j = 6 := by omega
                      rcases hj' with rfl | rfl | rfl | rfl | rfl | rfl | rfl
                      · obtain rfl := Option.some.inj hoj
                        exact wpO_val _ (exec_ldR rfl h2 hld) (hK _ _ (Below.refl _ _) rfl (fun b h => h.elim))
                      · obtain rfl := Option.some.inj hoj
                        exact wpO_val _ (exec_mv rfl h1) (hK _ _ (Below.refl _ _) rfl (fun b h => h.elim))
                      · obtain rfl := Option.some.inj hoj
                        exact wpO_val _ (exec_mv rfl h10) (hK _ _ (Below.refl _ _) rfl (fun b h => h.elim))
                      · obtain rfl := Option.some.inj hoj
                        exact wpO_val _ (exec_ixC rfl (hdep ⟨1, .data⟩ (by simp) rfl) (hdep ⟨2, .data⟩ (by simp) rfl) hlt) (hK _ _ (Below.refl _ _) rfl (fun b h => h.elim))
                      · obtain rfl := Option.some.inj hoj
                        exact wpO_val _ (exec_fldC0 rfl (hdep ⟨3, .data⟩ (by simp) rfl)) (hK _ _ (Below.refl _ _) rfl (fun b h => h.elim))
                      · obtain rfl := Option.some.inj hoj
                        exact wpO_val _ (exec_ldslc rfl (hdep ⟨4, .data⟩ (by simp) rfl) d0) (hK _ _ (Below.refl _ _) rfl (fun b h => h.elim))
                      · obtain rfl := Option.some.inj hoj
                        exact wpO_call _ _ (exec_call2 rfl rfl (hdep ⟨0, .data⟩ (by simp) rfl) (hdep ⟨5, .data⟩ (by simp) rfl) (by go_simp)) (hcall.mono fun e w'' ⟨h1, h2⟩ => ⟨_, h1, hK _ w'' h2 rfl (fun b h => h.elim)⟩)
                    · intro vs w8 hb8 hD hap hnw
                      have e6 : vs 6 = .int .i64 ou := hD 6 (by omega)
                      simp only [puts, Act.put, List.setIfInBounds_toArray, List.set_cons_zero, List.set_cons_succ, List.drop_succ_cons, List.drop_zero, Nat.zero_add, Nat.reduceAdd, e6]
                      have HB8 := hid (HB6.out.trans (hb8.mono (Nat.le_of_lt (heap_lt HX6.out))))
                      have hg8 : g ≤ w8.heap.size := Nat.le_trans (Nat.le_of_lt (heap_lt HX6.out)) hb8.size
                      have HO8 := hid (HO6.out.trans (hb8.mono HO6.out.size))
                      have f1' := (hb8.cell (p := ⟨bh, oh + i * 2 + 1, none⟩) hbN6).trans f1
                      clear hD hap hnw e6
                      by_cases heq : ou = z
                      · have hne3 : (ou != z) = false := by simp [heq]
                        have hA2 := aud_same hiL (hxs ▸ HFU.out) (by rw [hou, hz]; exact heq)
                        go_wp2_with fail
                        go_roundw
                        case rel => exact ⟨i + 1, by omega, rfl, by rw [← hA2]; exact hA, HO8.out⟩
                        case measure => simp only [intOf, Int.toNat_natCast]; omega
                      · have hne3 : (ou != z) = true := by simpa using heq
                        have hA2 := aud_other hiL (hxs ▸ HFU.out) (by rw [hou, hz]; exact heq)
                        rw [hA, HAN.out, hou] at hA2
                        injection hA2 with ea1 ea2
                        injection ea2 with ea2 ea3
                        subst ea1 ea2 ea3
                        go_wp2_with (go_at_call 12; refine (known_c _).mono ?_; rintro e wk ⟨rfl, hbk⟩)
                        go_ret
                        exact ⟨rfl, by rw [hg]; exact HB8.out.trans (hbk.mono hg8)⟩
              · have e : n = i := by omega
                subst e
                have hin : decide (((n : Nat) : Int) < ((n : Nat) : Int)) = false := decide_eq_false (by omega)
                have hA2 := hA
                rw [List.drop_of_length_le (by rw [HN.out]; omega), HAN.out, audN] at hA2
                injection hA2 with ea1 ea2
                injection ea2 with ea2 ea3
                subst ea1 ea2 ea3
                have hgr : g ≤ wr.heap.size := Nat.le_of_lt (heap_lt HXr.out)
                clear hA
                go_wp2_with (go_at_call 12; refine (known_c _).mono ?_; rintro e wk ⟨rfl, hbk⟩)
                go_ret
                exact ⟨rfl, by rw [hg]; exact HBr.out.trans (hbk.mono hgr)⟩
end Go.Proofs.Ytmjnelkeiogdcaa
