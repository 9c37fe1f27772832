/- Walks of package hand: Outcomes, Next, complete, Run. -/
import Derived.Test.YtmjnelkeiogdcaaHW
import Derived.Test.YtmjnelkeiogdcaaPD
set_option linter.unusedSimpArgs false
set_option linter.unusedVariables false
namespace Go.Proofs.Ytmjnelkeiogdcaa
open Go Go.RowKit Go.Shelf
set_option maxRecDepth 100000

/-- A valid hand. -/
structure Val (H : HV) : Prop where
  ok : okR (rawOf H) = true
  hand : OkHand H
theorem Val.of {R : RH} (h : okR R = true) : Val (toH R) ∧ rawOf (toH R) = R := by
  obtain ⟨h1, h2⟩ := okR_yes R h
  exact ⟨⟨by rw [h1]; exact h, h2⟩, h1⟩
theorem Val.faces {H : HV} (h : Val H) : H.faces.length ≤ 20 ∧ H.cards.length ≤ 20 := by
  obtain ⟨b1, b2, -, -, -⟩ := h.hand.bare
  have len0 : ∀ {L : List (Nat × Nat)}, L = [] → L.length = 0 := fun h => by rw [h]; rfl
  have len1 : ∀ {L : List Nat}, L = [] → L.length = 0 := fun h => by rw [h]; rfl
  rcases h.hand.ok with ⟨hk, h1, h2, h3, h4, h5⟩ | ⟨hk, h1, h2, h3⟩ | ⟨hk, h1, h2, h3, h4, h5, h6⟩ | ⟨hk, h1, h2, h3, h4, h5⟩ | ⟨hk, h1, h2, h3⟩
  · have := len1 (b2 (by omega) (by omega)); omega
  · have := len0 (b1 (by omega)); have := len1 (b2 (by omega) (by omega)); omega
  · have := len0 (b1 (by omega)); have := len1 (b2 (by omega) (by omega)); omega
  · have := len0 (b1 (by omega)); omega
  · have := len0 (b1 (by omega)); omega
theorem check_yes (H : HV) (hV : Val H) (fv cv : Value) (N : Nat) (w : World) (hR : RawAt w N (rawOf H) fv cv) :
    Calls Try.prog 26 #[.agg (handA H fv cv)] w fun e w' => e = .returned (.int .i64 0) ∧ Below w.heap.size w w' := by
  have hl := hV.faces
  have h := Check_c (rawOf H) fv cv N w hR (by simp [rawOf]; omega) (by simp [rawOf]; omega)
  rw [hV.ok] at h
  exact h
theorem check_no (R : RH) (h0 : okR R = false) (fv cv : Value) (N : Nat) (w : World) (hR : RawAt w N R fv cv) (hf : R.faces.length ≤ 1000) (hc : R.cards.length ≤ 1000) :
    Calls Try.prog 26 #[.agg (handR R fv cv)] w fun e w' => e = .returned (.int .i64 2) ∧ Below w.heap.size w w' := by
  have h := Check_c R fv cv N w hR hf hc
  rw [h0] at h
  exact h
theorem fol_bad (H : HV) : ∀ (L : List Int) (s : St) (i j e : Nat), folN H s L i = .bad j e → (e = 5 ∨ e = 20) ∧ i ≤ j ∧ j < i + L.length
  | [], s, i, j, e, h => by cases h
  | c :: L, s, i, j, e, h => by
    unfold folN at h
    split at h
    · injection h with h1 h2; subst h1; subst h2; exact ⟨.inl rfl, by omega, by simp⟩
    · split at h
      · injection h with h1 h2; subst h1; subst h2; exact ⟨.inr rfl, by omega, by simp⟩
      · cases hp : pick (brs H s) c.toNat with
        | none => rw [hp] at h; injection h with h1 h2; subst h1; subst h2; exact ⟨.inr rfl, by omega, by simp⟩
        | some t =>
          rw [hp] at h
          obtain ⟨h1, h2, h3⟩ := fol_bad H L t (i + 1) j e h
          exact ⟨h1, by omega, by simp only [List.length_cons]; omega⟩
theorem fol_fit (H : HV) : ∀ (L : List Int) (s : St) (i : Nat) (t : St), Fit H s → folN H s L i = .ok t → Fit H t
  | [], s, i, t, hF, h => by injection h with h; rw [← h]; exact hF
  | c :: L, s, i, t, hF, h => by
    unfold folN at h
    split at h
    · cases h
    · split at h
      · cases h
      · cases hp : pick (brs H s) c.toNat with
        | none => rw [hp] at h; cases h
        | some u =>
          rw [hp] at h
          obtain ⟨w, hw⟩ := pick_mem _ _ _ hp
          exact fol_fit H L u (i + 1) t (step_fit H s hF _ hw).1 h
/-- A call by an interface, by its contract. -/
theorem wpList_enter {P : Program} {ops : Array Oper} {rest : List Oper} {o : Oper} {Q : Exit → Act → World → Prop} {a : Act} {w : World} (hgd : o.guard = none) {f : FuncId} {args : Array Value} (hrun : (execOp a.eval o).run P w = .ok (.enter f args) w)
    (hK : Calls P f args w fun e w' => ∃ v, e = .returned v ∧ wpList P ops Q rest (a.put o.dst v) w') : wpList P ops Q (o :: rest) a w :=
  wpList_plain hgd fun K hK' => by
    unfold Oper.wp
    rw [hrun]
    exact hK.mono fun e w' ⟨v, he, h⟩ => by subst he; exact hK' _ _ h
theorem Outcomes_yes (H : HV) (hV : Val H) (fv cv : Value) (N : Nat) (w : World) (hR : RawAt w N (rawOf H) fv cv) :
    Calls Try.prog 27 #[.agg (handA H fv cv)] w fun e w' => e = .returned (.tuple #[.int .i64 ((outsN H : Nat) : Int), .int .i64 0]) ∧ Below w.heap.size w w' := by
  have hx := heap_alloc_new w (.cells (handA H fv cv) 26)
  have hb : Below w.heap.size w (w.alloc (.cells (handA H fv cv) 26)) := (Below.refl _ _).alloc (Nat.le_refl _) _
  have HX := hid hx
  have HB := hid hb
  have hR1 := hR.below (hb.mono hR.le)
  have HC := hid (check_yes H hV fv cv N _ hR1)
  have HR := hid hR1
  have HBG := hid (fun W hW => begin_c N H fv cv hV.hand.ok W hW)
  clear hx hb hR hR1
  go_enter Try.func27, Try.ntmps27
  go_wp2_with (first
    | (refine wpList_value rfl (by intro c hc; cases hc) (.agg (handA H fv cv)) (exec_ldhand rfl rfl HX.out) ?_)
    | (go_at_call 26; refine HC.out.mono ?_; rintro e w2 ⟨rfl, hb2⟩; have HX := hid (heap_below hb2 HX.out (heap_lt HX.out)); have HB := hid (HB.out.trans (hb2.mono HB.out.size)); have HR := hid (HR.out.below (hb2.mono HR.out.le)))
    | (go_at_call 41; refine (HBG.out _ (HandAt.of HR.out)).mono ?_; rintro e w3 ⟨rfl, hb3⟩))
  go_ret2
  exact ⟨rfl, HB.out.trans (hb3.mono HB.out.size)⟩
theorem Outcomes_no (R : RH) (h0 : okR R = false) (fv cv : Value) (N : Nat) (w : World) (hR : RawAt w N R fv cv) (hf : R.faces.length ≤ 1000) (hc : R.cards.length ≤ 1000) :
    Calls Try.prog 27 #[.agg (handR R fv cv)] w fun e w' => e = .returned (.tuple #[.int .i64 0, .int .i64 2]) ∧ Below w.heap.size w w' := by
  have hb : Below w.heap.size w (w.alloc (.cells (handR R fv cv) 26)) := (Below.refl _ _).alloc (Nat.le_refl _) _
  have hR1 := hR.below (hb.mono hR.le)
  have HB := hid hb
  have HC := hid (check_no R h0 fv cv N _ hR1 hf hc)
  simp only [handR, handV] at HB HC ⊢
  clear hb hR hR1 hf hc h0
  go_enter Try.func27, Try.ntmps27
  go_wp2_with (go_at_call 26; refine HC.out.mono ?_; rintro e w2 ⟨rfl, hb2⟩)
  go_ret2
  exact ⟨rfl, HB.out.trans (hb2.mono HB.out.size)⟩
/-- What Next answers. -/
def nextV (H : HV) : FR → Array Value
  | .ok t => #[.int .i64 ((chN H t : Nat) : Int), .int .i64 0, .int .i64 0]
  | .bad i e => #[.int .i64 0, .int .i64 ((i : Nat) : Int), .int .i64 ((e : Nat) : Int)]
theorem follow_b (N Nc : Nat) (H : HV) (fv cv : Value) (hO : Okh H) (v : Value) (Cs : List Int) (hn : Cs.length ≤ 1000000) (hi63 : ∀ c ∈ Cs, c ≤ 9223372036854775807) (w : World) (hH : HandAt w N H fv cv) (hC : CrsAt w Nc v Cs) :
    Calls Try.prog 53 #[.agg (handA H fv cv), v, .func (.func 62) #[] #[]] w fun e w' => e = .returned (.tuple (folV (folN H (beginS H) Cs 0))) ∧ Below w.heap.size w w' :=
  (follow_blind N Nc H fv cv hO (fun _ => False) (fun _ _ => True) v Cs hn hi63 w hH hC (fun _ h => h.elim) trivial (fun _ _ _ _ _ => trivial) (fun tr s c W _ _ _ _ _ => (blind_c s c W).mono fun e w' ⟨h, e2⟩ => ⟨h, trivial, by rw [e2]; exact Mods.refl _ _⟩)).mono
    fun e w' ⟨h1, _, h3⟩ => ⟨h1, h3.to (Nat.le_refl _) (fun _ _ h => h)⟩
set_option maxHeartbeats 1000000 in
theorem Next_yes (N Nc : Nat) (H : HV) (hV : Val H) (fv cv : Value) (v : Value) (Cs : List Int) (hn : Cs.length ≤ 1000000) (hi63 : ∀ c ∈ Cs, c ≤ 9223372036854775807) (w : World) (hR : RawAt w N (rawOf H) fv cv) (hC : CrsAt w Nc v Cs) :
    Calls Try.prog 32 #[.agg (handA H fv cv), v] w fun e w' => e = .returned (.tuple (nextV H (folN H (beginS H) Cs 0))) ∧ Below w.heap.size w w' := by
  have hx := heap_alloc_new w (.cells (handA H fv cv) 26)
  have hb : Below w.heap.size w (w.alloc (.cells (handA H fv cv) 26)) := (Below.refl _ _).alloc (Nat.le_refl _) _
  have HX := hid hx
  have HB := hid hb
  have hR1 := hR.below (hb.mono hR.le)
  have HCK := hid (check_yes H hV fv cv N _ hR1)
  have HR := hid hR1
  have HCR := hid (hC.below (hb.mono hC.le))
  have HFO := hid (fun W hW hCW => follow_b N Nc H fv cv hV.hand.ok v Cs hn hi63 W hW hCW)
  have HFT := hid (fun t (ht : folN H (beginS H) Cs 0 = .ok t) => fol_fit H Cs _ 0 t (begin_fit H hV.hand.ok) ht)
  have HBD := hid (fun i e (ht : folN H (beginS H) Cs 0 = .bad i e) => (fol_bad H Cs _ 0 i e ht).1)
  obtain ⟨p, cp, rfl, -⟩ := hC.at'
  clear hx hb hR hR1 hC hi63
  cases hf : folN H (beginS H) Cs 0 with
  | ok t =>
    have HCH := hid (fun W hW => choices_c N H fv cv t (HFT.out t hf) W hW)
    rw [hf] at HFO
    simp only [folV, nextV] at HFO ⊢
    clear HBD HFT hf
    go_enter Try.func32, Try.ntmps32
    go_wp2_with (first
      | (refine wpList_value rfl (by intro c hc; cases hc) (.agg (handA H fv cv)) (exec_ldhand rfl rfl HX.out) ?_)
      | (go_at_call 26; refine HCK.out.mono ?_; rintro e w2 ⟨rfl, hb2⟩; have HX := hid (heap_below hb2 HX.out (heap_lt HX.out)); have HB := hid (HB.out.trans (hb2.mono HB.out.size)); have HR := hid (HR.out.below (hb2.mono HR.out.le)); have HCR := hid (HCR.out.below (hb2.mono HCR.out.le)))
      | (go_at_call 53; refine (HFO.out _ (HandAt.of HR.out) HCR.out).mono ?_; rintro e w3 ⟨rfl, hb3⟩; have HX := hid (heap_below hb3 HX.out (heap_lt HX.out)); have HB := hid (HB.out.trans (hb3.mono HB.out.size)); have HR := hid (HR.out.below (hb3.mono HR.out.le)))
      | (go_at_call 63; refine (HCH.out _ (HandAt.of HR.out)).mono ?_; rintro e w4 ⟨rfl, hb4⟩))
    go_ret3
    exact ⟨rfl, HB.out.trans (hb4.mono HB.out.size)⟩
  | bad i e =>
    have he := HBD.out i e hf
    have he0 : (((e : Nat) : Int) != 0) = true := by simp; omega
    rw [hf] at HFO
    simp only [folV, nextV] at HFO ⊢
    clear HBD HFT hf he
    go_enter Try.func32, Try.ntmps32
    go_wp2_with (first
      | (refine wpList_value rfl (by intro c hc; cases hc) (.agg (handA H fv cv)) (exec_ldhand rfl rfl HX.out) ?_)
      | (go_at_call 26; refine HCK.out.mono ?_; rintro e w2 ⟨rfl, hb2⟩; have HX := hid (heap_below hb2 HX.out (heap_lt HX.out)); have HB := hid (HB.out.trans (hb2.mono HB.out.size)); have HR := hid (HR.out.below (hb2.mono HR.out.le)); have HCR := hid (HCR.out.below (hb2.mono HCR.out.le)))
      | (go_at_call 53; refine (HFO.out _ (HandAt.of HR.out) HCR.out).mono ?_; rintro e w3 ⟨rfl, hb3⟩))
    go_ret3
    exact ⟨rfl, HB.out.trans (hb3.mono HB.out.size)⟩
theorem Next_no (R : RH) (h0 : okR R = false) (fv cv : Value) (N : Nat) (p : Option Addr) (n m : Nat) (w : World) (hR : RawAt w N R fv cv) (hf : R.faces.length ≤ 1000) (hc : R.cards.length ≤ 1000) :
    Calls Try.prog 32 #[.agg (handR R fv cv), .slice p n m] w fun e w' => e = .returned (.tuple #[.int .i64 0, .int .i64 0, .int .i64 2]) ∧ Below w.heap.size w w' := by
  have hb : Below w.heap.size w (w.alloc (.cells (handR R fv cv) 26)) := (Below.refl _ _).alloc (Nat.le_refl _) _
  have hR1 := hR.below (hb.mono hR.le)
  have HB := hid hb
  have HC := hid (check_no R h0 fv cv N _ hR1 hf hc)
  simp only [handR, handV] at HB HC ⊢
  clear hb hR hR1 hf hc h0
  go_enter Try.func32, Try.ntmps32
  go_wp2_with (go_at_call 26; refine HC.out.mono ?_; rintro e w2 ⟨rfl, hb2⟩)
  go_ret3
  exact ⟨rfl, HB.out.trans (hb2.mono HB.out.size)⟩
theorem complete_no_blind (R : RH) (h0 : okR R = false) (fv cv : Value) (N : Nat) (p : Option Addr) (n m : Nat) (w : World) (hR : RawAt w N R fv cv) (hf : R.faces.length ≤ 1000) (hc : R.cards.length ≤ 1000) :
    Calls Try.prog 61 #[.agg (handR R fv cv), .slice p n m, .func (.func 62) #[] #[]] w fun e w' => e = .returned (.tuple #[.nilIface, .int .i64 0, .int .i64 2]) ∧ Below w.heap.size w w' := by
  have hb : Below w.heap.size w (w.alloc (.cells (handR R fv cv) 26)) := (Below.refl _ _).alloc (Nat.le_refl _) _
  have hR1 := hR.below (hb.mono hR.le)
  have HB := hid hb
  have HC := hid (check_no R h0 fv cv N _ hR1 hf hc)
  simp only [handR, handV] at HB HC ⊢
  clear hb hR hR1 hf hc h0
  go_enter Try.func61, Try.ntmps61
  go_wp2_with (go_at_call 26; refine HC.out.mono ?_; rintro e w2 ⟨rfl, hb2⟩)
  go_ret3
  exact ⟨rfl, HB.out.trans (hb2.mono HB.out.size)⟩
set_option maxHeartbeats 2000000 in
theorem complete_blind (N Nc : Nat) (H : HV) (hV : Val H) (fv cv : Value) (M : Nat → Prop) (K : List (St × Int) → World → Prop) (v : Value) (Cs : List Int) (hn : Cs.length ≤ 1000000) (hi63 : ∀ c ∈ Cs, c ≤ 9223372036854775807) (w : World) (hR : RawAt w N (rawOf H) fv cv) (hC : CrsAt w Nc v Cs)
    (hM : ∀ b, M b → b < w.heap.size ∧ N ≤ b ∧ Nc ≤ b) (hK0 : K [] w) (hKb : ∀ tr W W', K tr W → Below W.heap.size W W' → K tr W')
    (hsee : ∀ tr s c W, K tr W → Mods M w W → Fit H s → 0 ≤ c → c < ((chN H s : Nat) : Int) → Calls Try.prog 62 #[encS s, .int .i64 c] W fun e W' => (∃ v, e = .returned v) ∧ K (tr ++ [(s, c)]) W' ∧ Mods M W W') :
    Calls Try.prog 61 #[.agg (handA H fv cv), v, .func (.func 62) #[] #[]] w fun e w' => e = .returned (.tuple (folV (fulN H (beginS H) Cs))) ∧ K (trN H (beginS H) Cs) w' ∧ Mods M w w' := by
  have hx := heap_alloc_new w (.cells (handA H fv cv) 26)
  have hb : Below w.heap.size w (w.alloc (.cells (handA H fv cv) 26)) := (Below.refl _ _).alloc (Nat.le_refl _) _
  have HX := hid hx
  have HB := hid hb
  have hR1 := hR.below (hb.mono hR.le)
  have HCK := hid (check_yes H hV fv cv N _ hR1)
  have HR := hid hR1
  have HCR := hid (hC.below (hb.mono hC.le))
  have HFO := hid (fun W (hw : Below w.heap.size w W) hW hCW => follow_blind N Nc H fv cv hV.hand.ok M K v Cs hn hi63 W hW hCW (fun b hb => by have h1 := hM b hb; have h2 := hw.size; exact ⟨by omega, h1.2⟩) (hKb _ _ _ hK0 hw) hKb
    (fun tr s c W' hk hm hF h0 h1 => hsee tr s c W' hk ((Mods.below hw).trans hm) hF h0 h1))
  have HFT := hid (fun t (ht : folN H (beginS H) Cs 0 = .ok t) => fol_fit H Cs _ 0 t (begin_fit H hV.hand.ok) ht)
  have HBD := hid (fun i e (ht : folN H (beginS H) Cs 0 = .bad i e) => (fol_bad H Cs _ 0 i e ht).1)
  have HKB := hid hKb
  have HM := hid hM
  obtain ⟨p, cp, rfl, -⟩ := hC.at'
  have hg0 : w.heap.size < (w.alloc (.cells (handA H fv cv) 26)).heap.size := by simp
  clear hx hb hR hR1 hC hi63 hsee hK0 hKb hM
  unfold fulN
  cases hf : folN H (beginS H) Cs 0 with
  | ok t =>
    have HCH := hid (fun W hW => choices_c N H fv cv t (HFT.out t hf) W hW)
    rw [hf] at HFO
    simp only [folV] at HFO ⊢
    simp only [handA] at HCH HFO HX HB HCK ⊢
    clear HBD HFT hf
    by_cases h0 : chN H t = 0
    · rw [if_pos h0]
      have h0' : decide ((0 : Int) < ((chN H t : Nat) : Int)) = false := by simp [h0]
      have h0'' : ¬ (0 : Int) < ((chN H t : Nat) : Int) := by omega
      generalize ((chN H t : Nat) : Int) = z at *
      simp only [folV]
      clear h0
      go_enter Try.func61, Try.ntmps61
      go_wp2_with (first
        | (go_at_call 26; refine HCK.out.mono ?_; rintro e w2 ⟨rfl, hb2⟩; have HX := hid (heap_below hb2 HX.out (heap_lt HX.out)); have HB := hid (HB.out.trans (hb2.mono HB.out.size)); have HR := hid (HR.out.below (hb2.mono HR.out.le)); have HCR := hid (HCR.out.below (hb2.mono HCR.out.le)); have ⟨k0, k1, k2, k3, k4, k5, k6, k7⟩ := cells8 HX.out)
        | (go_at_call 53; refine (HFO.out _ HB.out (HandAt.of HR.out) HCR.out).mono ?_; rintro e w3 ⟨rfl, hk3, hm3⟩; have hsz := HB.out.size; have HX := hid (hm3.kept _ _ (fun hb => by have := HM.out _ hb; omega) HX.out); have HR := hid (HR.out.below (hm3.to HR.out.le (fun b hb hM => by have := HM.out b hM; omega))); have ⟨l0, l1, l2, l3, l4, l5, l6, l7⟩ := cells8 HX.out)
        | (go_at_call 63; refine (HCH.out _ (HandAt.of HR.out)).mono ?_; rintro e w4 ⟨rfl, hb4⟩))
      go_ret3
      exact ⟨rfl, HKB.out _ _ _ hk3 hb4, (Mods.below HB.out).trans (hm3.trans (Mods.below hb4))⟩
    · rw [if_neg h0]
      have h0' : decide ((0 : Int) < ((chN H t : Nat) : Int)) = true := decide_eq_true (by omega)
      have h0'' : (0 : Int) < ((chN H t : Nat) : Int) := by omega
      generalize ((chN H t : Nat) : Int) = z at *
      simp only [folV]
      clear h0
      go_enter Try.func61, Try.ntmps61
      go_wp2_with (first
        | (go_at_call 26; refine HCK.out.mono ?_; rintro e w2 ⟨rfl, hb2⟩; have HX := hid (heap_below hb2 HX.out (heap_lt HX.out)); have HB := hid (HB.out.trans (hb2.mono HB.out.size)); have HR := hid (HR.out.below (hb2.mono HR.out.le)); have HCR := hid (HCR.out.below (hb2.mono HCR.out.le)); have ⟨k0, k1, k2, k3, k4, k5, k6, k7⟩ := cells8 HX.out)
        | (go_at_call 53; refine (HFO.out _ HB.out (HandAt.of HR.out) HCR.out).mono ?_; rintro e w3 ⟨rfl, hk3, hm3⟩; have hsz := HB.out.size; have HX := hid (hm3.kept _ _ (fun hb => by have := HM.out _ hb; omega) HX.out); have HR := hid (HR.out.below (hm3.to HR.out.le (fun b hb hM => by have := HM.out b hM; omega))); have ⟨l0, l1, l2, l3, l4, l5, l6, l7⟩ := cells8 HX.out)
        | (go_at_call 63; refine (HCH.out _ (HandAt.of HR.out)).mono ?_; rintro e w4 ⟨rfl, hb4⟩))
      go_ret3
      exact ⟨rfl, HKB.out _ _ _ hk3 hb4, (Mods.below HB.out).trans (hm3.trans (Mods.below hb4))⟩
  | bad i e =>
    have he := HBD.out i e hf
    have he0 : (((e : Nat) : Int) == 0) = false := by simp; omega
    rw [hf] at HFO
    simp only [folV] at HFO ⊢
    simp only [handA] at HFO HX HB HCK ⊢
    clear HBD HFT hf he
    go_enter Try.func61, Try.ntmps61
    go_wp2_with (first
      | (go_at_call 26; refine HCK.out.mono ?_; rintro e w2 ⟨rfl, hb2⟩; have HX := hid (heap_below hb2 HX.out (heap_lt HX.out)); have HB := hid (HB.out.trans (hb2.mono HB.out.size)); have HR := hid (HR.out.below (hb2.mono HR.out.le)); have HCR := hid (HCR.out.below (hb2.mono HCR.out.le)); have ⟨k0, k1, k2, k3, k4, k5, k6, k7⟩ := cells8 HX.out)
      | (go_at_call 53; refine (HFO.out _ HB.out (HandAt.of HR.out) HCR.out).mono ?_; rintro e w3 ⟨rfl, hk3, hm3⟩))
    go_ret3
    exact ⟨rfl, hk3, (Mods.below HB.out).trans hm3⟩
theorem complete_no_chance (R : RH) (h0 : okR R = false) (fv cv : Value) (N : Nat) (bd bh : Nat) (p : Option Addr) (n m : Nat) (w : World) (hR : RawAt w N R fv cv) (hf : R.faces.length ≤ 1000) (hc : R.cards.length ≤ 1000) :
    Calls Try.prog 61 #[.agg (handR R fv cv), .slice p n m, .func (.func 64) #[] #[.pointer (some ⟨bd, 0, none⟩), .pointer (some ⟨bh, 0, none⟩)]] w fun e w' => e = .returned (.tuple #[.nilIface, .int .i64 0, .int .i64 2]) ∧ Below w.heap.size w w' := by
  have hb : Below w.heap.size w (w.alloc (.cells (handR R fv cv) 26)) := (Below.refl _ _).alloc (Nat.le_refl _) _
  have hR1 := hR.below (hb.mono hR.le)
  have HB := hid hb
  have HC := hid (check_no R h0 fv cv N _ hR1 hf hc)
  simp only [handR, handV] at HB HC ⊢
  clear hb hR hR1 hf hc h0
  go_enter Try.func61, Try.ntmps61
  go_wp2_with (go_at_call 26; refine HC.out.mono ?_; rintro e w2 ⟨rfl, hb2⟩)
  go_ret3
  exact ⟨rfl, HB.out.trans (hb2.mono HB.out.size)⟩
set_option maxHeartbeats 2000000 in
theorem complete_chance (N Nc : Nat) (H : HV) (hV : Val H) (fv cv : Value) (bd bh : Nat) (M : Nat → Prop) (K : List (St × Int) → World → Prop) (v : Value) (Cs : List Int) (hn : Cs.length ≤ 1000000) (hi63 : ∀ c ∈ Cs, c ≤ 9223372036854775807) (w : World) (hR : RawAt w N (rawOf H) fv cv) (hC : CrsAt w Nc v Cs)
    (hM : ∀ b, M b → b < w.heap.size ∧ N ≤ b ∧ Nc ≤ b) (hK0 : K [] w) (hKb : ∀ tr W W', K tr W → Below W.heap.size W W' → K tr W')
    (hsee : ∀ tr s c W, K tr W → Mods M w W → Fit H s → 0 ≤ c → c < ((chN H s : Nat) : Int) → Calls Try.prog 64 #[encS s, .int .i64 c, .pointer (some ⟨bd, 0, none⟩), .pointer (some ⟨bh, 0, none⟩)] W fun e W' => (∃ v, e = .returned v) ∧ K (tr ++ [(s, c)]) W' ∧ Mods M W W') :
    Calls Try.prog 61 #[.agg (handA H fv cv), v, .func (.func 64) #[] #[.pointer (some ⟨bd, 0, none⟩), .pointer (some ⟨bh, 0, none⟩)]] w fun e w' => e = .returned (.tuple (folV (fulN H (beginS H) Cs))) ∧ K (trN H (beginS H) Cs) w' ∧ Mods M w w' := by
  have hx := heap_alloc_new w (.cells (handA H fv cv) 26)
  have hb : Below w.heap.size w (w.alloc (.cells (handA H fv cv) 26)) := (Below.refl _ _).alloc (Nat.le_refl _) _
  have HX := hid hx
  have HB := hid hb
  have hR1 := hR.below (hb.mono hR.le)
  have HCK := hid (check_yes H hV fv cv N _ hR1)
  have HR := hid hR1
  have HCR := hid (hC.below (hb.mono hC.le))
  have HFO := hid (fun W (hw : Below w.heap.size w W) hW hCW => follow_chance N Nc H fv cv hV.hand.ok bd bh M K v Cs hn hi63 W hW hCW (fun b hb => by have h1 := hM b hb; have h2 := hw.size; exact ⟨by omega, h1.2⟩) (hKb _ _ _ hK0 hw) hKb
    (fun tr s c W' hk hm hF h0 h1 => hsee tr s c W' hk ((Mods.below hw).trans hm) hF h0 h1))
  have HFT := hid (fun t (ht : folN H (beginS H) Cs 0 = .ok t) => fol_fit H Cs _ 0 t (begin_fit H hV.hand.ok) ht)
  have HBD := hid (fun i e (ht : folN H (beginS H) Cs 0 = .bad i e) => (fol_bad H Cs _ 0 i e ht).1)
  have HKB := hid hKb
  have HM := hid hM
  obtain ⟨p, cp, rfl, -⟩ := hC.at'
  have hg0 : w.heap.size < (w.alloc (.cells (handA H fv cv) 26)).heap.size := by simp
  clear hx hb hR hR1 hC hi63 hsee hK0 hKb hM
  unfold fulN
  cases hf : folN H (beginS H) Cs 0 with
  | ok t =>
    have HCH := hid (fun W hW => choices_c N H fv cv t (HFT.out t hf) W hW)
    rw [hf] at HFO
    simp only [folV] at HFO ⊢
    simp only [handA] at HCH HFO HX HB HCK ⊢
    clear HBD HFT hf
    by_cases h0 : chN H t = 0
    · rw [if_pos h0]
      have h0' : decide ((0 : Int) < ((chN H t : Nat) : Int)) = false := by simp [h0]
      have h0'' : ¬ (0 : Int) < ((chN H t : Nat) : Int) := by omega
      generalize ((chN H t : Nat) : Int) = z at *
      simp only [folV]
      clear h0
      go_enter Try.func61, Try.ntmps61
      go_wp2_with (first
        | (go_at_call 26; refine HCK.out.mono ?_; rintro e w2 ⟨rfl, hb2⟩; have HX := hid (heap_below hb2 HX.out (heap_lt HX.out)); have HB := hid (HB.out.trans (hb2.mono HB.out.size)); have HR := hid (HR.out.below (hb2.mono HR.out.le)); have HCR := hid (HCR.out.below (hb2.mono HCR.out.le)); have ⟨k0, k1, k2, k3, k4, k5, k6, k7⟩ := cells8 HX.out)
        | (go_at_call 53; refine (HFO.out _ HB.out (HandAt.of HR.out) HCR.out).mono ?_; rintro e w3 ⟨rfl, hk3, hm3⟩; have hsz := HB.out.size; have HX := hid (hm3.kept _ _ (fun hb => by have := HM.out _ hb; omega) HX.out); have HR := hid (HR.out.below (hm3.to HR.out.le (fun b hb hM => by have := HM.out b hM; omega))); have ⟨l0, l1, l2, l3, l4, l5, l6, l7⟩ := cells8 HX.out)
        | (go_at_call 63; refine (HCH.out _ (HandAt.of HR.out)).mono ?_; rintro e w4 ⟨rfl, hb4⟩))
      go_ret3
      exact ⟨rfl, HKB.out _ _ _ hk3 hb4, (Mods.below HB.out).trans (hm3.trans (Mods.below hb4))⟩
    · rw [if_neg h0]
      have h0' : decide ((0 : Int) < ((chN H t : Nat) : Int)) = true := decide_eq_true (by omega)
      have h0'' : (0 : Int) < ((chN H t : Nat) : Int) := by omega
      generalize ((chN H t : Nat) : Int) = z at *
      simp only [folV]
      clear h0
      go_enter Try.func61, Try.ntmps61
      go_wp2_with (first
        | (go_at_call 26; refine HCK.out.mono ?_; rintro e w2 ⟨rfl, hb2⟩; have HX := hid (heap_below hb2 HX.out (heap_lt HX.out)); have HB := hid (HB.out.trans (hb2.mono HB.out.size)); have HR := hid (HR.out.below (hb2.mono HR.out.le)); have HCR := hid (HCR.out.below (hb2.mono HCR.out.le)); have ⟨k0, k1, k2, k3, k4, k5, k6, k7⟩ := cells8 HX.out)
        | (go_at_call 53; refine (HFO.out _ HB.out (HandAt.of HR.out) HCR.out).mono ?_; rintro e w3 ⟨rfl, hk3, hm3⟩; have hsz := HB.out.size; have HX := hid (hm3.kept _ _ (fun hb => by have := HM.out _ hb; omega) HX.out); have HR := hid (HR.out.below (hm3.to HR.out.le (fun b hb hM => by have := HM.out b hM; omega))); have ⟨l0, l1, l2, l3, l4, l5, l6, l7⟩ := cells8 HX.out)
        | (go_at_call 63; refine (HCH.out _ (HandAt.of HR.out)).mono ?_; rintro e w4 ⟨rfl, hb4⟩))
      go_ret3
      exact ⟨rfl, HKB.out _ _ _ hk3 hb4, (Mods.below HB.out).trans (hm3.trans (Mods.below hb4))⟩
  | bad i e =>
    have he := HBD.out i e hf
    have he0 : (((e : Nat) : Int) == 0) = false := by simp; omega
    rw [hf] at HFO
    simp only [folV] at HFO ⊢
    simp only [handA] at HFO HX HB HCK ⊢
    clear HBD HFT hf he
    go_enter Try.func61, Try.ntmps61
    go_wp2_with (first
      | (go_at_call 26; refine HCK.out.mono ?_; rintro e w2 ⟨rfl, hb2⟩; have HX := hid (heap_below hb2 HX.out (heap_lt HX.out)); have HB := hid (HB.out.trans (hb2.mono HB.out.size)); have HR := hid (HR.out.below (hb2.mono HR.out.le)); have HCR := hid (HCR.out.below (hb2.mono HCR.out.le)); have ⟨k0, k1, k2, k3, k4, k5, k6, k7⟩ := cells8 HX.out)
      | (go_at_call 53; refine (HFO.out _ HB.out (HandAt.of HR.out) HCR.out).mono ?_; rintro e w3 ⟨rfl, hk3, hm3⟩))
    go_ret3
    exact ⟨rfl, hk3, (Mods.below HB.out).trans hm3⟩
end Go.Proofs.Ytmjnelkeiogdcaa
