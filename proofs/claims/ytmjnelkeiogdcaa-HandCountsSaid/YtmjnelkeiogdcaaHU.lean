/- Walks of package hand: faces and cards that are not valid. -/
import Derived.Test.YtmjnelkeiogdcaaHR
set_option linter.unusedSimpArgs false
set_option linter.unusedVariables false
namespace Go.Proofs.Ytmjnelkeiogdcaa
open Go Go.RowKit Go.Shelf
set_option maxRecDepth 100000

/-- The lists of such a hand lie below block N. -/
structure RawAt (W : World) (N : Nat) (R : RH) (fv cv : Value) : Prop where
  le : N ≤ W.heap.size
  faces : ∃ p c, fv = .slice p R.faces.length c ∧ ∀ i (h : i < R.faces.length), ∃ b o, p = some ⟨b, o, none⟩ ∧ b < N ∧ W.cell? ⟨b, o + i * 2, none⟩ = some (.int .i64 R.faces[i].1) ∧ W.cell? ⟨b, o + i * 2 + 1, none⟩ = some (.int .i64 R.faces[i].2)
  cards : ∃ p c, cv = .slice p R.cards.length c ∧ ∀ i (h : i < R.cards.length), ∃ b o, p = some ⟨b, o, none⟩ ∧ b < N ∧ W.cell? ⟨b, o + i, none⟩ = some (.int .i64 R.cards[i])
theorem RawAt.keptF {W W' : World} {N : Nat} {R : RH} {fv cv : Value} (h : RawAt W N R fv cv) {S : Nat → Prop} (hS : ∀ b, b < N → S b) (hk : ∀ (b : Nat), S b → ∀ (o : Obj), W.heap[b]? = some o → isBook o = false → W'.heap[b]? = some o) (hs : N ≤ W'.heap.size) : RawAt W' N R fv cv := by
  have key : ∀ b i v, b < N → W.cell? ⟨b, i, none⟩ = some v → W'.cell? ⟨b, i, none⟩ = some v := fun b i v hb hc => by
    obtain ⟨o, ho, hbk⟩ := cell_book hc
    rw [cell_same ((hk b (hS b hb) o ho hbk).trans ho.symm)]
    exact hc
  obtain ⟨p, c, hv, hf⟩ := h.faces
  obtain ⟨p', c', hv', hf'⟩ := h.cards
  refine ⟨hs, ⟨p, c, hv, fun i hi => ?_⟩, ⟨p', c', hv', fun i hi => ?_⟩⟩
  · obtain ⟨b, o, e, hb, h1, h2⟩ := hf i hi
    exact ⟨b, o, e, hb, key _ _ _ hb h1, key _ _ _ hb h2⟩
  · obtain ⟨b, o, e, hb, h1⟩ := hf' i hi
    exact ⟨b, o, e, hb, key _ _ _ hb h1⟩
theorem RawAt.below {W W' : World} {N : Nat} {R : RH} {fv cv : Value} (h : RawAt W N R fv cv) (hb : Below N W W') : RawAt W' N R fv cv :=
  h.keptF (S := fun b => b < N) (fun _ h => h) (fun b hlt o ho _ => (hb.block b hlt).trans ho) (Nat.le_trans h.le hb.size)
def inB (n a b : Int) : Bool := decide (a ≤ n) && decide (n ≤ b)
def goodF (f : Int × Int) : Bool := inB f.1 0 40 && inB f.2 1 1000
def badF (f : Int × Int) : Bool := !goodF f
def badC (k : Int) : Bool := !inB k 0 7
theorem within_b (n a b : Int) (w : World) : Calls Try.prog 48 #[.int .i64 n, .int .i64 a, .int .i64 b] w fun e w' => e = .returned (.bool (inB n a b)) ∧ w = w' := within_c n a b w
theorem check1_c (v x : Int) (w : World) : Calls Try.prog 55 #[.agg #[.int .i64 v, .int .i64 x]] w fun e w' => e = .returned (.bool (goodF (v, x))) ∧ Below w.heap.size w w' := by
  have hb : Below w.heap.size w (w.alloc (.cells #[.int .i64 v, .int .i64 x] 50)) := (Below.refl _ _).alloc (Nat.le_refl _) _
  have HB := hid hb
  have H1 := hid (fun W => within_b v 0 40 W)
  have H2 := hid (fun W => within_b x 1 1000 W)
  show Calls _ _ _ _ fun e w' => e = .returned (.bool (inB v 0 40 && inB x 1 1000)) ∧ _
  clear hb
  generalize inB v 0 40 = b1 at *
  generalize inB x 1 1000 = b2 at *
  cases b1 with
  | false =>
    rw [Bool.false_and]
    go_enter Try.func55, Try.ntmps55
    go_wp2_with (go_at_call 48; refine (H1.out _).mono ?_; rintro e w1 ⟨rfl, rfl⟩)
    go_ret
    exact ⟨rfl, HB.out⟩
  | true =>
    rw [Bool.true_and]
    go_enter Try.func55, Try.ntmps55
    go_wp2_with (first
      | (go_at_call 48; refine (H1.out _).mono ?_; rintro e w1 ⟨rfl, rfl⟩; clear H1)
      | (go_at_call 48; refine (H2.out _).mono ?_; rintro e w1 ⟨rfl, rfl⟩; clear H2))
    go_ret
    exact ⟨rfl, HB.out⟩
theorem check2_c (v x : Int) (bf : Nat) (w : World) (hf : Boxed w bf 90 (.func (.func 55) #[] #[])) : Calls Try.prog 57 #[.agg #[.int .i64 v, .int .i64 x], .pointer (some ⟨bf, 0, none⟩)] w fun e w' => e = .returned (.bool (badF (v, x))) ∧ Below w.heap.size w w' := by
  have hb : Below w.heap.size w (w.alloc (.cells #[.int .i64 v, .int .i64 x] 50)) := (Below.refl _ _).alloc (Nat.le_refl _) _
  have HB := hid hb
  have H1 := hid (fun W => check1_c v x W)
  have hc : (w.alloc (.cells #[.int .i64 v, .int .i64 x] 50)).cell? ⟨bf, 0, none⟩ = some (.func (.func 55) #[] #[]) := Boxed.cell (heap_below hb hf (heap_lt hf))
  unfold badF
  clear hb hf
  generalize goodF (v, x) = b1 at *
  go_enter Try.func57, Try.ntmps57
  go_wp2_with (go_at_call 55; refine (H1.out _).mono ?_; rintro e w1 ⟨rfl, hb1⟩)
  go_ret
  exact ⟨rfl, HB.out.trans (hb1.mono (by simp))⟩
theorem areCards1_c (k : Int) (w : World) : Calls Try.prog 75 #[.int .i64 k] w fun e w' => e = .returned (.bool (badC k)) ∧ w = w' := by
  have H1 := hid (fun W => within_b k 0 7 W)
  unfold badC
  generalize inB k 0 7 = b1 at *
  go_enter Try.func75, Try.ntmps75
  go_wp2_with (go_at_call 48; refine (H1.out _).mono ?_; rintro e w1 ⟨rfl, rfl⟩)
  go_ret
  exact ⟨rfl, rfl⟩
set_option maxHeartbeats 1000000 in
theorem indexCards (L : List Int) (p : Option Addr) (c : Nat) (w : World) (hn : L.length ≤ 1000) (hc : ∀ i (h : i < L.length), ∃ b o, p = some ⟨b, o, none⟩ ∧ b < w.heap.size ∧ w.cell? ⟨b, o + i, none⟩ = some (.int .i64 L[i])) :
    Calls Try.prog 78 #[.slice p L.length c, .func (.func 75) #[] #[]] w fun e w' => (∃ r : Int, e = .returned (.int .i64 r) ∧ decide (0 ≤ r) = L.any badC) ∧ Below w.heap.size w w' := by
  obtain ⟨n, hn'⟩ : ∃ n, L.length = n := ⟨_, rfl⟩
  have HC := hid hc
  rw [hn'] at hn ⊢
  have HN := hid hn'
  skip
  clear hc hn'
  go_enter Try.func78, Try.ntmps78
  go_wp2_with fail
  go_loopw [8] (fun i wr => ∃ k : Nat, k ≤ n ∧ i = .int .i64 k ∧ Below w.heap.size w wr ∧ Aside (∀ j (hj : j < L.length), j < k → badC L[j] = false)) (fun i _ => n - (intOf i).toNat)
  case atStart => exact ⟨0, Nat.zero_le _, rfl, Below.refl _ _, fun j _ h => absurd h (by omega)⟩
  case round =>
    obtain ⟨k, hk, rfl, hB, A⟩ := hrel
    have HB := hid hB
    by_cases hlt : k < n
    · have hlt' : ((k : Nat) : Int) < n := by omega
      have hp0 : (0 : Int) ≤ k := by omega
      have hkl : k < L.length := by rw [HN.out]; exact hlt
      obtain ⟨b, o, rfl, hbw, hcl⟩ := HC.out k hkl
      have c0 : wr.cell? ⟨b, o + k, none⟩ = some (.int .i64 L[k]) := (hB.cell (p := ⟨b, o + k, none⟩) hbw).trans hcl
      clear hcl
      have HJ := hid (areCards1_c L[k] wr)
      clear hbw
      cases hhd : badC L[k] with
      | false =>
        have A2 := hid (show ∀ j (hj : j < L.length), j < k + 1 → badC L[j] = false from fun j hj h => by
          by_cases e : j = k
          · subst e; exact hhd
          · exact A.out j hj (by omega))
        rw [hhd] at HJ
        clear hhd hB
        generalize L[k] = x0 at *
        go_wp2_with (go_at_call 75; refine HJ.out.mono ?_; rintro e w' ⟨rfl, rfl⟩)
        go_roundw
        case rel => exact ⟨k + 1, by omega, by go_num, HB.out, A2.out⟩
        case measure => simp [intOf]; omega
      | true =>
        have HF := hid (show L.any badC = true from List.any_eq_true.2 ⟨L[k], List.getElem_mem _, hhd⟩)
        rw [hhd] at HJ
        clear hhd hB
        generalize L[k] = x0 at *
        go_wp2_with (go_at_call 75; refine HJ.out.mono ?_; rintro e w' ⟨rfl, rfl⟩)
        go_ret
        exact ⟨⟨_, rfl, by rw [HF.out]; simp⟩, HB.out⟩
    · have hge : ¬ ((k : Nat) : Int) < n := by omega
      obtain rfl : k = n := by omega
      have HF := hid (show L.any badC = false from by
        rw [Bool.eq_false_iff]
        intro h
        obtain ⟨t, ht, h2⟩ := List.any_eq_true.1 h
        obtain ⟨j, hj, rfl⟩ := List.getElem_of_mem ht
        rw [A.out j hj (by rw [← HN.out]; exact hj)] at h2
        cases h2)
      clear hB
      go_wp2_with fail
      go_ret
      exact ⟨⟨-1, rfl, by rw [HF.out]; rfl⟩, HB.out⟩
theorem containsCards (L : List Int) (p : Option Addr) (c : Nat) (w : World) (hn : L.length ≤ 1000) (hc : ∀ i (h : i < L.length), ∃ b o, p = some ⟨b, o, none⟩ ∧ b < w.heap.size ∧ w.cell? ⟨b, o + i, none⟩ = some (.int .i64 L[i])) :
    Calls Try.prog 74 #[.slice p L.length c, .func (.func 75) #[] #[]] w fun e w' => e = .returned (.bool (L.any badC)) ∧ Below w.heap.size w w' := by
  have H := hid (indexCards L p c w hn hc)
  clear hc
  generalize L.length = n at *
  obtain ⟨z, hz⟩ : ∃ z, L.any badC = z := ⟨_, rfl⟩
  rw [hz] at H ⊢
  clear hz
  go_enter Try.func74, Try.ntmps74
  go_wp2_with (go_at_call 78; refine H.out.mono ?_; rintro e w' ⟨⟨r, rfl, hr⟩, hb'⟩)
  go_ret
  exact ⟨rfl, hb'⟩
set_option maxHeartbeats 1000000 in
theorem indexFaces (L : List (Int × Int)) (p : Option Addr) (c : Nat) (bf : Nat) (w : World) (hn : L.length ≤ 1000) (hc : ∀ i (h : i < L.length), ∃ b o, p = some ⟨b, o, none⟩ ∧ b < w.heap.size ∧ w.cell? ⟨b, o + i * 2, none⟩ = some (.int .i64 L[i].1) ∧ w.cell? ⟨b, o + i * 2 + 1, none⟩ = some (.int .i64 L[i].2)) (hf : Boxed w bf 90 (.func (.func 55) #[] #[])) :
    Calls Try.prog 71 #[.slice p L.length c, .func (.func 57) #[] #[.pointer (some ⟨bf, 0, none⟩)]] w fun e w' => (∃ r : Int, e = .returned (.int .i64 r) ∧ decide (0 ≤ r) = L.any badF) ∧ Below w.heap.size w w' := by
  obtain ⟨n, hn'⟩ : ∃ n, L.length = n := ⟨_, rfl⟩
  have HC := hid hc
  rw [hn'] at hn ⊢
  have HN := hid hn'
  have HFB := hid hf
  clear hf
  clear hc hn'
  go_enter Try.func71, Try.ntmps71
  go_wp2_with fail
  go_loopw [8] (fun i wr => ∃ k : Nat, k ≤ n ∧ i = .int .i64 k ∧ Below w.heap.size w wr ∧ Aside (∀ j (hj : j < L.length), j < k → badF L[j] = false)) (fun i _ => n - (intOf i).toNat)
  case atStart => exact ⟨0, Nat.zero_le _, rfl, Below.refl _ _, fun j _ h => absurd h (by omega)⟩
  case round =>
    obtain ⟨k, hk, rfl, hB, A⟩ := hrel
    have HB := hid hB
    by_cases hlt : k < n
    · have hlt' : ((k : Nat) : Int) < n := by omega
      have hp0 : (0 : Int) ≤ k := by omega
      have hkl : k < L.length := by rw [HN.out]; exact hlt
      obtain ⟨b, o, rfl, hbw, hcl, hcm⟩ := HC.out k hkl
      have c0 : wr.cell? ⟨b, o + k * 2, none⟩ = some (.int .i64 L[k].1) := (hB.cell (p := ⟨b, o + k * 2, none⟩) hbw).trans hcl
      have c1 : wr.cell? ⟨b, o + k * 2 + 1, none⟩ = some (.int .i64 L[k].2) := (hB.cell (p := ⟨b, o + k * 2 + 1, none⟩) hbw).trans hcm
      clear hcl hcm
      have HJ := hid (check2_c L[k].1 L[k].2 bf wr (heap_below hB HFB.out (heap_lt HFB.out)))
      clear hbw
      cases hhd : badF L[k] with
      | false =>
        have A2 := hid (show ∀ j (hj : j < L.length), j < k + 1 → badF L[j] = false from fun j hj h => by
          by_cases e : j = k
          · subst e; exact hhd
          · exact A.out j hj (by omega))
        rw [show badF (L[k].1, L[k].2) = _ from hhd] at HJ
        clear hhd hB
        generalize L[k].1 = x0 at *
        generalize L[k].2 = x1 at *
        go_wp2_with (go_at_call 57; refine HJ.out.mono ?_; rintro e w' ⟨rfl, hb'⟩)
        go_roundw
        case rel => exact ⟨k + 1, by omega, by go_num, HB.out.trans (hb'.mono HB.out.size), A2.out⟩
        case measure => simp [intOf]; omega
      | true =>
        have HF := hid (show L.any badF = true from List.any_eq_true.2 ⟨L[k], List.getElem_mem _, hhd⟩)
        rw [show badF (L[k].1, L[k].2) = _ from hhd] at HJ
        clear hhd hB
        generalize L[k].1 = x0 at *
        generalize L[k].2 = x1 at *
        go_wp2_with (go_at_call 57; refine HJ.out.mono ?_; rintro e w' ⟨rfl, hb'⟩)
        go_ret
        exact ⟨⟨_, rfl, by rw [HF.out]; simp⟩, HB.out.trans (hb'.mono HB.out.size)⟩
    · have hge : ¬ ((k : Nat) : Int) < n := by omega
      obtain rfl : k = n := by omega
      have HF := hid (show L.any badF = false from by
        rw [Bool.eq_false_iff]
        intro h
        obtain ⟨t, ht, h2⟩ := List.any_eq_true.1 h
        obtain ⟨j, hj, rfl⟩ := List.getElem_of_mem ht
        rw [A.out j hj (by rw [← HN.out]; exact hj)] at h2
        cases h2)
      clear hB
      go_wp2_with fail
      go_ret
      exact ⟨⟨-1, rfl, by rw [HF.out]; rfl⟩, HB.out⟩
theorem containsFaces (L : List (Int × Int)) (p : Option Addr) (c : Nat) (bf : Nat) (w : World) (hn : L.length ≤ 1000) (hc : ∀ i (h : i < L.length), ∃ b o, p = some ⟨b, o, none⟩ ∧ b < w.heap.size ∧ w.cell? ⟨b, o + i * 2, none⟩ = some (.int .i64 L[i].1) ∧ w.cell? ⟨b, o + i * 2 + 1, none⟩ = some (.int .i64 L[i].2)) (hf : Boxed w bf 90 (.func (.func 55) #[] #[])) :
    Calls Try.prog 56 #[.slice p L.length c, .func (.func 57) #[] #[.pointer (some ⟨bf, 0, none⟩)]] w fun e w' => e = .returned (.bool (L.any badF)) ∧ Below w.heap.size w w' := by
  have H := hid (indexFaces L p c bf w hn hc hf)
  clear hc
  generalize L.length = n at *
  obtain ⟨z, hz⟩ : ∃ z, L.any badF = z := ⟨_, rfl⟩
  rw [hz] at H ⊢
  clear hz
  go_enter Try.func56, Try.ntmps56
  go_wp2_with (go_at_call 71; refine H.out.mono ?_; rintro e w' ⟨⟨r, rfl, hr⟩, hb'⟩)
  go_ret
  exact ⟨rfl, hb'⟩
end Go.Proofs.Ytmjnelkeiogdcaa
/- Walks of package hand: Check. -/
namespace Go.Proofs.Ytmjnelkeiogdcaa
open Go Go.RowKit Go.Shelf
set_option maxRecDepth 100000

set_option maxHeartbeats 1000000 in
theorem areCards_c (L : List Int) (p : Option Addr) (c : Nat) (least : Int) (w : World) (hn : L.length ≤ 1000) (hc : ∀ i (h : i < L.length), ∃ b o, p = some ⟨b, o, none⟩ ∧ b < w.heap.size ∧ w.cell? ⟨b, o + i, none⟩ = some (.int .i64 L[i])) :
    Calls Try.prog 59 #[.slice p L.length c, .int .i64 least] w fun e w' => e = .returned (.bool (inB L.length least 20 && !L.any badC)) ∧ Below w.heap.size w w' := by
  have H1 := hid (fun W => within_b L.length least 20 W)
  have H2 := hid (containsCards L p c w hn hc)
  clear hc
  generalize L.any badC = b2 at *
  generalize L.length = n at *
  obtain ⟨b1, hb1⟩ : ∃ b1, inB n least 20 = b1 := ⟨_, rfl⟩
  rw [hb1] at H1 ⊢
  clear hb1
  cases b1 with
  | false =>
    rw [Bool.false_and]
    go_enter Try.func59, Try.ntmps59
    go_wp2_with (go_at_call 48; refine (H1.out _).mono ?_; rintro e w1 ⟨rfl, rfl⟩)
    go_ret
    exact ⟨rfl, Below.refl _ _⟩
  | true =>
    rw [Bool.true_and]
    go_enter Try.func59, Try.ntmps59
    go_wp2_with (first
      | (go_at_call 48; refine (H1.out _).mono ?_; rintro e w1 ⟨rfl, rfl⟩)
      | (go_at_call 74; refine H2.out.mono ?_; rintro e w1 ⟨rfl, hb⟩))
    go_ret
    exact ⟨rfl, hb⟩
/-- The hand as it lies in memory. -/
def rawOf (H : HV) : RH := ⟨H.kind, H.count, H.faces.map fun f => (((f.1 : Nat) : Int), ((f.2 : Nat) : Int)), H.lowI, H.highI, H.group, H.changes, H.cards.map fun c => ((c : Nat) : Int)⟩
theorem handR_of (H : HV) (fv cv : Value) : handR (rawOf H) fv cv = handA H fv cv := rfl
theorem HandAt.of {W : World} {N : Nat} {H : HV} {fv cv : Value} (h : RawAt W N (rawOf H) fv cv) : HandAt W N H fv cv := by
  obtain ⟨p, c, hv, hf⟩ := h.faces
  obtain ⟨p', c', hv', hf'⟩ := h.cards
  refine ⟨h.le, fun _ => ⟨p, c, by rw [hv]; simp [rawOf], fun i hi => ?_⟩, fun _ => ⟨p', c', by rw [hv']; simp [rawOf], fun i hi => ?_⟩⟩
  · obtain ⟨b, o, e, hb, h1, h2⟩ := hf i (by simpa [rawOf] using hi)
    exact ⟨b, o, e, hb, by simpa [rawOf] using h1, by simpa [rawOf] using h2⟩
  · obtain ⟨b, o, e, hb, h1⟩ := hf' i (by simpa [rawOf] using hi)
    exact ⟨b, o, e, hb, by simpa [rawOf] using h1⟩
/-- For stalks nothing is asked of the lists. -/
theorem HandAt.stalks {W : World} {N : Nat} {H : HV} {fv cv : Value} (hk : H.kind = 3) (hN : N ≤ W.heap.size) : HandAt W N H fv cv :=
  ⟨hN, fun h => by omega, fun h => by omega⟩
theorem cells8 {W : World} {g : Nat} {t : TypeId} {a b c d e f h i : Value} (hg : W.heap[g]? = some (.cells #[a, b, c, d, e, f, h, i] t (0, 0))) :
    W.cell? ⟨g, 0, none⟩ = some a ∧ W.cell? ⟨g, 1, none⟩ = some b ∧ W.cell? ⟨g, 2, none⟩ = some c ∧ W.cell? ⟨g, 3, none⟩ = some d ∧ W.cell? ⟨g, 4, none⟩ = some e ∧ W.cell? ⟨g, 5, none⟩ = some f ∧ W.cell? ⟨g, 6, none⟩ = some h ∧ W.cell? ⟨g, 7, none⟩ = some i := by
  have key : ∀ j, W.cell? ⟨g, j, none⟩ = (#[a, b, c, d, e, f, h, i] : Array Value)[j]? := fun j => cell_of_row _ _ j _ _ (0, 0) hg
  exact ⟨key 0, key 1, key 2, key 3, key 4, key 5, key 6, key 7⟩
/- Check, kind by kind. -/
set_option maxHeartbeats 1000000 in
theorem check_k1 (c : Int) (p : Option Addr) (n m : Nat) (lo hi g ch : Int) (q : Option Addr) (n' m' : Nat) (w : World) (b1 b2 b3 bb : Bool) (H1 : Hid (∀ W, Calls Try.prog 48 #[.int .i64 c, .int .i64 1, .int .i64 8] W fun e w' => e = .returned (.bool b1) ∧ W = w')) (H2 : Hid (∀ W, Calls Try.prog 48 #[.int .i64 ((n : Nat) : Int), .int .i64 1, .int .i64 20] W fun e w' => e = .returned (.bool b2) ∧ W = w')) (H3 : Hid (Calls Try.prog 56 #[.slice p n m, .func (.func 57) #[] #[.pointer (some ⟨w.heap.size + 1, 0, none⟩)]] ((w.alloc (.cells (handV 1 c (.slice p n m) lo hi g ch (.slice q n' m')) 26)).alloc (.cells #[.func (.func 55) #[] #[]] 90)) fun e w' => e = .returned (.bool b3) ∧ Below ((w.alloc (.cells (handV 1 c (.slice p n m) lo hi g ch (.slice q n' m')) 26)).alloc (.cells #[.func (.func 55) #[] #[]] 90)).heap.size ((w.alloc (.cells (handV 1 c (.slice p n m) lo hi g ch (.slice q n' m')) 26)).alloc (.cells #[.func (.func 55) #[] #[]] 90)) w')) (HE : Hid (∀ W, Calls Try.prog 60 #[.agg (handV 1 c (.slice p n m) lo hi g ch (.slice q n' m'))] W fun e w' => e = .returned (.bool bb) ∧ Below W.heap.size W w')) :
    CallsIn Fence.wide 24 Try.prog 26 #[.agg (handV 1 c (.slice p n m) lo hi g ch (.slice q n' m'))] w fun e w' => e = .returned (.int .i64 (if b1 && b2 && !b3 && bb then 0 else 2)) ∧ Below w.heap.size w w' := by
  have hx := alloc2_first w (.cells (handV 1 c (.slice p n m) lo hi g ch (.slice q n' m')) 26) (.cells #[.func (.func 55) #[] #[]] 90)
  have hb := below2 w (.cells (handV 1 c (.slice p n m) lo hi g ch (.slice q n' m')) 26) (.cells #[.func (.func 55) #[] #[]] 90)
  have hb0 : Below w.heap.size w (w.alloc (.cells (handV 1 c (.slice p n m) lo hi g ch (.slice q n' m')) 26)) := (Below.refl _ _).alloc (Nat.le_refl _) _
  have HBW := hid hb
  have HB0 := hid hb0
  have hst : (store ⟨w.heap.size + 1, 0, none⟩ (.func (.func 55) #[] #[])).run Try.prog ((w.alloc (.cells (#[.int .i64 1, .int .i64 c, .slice p n m, .int .i64 lo, .int .i64 hi, .int .i64 g, .int .i64 ch, .slice q n' m']) 26)).alloc (.cells #[.nilFunc] 90)) = .ok () ((w.alloc (.cells (#[.int .i64 1, .int .i64 c, .slice p n m, .int .i64 lo, .int .i64 hi, .int .i64 g, .int .i64 ch, .slice q n' m']) 26)).alloc (.cells #[.func (.func 55) #[] #[]] 90)) := by
    have hbx : Boxed ((w.alloc (.cells (#[.int .i64 1, .int .i64 c, .slice p n m, .int .i64 lo, .int .i64 hi, .int .i64 g, .int .i64 ch, .slice q n' m']) 26)).alloc (.cells #[.nilFunc] 90)) (w.heap.size + 1) 90 .nilFunc := alloc2_second w _ _
    have h1 := run_store Try.prog ((w.alloc (.cells (#[.int .i64 1, .int .i64 c, .slice p n m, .int .i64 lo, .int .i64 hi, .int .i64 g, .int .i64 ch, .slice q n' m']) 26)).alloc (.cells #[.nilFunc] 90)) ⟨w.heap.size + 1, 0, none⟩ (.func (.func 55) #[] #[]) .plain rfl
    rw [hbx.cell] at h1
    simp only [hbx.frozen, Bool.false_eq_true, if_false] at h1
    rw [h1]
    congr 1
    exact World.setCell_alloc_at _ _ _ _ _ (by simp)
  have HX := hid hx
  clear hx hb hb0
  simp only [handV] at H3 HE HX HBW HB0 ⊢
  cases b1 with
  | false =>
    simp only [Bool.false_and, Bool.and_false, Bool.true_and, Bool.not_true, Bool.not_false, Bool.false_eq_true, if_false, if_true]
    refine callsIn_of_wp Try.func26 rfl trivial ?_ rfl
    simp only [Try.ntmps26, List.size_toArray, List.length_cons, List.length_nil, Nat.reduceAdd, Nat.reduceSub, Array.replicate_succ, Array.replicate_zero, List.push_toArray, List.append_toArray, List.nil_append, List.cons_append]
    gi_wp2_with (first
      | (gi_at_call 48; refine (callsIn_wide.2 (H1.out _)).mono ?_; rintro e w1 ⟨rfl, rfl⟩; clear H1)
      | (gi_at_call 48; refine (callsIn_wide.2 (H2.out _)).mono ?_; rintro e w1 ⟨rfl, rfl⟩; clear H2)
      | (gi_at_call 56; refine (callsIn_wide.2 H3.out).mono ?_; rintro e w3 ⟨rfl, hb3⟩; have HBW := hid (HBW.out.trans (hb3.mono (by have := HBW.out.size; omega))); have HX := hid (heap_below hb3 HX.out (heap_lt HX.out)); have ⟨k0, k1, k2, k3, k4, k5, k6, k7⟩ := cells8 HX.out; clear H3)
      | (gi_at_call 60; refine (callsIn_wide.2 (HE.out _)).mono ?_; rintro e w4 ⟨rfl, hb4⟩; have HBW := hid (HBW.out.trans (hb4.mono (by have := HBW.out.size; omega))); clear HE))
    go_ret
    first | exact ⟨rfl, HBW.out⟩ | exact ⟨rfl, HB0.out⟩
  | true =>
    cases b2 with
    | false =>
      simp only [Bool.false_and, Bool.and_false, Bool.true_and, Bool.not_true, Bool.not_false, Bool.false_eq_true, if_false, if_true]
      refine callsIn_of_wp Try.func26 rfl trivial ?_ rfl
      simp only [Try.ntmps26, List.size_toArray, List.length_cons, List.length_nil, Nat.reduceAdd, Nat.reduceSub, Array.replicate_succ, Array.replicate_zero, List.push_toArray, List.append_toArray, List.nil_append, List.cons_append]
      gi_wp2_with (first
        | (gi_at_call 48; refine (callsIn_wide.2 (H1.out _)).mono ?_; rintro e w1 ⟨rfl, rfl⟩; clear H1)
        | (gi_at_call 48; refine (callsIn_wide.2 (H2.out _)).mono ?_; rintro e w1 ⟨rfl, rfl⟩; clear H2)
        | (gi_at_call 56; refine (callsIn_wide.2 H3.out).mono ?_; rintro e w3 ⟨rfl, hb3⟩; have HBW := hid (HBW.out.trans (hb3.mono (by have := HBW.out.size; omega))); have HX := hid (heap_below hb3 HX.out (heap_lt HX.out)); have ⟨k0, k1, k2, k3, k4, k5, k6, k7⟩ := cells8 HX.out; clear H3)
        | (gi_at_call 60; refine (callsIn_wide.2 (HE.out _)).mono ?_; rintro e w4 ⟨rfl, hb4⟩; have HBW := hid (HBW.out.trans (hb4.mono (by have := HBW.out.size; omega))); clear HE))
      go_ret
      first | exact ⟨rfl, HBW.out⟩ | exact ⟨rfl, HB0.out⟩
    | true =>
      cases b3 with
      | true =>
        simp only [Bool.false_and, Bool.and_false, Bool.true_and, Bool.not_true, Bool.not_false, Bool.false_eq_true, if_false, if_true]
        refine callsIn_of_wp Try.func26 rfl trivial ?_ rfl
        simp only [Try.ntmps26, List.size_toArray, List.length_cons, List.length_nil, Nat.reduceAdd, Nat.reduceSub, Array.replicate_succ, Array.replicate_zero, List.push_toArray, List.append_toArray, List.nil_append, List.cons_append]
        gi_wp2_with (first
          | (gi_at_call 48; refine (callsIn_wide.2 (H1.out _)).mono ?_; rintro e w1 ⟨rfl, rfl⟩; clear H1)
          | (gi_at_call 48; refine (callsIn_wide.2 (H2.out _)).mono ?_; rintro e w1 ⟨rfl, rfl⟩; clear H2)
          | (gi_at_call 56; refine (callsIn_wide.2 H3.out).mono ?_; rintro e w3 ⟨rfl, hb3⟩; have HBW := hid (HBW.out.trans (hb3.mono (by have := HBW.out.size; omega))); have HX := hid (heap_below hb3 HX.out (heap_lt HX.out)); have ⟨k0, k1, k2, k3, k4, k5, k6, k7⟩ := cells8 HX.out; clear H3)
          | (gi_at_call 60; refine (callsIn_wide.2 (HE.out _)).mono ?_; rintro e w4 ⟨rfl, hb4⟩; have HBW := hid (HBW.out.trans (hb4.mono (by have := HBW.out.size; omega))); clear HE))
        go_ret
        first | exact ⟨rfl, HBW.out⟩ | exact ⟨rfl, HB0.out⟩
      | false =>
        cases bb with
        | false =>
          simp only [Bool.false_and, Bool.and_false, Bool.true_and, Bool.not_true, Bool.not_false, Bool.false_eq_true, if_false, if_true]
          refine callsIn_of_wp Try.func26 rfl trivial ?_ rfl
          simp only [Try.ntmps26, List.size_toArray, List.length_cons, List.length_nil, Nat.reduceAdd, Nat.reduceSub, Array.replicate_succ, Array.replicate_zero, List.push_toArray, List.append_toArray, List.nil_append, List.cons_append]
          gi_wp2_with (first
            | (gi_at_call 48; refine (callsIn_wide.2 (H1.out _)).mono ?_; rintro e w1 ⟨rfl, rfl⟩; clear H1)
            | (gi_at_call 48; refine (callsIn_wide.2 (H2.out _)).mono ?_; rintro e w1 ⟨rfl, rfl⟩; clear H2)
            | (gi_at_call 56; refine (callsIn_wide.2 H3.out).mono ?_; rintro e w3 ⟨rfl, hb3⟩; have HBW := hid (HBW.out.trans (hb3.mono (by have := HBW.out.size; omega))); have HX := hid (heap_below hb3 HX.out (heap_lt HX.out)); have ⟨k0, k1, k2, k3, k4, k5, k6, k7⟩ := cells8 HX.out; clear H3)
            | (gi_at_call 60; refine (callsIn_wide.2 (HE.out _)).mono ?_; rintro e w4 ⟨rfl, hb4⟩; have HBW := hid (HBW.out.trans (hb4.mono (by have := HBW.out.size; omega))); clear HE))
          go_ret
          first | exact ⟨rfl, HBW.out⟩ | exact ⟨rfl, HB0.out⟩
        | true =>
          simp only [Bool.false_and, Bool.and_false, Bool.true_and, Bool.not_true, Bool.not_false, Bool.false_eq_true, if_false, if_true]
          refine callsIn_of_wp Try.func26 rfl trivial ?_ rfl
          simp only [Try.ntmps26, List.size_toArray, List.length_cons, List.length_nil, Nat.reduceAdd, Nat.reduceSub, Array.replicate_succ, Array.replicate_zero, List.push_toArray, List.append_toArray, List.nil_append, List.cons_append]
          gi_wp2_with (first
            | (gi_at_call 48; refine (callsIn_wide.2 (H1.out _)).mono ?_; rintro e w1 ⟨rfl, rfl⟩; clear H1)
            | (gi_at_call 48; refine (callsIn_wide.2 (H2.out _)).mono ?_; rintro e w1 ⟨rfl, rfl⟩; clear H2)
            | (gi_at_call 56; refine (callsIn_wide.2 H3.out).mono ?_; rintro e w3 ⟨rfl, hb3⟩; have HBW := hid (HBW.out.trans (hb3.mono (by have := HBW.out.size; omega))); have HX := hid (heap_below hb3 HX.out (heap_lt HX.out)); have ⟨k0, k1, k2, k3, k4, k5, k6, k7⟩ := cells8 HX.out; clear H3)
            | (gi_at_call 60; refine (callsIn_wide.2 (HE.out _)).mono ?_; rintro e w4 ⟨rfl, hb4⟩; have HBW := hid (HBW.out.trans (hb4.mono (by have := HBW.out.size; omega))); clear HE))
          go_ret
          first | exact ⟨rfl, HBW.out⟩ | exact ⟨rfl, HB0.out⟩
set_option maxHeartbeats 1000000 in
theorem check_k2 (c : Int) (p : Option Addr) (n m : Nat) (lo hi g ch : Int) (q : Option Addr) (n' m' : Nat) (w : World) (b1 b2 bb : Bool) (H1 : Hid (∀ W, Calls Try.prog 48 #[.int .i64 lo, .int .i64 1, .int .i64 hi] W fun e w' => e = .returned (.bool b1) ∧ W = w')) (H2 : decide (hi ≤ 1000) = b2) (HE : Hid (∀ W, Calls Try.prog 60 #[.agg (handV 2 c (.slice p n m) lo hi g ch (.slice q n' m'))] W fun e w' => e = .returned (.bool bb) ∧ Below W.heap.size W w')) :
    CallsIn Fence.wide 24 Try.prog 26 #[.agg (handV 2 c (.slice p n m) lo hi g ch (.slice q n' m'))] w fun e w' => e = .returned (.int .i64 (if b1 && b2 && bb then 0 else 2)) ∧ Below w.heap.size w w' := by
  have hx := heap_alloc_new w (.cells (handV 2 c (.slice p n m) lo hi g ch (.slice q n' m')) 26)
  have hb : Below w.heap.size w (w.alloc (.cells (handV 2 c (.slice p n m) lo hi g ch (.slice q n' m')) 26)) := (Below.refl _ _).alloc (Nat.le_refl _) _
  have HBW := hid hb
  have HX := hid hx
  clear hx hb
  simp only [handV] at HE HX HBW ⊢
  cases b1 with
  | false =>
    simp only [Bool.false_and, Bool.and_false, Bool.true_and, Bool.not_true, Bool.not_false, Bool.false_eq_true, if_false, if_true]
    refine callsIn_of_wp Try.func26 rfl trivial ?_ rfl
    simp only [Try.ntmps26, List.size_toArray, List.length_cons, List.length_nil, Nat.reduceAdd, Nat.reduceSub, Array.replicate_succ, Array.replicate_zero, List.push_toArray, List.append_toArray, List.nil_append, List.cons_append]
    gi_wp2_with (first
      | (gi_at_call 48; refine (callsIn_wide.2 (H1.out _)).mono ?_; rintro e w1 ⟨rfl, rfl⟩; clear H1)
      | (gi_at_call 60; refine (callsIn_wide.2 (HE.out _)).mono ?_; rintro e w4 ⟨rfl, hb4⟩; have HBW := hid (HBW.out.trans (hb4.mono (by have := HBW.out.size; omega))); clear HE))
    go_ret
    exact ⟨rfl, HBW.out⟩
  | true =>
    cases b2 with
    | false =>
      simp only [Bool.false_and, Bool.and_false, Bool.true_and, Bool.not_true, Bool.not_false, Bool.false_eq_true, if_false, if_true]
      have H2' : ¬ hi ≤ 1000 := of_decide_eq_false H2
      refine callsIn_of_wp Try.func26 rfl trivial ?_ rfl
      simp only [Try.ntmps26, List.size_toArray, List.length_cons, List.length_nil, Nat.reduceAdd, Nat.reduceSub, Array.replicate_succ, Array.replicate_zero, List.push_toArray, List.append_toArray, List.nil_append, List.cons_append]
      gi_wp2_with (first
        | (gi_at_call 48; refine (callsIn_wide.2 (H1.out _)).mono ?_; rintro e w1 ⟨rfl, rfl⟩; clear H1)
        | (gi_at_call 60; refine (callsIn_wide.2 (HE.out _)).mono ?_; rintro e w4 ⟨rfl, hb4⟩; have HBW := hid (HBW.out.trans (hb4.mono (by have := HBW.out.size; omega))); clear HE))
      go_ret
      exact ⟨rfl, HBW.out⟩
    | true =>
      have H2' : hi ≤ 1000 := of_decide_eq_true H2
      cases bb with
      | false =>
        simp only [Bool.false_and, Bool.and_false, Bool.true_and, Bool.not_true, Bool.not_false, Bool.false_eq_true, if_false, if_true]
        refine callsIn_of_wp Try.func26 rfl trivial ?_ rfl
        simp only [Try.ntmps26, List.size_toArray, List.length_cons, List.length_nil, Nat.reduceAdd, Nat.reduceSub, Array.replicate_succ, Array.replicate_zero, List.push_toArray, List.append_toArray, List.nil_append, List.cons_append]
        gi_wp2_with (first
          | (gi_at_call 48; refine (callsIn_wide.2 (H1.out _)).mono ?_; rintro e w1 ⟨rfl, rfl⟩; clear H1)
          | (gi_at_call 60; refine (callsIn_wide.2 (HE.out _)).mono ?_; rintro e w4 ⟨rfl, hb4⟩; have HBW := hid (HBW.out.trans (hb4.mono (by have := HBW.out.size; omega))); clear HE))
        go_ret
        exact ⟨rfl, HBW.out⟩
      | true =>
        simp only [Bool.false_and, Bool.and_false, Bool.true_and, Bool.not_true, Bool.not_false, Bool.false_eq_true, if_false, if_true]
        refine callsIn_of_wp Try.func26 rfl trivial ?_ rfl
        simp only [Try.ntmps26, List.size_toArray, List.length_cons, List.length_nil, Nat.reduceAdd, Nat.reduceSub, Array.replicate_succ, Array.replicate_zero, List.push_toArray, List.append_toArray, List.nil_append, List.cons_append]
        gi_wp2_with (first
          | (gi_at_call 48; refine (callsIn_wide.2 (H1.out _)).mono ?_; rintro e w1 ⟨rfl, rfl⟩; clear H1)
          | (gi_at_call 60; refine (callsIn_wide.2 (HE.out _)).mono ?_; rintro e w4 ⟨rfl, hb4⟩; have HBW := hid (HBW.out.trans (hb4.mono (by have := HBW.out.size; omega))); clear HE))
        go_ret
        exact ⟨rfl, HBW.out⟩
set_option maxHeartbeats 1000000 in
theorem check_k3 (c : Int) (p : Option Addr) (n m : Nat) (lo hi g ch : Int) (q : Option Addr) (n' m' : Nat) (w : World) (b1 b2 b3 b4 bb : Bool) (H1 : Hid (∀ W, Calls Try.prog 48 #[.int .i64 g, .int .i64 2, .int .i64 8] W fun e w' => e = .returned (.bool b1) ∧ W = w')) (H2 : Hid (∀ W, b1 = true → Calls Try.prog 48 #[.int .i64 c, .int .i64 (2 * g + 1), .int .i64 64] W fun e w' => e = .returned (.bool b2) ∧ W = w')) (H3 : Hid (∀ W, Calls Try.prog 48 #[.int .i64 ch, .int .i64 1, .int .i64 5] W fun e w' => e = .returned (.bool b3) ∧ W = w')) (H4 : Hid (b1 = true → b2 = true → b3 = true → Calls Try.prog 58 #[.agg (handV 3 c (.slice p n m) lo hi g ch (.slice q n' m'))] (w.alloc (.cells (handV 3 c (.slice p n m) lo hi g ch (.slice q n' m')) 26)) fun e w' => e = .returned (.bool b4) ∧ Below (w.alloc (.cells (handV 3 c (.slice p n m) lo hi g ch (.slice q n' m')) 26)).heap.size (w.alloc (.cells (handV 3 c (.slice p n m) lo hi g ch (.slice q n' m')) 26)) w')) (HE : Hid (∀ W, Calls Try.prog 60 #[.agg (handV 3 c (.slice p n m) lo hi g ch (.slice q n' m'))] W fun e w' => e = .returned (.bool bb) ∧ Below W.heap.size W w')) (hg : b1 = true → 2 ≤ g ∧ g ≤ 8) :
    CallsIn Fence.wide 24 Try.prog 26 #[.agg (handV 3 c (.slice p n m) lo hi g ch (.slice q n' m'))] w fun e w' => e = .returned (.int .i64 (if b1 && b2 && b3 && b4 && bb then 0 else 2)) ∧ Below w.heap.size w w' := by
  have hx := heap_alloc_new w (.cells (handV 3 c (.slice p n m) lo hi g ch (.slice q n' m')) 26)
  have hb : Below w.heap.size w (w.alloc (.cells (handV 3 c (.slice p n m) lo hi g ch (.slice q n' m')) 26)) := (Below.refl _ _).alloc (Nat.le_refl _) _
  have HBW := hid hb
  have HX := hid hx
  clear hx hb
  have HG := hid hg
  clear hg
  simp only [handV] at H4 HE HX HBW ⊢
  cases b1 with
  | false =>
    simp only [Bool.false_and, Bool.and_false, Bool.true_and, Bool.not_true, Bool.not_false, Bool.false_eq_true, if_false, if_true]
    refine callsIn_of_wp Try.func26 rfl trivial ?_ rfl
    simp only [Try.ntmps26, List.size_toArray, List.length_cons, List.length_nil, Nat.reduceAdd, Nat.reduceSub, Array.replicate_succ, Array.replicate_zero, List.push_toArray, List.append_toArray, List.nil_append, List.cons_append]
    gi_wp2_with (first
      | (gi_at_call 48; refine (callsIn_wide.2 (H1.out _)).mono ?_; rintro e w1 ⟨rfl, rfl⟩; clear H1)
      | (gi_at_call 48; refine (callsIn_wide.2 (H2b.out _)).mono ?_; rintro e w1 ⟨rfl, rfl⟩; clear H2b)
      | (gi_at_call 48; refine (callsIn_wide.2 (H3.out _)).mono ?_; rintro e w1 ⟨rfl, rfl⟩; clear H3)
      | (gi_at_call 58; refine (callsIn_wide.2 H4b.out).mono ?_; rintro e w3 ⟨rfl, hb3⟩; have HBW := hid (HBW.out.trans (hb3.mono (by have := HBW.out.size; omega))); have HX := hid (heap_below hb3 HX.out (heap_lt HX.out)); have ⟨k0, k1, k2, k3, k4, k5, k6, k7⟩ := cells8 HX.out; clear H4b)
      | (gi_at_call 60; refine (callsIn_wide.2 (HE.out _)).mono ?_; rintro e w4 ⟨rfl, hb4⟩; have HBW := hid (HBW.out.trans (hb4.mono (by have := HBW.out.size; omega))); clear HE))
    go_ret
    exact ⟨rfl, HBW.out⟩
  | true =>
    obtain ⟨hg2, hg8⟩ := HG.out rfl
    have wg1 : IntKind.i64.wrap (2 * g) = 2 * g := IntWalk.i64_in _ (by omega)
    have wg2 : IntKind.i64.wrap (2 * g + 1) = 2 * g + 1 := IntWalk.i64_in _ (by omega)
    have H2b := hid (fun W => H2.out W rfl)
    clear HG hg2 hg8 H2
    cases b2 with
    | false =>
      simp only [Bool.false_and, Bool.and_false, Bool.true_and, Bool.not_true, Bool.not_false, Bool.false_eq_true, if_false, if_true]
      refine callsIn_of_wp Try.func26 rfl trivial ?_ rfl
      simp only [Try.ntmps26, List.size_toArray, List.length_cons, List.length_nil, Nat.reduceAdd, Nat.reduceSub, Array.replicate_succ, Array.replicate_zero, List.push_toArray, List.append_toArray, List.nil_append, List.cons_append]
      gi_wp2_with (first
        | (gi_at_call 48; refine (callsIn_wide.2 (H1.out _)).mono ?_; rintro e w1 ⟨rfl, rfl⟩; clear H1)
        | (gi_at_call 48; refine (callsIn_wide.2 (H2b.out _)).mono ?_; rintro e w1 ⟨rfl, rfl⟩; clear H2b)
        | (gi_at_call 48; refine (callsIn_wide.2 (H3.out _)).mono ?_; rintro e w1 ⟨rfl, rfl⟩; clear H3)
        | (gi_at_call 58; refine (callsIn_wide.2 H4b.out).mono ?_; rintro e w3 ⟨rfl, hb3⟩; have HBW := hid (HBW.out.trans (hb3.mono (by have := HBW.out.size; omega))); have HX := hid (heap_below hb3 HX.out (heap_lt HX.out)); have ⟨k0, k1, k2, k3, k4, k5, k6, k7⟩ := cells8 HX.out; clear H4b)
        | (gi_at_call 60; refine (callsIn_wide.2 (HE.out _)).mono ?_; rintro e w4 ⟨rfl, hb4⟩; have HBW := hid (HBW.out.trans (hb4.mono (by have := HBW.out.size; omega))); clear HE))
      go_ret
      exact ⟨rfl, HBW.out⟩
    | true =>
      cases b3 with
      | false =>
        simp only [Bool.false_and, Bool.and_false, Bool.true_and, Bool.not_true, Bool.not_false, Bool.false_eq_true, if_false, if_true]
        refine callsIn_of_wp Try.func26 rfl trivial ?_ rfl
        simp only [Try.ntmps26, List.size_toArray, List.length_cons, List.length_nil, Nat.reduceAdd, Nat.reduceSub, Array.replicate_succ, Array.replicate_zero, List.push_toArray, List.append_toArray, List.nil_append, List.cons_append]
        gi_wp2_with (first
          | (gi_at_call 48; refine (callsIn_wide.2 (H1.out _)).mono ?_; rintro e w1 ⟨rfl, rfl⟩; clear H1)
          | (gi_at_call 48; refine (callsIn_wide.2 (H2b.out _)).mono ?_; rintro e w1 ⟨rfl, rfl⟩; clear H2b)
          | (gi_at_call 48; refine (callsIn_wide.2 (H3.out _)).mono ?_; rintro e w1 ⟨rfl, rfl⟩; clear H3)
          | (gi_at_call 58; refine (callsIn_wide.2 H4b.out).mono ?_; rintro e w3 ⟨rfl, hb3⟩; have HBW := hid (HBW.out.trans (hb3.mono (by have := HBW.out.size; omega))); have HX := hid (heap_below hb3 HX.out (heap_lt HX.out)); have ⟨k0, k1, k2, k3, k4, k5, k6, k7⟩ := cells8 HX.out; clear H4b)
          | (gi_at_call 60; refine (callsIn_wide.2 (HE.out _)).mono ?_; rintro e w4 ⟨rfl, hb4⟩; have HBW := hid (HBW.out.trans (hb4.mono (by have := HBW.out.size; omega))); clear HE))
        go_ret
        exact ⟨rfl, HBW.out⟩
      | true =>
        have H4b := hid (H4.out rfl rfl rfl)
        clear H4
        cases b4 with
        | false =>
          simp only [Bool.false_and, Bool.and_false, Bool.true_and, Bool.not_true, Bool.not_false, Bool.false_eq_true, if_false, if_true]
          refine callsIn_of_wp Try.func26 rfl trivial ?_ rfl
          simp only [Try.ntmps26, List.size_toArray, List.length_cons, List.length_nil, Nat.reduceAdd, Nat.reduceSub, Array.replicate_succ, Array.replicate_zero, List.push_toArray, List.append_toArray, List.nil_append, List.cons_append]
          gi_wp2_with (first
            | (gi_at_call 48; refine (callsIn_wide.2 (H1.out _)).mono ?_; rintro e w1 ⟨rfl, rfl⟩; clear H1)
            | (gi_at_call 48; refine (callsIn_wide.2 (H2b.out _)).mono ?_; rintro e w1 ⟨rfl, rfl⟩; clear H2b)
            | (gi_at_call 48; refine (callsIn_wide.2 (H3.out _)).mono ?_; rintro e w1 ⟨rfl, rfl⟩; clear H3)
            | (gi_at_call 58; refine (callsIn_wide.2 H4b.out).mono ?_; rintro e w3 ⟨rfl, hb3⟩; have HBW := hid (HBW.out.trans (hb3.mono (by have := HBW.out.size; omega))); have HX := hid (heap_below hb3 HX.out (heap_lt HX.out)); have ⟨k0, k1, k2, k3, k4, k5, k6, k7⟩ := cells8 HX.out; clear H4b)
            | (gi_at_call 60; refine (callsIn_wide.2 (HE.out _)).mono ?_; rintro e w4 ⟨rfl, hb4⟩; have HBW := hid (HBW.out.trans (hb4.mono (by have := HBW.out.size; omega))); clear HE))
          go_ret
          exact ⟨rfl, HBW.out⟩
        | true =>
          cases bb with
          | false =>
            simp only [Bool.false_and, Bool.and_false, Bool.true_and, Bool.not_true, Bool.not_false, Bool.false_eq_true, if_false, if_true]
            refine callsIn_of_wp Try.func26 rfl trivial ?_ rfl
            simp only [Try.ntmps26, List.size_toArray, List.length_cons, List.length_nil, Nat.reduceAdd, Nat.reduceSub, Array.replicate_succ, Array.replicate_zero, List.push_toArray, List.append_toArray, List.nil_append, List.cons_append]
            gi_wp2_with (first
              | (gi_at_call 48; refine (callsIn_wide.2 (H1.out _)).mono ?_; rintro e w1 ⟨rfl, rfl⟩; clear H1)
              | (gi_at_call 48; refine (callsIn_wide.2 (H2b.out _)).mono ?_; rintro e w1 ⟨rfl, rfl⟩; clear H2b)
              | (gi_at_call 48; refine (callsIn_wide.2 (H3.out _)).mono ?_; rintro e w1 ⟨rfl, rfl⟩; clear H3)
              | (gi_at_call 58; refine (callsIn_wide.2 H4b.out).mono ?_; rintro e w3 ⟨rfl, hb3⟩; have HBW := hid (HBW.out.trans (hb3.mono (by have := HBW.out.size; omega))); have HX := hid (heap_below hb3 HX.out (heap_lt HX.out)); have ⟨k0, k1, k2, k3, k4, k5, k6, k7⟩ := cells8 HX.out; clear H4b)
              | (gi_at_call 60; refine (callsIn_wide.2 (HE.out _)).mono ?_; rintro e w4 ⟨rfl, hb4⟩; have HBW := hid (HBW.out.trans (hb4.mono (by have := HBW.out.size; omega))); clear HE))
            go_ret
            exact ⟨rfl, HBW.out⟩
          | true =>
            simp only [Bool.false_and, Bool.and_false, Bool.true_and, Bool.not_true, Bool.not_false, Bool.false_eq_true, if_false, if_true]
            refine callsIn_of_wp Try.func26 rfl trivial ?_ rfl
            simp only [Try.ntmps26, List.size_toArray, List.length_cons, List.length_nil, Nat.reduceAdd, Nat.reduceSub, Array.replicate_succ, Array.replicate_zero, List.push_toArray, List.append_toArray, List.nil_append, List.cons_append]
            gi_wp2_with (first
              | (gi_at_call 48; refine (callsIn_wide.2 (H1.out _)).mono ?_; rintro e w1 ⟨rfl, rfl⟩; clear H1)
              | (gi_at_call 48; refine (callsIn_wide.2 (H2b.out _)).mono ?_; rintro e w1 ⟨rfl, rfl⟩; clear H2b)
              | (gi_at_call 48; refine (callsIn_wide.2 (H3.out _)).mono ?_; rintro e w1 ⟨rfl, rfl⟩; clear H3)
              | (gi_at_call 58; refine (callsIn_wide.2 H4b.out).mono ?_; rintro e w3 ⟨rfl, hb3⟩; have HBW := hid (HBW.out.trans (hb3.mono (by have := HBW.out.size; omega))); have HX := hid (heap_below hb3 HX.out (heap_lt HX.out)); have ⟨k0, k1, k2, k3, k4, k5, k6, k7⟩ := cells8 HX.out; clear H4b)
              | (gi_at_call 60; refine (callsIn_wide.2 (HE.out _)).mono ?_; rintro e w4 ⟨rfl, hb4⟩; have HBW := hid (HBW.out.trans (hb4.mono (by have := HBW.out.size; omega))); clear HE))
            go_ret
            exact ⟨rfl, HBW.out⟩
set_option maxHeartbeats 1000000 in
theorem check_k4 (c : Int) (p : Option Addr) (n m : Nat) (lo hi g ch : Int) (q : Option Addr) (n' m' : Nat) (w : World) (b1 b2 bb : Bool) (H1 : Hid (∀ W, Calls Try.prog 48 #[.int .i64 c, .int .i64 1, .int .i64 4] W fun e w' => e = .returned (.bool b1) ∧ W = w')) (H2 : Hid (Calls Try.prog 59 #[.slice q n' m', .int .i64 c] (w.alloc (.cells (handV 4 c (.slice p n m) lo hi g ch (.slice q n' m')) 26)) fun e w' => e = .returned (.bool b2) ∧ Below (w.alloc (.cells (handV 4 c (.slice p n m) lo hi g ch (.slice q n' m')) 26)).heap.size (w.alloc (.cells (handV 4 c (.slice p n m) lo hi g ch (.slice q n' m')) 26)) w')) (HE : Hid (∀ W, Calls Try.prog 60 #[.agg (handV 4 c (.slice p n m) lo hi g ch (.slice q n' m'))] W fun e w' => e = .returned (.bool bb) ∧ Below W.heap.size W w')) :
    CallsIn Fence.wide 24 Try.prog 26 #[.agg (handV 4 c (.slice p n m) lo hi g ch (.slice q n' m'))] w fun e w' => e = .returned (.int .i64 (if b1 && b2 && bb then 0 else 2)) ∧ Below w.heap.size w w' := by
  have hx := heap_alloc_new w (.cells (handV 4 c (.slice p n m) lo hi g ch (.slice q n' m')) 26)
  have hb : Below w.heap.size w (w.alloc (.cells (handV 4 c (.slice p n m) lo hi g ch (.slice q n' m')) 26)) := (Below.refl _ _).alloc (Nat.le_refl _) _
  have HBW := hid hb
  have HX := hid hx
  clear hx hb
  simp only [handV] at H2 HE HX HBW ⊢
  cases b1 with
  | false =>
    simp only [Bool.false_and, Bool.and_false, Bool.true_and, Bool.not_true, Bool.not_false, Bool.false_eq_true, if_false, if_true]
    refine callsIn_of_wp Try.func26 rfl trivial ?_ rfl
    simp only [Try.ntmps26, List.size_toArray, List.length_cons, List.length_nil, Nat.reduceAdd, Nat.reduceSub, Array.replicate_succ, Array.replicate_zero, List.push_toArray, List.append_toArray, List.nil_append, List.cons_append]
    gi_wp2_with (first
      | (gi_at_call 48; refine (callsIn_wide.2 (H1.out _)).mono ?_; rintro e w1 ⟨rfl, rfl⟩; clear H1)
      | (gi_at_call 59; refine (callsIn_wide.2 H2.out).mono ?_; rintro e w3 ⟨rfl, hb3⟩; have HBW := hid (HBW.out.trans (hb3.mono (by have := HBW.out.size; omega))); have HX := hid (heap_below hb3 HX.out (heap_lt HX.out)); have ⟨k0, k1, k2, k3, k4, k5, k6, k7⟩ := cells8 HX.out; clear H2)
      | (gi_at_call 60; refine (callsIn_wide.2 (HE.out _)).mono ?_; rintro e w4 ⟨rfl, hb4⟩; have HBW := hid (HBW.out.trans (hb4.mono (by have := HBW.out.size; omega))); clear HE))
    go_ret
    exact ⟨rfl, HBW.out⟩
  | true =>
    cases b2 with
    | false =>
      simp only [Bool.false_and, Bool.and_false, Bool.true_and, Bool.not_true, Bool.not_false, Bool.false_eq_true, if_false, if_true]
      refine callsIn_of_wp Try.func26 rfl trivial ?_ rfl
      simp only [Try.ntmps26, List.size_toArray, List.length_cons, List.length_nil, Nat.reduceAdd, Nat.reduceSub, Array.replicate_succ, Array.replicate_zero, List.push_toArray, List.append_toArray, List.nil_append, List.cons_append]
      gi_wp2_with (first
        | (gi_at_call 48; refine (callsIn_wide.2 (H1.out _)).mono ?_; rintro e w1 ⟨rfl, rfl⟩; clear H1)
        | (gi_at_call 59; refine (callsIn_wide.2 H2.out).mono ?_; rintro e w3 ⟨rfl, hb3⟩; have HBW := hid (HBW.out.trans (hb3.mono (by have := HBW.out.size; omega))); have HX := hid (heap_below hb3 HX.out (heap_lt HX.out)); have ⟨k0, k1, k2, k3, k4, k5, k6, k7⟩ := cells8 HX.out; clear H2)
        | (gi_at_call 60; refine (callsIn_wide.2 (HE.out _)).mono ?_; rintro e w4 ⟨rfl, hb4⟩; have HBW := hid (HBW.out.trans (hb4.mono (by have := HBW.out.size; omega))); clear HE))
      go_ret
      exact ⟨rfl, HBW.out⟩
    | true =>
      cases bb with
      | false =>
        simp only [Bool.false_and, Bool.and_false, Bool.true_and, Bool.not_true, Bool.not_false, Bool.false_eq_true, if_false, if_true]
        refine callsIn_of_wp Try.func26 rfl trivial ?_ rfl
        simp only [Try.ntmps26, List.size_toArray, List.length_cons, List.length_nil, Nat.reduceAdd, Nat.reduceSub, Array.replicate_succ, Array.replicate_zero, List.push_toArray, List.append_toArray, List.nil_append, List.cons_append]
        gi_wp2_with (first
          | (gi_at_call 48; refine (callsIn_wide.2 (H1.out _)).mono ?_; rintro e w1 ⟨rfl, rfl⟩; clear H1)
          | (gi_at_call 59; refine (callsIn_wide.2 H2.out).mono ?_; rintro e w3 ⟨rfl, hb3⟩; have HBW := hid (HBW.out.trans (hb3.mono (by have := HBW.out.size; omega))); have HX := hid (heap_below hb3 HX.out (heap_lt HX.out)); have ⟨k0, k1, k2, k3, k4, k5, k6, k7⟩ := cells8 HX.out; clear H2)
          | (gi_at_call 60; refine (callsIn_wide.2 (HE.out _)).mono ?_; rintro e w4 ⟨rfl, hb4⟩; have HBW := hid (HBW.out.trans (hb4.mono (by have := HBW.out.size; omega))); clear HE))
        go_ret
        exact ⟨rfl, HBW.out⟩
      | true =>
        simp only [Bool.false_and, Bool.and_false, Bool.true_and, Bool.not_true, Bool.not_false, Bool.false_eq_true, if_false, if_true]
        refine callsIn_of_wp Try.func26 rfl trivial ?_ rfl
        simp only [Try.ntmps26, List.size_toArray, List.length_cons, List.length_nil, Nat.reduceAdd, Nat.reduceSub, Array.replicate_succ, Array.replicate_zero, List.push_toArray, List.append_toArray, List.nil_append, List.cons_append]
        gi_wp2_with (first
          | (gi_at_call 48; refine (callsIn_wide.2 (H1.out _)).mono ?_; rintro e w1 ⟨rfl, rfl⟩; clear H1)
          | (gi_at_call 59; refine (callsIn_wide.2 H2.out).mono ?_; rintro e w3 ⟨rfl, hb3⟩; have HBW := hid (HBW.out.trans (hb3.mono (by have := HBW.out.size; omega))); have HX := hid (heap_below hb3 HX.out (heap_lt HX.out)); have ⟨k0, k1, k2, k3, k4, k5, k6, k7⟩ := cells8 HX.out; clear H2)
          | (gi_at_call 60; refine (callsIn_wide.2 (HE.out _)).mono ?_; rintro e w4 ⟨rfl, hb4⟩; have HBW := hid (HBW.out.trans (hb4.mono (by have := HBW.out.size; omega))); clear HE))
        go_ret
        exact ⟨rfl, HBW.out⟩
set_option maxHeartbeats 1000000 in
theorem check_k5 (c : Int) (p : Option Addr) (n m : Nat) (lo hi g ch : Int) (q : Option Addr) (n' m' : Nat) (w : World) (b1 bb : Bool) (H1 : Hid (Calls Try.prog 59 #[.slice q n' m', .int .i64 1] (w.alloc (.cells (handV 5 c (.slice p n m) lo hi g ch (.slice q n' m')) 26)) fun e w' => e = .returned (.bool b1) ∧ Below (w.alloc (.cells (handV 5 c (.slice p n m) lo hi g ch (.slice q n' m')) 26)).heap.size (w.alloc (.cells (handV 5 c (.slice p n m) lo hi g ch (.slice q n' m')) 26)) w')) (HE : Hid (∀ W, Calls Try.prog 60 #[.agg (handV 5 c (.slice p n m) lo hi g ch (.slice q n' m'))] W fun e w' => e = .returned (.bool bb) ∧ Below W.heap.size W w')) :
    CallsIn Fence.wide 24 Try.prog 26 #[.agg (handV 5 c (.slice p n m) lo hi g ch (.slice q n' m'))] w fun e w' => e = .returned (.int .i64 (if b1 && bb then 0 else 2)) ∧ Below w.heap.size w w' := by
  have hx := heap_alloc_new w (.cells (handV 5 c (.slice p n m) lo hi g ch (.slice q n' m')) 26)
  have hb : Below w.heap.size w (w.alloc (.cells (handV 5 c (.slice p n m) lo hi g ch (.slice q n' m')) 26)) := (Below.refl _ _).alloc (Nat.le_refl _) _
  have HBW := hid hb
  have HX := hid hx
  clear hx hb
  simp only [handV] at H1 HE HX HBW ⊢
  cases b1 with
  | false =>
    simp only [Bool.false_and, Bool.and_false, Bool.true_and, Bool.not_true, Bool.not_false, Bool.false_eq_true, if_false, if_true]
    refine callsIn_of_wp Try.func26 rfl trivial ?_ rfl
    simp only [Try.ntmps26, List.size_toArray, List.length_cons, List.length_nil, Nat.reduceAdd, Nat.reduceSub, Array.replicate_succ, Array.replicate_zero, List.push_toArray, List.append_toArray, List.nil_append, List.cons_append]
    gi_wp2_with (first
      | (gi_at_call 59; refine (callsIn_wide.2 H1.out).mono ?_; rintro e w3 ⟨rfl, hb3⟩; have HBW := hid (HBW.out.trans (hb3.mono (by have := HBW.out.size; omega))); have HX := hid (heap_below hb3 HX.out (heap_lt HX.out)); have ⟨k0, k1, k2, k3, k4, k5, k6, k7⟩ := cells8 HX.out; clear H1)
      | (gi_at_call 60; refine (callsIn_wide.2 (HE.out _)).mono ?_; rintro e w4 ⟨rfl, hb4⟩; have HBW := hid (HBW.out.trans (hb4.mono (by have := HBW.out.size; omega))); clear HE))
    go_ret
    exact ⟨rfl, HBW.out⟩
  | true =>
    cases bb with
    | false =>
      simp only [Bool.false_and, Bool.and_false, Bool.true_and, Bool.not_true, Bool.not_false, Bool.false_eq_true, if_false, if_true]
      refine callsIn_of_wp Try.func26 rfl trivial ?_ rfl
      simp only [Try.ntmps26, List.size_toArray, List.length_cons, List.length_nil, Nat.reduceAdd, Nat.reduceSub, Array.replicate_succ, Array.replicate_zero, List.push_toArray, List.append_toArray, List.nil_append, List.cons_append]
      gi_wp2_with (first
        | (gi_at_call 59; refine (callsIn_wide.2 H1.out).mono ?_; rintro e w3 ⟨rfl, hb3⟩; have HBW := hid (HBW.out.trans (hb3.mono (by have := HBW.out.size; omega))); have HX := hid (heap_below hb3 HX.out (heap_lt HX.out)); have ⟨k0, k1, k2, k3, k4, k5, k6, k7⟩ := cells8 HX.out; clear H1)
        | (gi_at_call 60; refine (callsIn_wide.2 (HE.out _)).mono ?_; rintro e w4 ⟨rfl, hb4⟩; have HBW := hid (HBW.out.trans (hb4.mono (by have := HBW.out.size; omega))); clear HE))
      go_ret
      exact ⟨rfl, HBW.out⟩
    | true =>
      simp only [Bool.false_and, Bool.and_false, Bool.true_and, Bool.not_true, Bool.not_false, Bool.false_eq_true, if_false, if_true]
      refine callsIn_of_wp Try.func26 rfl trivial ?_ rfl
      simp only [Try.ntmps26, List.size_toArray, List.length_cons, List.length_nil, Nat.reduceAdd, Nat.reduceSub, Array.replicate_succ, Array.replicate_zero, List.push_toArray, List.append_toArray, List.nil_append, List.cons_append]
      gi_wp2_with (first
        | (gi_at_call 59; refine (callsIn_wide.2 H1.out).mono ?_; rintro e w3 ⟨rfl, hb3⟩; have HBW := hid (HBW.out.trans (hb3.mono (by have := HBW.out.size; omega))); have HX := hid (heap_below hb3 HX.out (heap_lt HX.out)); have ⟨k0, k1, k2, k3, k4, k5, k6, k7⟩ := cells8 HX.out; clear H1)
        | (gi_at_call 60; refine (callsIn_wide.2 (HE.out _)).mono ?_; rintro e w4 ⟨rfl, hb4⟩; have HBW := hid (HBW.out.trans (hb4.mono (by have := HBW.out.size; omega))); clear HE))
      go_ret
      exact ⟨rfl, HBW.out⟩
end Go.Proofs.Ytmjnelkeiogdcaa
