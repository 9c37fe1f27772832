/- Walks of the reference: in, Aside, Left, Steps, Times. -/
import Derived.Test.YtmjnelkeiogdcaaJU
import Derived.Test.YtmjnelkeiogdcaaPD
set_option linter.unusedSimpArgs false
set_option linter.unusedVariables false
namespace Go.Proofs.Ytmjnelkeiogdcaa
open Go Go.RowKit Go.Shelf
set_option maxRecDepth 100000

theorem rin_c (n a b : Int) (w : World) : Calls Try.prog 38 #[.int .i64 n, .int .i64 a, .int .i64 b] w fun e w' => e = .returned (.bool (decide (a ≤ n) && decide (n ≤ b))) ∧ w = w' := by
  by_cases h1 : a ≤ n
  · have e1 : decide (a ≤ n) = true := by simp [h1]
    by_cases h2 : n ≤ b
    · have e2 : decide (n ≤ b) = true := by simp [h2]
      rw [e1, e2]
      go_enter Try.func38, Try.ntmps38
      go_wp2_with fail
      go_ret
      exact ⟨rfl, rfl⟩
    · have e2 : decide (n ≤ b) = false := by simp; omega
      rw [e1, e2]
      go_enter Try.func38, Try.ntmps38
      go_wp2_with fail
      go_ret
      exact ⟨rfl, rfl⟩
  · have e1 : decide (a ≤ n) = false := by simp; omega
    rw [e1]
    go_enter Try.func38, Try.ntmps38
    go_wp2_with fail
    go_ret
    exact ⟨rfl, rfl⟩
theorem aside_alt (h g : Nat) (hh : 1 ≤ h) (hg : 1 ≤ g) : asideN h g = if h % g = 0 then g else h % g := by
  unfold asideN
  have h1 := Nat.div_add_mod h g
  have h2 := Nat.mod_lt h hg
  split
  · rename_i h0
    obtain ⟨q, hq⟩ : ∃ q, h = g * q := ⟨h / g, by omega⟩
    have hq0 : q ≠ 0 := fun e => by subst e; omega
    obtain ⟨p, rfl⟩ : ∃ p, q = p + 1 := ⟨q - 1, by omega⟩
    rw [show h - 1 = (g - 1) + g * p by rw [hq, Nat.mul_add]; omega, Nat.add_mul_mod_self_left, Nat.mod_eq_of_lt (by omega)]
    omega
  · rename_i h0
    rw [show h - 1 = (h % g - 1) + g * (h / g) by omega, Nat.add_mul_mod_self_left, Nat.mod_eq_of_lt (by omega)]
    omega
theorem raside_c (h g : Nat) (hh : 1 ≤ h ∧ h ≤ 100) (hg : 1 ≤ g ∧ g ≤ 100) (w : World) : Calls Try.prog 69 #[.int .i64 ((h : Nat) : Int), .int .i64 ((g : Nat) : Int)] w fun e w' => e = .returned (.int .i64 ((asideN h g : Nat) : Int)) ∧ w = w' := by
  rw [aside_alt h g hh.1 hg.1]
  have hg0 : ¬ g = 0 := by omega
  have hne' : ((g : Nat) : Int) ≠ 0 := by omega
  obtain ⟨r, hr⟩ : ∃ r, h % g = r := ⟨_, rfl⟩
  have hrl : r < g := hr ▸ Nat.mod_lt _ (by omega)
  have hr1 : ((h : Nat) : Int) % ((g : Nat) : Int) = ((r : Nat) : Int) := by rw [← hr]; simp
  have hrw : IntKind.i64.wrap ((r : Nat) : Int) = ((r : Nat) : Int) := IntWalk.i64_in _ (by omega)
  rw [hr]
  clear hr
  by_cases h0 : r = 0
  · subst h0
    rw [if_pos rfl]
    go_enter Try.func69, Try.ntmps69
    go_wp2_with fail
    go_ret
    exact ⟨rfl, rfl⟩
  · rw [if_neg h0]
    have hz : (((r : Nat) : Int) == 0) = false := by simp; omega
    go_enter Try.func69, Try.ntmps69
    go_wp2_with fail
    go_ret
    exact ⟨by show Ending.returned (.int .i64 (((h : Nat) : Int) % ((g : Nat) : Int))) = _; rw [hr1], rfl⟩
set_option maxHeartbeats 1000000 in
theorem rleft_c (n g c : Nat) (hn : c + 2 < n ∧ n ≤ 64) (hg : 1 ≤ g ∧ g ≤ 8) (w : World) : Calls Try.prog 52 #[.int .i64 ((n : Nat) : Int), .int .i64 ((g : Nat) : Int), .int .i64 ((c : Nat) : Int)] w fun e w' => e = .returned (.int .i64 ((leftN g n (c + 1) : Nat) : Int)) ∧ w = w' := by
  have A1 := hid (fun w => raside_c (c + 1) g (by omega) (by omega) w)
  have A2 := hid (fun w => raside_c (n - c - 2) g (by omega) (by omega) w)
  have l1 := asideN_le (c + 1) g (by omega)
  have l2 := asideN_le (n - c - 2) g (by omega)
  have e1 : leftN g n (c + 1) = n - 1 - asideN (c + 1) g - asideN (n - c - 2) g := by unfold leftN; rw [show n - (c + 1) - 1 = n - c - 2 by omega]
  rw [e1]
  obtain ⟨a, ha⟩ : ∃ a, asideN (c + 1) g = a := ⟨_, rfl⟩
  obtain ⟨b, hb⟩ : ∃ b, asideN (n - c - 2) g = b := ⟨_, rfl⟩
  rw [ha] at A1 l1 ⊢
  rw [hb] at A2 l2 ⊢
  obtain ⟨h1, hh1⟩ : ∃ h1, c + 1 = h1 := ⟨_, rfl⟩
  obtain ⟨h2, hh2⟩ : ∃ h2, n - c - 2 = h2 := ⟨_, rfl⟩
  rw [hh1] at A1 l1
  rw [hh2] at A2 l2
  have w1 : IntKind.i64.wrap (((n : Nat) : Int) - 1) = ((n - 1 : Nat) : Int) := (IntWalk.i64_in _ (by omega)).trans (by omega)
  have w2 : IntKind.i64.wrap (((c : Nat) : Int) + 1) = ((h1 : Nat) : Int) := (IntWalk.i64_in _ (by omega)).trans (by omega)
  obtain ⟨n1, hn1⟩ : ∃ n1, n - 1 = n1 := ⟨_, rfl⟩
  have w3 : IntKind.i64.wrap (((n1 : Nat) : Int) - ((a : Nat) : Int)) = ((n1 - a : Nat) : Int) := (IntWalk.i64_in _ (by omega)).trans (by omega)
  obtain ⟨n2, hn2⟩ : ∃ n2, n1 - a = n2 := ⟨_, rfl⟩
  have w4 : IntKind.i64.wrap (((n : Nat) : Int) - ((c : Nat) : Int)) = ((n - c : Nat) : Int) := (IntWalk.i64_in _ (by omega)).trans (by omega)
  obtain ⟨n3, hn3⟩ : ∃ n3, n - c = n3 := ⟨_, rfl⟩
  have w5 : IntKind.i64.wrap (((n3 : Nat) : Int) - 2) = ((h2 : Nat) : Int) := (IntWalk.i64_in _ (by omega)).trans (by omega)
  have w6 : IntKind.i64.wrap (((n2 : Nat) : Int) - ((b : Nat) : Int)) = ((n2 - b : Nat) : Int) := (IntWalk.i64_in _ (by omega)).trans (by omega)
  have hfin : n - 1 - a - b = n2 - b := by omega
  rw [hn1] at w1
  rw [hn2] at w3
  rw [hn3] at w4
  rw [hfin]
  obtain ⟨n4, hn4⟩ : ∃ n4, n2 - b = n4 := ⟨_, rfl⟩
  rw [hn4] at w6 ⊢
  clear hn1 hn2 hn3 hn4 hh1 hh2 ha hb e1 hfin l1 l2
  go_enter Try.func52, Try.ntmps52
  go_wp2_with (first
    | (go_at_call 69; refine (A1.out _).mono ?_; rintro e wa ⟨rfl, rfl⟩; clear A1)
    | (go_at_call 69; refine (A2.out _).mono ?_; rintro e wb ⟨rfl, rfl⟩))
  go_ret
  exact ⟨rfl, rfl⟩
/-- How many steps a course has. -/
def stepsR (R : RH) : Int := if R.kind = 1 ∨ R.kind = 4 then R.count else if R.kind = 3 then R.changes else 1
theorem rsteps_c (R : RH) (fv cv : Value) (w : World) : Calls Try.prog 46 #[.agg (handR R fv cv)] w fun e w' => e = .returned (.int .i64 (stepsR R)) ∧ Below w.heap.size w w' := by
  have hx := heap_alloc_new w (.cells (handR R fv cv) 26)
  have hb : Below w.heap.size w (w.alloc (.cells (handR R fv cv) 26)) := (Below.refl _ _).alloc (Nat.le_refl _) _
  have HB := hid hb
  have ⟨k0, k1, k2, k3, k4, k5, k6, k7⟩ := cells8 hx
  clear hx hb
  unfold stepsR
  by_cases h1 : R.kind = 1
  · have e1 : (R.kind == 1) = true := by simp [h1]
    rw [if_pos (.inl h1)]
    go_enter Try.func46, Try.ntmps46
    go_wp2_with fail
    go_ret
    exact ⟨rfl, HB.out⟩
  · have e1 : (R.kind == 1) = false := by simp [h1]
    by_cases h4 : R.kind = 4
    · have e4 : (R.kind == 4) = true := by simp [h4]
      rw [if_pos (.inr h4)]
      go_enter Try.func46, Try.ntmps46
      go_wp2_with fail
      go_ret
      exact ⟨rfl, HB.out⟩
    · have e4 : (R.kind == 4) = false := by simp [h4]
      rw [if_neg (by simp [h1, h4])]
      by_cases h3 : R.kind = 3
      · have e3 : (R.kind == 3) = true := by simp [h3]
        rw [if_pos h3]
        go_enter Try.func46, Try.ntmps46
        go_wp2_with fail
        go_ret
        exact ⟨rfl, HB.out⟩
      · have e3 : (R.kind == 3) = false := by simp [h3]
        rw [if_neg h3]
        go_enter Try.func46, Try.ntmps46
        go_wp2_with fail
        go_ret
        exact ⟨rfl, HB.out⟩
end Go.Proofs.Ytmjnelkeiogdcaa
/- Walks of the reference: Choices. -/
namespace Go.Proofs.Ytmjnelkeiogdcaa
open Go Go.RowKit Go.Shelf
set_option maxRecDepth 100000

theorem steps_dep (H : HV) (hO : Okh H) (hB : BareH H) : stepsR (rawOf H) = ((dep (beginS H) : Nat) : Int) := by
  unfold stepsR
  show (if ((H.kind : Nat) : Int) = 1 ∨ ((H.kind : Nat) : Int) = 4 then ((H.count : Nat) : Int) else if ((H.kind : Nat) : Int) = 3 then ((H.changes : Nat) : Int) else 1) = _
  rcases hO with ⟨hk, _⟩ | ⟨hk, _⟩ | ⟨hk, _⟩ | ⟨hk, _⟩ | ⟨hk, _⟩ <;> simp [hk, beginS, dep]
/-- The states of the stalks along a course. -/
theorem stk_snoc (g : Nat) : ∀ (A : List Nat) (c n : Nat), stkN g (A ++ [c]) n = leftN g (stkN g A n) (c + 1)
  | [], c, n => rfl
  | a :: A, c, n => by simp only [List.cons_append, stkN]; exact stk_snoc g A c _
theorem stk_le (g : Nat) : ∀ (A : List Nat) (n : Nat), stkN g A n ≤ n
  | [], n => Nat.le_refl _
  | a :: A, n => Nat.le_trans (stk_le g A _) (leftN_le _ _ _)
theorem run_take (H : HV) : ∀ (A B : List Nat) (s t : St), runN H s (A ++ B) = some t → ∃ u, runN H s A = some u ∧ runN H u B = some t
  | [], B, s, t, h => ⟨s, rfl, h⟩
  | a :: A, B, s, t, h => by
    rw [List.cons_append, runN] at h
    cases hp : pick (brs H s) a with
    | none => rw [hp] at h; cases h
    | some v =>
      rw [hp] at h
      obtain ⟨u, h1, h2⟩ := run_take H A B v t h
      exact ⟨u, by rw [runN, hp]; exact h1, h2⟩
theorem chN_divided (H : HV) (l n : Nat) (h : l ≠ 0) : chN H (.divided l n) = n - 2 := by
  unfold chN
  simp only [brs, if_neg h, List.map_map]
  rw [show (Prod.fst ∘ fun i => (1, St.divided (l - 1) (leftN H.group n (i + 1)))) = fun _ => 1 from rfl, sum_ones2, List.length_range]
theorem stk_step (H : HV) (xs : List Nat) (s : St) (l n : Nat) (hr : runN H (.divided l n) xs = some s) (i : Nat) (hi : i < xs.length) : xs[i] + 2 < stkN H.group (xs.take i) n := by
  have hsp : xs = (xs.take i ++ [xs[i]]) ++ xs.drop (i + 1) := by simp
  rw [hsp] at hr
  obtain ⟨u, h1, h2⟩ := run_take H _ _ _ _ hr
  obtain ⟨v, h3, h4⟩ := run_split H _ _ _ _ h1
  obtain ⟨h5, h6⟩ := run_divided H _ _ _ _ h3
  have h7 := pick_lt _ _ _ h4
  rw [← chN_sum, h6] at h7
  rcases Nat.eq_zero_or_pos (l - (xs.take i).length) with h0 | h0
  · rw [h0] at h7
    simp [chN, brs] at h7
  · rw [chN_divided _ _ _ (by omega)] at h7
    omega
theorem sum_take (F : List (Nat × Nat)) (i : Nat) (h : i < F.length) : ((F.take (i + 1)).map Prod.snd).sum = ((F.take i).map Prod.snd).sum + F[i].2 := by
  rw [List.take_add_one, List.getElem?_eq_getElem h, Option.toList_some, List.map_append, List.sum_append]
  simp
theorem sum_le_mul (L : List Nat) (n : Nat) (hl : L.length ≤ n) (h : ∀ x ∈ L, x ≤ 1000) : L.sum ≤ n * 1000 := by
  induction L generalizing n with
  | nil => simp
  | cons x L ih =>
    rw [List.length_cons] at hl
    have h1 := ih (n - 1) (by omega) fun y hy => h y (List.mem_cons_of_mem _ hy)
    have h2 := h x List.mem_cons_self
    rw [List.sum_cons]
    omega
set_option maxHeartbeats 4000000 in
/-- How many choices there are behind the beginning of a course. -/
theorem rchoices_c (H : HV) (hV : Val H) (fv cv : Value) (xs : List Nat) (v : Value) (s : St) (hr : runN H (beginS H) xs = some s) (N : Nat) (w : World) (hR : RawAt w N (rawOf H) fv cv) (hC : CrsAt w N v (xs.map fun c => ((c : Nat) : Int))) :
    Calls Try.prog 35 #[.agg (handR (rawOf H) fv cv), v] w fun e w' => e = .returned (.int .i64 ((chN H s : Nat) : Int)) ∧ Below w.heap.size w w' := by
  have hx := heap_alloc_new w (.cells (handR (rawOf H) fv cv) 26)
  have hb : Below w.heap.size w (w.alloc (.cells (handR (rawOf H) fv cv) 26)) := (Below.refl _ _).alloc (Nat.le_refl _) _
  have HX := hid hx
  have HB := hid hb
  have HR := hid (hR.below (hb.mono hR.le))
  have HC := hid (hC.below (hb.mono hC.le))
  have HST := hid (fun W => steps_dep H hV.hand.ok hV.hand.bare ▸ rsteps_c (rawOf H) fv cv W)
  obtain ⟨p, kp, hv, -⟩ := hC.at'
  rw [List.length_map] at hv
  have hF0 := begin_fit H hV.hand.ok
  have hrr := run_reachN H (beginS H) xs (beginS H) s 0 rfl hr
  have hds := (reach_fit H _ hF0 _ _ hrr).2
  have hFs := (reach_fit H _ hF0 _ _ hrr).1
  have hd8 := dep_le hF0
  have hNw := hR.le
  have hff := hV.faces
  subst hv
  obtain ⟨n, hn⟩ : ∃ n, xs.length = n := ⟨_, rfl⟩
  have HN := hid hn
  rw [hn] at hds ⊢
  obtain ⟨dd, hdd⟩ : ∃ dd, dep (beginS H) = dd := ⟨_, rfl⟩
  rw [hdd] at HST hds hd8
  obtain ⟨g, hg⟩ : ∃ g, w.heap.size = g := ⟨_, rfl⟩
  rw [hg] at HX HB hNw
  have hs1 : (w.alloc (.cells (handR (rawOf H) fv cv) 26)).heap.size = g + 1 := by simp [hg]
  rw [hg]
  clear hx hb
  rcases Nat.lt_or_ge n dd with hlt | hge
  · have hdn : dep s ≠ 0 := by omega
    have e0 : decide (((dd : Nat) : Int) ≤ ((n : Nat) : Int)) = false := decide_eq_false (by omega)
    have e0' : ¬ ((dd : Nat) : Int) ≤ ((n : Nat) : Int) := by omega
    rcases hV.hand.ok with ⟨hk, h1, h2, h3, h4, h5⟩ | ⟨hk, h1, h2, h3⟩ | ⟨hk, h1, h2, h3, h4, h5, h6⟩ | ⟨hk, h1, h2, h3, h4, h5⟩ | ⟨hk, h1, h2, h3⟩
    · -- dice
      have q1 : ((rawOf H).kind == 1) = true := by show (((H.kind : Nat) : Int) == 1) = true; simp [hk]
      have hb0 : beginS H = .thrown H.count 0 := by simp [beginS, hk]
      rw [hb0] at hr
      obtain ⟨-, es⟩ := run_thrown H xs _ _ s hr
      have hch : chN H s = (H.faces.map Prod.snd).sum := by rw [es] at hdn ⊢; simp only [dep] at hdn; exact chN_thrown H _ _ hdn
      rw [hch]
      have hF5 := h5
      obtain ⟨pf, cf, hfe, -⟩ := hR.faces
      obtain ⟨F, hF⟩ : ∃ F, H.faces.length = F := ⟨_, rfl⟩
      have hFr : (rawOf H).faces.length = F := by simp [rawOf, hF]
      rw [hFr] at hfe
      have HFL := hid (show H.faces.length = F ∧ (rawOf H).faces.length = F from ⟨hF, hFr⟩)
      have hf20 : F ≤ 20 := by omega
      have H5 := hid hF5
      clear hr hR hC hV hrr hF0 hFs hff hn hds hdn hch es hb0 h1 h2 h3 h4 h5 hF5 hF hFr
      subst hfe
      go_enter Try.func35, Try.ntmps35
      go_wp2_with (first
        | (refine wpList_value rfl (by intro c hc; cases hc) (.agg (handR (rawOf H) (.slice pf F cf) cv)) (exec_ldR rfl rfl HX.out) ?_)
        | (go_at_call 46; refine (HST.out _).mono ?_; rintro e w1 ⟨rfl, hb1⟩; have HB1 := hid (HB.out.trans (hb1.mono (by omega))); have HX1 := hid (heap_below hb1 HX.out (heap_lt HX.out)); have HR1 := hid (HR.out.below (hb1.mono (by have := HR.out.le; omega))); have ⟨k0, k1, k2, k3, k4, k5, k6, k7⟩ := cells8 HX1.out))
      go_loopw [5, 6] (fun nv ix wr => ∃ i : Nat, i ≤ F ∧ ix = .int .i64 ((i : Nat) : Int) ∧ nv = .int .i64 ((((H.faces.take i).map Prod.snd).sum : Nat) : Int) ∧ Below w1.heap.size w1 wr) (fun _ ix _ => F - (intOf ix).toNat)
      case atStart => exact ⟨0, by omega, rfl, by simp, Below.refl _ _⟩
      case round =>
        obtain ⟨i, hi, rfl, rfl, hbw⟩ := hrel
        have ⟨k0, k1, k2, k3, k4, k5, k6, k7⟩ := cells8 (heap_below hbw HX1.out (heap_lt HX1.out))
        have HBW := hid hbw
        have hR2 := HR1.out.below (hbw.mono HR1.out.le)
        clear hbw
        rcases Nat.lt_or_ge i F with hlt2 | hge2
        · have hin : decide (((i : Nat) : Int) < ((F : Nat) : Int)) = true := decide_eq_true (by omega)
          have hin' : ((i : Nat) : Int) < ((F : Nat) : Int) := by omega
          have hi0 : (0 : Int) ≤ ((i : Nat) : Int) := by omega
          obtain ⟨p', c', e', hfc⟩ := hR2.faces
          injection e' with ep _ ec
          subst ep
          subst ec
          obtain ⟨b, o, rfl, hbN, c1, c2⟩ := hfc i (by rw [HFL.out.2]; exact hlt2)
          have hiF : i < H.faces.length := by rw [HFL.out.1]; exact hlt2
          have e2 : (rawOf H).faces[i]'(by rw [HFL.out.2]; exact hlt2) = (((H.faces[i].1 : Nat) : Int), ((H.faces[i].2 : Nat) : Int)) := by simp [rawOf]
          rw [e2] at c2
          have hst := sum_take H.faces i hiF
          have hw1 := (H5.out _ (List.getElem_mem hiF)).2.2
          have hsl : ((H.faces.take i).map Prod.snd).sum ≤ i * 1000 := sum_le_mul _ i (by simp; omega) (fun x hx => by obtain ⟨f, hf, rfl⟩ := List.mem_map.1 hx; exact (H5.out f (List.mem_of_mem_take hf)).2.2)
          obtain ⟨S, hS⟩ : ∃ S, ((H.faces.take i).map Prod.snd).sum = S := ⟨_, rfl⟩
          obtain ⟨x, hx⟩ : ∃ x, H.faces[i].2 = x := ⟨_, rfl⟩
          rw [hx] at c2 hw1 hst
          rw [hS] at hsl hst ⊢
          have HS2 := hid hst
          have hsw : IntKind.i64.wrap (((S : Nat) : Int) + ((x : Nat) : Int)) = ((S + x : Nat) : Int) := (IntWalk.i64_in _ (by omega)).trans (by omega)
          have hiw : IntKind.i64.wrap (((i : Nat) : Int) + 1) = ((i + 1 : Nat) : Int) := (IntWalk.i64_in _ (by omega)).trans (by omega)
          simp only at c1 c2
          clear hst hx hS hfc e2 hR2 c1
          go_wp2_with fail
          go_roundw
          case rel => exact ⟨i + 1, by omega, rfl, by rw [HS2.out]; exact congrArg (Value.int .i64) (by omega), HBW.out⟩
          case measure => simp only [intOf, Int.toNat_natCast]; omega
        · obtain rfl : i = F := by omega
          have hin : decide (((i : Nat) : Int) < ((i : Nat) : Int)) = false := decide_eq_false (by omega)
          have hall : H.faces.take i = H.faces := List.take_of_length_le (by rw [HFL.out.1]; omega)
          rw [hall]
          obtain ⟨S, hS⟩ : ∃ S, (H.faces.map Prod.snd).sum = S := ⟨_, rfl⟩
          rw [hS]
          have HSS := hid hS
          clear hR2 hall hS
          go_wp2_with fail
          go_ret
          exact ⟨by rw [HSS.out]; rfl, HB1.out.trans (HBW.out.mono (by have := HB1.out.size; have := heap_lt HX1.out; omega))⟩
    · -- marks
      have q1 : ((rawOf H).kind == 1) = false := by show (((H.kind : Nat) : Int) == 1) = false; simp [hk]
      have q2 : ((rawOf H).kind == 2) = true := by show (((H.kind : Nat) : Int) == 2) = true; simp [hk]
      have hdb : dep (beginS H) = 1 := by simp [beginS, hk, dep]
      have hn0 : n = 0 := by omega
      have hxs : xs = [] := List.eq_nil_of_length_eq_zero (by omega)
      have hsb : s = .marked 0 := by
        rw [hxs] at hr
        simp only [runN, Option.some.injEq] at hr
        rw [← hr]
        simp [beginS, hk]
      have hch : chN H s = H.high + 1 - H.low := by
        rw [hsb]
        unfold chN
        simp only [brs, if_true, List.map_map]
        rw [show (Prod.fst ∘ fun i => (1, St.marked (H.low + i))) = fun _ => 1 from rfl, sum_ones2, List.length_range]
      have hlo : (rawOf H).low = ((H.low : Nat) : Int) := by show H.lowI = _; unfold HV.low at *; omega
      have hhi : (rawOf H).high = ((H.high : Nat) : Int) := by show H.highI = _; unfold HV.high HV.low at *; omega
      rw [hch]
      obtain ⟨lo, hlo'⟩ : ∃ lo, H.low = lo := ⟨_, rfl⟩
      obtain ⟨hi, hhi'⟩ : ∃ hi, H.high = hi := ⟨_, rfl⟩
      rw [hlo'] at hlo h1 h2
      rw [hhi'] at hhi h2 h3
      rw [hlo', hhi']
      have w1' : IntKind.i64.wrap (((hi : Nat) : Int) - ((lo : Nat) : Int)) = ((hi - lo : Nat) : Int) := (IntWalk.i64_in _ (by omega)).trans (by omega)
      obtain ⟨d, hd⟩ : ∃ d, hi - lo = d := ⟨_, rfl⟩
      rw [hd] at w1'
      have w2' : IntKind.i64.wrap (((d : Nat) : Int) + 1) = ((hi + 1 - lo : Nat) : Int) := (IntWalk.i64_in _ (by omega)).trans (by omega)
      clear hr hR hC hV hrr hF0 hFs hff hn hds hdn hch hsb hxs hlo' hhi' hd
      go_enter Try.func35, Try.ntmps35
      go_wp2_with (first
        | (refine wpList_value rfl (by intro c hc; cases hc) (.agg (handR (rawOf H) fv cv)) (exec_ldR rfl rfl HX.out) ?_)
        | (go_at_call 46; refine (HST.out _).mono ?_; rintro e w1 ⟨rfl, hb1⟩; have HB1 := hid (HB.out.trans (hb1.mono (by omega))); have HX1 := hid (heap_below hb1 HX.out (heap_lt HX.out)); have HR1 := hid (HR.out.below (hb1.mono (by have := HR.out.le; omega))); have ⟨k0, k1, k2, k3, k4, k5, k6, k7⟩ := cells8 HX1.out; rw [hlo] at k3; rw [hhi] at k4))
      go_ret
      exact ⟨rfl, HB1.out⟩
    · -- stalks divided
      have q1 : ((rawOf H).kind == 1) = false := by show (((H.kind : Nat) : Int) == 1) = false; simp [hk]
      have q2 : ((rawOf H).kind == 2) = false := by show (((H.kind : Nat) : Int) == 2) = false; simp [hk]
      have q3 : ((rawOf H).kind == 3) = true := by show (((H.kind : Nat) : Int) == 3) = true; simp [hk]
      have hb0 : beginS H = .divided H.changes H.count := by simp [beginS, hk]
      have hpos := hV.hand.last _ _ hrr hdn
      rw [hb0] at hr
      have hst := stk_step H xs s _ _ hr
      obtain ⟨-, es⟩ := run_divided H xs _ _ s hr
      have hch : chN H s = stkN H.group xs H.count - 2 := by rw [es] at hdn ⊢; simp only [dep] at hdn; exact chN_divided H _ _ hdn
      rw [hch] at hpos ⊢
      obtain ⟨G, hG⟩ : ∃ G, H.group = G := ⟨_, rfl⟩
      obtain ⟨C, hCC⟩ : ∃ C, H.count = C := ⟨_, rfl⟩
      have hrg : (rawOf H).group = ((G : Nat) : Int) := by show ((H.group : Nat) : Int) = _; rw [hG]
      have hrk : (rawOf H).count = ((C : Nat) : Int) := by show ((H.count : Nat) : Int) = _; rw [hCC]
      rw [hG, hCC] at hst hpos
      rw [hG] at h1 h2
      rw [hCC] at h4
      rw [hG, hCC]
      have HST2 := hid hst
      clear hr hR hC hV hrr hF0 hFs hff hn hds hdn hch es hb0 h3 h5 h6 hG hCC hst hdd
      go_enter Try.func35, Try.ntmps35
      go_wp2_with (first
        | (refine wpList_value rfl (by intro c hc; cases hc) (.agg (handR (rawOf H) fv cv)) (exec_ldR rfl rfl HX.out) ?_)
        | (go_at_call 46; refine (HST.out _).mono ?_; rintro e w1 ⟨rfl, hb1⟩; have HB1 := hid (HB.out.trans (hb1.mono (by omega))); have HX1 := hid (heap_below hb1 HX.out (heap_lt HX.out)); have HC1 := hid (HC.out.below (hb1.mono (by have := HC.out.le; omega))); have ⟨k0, k1, k2, k3, k4, k5, k6, k7⟩ := cells8 HX1.out; rw [hrk] at k1))
      go_loopw [7, 8] (fun nv ix wr => ∃ i : Nat, i ≤ n ∧ ix = .int .i64 ((i : Nat) : Int) ∧ nv = .int .i64 ((stkN G (xs.take i) C : Nat) : Int) ∧ Below w1.heap.size w1 wr) (fun _ ix _ => n - (intOf ix).toNat)
      case atStart => exact ⟨0, by omega, rfl, by simp [stkN], Below.refl _ _⟩
      case round =>
        obtain ⟨i, hi, rfl, rfl, hbw⟩ := hrel
        have ⟨k0, k1, k2, k3, k4, k5, k6, k7⟩ := cells8 (heap_below hbw HX1.out (heap_lt HX1.out))
        rw [hrg] at k5
        have HBW := hid hbw
        have hC2 := HC1.out.below (hbw.mono HC1.out.le)
        clear hbw
        rcases Nat.lt_or_ge i n with hlt2 | hge2
        · have hin : decide (((i : Nat) : Int) < ((n : Nat) : Int)) = true := decide_eq_true (by omega)
          have hin' : ((i : Nat) : Int) < ((n : Nat) : Int) := by omega
          have hi0 : (0 : Int) ≤ ((i : Nat) : Int) := by omega
          have hix : i < xs.length := by rw [HN.out]; exact hlt2
          obtain ⟨p', c', e', hfc⟩ := hC2.at'
          injection e' with ep _ ec
          subst ep
          obtain ⟨b, o, rfl, hbN, c1⟩ := hfc i (by rw [List.length_map]; exact hix)
          rw [List.getElem_map] at c1
          have hx := HST2.out i hix
          have hS64 := stk_le G (xs.take i) C
          have hsn := stk_snoc G (xs.take i) xs[i] C
          rw [List.take_append_getElem hix] at hsn
          obtain ⟨x, hx'⟩ : ∃ x, xs[i] = x := ⟨_, rfl⟩
          obtain ⟨S, hS⟩ : ∃ S, stkN G (xs.take i) C = S := ⟨_, rfl⟩
          rw [hx'] at c1 hx hsn
          rw [hS] at hx hS64 hsn ⊢
          have HSN := hid hsn
          have HL := hid (fun W => rleft_c S G x ⟨hx, by omega⟩ ⟨by omega, by omega⟩ W)
          have hiw : IntKind.i64.wrap (((i : Nat) : Int) + 1) = ((i + 1 : Nat) : Int) := (IntWalk.i64_in _ (by omega)).trans (by omega)
          clear hsn hx' hS hfc hC2 hx hS64
          go_upto_region 18 with fail
          go_quiet ((go_at_call 52; refine Calls.quiet_of_same ((HL.out _).mono (by rintro e w' ⟨h, h'⟩; exact ⟨h, h'.symm⟩))))
          go_wp2_with fail
          go_roundw
          case rel => exact ⟨i + 1, by omega, rfl, by rw [HSN.out], HBW.out.trans ⟨rfl, rfl, rfl, Nat.le_refl _, fun _ _ => rfl⟩⟩
          case measure => simp only [intOf, Int.toNat_natCast]; omega
        · obtain rfl : i = n := by omega
          have hin : decide (((i : Nat) : Int) < ((i : Nat) : Int)) = false := decide_eq_false (by omega)
          have hall : xs.take i = xs := List.take_of_length_le (by rw [HN.out]; omega)
          rw [hall]
          have hS64 := stk_le G xs C
          obtain ⟨S, hS⟩ : ∃ S, stkN G xs C = S := ⟨_, rfl⟩
          rw [hS] at hS64 hpos ⊢
          have HSS := hid hS
          have w1' : IntKind.i64.wrap (((S : Nat) : Int) - 2) = ((S - 2 : Nat) : Int) := (IntWalk.i64_in _ (by omega)).trans (by omega)
          clear hC2 hall hS hS64
          go_wp2_with fail
          go_ret
          exact ⟨by rw [HSS.out]; rfl, HB1.out.trans (HBW.out.mono (by have := HB1.out.size; have := heap_lt HX1.out; omega))⟩
    · -- cards drawn
      have q1 : ((rawOf H).kind == 1) = false := by show (((H.kind : Nat) : Int) == 1) = false; simp [hk]
      have q2 : ((rawOf H).kind == 2) = false := by show (((H.kind : Nat) : Int) == 2) = false; simp [hk]
      have q3 : ((rawOf H).kind == 3) = false := by show (((H.kind : Nat) : Int) == 3) = false; simp [hk]
      have hb0 : beginS H = .drawn H.count 0 0 := by simp [beginS, hk]
      rw [hb0] at hr
      obtain ⟨-, ga, es, la⟩ := run_drawn H xs _ _ _ s hr
      have hch : chN H s = H.cards.length - n := by
        rw [es] at hdn ⊢
        simp only [dep] at hdn
        rw [chN_drawn _ _ _ _ hdn]
        have : (restI H.cards.length 0).length = H.cards.length := by unfold restI; rw [List.filter_eq_self.2 (by simp), List.length_range]
        omega
      rw [hch]
      obtain ⟨pc, cc, hce, -⟩ := hR.cards
      have hCr : (rawOf H).cards.length = H.cards.length := by simp [rawOf]
      rw [hCr] at hce
      obtain ⟨C, hCC⟩ : ∃ C, H.cards.length = C := ⟨_, rfl⟩
      rw [hCC] at hce h3 h4 hff
      rw [hCC]
      have hnC : n ≤ C := by have : dep (beginS H) = H.count := by rw [hb0]; rfl
                             omega
      have w1' : IntKind.i64.wrap (((C : Nat) : Int) - ((n : Nat) : Int)) = ((C - n : Nat) : Int) := (IntWalk.i64_in _ (by omega)).trans (by omega)
      clear hr hR hC hV hrr hF0 hFs hn hds hdn hch es la hb0 hCr hCC
      subst hce
      go_enter Try.func35, Try.ntmps35
      go_wp2_with (first
        | (refine wpList_value rfl (by intro c hc; cases hc) (.agg (handR (rawOf H) fv (.slice pc C cc))) (exec_ldR rfl rfl HX.out) ?_)
        | (go_at_call 46; refine (HST.out _).mono ?_; rintro e w1 ⟨rfl, hb1⟩; have HB1 := hid (HB.out.trans (hb1.mono (by omega))); have HX1 := hid (heap_below hb1 HX.out (heap_lt HX.out)); have HR1 := hid (HR.out.below (hb1.mono (by have := HR.out.le; omega))); have ⟨k0, k1, k2, k3, k4, k5, k6, k7⟩ := cells8 HX1.out))
      go_ret
      exact ⟨rfl, HB1.out⟩
    · -- a card cut
      have q1 : ((rawOf H).kind == 1) = false := by show (((H.kind : Nat) : Int) == 1) = false; simp [hk]
      have q2 : ((rawOf H).kind == 2) = false := by show (((H.kind : Nat) : Int) == 2) = false; simp [hk]
      have q3 : ((rawOf H).kind == 3) = false := by show (((H.kind : Nat) : Int) == 3) = false; simp [hk]
      have hdb : dep (beginS H) = 1 := by simp [beginS, hk, dep]
      have hn0 : n = 0 := by omega
      have hxs : xs = [] := List.eq_nil_of_length_eq_zero (by omega)
      have hsb : s = .cut (-1) := by
        rw [hxs] at hr
        simp only [runN, Option.some.injEq] at hr
        rw [← hr]
        simp [beginS, hk]
      have hch : chN H s = H.cards.length - n := by
        rw [hsb, hn0]
        unfold chN
        simp only [brs, List.map_map]
        rw [if_neg (by decide), List.map_map, show (Prod.fst ∘ fun c => (1, St.cut ((c : Nat) : Int))) = fun _ => 1 from rfl, sum_ones2]
        omega
      rw [hch]
      obtain ⟨pc, cc, hce, -⟩ := hR.cards
      have hCr : (rawOf H).cards.length = H.cards.length := by simp [rawOf]
      rw [hCr] at hce
      obtain ⟨C, hCC⟩ : ∃ C, H.cards.length = C := ⟨_, rfl⟩
      rw [hCC] at hce h1 h2 hff
      rw [hCC]
      have w1' : IntKind.i64.wrap (((C : Nat) : Int) - ((n : Nat) : Int)) = ((C - n : Nat) : Int) := (IntWalk.i64_in _ (by omega)).trans (by omega)
      clear hr hR hC hV hrr hF0 hFs hn hds hdn hch hsb hxs hCr hCC hn0 hdb
      subst hce
      go_enter Try.func35, Try.ntmps35
      go_wp2_with (first
        | (refine wpList_value rfl (by intro c hc; cases hc) (.agg (handR (rawOf H) fv (.slice pc C cc))) (exec_ldR rfl rfl HX.out) ?_)
        | (go_at_call 46; refine (HST.out _).mono ?_; rintro e w1 ⟨rfl, hb1⟩; have HB1 := hid (HB.out.trans (hb1.mono (by omega))); have HX1 := hid (heap_below hb1 HX.out (heap_lt HX.out)); have HR1 := hid (HR.out.below (hb1.mono (by have := HR.out.le; omega))); have ⟨k0, k1, k2, k3, k4, k5, k6, k7⟩ := cells8 HX1.out))
      go_ret
      exact ⟨rfl, HB1.out⟩
  · have hd0 : dep s = 0 := by omega
    have hch : chN H s = 0 := by unfold chN; rw [dep_zero hFs hd0]; rfl
    rw [hch]
    have e0 : decide (((dd : Nat) : Int) ≤ ((n : Nat) : Int)) = true := decide_eq_true (by omega)
    have e0' : ((dd : Nat) : Int) ≤ ((n : Nat) : Int) := by omega
    clear hr hR hC hV hrr hF0 hFs hff hn hds hd0 hch
    go_enter Try.func35, Try.ntmps35
    go_wp2_with (first
      | (refine wpList_value rfl (by intro c hc; cases hc) (.agg (handR (rawOf H) fv cv)) (exec_ldR rfl rfl HX.out) ?_)
      | (go_at_call 46; refine (HST.out _).mono ?_; rintro e w1 ⟨rfl, hb1⟩; have HB := hid (HB.out.trans (hb1.mono (by omega)))))
    go_ret
    exact ⟨rfl, HB.out⟩
end Go.Proofs.Ytmjnelkeiogdcaa
