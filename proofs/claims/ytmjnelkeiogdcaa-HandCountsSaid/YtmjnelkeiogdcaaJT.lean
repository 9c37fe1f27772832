/- Walks of the laws' helpers: walk. -/
import Derived.Test.YtmjnelkeiogdcaaJR
import Derived.Test.YtmjnelkeiogdcaaPD
set_option linter.unusedSimpArgs false
set_option linter.unusedVariables false
namespace Go.Proofs.Ytmjnelkeiogdcaa
open Go Go.RowKit Go.Shelf
set_option maxRecDepth 100000

/-- The choice of a step. -/
def chU (ch : List Nat) (i n : Nat) : Nat := if ch = [] then 0 else ch.getD (i % ch.length) 0 % n
/-- The course that some choices make. -/
def walkN (H : HV) (ch : List Nat) : Nat → St → Nat → List Nat
  | 0, _, _ => []
  | k + 1, s, i => match pick (brs H s) (chU ch i (chN H s)) with | some t => chU ch i (chN H s) :: walkN H ch k t (i + 1) | none => []
theorem chU_lt (ch : List Nat) (i n : Nat) (h : 0 < n) : chU ch i n < n := by
  unfold chU
  split
  · exact h
  · exact Nat.mod_lt _ h
theorem pick_yes : ∀ (L : List (Nat × St)) (c : Nat), c < sumW L → ∃ t, pick L c = some t
  | [], c, h => by simp [sumW] at h
  | x :: L, c, h => by
    unfold pick
    split
    · exact ⟨_, rfl⟩
    · exact pick_yes L _ (by simp [sumW] at h ⊢; omega)
theorem walk_step (H : HV) (ch : List Nat) (s : St) (i : Nat) (hF : Fit H s) (hL : Last H s) (hd : dep s ≠ 0) : ∃ t, pick (brs H s) (chU ch i (chN H s)) = some t ∧ Fit H t ∧ Last H t ∧ dep t + 1 = dep s ∧ walkN H ch (dep s) s i = chU ch i (chN H s) :: walkN H ch (dep t) t (i + 1) := by
  obtain ⟨t, ht⟩ := pick_yes (brs H s) (chU ch i (chN H s)) (chU_lt _ _ _ (hL.self hd))
  obtain ⟨w, hw⟩ := pick_mem _ _ _ ht
  have hst := step_fit H s hF _ hw
  have hdt : dep t + 1 = dep s := hst.2
  refine ⟨t, ht, hst.1, hL.step hw, hdt, ?_⟩
  obtain ⟨k, hk⟩ : ∃ k, dep s = k + 1 := ⟨dep s - 1, by omega⟩
  rw [hk, walkN, ht, show dep t = k by omega]
theorem walk_run (H : HV) (ch : List Nat) : ∀ (k : Nat) (s : St) (i : Nat), dep s = k → Fit H s → Last H s → ∃ t, runN H s (walkN H ch k s i) = some t ∧ dep t = 0 ∧ Fit H t ∧ Last H t ∧ (walkN H ch k s i).length = k
  | 0, s, i, hd, hF, hL => ⟨s, rfl, hd, hF, hL, rfl⟩
  | k + 1, s, i, hd, hF, hL => by
    obtain ⟨t, ht, hFt, hLt, hdt, hw⟩ := walk_step H ch s i hF hL (by omega)
    obtain ⟨u, h1, h2, h3, h4, h5⟩ := walk_run H ch k t (i + 1) (by omega) hFt hLt
    rw [hd, show dep t = k by omega] at hw
    refine ⟨u, ?_, h2, h3, h4, ?_⟩
    · rw [hw, runN, ht]; exact h1
    · rw [hw, List.length_cons, h5]
/-- Small numbers that came in. -/
def ReadsU (w : World) (v : Value) (xs : List Nat) : Prop :=
  (xs = [] ∧ v = .slice none 0 0) ∨ (∃ (a : Addr) (c : Nat), v = .slice (some a) xs.length c ∧ (0 < xs.length → a.block < w.heap.size) ∧ ∀ k (h : k < xs.length), xs[k] < 65536 ∧ w.cell? (a.add k) = some (.int .u16 ((xs[k] : Nat) : Int)))
theorem ReadsU.below {w w' : World} {v : Value} {xs : List Nat} (h : ReadsU w v xs) (hb : Below w.heap.size w w') : ReadsU w' v xs := by
  rcases h with h | ⟨a, c, h1, h2, h3⟩
  · exact .inl h
  · refine .inr ⟨a, c, h1, fun h => Nat.lt_of_lt_of_le (h2 h) hb.size, fun k hk => ?_⟩
    have hl := h2 (by omega)
    rw [hb.cell (by rw [add_block]; exact hl)]
    exact h3 k hk
theorem ReadsU.cell {w : World} {v : Value} {xs : List Nat} (h : ReadsU w v xs) (k : Nat) (hk : k < xs.length) : ∃ g o c, v = .slice (some ⟨g, o, none⟩) xs.length c ∧ xs[k] < 65536 ∧ w.cell? ⟨g, o + k, none⟩ = some (.int .u16 ((xs[k] : Nat) : Int)) := by
  rcases h with ⟨e, _⟩ | ⟨a, c, h1, h2, h3⟩
  · rw [e] at hk; simp at hk
  · obtain ⟨b, off, spot⟩ := a
    have hspot : spot = none := by simpa [Addr.add] using World.cell?_spot (h3 0 (by omega)).2
    subst hspot
    have h := h3 k hk
    rw [show (⟨b, off, none⟩ : Addr).add k = ⟨b, off + k, none⟩ by unfold Addr.add; split <;> simp_all] at h
    exact ⟨b, off, c, h1, h⟩
theorem ReadsU.form {w : World} {v : Value} {xs : List Nat} (h : ReadsU w v xs) : ∃ p c, v = .slice p xs.length c := by
  rcases h with ⟨rfl, rfl⟩ | ⟨a, c, h1, _⟩
  · exact ⟨none, 0, rfl⟩
  · exact ⟨_, _, h1⟩
theorem Ints.drew {w : World} {b : Nat} {v : Value} {xs : List Int} (h : Ints w b v xs) : Ints w.drew b v xs := h
theorem fol_snoc (H : HV) : ∀ (L : List Int) (s u t : St) (c : Nat) {i : Nat}, folN H s L i = .ok u → pick (brs H u) c = some t → folN H s (L ++ [((c : Nat) : Int)]) i = .ok t
  | [], s, u, t, c, i, h, hp => by
    simp only [folN, FR.ok.injEq] at h
    subst h
    have hn : ¬ chN H s = 0 := by have := pick_lt _ _ _ hp; rw [← chN_sum] at this; omega
    show folN H s [((c : Nat) : Int)] i = _
    rw [folN, if_neg hn, if_neg (by omega), Int.toNat_natCast, hp]
    rfl
  | x :: L, s, u, t, c, i, h, hp => by
    rw [List.cons_append]
    unfold folN at h ⊢
    split at h
    · cases h
    · rename_i h0
      rw [if_neg h0]
      split at h
      · cases h
      · rename_i h1
        rw [if_neg h1]
        split at h
        · cases h
        · rename_i v hv
          exact fol_snoc H L v u t c h hp
set_option maxHeartbeats 4000000 in
theorem walk_c (H : HV) (hV : Val H) (fv cv : Value) (ch : List Nat) (v : Value) (w : World) (hrf : ReadsF w fv (rawOf H).faces) (hrc : ReadsA w cv (rawOf H).cards) (hch : ReadsU w v ch) (hcl : ch.length ≤ 1000000) :
    Calls Try.prog 28 #[.agg (handA H fv cv), v] w fun e w' => ∃ u, e = .returned u ∧ Ints w' w.heap.size u ((walkN H ch (dep (beginS H)) (beginS H) 0).map fun c => ((c : Nat) : Int)) ∧ Below w.heap.size w w' := by
  have hx := heap_alloc_new w (.cells (handA H fv cv) 26)
  have hb : Below w.heap.size w (w.alloc (.cells (handA H fv cv) 26)) := (Below.refl _ _).alloc (Nat.le_refl _) _
  have HX := hid hx
  have HB := hid hb
  have HRF := hid hrf
  have HRC := hid hrc
  have HCH := hid hch
  have hF0 := begin_fit H hV.hand.ok
  have hL0 := hV.hand.last
  have hfl := hV.faces
  have hd8 := dep_le hF0
  have HNX := hid (fun (xs : List Nat) (hxs : xs.length ≤ 8) (fv' cv' v' : Value) (W : World) (hR : RawAt W W.heap.size (rawOf H) fv' cv') (hC : CrsAt W W.heap.size v' (xs.map fun c => ((c : Nat) : Int))) (hle : ∀ c ∈ xs, c ≤ 20000) =>
    Next_yes W.heap.size W.heap.size H hV fv' cv' v' _ (by simp; omega) (fun c hc => by obtain ⟨x, hx, rfl⟩ := List.mem_map.1 hc; have := hle x hx; omega) W hR hC)
  have HOW := hid (fun (W : World) h1 h2 => own_c (rawOf H) fv cv W h1 h2 (by simp [rawOf]; omega) (by simp [rawOf]; omega))
  obtain ⟨pc, cc, hv⟩ := hch.form
  obtain ⟨s0, hs0⟩ : ∃ s0, beginS H = s0 := ⟨_, rfl⟩
  rw [hs0] at hF0 hL0 hd8 HNX ⊢
  obtain ⟨cl, hcl'⟩ : ∃ cl, ch.length = cl := ⟨_, rfl⟩
  have HCL := hid hcl'
  rw [hcl'] at hv hcl
  subst hv
  clear hx hb hrf hrc hch hV hfl hs0 hcl'
  go_enter Try.func28, Try.ntmps28
  go_wp2_with fail
  have hmd := Ints.made (w.alloc (.cells (handA H fv cv) 26)) (w.heap.size + 1) (by simp)
  simp only [World.size_alloc] at hmd
  have hb1 : Below w.heap.size w ((w.alloc (.cells (handA H fv cv) 26)).alloc (.cells #[] 3)) := HB.out.alloc HB.out.size _
  have HX1 := hid (show ((w.alloc (.cells (handA H fv cv) 26)).alloc (.cells #[] 3)).heap[w.heap.size]? = some (.cells (handA H fv cv) 26 (0, 0)) from (Below.heap_alloc _ _ _ (by simp)).trans HX.out)
  have HB1 := hid hb1
  have HM1 := hid hmd
  clear hmd hb1 HX HB
  obtain ⟨g, hg⟩ : ∃ g, w.heap.size = g := ⟨_, rfl⟩
  rw [hg] at HX1 HB1 HM1
  rw [hg]
  obtain ⟨Z, hZ⟩ : ∃ Z, dep s0 = Z := ⟨_, rfl⟩
  go_loopw [5, 6] (fun cvv ix wr => ∃ (s : St) (xs : List Nat), Ints wr (g + 1) cvv (xs.map fun c => ((c : Nat) : Int)) ∧ ix = .int .i64 ((xs.length : Nat) : Int) ∧ Fit H s ∧ Last H s ∧ xs.length + dep s = Z ∧ folN H s0 (xs.map fun c => ((c : Nat) : Int)) 0 = .ok s ∧ walkN H ch Z s0 0 = xs ++ walkN H ch (dep s) s xs.length ∧ (∀ c ∈ xs, c ≤ 20000) ∧ wr.heap[g]? = some (.cells (handA H fv cv) 26 (0, 0)) ∧ Below g w wr) (fun _ ix _ => 12 - (intOf ix).toNat)
  case atStart => exact ⟨s0, [], HM1.out, rfl, hF0, hL0, by simp [hZ], rfl, by rw [hZ]; rfl, by simp, HX1.out, HB1.out⟩
  case round =>
    clear HX1 HB1 HM1
    obtain ⟨s, xs, hown, rfl, hF, hL, hlen, hfol, hwk, hle, hx, hb⟩ := hrel
    have hxl : xs.length ≤ 8 := by omega
    have hi12 : decide (((xs.length : Nat) : Int) < 12) = true := decide_eq_true (by omega)
    have hi12' : ((xs.length : Nat) : Int) < 12 := by omega
    have HX := hid hx
    have HB := hid hb
    have HOWN := hid hown
    have HFOL := hid hfol
    have HWK := hid hwk
    have HLE := hid hle
    obtain ⟨pv, nv, kv, hcv⟩ := hown.slice
    subst hcv
    clear hx hb hown hfol hwk hle
    have hxx : (xs.map fun c => ((c : Nat) : Int)).length < 1000000000 := by rw [List.length_map]; omega
    by_cases hd : dep s = 0
    · have hch0 : chN H s = 0 := by unfold chN; rw [dep_zero hF hd]; rfl
      have hWK := HWK.out
      rw [hd, walkN, List.append_nil] at hWK
      go_wp2_with (first
        | (refine wpList_value rfl (by intro c hc; cases hc) (.agg (handA H fv cv)) (exec_ldhand rfl rfl HX.out) ?_)
        | (go_at_call 15; refine (HOW.out _ (HRF.out.below (by rw [hg]; exact HB.out)) (HRC.out.below (by rw [hg]; exact HB.out))).mono ?_; rintro e w1 ⟨f1, c1, rfl, hf1, hc1, hb1⟩; have HB1 := hid (HB.out.trans (hb1.mono (by have := heap_lt HX.out; omega))); have HOWN1 := hid (HOWN.out.below hb1))
        | (go_at_call 25; refine (ints_c _ (xs.map fun c => ((c : Nat) : Int)) _ HOWN1.out.readsA hxx).mono ?_; rintro e w2 ⟨v2, rfl, hv2, hb2⟩; have HB2 := hid (HB1.out.trans (hb2.mono (by have := HB1.out.size; omega))); have HOWN2 := hid (HOWN1.out.below hb2))
        | (go_at_call 32; refine (HNX.out xs hxl f1 c1 v2 w2 (RawAt.came (hf1.reads.below hb2) (hc1.readsA.below hb2)) (CrsAt.came hv2.readsA) HLE.out).mono ?_; rintro e w3 ⟨rfl, hb3⟩; rw [HFOL.out]; simp only [nextV, hch0]; have HB3 := hid (HB2.out.trans (hb3.mono (by have := HB2.out.size; omega))); have HOWN3 := hid (HOWN2.out.below hb3)))
      go_ret
      exact ⟨_, rfl, by rw [hZ, hWK]; exact HOWN3.out.mono (by omega), by rw [hg]; exact HB3.out⟩
    · obtain ⟨t, ht1, ht2, ht3, ht4, ht5⟩ := walk_step H ch s xs.length hF hL hd
      have hn0 : 0 < chN H s := hL.self hd
      have hn1 := brs_small H s hF
      have hcU : chU ch xs.length (chN H s) = chU ch xs.length (chN H s) := rfl
      obtain ⟨n, hn⟩ : ∃ n, chN H s = n := ⟨_, rfl⟩
      rw [hn] at ht1 ht5 hn0 hn1 hcU
      have HST := hid (show pick (brs H s) (chU ch xs.length n) = some t ∧ Fit H t ∧ Last H t ∧ dep t + 1 = dep s ∧ walkN H ch (dep s) s xs.length = chU ch xs.length n :: walkN H ch (dep t) t (xs.length + 1) from ⟨ht1, ht2, ht3, ht4, ht5⟩)
      have hnl : decide (((n : Nat) : Int) < 0) = false := decide_eq_false (by omega)
      have hnl' : ¬ ((n : Nat) : Int) < 0 := by omega
      have hne : (((n : Nat) : Int) == 0) = false := by simp; omega
      clear ht1 ht2 ht3 ht4 ht5
      go_upto_region 11 with (first
        | (refine wpList_value rfl (by intro c hc; cases hc) (.agg (handA H fv cv)) (exec_ldhand rfl rfl HX.out) ?_)
        | (go_at_call 15; refine (HOW.out _ (HRF.out.below (by rw [hg]; exact HB.out)) (HRC.out.below (by rw [hg]; exact HB.out))).mono ?_; rintro e w1 ⟨f1, c1, rfl, hf1, hc1, hb1⟩; have HB1 := hid (HB.out.trans (hb1.mono (by have := heap_lt HX.out; omega))); have HOWN1 := hid (HOWN.out.below hb1); have HX1 := hid (heap_below hb1 HX.out (heap_lt HX.out)))
        | (go_at_call 25; refine (ints_c _ (xs.map fun c => ((c : Nat) : Int)) _ HOWN1.out.readsA hxx).mono ?_; rintro e w2 ⟨v2, rfl, hv2, hb2⟩; have HB2 := hid (HB1.out.trans (hb2.mono (by have := HB1.out.size; omega))); have HOWN2 := hid (HOWN1.out.below hb2); have HX2 := hid (heap_below hb2 HX1.out (heap_lt HX1.out)))
        | (go_at_call 32; refine (HNX.out xs hxl f1 c1 v2 w2 (RawAt.came (hf1.reads.below hb2) (hc1.readsA.below hb2)) (CrsAt.came hv2.readsA) HLE.out).mono ?_; rintro e w3 ⟨rfl, hb3⟩; rw [HFOL.out]; simp only [nextV, hn]; have HB3 := hid (HB2.out.trans (hb3.mono (by have := HB2.out.size; omega))); have HOWN3 := hid (HOWN2.out.below hb3); have HX3 := hid (heap_below hb3 HX2.out (heap_lt HX2.out)); clear hf1 hc1 hv2 hb1 hb2 hb3))
      clear HX HB HOWN HX1 HX2 HB1 HB2 HOWN1 HOWN2
      rcases Nat.eq_zero_or_pos cl with hc0 | hcp
      · subst hc0
        have hnil : ch = [] := List.eq_nil_of_length_eq_zero HCL.out
        have hcU : chU ch xs.length n = 0 := by unfold chU; rw [if_pos hnil]
        have hcn : 0 < n := by rw [← hcU]; exact chU_lt _ _ _ hn0
        go_upto_region 13 with fail
        have hbL : Below w3.heap.size w3 (w3.alloc (.cells #[.int .i64 ((0 : Nat) : Int)] 3)) := (Below.refl _ _).alloc (Nat.le_refl _) _
        have hown4 := HOWN3.out.below hbL
        have hcl4 : (w3.alloc (.cells #[.int .i64 ((0 : Nat) : Int)] 3)).cell? ⟨w3.heap.size, 0, none⟩ = some (.int .i64 ((0 : Nat) : Int)) := Boxed.cell (show Boxed _ _ 3 _ from heap_alloc_new w3 _)
        have HB4 := hid (HB3.out.trans (hbL.mono (by have := heap_lt HX3.out; omega)))
        have HX4 := hid (heap_below hbL HX3.out (heap_lt HX3.out))
        have HSZ := hid (show g + 1 ≤ (w3.alloc (.cells #[.int .i64 ((0 : Nat) : Int)] 3)).heap.size from heap_lt HX4.out)
        have H4 := hid (show _ ∧ _ from ⟨hown4, hcl4⟩)
        clear hbL hown4 hcl4
        go_wp2_with (refine wp_append_int rfl (.tmp 47) (.tmp 49) rfl (g + 1) _ _ rfl H4.out.1 ((0 : Nat) : Int) w3.heap.size 1 rfl H4.out.2 (by rw [List.length_map]; omega) HSZ.out ?_; intro v5 w5 hv5 hg5)
        go_roundw
        case rel =>
          refine ⟨t, xs ++ [0], by rw [List.map_append]; exact hv5, by rw [List.length_append]; go_num, HST.out.2.1, HST.out.2.2.1, by rw [List.length_append]; simp only [List.length_cons, List.length_nil]; have := HST.out.2.2.2.1; omega, ?_, ?_, ?_, grown_heap hg5 H4.out.1 HX4.out (by omega), HB4.out.grown hg5 (by have := HSZ.out; omega) (fun k hk => by have := (H4.out.1.own k hk).1; omega)⟩
          · rw [List.map_append]
            exact fol_snoc H _ s0 s t 0 HFOL.out (by rw [← hcU]; exact HST.out.1)
          · rw [HWK.out, HST.out.2.2.2.2, hcU]; simp
          · intro c hc
            rcases List.mem_append.1 hc with hc | hc
            · exact HLE.out c hc
            · have : c = 0 := by simpa using hc
              omega
        case measure => simp only [intOf]; omega
      · have hcp' : decide ((0 : Int) < ((cl : Nat) : Int)) = true := decide_eq_true (by omega)
        have hcp'' : (0 : Int) < ((cl : Nat) : Int) := by omega
        have hcnil : ¬ ch = [] := fun h => by have := HCL.out; rw [h] at this; simp at this; omega
        obtain ⟨r, hr⟩ : ∃ r, xs.length % cl = r := ⟨_, rfl⟩
        have hrl : r < cl := hr ▸ Nat.mod_lt _ hcp
        have hr1 : ((xs.length : Nat) : Int) % ((cl : Nat) : Int) = ((r : Nat) : Int) := by rw [← hr]; simp
        have hrw : IntKind.i64.wrap ((r : Nat) : Int) = ((r : Nat) : Int) := IntWalk.i64_in _ (by omega)
        have hcl0 : ¬ cl = 0 := by omega
        obtain ⟨g0, o, c0, e, hx16, hcell⟩ := (HCH.out.below (hg ▸ HB3.out)).cell r (by rw [HCL.out]; exact hrl)
        injection e with e1 e2 e3
        subst e1
        subst e3
        clear e2
        obtain ⟨x, hx⟩ : ∃ x, ch[r]'(by rw [HCL.out]; exact hrl) = x := ⟨_, rfl⟩
        rw [hx] at hx16 hcell
        have hcU : chU ch xs.length n = x % n := by
          unfold chU
          rw [if_neg hcnil, HCL.out, hr, List.getD_eq_getElem?_getD, List.getElem?_eq_getElem (by rw [HCL.out]; exact hrl), Option.getD_some, hx]
        have hxw : IntKind.i64.wrap ((x : Nat) : Int) = ((x : Nat) : Int) := IntWalk.i64_in _ (by omega)
        obtain ⟨y, hy⟩ : ∃ y, x % n = y := ⟨_, rfl⟩
        rw [hy] at hcU
        have hy1 : ((x : Nat) : Int) % ((n : Nat) : Int) = ((y : Nat) : Int) := by rw [← hy]; simp
        have hyn : y < n := hy ▸ Nat.mod_lt _ hn0
        have hyw : IntKind.i64.wrap ((y : Nat) : Int) = ((y : Nat) : Int) := IntWalk.i64_in _ (by omega)
        have hn00 : ¬ n = 0 := by omega
        have hrl' : ((r : Nat) : Int) < ((cl : Nat) : Int) := by omega
        have hr0 : (0 : Int) ≤ ((r : Nat) : Int) := by omega
        clear hr hx hy
        have hcn : y < n := by rw [← hcU]; exact chU_lt _ _ _ hn0
        go_upto_region 13 with fail
        have hbL : Below w3.heap.size w3 (w3.alloc (.cells #[.int .i64 ((y : Nat) : Int)] 3)) := (Below.refl _ _).alloc (Nat.le_refl _) _
        have hown4 := HOWN3.out.below hbL
        have hcl4 : (w3.alloc (.cells #[.int .i64 ((y : Nat) : Int)] 3)).cell? ⟨w3.heap.size, 0, none⟩ = some (.int .i64 ((y : Nat) : Int)) := Boxed.cell (show Boxed _ _ 3 _ from heap_alloc_new w3 _)
        have HB4 := hid (HB3.out.trans (hbL.mono (by have := heap_lt HX3.out; omega)))
        have HX4 := hid (heap_below hbL HX3.out (heap_lt HX3.out))
        have HSZ := hid (show g + 1 ≤ (w3.alloc (.cells #[.int .i64 ((y : Nat) : Int)] 3)).heap.size from heap_lt HX4.out)
        have H4 := hid (show _ ∧ _ from ⟨hown4, hcl4⟩)
        clear hbL hown4 hcl4
        go_wp2_with (refine wp_append_int rfl (.tmp 47) (.tmp 49) rfl (g + 1) _ _ rfl H4.out.1 ((y : Nat) : Int) w3.heap.size 1 rfl H4.out.2 (by rw [List.length_map]; omega) HSZ.out ?_; intro v5 w5 hv5 hg5)
        go_roundw
        case rel =>
          refine ⟨t, xs ++ [y], by rw [List.map_append]; exact hv5, by rw [List.length_append]; go_num, HST.out.2.1, HST.out.2.2.1, by rw [List.length_append]; simp only [List.length_cons, List.length_nil]; have := HST.out.2.2.2.1; omega, ?_, ?_, ?_, grown_heap hg5 H4.out.1 HX4.out (by omega), HB4.out.grown hg5 (by have := HSZ.out; omega) (fun k hk => by have := (H4.out.1.own k hk).1; omega)⟩
          · rw [List.map_append]
            exact fol_snoc H _ s0 s t y HFOL.out (by rw [← hcU]; exact HST.out.1)
          · rw [HWK.out, HST.out.2.2.2.2, hcU]; simp
          · intro c hc
            rcases List.mem_append.1 hc with hc | hc
            · exact HLE.out c hc
            · have : c = y := by simpa using hc
              omega
        case measure => simp only [intOf]; omega
end Go.Proofs.Ytmjnelkeiogdcaa
/- What the laws need of courses, in plain Lean; a slice of a list of the call's own. -/
namespace Go.Proofs.Ytmjnelkeiogdcaa
open Go Go.RowKit Go.Shelf
set_option maxRecDepth 100000

theorem fol_long (H : HV) : ∀ (L : List Int) (s u : St) (c : Int) (i : Nat), folN H s L i = .ok u → chN H u = 0 → folN H s (L ++ [c]) i = .bad (i + L.length) 5
  | [], s, u, c, i, h, h0 => by
    simp only [folN, FR.ok.injEq] at h
    subst h
    show folN H s [c] i = _
    rw [folN, if_pos h0]
    rfl
  | x :: L, s, u, c, i, h, h0 => by
    rw [List.cons_append]
    unfold folN at h ⊢
    split at h
    · cases h
    · rename_i h1
      rw [if_neg h1]
      split at h
      · cases h
      · rename_i h2
        rw [if_neg h2]
        split at h
        · cases h
        · rename_i v hv
          rw [fol_long H L v u c (i + 1) h h0, List.length_cons]
          congr 1
          omega
theorem fol_refuse (H : HV) : ∀ (L : List Int) (s u : St) (c : Nat) (i : Nat), folN H s L i = .ok u → chN H u ≠ 0 → pick (brs H u) c = none → folN H s (L ++ [((c : Nat) : Int)]) i = .bad (i + L.length) 20
  | [], s, u, c, i, h, h0, hp => by
    simp only [folN, FR.ok.injEq] at h
    subst h
    show folN H s [((c : Nat) : Int)] i = _
    rw [folN, if_neg h0, if_neg (by omega), Int.toNat_natCast, hp]
    rfl
  | x :: L, s, u, c, i, h, h0, hp => by
    rw [List.cons_append]
    unfold folN at h ⊢
    split at h
    · cases h
    · rename_i h1
      rw [if_neg h1]
      split at h
      · cases h
      · rename_i h2
        rw [if_neg h2]
        split at h
        · cases h
        · rename_i v hv
          rw [fol_refuse H L v u c (i + 1) h h0 hp, List.length_cons]
          congr 1
          omega
theorem run_split (H : HV) : ∀ (L : List Nat) (s t : St) (c : Nat), runN H s (L ++ [c]) = some t → ∃ u, runN H s L = some u ∧ pick (brs H u) c = some t
  | [], s, t, c, h => by
    simp only [List.nil_append, runN] at h
    cases hp : pick (brs H s) c with
    | none => rw [hp] at h; cases h
    | some v => rw [hp] at h; exact ⟨s, rfl, hp.trans h⟩
  | x :: L, s, t, c, h => by
    rw [List.cons_append, runN] at h
    cases hp : pick (brs H s) x with
    | none => rw [hp] at h; cases h
    | some v =>
      rw [hp] at h
      obtain ⟨u, h1, h2⟩ := run_split H L v t c h
      exact ⟨u, by rw [runN, hp]; exact h1, h2⟩
theorem run_reachN (H : HV) (s0 : St) : ∀ (L : List Nat) (s t : St) (k : Nat), Reach H s0 k s → runN H s L = some t → Reach H s0 (k + L.length) t
  | [], s, t, k, hr, h => by simp only [runN, Option.some.injEq] at h; subst h; exact hr
  | c :: L, s, t, k, hr, h => by
    rw [runN] at h
    cases hp : pick (brs H s) c with
    | none => rw [hp] at h; cases h
    | some v =>
      rw [hp] at h
      have := run_reachN H s0 L v t (k + 1) ⟨s, hr, pick_mem _ _ _ hp⟩ h
      rwa [show k + 1 + L.length = k + (c :: L).length by simp; omega] at this
/-- What is so of a whole course. -/
theorem course_facts (H : HV) (hO : Okh H) (hL : Last H (beginS H)) (xs : List Nat) (t : St) (hr : runN H (beginS H) xs = some t) (hd : dep t = 0) (hl : xs.length = dep (beginS H)) (h1 : 1 ≤ dep (beginS H)) :
    fulN H (beginS H) (xs.map fun c => ((c : Nat) : Int)) = .ok t ∧ 0 ≤ outN H t ∧ outN H t < ((outsN H : Nat) : Int) ∧
    fulN H (beginS H) ((xs.map fun c => ((c : Nat) : Int)) ++ [0]) = .bad xs.length 5 ∧
    ∃ (ys : List Nat) (c n : Nat) (u : St), xs = ys ++ [c] ∧ c < n ∧ n ≤ 20000 ∧ folN H (beginS H) (ys.map fun c => ((c : Nat) : Int)) 0 = .ok u ∧ chN H u = n ∧
      fulN H (beginS H) ((ys.map fun c => ((c : Nat) : Int)) ++ [((n : Nat) : Int)]) = .bad ys.length 20 ∧ fulN H (beginS H) (ys.map fun c => ((c : Nat) : Int)) = .bad ys.length 7 := by
  have hF0 := begin_fit H hO
  have hrt := run_reachN H (beginS H) xs (beginS H) t 0 rfl hr
  have hFt := (reach_fit H _ hF0 _ _ hrt).1
  have hch : chN H t = 0 := by unfold chN; rw [dep_zero hFt hd]; rfl
  have hfol := (fol_run H xs (beginS H) 0 t).2 hr
  refine ⟨by unfold fulN; rw [hfol]; simp only; rw [if_pos hch], (out_range H hO _ t hrt hd).1, (out_range H hO _ t hrt hd).2, ?_, ?_⟩
  · unfold fulN
    rw [fol_long H _ _ t 0 0 hfol hch]
    simp
  · obtain ⟨ys, c, rfl⟩ : ∃ ys c, xs = ys ++ [c] := by
      rcases List.eq_nil_or_concat xs with h | ⟨ys, c, h⟩
      · rw [h] at hl; simp at hl; omega
      · exact ⟨ys, c, by rw [h]; simp⟩
    obtain ⟨u, hu, hp⟩ := run_split H ys _ t c hr
    have hlt := pick_lt _ _ _ hp
    rw [← chN_sum] at hlt
    have hru := run_reachN H (beginS H) ys (beginS H) u 0 rfl hu
    have hFu := (reach_fit H _ hF0 _ _ hru).1
    have hfu := (fol_run H ys (beginS H) 0 u).2 hu
    refine ⟨ys, c, chN H u, u, rfl, hlt, brs_small H u hFu, hfu, rfl, ?_, ?_⟩
    · unfold fulN
      rw [fol_refuse H _ _ u (chN H u) 0 hfu (by omega) (pick_none _ _ (by rw [← chN_sum]; omega))]
      simp
    · unfold fulN
      rw [hfu]
      simp only
      rw [if_neg (by omega)]
      simp
theorem dep_pos (H : HV) (hO : Okh H) : 1 ≤ dep (beginS H) := by
  unfold beginS
  rcases hO with ⟨hk, h1, h2, h3, h4, h5⟩ | ⟨hk, h1, h2, h3⟩ | ⟨hk, h1, h2, h3, h4, h5, h6⟩ | ⟨hk, h1, h2, h3, h4, h5⟩ | ⟨hk, h1, h2, h3⟩ <;> simp [hk, dep] <;> omega
/-- A slice of a list of the call's own. -/
theorem exec_slc {ev : Operand → Value} {o : Oper} {x y : Operand} {q n cap k : Nat} {W : World} (ho : o.op = .slice 24 x none (some y) none) (hx : ev x = .slice (some ⟨q, 0, none⟩) n cap) (hy : ev y = .int .i64 ((k : Nat) : Int)) (hk : k ≤ cap) (h0 : 0 < cap) :
    (execOp ev o).run Try.prog W = .ok (.value (.slice (some ⟨q, 0, none⟩) k cap)) W := by
  have h1 : ((k : Nat) : Int) ≤ ((cap : Nat) : Int) := by omega
  have h2 : (0 : Int) ≤ ((k : Nat) : Int) := by omega
  have h3 : ¬ cap = 0 := by omega
  simp [execOp, ho, hx, hy]
  go_simp
theorem Ints.part {W : World} {b q n cap : Nat} {L : List Int} (h : Ints W b (.slice (some ⟨q, 0, none⟩) n cap) L) (k : Nat) (hk : k ≤ L.length) : ReadsA W (.slice (some ⟨q, 0, none⟩) k cap) (L.take k) := by
  rcases h.2 with ⟨h2, _⟩ | ⟨g, cap', cur, h3, h4, h5, h6, h7, h8, h9⟩
  · cases h2
  · injection h3 with e1 e2 e3
    injection e1 with e1
    injection e1 with e1 _ _
    subst e1
    refine .inr ⟨⟨q, 0, none⟩, cap, by rw [List.length_take, Nat.min_eq_left hk], fun _ => heap_lt h5, fun j hj => ?_⟩
    rw [List.length_take] at hj
    rw [show (⟨q, 0, none⟩ : Addr).add j = ⟨q, j, none⟩ by unfold Addr.add; split <;> simp_all, cell_of_row _ _ j _ _ _ h5]
    have h10 : (cur.toList.take (L.length * 1))[j]? = (L.map (Value.int .i64))[j]? := by rw [h9]
    rw [List.getElem?_take, if_pos (by omega)] at h10
    rw [← Array.getElem?_toList, h10, List.getElem?_map, List.getElem_take, List.getElem?_eq_getElem (by omega)]
    rfl
theorem Ints.form {W : World} {b : Nat} {u : Value} {L : List Int} (h : Ints W b u L) (hn : 0 < L.length) : ∃ q cap, u = .slice (some ⟨q, 0, none⟩) L.length cap ∧ L.length ≤ cap ∧ b ≤ q := by
  rcases h.2 with ⟨_, h2⟩ | ⟨g, cap, cur, h3, h4, h5, h6, _⟩
  · omega
  · exact ⟨g, cap, h3, h6, h4⟩
end Go.Proofs.Ytmjnelkeiogdcaa
