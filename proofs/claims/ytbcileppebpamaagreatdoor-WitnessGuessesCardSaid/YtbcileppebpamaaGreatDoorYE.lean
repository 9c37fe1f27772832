/- Walks of package witness: Guess. -/
import Derived.Test.YtbcileppebpamaaGreatDoorWZ
import Derived.Test.YtbcileppebpamaaGreatDoorYD
set_option linter.unusedSimpArgs false
set_option linter.unusedVariables false
namespace Go.Proofs.YtbcileppebpamaaGreatDoor
open Go Go.RowKit Go.Shelf
set_option maxRecDepth 100000

/-- A slice of strings. -/
def ReadsT (w : World) (v : Value) (ss : List ByteArray) : Prop := (ss = [] ∧ ∃ a c, v = .slice a 0 c) ∨ ∃ g o c, v = .slice (some ⟨g, o, none⟩) ss.length c ∧ g < w.heap.size ∧ ∀ (k : Nat) x, ss[k]? = some x → w.cell? ⟨g, o + k, none⟩ = some (.string x)
theorem ReadsT.form {w : World} {v : Value} {ss : List ByteArray} (h : ReadsT w v ss) : ∃ p c, v = .slice p ss.length c := by
  rcases h with ⟨rfl, a, c, rfl⟩ | ⟨g, o, c, rfl, _⟩
  · exact ⟨_, _, rfl⟩
  · exact ⟨_, _, rfl⟩
theorem ReadsT.below {w w' : World} {v : Value} {ss : List ByteArray} (h : ReadsT w v ss) (hb : Below w.heap.size w w') : ReadsT w' v ss := by
  rcases h with h | ⟨g, o, c, h1, h2, h3⟩
  · exact .inl h
  · exact .inr ⟨g, o, c, h1, Nat.lt_of_lt_of_le h2 hb.size, fun k x hk => (hb.cell (p := ⟨g, o + k, none⟩) h2).trans (h3 k x hk)⟩
theorem ReadsT.at' {w : World} {p : Option Addr} {n c : Nat} {ss : List ByteArray} (h : ReadsT w (.slice p n c) ss) {i : Nat} {x : ByteArray} (hi : ss[i]? = some x) : ∃ b o, p = some ⟨b, o, none⟩ ∧ b < w.heap.size ∧ w.cell? ⟨b, o + i, none⟩ = some (.string x) := by
  rcases h with ⟨rfl, _⟩ | ⟨g, o, c', h1, h2, h3⟩
  · simp at hi
  · injection h1 with e1 _ _
    exact ⟨g, o, e1, h2, h3 i x hi⟩
theorem guess1_c (s : ByteArray) (hs : s.size ≤ 1000000) (w : World) : Calls Tryz.prog 38 #[.string s] w fun e w' => e = .returned (.bool (!isSaltL s.data.toList)) ∧ Below w.heap.size w w' := by
  have HS := hid (isSalt_c s hs w)
  generalize isSaltL s.data.toList = b at HS ⊢
  go_enter Tryz.func38, Tryz.ntmps38
  go_wp2_with (go_at_call 39; refine HS.out.mono ?_; rintro e w1 ⟨rfl, hb1⟩)
  go_ret
  exact ⟨rfl, hb1⟩
/-- All of them are salts. -/
theorem index_none (v : Value) (ss : List ByteArray) (w : World) (hr : ReadsT w v ss) (hl : ss.length ≤ 1000000) (hss : ∀ s ∈ ss, isSaltL s.data.toList = true) :
    Calls Tryz.prog 72 #[v, .func (.func 38) #[] #[]] w fun e w' => e = .returned (.int .i64 (-1)) ∧ Below w.heap.size w w' := by
  obtain ⟨p, c, rfl⟩ := hr.form
  obtain ⟨m, hm⟩ : ∃ m, ss.length = m := ⟨_, rfl⟩
  rw [hm] at hr hl ⊢
  have HR := hid hr
  have HM := hid hm
  have HS := hid hss
  clear hr hm hss
  go_enter Tryz.func72, Tryz.ntmps72
  go_wp2_with fail
  go_loopw [8] (fun ix wr => ∃ i : Nat, i ≤ m ∧ ix = .int .i64 ((i : Nat) : Int) ∧ Below w.heap.size w wr) (fun ix _ => m - (intOf ix).toNat)
  case atStart => exact ⟨0, by omega, rfl, Below.refl _ _⟩
  case round =>
    obtain ⟨i, hi, rfl, hb⟩ := hrel
    rcases Nat.lt_or_ge i m with hlt | hge
    · have hin : decide (((i : Nat) : Int) < ((m : Nat) : Int)) = true := decide_eq_true (by omega)
      have hin' : ((i : Nat) : Int) < ((m : Nat) : Int) := by omega
      have hi0 : (0 : Int) ≤ ((i : Nat) : Int) := by omega
      have hiw : IntKind.i64.wrap (((i : Nat) : Int) + 1) = ((i + 1 : Nat) : Int) := (IntWalk.i64_in _ (by omega)).trans (by omega)
      obtain ⟨x, hx⟩ : ∃ x, ss[i]? = some x := ⟨_, List.getElem?_eq_getElem (by rw [HM.out]; exact hlt)⟩
      obtain ⟨g, o, rfl, hg, hc⟩ := HR.out.at' hx
      have hcr : wr.cell? ⟨g, o + i, none⟩ = some (.string x) := (hb.cell (p := ⟨g, o + i, none⟩) hg).trans hc
      have hsx := HS.out x (List.mem_of_getElem? hx)
      have HG := hid (fun W => guess1_c x (size_salt x hsx) W)
      rw [hsx] at HG
      have HB := hid hb
      clear hb hx hg hc hsx
      go_wp2_with (go_at_call 38; refine (HG.out _).mono ?_; rintro e w1 ⟨rfl, hb1⟩; have HB1 := hid (HB.out.trans (hb1.mono HB.out.size)); clear hb1)
      go_roundw
      case rel => exact ⟨i + 1, by omega, rfl, HB1.out⟩
      case measure => simp only [intOf, Int.toNat_natCast]; omega
    · obtain rfl : i = m := by omega
      have hin : ¬ ((i : Nat) : Int) < ((i : Nat) : Int) := by omega
      have HB := hid hb
      clear hb
      go_wp2_with fail
      go_ret
      exact ⟨rfl, HB.out⟩
theorem contains_none (v : Value) (ss : List ByteArray) (w : World) (hr : ReadsT w v ss) (hl : ss.length ≤ 1000000) (hss : ∀ s ∈ ss, isSaltL s.data.toList = true) :
    Calls Tryz.prog 37 #[v, .func (.func 38) #[] #[]] w fun e w' => e = .returned (.bool false) ∧ Below w.heap.size w w' := by
  have HI := hid (index_none v ss w hr hl hss)
  obtain ⟨p, c, rfl⟩ := hr.form
  clear hr hss
  go_enter Tryz.func37, Tryz.ntmps37
  go_wp2_with (go_at_call 72; refine HI.out.mono ?_; rintro e w1 ⟨rfl, hb1⟩)
  go_ret
  exact ⟨rfl, hb1⟩
/-- Whether a box has a hash. -/
def hit (p : Nat) (N : Nat) (s : ByteArray) (v : Nat) : Bool := sealN ((p : Nat) : Int) ((v : Nat) : Int) s.data.toList == N
theorem results_box {fn : Func} {r q : Tmp} (h : fn.results = #[.cell r 27, .tmp q]) {tmps : Array Value} {W : World} {g : Nat} {a b : Int} {s : ByteArray} {e : Value} (hr : tmps.getD r undef = .pointer (some ⟨g, 0, none⟩)) (hq : tmps.getD q undef = e) (hg : W.heap[g]? = some (.cells #[.int .i64 a, .int .i64 b, .string s] 27 (0, 0))) : (results fn tmps).run Tryz.prog W = .ok (.tuple #[.agg #[.int .i64 a, .int .i64 b, .string s], e]) W := by
  have hl := run_loadVar_row (P := Tryz.prog) W g 27 27 _ (0, 0) _ hg Tryz.underlying27 rfl (show (Tryz.prog.info? 27).map (·.size) = some 3 by kernel_rfl)
  have hr' : tmps[r]?.getD undef = .pointer (some ⟨g, 0, none⟩) := by simpa using hr
  have hq' : tmps[q]?.getD undef = e := by simpa using hq
  simp [results, h, hr', hq', asAddr, hl]
/-- What is returned: the first box with the hash. -/
def GuessR (p b N : Nat) (ss : List ByteArray) (e : Ending) : Prop :=
  (∃ i s v, ss[i]? = some s ∧ v < b ∧ hit p N s v = true ∧ (∀ (j : Nat) (s' : ByteArray), j < i → ss[j]? = some s' → ∀ v', v' < b → hit p N s' v' = false) ∧ (∀ v', v' < v → hit p N s v' = false) ∧ e = .returned (.tuple #[.agg #[.int .i64 ((p : Nat) : Int), .int .i64 ((v : Nat) : Int), .string s], .int .i64 0])) ∨
  ((∀ s ∈ ss, ∀ v, v < b → hit p N s v = false) ∧ e = .returned (.tuple #[.agg #[.int .i64 0, .int .i64 0, .string ⟨#[]⟩], .int .i64 7]))
set_option maxHeartbeats 8000000 in
theorem Guess_run (H : ByteArray) (hH : isHashL H.data.toList = true) (p b : Nat) (hp : 1 ≤ p ∧ p ≤ 30) (hb : 1 ≤ b ∧ b ≤ 1000000000) (u : Value) (ss : List ByteArray) (w : World) (hr : ReadsT w u ss) (hss : ∀ s ∈ ss, isSaltL s.data.toList = true) (hl : ss.length * b ≤ 100000) (L : LaidW w) :
    Calls Tryz.prog 11 #[.string H, .int .i64 ((p : Nat) : Int), .int .i64 ((b : Nat) : Int), u] w fun e w' => GuessR p b (hexV H.data.toList) ss e ∧ Below w.heap.size w w' := by
  have hml : ss.length ≤ 100000 := Nat.le_trans (Nat.le_mul_of_pos_right _ (by omega)) hl
  have hsz := size_hash H hH
  obtain ⟨N, hN⟩ : ∃ N, hexV H.data.toList = N := ⟨_, rfl⟩
  have hw1 := fun W => within_c ((p : Nat) : Int) 1 30 W
  have hw2 := fun W => within_c ((b : Nat) : Int) 1 1000000000 W
  simp only [decide_eq_true (show (1 : Int) ≤ ((p : Nat) : Int) by omega), decide_eq_true (show ((p : Nat) : Int) ≤ 30 by omega), Bool.and_self] at hw1
  simp only [decide_eq_true (show (1 : Int) ≤ ((b : Nat) : Int) by omega), decide_eq_true (show ((b : Nat) : Int) ≤ 1000000000 by omega), Bool.and_self] at hw2
  have HW1 := hid hw1
  have HW2 := hid hw2
  have HIH := hid (fun W => hH ▸ isHash_c H hsz W)
  have HPU := hid (fun W => hN ▸ pu16_c H hH W)
  have HCO := hid (fun W (hW : Below w.heap.size w W) => contains_none u ss W (hr.below hW) (by omega) hss)
  have HSE := hid (fun (v : Nat) (hv : v < b) (s : ByteArray) (hs : isSaltL s.data.toList = true) W (hW : Below w.heap.size w W) => seal_c ((p : Nat) : Int) ((v : Nat) : Int) (by omega) (by omega) s (size_salt s hs) W (L.below hW))
  obtain ⟨q, cq, rfl⟩ := hr.form
  obtain ⟨m, hm⟩ : ∃ m, ss.length = m := ⟨_, rfl⟩
  rw [hm] at hr hl hml HCO ⊢
  rw [hN]
  obtain ⟨mb, hmb⟩ : ∃ mb, m * b = mb := ⟨_, rfl⟩
  rw [hmb] at hl
  have hmw : IntKind.i64.wrap (((m : Nat) : Int) * ((b : Nat) : Int)) = ((mb : Nat) : Int) := by
    rw [← Int.natCast_mul, hmb]
    exact IntWalk.i64_in _ (by omega)
  have c1 : decide ((100000 : Int) < ((mb : Nat) : Int)) = false := decide_eq_false (by omega)
  have c2 : decide (100000 < mb) = false := decide_eq_false (by omega)
  have hx := heap_alloc_new w (.cells #[.int .i64 0, .int .i64 0, .string ⟨#[]⟩] 27)
  have hal : Below w.heap.size w (w.alloc (.cells #[.int .i64 0, .int .i64 0, .string ⟨#[]⟩] 27)) := (Below.refl _ _).alloc (Nat.le_refl _) _
  have HX := hid (And.intro hx hal)
  have HR := hid hr
  have HM := hid (And.intro hm hmb)
  have HS := hid hss
  have FL := hid trivial
  have hlt := heap_lt hx
  clear hw1 hw2 hH hN hr hm hmb hss hx hal L
  go_enter Tryz.func11, Tryz.ntmps11
  go_upto_region 1 with fail
  generalize w.alloc (.cells #[.int .i64 0, .int .i64 0, .string ⟨#[]⟩] 27) = W0 at HX hlt ⊢
  obtain ⟨g, hg⟩ : ∃ g, w.heap.size = g := ⟨_, rfl⟩
  rw [hg] at HX HCO HSE hlt ⊢
  have HG := hid hg
  have HB0 := hid (show Below (g + 1) W0 W0 from Below.refl _ _)
  clear hg
  go_wp2_with (first
    | (go_at_call 35; refine (HIH.out _).mono ?_; rintro e w1 ⟨rfl, hb1⟩; have HB1 := hid (show Below (g + 1) W0 w1 from hb1.mono hlt); clear hb1)
    | (go_at_call 36; have hq := FL; clear hq FL; refine (HW1.out _).mono ?_; rintro e w2 ⟨rfl, rfl⟩)
    | (go_at_call 36; refine (HW2.out _).mono ?_; rintro e w2 ⟨rfl, rfl⟩)
    | (go_at_call 37; refine (HCO.out _ (HX.out.2.trans (HB1.out.mono (Nat.le_succ g)))).mono ?_; rintro e w3 ⟨rfl, hb3⟩; have HB3 := hid (HB1.out.trans (hb3.mono (Nat.le_trans hlt HB1.out.size))); clear hb3)
    | (go_at_call 40; refine (HPU.out _).mono ?_; rintro e w4 ⟨rfl, hb4⟩; have HB4 := hid (HB3.out.trans (hb4.mono (Nat.le_trans hlt HB3.out.size))); clear hb4))
  go_loopw [49] (fun ix wr => ∃ i : Nat, i ≤ m ∧ ix = .int .i64 ((i : Nat) : Int) ∧ Below (g + 1) W0 wr ∧ Aside (∀ (j : Nat) (s' : ByteArray), j < i → ss[j]? = some s' → ∀ v', v' < b → hit p N s' v' = false)) (fun ix _ => m - (intOf ix).toNat)
  case atStart => exact ⟨0, by omega, rfl, HB4.out, fun j s' h => absurd h (by omega)⟩
  case round =>
    clear HB4 HB1 HB3 HB0
    obtain ⟨i, hi, rfl, hb1, A⟩ := hrel
    rcases Nat.lt_or_ge i m with hlti | hge
    · have hin : decide (((i : Nat) : Int) < ((m : Nat) : Int)) = true := decide_eq_true (by omega)
      have hin' : ((i : Nat) : Int) < ((m : Nat) : Int) := by omega
      have hi0 : (0 : Int) ≤ ((i : Nat) : Int) := by omega
      have hiw : IntKind.i64.wrap (((i : Nat) : Int) + 1) = ((i + 1 : Nat) : Int) := (IntWalk.i64_in _ (by omega)).trans (by omega)
      obtain ⟨s, hs⟩ : ∃ x, ss[i]? = some x := ⟨_, List.getElem?_eq_getElem (by rw [HM.out.1]; exact hlti)⟩
      obtain ⟨bk, o, hqe, hbk, hc⟩ := HR.out.at' hs
      have hcr : wr.cell? ⟨bk, o + i, none⟩ = some (.string s) := ((HX.out.2.trans (hb1.mono (Nat.le_succ g))).cell (p := ⟨bk, o + i, none⟩) (HG.out ▸ hbk)).trans hc
      have hsx := HS.out s (List.mem_of_getElem? hs)
      have HSV := hid (fun v hv W hW => HSE.out v hv s hsx W hW)
      have HSI := hid (And.intro hs hqe)
      have HBI := hid hb1
      have HAI := hid A
      subst hqe
      clear hs hc hsx hb1 A hbk
      go_wp2_with fail
      go_loopw [54] (fun ix wr => ∃ v : Nat, v ≤ b ∧ ix = .int .i64 ((v : Nat) : Int) ∧ Below (g + 1) W0 wr ∧ Aside (∀ v', v' < v → hit p N s v' = false)) (fun ix _ => b - (intOf ix).toNat)
      case atStart => exact ⟨0, by omega, rfl, HBI.out, fun v' h => absurd h (by omega)⟩
      case round =>
        clear HBI
        obtain ⟨v, hv, rfl, hb2, A2⟩ := hrel
        rcases Nat.lt_or_ge v b with hltv | hgev
        · have hinv : decide (((v : Nat) : Int) < ((b : Nat) : Int)) = true := decide_eq_true (by omega)
          have hinv' : ((v : Nat) : Int) < ((b : Nat) : Int) := by omega
          have hvw : IntKind.i64.wrap (((v : Nat) : Int) + 1) = ((v + 1 : Nat) : Int) := (IntWalk.i64_in _ (by omega)).trans (by omega)
          have hnw := heap_alloc_new wr (.cells #[.int .i64 ((p : Nat) : Int), .int .i64 ((v : Nat) : Int), .string s] 27)
          have hb3 : Below (g + 1) W0 (wr.alloc (.cells #[.int .i64 ((p : Nat) : Int), .int .i64 ((v : Nat) : Int), .string s] 27)) := hb2.alloc (Nat.le_trans hlt hb2.size) _
          have HA2 := hid A2
          clear hb2 A2
          go_upto_region 17 with fail
          generalize wr.alloc (.cells #[.int .i64 ((p : Nat) : Int), .int .i64 ((v : Nat) : Int), .string s] 27) = w5 at hnw hb3 ⊢
          obtain ⟨z, hz⟩ : ∃ z, wr.heap.size = z := ⟨_, rfl⟩
          rw [hz] at hnw ⊢
          clear hz
          have f0 := cell_of_row _ _ 0 _ _ _ hnw
          have f1 := cell_of_row _ _ 1 _ _ _ hnw
          have f2 := cell_of_row _ _ 2 _ _ _ hnw
          have HS5 := hid (HSV.out v hltv w5 (HX.out.2.trans (hb3.mono (Nat.le_succ g))))
          have HN5 := hid (And.intro hnw hb3)
          obtain ⟨x, hx⟩ : ∃ x, sealN ((p : Nat) : Int) ((v : Nat) : Int) s.data.toList = x := ⟨_, rfl⟩
          rw [hx] at HS5
          clear hnw hb3
          by_cases hxN : x = N
          · have heq : (((x : Nat) : Int) == ((N : Nat) : Int)) = true := by simp [hxN]
            have hhit : hit p N s v = true := by rw [hit, hx, hxN]; simp
            have HHT := hid hhit
            clear hxN hhit hx
            go_upto_region 18 with (go_at_call 41; refine HS5.out.mono ?_; rintro e w6 ⟨rfl, hb6⟩; have hn6 := heap_below hb6 HN5.out.1 (heap_lt HN5.out.1); have a0 := cell_of_row _ _ 0 _ _ _ hn6; have a1 := cell_of_row _ _ 1 _ _ _ hn6; have a2 := cell_of_row _ _ 2 _ _ _ hn6; have HB6 := hid (HN5.out.2.trans (hb6.mono (Nat.le_trans hlt HN5.out.2.size))); clear hn6 hb6)
            have hg6 := heap_below HB6.out HX.out.1 (Nat.lt_succ_self g)
            have HG6 := hid hg6
            clear hg6
            go_wp2_with (refine wpList_store_row rfl 27 (.tmp 8) (.tmp 65) rfl g #[.int .i64 ((p : Nat) : Int), .int .i64 ((v : Nat) : Int), .string s] rfl rfl 27 _ HG6.out (show (Tryz.prog.info? 27).map (·.size) = some 3 by kernel_rfl) rfl (by simp [Value.oneCell']) ?_)
            refine bodyPost_ret (results_box Tryz.results11 rfl rfl (setRow_at HG6.out)) rfl ⟨.inl ⟨i, s, v, HSI.out.1, hltv, HHT.out, HAI.out, HA2.out, rfl⟩, ?_⟩
            rw [HG.out]
            exact (HX.out.2.trans (HB6.out.mono (Nat.le_succ g))).trans (setRow_below (Nat.le_refl g))
          · have heq : (((x : Nat) : Int) == ((N : Nat) : Int)) = false := by simp; omega
            have hhit : hit p N s v = false := by rw [hit, hx]; simpa using hxN
            have HHT := hid hhit
            clear hxN hhit hx
            go_wp2_with (go_at_call 41; refine HS5.out.mono ?_; rintro e w6 ⟨rfl, hb6⟩; have HB6 := hid (HN5.out.2.trans (hb6.mono (Nat.le_trans hlt HN5.out.2.size))); clear hb6)
            go_roundw
            case rel => exact ⟨v + 1, by omega, rfl, HB6.out, fun v' hv' => by
              rcases Nat.lt_or_ge v' v with h | h
              · exact HA2.out v' h
              · obtain rfl : v' = v := by omega
                exact HHT.out⟩
            case measure => simp only [intOf, Int.toNat_natCast]; omega
        · obtain rfl : v = b := by omega
          have hinv : ¬ ((v : Nat) : Int) < ((v : Nat) : Int) := by omega
          have HB2 := hid hb2
          have HA2 := hid A2
          clear hb2 A2
          go_wp2_with fail
          go_roundw
          case rel => exact ⟨i + 1, by omega, rfl, HB2.out, fun j s' hj hjs => by
            rcases Nat.lt_or_ge j i with h | h
            · exact HAI.out j s' h hjs
            · obtain rfl : j = i := by omega
              rw [HSI.out.1] at hjs
              cases hjs
              exact HA2.out⟩
          case measure => simp only [intOf, Int.toNat_natCast]; omega
    · obtain rfl : i = m := by omega
      have hin : ¬ ((i : Nat) : Int) < ((i : Nat) : Int) := by omega
      have hg6 := heap_below hb1 HX.out.1 (Nat.lt_succ_self g)
      have HG6 := hid hg6
      have HB6 := hid hb1
      have HA6 := hid A
      clear hg6 hb1 A
      go_wp2_with (refine wpList_store_row rfl 27 (.tmp 8) (.tmp 68) rfl g #[.int .i64 0, .int .i64 0, .string ⟨#[]⟩] rfl rfl 27 _ HG6.out (show (Tryz.prog.info? 27).map (·.size) = some 3 by kernel_rfl) rfl (by simp [Value.oneCell']) ?_)
      refine bodyPost_ret (results_box Tryz.results11 rfl rfl (setRow_at HG6.out)) rfl ⟨.inr ⟨fun s hs v hv => ?_, rfl⟩, ?_⟩
      · obtain ⟨j, hj⟩ := List.mem_iff_getElem?.1 hs
        exact HA6.out j s (by rw [← HM.out.1]; exact (List.getElem?_eq_some_iff.1 hj).1) hj v hv
      · rw [HG.out]
        exact (HX.out.2.trans (HB6.out.mono (Nat.le_succ g))).trans (setRow_below (Nat.le_refl g))
end Go.Proofs.YtbcileppebpamaaGreatDoor
