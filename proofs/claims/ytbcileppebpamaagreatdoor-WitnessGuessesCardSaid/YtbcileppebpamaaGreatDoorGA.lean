/- Guess in all cases; the reference's Hex. -/
import Derived.Test.YtbcileppebpamaaGreatDoorYE
import Derived.Test.YtbcileppebpamaaGreatDoorWY
set_option linter.unusedSimpArgs false
set_option linter.unusedVariables false
namespace Go.Proofs.YtbcileppebpamaaGreatDoor
open Go Go.RowKit Go.Shelf
set_option maxRecDepth 100000

set_option maxHeartbeats 4000000 in
theorem rhex_c (s : ByteArray) (hs : s.size ≤ 1000000) (w : World) :
    Calls Tryz.prog 42 #[.string s] w fun e w' => e = .returned (.bool (isHashL s.data.toList)) ∧ w' = w := by
  obtain ⟨l, hl⟩ : ∃ l, s.data.toList = l := ⟨_, rfl⟩
  obtain ⟨m, hm⟩ : ∃ m, s.size = m := ⟨_, rfl⟩
  have hlm : l.length = m := by rw [← hl, Array.length_toList, ← hm]; rfl
  rw [hl]
  obtain ⟨r, hr⟩ : ∃ r, isHashL l = r := ⟨_, rfl⟩
  rw [hr]
  have HR := hid hr
  have HL := hid hl
  have hr2 : (decide (m = 16) && l.all hexB) = r := by rw [← hr, isHashL, hlm]
  have HR2 := hid hr2
  by_cases h1 : m = 16
  · subst h1
    have HLM := hid hlm
    clear hr hl hs hr2 hlm
    go_enter Tryz.func42, Tryz.ntmps42
    go_wp2_with fail
    go_loopw [3] (fun ix wr => ∃ i : Nat, i ≤ 16 ∧ ix = .int .i64 ((i : Nat) : Int) ∧ (l.take i).all hexB = true ∧ wr = w) (fun ix _ => 16 - (intOf ix).toNat)
    case atStart => exact ⟨0, by omega, rfl, rfl, rfl⟩
    case round =>
      obtain ⟨i, hi, rfl, hA, rfl⟩ := hrel
      rcases Nat.lt_or_ge i 16 with hlt | hge
      · have hin : decide (((i : Nat) : Int) < 16) = true := decide_eq_true (by omega)
        have hin' : ((i : Nat) : Int) < 16 := by omega
        have hiw : IntKind.i64.wrap (((i : Nat) : Int) + 1) = ((i + 1 : Nat) : Int) := (IntWalk.i64_in _ (by omega)).trans (by omega)
        obtain ⟨cb, hcb⟩ : ∃ c, l[i]? = some c := ⟨_, List.getElem?_eq_getElem (by rw [HLM.out]; exact hlt)⟩
        obtain ⟨c, hcc⟩ : ∃ c, cb.toNat = c := ⟨_, rfl⟩
        have hc256 : c < 256 := hcc ▸ cb.toNat_lt
        have hgi : ∀ h : i < s.size, (s[i]'h).toNat = c := fun h => by
          have h2 : (s.data.toList)[i]? = some cb := by rw [HL.out]; exact hcb
          obtain ⟨h3, h4⟩ := List.getElem?_eq_some_iff.1 h2
          rw [← hcc, ← h4]
          rfl
        have h : c < 48 ∨ (48 ≤ c ∧ c ≤ 57) ∨ (58 ≤ c ∧ c ≤ 96) ∨ (97 ≤ c ∧ c ≤ 102) ∨ 103 ≤ c := by omega
        rcases h with h | h | h | h | h
        · have el97 : decide (((c : Nat) : Int) < 97) = true := decide_eq_true (by omega)
          have nl97 : decide (c < 97) = true := decide_eq_true (by omega)
          have eg102 : decide ((102 : Int) < ((c : Nat) : Int)) = false := decide_eq_false (by omega)
          have ng102 : decide (102 < c) = false := decide_eq_false (by omega)
          have el48 : decide (((c : Nat) : Int) < 48) = true := decide_eq_true (by omega)
          have nl48 : decide (c < 48) = true := decide_eq_true (by omega)
          have eg57 : decide ((57 : Int) < ((c : Nat) : Int)) = false := decide_eq_false (by omega)
          have ng57 : decide (57 < c) = false := decide_eq_false (by omega)
          have hno : isHashL l = false := by
            rw [isHashL, show l.all hexB = false from (by
              rw [Bool.eq_false_iff]
              intro ha
              have := List.all_eq_true.1 ha cb (List.mem_of_getElem? hcb)
              simp [hexB, hcc] at this
              omega), Bool.and_false]
          rw [HR.out] at hno
          subst hno
          clear hA hcb hcc h
          go_wp2_with fail
          go_ret
          exact ⟨rfl, rfl⟩
        · have el97 : decide (((c : Nat) : Int) < 97) = true := decide_eq_true (by omega)
          have nl97 : decide (c < 97) = true := decide_eq_true (by omega)
          have eg102 : decide ((102 : Int) < ((c : Nat) : Int)) = false := decide_eq_false (by omega)
          have ng102 : decide (102 < c) = false := decide_eq_false (by omega)
          have el48 : decide (((c : Nat) : Int) < 48) = false := decide_eq_false (by omega)
          have nl48 : decide (c < 48) = false := decide_eq_false (by omega)
          have eg57 : decide ((57 : Int) < ((c : Nat) : Int)) = false := decide_eq_false (by omega)
          have ng57 : decide (57 < c) = false := decide_eq_false (by omega)
          have hall : (l.take (i + 1)).all hexB = true := by
            rw [List.take_add_one, hcb, List.all_append, hA]
            simp [hexB, hcc]
            omega
          have HAL := hid hall
          clear hall hA hcb hcc h
          go_wp2_with fail
          go_roundw
          case rel => exact ⟨i + 1, by omega, rfl, HAL.out, trivial⟩
          case measure => simp only [intOf, Int.toNat_natCast]; omega
        · have el97 : decide (((c : Nat) : Int) < 97) = true := decide_eq_true (by omega)
          have nl97 : decide (c < 97) = true := decide_eq_true (by omega)
          have eg102 : decide ((102 : Int) < ((c : Nat) : Int)) = false := decide_eq_false (by omega)
          have ng102 : decide (102 < c) = false := decide_eq_false (by omega)
          have el48 : decide (((c : Nat) : Int) < 48) = false := decide_eq_false (by omega)
          have nl48 : decide (c < 48) = false := decide_eq_false (by omega)
          have eg57 : decide ((57 : Int) < ((c : Nat) : Int)) = true := decide_eq_true (by omega)
          have ng57 : decide (57 < c) = true := decide_eq_true (by omega)
          have hno : isHashL l = false := by
            rw [isHashL, show l.all hexB = false from (by
              rw [Bool.eq_false_iff]
              intro ha
              have := List.all_eq_true.1 ha cb (List.mem_of_getElem? hcb)
              simp [hexB, hcc] at this
              omega), Bool.and_false]
          rw [HR.out] at hno
          subst hno
          clear hA hcb hcc h
          go_wp2_with fail
          go_ret
          exact ⟨rfl, rfl⟩
        · have el97 : decide (((c : Nat) : Int) < 97) = false := decide_eq_false (by omega)
          have nl97 : decide (c < 97) = false := decide_eq_false (by omega)
          have eg102 : decide ((102 : Int) < ((c : Nat) : Int)) = false := decide_eq_false (by omega)
          have ng102 : decide (102 < c) = false := decide_eq_false (by omega)
          have el48 : decide (((c : Nat) : Int) < 48) = false := decide_eq_false (by omega)
          have nl48 : decide (c < 48) = false := decide_eq_false (by omega)
          have eg57 : decide ((57 : Int) < ((c : Nat) : Int)) = true := decide_eq_true (by omega)
          have ng57 : decide (57 < c) = true := decide_eq_true (by omega)
          have hall : (l.take (i + 1)).all hexB = true := by
            rw [List.take_add_one, hcb, List.all_append, hA]
            simp [hexB, hcc]
            omega
          have HAL := hid hall
          clear hall hA hcb hcc h
          go_wp2_with fail
          go_roundw
          case rel => exact ⟨i + 1, by omega, rfl, HAL.out, trivial⟩
          case measure => simp only [intOf, Int.toNat_natCast]; omega
        · have el97 : decide (((c : Nat) : Int) < 97) = false := decide_eq_false (by omega)
          have nl97 : decide (c < 97) = false := decide_eq_false (by omega)
          have eg102 : decide ((102 : Int) < ((c : Nat) : Int)) = true := decide_eq_true (by omega)
          have ng102 : decide (102 < c) = true := decide_eq_true (by omega)
          have el48 : decide (((c : Nat) : Int) < 48) = false := decide_eq_false (by omega)
          have nl48 : decide (c < 48) = false := decide_eq_false (by omega)
          have eg57 : decide ((57 : Int) < ((c : Nat) : Int)) = true := decide_eq_true (by omega)
          have ng57 : decide (57 < c) = true := decide_eq_true (by omega)
          have hno : isHashL l = false := by
            rw [isHashL, show l.all hexB = false from (by
              rw [Bool.eq_false_iff]
              intro ha
              have := List.all_eq_true.1 ha cb (List.mem_of_getElem? hcb)
              simp [hexB, hcc] at this
              omega), Bool.and_false]
          rw [HR.out] at hno
          subst hno
          clear hA hcb hcc h
          go_wp2_with fail
          go_ret
          exact ⟨rfl, rfl⟩
      · obtain rfl : i = 16 := by omega
        have hin : ¬ (16 : Int) < 16 := by omega
        rw [List.take_of_length_le (by rw [HLM.out]; exact Nat.le_refl _)] at hA
        have hr3 : r = true := by rw [← HR2.out, hA]; rfl
        subst hr3
        clear hA
        go_wp2_with fail
        go_ret
        exact ⟨rfl, rfl⟩
  · have d1 : (((m : Nat) : Int) == 16) = false := by simp; omega
    have d2 : decide (m = 16) = false := decide_eq_false h1
    have d3 : (m == 16) = false := by simp; omega
    have d4 : ((m : Nat) : Int) ≠ 16 := by omega
    have hr3 : r = false := by rw [← hr2, d2]; rfl
    subst hr3
    clear hr hl hs hr2 hlm HR HL HR2
    go_enter Tryz.func42, Tryz.ntmps42
    go_wp2_with fail
    go_ret
    exact ⟨rfl, rfl⟩
/-- One of them is no salt. -/
theorem index_some (v : Value) (ss : List ByteArray) (w : World) (hr : ReadsT w v ss) (hl : ss.length ≤ 1000000) (hsz : ∀ s ∈ ss, s.size ≤ 1000000) (hss : ¬ ∀ s ∈ ss, isSaltL s.data.toList = true) :
    Calls Tryz.prog 72 #[v, .func (.func 38) #[] #[]] w fun e w' => (∃ i : Nat, e = .returned (.int .i64 ((i : Nat) : Int))) ∧ Below w.heap.size w w' := by
  obtain ⟨p, c, rfl⟩ := hr.form
  obtain ⟨m, hm⟩ : ∃ m, ss.length = m := ⟨_, rfl⟩
  rw [hm] at hr hl ⊢
  have HR := hid hr
  have HM := hid hm
  have HS := hid hss
  have HZ := hid hsz
  clear hr hm hss hsz
  go_enter Tryz.func72, Tryz.ntmps72
  go_wp2_with fail
  go_loopw [8] (fun ix wr => ∃ i : Nat, i ≤ m ∧ ix = .int .i64 ((i : Nat) : Int) ∧ Below w.heap.size w wr ∧ Aside (∀ s ∈ ss.take i, isSaltL s.data.toList = true)) (fun ix _ => m - (intOf ix).toNat)
  case atStart => exact ⟨0, by omega, rfl, Below.refl _ _, fun s h => by simp at h⟩
  case round =>
    obtain ⟨i, hi, rfl, hb, A⟩ := hrel
    rcases Nat.lt_or_ge i m with hlt | hge
    · have hin : decide (((i : Nat) : Int) < ((m : Nat) : Int)) = true := decide_eq_true (by omega)
      have hin' : ((i : Nat) : Int) < ((m : Nat) : Int) := by omega
      have hi0 : (0 : Int) ≤ ((i : Nat) : Int) := by omega
      have hiw : IntKind.i64.wrap (((i : Nat) : Int) + 1) = ((i + 1 : Nat) : Int) := (IntWalk.i64_in _ (by omega)).trans (by omega)
      obtain ⟨x, hx⟩ : ∃ x, ss[i]? = some x := ⟨_, List.getElem?_eq_getElem (by rw [HM.out]; exact hlt)⟩
      obtain ⟨g, o, rfl, hg, hc⟩ := HR.out.at' hx
      have hcr : wr.cell? ⟨g, o + i, none⟩ = some (.string x) := (hb.cell (p := ⟨g, o + i, none⟩) hg).trans hc
      have HG := hid (fun W => guess1_c x (HZ.out x (List.mem_of_getElem? hx)) W)
      have HB := hid hb
      cases hsx : isSaltL x.data.toList with
      | true =>
        rw [hsx] at HG
        have hA2 : ∀ s ∈ ss.take (i + 1), isSaltL s.data.toList = true := fun s hs => by
          rw [List.take_add_one, hx] at hs
          rcases List.mem_append.1 hs with hs | hs
          · exact A s hs
          · simp at hs
            rw [hs]
            exact hsx
        have HA2 := hid hA2
        clear hb hx hg hc hsx A hA2
        go_wp2_with (go_at_call 38; refine (HG.out _).mono ?_; rintro e w1 ⟨rfl, hb1⟩; have HB1 := hid (HB.out.trans (hb1.mono HB.out.size)); clear hb1)
        go_roundw
        case rel => exact ⟨i + 1, by omega, rfl, HB1.out, HA2.out⟩
        case measure => simp only [intOf, Int.toNat_natCast]; omega
      | false =>
        rw [hsx] at HG
        clear hb hx hg hc hsx A
        go_wp2_with (go_at_call 38; refine (HG.out _).mono ?_; rintro e w1 ⟨rfl, hb1⟩; have HB1 := hid (HB.out.trans (hb1.mono HB.out.size)); clear hb1)
        go_ret
        exact ⟨⟨i, rfl⟩, HB1.out⟩
    · refine absurd (fun s hs => A s ?_) HS.out
      rw [List.take_of_length_le (by rw [HM.out]; exact hge)]
      exact hs
theorem contains_some (v : Value) (ss : List ByteArray) (w : World) (hr : ReadsT w v ss) (hl : ss.length ≤ 1000000) (hsz : ∀ s ∈ ss, s.size ≤ 1000000) (hss : ¬ ∀ s ∈ ss, isSaltL s.data.toList = true) :
    Calls Tryz.prog 37 #[v, .func (.func 38) #[] #[]] w fun e w' => e = .returned (.bool true) ∧ Below w.heap.size w w' := by
  have HI := hid (index_some v ss w hr hl hsz hss)
  obtain ⟨p, c, rfl⟩ := hr.form
  clear hr hss hsz
  go_enter Tryz.func37, Tryz.ntmps37
  go_wp2_with (go_at_call 72; refine HI.out.mono ?_; rintro e w1 ⟨⟨i, rfl⟩, hb1⟩; have hi0 : (0 : Int) ≤ ((i : Nat) : Int) := Int.natCast_nonneg i; have hi1 : decide ((0 : Int) ≤ ((i : Nat) : Int)) = true := decide_eq_true hi0)
  go_ret
  exact ⟨rfl, hb1⟩
/-- The first box with a hash. -/
def firstHit (p b N : Nat) : List ByteArray → Option (Nat × ByteArray)
  | [] => none
  | s :: r => match (List.range b).find? (hit p N s) with | some v => some (v, s) | none => firstHit p b N r
def gRun (p b N : Nat) (ss : List ByteArray) : Int × Int × ByteArray × Int := match firstHit p b N ss with | none => (0, 0, ⟨#[]⟩, 7) | some (v, s) => (((p : Nat) : Int), ((v : Nat) : Int), s, 0)
def gEnd (x : Int × Int × ByteArray × Int) : Ending := .returned (.tuple #[.agg #[.int .i64 x.1, .int .i64 x.2.1, .string x.2.2.1], .int .i64 x.2.2.2])
theorem firstHit_none (p b N : Nat) : ∀ ss : List ByteArray, (∀ s ∈ ss, ∀ v, v < b → hit p N s v = false) → firstHit p b N ss = none
  | [], _ => rfl
  | s :: r, h => by
    have e : (List.range b).find? (hit p N s) = none := by
      rw [List.find?_eq_none]
      intro v hv
      rw [h s List.mem_cons_self v (List.mem_range.1 hv)]
      simp
    rw [firstHit, e]
    exact firstHit_none p b N r fun x hx => h x (List.mem_cons_of_mem _ hx)
theorem firstHit_some (p b N : Nat) : ∀ (ss : List ByteArray) (i : Nat) (s : ByteArray) (v : Nat), ss[i]? = some s → v < b → hit p N s v = true → (∀ (j : Nat) (s' : ByteArray), j < i → ss[j]? = some s' → ∀ v', v' < b → hit p N s' v' = false) → (∀ v', v' < v → hit p N s v' = false) → firstHit p b N ss = some (v, s)
  | x :: r, 0, s, v, hs, hv, hh, _, hl => by
    obtain rfl : x = s := by simpa using hs
    have e : (List.range b).find? (hit p N x) = some v := by
      rw [List.find?_range_eq_some]
      exact ⟨hh, List.mem_range.2 hv, fun j hj => by rw [hl j hj]; rfl⟩
    rw [firstHit, e]
  | x :: r, i + 1, s, v, hs, hv, hh, hb, hl => by
    have e : (List.range b).find? (hit p N x) = none := by
      rw [List.find?_eq_none]
      intro v' hv'
      rw [hb 0 x (by omega) rfl v' (List.mem_range.1 hv')]
      simp
    rw [firstHit, e]
    exact firstHit_some p b N r i s v (by simpa using hs) hv hh (fun j s' hj hs' => hb (j + 1) s' (by omega) (by simpa using hs')) hl
theorem GuessR.eq {p b N : Nat} {ss : List ByteArray} {e : Ending} (h : GuessR p b N ss e) : e = gEnd (gRun p b N ss) := by
  rcases h with ⟨i, s, v, h1, h2, h3, h4, h5, rfl⟩ | ⟨h1, rfl⟩
  · rw [gRun, firstHit_some p b N ss i s v h1 h2 h3 h4 h5]; rfl
  · rw [gRun, firstHit_none p b N ss h1]; rfl
def allS (ss : List ByteArray) : Bool := ss.all fun s => isSaltL s.data.toList
def gRan (p b : Int) : Bool := (decide (1 ≤ p) && decide (p ≤ 30)) && (decide (1 ≤ b) && decide (b ≤ 1000000000))
/-- What Guess returns. -/
def gx (H : ByteArray) (p b : Int) (ss : List ByteArray) : Int × Int × ByteArray × Int :=
  if isHashL H.data.toList = false then (0, 0, ⟨#[]⟩, 4) else if gRan p b = false then (0, 0, ⟨#[]⟩, 3) else if allS ss = false then (0, 0, ⟨#[]⟩, 2) else if 100000 < ss.length * b.toNat then (0, 0, ⟨#[]⟩, 8) else gRun p.toNat b.toNat (hexV H.data.toList) ss
set_option maxHeartbeats 4000000 in
theorem Guess_form (H : ByteArray) (hsz : H.size ≤ 1000000) (p b : Int) (u : Value) (ss : List ByteArray) (w : World) (hr : ReadsT w u ss) (hl : ss.length ≤ 1000000) (hss : ∀ s ∈ ss, s.size ≤ 1000000) (hH : isHashL H.data.toList = false) :
    Calls Tryz.prog 11 #[.string H, .int .i64 p, .int .i64 b, u] w fun e w' => e = gEnd (0, 0, ⟨#[]⟩, 4) ∧ Below w.heap.size w w' := by
  have HW1 := hid (fun W => within_c p 1 30 W)
  have HW2 := hid (fun W => within_c b 1 1000000000 W)
  have HIH := hid (fun W => isHash_c H hsz W)
  rw [hH] at HIH
  obtain ⟨q, cq, rfl⟩ := hr.form
  have hx := heap_alloc_new w (.cells #[.int .i64 0, .int .i64 0, .string ⟨#[]⟩] 27)
  have hal : Below w.heap.size w (w.alloc (.cells #[.int .i64 0, .int .i64 0, .string ⟨#[]⟩] 27)) := (Below.refl _ _).alloc (Nat.le_refl _) _
  have HX := hid (And.intro hx hal)
  have FL := hid trivial
  have hlt := heap_lt hx
  obtain ⟨m, hm⟩ : ∃ m, ss.length = m := ⟨_, rfl⟩
  rw [hm] at hl ⊢
  clear hr hx hal hss hsz
  go_enter Tryz.func11, Tryz.ntmps11
  go_upto_region 1 with fail
  generalize w.alloc (.cells #[.int .i64 0, .int .i64 0, .string ⟨#[]⟩] 27) = W0 at HX hlt ⊢
  obtain ⟨g, hg⟩ : ∃ g, w.heap.size = g := ⟨_, rfl⟩
  rw [hg] at HX hlt ⊢
  have HG := hid hg
  have HB0 := hid (show Below (g + 1) W0 W0 from Below.refl _ _)
  clear hg
  go_wp2_with (first
    | (go_at_call 35; refine (HIH.out _).mono ?_; rintro e w1 ⟨rfl, hb1⟩; have HB1 := hid (show Below (g + 1) W0 w1 from hb1.mono hlt); have hg6 := heap_below HB1.out HX.out.1 (Nat.lt_succ_self g); have HG6 := hid hg6; clear hb1 hg6)
    | (go_at_call 36; have hq := FL; clear hq FL; refine (HW1.out _).mono ?_; rintro e w2 ⟨rfl, rfl⟩)
    | (go_at_call 36; refine (HW2.out _).mono ?_; rintro e w2 ⟨rfl, rfl⟩)
    | (refine wpList_store_row rfl 27 (.tmp 8) (.tmp 20) rfl g #[.int .i64 0, .int .i64 0, .string ⟨#[]⟩] rfl rfl 27 _ HG6.out (show (Tryz.prog.info? 27).map (·.size) = some 3 by kernel_rfl) rfl (by simp [Value.oneCell']) ?_))
  refine bodyPost_ret (results_box Tryz.results11 rfl rfl (setRow_at HG6.out)) rfl ⟨rfl, ?_⟩
  rw [HG.out]
  exact (HX.out.2.trans (HB1.out.mono (Nat.le_succ g))).trans (setRow_below (Nat.le_refl g))
set_option maxHeartbeats 4000000 in
theorem Guess_ran1 (H : ByteArray) (hsz : H.size ≤ 1000000) (p b : Int) (u : Value) (ss : List ByteArray) (w : World) (hr : ReadsT w u ss) (hl : ss.length ≤ 1000000) (hss : ∀ s ∈ ss, s.size ≤ 1000000) (hH : isHashL H.data.toList = true) (hp : (decide (1 ≤ p) && decide (p ≤ 30)) = false) :
    Calls Tryz.prog 11 #[.string H, .int .i64 p, .int .i64 b, u] w fun e w' => e = gEnd (0, 0, ⟨#[]⟩, 3) ∧ Below w.heap.size w w' := by
  have HW1 := hid (fun W => within_c p 1 30 W)
  have HW2 := hid (fun W => within_c b 1 1000000000 W)
  have HIH := hid (fun W => isHash_c H hsz W)
  rw [hH] at HIH
  simp only [hp] at HW1
  obtain ⟨q, cq, rfl⟩ := hr.form
  have hx := heap_alloc_new w (.cells #[.int .i64 0, .int .i64 0, .string ⟨#[]⟩] 27)
  have hal : Below w.heap.size w (w.alloc (.cells #[.int .i64 0, .int .i64 0, .string ⟨#[]⟩] 27)) := (Below.refl _ _).alloc (Nat.le_refl _) _
  have HX := hid (And.intro hx hal)
  have FL := hid trivial
  have hlt := heap_lt hx
  obtain ⟨m, hm⟩ : ∃ m, ss.length = m := ⟨_, rfl⟩
  rw [hm] at hl ⊢
  clear hr hx hal hss hsz
  go_enter Tryz.func11, Tryz.ntmps11
  go_upto_region 1 with fail
  generalize w.alloc (.cells #[.int .i64 0, .int .i64 0, .string ⟨#[]⟩] 27) = W0 at HX hlt ⊢
  obtain ⟨g, hg⟩ : ∃ g, w.heap.size = g := ⟨_, rfl⟩
  rw [hg] at HX hlt ⊢
  have HG := hid hg
  have HB0 := hid (show Below (g + 1) W0 W0 from Below.refl _ _)
  clear hg
  go_wp2_with (first
    | (go_at_call 35; refine (HIH.out _).mono ?_; rintro e w1 ⟨rfl, hb1⟩; have HB1 := hid (show Below (g + 1) W0 w1 from hb1.mono hlt); have hg6 := heap_below HB1.out HX.out.1 (Nat.lt_succ_self g); have HG6 := hid hg6; clear hb1 hg6)
    | (go_at_call 36; have hq := FL; clear hq FL; refine (HW1.out _).mono ?_; rintro e w2 ⟨rfl, rfl⟩)
    | (go_at_call 36; refine (HW2.out _).mono ?_; rintro e w2 ⟨rfl, rfl⟩)
    | (refine wpList_store_row rfl 27 (.tmp 8) (.tmp 30) rfl g #[.int .i64 0, .int .i64 0, .string ⟨#[]⟩] rfl rfl 27 _ HG6.out (show (Tryz.prog.info? 27).map (·.size) = some 3 by kernel_rfl) rfl (by simp [Value.oneCell']) ?_))
  refine bodyPost_ret (results_box Tryz.results11 rfl rfl (setRow_at HG6.out)) rfl ⟨rfl, ?_⟩
  rw [HG.out]
  exact (HX.out.2.trans (HB1.out.mono (Nat.le_succ g))).trans (setRow_below (Nat.le_refl g))
set_option maxHeartbeats 4000000 in
theorem Guess_ran2 (H : ByteArray) (hsz : H.size ≤ 1000000) (p b : Int) (u : Value) (ss : List ByteArray) (w : World) (hr : ReadsT w u ss) (hl : ss.length ≤ 1000000) (hss : ∀ s ∈ ss, s.size ≤ 1000000) (hH : isHashL H.data.toList = true) (hp : (decide (1 ≤ p) && decide (p ≤ 30)) = true) (hb : (decide (1 ≤ b) && decide (b ≤ 1000000000)) = false) :
    Calls Tryz.prog 11 #[.string H, .int .i64 p, .int .i64 b, u] w fun e w' => e = gEnd (0, 0, ⟨#[]⟩, 3) ∧ Below w.heap.size w w' := by
  have HW1 := hid (fun W => within_c p 1 30 W)
  have HW2 := hid (fun W => within_c b 1 1000000000 W)
  have HIH := hid (fun W => isHash_c H hsz W)
  rw [hH] at HIH
  simp only [hp] at HW1
  simp only [hb] at HW2
  obtain ⟨q, cq, rfl⟩ := hr.form
  have hx := heap_alloc_new w (.cells #[.int .i64 0, .int .i64 0, .string ⟨#[]⟩] 27)
  have hal : Below w.heap.size w (w.alloc (.cells #[.int .i64 0, .int .i64 0, .string ⟨#[]⟩] 27)) := (Below.refl _ _).alloc (Nat.le_refl _) _
  have HX := hid (And.intro hx hal)
  have FL := hid trivial
  have hlt := heap_lt hx
  obtain ⟨m, hm⟩ : ∃ m, ss.length = m := ⟨_, rfl⟩
  rw [hm] at hl ⊢
  clear hr hx hal hss hsz
  go_enter Tryz.func11, Tryz.ntmps11
  go_upto_region 1 with fail
  generalize w.alloc (.cells #[.int .i64 0, .int .i64 0, .string ⟨#[]⟩] 27) = W0 at HX hlt ⊢
  obtain ⟨g, hg⟩ : ∃ g, w.heap.size = g := ⟨_, rfl⟩
  rw [hg] at HX hlt ⊢
  have HG := hid hg
  have HB0 := hid (show Below (g + 1) W0 W0 from Below.refl _ _)
  clear hg
  go_wp2_with (first
    | (go_at_call 35; refine (HIH.out _).mono ?_; rintro e w1 ⟨rfl, hb1⟩; have HB1 := hid (show Below (g + 1) W0 w1 from hb1.mono hlt); have hg6 := heap_below HB1.out HX.out.1 (Nat.lt_succ_self g); have HG6 := hid hg6; clear hb1 hg6)
    | (go_at_call 36; have hq := FL; clear hq FL; refine (HW1.out _).mono ?_; rintro e w2 ⟨rfl, rfl⟩)
    | (go_at_call 36; refine (HW2.out _).mono ?_; rintro e w2 ⟨rfl, rfl⟩)
    | (refine wpList_store_row rfl 27 (.tmp 8) (.tmp 30) rfl g #[.int .i64 0, .int .i64 0, .string ⟨#[]⟩] rfl rfl 27 _ HG6.out (show (Tryz.prog.info? 27).map (·.size) = some 3 by kernel_rfl) rfl (by simp [Value.oneCell']) ?_))
  refine bodyPost_ret (results_box Tryz.results11 rfl rfl (setRow_at HG6.out)) rfl ⟨rfl, ?_⟩
  rw [HG.out]
  exact (HX.out.2.trans (HB1.out.mono (Nat.le_succ g))).trans (setRow_below (Nat.le_refl g))
set_option maxHeartbeats 4000000 in
theorem Guess_arg (H : ByteArray) (hsz : H.size ≤ 1000000) (p b : Int) (u : Value) (ss : List ByteArray) (w : World) (hr : ReadsT w u ss) (hl : ss.length ≤ 1000000) (hss : ∀ s ∈ ss, s.size ≤ 1000000) (hH : isHashL H.data.toList = true) (hp : (decide (1 ≤ p) && decide (p ≤ 30)) = true) (hb : (decide (1 ≤ b) && decide (b ≤ 1000000000)) = true) (ha : ¬ ∀ s ∈ ss, isSaltL s.data.toList = true) :
    Calls Tryz.prog 11 #[.string H, .int .i64 p, .int .i64 b, u] w fun e w' => e = gEnd (0, 0, ⟨#[]⟩, 2) ∧ Below w.heap.size w w' := by
  have HW1 := hid (fun W => within_c p 1 30 W)
  have HW2 := hid (fun W => within_c b 1 1000000000 W)
  have HIH := hid (fun W => isHash_c H hsz W)
  have HCO := hid (fun W (hW : Below w.heap.size w W) => contains_some u ss W (hr.below hW) hl hss ha)
  rw [hH] at HIH
  simp only [hp] at HW1
  simp only [hb] at HW2
  obtain ⟨q, cq, rfl⟩ := hr.form
  have hx := heap_alloc_new w (.cells #[.int .i64 0, .int .i64 0, .string ⟨#[]⟩] 27)
  have hal : Below w.heap.size w (w.alloc (.cells #[.int .i64 0, .int .i64 0, .string ⟨#[]⟩] 27)) := (Below.refl _ _).alloc (Nat.le_refl _) _
  have HX := hid (And.intro hx hal)
  have FL := hid trivial
  have hlt := heap_lt hx
  obtain ⟨m, hm⟩ : ∃ m, ss.length = m := ⟨_, rfl⟩
  rw [hm] at HCO ⊢
  clear hr hx hal hss hsz
  go_enter Tryz.func11, Tryz.ntmps11
  go_upto_region 1 with fail
  generalize w.alloc (.cells #[.int .i64 0, .int .i64 0, .string ⟨#[]⟩] 27) = W0 at HX hlt ⊢
  obtain ⟨g, hg⟩ : ∃ g, w.heap.size = g := ⟨_, rfl⟩
  rw [hg] at HX HCO hlt ⊢
  have HG := hid hg
  have HB0 := hid (show Below (g + 1) W0 W0 from Below.refl _ _)
  clear hg
  go_wp2_with (first
    | (go_at_call 35; refine (HIH.out _).mono ?_; rintro e w1 ⟨rfl, hb1⟩; have HB1 := hid (show Below (g + 1) W0 w1 from hb1.mono hlt); have hg6 := heap_below HB1.out HX.out.1 (Nat.lt_succ_self g); have HG6 := hid hg6; clear hb1 hg6)
    | (go_at_call 36; have hq := FL; clear hq FL; refine (HW1.out _).mono ?_; rintro e w2 ⟨rfl, rfl⟩)
    | (go_at_call 36; refine (HW2.out _).mono ?_; rintro e w2 ⟨rfl, rfl⟩)
    | (go_at_call 37; refine (HCO.out _ (HX.out.2.trans (HB1.out.mono (Nat.le_succ g)))).mono ?_; rintro e w3 ⟨rfl, hb3⟩; have hb3' := HB1.out.trans (hb3.mono (Nat.le_trans hlt HB1.out.size)); clear HB1; have HB1 := hid hb3'; have hg6 := heap_below hb3' HX.out.1 (Nat.lt_succ_self g); clear HG6; have HG6 := hid hg6; clear hb3 hb3' hg6)
    | (refine wpList_store_row rfl 27 (.tmp 8) (.tmp 34) rfl g #[.int .i64 0, .int .i64 0, .string ⟨#[]⟩] rfl rfl 27 _ HG6.out (show (Tryz.prog.info? 27).map (·.size) = some 3 by kernel_rfl) rfl (by simp [Value.oneCell']) ?_))
  refine bodyPost_ret (results_box Tryz.results11 rfl rfl (setRow_at HG6.out)) rfl ⟨rfl, ?_⟩
  rw [HG.out]
  exact (HX.out.2.trans (HB1.out.mono (Nat.le_succ g))).trans (setRow_below (Nat.le_refl g))
set_option maxHeartbeats 4000000 in
theorem Guess_full (H : ByteArray) (hsz : H.size ≤ 1000000) (p b : Int) (u : Value) (ss : List ByteArray) (w : World) (hr : ReadsT w u ss) (hl : ss.length ≤ 1000000) (hss : ∀ s ∈ ss, s.size ≤ 1000000) (hH : isHashL H.data.toList = true) (hp : (decide (1 ≤ p) && decide (p ≤ 30)) = true) (hb : (decide (1 ≤ b) && decide (b ≤ 1000000000)) = true) (ha : ∀ s ∈ ss, isSaltL s.data.toList = true) (bn : Nat) (hbn : b = ((bn : Nat) : Int)) (hbl : bn ≤ 1000000000) (hf : 100000 < ss.length * bn) :
    Calls Tryz.prog 11 #[.string H, .int .i64 p, .int .i64 b, u] w fun e w' => e = gEnd (0, 0, ⟨#[]⟩, 8) ∧ Below w.heap.size w w' := by
  have HW1 := hid (fun W => within_c p 1 30 W)
  have HW2 := hid (fun W => within_c b 1 1000000000 W)
  have HIH := hid (fun W => isHash_c H hsz W)
  have HCO := hid (fun W (hW : Below w.heap.size w W) => contains_none u ss W (hr.below hW) hl ha)
  rw [hH] at HIH
  simp only [hp] at HW1
  simp only [hb] at HW2
  obtain ⟨q, cq, rfl⟩ := hr.form
  have hx := heap_alloc_new w (.cells #[.int .i64 0, .int .i64 0, .string ⟨#[]⟩] 27)
  have hal : Below w.heap.size w (w.alloc (.cells #[.int .i64 0, .int .i64 0, .string ⟨#[]⟩] 27)) := (Below.refl _ _).alloc (Nat.le_refl _) _
  have HX := hid (And.intro hx hal)
  have FL := hid trivial
  have hlt := heap_lt hx
  obtain ⟨m, hm⟩ : ∃ m, ss.length = m := ⟨_, rfl⟩
  rw [hm] at HCO ⊢
  subst hbn
  rw [hm] at hf hl
  obtain ⟨mb, hmb⟩ : ∃ mb, m * bn = mb := ⟨_, rfl⟩
  have hmb2 : mb ≤ 1000000000000000 := by
    rw [← hmb]
    exact Nat.le_trans (Nat.mul_le_mul hl hbl) (by decide)
  rw [hmb] at hf
  have hmw : IntKind.i64.wrap (((m : Nat) : Int) * ((bn : Nat) : Int)) = ((mb : Nat) : Int) := by
    rw [← Int.natCast_mul, hmb]
    exact IntWalk.i64_in _ (by omega)
  have c1 : decide ((100000 : Int) < ((mb : Nat) : Int)) = true := decide_eq_true (by omega)
  have c2 : decide (100000 < mb) = true := decide_eq_true hf
  clear hr hx hal hss hsz
  go_enter Tryz.func11, Tryz.ntmps11
  go_upto_region 1 with fail
  generalize w.alloc (.cells #[.int .i64 0, .int .i64 0, .string ⟨#[]⟩] 27) = W0 at HX hlt ⊢
  obtain ⟨g, hg⟩ : ∃ g, w.heap.size = g := ⟨_, rfl⟩
  rw [hg] at HX HCO hlt ⊢
  have HG := hid hg
  have HB0 := hid (show Below (g + 1) W0 W0 from Below.refl _ _)
  clear hg
  go_wp2_with (first
    | (go_at_call 35; refine (HIH.out _).mono ?_; rintro e w1 ⟨rfl, hb1⟩; have HB1 := hid (show Below (g + 1) W0 w1 from hb1.mono hlt); have hg6 := heap_below HB1.out HX.out.1 (Nat.lt_succ_self g); have HG6 := hid hg6; clear hb1 hg6)
    | (go_at_call 36; have hq := FL; clear hq FL; refine (HW1.out _).mono ?_; rintro e w2 ⟨rfl, rfl⟩)
    | (go_at_call 36; refine (HW2.out _).mono ?_; rintro e w2 ⟨rfl, rfl⟩)
    | (go_at_call 37; refine (HCO.out _ (HX.out.2.trans (HB1.out.mono (Nat.le_succ g)))).mono ?_; rintro e w3 ⟨rfl, hb3⟩; have hb3' := HB1.out.trans (hb3.mono (Nat.le_trans hlt HB1.out.size)); clear HB1; have HB1 := hid hb3'; have hg6 := heap_below hb3' HX.out.1 (Nat.lt_succ_self g); clear HG6; have HG6 := hid hg6; clear hb3 hb3' hg6)
    | (refine wpList_store_row rfl 27 (.tmp 8) (.tmp 41) rfl g #[.int .i64 0, .int .i64 0, .string ⟨#[]⟩] rfl rfl 27 _ HG6.out (show (Tryz.prog.info? 27).map (·.size) = some 3 by kernel_rfl) rfl (by simp [Value.oneCell']) ?_))
  refine bodyPost_ret (results_box Tryz.results11 rfl rfl (setRow_at HG6.out)) rfl ⟨rfl, ?_⟩
  rw [HG.out]
  exact (HX.out.2.trans (HB1.out.mono (Nat.le_succ g))).trans (setRow_below (Nat.le_refl g))
theorem guess_c (H : ByteArray) (hsz : H.size ≤ 1000000) (p b : Int) (u : Value) (ss : List ByteArray) (w : World) (hr : ReadsT w u ss) (hl : ss.length ≤ 1000000) (hss : ∀ s ∈ ss, s.size ≤ 1000000) (L : LaidW w) :
    Calls Tryz.prog 11 #[.string H, .int .i64 p, .int .i64 b, u] w fun e w' => e = gEnd (gx H p b ss) ∧ Below w.heap.size w w' := by
  unfold gx
  cases hH : isHashL H.data.toList with
  | false => rw [if_pos rfl]; exact Guess_form H hsz p b u ss w hr hl hss hH
  | true =>
    rw [if_neg (by simp)]
    unfold gRan
    cases hp : (decide (1 ≤ p) && decide (p ≤ 30)) with
    | false => rw [Bool.false_and, if_pos rfl]; exact Guess_ran1 H hsz p b u ss w hr hl hss hH hp
    | true =>
      cases hb : (decide (1 ≤ b) && decide (b ≤ 1000000000)) with
      | false => rw [if_pos (show (true && false) = false from rfl)]; exact Guess_ran2 H hsz p b u ss w hr hl hss hH hp hb
      | true =>
        rw [if_neg (by simp)]
        have hp2 : 1 ≤ p ∧ p ≤ 30 := by simpa using hp
        have hb2 : 1 ≤ b ∧ b ≤ 1000000000 := by simpa using hb
        obtain ⟨pn, rfl⟩ : ∃ n : Nat, p = n := ⟨p.toNat, by omega⟩
        obtain ⟨bn, rfl⟩ : ∃ n : Nat, b = n := ⟨b.toNat, by omega⟩
        rw [Int.toNat_natCast, Int.toNat_natCast]
        by_cases ha : ∀ s ∈ ss, isSaltL s.data.toList = true
        · have hA : allS ss = true := List.all_eq_true.2 ha
          rw [hA, if_neg (by simp)]
          by_cases hf : 100000 < ss.length * bn
          · rw [if_pos hf]
            exact Guess_full H hsz _ _ u ss w hr hl hss hH hp hb ha bn rfl (by omega) hf
          · rw [if_neg hf]
            refine (Guess_run H hH pn bn (by omega) (by omega) u ss w hr ha (by omega) L).mono ?_
            rintro e w' ⟨h1, h2⟩
            exact ⟨h1.eq, h2⟩
        · have hA : allS ss = false := by
            rw [allS, List.all_eq_false]
            simp only [Classical.not_forall] at ha
            obtain ⟨s, hs, h⟩ := ha
            exact ⟨s, hs, h⟩
          rw [hA, if_pos rfl]
          exact Guess_arg H hsz _ _ u ss w hr hl hss hH hp hb ha
end Go.Proofs.YtbcileppebpamaaGreatDoor
