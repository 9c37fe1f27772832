/- Lemmas for WitnessDraws: part 11. -/
import Derived.Lib.ItoaLen
import Derived.Test.YtbcileppebpamaaGreatDoorKb02
import Derived.Test.YtbcileppebpamaaGreatDoorKb03
import Derived.Test.YtbcileppebpamaaGreatDoorKb10
set_option linter.unusedSimpArgs false
set_option linter.unusedVariables false
namespace Go.Proofs.YtbcileppebpamaaGreatDoor
open Go Go.RowKit Go.Shelf
set_option maxRecDepth 100000
set_option maxHeartbeats 4000000 in
theorem rhex_c (s : ByteArray) (hs : s.size ≤ 1000000) (w : World) :
    Calls Tryz.prog 42 #[.string s] w fun e w' => e = .returned (.bool (isHashL s.data.toList)) ∧ w' = w := by
  obtain ⟨l, hl⟩ : ∃ l, s.data.toList = l := ⟨_, rfl⟩
  obtain ⟨m, hm⟩ : ∃ m, s.size = m := ⟨_, rfl⟩
  have hlm : l.length = m := by rw [← hl, Array.length_toList, ← hm]; rfl
  rw [hl]
  obtain ⟨r, hr⟩ : ∃ r, isHashL l = r := ⟨_, rfl⟩
  rw [hr]
  have HR := hid hr
  have HL := hid hl
  have hr2 : (decide (m = 16) && l.all hexB) = r := by rw [← hr, isHashL, hlm]
  have HR2 := hid hr2
  by_cases h1 : m = 16
  · subst h1
    have HLM := hid hlm
    clear hr hl hs hr2 hlm
    go_enter Tryz.func42, Tryz.ntmps42
    go_wp2_with fail
    go_loopw [3] (fun ix wr => ∃ i : Nat, i ≤ 16 ∧ ix = .int .i64 ((i : Nat) : Int) ∧ (l.take i).all hexB = true ∧ wr = w) (fun ix _ => 16 - (intOf ix).toNat)
    case atStart => exact ⟨0, by omega, rfl, rfl, rfl⟩
    case round =>
      obtain ⟨i, hi, rfl, hA, rfl⟩ := hrel
      rcases Nat.lt_or_ge i 16 with hlt | hge
      · have hin : decide (((i : Nat) : Int) < 16) = true := decide_eq_true (by omega)
        have hin' : ((i : Nat) : Int) < 16 := by omega
        have hiw : IntKind.i64.wrap (((i : Nat) : Int) + 1) = ((i + 1 : Nat) : Int) := (IntWalk.i64_in _ (by omega)).trans (by omega)
        obtain ⟨cb, hcb⟩ : ∃ c, l[i]? = some c := ⟨_, List.getElem?_eq_getElem (by rw [HLM.out]; exact hlt)⟩
        obtain ⟨c, hcc⟩ : ∃ c, cb.toNat = c := ⟨_, rfl⟩
        have hc256 : c < 256 := hcc ▸ cb.toNat_lt
        have hgi : ∀ h : i < s.size, (s[i]'h).toNat = c := fun h => by
          have h2 : (s.data.toList)[i]? = some cb := by rw [HL.out]; exact hcb
          obtain ⟨h3, h4⟩ := List.getElem?_eq_some_iff.1 h2
          rw [← hcc, ← h4]
          rfl
        have h : c < 48 ∨ (48 ≤ c ∧ c ≤ 57) ∨ (58 ≤ c ∧ c ≤ 96) ∨ (97 ≤ c ∧ c ≤ 102) ∨ 103 ≤ c := by omega
        rcases h with h | h | h | h | h
        · have el97 : decide (((c : Nat) : Int) < 97) = true := decide_eq_true (by omega)
          have nl97 : decide (c < 97) = true := decide_eq_true (by omega)
          have eg102 : decide ((102 : Int) < ((c : Nat) : Int)) = false := decide_eq_false (by omega)
          have ng102 : decide (102 < c) = false := decide_eq_false (by omega)
          have el48 : decide (((c : Nat) : Int) < 48) = true := decide_eq_true (by omega)
          have nl48 : decide (c < 48) = true := decide_eq_true (by omega)
          have eg57 : decide ((57 : Int) < ((c : Nat) : Int)) = false := decide_eq_false (by omega)
          have ng57 : decide (57 < c) = false := decide_eq_false (by omega)
          have hno : isHashL l = false := by
            rw [isHashL, show l.all hexB = false from (by
              rw [Bool.eq_false_iff]
              intro ha
              have := List.all_eq_true.1 ha cb (List.mem_of_getElem? hcb)
              simp [hexB, hcc] at this
              omega), Bool.and_false]
          rw [HR.out] at hno
          subst hno
          clear hA hcb hcc h
          go_wp2_with fail
          go_ret
          exact ⟨rfl, rfl⟩
        · have el97 : decide (((c : Nat) : Int) < 97) = true := decide_eq_true (by omega)
          have nl97 : decide (c < 97) = true := decide_eq_true (by omega)
          have eg102 : decide ((102 : Int) < ((c : Nat) : Int)) = false := decide_eq_false (by omega)
          have ng102 : decide (102 < c) = false := decide_eq_false (by omega)
          have el48 : decide (((c : Nat) : Int) < 48) = false := decide_eq_false (by omega)
          have nl48 : decide (c < 48) = false := decide_eq_false (by omega)
          have eg57 : decide ((57 : Int) < ((c : Nat) : Int)) = false := decide_eq_false (by omega)
          have ng57 : decide (57 < c) = false := decide_eq_false (by omega)
          have hall : (l.take (i + 1)).all hexB = true := by
            rw [List.take_add_one, hcb, List.all_append, hA]
            simp [hexB, hcc]
            omega
          have HAL := hid hall
          clear hall hA hcb hcc h
          go_wp2_with fail
          go_roundw
          case rel => exact ⟨i + 1, by omega, rfl, HAL.out, trivial⟩
          case measure => simp only [intOf, Int.toNat_natCast]; omega
        · have el97 : decide (((c : Nat) : Int) < 97) = true := decide_eq_true (by omega)
          have nl97 : decide (c < 97) = true := decide_eq_true (by omega)
          have eg102 : decide ((102 : Int) < ((c : Nat) : Int)) = false := decide_eq_false (by omega)
          have ng102 : decide (102 < c) = false := decide_eq_false (by omega)
          have el48 : decide (((c : Nat) : Int) < 48) = false := decide_eq_false (by omega)
          have nl48 : decide (c < 48) = false := decide_eq_false (by omega)
          have eg57 : decide ((57 : Int) < ((c : Nat) : Int)) = true := decide_eq_true (by omega)
          have ng57 : decide (57 < c) = true := decide_eq_true (by omega)
          have hno : isHashL l = false := by
            rw [isHashL, show l.all hexB = false from (by
              rw [Bool.eq_false_iff]
              intro ha
              have := List.all_eq_true.1 ha cb (List.mem_of_getElem? hcb)
              simp [hexB, hcc] at this
              omega), Bool.and_false]
          rw [HR.out] at hno
          subst hno
          clear hA hcb hcc h
          go_wp2_with fail
          go_ret
          exact ⟨rfl, rfl⟩
        · have el97 : decide (((c : Nat) : Int) < 97) = false := decide_eq_false (by omega)
          have nl97 : decide (c < 97) = false := decide_eq_false (by omega)
          have eg102 : decide ((102 : Int) < ((c : Nat) : Int)) = false := decide_eq_false (by omega)
          have ng102 : decide (102 < c) = false := decide_eq_false (by omega)
          have el48 : decide (((c : Nat) : Int) < 48) = false := decide_eq_false (by omega)
          have nl48 : decide (c < 48) = false := decide_eq_false (by omega)
          have eg57 : decide ((57 : Int) < ((c : Nat) : Int)) = true := decide_eq_true (by omega)
          have ng57 : decide (57 < c) = true := decide_eq_true (by omega)
          have hall : (l.take (i + 1)).all hexB = true := by
            rw [List.take_add_one, hcb, List.all_append, hA]
            simp [hexB, hcc]
            omega
          have HAL := hid hall
          clear hall hA hcb hcc h
          go_wp2_with fail
          go_roundw
          case rel => exact ⟨i + 1, by omega, rfl, HAL.out, trivial⟩
          case measure => simp only [intOf, Int.toNat_natCast]; omega
        · have el97 : decide (((c : Nat) : Int) < 97) = false := decide_eq_false (by omega)
          have nl97 : decide (c < 97) = false := decide_eq_false (by omega)
          have eg102 : decide ((102 : Int) < ((c : Nat) : Int)) = true := decide_eq_true (by omega)
          have ng102 : decide (102 < c) = true := decide_eq_true (by omega)
          have el48 : decide (((c : Nat) : Int) < 48) = false := decide_eq_false (by omega)
          have nl48 : decide (c < 48) = false := decide_eq_false (by omega)
          have eg57 : decide ((57 : Int) < ((c : Nat) : Int)) = true := decide_eq_true (by omega)
          have ng57 : decide (57 < c) = true := decide_eq_true (by omega)
          have hno : isHashL l = false := by
            rw [isHashL, show l.all hexB = false from (by
              rw [Bool.eq_false_iff]
              intro ha
              have := List.all_eq_true.1 ha cb (List.mem_of_getElem? hcb)
              simp [hexB, hcc] at this
              omega), Bool.and_false]
          rw [HR.out] at hno
          subst hno
          clear hA hcb hcc h
          go_wp2_with fail
          go_ret
          exact ⟨rfl, rfl⟩
      · obtain rfl : i = 16 := by omega
        have hin : ¬ (16 : Int) < 16 := by omega
        rw [List.take_of_length_le (by rw [HLM.out]; exact Nat.le_refl _)] at hA
        have hr3 : r = true := by rw [← HR2.out, hA]; rfl
        subst hr3
        clear hA
        go_wp2_with fail
        go_ret
        exact ⟨rfl, rfl⟩
  · have d1 : (((m : Nat) : Int) == 16) = false := by simp; omega
    have d2 : decide (m = 16) = false := decide_eq_false h1
    have d3 : (m == 16) = false := by simp; omega
    have d4 : ((m : Nat) : Int) ≠ 16 := by omega
    have hr3 : r = false := by rw [← hr2, d2]; rfl
    subst hr3
    clear hr hl hs hr2 hlm HR HL HR2
    go_enter Tryz.func42, Tryz.ntmps42
    go_wp2_with fail
    go_ret
    exact ⟨rfl, rfl⟩
/-- The first box with a hash. -/
def firstHit (p b N : Nat) : List ByteArray → Option (Nat × ByteArray)
  | [] => none
  | s :: r => match (List.range b).find? (hit p N s) with | some v => some (v, s) | none => firstHit p b N r
def gRun (p b N : Nat) (ss : List ByteArray) : Int × Int × ByteArray × Int := match firstHit p b N ss with | none => (0, 0, ⟨#[]⟩, 7) | some (v, s) => (((p : Nat) : Int), ((v : Nat) : Int), s, 0)
def allS (ss : List ByteArray) : Bool := ss.all fun s => isSaltL s.data.toList
def gRan (p b : Int) : Bool := (decide (1 ≤ p) && decide (p ≤ 30)) && (decide (1 ≤ b) && decide (b ≤ 1000000000))
/-- What Guess returns. -/
def gx (H : ByteArray) (p b : Int) (ss : List ByteArray) : Int × Int × ByteArray × Int :=
  if isHashL H.data.toList = false then (0, 0, ⟨#[]⟩, 4) else if gRan p b = false then (0, 0, ⟨#[]⟩, 3) else if allS ss = false then (0, 0, ⟨#[]⟩, 2) else if 100000 < ss.length * b.toNat then (0, 0, ⟨#[]⟩, 8) else gRun p.toNat b.toNat (hexV H.data.toList) ss
end Go.Proofs.YtbcileppebpamaaGreatDoor
set_option linter.unusedSimpArgs false
set_option linter.unusedVariables false
namespace Go.Proofs.YtbcileppebpamaaGreatDoor
open Go Go.RowKit Go.Shelf
set_option maxRecDepth 100000
theorem box_size (p v : Nat) (hp : p ≤ 30) (hv : v ≤ 1000000000) (s : ByteArray) (hs : isSaltL s.data.toList = true) : (⟨(boxL ((p : Nat) : Int) ((v : Nat) : Int) s.data.toList).toArray⟩ : ByteArray).size ≤ 1000000 := by
  have h1 := Lib.itoa_length_le ((p : Nat) : Int) (by omega) (by omega)
  have h2 := Lib.itoa_length_le ((v : Nat) : Int) (by omega) (by omega)
  rw [isSaltL, Bool.and_eq_true, Bool.and_eq_true, decide_eq_true_eq, decide_eq_true_eq] at hs
  show (boxL ((p : Nat) : Int) ((v : Nat) : Int) s.data.toList).toArray.size ≤ 1000000
  simp only [boxL, List.size_toArray, List.length_append, List.length_singleton]
  omega
end Go.Proofs.YtbcileppebpamaaGreatDoor
set_option linter.unusedSimpArgs false
set_option linter.unusedVariables false
namespace Go.Proofs.YtbcileppebpamaaGreatDoor
open Go Go.RowKit Go.Shelf
set_option maxRecDepth 100000
/-- A line of the reference. -/
structure RL where
  k : Int
  h : ByteArray
  p : Int
  v : Int
  s : ByteArray
def RL.cells (x : RL) : List Value := [.int .i64 x.k, .string x.h, .int .i64 x.p, .int .i64 x.v, .string x.s]
/-- A slice of lines in memory. -/
def ReadsL (w : World) (v : Value) (ls : List RL) : Prop := (ls = [] ∧ ∃ a c, v = .slice a 0 c) ∨ ∃ g o c, v = .slice (some ⟨g, o, none⟩) ls.length c ∧ (g < w.heap.size ∧ ∃ cur z, w.heap[g]? = some (.cells cur 56 z)) ∧ ∀ (i : Nat) x, ls[i]? = some x → ∀ k, k < 5 → w.cell? ⟨g, o + i * 5 + k, none⟩ = x.cells[k]?
theorem ReadsL.form {w : World} {v : Value} {ls : List RL} (h : ReadsL w v ls) : ∃ p c, v = .slice p ls.length c := by
  rcases h with ⟨rfl, a, c, rfl⟩ | ⟨g, o, c, rfl, _⟩
  · exact ⟨a, c, rfl⟩
  · exact ⟨_, _, rfl⟩
theorem ReadsL.below {w w' : World} {v : Value} {ls : List RL} (h : ReadsL w v ls) (hb : Below w.heap.size w w') : ReadsL w' v ls := by
  rcases h with h | ⟨g, o, c, h1, h2, h3⟩
  · exact .inl h
  · exact .inr ⟨g, o, c, h1, ⟨Nat.lt_of_lt_of_le h2.1 hb.size, let ⟨cur, z, h4⟩ := h2.2; ⟨cur, z, heap_below hb h4 h2.1⟩⟩, fun i x hx k hk => (hb.cell (p := ⟨g, o + i * 5 + k, none⟩) h2.1).trans (h3 i x hx k hk)⟩
theorem ReadsL.at' {w : World} {p : Option Addr} {n c : Nat} {ls : List RL} (h : ReadsL w (.slice p n c) ls) {i : Nat} {x : RL} (hi : ls[i]? = some x) : ∃ b o, p = some ⟨b, o, none⟩ ∧ b < w.heap.size ∧ w.cell? ⟨b, o + i * 5, none⟩ = some (.int .i64 x.k) ∧ w.cell? ⟨b, o + i * 5 + 1, none⟩ = some (.string x.h) ∧ w.cell? ⟨b, o + i * 5 + 2, none⟩ = some (.int .i64 x.p) ∧ w.cell? ⟨b, o + i * 5 + 3, none⟩ = some (.int .i64 x.v) ∧ w.cell? ⟨b, o + i * 5 + 4, none⟩ = some (.string x.s) := by
  rcases h with ⟨rfl, _⟩ | ⟨g, o, c', h1, h2, h3⟩
  · simp at hi
  · injection h1 with e1 _ _
    exact ⟨g, o, e1, h2.1, h3 i x hi 0 (by omega), h3 i x hi 1 (by omega), h3 i x hi 2 (by omega), h3 i x hi 3 (by omega), h3 i x hi 4 (by omega)⟩
def isL (k p : Int) (x : RL) : Bool := x.k == k && x.p == p
/-- The number of the line of a kind about a person, or 0. -/
def atL (k p : Int) (ls : List RL) : Nat := match ls.findIdx? (isL k p) with | some i => i + 2 | none => 0
theorem atL_hit (k p : Int) (ls : List RL) (i : Nat) (x : RL) (hx : ls[i]? = some x) (h : isL k p x = true) (hb : ∀ j y, j < i → ls[j]? = some y → isL k p y = false) : atL k p ls = i + 2 := by
  have : ls.findIdx? (isL k p) = some i := by
    rw [List.findIdx?_eq_some_iff_getElem]
    obtain ⟨h1, h2⟩ := List.getElem?_eq_some_iff.1 hx
    exact ⟨h1, by rw [h2]; exact h, fun j hj => by rw [hb j _ hj (List.getElem?_eq_getElem (Nat.lt_trans hj h1))]; simp⟩
  rw [atL, this]
theorem atL_none (k p : Int) (ls : List RL) (hb : ∀ y ∈ ls, isL k p y = false) : atL k p ls = 0 := by
  have : ls.findIdx? (isL k p) = none := by
    rw [List.findIdx?_eq_none_iff]
    exact hb
  rw [atL, this]
theorem atL_le (k p : Int) (ls : List RL) : atL k p ls ≤ ls.length + 1 := by
  unfold atL
  cases h : ls.findIdx? (isL k p) with
  | none => simp
  | some i =>
    obtain ⟨h1, _⟩ := List.findIdx?_eq_some_iff_getElem.1 h
    simp only
    omega
set_option maxHeartbeats 4000000 in
theorem rat_c (b n : Int) (v : Value) (ls : List RL) (k p : Int) (W : World) (hr : ReadsL W v ls) (hl : ls.length ≤ 1000000) :
    Calls Tryz.prog 59 #[.agg #[.int .i64 b, .int .i64 n, v], .int .i64 k, .int .i64 p] W fun e w' => e = .returned (.int .i64 ((atL k p ls : Nat) : Int)) ∧ Below W.heap.size W w' := by
  obtain ⟨a, hat⟩ : ∃ a, atL k p ls = a := ⟨_, rfl⟩
  rw [hat]
  obtain ⟨pv, cc, rfl⟩ := hr.form
  obtain ⟨m, hm⟩ : ∃ m, ls.length = m := ⟨_, rfl⟩
  rw [hm] at hr hl ⊢
  have hx := heap_alloc_new W (.cells #[.int .i64 b, .int .i64 n, .slice pv m cc] 49)
  have hal : Below W.heap.size W (W.alloc (.cells #[.int .i64 b, .int .i64 n, .slice pv m cc] 49)) := (Below.refl _ _).alloc (Nat.le_refl _) _
  have HR := hid (hr.below hal)
  have HAL := hid hal
  have HM := hid hm
  have HAT := hid hat
  have k2 := cell_of_row _ _ 2 _ _ _ hx
  clear hr hm hat hal hx
  go_enter Tryz.func59, Tryz.ntmps59
  go_upto_region 1 with fail
  generalize W.alloc (.cells #[.int .i64 b, .int .i64 n, .slice pv m cc] 49) = W0 at HR HAL k2 ⊢
  go_wp2_with fail
  go_loopw [7] (fun ix wr => ∃ i : Nat, i ≤ m ∧ ix = .int .i64 ((i : Nat) : Int) ∧ wr = W0 ∧ Aside (∀ j y, j < i → ls[j]? = some y → isL k p y = false)) (fun ix _ => m - (intOf ix).toNat)
  case atStart => exact ⟨0, by omega, rfl, rfl, fun j y h => absurd h (by omega)⟩
  case round =>
    obtain ⟨i, hi, rfl, hwr, A⟩ := hrel
    subst wr
    rcases Nat.lt_or_ge i m with hlt | hge
    · have hin : decide (((i : Nat) : Int) < ((m : Nat) : Int)) = true := decide_eq_true (by omega)
      have hin' : ((i : Nat) : Int) < ((m : Nat) : Int) := by omega
      have hi0 : (0 : Int) ≤ ((i : Nat) : Int) := by omega
      have hiw : IntKind.i64.wrap (((i : Nat) : Int) + 1) = ((i + 1 : Nat) : Int) := (IntWalk.i64_in _ (by omega)).trans (by omega)
      obtain ⟨i2, hi2⟩ : ∃ i2, i + 2 = i2 := ⟨_, rfl⟩
      have hiw2 : IntKind.i64.wrap (((i : Nat) : Int) + 2) = ((i2 : Nat) : Int) := (IntWalk.i64_in _ (by omega)).trans (by omega)
      obtain ⟨x, hx⟩ : ∃ x, ls[i]? = some x := ⟨_, List.getElem?_eq_getElem (by rw [HM.out]; exact hlt)⟩
      obtain ⟨g, o, rfl, hg, f0, _, f2, _, _⟩ := HR.out.at' hx
      obtain ⟨xk, hxk⟩ : ∃ z, x.k = z := ⟨_, rfl⟩
      obtain ⟨xp, hxp⟩ : ∃ z, x.p = z := ⟨_, rfl⟩
      rw [hxk] at f0
      rw [hxp] at f2
      have HX := hid hx
      have HKP := hid (And.intro hxk hxp)
      have HA := hid A
      clear hx hxk hxp hg A
      by_cases h1 : xk = k
      · have d1 : (xk == k) = true := by simp [h1]
        have d1' : decide (xk = k) = true := decide_eq_true h1
        by_cases h2 : xp = p
        · have d2 : (xp == p) = true := by simp [h2]
          have d2' : decide (xp = p) = true := decide_eq_true h2
          have ha : a = i2 := by
            rw [← HAT.out, ← hi2]
            exact atL_hit k p ls i x HX.out (by rw [isL, HKP.out.1, HKP.out.2, d1, d2]; rfl) HA.out
          have HA2 := hid ha
          clear h1 h2 ha
          go_wp2_with fail
          go_ret
          exact ⟨by rw [HA2.out]; rfl, HAL.out⟩
        · have d2 : (xp == p) = false := by simp [h2]
          have d2' : decide (xp = p) = false := decide_eq_false h2
          have hA2 : ∀ j y, j < i + 1 → ls[j]? = some y → isL k p y = false := fun j y hj hy => by
            rcases Nat.lt_or_ge j i with h | h
            · exact HA.out j y h hy
            · obtain rfl : j = i := by omega
              rw [HX.out] at hy
              cases hy
              rw [isL, HKP.out.2, d2, Bool.and_false]
          have HA2 := hid hA2
          clear h1 h2 hA2
          go_wp2_with fail
          go_roundw
          case rel => exact ⟨i + 1, by omega, rfl, trivial, HA2.out⟩
          case measure => simp only [intOf, Int.toNat_natCast]; omega
      · have d1 : (xk == k) = false := by simp [h1]
        have d1' : decide (xk = k) = false := decide_eq_false h1
        have hA2 : ∀ j y, j < i + 1 → ls[j]? = some y → isL k p y = false := fun j y hj hy => by
          rcases Nat.lt_or_ge j i with h | h
          · exact HA.out j y h hy
          · obtain rfl : j = i := by omega
            rw [HX.out] at hy
            cases hy
            rw [isL, HKP.out.1, d1, Bool.false_and]
        have HA2 := hid hA2
        clear h1 hA2
        go_wp2_with fail
        go_roundw
        case rel => exact ⟨i + 1, by omega, rfl, trivial, HA2.out⟩
        case measure => simp only [intOf, Int.toNat_natCast]; omega
    · obtain rfl : i = m := by omega
      have hin : ¬ ((i : Nat) : Int) < ((i : Nat) : Int) := by omega
      have ha : a = 0 := by
        rw [← HAT.out]
        refine atL_none k p ls fun y hy => ?_
        obtain ⟨j, hj⟩ := List.mem_iff_getElem?.1 hy
        exact A j y (by rw [← HM.out]; exact (List.getElem?_eq_some_iff.1 hj).1) hj
      have HA2 := hid ha
      clear ha A
      go_wp2_with fail
      go_ret
      exact ⟨by rw [HA2.out]; rfl, HAL.out⟩
/-- How many persons have a line of a kind. -/
def cntL (k : Int) (ls : List RL) : Nat → Nat
  | 0 => 0
  | n + 1 => cntL k ls n + (if 0 < atL k ((n + 1 : Nat) : Int) ls then 1 else 0)
theorem cntL_le (k : Int) (ls : List RL) : ∀ n, cntL k ls n ≤ n
  | 0 => Nat.le_refl _
  | n + 1 => by
    have := cntL_le k ls n
    rw [cntL]
    split <;> omega
set_option maxHeartbeats 4000000 in
theorem rcount_c (b : Int) (n : Nat) (hn : n ≤ 1000000) (v : Value) (ls : List RL) (k : Int) (W : World) (hr : ReadsL W v ls) (hl : ls.length ≤ 1000000) :
    Calls Tryz.prog 57 #[.agg #[.int .i64 b, .int .i64 ((n : Nat) : Int), v], .int .i64 k] W fun e w' => e = .returned (.int .i64 ((cntL k ls n : Nat) : Int)) ∧ Below W.heap.size W w' := by
  have hx := heap_alloc_new W (.cells #[.int .i64 b, .int .i64 ((n : Nat) : Int), v] 49)
  have hal : Below W.heap.size W (W.alloc (.cells #[.int .i64 b, .int .i64 ((n : Nat) : Int), v] 49)) := (Below.refl _ _).alloc (Nat.le_refl _) _
  have HX := hid (And.intro hx hal)
  have HR := hid hr
  have HAT := hid (fun (j : Nat) V (hV : Below W.heap.size W V) => rat_c b ((n : Nat) : Int) v ls k ((j : Nat) : Int) V (hr.below hV) hl)
  clear hr hal hx
  go_enter Tryz.func57, Tryz.ntmps57
  go_upto_region 1 with fail
  generalize W.alloc (.cells #[.int .i64 b, .int .i64 ((n : Nat) : Int), v] 49) = W0 at HX ⊢
  obtain ⟨g, hg⟩ : ∃ g, W.heap.size = g := ⟨_, rfl⟩
  rw [hg] at HX ⊢
  have HG := hid hg
  clear hg
  go_wp2_with fail
  go_loopw [5, 6] (fun nx px wr => ∃ j : Nat, j ≤ n ∧ px = .int .i64 ((j + 1 : Nat) : Int) ∧ nx = .int .i64 ((cntL k ls j : Nat) : Int) ∧ Below (g + 1) W0 wr) (fun _ px _ => n + 1 - (intOf px).toNat)
  case atStart => exact ⟨0, by omega, rfl, rfl, Below.refl _ _⟩
  case round =>
    obtain ⟨j, hj, rfl, rfl, hb⟩ := hrel
    have hgW : g + 1 ≤ W0.heap.size := heap_lt HX.out.1
    have hr0 := heap_below hb HX.out.1 (Nat.lt_succ_self g)
    have k0 := cell_of_row _ _ 0 _ _ _ hr0
    have k1 := cell_of_row _ _ 1 _ _ _ hr0
    have k2 := cell_of_row _ _ 2 _ _ _ hr0
    have HB := hid hb
    clear hr0
    rcases Nat.lt_or_ge j n with hlt | hge
    · have hin : decide (((j + 1 : Nat) : Int) ≤ ((n : Nat) : Int)) = true := decide_eq_true (by omega)
      have hinN : decide (j + 1 ≤ n) = true := decide_eq_true (by omega)
      have hin' : ((j + 1 : Nat) : Int) ≤ ((n : Nat) : Int) := by omega
      have hjw : IntKind.i64.wrap (((j + 1 : Nat) : Int) + 1) = ((j + 1 + 1 : Nat) : Int) := (IntWalk.i64_in _ (by omega)).trans (by omega)
      have HA := hid (HAT.out (j + 1) wr (HG.out.symm ▸ HX.out.2.trans (hb.mono (Nat.le_succ g))))
      have hc1 : cntL k ls (j + 1) = cntL k ls j + (if 0 < atL k ((j + 1 : Nat) : Int) ls then 1 else 0) := rfl
      have hcl := cntL_le k ls j
      obtain ⟨c, hc⟩ : ∃ c, cntL k ls j = c := ⟨_, rfl⟩
      obtain ⟨a, ha⟩ : ∃ a, atL k ((j + 1 : Nat) : Int) ls = a := ⟨_, rfl⟩
      obtain ⟨j1, hj1⟩ : ∃ j1, j + 1 = j1 := ⟨_, rfl⟩
      rw [ha] at HA hc1
      rw [hc] at hc1 hcl ⊢
      obtain ⟨c1, hc1e⟩ : ∃ c1, c + 1 = c1 := ⟨_, rfl⟩
      have hcw : IntKind.i64.wrap (((c : Nat) : Int) + 1) = ((c1 : Nat) : Int) := (IntWalk.i64_in _ (by omega)).trans (by omega)
      rw [hj1] at hin hinN hin' hjw HA hc1 ⊢
      have HJ := hid hj1
      clear hb ha hc hj1
      by_cases ha0 : 0 < a
      · have d1 : decide ((0 : Int) < ((a : Nat) : Int)) = true := decide_eq_true (by omega)
        have d2 : decide (0 < a) = true := decide_eq_true ha0
        rw [if_pos ha0, hc1e] at hc1
        have HC := hid hc1
        clear hc1
        go_wp2_with (go_at_call 59; refine HA.out.mono ?_; rintro e w1 ⟨rfl, hb1⟩; have HB1 := hid (HB.out.trans (hb1.mono (Nat.le_trans hgW HB.out.size))); clear hb1)
        go_roundw
        case rel => exact ⟨j1, by have := HJ.out; omega, rfl, by rw [HC.out], HB1.out⟩
        case measure => have := HJ.out; simp only [intOf, Int.toNat_natCast]; omega
      · have d1 : decide ((0 : Int) < ((a : Nat) : Int)) = false := decide_eq_false (by omega)
        have d2 : decide (0 < a) = false := decide_eq_false ha0
        rw [if_neg ha0] at hc1
        have HC := hid hc1
        clear hc1
        go_wp2_with (go_at_call 59; refine HA.out.mono ?_; rintro e w1 ⟨rfl, hb1⟩; have HB1 := hid (HB.out.trans (hb1.mono (Nat.le_trans hgW HB.out.size))); clear hb1)
        go_roundw
        case rel => exact ⟨j1, by have := HJ.out; omega, rfl, by rw [HC.out, Nat.add_zero], HB1.out⟩
        case measure => have := HJ.out; simp only [intOf, Int.toNat_natCast]; omega
    · obtain rfl : j = n := by omega
      have hin : ¬ ((j + 1 : Nat) : Int) ≤ ((j : Nat) : Int) := by omega
      have hinD : decide (((j + 1 : Nat) : Int) ≤ ((j : Nat) : Int)) = false := decide_eq_false hin
      have hinN : decide (j + 1 ≤ j) = false := decide_eq_false (by omega)
      clear hb
      go_wp2_with fail
      go_ret
      exact ⟨rfl, by rw [HG.out]; exact HX.out.2.trans (HB.out.mono (Nat.le_succ g))⟩
end Go.Proofs.YtbcileppebpamaaGreatDoor
set_option linter.unusedSimpArgs false
set_option linter.unusedVariables false
namespace Go.Proofs.YtbcileppebpamaaGreatDoor
open Go Go.RowKit
set_option maxRecDepth 100000
/-- An operation, by its guard. -/
def gStep (P : Program) (o : Oper) (A : Act) (B : World) (K : Act → World → Prop) (Q : Exit → Act → World → Prop) (ds : List Tmp) (j : Nat) : Prop :=
  match o.guard with
  | none => o.wp P A B K Q
  | some (i, want) => ∃ b : Bool, A.eval (.tmp (ds.getD i 0)) = .bool b ∧ (if b = want then o.wp P A B K Q else K (A.put (some (ds.getD j 0)) undef) B)
section
variable {P : Program} {o : Oper} {A : Act} {B : World} {K : Act → World → Prop} {Q : Exit → Act → World → Prop} {ds : List Tmp} {j i : Nat} {want b : Bool}
theorem gG_none (hg : o.guard = none) (h : o.wp P A B K Q) : gStep P o A B K Q ds j := by
  unfold gStep
  rw [hg]
  exact h
theorem gG_on (hg : o.guard = some (i, want)) (hb : A.eval (.tmp (ds.getD i 0)) = .bool want) (h : o.wp P A B K Q) : gStep P o A B K Q ds j := by
  unfold gStep
  rw [hg]
  exact ⟨want, hb, by rw [if_pos rfl]; exact h⟩
theorem gG_off (hg : o.guard = some (i, want)) (hb : A.eval (.tmp (ds.getD i 0)) = .bool b) (hne : b ≠ want) (h : K (A.put (some (ds.getD j 0)) undef) B) : gStep P o A B K Q ds j := by
  unfold gStep
  rw [hg]
  exact ⟨b, hb, by rw [if_neg hne]; exact h⟩
end
/-- What can be checked of the head. -/
def growBG (ops : Array Oper) (n : Nat) (ds : List Tmp) (size : Nat) : Bool :=
  decide (n < ops.size) && Region.sinkB .any ops n && Region.chainB .any ops n && Region.seqB .any ops (ops.size - n) n (headL ops.size n) && decide (ds.length = n) &&
  (List.range n).all (fun j => match ops[j]? with
    | some o => (match o.guard with | none => true | some (i, _) => decide (i < j)) && decide (o.dst = some (ds.getD j 0)) && o.after.all (fun e => !Region.binds .any e || decide (e.on < j))
    | none => false) &&
  ds.all (fun d => decide (d < size)) && (List.range n).all (fun i => (List.range n).all fun j => decide (i = j) || decide (ds.getD i 0 ≠ ds.getD j 0))
section
variable {P : Program} {ops : Array Oper}
theorem grow_anyG {n : Nat} {ds : List Tmp} {Q' : Exit → Act → World → Prop} (D : Nat → Value → World → Prop) (blk : Nat → Value → Nat → Prop) (w0 : World) (a0 : Act) (hB : growBG ops n ds a0.tmps.size = true)
    (hmono : ∀ j v w w', Below w.heap.size w w' → D j v w → D j v w')
    (hblk : ∀ j v w b, D j v w → blk j v b → b < w.heap.size)
    (hstep : ∀ j oj, j < n → ops[j]? = some oj → ∀ a w, Below w0.heap.size w0 w → (∀ t, t ∉ ds → a.eval (.tmp t) = a0.eval (.tmp t)) →
      (∀ e ∈ oj.after, Region.binds .any e = true → D e.on (a.eval (.tmp (ds.getD e.on 0))) w) →
      ∀ (K : Act → World → Prop), (∀ v w', Below w.heap.size w w' → D j v w' → (∀ b, blk j v b → w.heap.size ≤ b) → K (a.put (some (ds.getD j 0)) v) w') → gStep P oj a w K Q' ds j)
    (g : Nat) (_ : g = ops.size - n)
    (htail : ∀ vs w', Below w0.heap.size w0 w' → (∀ j, j < n → D j (vs j) w') → (∀ i j b, i < n → j < n → i ≠ j → blk i (vs i) b → ¬ blk j (vs j) b) → (∀ i b, i < n → blk i (vs i) b → w0.heap.size ≤ b) →
      wpAny P .any ops Q' g (headL ops.size n) (puts vs ds 0 a0) w') :
    ∀ (f : Nat) (listed : Array Bool) (a : Act) (w : World) (vs : Nat → Value), HeadInv .any ops n listed → cntU listed n = f → Grown n ds D blk w0 a0 listed a w vs → wpAny P .any ops Q' (f + g) listed a w := by
  simp only [growBG, Bool.and_eq_true, decide_eq_true_eq, List.all_eq_true, List.mem_range] at hB
  obtain ⟨⟨⟨⟨⟨⟨⟨hn, hs⟩, hc⟩, hseq⟩, hlen⟩, hops⟩, hds⟩, hinj0⟩ := hB
  have hop : ∀ j, j < n → ∃ o, ops[j]? = some o ∧ (∀ i want, o.guard = some (i, want) → i < j) ∧ o.dst = some (ds.getD j 0) ∧ ∀ e ∈ o.after, Region.binds .any e = true → e.on < j := by
    intro j hj
    have h := hops j hj
    cases ho : ops[j]? with
    | none => rw [ho] at h; cases h
    | some o =>
      rw [ho] at h
      simp only [Bool.and_eq_true, decide_eq_true_eq, Option.isNone_iff_eq_none, Array.all_eq_true_iff_forall_mem, Bool.or_eq_true, Bool.not_eq_true'] at h
      refine ⟨o, rfl, fun i want hg => by
        have h0 := h.1.1
        rw [hg] at h0
        simpa using h0, h.1.2, fun e he hb => ?_⟩
      rcases h.2 e he with h3 | h3
      · rw [hb] at h3; cases h3
      · exact h3
  have hinj : ∀ i j, i < n → j < n → ds.getD i 0 = ds.getD j 0 → i = j := fun i j hi hj he => by
    have h := hinj0 i hi j hj
    simp only [Bool.or_eq_true, decide_eq_true_eq] at h
    exact h.resolve_right fun h2 => h2 he
  intro f
  induction f with
  | zero =>
    intro listed a w vs inv hcnt hG
    have hall := cntU_zero n hcnt
    have hl : listed = headL ops.size n := by
      apply Array.ext
      · rw [inv.size]; simp [headL]
      · intro i h1 h2
        have h3 : i < ops.size := by rw [← inv.size]; exact h1
        have h4 : listed[i] = listed.getD i true := by rw [Array.getD_eq_getD_getElem?, Array.getElem?_eq_getElem h1]; rfl
        simp only [headL, Array.getElem_ofFn]
        rw [h4]
        rcases Nat.lt_or_ge i n with h | h
        · rw [hall i h, decide_eq_true h]
        · rw [inv.tail i h h3, decide_eq_false (by omega)]
    rw [Nat.zero_add, hG.act, putL_all ds vs a0 n (by omega) hall, List.take_of_length_le (by omega), hl]
    exact htail vs w hG.bel (fun j hj => hG.done j hj (hall j hj)) (fun i j b hi hj hij => hG.apart i j b hi hj hij (hall i hi) (hall j hj)) (fun i b hi => hG.new i b hi (hall i hi))
  | succ f ih =>
    intro listed a w vs inv hcnt hG
    rw [show f + 1 + g = (f + g) + 1 by omega]
    -- an operation that is ready
    have hex : ∃ j, j < n ∧ listed.getD j true = false := by
      apply Classical.byContradiction
      intro hno
      have : ∀ m, m ≤ n → cntU listed m = 0 := fun m => by
        induction m with
        | zero => intro _; rfl
        | succ m ihm =>
          intro hm
          rw [cntU, ihm (by omega)]
          cases hv : listed.getD m true with
          | true => rfl
          | false => exact absurd ⟨m, by omega, hv⟩ hno
      rw [this n (Nat.le_refl _)] at hcnt
      cases hcnt
    have hun : ∃ j, j < n ∧ listed.getD j true = false ∧ ∀ i, i < j → listed.getD i true = true := by
      obtain ⟨j0, h1, h2⟩ := hex
      have : ∀ m, m ≤ j0 → (∃ j, j < n ∧ listed.getD j true = false ∧ ∀ i, i < j → listed.getD i true = true) ∨ ∀ i, i < m → listed.getD i true = true := fun m => by
        induction m with
        | zero => exact fun _ => .inr fun i hi => by omega
        | succ m ihm =>
          intro hm
          rcases ihm (by omega) with h | h
          · exact .inl h
          · cases hv : listed.getD m true with
            | true => exact .inr fun i hi => by by_cases e : i = m; (rw [e]; exact hv); exact h i (by omega)
            | false => exact .inl ⟨m, by omega, hv, h⟩
      rcases this j0 (Nat.le_refl _) with h | h
      · exact h
      · exact ⟨j0, h1, h2, h⟩
    have fd : ∀ {i}, i < n → listed.getD i true = true → listed.getD i false = true := fun {i} hi h => by
      have hlt : i < listed.size := by rw [inv.size]; omega
      rw [Array.getD_eq_getD_getElem?, Array.getElem?_eq_getElem hlt] at h ⊢
      exact h
    refine ⟨fun h0 => ?_, fun j hj => ?_⟩
    · obtain ⟨j, h1, h2, h3⟩ := hun
      obtain ⟨o, ho, _, _, ha⟩ := hop j h1
      have : j ∈ Region.ready .any ops listed := mem_ready.2 ⟨h2, o, ho, fun e he hb => fd (by have := ha e he hb; omega) (h3 _ (ha e he hb))⟩
      rw [h0] at this
      cases this
    · have hjn : j < n := by
        apply Classical.byContradiction
        intro hno
        obtain ⟨i, h1, h2⟩ := hex
        exact tail_waits hs hc hn inv (n - i) i rfl h1 h2 j (by omega) hj
      obtain ⟨hu, o', ho', haf⟩ := mem_ready.1 hj
      obtain ⟨o, ho, hgd, hdst, ha⟩ := hop j hjn
      obtain rfl : o' = o := Option.some.inj (ho'.symm.trans ho)
      unfold wpOp
      simp only [ho]
      obtain ⟨e1, e2⟩ := eval_putL listed ds vs a0 n (by omega) (fun d hd => by simpa using hds d hd)
      have hE1 : ∀ t, t ∉ ds → a.eval (.tmp t) = a0.eval (.tmp t) := by
        intro t ht
        rw [hG.act]
        refine e1 t fun i hi h => ht ?_
        rw [← h, List.getD_eq_getElem?_getD, List.getElem?_eq_getElem (by omega)]
        exact List.getElem_mem _
      have hE2 : ∀ e ∈ o'.after, Region.binds .any e = true → D e.on (a.eval (.tmp (ds.getD e.on 0))) w := by
        intro e he hb
        have h1 := ha e he hb
        have h2 : listed.getD e.on true = true := by
          have h3 := haf e he hb
          have hlt : e.on < listed.size := by rw [inv.size]; omega
          rw [Array.getD_eq_getD_getElem?, Array.getElem?_eq_getElem hlt] at h3 ⊢
          exact h3
        rw [hG.act, e2 hinj e.on (by omega) h2]
        exact hG.done e.on (by omega) h2
      have hcont : ∀ v w', Below w.heap.size w w' → D j v w' → (∀ b, blk j v b → w.heap.size ≤ b) → wpAny P .any ops Q' (f + g) (listed.setIfInBounds j true) (a.put (some (ds.getD j 0)) v) w' := by
        intro v w' hb hD hnew
        refine ih (listed.setIfInBounds j true) _ w' (upd1 vs j v) (inv.set hj hjn) (by have := cntU_set hu n hjn; omega) ⟨?_, ?_, fun i hi hl => ?_, fun i k b hi hk hik hli hlk => ?_, fun i b hi hl => ?_⟩
        · exact hG.bel.trans (hb.mono hG.bel.size)
        · rw [hG.act]
          exact putL_set a0 v hu n hjn fun i hi hne he => hne (hinj i j hi hjn he)
        · unfold upd1
          by_cases e : i = j
          · subst e; rw [if_pos rfl]; exact hD
          · rw [if_neg e]
            rw [getD_set_ne true (fun h => e h.symm)] at hl
            exact hmono _ _ _ _ hb (hG.done i hi hl)
        · unfold upd1
          by_cases e1 : i = j
          · subst e1
            rw [if_pos rfl, if_neg (fun h => hik h.symm)]
            rw [getD_set_ne true hik] at hlk
            intro hb1 hb2
            have h1 := hnew b hb1
            have h2 := hblk _ _ _ _ (hG.done k hk hlk) hb2
            omega
          · rw [if_neg e1]
            rw [getD_set_ne true (fun h => e1 h.symm)] at hli
            by_cases e2 : k = j
            · subst e2
              rw [if_pos rfl]
              intro hb1 hb2
              have h1 := hnew b hb2
              have h2 := hblk _ _ _ _ (hG.done i hi hli) hb1
              omega
            · rw [if_neg e2]
              rw [getD_set_ne true (fun h => e2 h.symm)] at hlk
              exact hG.apart i k b hi hk hik hli hlk
        · unfold upd1
          by_cases e : i = j
          · subst e
            rw [if_pos rfl]
            intro hb1
            have := hnew b hb1
            have := hG.bel.size
            omega
          · rw [if_neg e]
            rw [getD_set_ne true (fun h => e h.symm)] at hl
            exact hG.new i b hi hl
      have hs2 := hstep j o' hjn ho a w hG.bel hE1 hE2 _ hcont
      · skip
        unfold gStep at hs2
        cases hg : o'.guard with
        | none =>
          rw [hg] at hs2
          rw [if_pos (by simp [Region.wanted, hg])]
          exact .inl hs2
        | some iw =>
          obtain ⟨i, want⟩ := iw
          rw [hg] at hs2
          obtain ⟨b, hb1, hb2⟩ := hs2
          have hij := hgd i want hg
          obtain ⟨oi, hoi, _, hdi, _⟩ := hop i (by omega)
          have hdl : ds.getD i 0 < a.tmps.size := by
            have hm : ds.getD i 0 ∈ ds := by
              rw [List.getD_eq_getElem?_getD, List.getElem?_eq_getElem (by omega)]
              exact List.getElem_mem _
            have := hds _ hm
            rw [hG.act, size_putL]
            simpa using this
          have hy : yielded ops a.tmps i = some b := by
            have h1 : a.tmps[ds.getD i 0]? = some (.bool b) := by
              rw [Array.getElem?_eq_getElem hdl]
              have h2 := hb1
              simp only [Act.eval, Array.getD_eq_getD_getElem?, Array.getElem?_eq_getElem hdl, Option.getD_some] at h2
              rw [h2]
            simp only [yielded, hoi, hdi, Option.bind_some, h1]
          by_cases hbw : b = want
          · rw [if_pos (by simp [Region.wanted, hg, hy, hbw])]
            rw [if_pos hbw] at hb2
            exact .inl hb2
          · rw [if_neg (by simp [Region.wanted, hg, hy, hbw])]
            rw [if_neg hbw] at hb2
            rw [hdst]
            exact hb2
end
/-- The whole region. -/
theorem grow_regionG {P : Program} {id : Nat} {Q : Exit → Act → World → Prop} {a : Act} {w : World} {l : List Oper} (n : Nat) (ds : List Tmp) (hm : P.follows .mixedOrders = true) (hB : growBG l.toArray n ds a.tmps.size = true)
    (D : Nat → Value → World → Prop) (blk : Nat → Value → Nat → Prop)
    (hmono : ∀ j v w w', Below w.heap.size w w' → D j v w → D j v w')
    (hblk : ∀ j v w b, D j v w → blk j v b → b < w.heap.size)
    (hstep : ∀ j oj, j < n → l.toArray[j]? = some oj → ∀ a' w', Below w.heap.size w w' → (∀ t, t ∉ ds → a'.eval (.tmp t) = a.eval (.tmp t)) →
      (∀ e ∈ oj.after, Region.binds .any e = true → D e.on (a'.eval (.tmp (ds.getD e.on 0))) w') →
      ∀ (K : Act → World → Prop), (∀ v w'', Below w'.heap.size w' w'' → D j v w'' → (∀ b, blk j v b → w'.heap.size ≤ b) → K (a'.put (some (ds.getD j 0)) v) w'') → gStep P oj a' w' K Q ds j)
    (htail : ∀ vs w', Below w.heap.size w w' → (∀ j, j < n → D j (vs j) w') → (∀ i j b, i < n → j < n → i ≠ j → blk i (vs i) b → ¬ blk j (vs j) b) → (∀ i b, i < n → blk i (vs i) b → w.heap.size ≤ b) →
      wpList P l.toArray Q (l.drop n) (puts vs ds 0 a) w') : (Code.region id l.toArray true).wp P Q a w := by
  have hB' := hB
  simp only [growBG, Bool.and_eq_true, decide_eq_true_eq] at hB'
  obtain ⟨⟨⟨⟨⟨⟨⟨hn, hs⟩, hc⟩, hseq⟩, hlen⟩, _⟩, _⟩, _⟩ := hB'
  refine region_any hm ?_
  have hd0 : Below w.heap.size w w.drew := ⟨rfl, rfl, rfl, Nat.le_refl _, fun _ _ => rfl⟩
  have hsz : w.drew.heap.size = w.heap.size := rfl
  have hdl : (l.drop n).length = l.toArray.size - n := by simp
  have inv0 : HeadInv .any l.toArray n (Array.replicate l.toArray.size false) :=
    ⟨by simp, fun j oj _ hl => (by rw [getD_replicate_false] at hl; cases hl), fun t _ ht => getD_in (by simpa using ht) (getD_replicate_false _ _)⟩
  have hrep : ∀ m, m ≤ n → cntU (Array.replicate l.toArray.size false) m = m := fun m => by
    induction m with
    | zero => intro _; rfl
    | succ m ih =>
      intro hm
      have h0 : (Array.replicate l.toArray.size false).getD m true = false := by
        rw [Array.getD_eq_getD_getElem?, Array.getElem?_replicate, if_pos (by omega)]
        rfl
      rw [cntU, ih (by omega), h0, if_neg (by simp)]
      omega
  have hfalse : ∀ j, j < n → (Array.replicate l.toArray.size false).getD j true = false := fun j hj => by
    rw [Array.getD_eq_getD_getElem?, Array.getElem?_replicate, if_pos (by omega)]
    rfl
  have hput0 : ∀ m, m ≤ n → putL (Array.replicate l.toArray.size false) ds (fun _ => undef) m a = a := fun m => by
    induction m with
    | zero => intro _; rfl
    | succ m ih => intro hm; rw [putL, hfalse m (by omega), if_neg (by simp), ih (by omega)]
  have h := grow_anyG (P := P) (ops := l.toArray) (n := n) (ds := ds) (Q' := Q) D blk w.drew a hB hmono hblk
    (fun j oj hj hoj a' w' hb he hdep K hK => hstep j oj hj hoj a' w' (hd0.trans hb) he hdep K hK) (l.drop n).length hdl
    (fun vs w' hb hD hap hnw => wpAny_of_seq (l.drop n) n _ _ w' (fun j => by simp [List.getElem?_drop]) (by rw [hdl]; exact hseq) (htail vs w' (hd0.trans hb) hD hap hnw))
    n (Array.replicate l.toArray.size false) a w.drew (fun _ => undef) inv0 (hrep n (Nat.le_refl _))
    ⟨Below.refl _ _, (hput0 n (Nat.le_refl _)).symm, fun j hj hl => (by rw [hfalse j hj] at hl; cases hl), fun i j b hi _ _ hl => (by rw [hfalse i hi] at hl; cases hl), fun i b hi hl => (by rw [hfalse i hi] at hl; cases hl)⟩
  rwa [hdl, show n + (l.toArray.size - n) = l.toArray.size by omega] at h
end Go.Proofs.YtbcileppebpamaaGreatDoor
