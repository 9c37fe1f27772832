/- Lemmas for WitnessDraws: part 19. -/
import Derived.Test.YtbcileppebpamaaGreatDoorKb07
import Derived.Test.YtbcileppebpamaaGreatDoorKb10
import Derived.Test.YtbcileppebpamaaGreatDoorKb18
set_option linter.unusedSimpArgs false
set_option linter.unusedVariables false
namespace Go.Proofs.YtbcileppebpamaaGreatDoor
open Go Go.RowKit Go.Shelf
set_option maxRecDepth 100000
/-- A slice of deviants in memory. -/
def ReadsD (w : World) (v : Value) (ds : List Dv) : Prop := (ds = [] ∧ ∃ a c, v = .slice a 0 c) ∨ ∃ g o c, v = .slice (some ⟨g, o, none⟩) ds.length c ∧ g < w.heap.size ∧ ∀ (i : Nat) x, ds[i]? = some x → ∀ k, k < 4 → w.cell? ⟨g, o + i * 4 + k, none⟩ = x.cells[k]?
theorem ReadsD.form {w : World} {v : Value} {ds : List Dv} (h : ReadsD w v ds) : ∃ p c, v = .slice p ds.length c := by
  rcases h with ⟨rfl, a, c, rfl⟩ | ⟨g, o, c, rfl, _⟩
  · exact ⟨a, c, rfl⟩
  · exact ⟨_, _, rfl⟩
theorem ReadsD.below {w w' : World} {v : Value} {ds : List Dv} (h : ReadsD w v ds) (hb : Below w.heap.size w w') : ReadsD w' v ds := by
  rcases h with h | ⟨g, o, c, h1, h2, h3⟩
  · exact .inl h
  · exact .inr ⟨g, o, c, h1, Nat.lt_of_lt_of_le h2 hb.size, fun i x hx k hk => (hb.cell (p := ⟨g, o + i * 4 + k, none⟩) h2).trans (h3 i x hx k hk)⟩
theorem ReadsD.at' {w : World} {p : Option Addr} {n c : Nat} {ds : List Dv} (h : ReadsD w (.slice p n c) ds) {i : Nat} {x : Dv} (hi : ds[i]? = some x) : ∃ b o, p = some ⟨b, o, none⟩ ∧ b < w.heap.size ∧ w.cell? ⟨b, o + i * 4, none⟩ = some (.int .i64 ((x.p : Nat) : Int)) ∧ w.cell? ⟨b, o + i * 4 + 1, none⟩ = some (.int .i64 x.k) ∧ w.cell? ⟨b, o + i * 4 + 2, none⟩ = some (.int .i64 ((x.s : Nat) : Int)) ∧ w.cell? ⟨b, o + i * 4 + 3, none⟩ = some (.int .i64 ((x.l : Nat) : Int)) := by
  rcases h with ⟨rfl, _⟩ | ⟨g, o, c', h1, h2, h3⟩
  · simp at hi
  · injection h1 with e1 _ _
    exact ⟨g, o, e1, h2, h3 i x hi 0 (by omega), h3 i x hi 1 (by omega), h3 i x hi 2 (by omega), h3 i x hi 3 (by omega)⟩
theorem DvO.readsD {W : World} {B : Nat} {v : Value} {ds : List Dv} (h : DvO W B v ds) : ReadsD W v ds := by
  rcases h.2 with ⟨rfl, h0⟩ | ⟨g, cap, cur, rfl, hBg, hg, hcap, _, _, htake⟩
  · exact .inl ⟨List.eq_nil_of_length_eq_zero h0, none, 0, rfl⟩
  · refine .inr ⟨g, 0, cap, rfl, heap_lt hg, fun i x hx k hk => ?_⟩
    have hi := (List.getElem?_eq_some_iff.1 hx).1
    rw [Nat.zero_add, cell_of_row _ _ _ _ _ (0, 0) hg]
    have h1 : (ds.flatMap Dv.cells)[i * 4 + k]? = x.cells[k]? := flat_getL Dv.cells 4 (fun _ => rfl) ds i x k hx hk
    rw [← h1, ← htake, List.getElem?_take, if_pos (by omega), Array.getElem?_toList]
set_option maxHeartbeats 4000000 in
theorem samedev_c (v1 v2 : Value) (ds : List Dv) (W : World) (h1 : ReadsD W v1 ds) (h2 : ReadsD W v2 ds) (hl : ds.length ≤ 100000) :
    Calls Tryz.prog 28 #[v1, v2] W fun e w' => e = .returned (.bool true) ∧ Below W.heap.size W w' := by
  obtain ⟨p1, c1, rfl⟩ := h1.form
  obtain ⟨p2, c2, rfl⟩ := h2.form
  obtain ⟨m, hm⟩ : ∃ m, ds.length = m := ⟨_, rfl⟩
  rw [hm] at h1 h2 hl ⊢
  have H1 := hid h1
  have H2 := hid h2
  have HM := hid hm
  have e0 : (((m : Nat) : Int) != ((m : Nat) : Int)) = false := by simp
  clear h1 h2 hm
  go_enter Tryz.func28, Tryz.ntmps28
  go_wp2_with fail
  go_loopw [5] (fun ix wr => ∃ i : Nat, i ≤ m ∧ ix = .int .i64 ((i : Nat) : Int) ∧ Below W.heap.size W wr) (fun ix _ => m - (intOf ix).toNat)
  case atStart => exact ⟨0, by omega, rfl, Below.refl _ _⟩
  case round =>
    obtain ⟨i, hi, rfl, hb⟩ := hrel
    rcases Nat.lt_or_ge i m with hlt | hge
    · have hin : decide (((i : Nat) : Int) < ((m : Nat) : Int)) = true := decide_eq_true (by omega)
      have hin' : ((i : Nat) : Int) < ((m : Nat) : Int) := by omega
      have hi0 : (0 : Int) ≤ ((i : Nat) : Int) := by omega
      obtain ⟨i1, hi1⟩ : ∃ i1, i + 1 = i1 := ⟨_, rfl⟩
      have hiw : IntKind.i64.wrap (((i : Nat) : Int) + 1) = ((i1 : Nat) : Int) := (IntWalk.i64_in _ (by omega)).trans (by omega)
      obtain ⟨x, hx⟩ : ∃ x, ds[i]? = some x := ⟨_, List.getElem?_eq_getElem (by rw [HM.out]; exact hlt)⟩
      obtain ⟨g1, o1, q1, _, f0, f1, f2, f3⟩ := (H1.out.below hb).at' hx
      obtain ⟨g2, o2, q2, _, k0, k1, k2, k3⟩ := (H2.out.below hb).at' hx
      subst q1 q2
      obtain ⟨xp, xk, xs, xl⟩ := x
      simp only at f0 f1 f2 f3 k0 k1 k2 k3
      have HB := hid hb
      have HI := hid hi1
      clear hx hb hi1
      go_upto_region 6 with fail
      go_quiet (fail)
      have hbq := HB.out.trans ((below_drewN (Below.refl _ _) nq : Below wr.heap.size wr (wr.drewN nq)).mono HB.out.size)
      generalize wr.drewN nq = w2 at hbq ⊢
      have HB2 := hid hbq
      clear hbq f0 f1 f2 f3 k0 k1 k2 k3
      go_wp2_with fail
      go_roundw
      case rel => exact ⟨i1, by have := HI.out; omega, rfl, HB2.out⟩
      case measure => have := HI.out; simp only [intOf, Int.toNat_natCast]; omega
    · obtain rfl : i = m := by omega
      have hin : ¬ ((i : Nat) : Int) < ((i : Nat) : Int) := by omega
      have HB := hid hb
      clear hb
      go_wp2_with fail
      go_ret
      exact ⟨rfl, HB.out⟩
set_option maxHeartbeats 4000000 in
theorem samerep_c (b n : Nat) (o : Bool) (v : Int) (u1 u2 : Value) (ds : List Dv) (W : World) (h1 : ReadsD W u1 ds) (h2 : ReadsD W u2 ds) (hl : ds.length ≤ 100000) :
    Calls Tryz.prog 15 #[.agg (repV b n o v u1), .agg (repV b n o v u2)] W fun e w' => e = .returned (.bool true) ∧ Below W.heap.size W w' := by
  unfold repV
  obtain ⟨p1, c1, rfl⟩ := h1.form
  obtain ⟨p2, c2, rfl⟩ := h2.form
  have HS := hid (fun V (hV : Below W.heap.size W V) => samedev_c _ _ ds V (h1.below hV) (h2.below hV) hl)
  obtain ⟨m, hm⟩ : ∃ m, ds.length = m := ⟨_, rfl⟩
  rw [hm] at HS ⊢
  have hx := heap_alloc_new W (.cells #[.int .i64 ((b : Nat) : Int), .int .i64 ((n : Nat) : Int), .bool o, .int .i64 v, .slice p1 m c1] 37)
  obtain ⟨U1, hU1⟩ : ∃ U, W.alloc (.cells #[.int .i64 ((b : Nat) : Int), .int .i64 ((n : Nat) : Int), .bool o, .int .i64 v, .slice p1 m c1] 37) = U := ⟨_, rfl⟩
  have hs1 : U1.heap.size = W.heap.size + 1 := by rw [← hU1]; simp
  have hb1 : Below W.heap.size W U1 := by rw [← hU1]; exact (Below.refl _ _).alloc (Nat.le_refl _) _
  rw [hU1] at hx
  have hy := heap_alloc_new U1 (.cells #[.int .i64 ((b : Nat) : Int), .int .i64 ((n : Nat) : Int), .bool o, .int .i64 v, .slice p2 m c2] 37)
  have hb2 : Below U1.heap.size U1 (U1.alloc (.cells #[.int .i64 ((b : Nat) : Int), .int .i64 ((n : Nat) : Int), .bool o, .int .i64 v, .slice p2 m c2] 37)) := (Below.refl _ _).alloc (Nat.le_refl _) _
  have hx2 := heap_below hb2 hx (heap_lt hx)
  rw [hs1] at hy
  have hbb := hb1.trans (hb2.mono (by omega))
  rw [← hU1] at hx2 hy hbb
  have HX := hid (And.intro hx2 (And.intro hy hbb))
  clear hx hb1 hb2 hx2 hy hbb hs1 hU1 h1 h2
  go_enter Tryz.func15, Tryz.ntmps15
  go_upto_region 1 with fail
  try simp only [World.size_alloc]
  generalize (W.alloc (.cells #[.int .i64 ((b : Nat) : Int), .int .i64 ((n : Nat) : Int), .bool o, .int .i64 v, .slice p1 m c1] 37)).alloc (.cells #[.int .i64 ((b : Nat) : Int), .int .i64 ((n : Nat) : Int), .bool o, .int .i64 v, .slice p2 m c2] 37) = W0 at HX ⊢
  have f0 := cell_of_row _ _ 0 _ _ _ HX.out.1
  have f1 := cell_of_row _ _ 1 _ _ _ HX.out.1
  have f2 := cell_of_row _ _ 2 _ _ _ HX.out.1
  have f3 := cell_of_row _ _ 3 _ _ _ HX.out.1
  have f4 := cell_of_row _ _ 4 _ _ _ HX.out.1
  have k0 := cell_of_row _ _ 0 _ _ _ HX.out.2.1
  have k1 := cell_of_row _ _ 1 _ _ _ HX.out.2.1
  have k2 := cell_of_row _ _ 2 _ _ _ HX.out.2.1
  have k3 := cell_of_row _ _ 3 _ _ _ HX.out.2.1
  have k4 := cell_of_row _ _ 4 _ _ _ HX.out.2.1
  have e1 : (o == o) = true := by simp
  have e2 : (v == v) = true := by simp
  have HSC := hid (HS.out W0 HX.out.2.2)
  go_wp2_with (go_at_call 28; refine HSC.out.mono ?_; rintro e w2 ⟨rfl, hb2⟩; have HB2 := hid (HX.out.2.2.trans (hb2.mono HX.out.2.2.size)); clear hb2)
  go_ret
  exact ⟨rfl, HB2.out⟩
end Go.Proofs.YtbcileppebpamaaGreatDoor
set_option linter.unusedSimpArgs false
set_option linter.unusedVariables false
namespace Go.Proofs.YtbcileppebpamaaGreatDoor
open Go Go.RowKit Go.Shelf
set_option maxRecDepth 100000
theorem atL_app (k p : Int) (ls : List RL) (x : RL) : atL k p (ls ++ [x]) = if 0 < atL k p ls then atL k p ls else if isL k p x = true then ls.length + 2 else 0 := by
  unfold atL
  rw [List.findIdx?_append]
  cases h : ls.findIdx? (isL k p) with
  | some i => simp
  | none =>
    cases hx : isL k p x with
    | true => simp [List.findIdx?_cons, hx]
    | false => simp [List.findIdx?_cons, hx]
theorem isL_iff (k p : Int) (x : RL) : isL k p x = true ↔ x.k = k ∧ x.p = p := by
  rw [isL, Bool.and_eq_true, beq_iff_eq, beq_iff_eq]
theorem cntL_other (k : Int) (ls : List RL) (x : RL) (h : x.k ≠ k ∨ x.p < 1) : ∀ n, cntL k (ls ++ [x]) n = cntL k ls n
  | 0 => rfl
  | n + 1 => by
    have hx : isL k ((n + 1 : Nat) : Int) x = false := Bool.eq_false_iff.2 fun e => by
      obtain ⟨e1, e2⟩ := (isL_iff _ _ _).1 e
      rcases h with h | h
      · exact h e1
      · omega
    rw [cntL, cntL, cntL_other k ls x h n, atL_app, hx]
    by_cases h0 : 0 < atL k ((n + 1 : Nat) : Int) ls
    · rw [if_pos h0]
    · rw [Nat.eq_zero_of_not_pos h0]
      simp
theorem cntL_more (k : Int) (ls : List RL) (x : RL) (hk : x.k = k) (h0 : atL k x.p ls = 0) : ∀ n, (1 ≤ x.p ∧ x.p ≤ ((n : Nat) : Int) → cntL k (ls ++ [x]) n = cntL k ls n + 1) ∧ (((n : Nat) : Int) < x.p → cntL k (ls ++ [x]) n = cntL k ls n)
  | 0 => ⟨fun h => by omega, fun _ => rfl⟩
  | n + 1 => by
    obtain ⟨i1, i2⟩ := cntL_more k ls x hk h0 n
    by_cases he : x.p = ((n + 1 : Nat) : Int)
    · refine ⟨fun _ => ?_, fun h => by omega⟩
      rw [cntL, cntL, i2 (by omega), atL_app, ← he, h0, (isL_iff k x.p x).2 ⟨hk, rfl⟩]
      simp
    · have hx : isL k ((n + 1 : Nat) : Int) x = false := Bool.eq_false_iff.2 fun e => he ((isL_iff _ _ _).1 e).2
      have e : (0 < atL k ((n + 1 : Nat) : Int) (ls ++ [x])) = (0 < atL k ((n + 1 : Nat) : Int) ls) := by
        rw [atL_app, hx]
        by_cases h0 : 0 < atL k ((n + 1 : Nat) : Int) ls
        · rw [if_pos h0]
        · rw [if_neg h0, if_neg (by decide)]
          exact propext ⟨fun h => absurd h (by omega), fun h => absurd h h0⟩
      refine ⟨fun h => ?_, fun h => ?_⟩
      · rw [cntL, cntL, i1 (by omega)]
        simp only [e]
        omega
      · rw [cntL, cntL, i2 (by omega)]
        simp only [e]
theorem cntL_all (k : Int) (ls : List RL) : ∀ n, cntL k ls n = n → ∀ p : Nat, 1 ≤ p → p ≤ n → 0 < atL k ((p : Nat) : Int) ls
  | 0, _, p, h1, h2 => by omega
  | n + 1, h, p, h1, h2 => by
    have hl := cntL_le k ls n
    rw [cntL] at h
    by_cases h0 : 0 < atL k ((n + 1 : Nat) : Int) ls
    · rw [if_pos h0] at h
      by_cases e : p = n + 1
      · rw [e]; exact h0
      · exact cntL_all k ls n (by omega) p h1 (by omega)
    · rw [if_neg h0] at h
      omega
theorem rightL_app (p : Int) (ls : List RL) (x : RL) (h1 : 0 < atL 1 p ls) (h2 : 0 < atL 2 p ls) : rightL p (ls ++ [x]) = rightL p ls := by
  obtain ⟨i, y, e1, _, _, _, hi⟩ := atL_at _ _ _ h1
  obtain ⟨j, z, e2, _, _, _, hj⟩ := atL_at _ _ _ h2
  have a1 : atL 1 p (ls ++ [x]) = atL 1 p ls := by rw [atL_app, if_pos h1]
  have a2 : atL 2 p (ls ++ [x]) = atL 2 p ls := by rw [atL_app, if_pos h2]
  rw [rightL, rightL, a1, a2, e1, e2, Nat.add_sub_cancel, Nat.add_sub_cancel, List.getElem?_append_left hi, List.getElem?_append_left hj]
/-- What is told by a line, as a number. -/
def lineV (x : RL) : Nat := if x.k = 2 then x.v.toNat else 0
def sumN (ls : List RL) : Nat := (ls.map lineV).sum
def sumP (ps : List PS) : Nat := (ps.map fun p => p.v.toNat).sum
/-- A line that can stand in a drawing. -/
def Fit (b n : Nat) (x : RL) : Prop := (x.k = 1 ∧ (1 ≤ x.p ∧ x.p ≤ ((n : Nat) : Int)) ∧ isHashL x.h.data.toList = true) ∨ (x.k = 2 ∧ (1 ≤ x.p ∧ x.p ≤ ((n : Nat) : Int)) ∧ (0 ≤ x.v ∧ x.v ≤ ((b : Nat) : Int) - 1) ∧ isSaltL x.s.data.toList = true) ∨ (x.k = 3 ∧ x.p = 0)
structure RelP (ls : List RL) (j : Nat) (p : PS) : Prop where
  s : p.s = atL 1 ((j + 1 : Nat) : Int) ls
  o : p.o = atL 2 ((j + 1 : Nat) : Int) ls
  h : ∀ i x, atL 1 ((j + 1 : Nat) : Int) ls = i + 2 → ls[i]? = some x → p.h = x.h
  r : 0 < p.o → p.r = rightL ((j + 1 : Nat) : Int) ls
  b : 0 < p.o → 0 < p.s
  v0 : p.o = 0 → p.v = 0
/-- A drawing has done what its lines say. -/
structure Rel (b n : Nat) (D : DS) (ls : List RL) : Prop where
  below : D.below = b
  len : D.ps.length = n
  cl : D.cl = atL 3 0 ls
  sl : D.sl = cntL 1 ls n
  op : D.op = cntL 2 ls n
  text : D.ls = ⟨(lineL (newW b n)).toArray⟩ :: ls.map (fun x => ⟨(txtL x).toArray⟩)
  ps : ∀ (j : Nat) p, D.ps[j]? = some p → RelP ls j p
  vb : ∀ p ∈ D.ps, 0 ≤ p.v ∧ p.v < ((b : Nat) : Int)
  sum : sumP D.ps = sumN ls
  fit : ∀ x ∈ ls, Fit b n x
theorem Rel.start (b n : Nat) (hb : 0 < b) : Rel b n (DS.start b n) [] := by
  have h0 : ∀ k n, cntL k [] n = 0 := fun k n => by
    induction n with
    | zero => rfl
    | succ n ih => rw [cntL, ih]; rfl
  refine ⟨rfl, List.length_replicate .., rfl, (h0 1 n).symm, (h0 2 n).symm, rfl, fun j p hp => ?_, fun p hp => ?_, ?_, fun x hx => absurd hx (by simp)⟩
  · have : p = PS.zero := (List.mem_replicate.1 (List.mem_of_getElem? hp)).2
    subst this
    exact ⟨rfl, rfl, fun i x h => absurd h (by show (0 : Nat) ≠ _; omega), fun h => absurd h (by show ¬ 0 < 0; omega), fun h => absurd h (by show ¬ 0 < 0; omega), fun _ => rfl⟩
  · have : p = PS.zero := (List.mem_replicate.1 hp).2
    subst this
    exact ⟨Int.le_refl _, by show (0 : Int) < _; omega⟩
  · show sumP (List.replicate n PS.zero) = 0
    unfold sumP
    induction n with
    | zero => rfl
    | succ n ih => rw [List.replicate_succ, List.map_cons, List.sum_cons, ih]; rfl
theorem Rel.lsl {b n : Nat} {D : DS} {ls : List RL} (R : Rel b n D ls) : D.ls.length = ls.length + 1 := by rw [R.text]; simp
theorem Rel.over {b n : Nat} {D : DS} {ls : List RL} (R : Rel b n D ls) : D.over = overL n ls := by
  rw [DS.over, overL, R.cl, R.op, R.len]
theorem Rel.running {b n : Nat} {D : DS} {ls : List RL} (R : Rel b n D ls) : D.running = !(decide (cntL 1 ls n < n) || overL n ls) := by
  rw [DS.running, R.over, R.sl, R.len]
  have := cntL_le 1 ls n
  by_cases h : cntL 1 ls n = n
  · rw [h, decide_eq_false (by omega)]; simp
  · rw [decide_eq_true (by omega), beq_eq_false_iff_ne.2 h]; rfl
theorem in_dec (p a b : Int) : (decide (a ≤ p) && decide (p ≤ b)) = inR p a b := rfl
theorem Rel.at {b n : Nat} {D : DS} {ls : List RL} (R : Rel b n D ls) {p : Int} (hp : inR p 1 ((n : Nat) : Int) = true) : ∃ j x, p = ((j + 1 : Nat) : Int) ∧ p.toNat - 1 = j ∧ j < n ∧ D.ps[j]? = some x ∧ RelP ls j x := by
  rw [inR, Bool.and_eq_true, decide_eq_true_eq, decide_eq_true_eq] at hp
  have hj : p.toNat - 1 < D.ps.length := by rw [R.len]; omega
  exact ⟨p.toNat - 1, D.ps[p.toNat - 1], by omega, rfl, by omega, List.getElem?_eq_getElem hj, R.ps _ _ (List.getElem?_eq_getElem hj)⟩
theorem Rel.sealE {b n : Nat} {D : DS} {ls : List RL} (R : Rel b n D ls) (p : Int) (h : ByteArray) (v : Int) (s : ByteArray) : D.sealE p h = addE b n ls ⟨1, h, p, v, s⟩ := by
  unfold DS.sealE addE
  simp only [in_dec, R.len]
  cases hp : inR p 1 ((n : Nat) : Int) with
  | false => simp
  | true =>
    obtain ⟨j, x, _, hj, _, hx, rp⟩ := R.at hp
    rw [hj, hx]
    cases hh : isHashL h.data.toList with
    | false => simp
    | true =>
      have e : p = ((j + 1 : Nat) : Int) := by assumption
      simp [rp.s, e]
theorem Rel.openE {b n : Nat} {D : DS} {ls : List RL} (R : Rel b n D ls) (p v : Int) (h s : ByteArray) : D.openE p v s = addE b n ls ⟨2, h, p, v, s⟩ := by
  unfold DS.openE addE
  simp only [in_dec, R.len, R.below, R.running]
  cases hp : inR p 1 ((n : Nat) : Int) with
  | false => simp
  | true =>
    obtain ⟨j, x, _, hj, _, hx, rp⟩ := R.at hp
    rw [hj, hx]
    have e : p = ((j + 1 : Nat) : Int) := by assumption
    cases hv : inR v 0 (((b : Nat) : Int) - 1) with
    | false => simp
    | true =>
      cases hs : isSaltL s.data.toList with
      | false => simp
      | true =>
        cases hr : (decide (cntL 1 ls n < n) || overL n ls) with
        | true => simp
        | false => simp [rp.o, e]
theorem Rel.closeE {b n : Nat} {D : DS} {ls : List RL} (R : Rel b n D ls) (p v : Int) (h s : ByteArray) : (if D.running = true then (0 : Int) else 9) = addE b n ls ⟨3, h, p, v, s⟩ := by
  unfold addE
  rw [R.running]
  cases hr : (decide (cntL 1 ls n < n) || overL n ls) with
  | true => simp
  | false => simp
end Go.Proofs.YtbcileppebpamaaGreatDoor
set_option linter.unusedSimpArgs false
set_option linter.unusedVariables false
namespace Go.Proofs.YtbcileppebpamaaGreatDoor
open Go Go.RowKit Go.Shelf
set_option maxRecDepth 100000
theorem atL_keep (k p : Int) (ls : List RL) (x : RL) (h : isL k p x = false) : atL k p (ls ++ [x]) = atL k p ls := by
  rw [atL_app, h]
  by_cases h0 : 0 < atL k p ls
  · rw [if_pos h0]
  · rw [Nat.eq_zero_of_not_pos h0]
    simp
theorem atL_new (k p : Int) (ls : List RL) (x : RL) (h : isL k p x = true) (h0 : atL k p ls = 0) : atL k p (ls ++ [x]) = ls.length + 2 := by
  rw [atL_app, h, h0]
  simp
theorem RelP.keep {ls : List RL} {j : Nat} {p : PS} (R : RelP ls j p) (x : RL) (h1 : isL 1 ((j + 1 : Nat) : Int) x = false) (h2 : isL 2 ((j + 1 : Nat) : Int) x = false) : RelP (ls ++ [x]) j p := by
  refine ⟨by rw [atL_keep _ _ _ _ h1]; exact R.s, by rw [atL_keep _ _ _ _ h2]; exact R.o, fun i y hi hy => ?_, fun ho => ?_, R.b, R.v0⟩
  · rw [atL_keep _ _ _ _ h1] at hi
    obtain ⟨i', z, e, hz, _, _, hl⟩ := atL_at _ _ _ (show 0 < atL 1 ((j + 1 : Nat) : Int) ls by omega)
    have : i' = i := by omega
    subst this
    rw [List.getElem?_append_left hl] at hy
    exact R.h _ _ e hy
  · have hs := R.b ho
    rw [R.s] at hs
    have ho2 := ho
    rw [R.o] at ho2
    rw [rightL_app _ _ _ hs ho2]
    exact R.r ho
theorem RelP.seal {ls : List RL} {j : Nat} {p : PS} (R : RelP ls j p) (h : ByteArray) (v : Int) (s : ByteArray) (h0 : atL 1 ((j + 1 : Nat) : Int) ls = 0) : RelP (ls ++ [⟨1, h, ((j + 1 : Nat) : Int), v, s⟩]) j { p with h := h, s := ls.length + 2 } := by
  have hx : isL 1 ((j + 1 : Nat) : Int) ⟨1, h, ((j + 1 : Nat) : Int), v, s⟩ = true := (isL_iff _ _ _).2 ⟨rfl, rfl⟩
  have hx2 : isL 2 ((j + 1 : Nat) : Int) ⟨1, h, ((j + 1 : Nat) : Int), v, s⟩ = false := Bool.eq_false_iff.2 fun e => absurd ((isL_iff _ _ _).1 e).1 (by show ¬ (1 : Int) = 2; omega)
  have ho : ¬ 0 < p.o := fun ho => by
    have := R.b ho
    rw [R.s, h0] at this
    omega
  refine ⟨by rw [atL_new _ _ _ _ hx h0], by rw [atL_keep _ _ _ _ hx2]; exact R.o, fun i y hi hy => ?_, fun h => absurd h ho, fun h => absurd h ho, R.v0⟩
  rw [atL_new _ _ _ _ hx h0] at hi
  have : i = ls.length := by omega
  subst this
  rw [List.getElem?_append_right (Nat.le_refl _), Nat.sub_self] at hy
  cases hy
  rfl
theorem RelP.open {ls : List RL} {j : Nat} {p : PS} (R : RelP ls j p) (h : ByteArray) (v : Int) (s : ByteArray) (h1 : 0 < atL 1 ((j + 1 : Nat) : Int) ls) (h0 : atL 2 ((j + 1 : Nat) : Int) ls = 0) : RelP (ls ++ [⟨2, h, ((j + 1 : Nat) : Int), v, s⟩]) j { p with v := v, r := sameB (openH ((j + 1 : Nat) : Int) v s) p.h, o := ls.length + 2 } := by
  have hx : isL 2 ((j + 1 : Nat) : Int) ⟨2, h, ((j + 1 : Nat) : Int), v, s⟩ = true := (isL_iff _ _ _).2 ⟨rfl, rfl⟩
  have hx2 : isL 1 ((j + 1 : Nat) : Int) ⟨2, h, ((j + 1 : Nat) : Int), v, s⟩ = false := Bool.eq_false_iff.2 fun e => absurd ((isL_iff _ _ _).1 e).1 (by show ¬ (2 : Int) = 1; omega)
  obtain ⟨i, y, e1, hy, _, _, hi⟩ := atL_at _ _ _ h1
  have hh := R.h i y e1 hy
  refine ⟨by rw [atL_keep _ _ _ _ hx2]; exact R.s, by rw [atL_new _ _ _ _ hx h0], fun i' y' hi' hy' => ?_, fun _ => ?_, fun _ => ?_, fun h => absurd h (by show ¬ ls.length + 2 = 0; omega)⟩
  · rw [atL_keep _ _ _ _ hx2] at hi'
    have : i' = i := by omega
    subst this
    rw [List.getElem?_append_left hi] at hy'
    exact R.h _ _ e1 hy'
  · rw [rightL, atL_keep _ _ _ _ hx2, atL_new _ _ _ _ hx h0, e1, Nat.add_sub_cancel, Nat.add_sub_cancel, List.getElem?_append_left hi, List.getElem?_append_right (Nat.le_refl _), Nat.sub_self, hy]
    show sameB _ p.h = _
    rw [hh, decide_eq_true (by omega), decide_eq_true (by omega)]
    rfl
  · show 0 < p.s
    rw [R.s]
    exact h1
theorem sumP_set : ∀ (ps : List PS) (j : Nat) (p p' : PS), ps[j]? = some p → sumP (ps.set j p') + p.v.toNat = sumP ps + p'.v.toNat
  | [], j, p, p', h => by simp at h
  | q :: ps, 0, p, p', h => by
    cases h
    simp only [sumP, List.set_cons_zero, List.map_cons, List.sum_cons]
    omega
  | q :: ps, j + 1, p, p', h => by
    have := sumP_set ps j p p' (by simpa using h)
    simp only [sumP, List.set_cons_succ, List.map_cons, List.sum_cons] at this ⊢
    omega
theorem sumN_app (ls : List RL) (x : RL) : sumN (ls ++ [x]) = sumN ls + lineV x := by simp [sumN]
/-- Why a line was taken. -/
theorem addE_seal {b n : Nat} {ls : List RL} {p : Int} {h : ByteArray} {v : Int} {s : ByteArray} (hE : addE b n ls ⟨1, h, p, v, s⟩ = 0) : inR p 1 ((n : Nat) : Int) = true ∧ isHashL h.data.toList = true ∧ atL 1 p ls = 0 := by
  unfold addE at hE
  simp only [in_dec] at hE
  cases hp : inR p 1 ((n : Nat) : Int) with
  | false => simp [hp] at hE
  | true =>
    cases hh : isHashL h.data.toList with
    | false => simp [hp, hh] at hE
    | true =>
      refine ⟨rfl, rfl, ?_⟩
      by_cases h0 : 0 < atL 1 p ls
      · simp [hp, hh, h0] at hE
      · omega
theorem addE_open {b n : Nat} {ls : List RL} {p : Int} {h : ByteArray} {v : Int} {s : ByteArray} (hE : addE b n ls ⟨2, h, p, v, s⟩ = 0) : inR p 1 ((n : Nat) : Int) = true ∧ inR v 0 (((b : Nat) : Int) - 1) = true ∧ isSaltL s.data.toList = true ∧ cntL 1 ls n = n ∧ overL n ls = false ∧ atL 2 p ls = 0 := by
  unfold addE at hE
  simp only [in_dec] at hE
  cases hp : inR p 1 ((n : Nat) : Int) with
  | false => simp [hp] at hE
  | true =>
    cases hv : inR v 0 (((b : Nat) : Int) - 1) with
    | false => simp [hp, hv] at hE
    | true =>
      cases hs : isSaltL s.data.toList with
      | false => simp [hp, hv, hs] at hE
      | true =>
        have hle := cntL_le 1 ls n
        cases hr : (decide (cntL 1 ls n < n) || overL n ls) with
        | true => simp [hp, hv, hs, hr] at hE
        | false =>
          rw [Bool.or_eq_false_iff, decide_eq_false_iff_not] at hr
          refine ⟨rfl, rfl, rfl, by omega, hr.2, ?_⟩
          by_cases h0 : 0 < atL 2 p ls
          · simp [hp, hv, hs, hr, h0] at hE
          · omega
theorem addE_close {b n : Nat} {ls : List RL} {p : Int} {h : ByteArray} {v : Int} {s : ByteArray} (hE : addE b n ls ⟨3, h, p, v, s⟩ = 0) : cntL 1 ls n = n ∧ overL n ls = false := by
  unfold addE at hE
  have hle := cntL_le 1 ls n
  cases hr : (decide (cntL 1 ls n < n) || overL n ls) with
  | true => simp [hr] at hE
  | false =>
    rw [Bool.or_eq_false_iff, decide_eq_false_iff_not] at hr
    exact ⟨by omega, hr.2⟩
theorem newW_ls {b n : Nat} {D : DS} {ls : List RL} (R : Rel b n D ls) (x : RL) (l : List UInt8) (hl : txtL x = l) : D.ls ++ [⟨l.toArray⟩] = ⟨(lineL (newW b n)).toArray⟩ :: (ls ++ [x]).map (fun x => ⟨(txtL x).toArray⟩) := by
  rw [R.text, List.map_append, List.cons_append, ← hl]
  rfl
theorem at3_keep (ls : List RL) (x : RL) (h : x.k ≠ 3) : atL 3 0 (ls ++ [x]) = atL 3 0 ls := atL_keep _ _ _ _ (Bool.eq_false_iff.2 fun e => h ((isL_iff _ _ _).1 e).1)
theorem Rel.seal {b n : Nat} {D : DS} {ls : List RL} (R : Rel b n D ls) {p : Int} {h : ByteArray} {v : Int} {s : ByteArray} (hE : addE b n ls ⟨1, h, p, v, s⟩ = 0) : Rel b n (D.sealT p h) (ls ++ [⟨1, h, p, v, s⟩]) := by
  obtain ⟨hp, hh, h0⟩ := addE_seal hE
  obtain ⟨j, y, rfl, hj, hjn, hy, rp⟩ := R.at hp
  have e : D.sealT ((j + 1 : Nat) : Int) h = { D with ls := D.ls ++ [⟨(lineL (sealW ((j + 1 : Nat) : Int) h)).toArray⟩], ps := D.ps.set j { y with h := h, s := ls.length + 2 }, sl := D.sl + 1 } := by
    rw [DS.sealT, hj, hy, R.lsl]
  rw [e]
  refine ⟨R.below, by show (D.ps.set _ _).length = n; rw [List.length_set]; exact R.len, ?_, ?_, ?_, ?_, fun i q hq => ?_, fun q hq => ?_, ?_, fun z hz => ?_⟩
  · show D.cl = _
    rw [at3_keep _ _ (by show ¬ (1 : Int) = 3; omega)]
    exact R.cl
  · show D.sl + 1 = _
    rw [(cntL_more 1 ls ⟨1, h, _, v, s⟩ rfl h0 n).1 (by show (1 : Int) ≤ ((j + 1 : Nat) : Int) ∧ ((j + 1 : Nat) : Int) ≤ _; omega), R.sl]
  · show D.op = _
    rw [cntL_other 2 ls ⟨1, h, _, v, s⟩ (.inl (by show ¬ (1 : Int) = 2; omega)), R.op]
  · exact newW_ls R _ _ (by rfl)
  · have hq' : (D.ps.set j { y with h := h, s := ls.length + 2 })[i]? = some q := hq
    rw [List.getElem?_set] at hq'
    by_cases hij : j = i
    · subst hij
      rw [if_pos rfl, if_pos (by rw [R.len]; exact hjn)] at hq'
      cases hq'
      exact rp.seal h v s h0
    · rw [if_neg hij] at hq'
      refine (R.ps i q hq').keep _ (Bool.eq_false_iff.2 fun e => ?_) (Bool.eq_false_iff.2 fun e => ?_)
      · have := ((isL_iff _ _ _).1 e).2
        simp only at this
        omega
      · have := ((isL_iff _ _ _).1 e).2
        simp only at this
        omega
  · have hq' : q ∈ D.ps.set j { y with h := h, s := ls.length + 2 } := hq
    rcases List.mem_or_eq_of_mem_set hq' with h1 | h1
    · exact R.vb q h1
    · rw [h1]
      exact R.vb y (List.mem_of_getElem? hy)
  · show sumP (D.ps.set j _) = _
    have := sumP_set D.ps j y { y with h := h, s := ls.length + 2 } hy
    rw [sumN_app, ← R.sum]
    simp only [lineV] at this ⊢
    simp
    omega
  · rcases List.mem_append.1 hz with hz | hz
    · exact R.fit z hz
    · cases List.mem_singleton.1 hz
      exact .inl ⟨rfl, by show (1 : Int) ≤ ((j + 1 : Nat) : Int) ∧ ((j + 1 : Nat) : Int) ≤ _; omega, hh⟩
theorem Rel.open {b n : Nat} {D : DS} {ls : List RL} (R : Rel b n D ls) {p : Int} {h : ByteArray} {v : Int} {s : ByteArray} (hE : addE b n ls ⟨2, h, p, v, s⟩ = 0) : Rel b n (D.openT p v s) (ls ++ [⟨2, h, p, v, s⟩]) ∧ D.openR p v s = rightL p (ls ++ [⟨2, h, p, v, s⟩]) := by
  obtain ⟨hp, hv, hs, hc, _, h0⟩ := addE_open hE
  obtain ⟨j, y, rfl, hj, hjn, hy, rp⟩ := R.at hp
  have h1 := cntL_all 1 ls n hc (j + 1) (by omega) (by omega)
  have hv' := hv
  rw [inR, Bool.and_eq_true, decide_eq_true_eq, decide_eq_true_eq] at hv'
  have rq := rp.open h v s h1 h0
  have e : D.openT ((j + 1 : Nat) : Int) v s = { D with ls := D.ls ++ [⟨(lineL (openW ((j + 1 : Nat) : Int) v s)).toArray⟩], ps := D.ps.set j { y with v := v, r := sameB (openH ((j + 1 : Nat) : Int) v s) y.h, o := ls.length + 2 }, op := D.op + 1 } := by
    rw [DS.openT, hj, hy, R.lsl]
  refine ⟨?_, ?_⟩
  · rw [e]
    refine ⟨R.below, by show (D.ps.set _ _).length = n; rw [List.length_set]; exact R.len, ?_, ?_, ?_, ?_, fun i q hq => ?_, fun q hq => ?_, ?_, fun z hz => ?_⟩
    · show D.cl = _
      rw [at3_keep _ _ (by show ¬ (2 : Int) = 3; omega)]
      exact R.cl
    · show D.sl = _
      rw [cntL_other 1 ls ⟨2, h, _, v, s⟩ (.inl (by show ¬ (2 : Int) = 1; omega)), R.sl]
    · show D.op + 1 = _
      rw [(cntL_more 2 ls ⟨2, h, _, v, s⟩ rfl h0 n).1 (by show (1 : Int) ≤ ((j + 1 : Nat) : Int) ∧ ((j + 1 : Nat) : Int) ≤ _; omega), R.op]
    · exact newW_ls R _ _ (by rfl)
    · have hq' : (D.ps.set j { y with v := v, r := sameB (openH ((j + 1 : Nat) : Int) v s) y.h, o := ls.length + 2 })[i]? = some q := hq
      rw [List.getElem?_set] at hq'
      by_cases hij : j = i
      · subst hij
        rw [if_pos rfl, if_pos (by rw [R.len]; exact hjn)] at hq'
        cases hq'
        exact rq
      · rw [if_neg hij] at hq'
        refine (R.ps i q hq').keep _ (Bool.eq_false_iff.2 fun e => ?_) (Bool.eq_false_iff.2 fun e => ?_)
        · have := ((isL_iff _ _ _).1 e).2
          simp only at this
          omega
        · have := ((isL_iff _ _ _).1 e).2
          simp only at this
          omega
    · have hq' : q ∈ D.ps.set j { y with v := v, r := sameB (openH ((j + 1 : Nat) : Int) v s) y.h, o := ls.length + 2 } := hq
      rcases List.mem_or_eq_of_mem_set hq' with h1 | h1
      · exact R.vb q h1
      · rw [h1]
        exact ⟨hv'.1, by show v < _; omega⟩
    · show sumP (D.ps.set j _) = _
      have := sumP_set D.ps j y { y with v := v, r := sameB (openH ((j + 1 : Nat) : Int) v s) y.h, o := ls.length + 2 } hy
      have hy0 : y.v = 0 := rp.v0 (by rw [rp.o]; exact h0)
      rw [hy0] at this
      rw [sumN_app, ← R.sum]
      simp only [lineV] at this ⊢
      simp at this ⊢
      omega
    · rcases List.mem_append.1 hz with hz | hz
      · exact R.fit z hz
      · cases List.mem_singleton.1 hz
        exact .inr (.inl ⟨rfl, by show (1 : Int) ≤ ((j + 1 : Nat) : Int) ∧ ((j + 1 : Nat) : Int) ≤ _; omega, hv', hs⟩)
  · rw [DS.openR, hj, hy]
    exact rq.r (by show 0 < ls.length + 2; omega)
theorem Rel.close {b n : Nat} {D : DS} {ls : List RL} (R : Rel b n D ls) {h : ByteArray} {v : Int} {s : ByteArray} (hE : addE b n ls ⟨3, h, 0, v, s⟩ = 0) : Rel b n D.closeT (ls ++ [⟨3, h, 0, v, s⟩]) := by
  obtain ⟨hc, ho⟩ := addE_close hE
  have h0 : atL 3 0 ls = 0 := by
    rw [overL, Bool.or_eq_false_iff, decide_eq_false_iff_not] at ho
    omega
  have hx : isL 3 0 ⟨3, h, 0, v, s⟩ = true := (isL_iff _ _ _).2 ⟨rfl, rfl⟩
  refine ⟨R.below, R.len, ?_, ?_, ?_, ?_, fun i q hq => ?_, R.vb, ?_, fun z hz => ?_⟩
  · show D.ls.length + 1 = _
    rw [atL_new _ _ _ _ hx h0, R.lsl]
  · show D.sl = _
    rw [cntL_other 1 ls _ (.inl (by show ¬ (3 : Int) = 1; omega)), R.sl]
  · show D.op = _
    rw [cntL_other 2 ls _ (.inl (by show ¬ (3 : Int) = 2; omega)), R.op]
  · exact newW_ls R _ _ (by rfl)
  · refine (R.ps i q hq).keep _ (Bool.eq_false_iff.2 fun e => ?_) (Bool.eq_false_iff.2 fun e => ?_)
    · have := ((isL_iff _ _ _).1 e).1
      simp only at this
      omega
    · have := ((isL_iff _ _ _).1 e).1
      simp only at this
      omega
  · show sumP D.ps = _
    rw [sumN_app, R.sum]
    simp [lineV]
  · rcases List.mem_append.1 hz with hz | hz
    · exact R.fit z hz
    · cases List.mem_singleton.1 hz
      exact .inr (.inr ⟨rfl, rfl⟩)
/-- What a drawing tells is what its lines tell. -/
theorem Rel.devs {b n : Nat} {D : DS} {ls : List RL} (R : Rel b n D ls) : D.devs = devL ls n := by
  have : ∀ j, j ≤ n → devFrom D.cl 0 (D.ps.take j) = devL ls j := fun j => by
    induction j with
    | zero => intro _; rfl
    | succ j ih =>
      intro hj
      have hl : j < D.ps.length := by rw [R.len]; omega
      have hx := List.getElem?_eq_getElem hl
      have rp := R.ps j _ hx
      rw [devFrom_take _ _ _ _ hx, ih (by omega), devL]
      congr 1
      rw [devOf, devL1, rp.s, R.cl]
      by_cases ho : 0 < atL 2 ((j + 1 : Nat) : Int) ls
      · have ho' : 0 < (D.ps[j]).o := by rw [rp.o]; exact ho
        rw [rp.r ho', rp.o]
        have hne : ¬ atL 2 ((j + 1 : Nat) : Int) ls = 0 := by omega
        rw [beq_eq_false_iff_ne.2 hne, decide_eq_true ho]
        generalize atL 2 ((j + 1 : Nat) : Int) ls = A at ho hne ⊢
        cases rightL ((j + 1 : Nat) : Int) ls <;> simp [ho, hne]
      · have hz : atL 2 ((j + 1 : Nat) : Int) ls = 0 := by omega
        rw [rp.o, hz]
        by_cases h3 : 0 < atL 3 0 ls <;> simp [h3]
  have h := this n (Nat.le_refl _)
  rw [DS.devs, ← h, ← R.len, List.take_length]
theorem valN_sum (b : Nat) (hb : 0 < b) : ∀ (ps : List PS) (s : Nat), s < b → (∀ p ∈ ps, 0 ≤ p.v ∧ p.v < ((b : Nat) : Int)) → valN b ps s = (s + sumP ps) % b
  | [], s, h, _ => (Nat.mod_eq_of_lt h).symm
  | p :: ps, s, h, hv => by
    obtain ⟨h1, h2⟩ := hv p (List.mem_cons_self ..)
    obtain ⟨m, hm⟩ : ∃ m : Nat, p.v = ((m : Nat) : Int) := ⟨p.v.toNat, by omega⟩
    have e : (addO b [((s : Nat) : Int), p.v] 0).getD 0 = (s + m) % b := by
      rw [hm]
      have hm' : m < b := by omega
      simp [addO, h, hm', Nat.mod_eq_of_lt h]
      rw [if_pos (by omega), if_pos (by omega)]
      rfl
    rw [valN, e, valN_sum b hb ps _ (Nat.mod_lt _ hb) (fun q hq => hv q (List.mem_cons_of_mem _ hq))]
    simp only [sumP, List.map_cons, List.sum_cons, hm, Int.toNat_natCast]
    rw [Nat.add_mod, Nat.mod_mod, ← Nat.add_mod, Nat.add_assoc]
theorem sumL_sum (b : Nat) (hb : 0 < b) : ∀ (ls : List RL) (s : Nat), s < b → sumL b ls s = (s + sumN ls) % b
  | [], s, h => (Nat.mod_eq_of_lt h).symm
  | x :: ls, s, h => by
    rw [sumL]
    by_cases hk : x.k = 2
    · rw [if_pos hk, sumL_sum b hb ls _ (Nat.mod_lt _ hb)]
      simp only [sumN, List.map_cons, List.sum_cons, lineV, hk, if_true]
      rw [Nat.add_mod, Nat.mod_mod, ← Nat.add_mod, Nat.add_assoc]
    · rw [if_neg hk, sumL_sum b hb ls s h]
      simp only [sumN, List.map_cons, List.sum_cons, lineV, hk, if_false, Nat.zero_add]
theorem Rel.valE {b n : Nat} {D : DS} {ls : List RL} (R : Rel b n D ls) : D.valE = (valL b n ls).2 := by
  rw [DS.valE, valL, R.over, R.devs]
  cases overL n ls with
  | false => rfl
  | true =>
    cases devL ls n with
    | nil => rfl
    | cons a l => simp
theorem Rel.val {b n : Nat} {D : DS} {ls : List RL} (R : Rel b n D ls) (hb : 0 < b) : D.val = (((valL b n ls).1 : Nat) : Int) := by
  rw [DS.val, R.valE, valL]
  cases overL n ls with
  | false => rfl
  | true =>
    cases devL ls n with
    | nil =>
      show ((valN D.below D.ps 0 : Nat) : Int) = ((sumL b ls 0 : Nat) : Int)
      rw [R.below, valN_sum b hb D.ps 0 hb R.vb, sumL_sum b hb ls 0 hb, R.sum]
    | cons a l => simp
theorem join_nil_flat : ∀ l : List (List UInt8), Lib.join l [] = l.flatten
  | [] => rfl
  | [x] => by simp [Lib.join]
  | x :: y :: l => by
    have := join_nil_flat (y :: l)
    simp only [Lib.join, List.intercalate] at this ⊢
    rw [List.intersperse_cons_cons, List.flatten_cons, List.flatten_cons, this]
    simp
theorem Rel.txt {b n : Nat} {D : DS} {ls : List RL} (R : Rel b n D ls) : D.text = writeL b n ls := by
  rw [DS.text, join_nil_flat, R.text, writeL]
  simp [List.flatMap, Function.comp_def]
theorem Rel.okT {b n : Nat} {D : DS} {ls : List RL} (R : Rel b n D ls) (hb : b ≤ 1000000000) (hn : n ≤ 30) : OkT ls := fun y hy => by
  rcases R.fit y hy with ⟨h1, h2, h3⟩ | ⟨h1, h2, h3, h4⟩ | ⟨h1, h2⟩
  · exact ⟨fun _ => ⟨⟨by omega, by omega⟩, h3⟩, fun h => by omega⟩
  · exact ⟨fun h => by omega, fun _ => ⟨⟨by omega, by omega⟩, ⟨h3.1, by omega⟩, h4⟩⟩
  · exact ⟨fun h => by omega, fun h => by omega⟩
/-- A line more, or none. -/
theorem Rel.sealA {b n : Nat} {D : DS} {ls : List RL} (R : Rel b n D ls) (p : Int) (h : ByteArray) (v : Int) (s : ByteArray) : Rel b n (D.seal p h) (addL b n ls ⟨1, h, p, v, s⟩) := by
  rw [DS.seal, addL, R.sealE p h v s]
  by_cases hE : addE b n ls ⟨1, h, p, v, s⟩ = 0
  · rw [if_pos hE, if_pos hE]; exact R.seal hE
  · rw [if_neg hE, if_neg hE]; exact R
theorem Rel.openA {b n : Nat} {D : DS} {ls : List RL} (R : Rel b n D ls) (p v : Int) (h s : ByteArray) : Rel b n (D.open p v s) (addL b n ls ⟨2, h, p, v, s⟩) := by
  rw [DS.open, addL, R.openE p v h s]
  by_cases hE : addE b n ls ⟨2, h, p, v, s⟩ = 0
  · rw [if_pos hE, if_pos hE]; exact (R.open hE).1
  · rw [if_neg hE, if_neg hE]; exact R
theorem Rel.closeA {b n : Nat} {D : DS} {ls : List RL} (R : Rel b n D ls) (v : Int) (h s : ByteArray) : Rel b n D.close (addL b n ls ⟨3, h, 0, v, s⟩) := by
  have e := R.closeE 0 v h s
  rw [DS.close, addL]
  by_cases hr : D.running = true
  · rw [if_pos hr] at e
    rw [if_pos hr, if_pos e.symm]
    exact R.close e.symm
  · rw [if_neg hr] at e
    rw [if_neg hr, if_neg (by omega)]
    exact R
end Go.Proofs.YtbcileppebpamaaGreatDoor
set_option linter.unusedSimpArgs false
set_option linter.unusedVariables false
namespace Go.Proofs.YtbcileppebpamaaGreatDoor
open Go Go.RowKit Go.Shelf
set_option maxRecDepth 100000
/-- The words of a text: what stands between two bytes c. -/
def wordsL (c : UInt8) : List UInt8 → List (List UInt8)
  | [] => [[]]
  | x :: l => if x = c then [] :: wordsL c l else match wordsL c l with | [] => [[x]] | w :: r => (x :: w) :: r
theorem wordsL_form (c : UInt8) : ∀ l, ∃ w r, wordsL c l = w :: r
  | [] => ⟨_, _, rfl⟩
  | x :: l => by
    obtain ⟨w, r, h⟩ := wordsL_form c l
    rw [wordsL, h]
    split
    · exact ⟨_, _, rfl⟩
    · exact ⟨_, _, rfl⟩
theorem wordsL_no (c : UInt8) : ∀ l, ∀ w ∈ wordsL c l, c ∉ w
  | [] => fun w hw => by simp [wordsL] at hw; rw [hw]; simp
  | x :: l => fun w hw => by
    obtain ⟨w0, r, h⟩ := wordsL_form c l
    have ih := wordsL_no c l
    rw [wordsL, h] at hw
    rw [h] at ih
    by_cases e : x = c
    · rw [if_pos e] at hw
      rcases List.mem_cons.1 hw with rfl | hw
      · simp
      · exact ih w hw
    · rw [if_neg e] at hw
      rcases List.mem_cons.1 hw with rfl | hw
      · intro hc
        rcases List.mem_cons.1 hc with rfl | hc
        · exact e rfl
        · exact ih w0 (List.mem_cons_self ..) hc
      · exact ih w (List.mem_cons_of_mem _ hw)
theorem wordsL_join (c : UInt8) : ∀ l, Lib.join (wordsL c l) [c] = l
  | [] => rfl
  | x :: l => by
    obtain ⟨w, r, h⟩ := wordsL_form c l
    have ih := wordsL_join c l
    rw [h] at ih
    rw [wordsL, h]
    by_cases e : x = c
    · rw [if_pos e, join_cons2, ih, e]
      rfl
    · rw [if_neg e]
      cases r with
      | nil => rw [Lib.join_one] at ih ⊢; rw [ih]
      | cons y r => rw [join_cons2] at ih ⊢; rw [List.cons_append, ih]
theorem wordsL_app (c : UInt8) (r : List UInt8) : ∀ w, c ∉ w → wordsL c (w ++ c :: r) = w :: wordsL c r
  | [], _ => by rw [List.nil_append, wordsL, if_pos rfl]
  | x :: w, h => by
    have e : ¬ x = c := fun e => h (by rw [e]; exact List.mem_cons_self ..)
    rw [List.cons_append, wordsL, if_neg e, wordsL_app c r w fun hm => h (List.mem_cons_of_mem _ hm)]
theorem wordsL_one (c : UInt8) : ∀ w, c ∉ w → wordsL c w = [w]
  | [], _ => rfl
  | x :: w, h => by
    have e : ¬ x = c := fun e => h (by rw [e]; exact List.mem_cons_self ..)
    rw [wordsL, if_neg e, wordsL_one c w fun hm => h (List.mem_cons_of_mem _ hm)]
theorem wordsL_of (c : UInt8) : ∀ ws : List (List UInt8), ws ≠ [] → (∀ w ∈ ws, c ∉ w) → wordsL c (Lib.join ws [c]) = ws
  | [], h, _ => absurd rfl h
  | [w], _, h => by rw [Lib.join_one]; exact wordsL_one c w (h w (List.mem_cons_self ..))
  | w :: x :: r, _, h => by
    rw [join_cons2, List.singleton_append, wordsL_app c _ w (h w (List.mem_cons_self ..)), wordsL_of c (x :: r) (by simp) fun y hy => h y (List.mem_cons_of_mem _ hy)]
/-- The lines of a text, each with its end. -/
def linesL : List UInt8 → List (List UInt8)
  | [] => []
  | x :: l => if x = 10 then [10] :: linesL l else match linesL l with | [] => [[x]] | w :: r => (x :: w) :: r
theorem linesL_app (r : List UInt8) : ∀ w, (10 : UInt8) ∉ w → linesL (w ++ 10 :: r) = (w ++ [10]) :: linesL r
  | [], _ => by rw [List.nil_append, linesL, if_pos rfl]; rfl
  | x :: w, h => by
    have e : ¬ x = 10 := fun e => h (by rw [e]; exact List.mem_cons_self ..)
    rw [List.cons_append, linesL, if_neg e, linesL_app r w fun hm => h (List.mem_cons_of_mem _ hm)]
    rfl
theorem linesL_last : ∀ w, (10 : UInt8) ∉ w → w ≠ [] → linesL w = [w]
  | [], _, h => absurd rfl h
  | [x], h, _ => by
    have e : ¬ x = 10 := fun e => h (by rw [e]; exact List.mem_cons_self ..)
    rw [linesL, if_neg e, linesL]
  | x :: y :: w, h, _ => by
    have e : ¬ x = 10 := fun e => h (by rw [e]; exact List.mem_cons_self ..)
    rw [linesL, if_neg e, linesL_last (y :: w) (fun hm => h (List.mem_cons_of_mem _ hm)) (by simp)]
theorem linesL_len (l : List UInt8) : (linesL l).length ≤ l.length := by
  induction l with
  | nil => exact Nat.le_refl _
  | cons x l ih =>
    rw [linesL]
    split
    · simp; exact ih
    · cases h : linesL l with
      | nil => simp
      | cons w r => rw [h] at ih; simp at ih ⊢; omega
theorem linesL_mem (l : List UInt8) : ∀ w ∈ linesL l, w.length ≤ l.length ∧ 1 ≤ w.length := by
  induction l with
  | nil => intro w hw; cases hw
  | cons x l ih =>
    intro w hw
    rw [linesL] at hw
    by_cases e : x = 10
    · rw [if_pos e] at hw
      rcases List.mem_cons.1 hw with rfl | hw
      · simp
      · have := ih w hw; simp; omega
    · rw [if_neg e] at hw
      cases h : linesL l with
      | nil => rw [h] at hw; simp at hw; rw [hw]; simp
      | cons y r =>
        rw [h] at hw ih
        rcases List.mem_cons.1 hw with rfl | hw
        · have := ih y (List.mem_cons_self ..); simp; omega
        · have := ih w (List.mem_cons_of_mem _ hw); simp; omega
/-- A number in decimal digits, without zeros ahead. -/
def digB (c : UInt8) : Bool := decide (48 ≤ c.toNat) && decide (c.toNat ≤ 57)
def lead0 (l : List UInt8) : Bool := (l.head? == some 48) && decide (1 < l.length)
def numB (l : List UInt8) : Bool := (decide (1 ≤ l.length) && decide (l.length ≤ 16)) && l.all digB && !lead0 l
def numA (n : Nat) (l : List UInt8) : Nat := l.foldl (fun n c => 10 * n + (c.toNat - 48)) n
def numN (l : List UInt8) : Nat := numA 0 l
theorem numA_lt : ∀ (l : List UInt8) (n : Nat), l.all digB = true → numA n l < (n + 1) * 10 ^ l.length
  | [], n, _ => by simp [numA]
  | c :: l, n, h => by
    rw [List.all_cons, Bool.and_eq_true, digB, Bool.and_eq_true, decide_eq_true_eq, decide_eq_true_eq] at h
    have ih := numA_lt l (10 * n + (c.toNat - 48)) h.2
    have e : numA n (c :: l) = numA (10 * n + (c.toNat - 48)) l := rfl
    rw [e, List.length_cons, Nat.pow_succ]
    have h1 : 10 * n + (c.toNat - 48) + 1 ≤ (n + 1) * 10 := by omega
    have := Nat.mul_le_mul_right (10 ^ l.length) h1
    rw [Nat.mul_comm (10 ^ l.length) 10, ← Nat.mul_assoc]
    omega
/-- What a line behind the first one says. -/
def wCl : List UInt8 := [99, 108, 111, 115, 101]
def wSe : List UInt8 := [115, 101, 97, 108]
def wOp : List UInt8 := [111, 112, 101, 110]
def wDr : List UInt8 := [100, 114, 97, 119]
def lineOf (l : List UInt8) : Option RL :=
  match wordsL 32 l with
  | [w] => if w = wCl then some ⟨3, ⟨#[]⟩, 0, 0, ⟨#[]⟩⟩ else none
  | [w, a, h] => if w = wSe ∧ numB a = true ∧ isHashL h = true then some ⟨1, ⟨h.toArray⟩, ((numN a : Nat) : Int), 0, ⟨#[]⟩⟩ else none
  | [w, a, c, t] => if w = wOp ∧ (numB a = true ∧ numB c = true) ∧ isSaltL t = true then some ⟨2, ⟨#[]⟩, ((numN a : Nat) : Int), ((numN c : Nat) : Int), ⟨t.toArray⟩⟩ else none
  | _ => none
/-- What the first line says. -/
def firstOf (l : List UInt8) : Option (Nat × Nat) :=
  match wordsL 32 l with
  | [w, a, c] => if w = wDr ∧ numB a = true ∧ numB c = true then some (numN a, numN c) else none
  | _ => none
/-- Below, the persons, the lines. -/
abbrev St : Type := Nat × Nat × List RL
def readT : Option St → List UInt8 → Option St × Int
  | none, l => match firstOf l with | none => (none, 4) | some (b, n) => if 1 ≤ b ∧ b ≤ 1000000000 ∧ 1 ≤ n ∧ n ≤ 30 then (some (b, n, []), 0) else (none, 3)
  | some (b, n, ls), l => match lineOf l with | none => (some (b, n, ls), 4) | some x => (some (b, n, addL b n ls x), addE b n ls x)
/-- What a line with its end says. -/
def lineT (st : Option St) (x : List UInt8) : Option St × Int := if x.getLast? = some 10 then readT st x.dropLast else (st, 4)
/-- All lines: the drawing, the line, the error. -/
def audT : Option St → Nat → List (List UInt8) → Option St × Nat × Int
  | st, k, [] => (st, k, 0)
  | st, k, x :: r => if (lineT st x).2 = 0 then audT (lineT st x).1 (k + 1) r else ((lineT st x).1, k + 1, (lineT st x).2)
/-- All is well so far. -/
def goodT : Option St → List (List UInt8) → Option (Option St)
  | st, [] => some st
  | st, x :: r => if (lineT st x).2 = 0 then goodT (lineT st x).1 r else none
theorem goodT_snoc (x : List UInt8) : ∀ (l : List (List UInt8)) (st : Option St), goodT st (l ++ [x]) = (goodT st l).bind fun s => if (lineT s x).2 = 0 then some (lineT s x).1 else none
  | [], st => by simp only [List.nil_append, goodT, Option.bind_some]
  | y :: l, st => by
    rw [List.cons_append, goodT, goodT]
    split
    · exact goodT_snoc x l _
    · rfl
theorem audT_good : ∀ (l r : List (List UInt8)) (st s : Option St) (k : Nat), goodT st l = some s → audT st k (l ++ r) = audT s (k + l.length) r
  | [], r, st, s, k, h => by cases h; rfl
  | y :: l, r, st, s, k, h => by
    rw [goodT] at h
    by_cases e : (lineT st y).2 = 0
    · rw [if_pos e] at h
      rw [List.cons_append, audT, if_pos e, audT_good l r _ s (k + 1) h, List.length_cons, show k + 1 + l.length = k + (l.length + 1) from by omega]
    · rw [if_neg e] at h
      cases h
/-- What an audit answers: the drawing, if there is one, the line, the error. -/
def auditL (l : List UInt8) : Option St × Nat × Int :=
  if 20000 < l.length then (none, 0, 5)
  else if (audT none 0 (linesL l)).2.2 = 0 then match (audT none 0 (linesL l)).1 with | none => (none, 1, 4) | some s => (some s, 0, 0)
  else (none, (audT none 0 (linesL l)).2.1, (audT none 0 (linesL l)).2.2)
end Go.Proofs.YtbcileppebpamaaGreatDoor
set_option linter.unusedSimpArgs false
set_option linter.unusedVariables false
namespace Go.Proofs.YtbcileppebpamaaGreatDoor
open Go Go.RowKit Go.Shelf
set_option maxRecDepth 100000
theorem suffix_one (x : List UInt8) : Lib.hasSuffix x [10] = decide (x.getLast? = some 10) := by
  show ([10] : List UInt8).isSuffixOf x = _
  rw [Bool.eq_iff_iff, List.isSuffixOf_iff_suffix, decide_eq_true_eq, List.getLast?_eq_some_iff]
  constructor
  · rintro ⟨t, h⟩; exact ⟨t, h.symm⟩
  · rintro ⟨t, h⟩; exact ⟨t, h.symm⟩
theorem extract_last (x y : List UInt8) (h : x = y ++ [10]) : (⟨x.toArray⟩ : ByteArray).extract 0 y.length = ⟨y.toArray⟩ := by
  rw [ByteArray.ext_iff, ByteArray.data_extract, h]
  simp
set_option maxHeartbeats 4000000 in
theorem icut_c (x : List UInt8) (hl : x.length ≤ 1000000) (w : World) :
    Calls Tryz.prog 77 #[.string ⟨x.toArray⟩, .string ⟨#[10]⟩] w fun e w' => e = .returned (.tuple #[.string ⟨(if x.getLast? = some 10 then x.dropLast else x).toArray⟩, .bool (decide (x.getLast? = some 10))]) ∧ Below w.heap.size w w' := by
  have hcon := stringslite_HasSuffix ⟨x.toArray⟩ ⟨#[10]⟩ w (by show x.toArray.size ≤ _; simp; omega)
  change Calls Tryz.prog 103 _ _ (fun e w' => e = .returned (.bool (Lib.hasSuffix x [10])) ∧ w' = w) at hcon
  rw [suffix_one] at hcon
  have HC := hid hcon
  clear hcon
  by_cases h : x.getLast? = some 10
  · rw [decide_eq_true h] at HC ⊢
    rw [if_pos h]
    obtain ⟨y, hy⟩ := List.getLast?_eq_some_iff.1 h
    have hd : x.dropLast = y := by rw [hy]; simp
    have hx := extract_last x y hy
    have hs : (⟨x.toArray⟩ : ByteArray).size = y.length + 1 := by show x.toArray.size = _; rw [hy]; simp
    rw [hd]
    have hy2 : y.length + 1 ≤ 1000000 := by rw [hy] at hl; simpa using hl
    obtain ⟨r, hr⟩ : ∃ r : ByteArray, ⟨y.toArray⟩ = r := ⟨_, rfl⟩
    obtain ⟨s, hs'⟩ : ∃ s : ByteArray, ⟨x.toArray⟩ = s := ⟨_, rfl⟩
    obtain ⟨m, hm⟩ : ∃ m, y.length = m := ⟨_, rfl⟩
    rw [hr, hs', hm] at hx
    rw [hs', hm] at hs
    rw [hs'] at HC
    rw [hr, hs']
    rw [hm] at hy2
    clear hy hd h hl hr hs' hm
    have hi : IntKind.i64.wrap (((m + 1 : Nat) : Int) - 1) = ((m : Nat) : Int) := (IntWalk.i64_in _ (by omega)).trans (by omega)
    have hi2 : IntKind.i64.wrap (((m : Nat) : Int) + 1 - 1) = ((m : Nat) : Int) := (IntWalk.i64_in _ (by omega)).trans (by omega)
    go_enter Tryz.func77, Tryz.ntmps77
    go_wp2_with (go_at_call 103; refine HC.out.mono ?_; rintro e w1 ⟨rfl, rfl⟩)
    go_ret2
    exact ⟨rfl, Below.refl _ _⟩
  · rw [decide_eq_false h] at HC ⊢
    rw [if_neg h]
    obtain ⟨s, hs'⟩ : ∃ s : ByteArray, ⟨x.toArray⟩ = s := ⟨_, rfl⟩
    rw [hs'] at HC ⊢
    clear h hl hs'
    go_enter Tryz.func77, Tryz.ntmps77
    go_wp2_with (go_at_call 103; refine HC.out.mono ?_; rintro e w1 ⟨rfl, rfl⟩)
    go_ret2
    exact ⟨rfl, Below.refl _ _⟩
set_option maxHeartbeats 4000000 in
theorem cut_c (x : List UInt8) (hl : x.length ≤ 1000000) (w : World) :
    Calls Tryz.prog 44 #[.string ⟨x.toArray⟩, .string ⟨#[10]⟩] w fun e w' => e = .returned (.tuple #[.string ⟨(if x.getLast? = some 10 then x.dropLast else x).toArray⟩, .bool (decide (x.getLast? = some 10))]) ∧ Below w.heap.size w w' := by
  have HC := hid (icut_c x hl w)
  generalize (⟨(if x.getLast? = some 10 then x.dropLast else x).toArray⟩ : ByteArray) = r at HC ⊢
  generalize decide (x.getLast? = some 10) = b at HC ⊢
  generalize (⟨x.toArray⟩ : ByteArray) = s at HC ⊢
  go_enter Tryz.func44, Tryz.ntmps44
  go_wp2_with (go_at_call 77; refine HC.out.mono ?_; rintro e w1 ⟨rfl, hb1⟩)
  go_ret2
  exact ⟨rfl, hb1⟩
theorem numN_snoc (l : List UInt8) (c : UInt8) : numN (l ++ [c]) = 10 * numN l + (c.toNat - 48) := by
  rw [numN, numA, List.foldl_append]
  rfl
theorem wrap_i8 (c : Nat) (h : 48 ≤ c ∧ c ≤ 57) : IntKind.u8.wrap (((c : Nat) : Int) - 48) = ((c - 48 : Nat) : Int) := by
  show (((c : Nat) : Int) - 48) % 256 = _
  omega
set_option maxHeartbeats 8000000 in
theorem iatoi_c (s : ByteArray) (h1 : 1 ≤ s.data.toList.length) (h16 : s.data.toList.length ≤ 16) (hd : s.data.toList.all digB = true) (w : World) :
    Calls Tryz.prog 122 #[.string s] w fun e w' => e = .returned (.tuple #[.int .i64 ((numN s.data.toList : Nat) : Int), .nilIface]) ∧ Below w.heap.size w w' := by
  have hcv := Lib.run_convert_string_bytes (P := Tryz.prog) w 9 78 5 s Tryz.underlying9 Tryz.underlying78 Tryz.underlying5
  have hcl := fun j (hj : j < s.size) => Lib.bytesWorld_cell w 5 s j hj
  have hbw := Lib.bytesWorld_below w 5 s
  obtain ⟨n, hn⟩ : ∃ n, s.size = n := ⟨_, rfl⟩
  have hl : s.data.toList.length = n := by rw [Array.length_toList]; exact hn
  obtain ⟨L, hL⟩ : ∃ L, s.data.toList = L := ⟨_, rfl⟩
  obtain ⟨c0, hc0⟩ : ∃ c, L[0]? = some c := ⟨_, List.getElem?_eq_getElem (by rw [← hL]; omega)⟩
  obtain ⟨k0, hk0⟩ : ∃ c, c0.toNat = c := ⟨_, rfl⟩
  have hg0 : ∀ h : 0 < s.size, (s[0]'h).toNat = k0 := fun h => by
    have h2 : (s.data.toList)[0]? = some c0 := by rw [hL]; exact hc0
    obtain ⟨h3, h4⟩ := List.getElem?_eq_some_iff.1 h2
    rw [← hk0, ← h4]
    rfl
  rw [hL] at hl hcl h1 h16 hd ⊢
  have hdc0 : 48 ≤ k0 ∧ k0 ≤ 57 := by
    have := List.all_eq_true.1 hd c0 (List.mem_of_getElem? hc0)
    rw [digB, hk0, Bool.and_eq_true, decide_eq_true_eq, decide_eq_true_eq] at this
    exact this
  rw [hl] at h1 h16
  rw [hn] at hcv hcl
  generalize Lib.bytesWorld w 5 s = wb at hcv hcl hbw
  obtain ⟨cap, hcap⟩ : ∃ cap, grownCap w n 0 5 = cap := ⟨_, rfl⟩
  rw [hcap] at hcv
  have HCL := hid hcl
  have HBW := hid hbw
  have HL := hid (And.intro hl hd)
  have q0 : decide ((0 : Int) < ((n : Nat) : Int)) = true := decide_eq_true (by omega)
  have q0' : decide (0 < n) = true := decide_eq_true (by omega)
  have q1 : decide (((n : Nat) : Int) < 19) = true := decide_eq_true (by omega)
  have q1' : decide (n < 19) = true := decide_eq_true (by omega)
  have q45 : (((k0 : Nat) : Int) == 45) = false := by simp; omega
  have q43 : (((k0 : Nat) : Int) == 43) = false := by simp; omega
  have q45' : (k0 == 45) = false := by simp; omega
  have q43' : (k0 == 43) = false := by simp; omega
  have hpos : 0 < n := by omega
  clear hcl hbw hcap hL hl hd hc0 hk0 hdc0
  go_enter Tryz.func122, Tryz.ntmps122
  go_wp2_with fail
  go_loopw [6, 49] (fun nx ix wr => ∃ i : Nat, i ≤ n ∧ nx = .int .i64 ((numN (L.take i) : Nat) : Int) ∧ ix = .int .i64 ((i : Nat) : Int) ∧ wr = wb) (fun _ ix _ => n - (intOf ix).toNat)
  case atStart => exact ⟨0, by omega, rfl, rfl, rfl⟩
  case round =>
    obtain ⟨i, hi, rfl, rfl, rfl⟩ := hrel
    rcases Nat.lt_or_ge i n with hlt | hge
    · have hin : decide (((i : Nat) : Int) < ((n : Nat) : Int)) = true := decide_eq_true (by omega)
      have hin' : ((i : Nat) : Int) < ((n : Nat) : Int) := by omega
      have hi0 : (0 : Int) ≤ ((i : Nat) : Int) := by omega
      have hiw : IntKind.i64.wrap (((i : Nat) : Int) + 1) = ((i + 1 : Nat) : Int) := (IntWalk.i64_in _ (by omega)).trans (by omega)
      have hc := HCL.out i hlt
      have hiL : i < L.length := by rw [HL.out.1]; exact hlt
      have htk : numN (L.take (i + 1)) = 10 * numN (L.take i) + (L[i].toNat - 48) := by
        rw [List.take_add_one, List.getElem?_eq_getElem hiL]
        exact numN_snoc _ _
      have hbt := numA_lt (L.take i) 0 (List.all_eq_true.2 fun x hx => List.all_eq_true.1 HL.out.2 x (List.mem_of_mem_take hx))
      have hhx := List.all_eq_true.1 HL.out.2 L[i] (List.getElem_mem hiL)
      rw [digB, Bool.and_eq_true, decide_eq_true_eq, decide_eq_true_eq] at hhx
      rw [List.getD_eq_getElem?_getD, List.getElem?_eq_getElem hiL, Option.getD_some] at hc
      obtain ⟨c, hcc⟩ : ∃ c, L[i].toNat = c := ⟨_, rfl⟩
      rw [hcc] at hc htk hhx
      change numN (L.take i) < _ at hbt
      obtain ⟨x, hx⟩ : ∃ x, numN (L.take i) = x := ⟨_, rfl⟩
      rw [hx, List.length_take] at hbt
      rw [hx] at htk ⊢
      have hx60 : x < 10000000000000000 := Nat.lt_of_lt_of_le hbt (by
        have : 10 ^ (min i L.length) ≤ 10 ^ 16 := Nat.pow_le_pow_right (by decide) (by omega)
        omega)
      have hwd := wrap_i8 c hhx
      obtain ⟨d, hd⟩ : ∃ d, c - 48 = d := ⟨_, rfl⟩
      have hd9 : d ≤ 9 := by omega
      rw [hd] at htk hwd
      obtain ⟨y, hy⟩ : ∃ y, 10 * x = y := ⟨_, rfl⟩
      obtain ⟨z, hz⟩ : ∃ z, y + d = z := ⟨_, rfl⟩
      rw [hy, hz] at htk
      have hwy : IntKind.i64.wrap (((x : Nat) : Int) * 10) = ((y : Nat) : Int) := (IntWalk.i64_in _ (by omega)).trans (by omega)
      have hwz : IntKind.i64.wrap (((y : Nat) : Int) + ((d : Nat) : Int)) = ((z : Nat) : Int) := (IntWalk.i64_in _ (by omega)).trans (by omega)
      have hwd2 : IntKind.i64.wrap ((d : Nat) : Int) = ((d : Nat) : Int) := IntWalk.i64_in _ (by omega)
      have q9 : decide ((9 : Int) < ((d : Nat) : Int)) = false := decide_eq_false (by omega)
      have q9' : decide (9 < d) = false := decide_eq_false (by omega)
      have HT := hid htk
      clear htk hbt hhx hcc hx hy hz hd
      go_wp2_with fail
      go_roundw
      case rel => exact ⟨i + 1, by omega, by rw [HT.out], rfl, trivial⟩
      case measure => simp only [intOf, Int.toNat_natCast]; omega
    · obtain rfl : i = n := by omega
      have hin : decide (((i : Nat) : Int) < ((i : Nat) : Int)) = false := decide_eq_false (by omega)
      have htk : L.take i = L := List.take_of_length_le (by have := HL.out.1; omega)
      rw [htk]
      go_wp2_with fail
      go_ret2
      exact ⟨rfl, HBW.out⟩
end Go.Proofs.YtbcileppebpamaaGreatDoor
set_option linter.unusedSimpArgs false
set_option linter.unusedVariables false
namespace Go.Proofs.YtbcileppebpamaaGreatDoor
open Go Go.RowKit Go.Shelf
set_option maxRecDepth 100000
theorem atoi_c (s : ByteArray) (h1 : 1 ≤ s.data.toList.length) (h16 : s.data.toList.length ≤ 16) (hd : s.data.toList.all digB = true) (w : World) :
    Calls Tryz.prog 104 #[.string s] w fun e w' => e = .returned (.tuple #[.int .i64 ((numN s.data.toList : Nat) : Int), .nilIface]) ∧ Below w.heap.size w w' := by
  have HC := hid (iatoi_c s h1 h16 hd w)
  generalize numN s.data.toList = n at HC ⊢
  clear h1 h16 hd
  go_enter Tryz.func104, Tryz.ntmps104
  go_wp2_with (go_at_call 122; refine HC.out.mono ?_; rintro e w1 ⟨rfl, hb1⟩)
  go_ret2
  exact ⟨rfl, hb1⟩
def digCs : List UInt8 := [48, 49, 50, 51, 52, 53, 54, 55, 56, 57]
theorem dig_cs (c : UInt8) : digCs.contains c = digB c := by
  have : ∀ n : Fin 256, digCs.contains (UInt8.ofNat n.1) = digB (UInt8.ofNat n.1) := by decide +kernel
  have h := this ⟨c.toNat, c.toNat_lt⟩
  simpa using h
theorem trimD_c (s : ByteArray) (hs : s.size ≤ 1000000) (w : World) :
    Calls Tryz.prog 71 #[.string s, .string ⟨#[48, 49, 50, 51, 52, 53, 54, 55, 56, 57]⟩] w fun e w' => (∃ r : ByteArray, e = .returned (.string r) ∧ r.toList.isEmpty = s.data.toList.all digB) ∧ Below w.heap.size w w' := by
  have hcon := Any.strings_Trim_laid lays160 (by kernel_rfl) s ⟨#[48, 49, 50, 51, 52, 53, 54, 55, 56, 57]⟩ w (by omega) (by decide) (ascii_of_all (by decide))
  change Calls Tryz.prog 71 _ _ (fun e w' => e = .returned (.string ⟨(Lib.trimS s.data.toList digCs).toArray⟩) ∧ Below w.heap.size w w') at hcon
  exact hcon.mono fun e w' h => ⟨⟨_, h.1, trim_all s.data.toList digCs digB dig_cs⟩, h.2⟩
def numBb (x : ByteArray) : Bool := numB x.data.toList
def numBn (x : ByteArray) : Int := ((numN x.data.toList : Nat) : Int)
theorem numB_long (l : List UInt8) (h : 16 < l.length) : numB l = false := by
  rw [numB, decide_eq_false (show ¬ l.length ≤ 16 by omega)]; simp
theorem numB_dig (l : List UInt8) (h : l.all digB = false) : numB l = false := by
  rw [numB, h]; simp
theorem bytes_empty (x : ByteArray) : x.toList.isEmpty = decide (x.data.toList.length = 0) := by
  rw [ByteArray.toList_eq]
  cases x.data.toList <;> simp
/-- What the program asks of a word. -/
theorem numB_cases (x : ByteArray) : (16 < x.data.toList.length ∧ numBb x = false) ∨ (x.data.toList = [] ∧ numBb x = false) ∨
    (1 ≤ x.data.toList.length ∧ x.data.toList.length ≤ 16 ∧ x.data.toList.all digB = false ∧ numBb x = false) ∨
    (1 ≤ x.data.toList.length ∧ x.data.toList.length ≤ 16 ∧ x.data.toList.all digB = true ∧ ∃ c l, x.data.toList = c :: l ∧ ((c = 48 ∧ l ≠ [] ∧ numBb x = false) ∨ (c = 48 ∧ l = [] ∧ numBb x = true) ∨ (c ≠ 48 ∧ numBb x = true))) := by
  unfold numBb
  by_cases h16 : 16 < x.data.toList.length
  · exact .inl ⟨h16, numB_long _ h16⟩
  · cases hl : x.data.toList with
    | nil => exact .inr (.inl ⟨rfl, rfl⟩)
    | cons c l =>
      rw [hl] at h16
      simp only [List.length_cons] at h16 ⊢
      cases hd : (c :: l).all digB with
      | false => exact .inr (.inr (.inl ⟨by omega, by omega, rfl, numB_dig _ hd⟩))
      | true =>
        refine .inr (.inr (.inr ⟨by omega, by omega, rfl, c, l, rfl, ?_⟩))
        have e : numB (c :: l) = !lead0 (c :: l) := by
          rw [numB, hd, List.length_cons, decide_eq_true (by omega), decide_eq_true (by omega)]; simp
        rw [e, lead0]
        by_cases hc : c = 48
        · cases l with
          | nil => exact .inr (.inl ⟨hc, rfl, by simp⟩)
          | cons d l => exact .inl ⟨hc, by simp, by simp [hc]⟩
        · exact .inr (.inr ⟨hc, by simp [hc]⟩)
end Go.Proofs.YtbcileppebpamaaGreatDoor
