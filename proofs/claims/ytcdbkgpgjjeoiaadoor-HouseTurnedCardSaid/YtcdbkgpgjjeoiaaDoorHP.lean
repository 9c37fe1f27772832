/- Walks of package house: houses prepared for two of them, or the error. -/
import Derived.Test.YtcdbkgpgjjeoiaaDoorHW6
import Derived.Deep.RegionHeld
namespace Go.Proofs.YtcdbkgpgjjeoiaaDoor
open Go Go.RowKit
set_option maxRecDepth 100000

theorem zeros12 : (#[.int .i64 0, .int .i64 0, .int .i64 0, .int .i64 0, .int .i64 0, .int .i64 0, .int .i64 0, .int .i64 0, .int .i64 0, .int .i64 0, .int .i64 0, .int .i64 0] : Array Value) = irow 12 (fun _ => 0) := rfl
/-- Two numbers of houses. -/
def two (a b : Int) : Nat → Int := fun i => if i = 0 then a else b
theorem two_cells (a b : Int) (w : World) (t : TypeId) : ∀ i, i < 2 → (w.alloc (.cells #[.int .i64 a, .int .i64 b] t)).cell? ⟨w.heap.size, i, none⟩ = some (.int .i64 (two a b i)) := by
  intro i hi
  rw [cell_of_row _ _ i _ _ (0, 0) (heap_alloc_new w (.cells #[.int .i64 a, .int .i64 b] t))]
  have h : i = 0 ∨ i = 1 := by omega
  rcases h with rfl | rfl <;> rfl
theorem one_cells (a : Int) (w : World) (t : TypeId) : ∀ i, i < 1 → (w.alloc (.cells #[.int .i64 a] t)).cell? ⟨w.heap.size, i, none⟩ = some (.int .i64 ((fun _ => a) i)) := by
  intro i hi
  rw [cell_of_row _ _ i _ _ (0, 0) (heap_alloc_new w (.cells #[.int .i64 a] t))]
  obtain rfl : i = 0 := by omega
  rfl
theorem seats2_yes (x y : Nat) (hx : x < 12) (hy : y < 12) (a b : Int) (ha : a = ((x : Nat) : Int) + 1) (hb : b = ((y : Nat) : Int) + 1) (w : World) :
    Calls Tryd.prog 46 #[.slice (some ⟨w.heap.size, 0, none⟩) 2 2] (w.alloc (.cells #[.int .i64 a, .int .i64 b] 3)) fun e w' => ∃ g c, e = .returned (.tuple #[.slice (some ⟨g, 0, none⟩) 2 c, .bool true]) ∧
      w'.cell? ⟨g, 0, none⟩ = some (.int .i64 ((x : Nat) : Int)) ∧ w'.cell? ⟨g, 1, none⟩ = some (.int .i64 ((y : Nat) : Int)) ∧ w.heap.size < g ∧ g < w'.heap.size ∧ Below w.heap.size w w' :=
  (seats_yes (two a b) w.heap.size 2 2 _ (by omega) (two_cells a b w _) (by simp) (fun i hi => by
    have h : i = 0 ∨ i = 1 := by omega
    rcases h with rfl | rfl <;> simp [two, Hou] <;> omega)).mono fun e w' ⟨v, he, hs, hbl⟩ => by
      obtain ⟨g, c, hv, hB, hg, hc⟩ := hs.reads (by omega)
      refine ⟨g, c, by rw [he, hv], ?_, ?_, by have := hB; simp at this; omega, hg, ((Below.refl _ w).alloc (Nat.le_refl _) _).trans (hbl.mono (by simp))⟩
      · rw [hc 0 (by omega)]; simp [two, ha]
      · rw [hc 1 (by omega)]; simp [two, hb]
theorem seats2_no (a b : Int) (h : ¬ (Hou a ∧ Hou b)) (w : World) :
    Calls Tryd.prog 46 #[.slice (some ⟨w.heap.size, 0, none⟩) 2 2] (w.alloc (.cells #[.int .i64 a, .int .i64 b] 3)) fun e w' => e = .returned (.tuple #[.slice none 0 0, .bool false]) ∧ Below w.heap.size w w' :=
  (seats_no (two a b) w.heap.size 2 2 _ (by omega) (two_cells a b w _) (by simp) (fun hS => h ⟨by simpa [two] using hS 0 (by omega), by simpa [two] using hS 1 (by omega)⟩)).mono fun e w' ⟨he, hbl⟩ =>
    ⟨he, ((Below.refl _ w).alloc (Nat.le_refl _) _).trans (hbl.mono (by simp))⟩
theorem seats1_yes (x : Nat) (hx : x < 12) (a : Int) (ha : a = ((x : Nat) : Int) + 1) (w : World) :
    Calls Tryd.prog 46 #[.slice (some ⟨w.heap.size, 0, none⟩) 1 1] (w.alloc (.cells #[.int .i64 a] 3)) fun e w' => ∃ g c, e = .returned (.tuple #[.slice (some ⟨g, 0, none⟩) 1 c, .bool true]) ∧
      w'.cell? ⟨g, 0, none⟩ = some (.int .i64 ((x : Nat) : Int)) ∧ w.heap.size < g ∧ g < w'.heap.size ∧ Below w.heap.size w w' :=
  (seats_yes (fun _ => a) w.heap.size 1 1 _ (by omega) (one_cells a w _) (by simp) (fun i hi => by simp [Hou]; omega)).mono fun e w' ⟨v, he, hs, hbl⟩ => by
      obtain ⟨g, c, hv, hB, hg, hc⟩ := hs.reads (by omega)
      refine ⟨g, c, by rw [he, hv], ?_, by have := hB; simp at this; omega, hg, ((Below.refl _ w).alloc (Nat.le_refl _) _).trans (hbl.mono (by simp))⟩
      rw [hc 0 (by omega)]; simp [ha]
theorem seats1_no (a : Int) (h : ¬ Hou a) (w : World) :
    Calls Tryd.prog 46 #[.slice (some ⟨w.heap.size, 0, none⟩) 1 1] (w.alloc (.cells #[.int .i64 a] 3)) fun e w' => e = .returned (.tuple #[.slice none 0 0, .bool false]) ∧ Below w.heap.size w w' :=
  (seats_no (fun _ => a) w.heap.size 1 1 _ (by omega) (one_cells a w _) (by simp) (fun hS => h (hS 0 (by omega)))).mono fun e w' ⟨he, hbl⟩ =>
    ⟨he, ((Below.refl _ w).alloc (Nat.le_refl _) _).trans (hbl.mono (by simp))⟩
/-- Thirteen cells. -/
theorem ldcs {ops : Array Oper} {rest : List Oper} {o : Oper} {a : Act} {w : World} {Q : Exit → Act → World → Prop} (x : Operand) (hgd : o.guard = none) (ho : o.op = .load 109 x)
    (g : Nat) (hx : a.eval x = .pointer (some ⟨g, 0, none⟩)) (cs : Array Value) (hsz : cs.size = 13) (t : TypeId) (hg : w.heap[g]? = some (.cells cs t (0, 0)))
    (hK : wpList Tryd.prog ops Q rest (a.put o.dst (.agg cs)) w) : wpList Tryd.prog ops Q (o :: rest) a w :=
  wpList_load_row hgd 109 x ho g hx t _ (0, 0) _ hg Tryd.underlying109 rfl (by rw [hsz]; kernel_rfl) hK
theorem stcs {ops : Array Oper} {rest : List Oper} {o : Oper} {a : Act} {w : World} {Q : Exit → Act → World → Prop} (x y : Operand) (hgd : o.guard = none) (ho : o.op = .store 109 x y)
    (g : Nat) (vs : Array Value) (hv : vs.size = 13) (hall : vs.all Value.oneCell' = true) (hx : a.eval x = .pointer (some ⟨g, 0, none⟩)) (hy : a.eval y = .agg vs) (cs : Array Value) (hcs : cs.size = 13) (t : TypeId) (hg : w.heap[g]? = some (.cells cs t (0, 0)))
    (hK : wpList Tryd.prog ops Q rest (a.put o.dst undef) (w.setRow g vs)) : wpList Tryd.prog ops Q (o :: rest) a w :=
  wpList_store_row hgd 109 x y ho g _ hx hy t _ hg (by rw [hv]; kernel_rfl) (by rw [hv, hcs]) hall hK
theorem sky0_all : sky0.all Value.oneCell' = true := by
  rw [show sky0 = (irow 12 (fun _ => 0)).push (.map none) from rfl, Array.all_push, irow_all]
  rfl
theorem run_ld13 {w : World} {g : Nat} {t : TypeId} {cs : Array Value} (hsz : cs.size = 13) (hg : w.heap[g]? = some (.cells cs t (0, 0))) : (loadVar 109 ⟨g, 0, none⟩).run Tryd.prog w = .ok (.agg cs) w :=
  run_loadVar_row w g t 109 cs (0, 0) _ hg Tryd.underlying109 rfl (by rw [hsz]; kernel_rfl)
/-- Four results, the first one a sky. -/
theorem retsky4 {fn : Func} {p q r s : Tmp} (h : fn.results = #[.cell p 109, .tmp q, .tmp r, .tmp s]) {a : Act} {w : World} {R : Ending → World → Prop} (g : Nat) (cs : Array Value) (hsz : cs.size = 13) (t : TypeId) (v1 v2 v3 : Value)
    (hp : a.tmps.getD p undef = .pointer (some ⟨g, 0, none⟩)) (h1 : a.tmps.getD q undef = v1) (h2 : a.tmps.getD r undef = v2) (h3 : a.tmps.getD s undef = v3) (hg : w.heap[g]? = some (.cells cs t (0, 0))) (hd : a.defers = []) (hR : R (.returned (.tuple #[.agg cs, v1, v2, v3])) w) : bodyPost Tryd.prog fn R .ret a w := by
  refine bodyPost_ret (v := .tuple #[.agg cs, v1, v2, v3]) ?_ hd hR
  have hl := run_ld13 hsz hg
  have hp' : a.tmps[p]?.getD undef = .pointer (some ⟨g, 0, none⟩) := by simpa using hp
  have h1' : a.tmps[q]?.getD undef = v1 := by simpa using h1
  have h2' : a.tmps[r]?.getD undef = v2 := by simpa using h2
  have h3' : a.tmps[s]?.getD undef = v3 := by simpa using h3
  simp [results, h, hp', h1', h2', h3', asAddr, hl]
theorem exec_ldrow {P : Program} {T n : Nat} (hT : ArrT P T n) {a : Act} {o : Oper} {x : Operand} {W : World} (ho : o.op = .load T x) {g : Nat} (hx : a.eval x = .pointer (some ⟨g, 0, none⟩)) {S : Nat → Int} {t : TypeId} (hg : W.heap[g]? = some (.cells (irow n S) t (0, 0))) :
    (execOp a.eval o).run P W = .ok (.value (.agg (irow n S))) W := by
  simp only [execOp, ho, hx, Instr.loadAt, Instr.sureAddr, Sem.run_bind, Sem.run_pure, Result.andThen_ok, run_loadVar_irow hT hg]
/-- An operation that yields one value in all worlds of S is taken first. -/
theorem takeH {P : Program} {md : Region.Mode} {ops : Array Oper} {Q : Exit → Act → World → Prop} {S : World → Prop} {i : Nat} {oi : Oper} (v : Value) {fuel : Nat} {listed : Array Bool} {a : Act} {w : World} {d : Option Tmp} (hi : ops[i]? = some oi)
    (hs : Region.noSelect ops = true) (hf : Region.free md ops listed i = true) (hr : (Region.ready md ops listed).contains i = true)
    (hQ : ∀ c a w, Q (.panic c) (a.put oi.dst v) w → Q (.panic c) a w) (hg : oi.guard = none) (hy : ∀ W, S W → (execOp a.eval oi).run P W = .ok (.value v) W) (hS : S w) (hd : oi.dst = d)
    (h : wpAnyH P md ops Q S fuel (listed.setIfInBounds i true) (a.put d v) w) : wpAnyH P md ops Q S (fuel + 1) listed a w := by
  subst hd
  exact wpAnyH_take hi hs hf hr hQ (.inl ⟨by simp [Region.wanted, hg], hy⟩) hS h
/-- What lies when houses are prepared. -/
theorem pair_start (S : Nat → Int) (w : World) : ((w.alloc (.cells (irow 12 S) 24)).alloc (.cells sky0 109)).heap[w.heap.size]? = some (.cells (irow 12 S) 24 (0, 0)) ∧
    ((w.alloc (.cells (irow 12 S) 24)).alloc (.cells sky0 109)).heap[w.heap.size + 1]? = some (.cells sky0 109 (0, 0)) ∧
    Below w.heap.size w ((w.alloc (.cells (irow 12 S) 24)).alloc (.cells sky0 109)) ∧ w.heap.size + 1 < ((w.alloc (.cells (irow 12 S) 24)).alloc (.cells sky0 109)).heap.size :=
  ⟨heap_alloc2_old w _ _, heap_alloc2_new w _ _, ((Below.refl _ _).alloc (Nat.le_refl _) _).alloc (by simp) _, by simp⟩

set_option maxHeartbeats 400000 in
theorem pair_arg (S : Nat → Int) (hS : ¬ ∀ i, i < 12 → Fig (S i)) (a b : Int) (w : World) :
    Calls Tryd.prog 54 #[.agg (irow 12 S), .int .i64 a, .int .i64 b] w fun e w' => e = .returned (.tuple #[.agg sky0, .int .i64 0, .int .i64 0, .int .i64 2]) ∧ Below w.heap.size w w' := by
  have HC := hid (fun W => hCheck_no S hS W)
  obtain ⟨h0, h1, hb, hsz⟩ := pair_start S w
  clear hS
  go_enter Tryd.func54, Tryd.ntmps54
  go_wp2_with fail
  simp only [zeros13]
  generalize (w.alloc (.cells (irow 12 S) 24)).alloc (.cells sky0 109) = w1 at *
  generalize hg : w.heap.size = g at *
  go_wp2_with (first
    | (refine ldrow arrHouses _ rfl rfl _ rfl _ _ h0 ?_)
    | (go_at_call 40; refine (HC.out _).mono ?_; rintro e w2 ⟨rfl, hb2⟩; have h2 := heap_below hb2 h1 hsz; clear h0 h1)
    | (refine ldcs _ rfl rfl _ rfl _ sky0_size _ h2 ?_)
    | (refine stcs _ _ rfl rfl _ _ sky0_size sky0_all rfl rfl _ sky0_size _ h2 ?_))
  refine retsky4 Tryd.results54 (g + 1) sky0 sky0_size _ _ _ _ rfl rfl rfl rfl (setRow_heap _ _ _ _ _ _ h2) rfl ?_
  refine ⟨rfl, ?_⟩
  rw [hg]
  exact below_setRow (hb.trans (hb2.mono (by omega))) (by omega) _
set_option maxHeartbeats 800000 in
theorem pair_range (S : Nat → Int) (hS : ∀ i, i < 12 → Fig (S i)) (a b : Int) (hab : ¬ (Hou a ∧ Hou b)) (w : World) :
    Calls Tryd.prog 54 #[.agg (irow 12 S), .int .i64 a, .int .i64 b] w fun e w' => e = .returned (.tuple #[.agg sky0, .int .i64 0, .int .i64 0, .int .i64 3]) ∧ Below w.heap.size w w' := by
  have HC := hid (fun W => hCheck_yes S hS W)
  have HN := hid (fun W => seats2_no a b hab W)
  obtain ⟨h0, h1, hb, hsz⟩ := pair_start S w
  clear hS hab
  go_enter Tryd.func54, Tryd.ntmps54
  go_wp2_with fail
  simp only [zeros13]
  generalize (w.alloc (.cells (irow 12 S) 24)).alloc (.cells sky0 109) = w1 at *
  generalize hg : w.heap.size = g at *
  go_wp2_with (first
    | (refine ldrow arrHouses _ rfl rfl _ rfl _ _ h0 ?_)
    | (go_at_call 40; refine (HC.out _).mono ?_; rintro e w2 ⟨rfl, hb2⟩; have h2 := heap_below hb2 h1 hsz; clear h0 h1)
    | (go_at_call 46; refine (HN.out _).mono ?_; rintro e w3 ⟨rfl, hb3⟩; have h3 := heap_below hb3 h2 (heap_lt h2); clear h2)
    | (refine ldcs _ rfl rfl _ rfl _ sky0_size _ h3 ?_)
    | (refine stcs _ _ rfl rfl _ _ sky0_size sky0_all rfl rfl _ sky0_size _ h3 ?_))
  have hs2 := hb2.size
  refine retsky4 Tryd.results54 (g + 1) sky0 sky0_size _ _ _ _ rfl rfl rfl rfl (setRow_heap _ _ _ _ _ _ h3) rfl ?_
  refine ⟨rfl, ?_⟩
  rw [hg]
  exact below_setRow ((hb.trans (hb2.mono (by omega))).trans (hb3.mono (by omega))) (by omega) _
set_option maxHeartbeats 800000 in
theorem pair_twice (S : Nat → Int) (hS : ∀ i, i < 12 → Fig (S i)) (a : Int) (ha : Hou a) (w : World) :
    Calls Tryd.prog 54 #[.agg (irow 12 S), .int .i64 a, .int .i64 a] w fun e w' => e = .returned (.tuple #[.agg sky0, .int .i64 0, .int .i64 0, .int .i64 6]) ∧ Below w.heap.size w w' := by
  have HC := hid (fun W => hCheck_yes S hS W)
  have HN := hid (fun W => seats2_yes (a - 1).toNat (a - 1).toNat (by unfold Hou at ha; omega) (by unfold Hou at ha; omega) a a (by unfold Hou at ha; omega) (by unfold Hou at ha; omega) W)
  obtain ⟨h0, h1, hb, hsz⟩ := pair_start S w
  clear hS ha
  generalize (a - 1).toNat = x at *
  go_enter Tryd.func54, Tryd.ntmps54
  go_wp2_with fail
  simp only [zeros13]
  generalize (w.alloc (.cells (irow 12 S) 24)).alloc (.cells sky0 109) = w1 at *
  generalize hg : w.heap.size = g at *
  go_wp2_with (first
    | (refine ldrow arrHouses _ rfl rfl _ rfl _ _ h0 ?_)
    | (go_at_call 40; refine (HC.out _).mono ?_; rintro e w2 ⟨rfl, hb2⟩; have h2 := heap_below hb2 h1 hsz; clear h0 h1)
    | (go_at_call 46; refine (HN.out _).mono ?_; rintro e w3 ⟨gs, cs, rfl, hc0, hc1, hgB, hgs, hb3⟩; have h3 := heap_below hb3 h2 (heap_lt h2); clear h2)
    | (refine ldcs _ rfl rfl _ rfl _ sky0_size _ h3 ?_)
    | (refine stcs _ _ rfl rfl _ _ sky0_size sky0_all rfl rfl _ sky0_size _ h3 ?_))
  have hs2 := hb2.size
  refine retsky4 Tryd.results54 (g + 1) sky0 sky0_size _ _ _ _ rfl rfl rfl rfl (setRow_heap _ _ _ _ _ _ h3) rfl ?_
  refine ⟨rfl, ?_⟩
  rw [hg]
  exact below_setRow ((hb.trans (hb2.mono (by omega))).trans (hb3.mono (by omega))) (by omega) _
set_option maxHeartbeats 800000 in
theorem pair_c (h : Nat → Nat) (hh : ∀ i, i < 12 → h i < 16) (x y : Nat) (hx : x < 12) (hy : y < 12) (hxy : x ≠ y) (a b : Int) (ha : a = ((x : Nat) : Int) + 1) (hb' : b = ((y : Nat) : Int) + 1) (w : World) :
    Calls Tryd.prog 54 #[.agg (irow 12 (cst h)), .int .i64 a, .int .i64 b] w fun e w' => ∃ m, e = .returned (.tuple #[.agg (sky h m), .int .i64 ((x : Nat) : Int), .int .i64 ((y : Nat) : Int), .int .i64 0]) ∧ SkyM w' m 12 (onF h 12) ∧ w.heap.size ≤ m ∧ Below w.heap.size w w' := by
  have HC := hid (fun W => hCheck_yes (cst h) (fun i hi => ⟨by simp, by have := hh i hi; simp; omega⟩) W)
  have HN := hid (fun W => seats2_yes x y hx hy a b ha hb' W)
  have HL := hid (fun W => look_c h hh W)
  obtain ⟨h0, h1, hb, hsz⟩ := pair_start (cst h) w
  have hne : (a == b) = false := by simp; omega
  clear hh ha hb' hx hy hxy
  go_enter Tryd.func54, Tryd.ntmps54
  go_wp2_with fail
  simp only [zeros13]
  generalize (w.alloc (.cells (irow 12 (cst h)) 24)).alloc (.cells sky0 109) = w1 at *
  generalize hg : w.heap.size = g at *
  go_wp2_with (first
    | (refine ldrow arrHouses _ rfl rfl _ rfl _ _ h0 ?_)
    | (go_at_call 40; refine (HC.out _).mono ?_; rintro e w2 ⟨rfl, hb2⟩; have h2 := heap_below hb2 h1 hsz; have k2 := heap_below hb2 h0 (heap_lt h0); clear h0 h1)
    | (go_at_call 46; refine (HN.out _).mono ?_; rintro e w3 ⟨gs, cs, rfl, hc0, hc1, hgB, hgs, hb3⟩; have h3 := heap_below hb3 h2 (heap_lt h2); have k3 := heap_below hb3 k2 (heap_lt k2); clear h2 k2))
  have hs2 := hb2.size
  have hB3 : Below g w w3 := (hb.trans (hb2.mono (by omega))).trans (hb3.mono (by omega))
  have hg3 : g ≤ w3.heap.size := by have := hb3.size; omega
  have hgs1 : g + 1 < gs := by omega
  clear hb hb2 hb3 hsz hs2 hgB
  have hLk := hid (fun (W : World) (hb : Below w3.heap.size w3 W) => hb)
  refine wp_region_noPanic ?_
  refine wp_region_held_drew (S := fun W => W.heap[g]? = some (.cells (irow 12 (cst h)) 24 (0, 0)) ∧ W.cell? ⟨gs, 0, none⟩ = some (.int .i64 ((x : Nat) : Int)) ∧ W.cell? ⟨gs, 1, none⟩ = some (.int .i64 ((y : Nat) : Int))) (by kernel_rfl) ⟨k3, hc0, hc1⟩ (fun hHeld => ?_)
  refine takeH (i := 0) (.agg (irow 12 (cst h))) (d := some 35) rfl (by kernel_rfl) (by kernel_rfl) (by kernel_rfl) (fun _ _ _ h => h) rfl (fun W hSw => by exact exec_ldrow arrHouses rfl rfl hSw.1) hHeld rfl ?_
  simp only [Act.put, List.setIfInBounds_toArray, List.set_cons_zero, List.set_cons_succ]
  refine takeH (i := 2) (.slice (some ⟨gs, 0, none⟩) 2 cs) (d := some 37) rfl (by kernel_rfl) (by kernel_rfl) (by kernel_rfl) (fun _ _ _ h => h) rfl (fun W hSw => by go_simp) hHeld rfl ?_
  simp only [Act.put, List.setIfInBounds_toArray, List.set_cons_zero, List.set_cons_succ]
  refine takeH (i := 3) (.pointer (some ⟨gs, 0, none⟩)) (d := some 38) rfl (by kernel_rfl) (by kernel_rfl) (by kernel_rfl) (fun _ _ _ h => h) rfl (fun W hSw => by go_simp) hHeld rfl ?_
  simp only [Act.put, List.setIfInBounds_toArray, List.set_cons_zero, List.set_cons_succ]
  refine takeH (i := 4) (.int .i64 ((x : Nat) : Int)) (d := some 39) rfl (by kernel_rfl) (by kernel_rfl) (by kernel_rfl) (fun _ _ _ h => h) rfl (fun W hSw => by have hc := hSw.2.1; go_simp) hHeld rfl ?_
  simp only [Act.put, List.setIfInBounds_toArray, List.set_cons_zero, List.set_cons_succ]
  refine takeH (i := 5) (.slice (some ⟨gs, 0, none⟩) 2 cs) (d := some 40) rfl (by kernel_rfl) (by kernel_rfl) (by kernel_rfl) (fun _ _ _ h => h) rfl (fun W hSw => by go_simp) hHeld rfl ?_
  simp only [Act.put, List.setIfInBounds_toArray, List.set_cons_zero, List.set_cons_succ]
  refine takeH (i := 6) (.pointer (some ⟨gs, 1, none⟩)) (d := some 41) rfl (by kernel_rfl) (by kernel_rfl) (by kernel_rfl) (fun _ _ _ h => h) rfl (fun W hSw => by go_simp) hHeld rfl ?_
  simp only [Act.put, List.setIfInBounds_toArray, List.set_cons_zero, List.set_cons_succ]
  refine takeH (i := 7) (.int .i64 ((y : Nat) : Int)) (d := some 42) rfl (by kernel_rfl) (by kernel_rfl) (by kernel_rfl) (fun _ _ _ h => h) rfl (fun W hSw => by have hc := hSw.2.2; go_simp) hHeld rfl ?_
  simp only [Act.put, List.setIfInBounds_toArray, List.set_cons_zero, List.set_cons_succ]
  refine wpAnyH_ready (rs := [1]) (by kernel_rfl) (by simp) (AllReadyH.cons rfl (fun K hK => ?_) AllReadyH.nil)
  go_simp
  go_at_call 47
  refine (HL.out _).mono ?_
  rintro e w4 ⟨m, rfl, hM4, hm4, hb4⟩
  have hz4 := heap_below hb4 (show w3.drew.heap[g + 1]? = _ from h3) (heap_lt h3)
  have S4 : w4.heap[g]? = some (.cells (irow 12 (cst h)) 24 (0, 0)) ∧ w4.cell? ⟨gs, 0, none⟩ = some (.int .i64 ((x : Nat) : Int)) ∧ w4.cell? ⟨gs, 1, none⟩ = some (.int .i64 ((y : Nat) : Int)) :=
    ⟨heap_below hb4 (show w3.drew.heap[g]? = _ from k3) (heap_lt k3), (hb4.cell (p := ⟨gs, 0, none⟩) hgs).trans hc0, (hb4.cell (p := ⟨gs, 1, none⟩) hgs).trans hc1⟩
  have hB4 : Below g w w4 := (below_drew hB3).trans (hb4.mono hg3)
  have hm4' : g + 1 < m := by
    have e1 : w3.drew.heap.size ≤ m := hm4
    have e2 : g + 1 < w3.heap.size := heap_lt h3
    have e3 : w3.drew.heap.size = w3.heap.size := rfl
    omega
  go_simp
  refine hK.out _ _ S4 (fun hHeld => ?_)
  clear hK K hb4 hm4
  refine wpAnyH_ready (rs := [8]) (by kernel_rfl) (by simp) (AllReadyH.cons rfl (fun K hK => ?_) AllReadyH.nil)
  refine Eq.mpr (if_pos rfl) ?_
  refine wp_store_row 109 _ _ rfl (g + 1) (sky h m) rfl rfl _ _ hz4 (by rw [sky_size]; kernel_rfl) (by rw [sky_size, sky0_size]) (sky_all _ _) ?_
  have h5 := setRow_heap w4 (g + 1) _ (sky h m) _ _ hz4
  have hM5 : SkyM (w4.setRow (g + 1) (sky h m)) m 12 (onF h 12) := hM4.block (setRow_other _ _ _ _ (by omega))
  have hB5 := below_setRow hB4 (show g ≤ g + 1 by omega) (sky h m)
  have S5 : (w4.setRow (g + 1) (sky h m)).heap[g]? = some (.cells (irow 12 (cst h)) 24 (0, 0)) ∧ (w4.setRow (g + 1) (sky h m)).cell? ⟨gs, 0, none⟩ = some (.int .i64 ((x : Nat) : Int)) ∧ (w4.setRow (g + 1) (sky h m)).cell? ⟨gs, 1, none⟩ = some (.int .i64 ((y : Nat) : Int)) := by
    have e := setRow_other w4 (g + 1) gs (sky h m) (by omega)
    refine ⟨(setRow_other w4 (g + 1) g (sky h m) (by omega)).trans S4.1, ?_, ?_⟩
    · rw [World.cell?, e]; exact S4.2.1
    · rw [World.cell?, e]; exact S4.2.2
  go_simp
  refine hK.out _ _ S5 (fun hHeld => ?_)
  clear hK K
  generalize w4.setRow (g + 1) (sky h m) = w5 at *
  refine takeH (i := 9) (.int .i64 ((x : Nat) : Int)) (d := some 7) rfl (by kernel_rfl) (by kernel_rfl) (by kernel_rfl) (fun _ _ _ h => h) rfl (fun W hSw => by go_simp) hHeld rfl ?_
  simp only [Act.put, List.setIfInBounds_toArray, List.set_cons_zero, List.set_cons_succ]
  refine takeH (i := 10) (.int .i64 ((y : Nat) : Int)) (d := some 8) rfl (by kernel_rfl) (by kernel_rfl) (by kernel_rfl) (fun _ _ _ h => h) rfl (fun W hSw => by go_simp) hHeld rfl ?_
  simp only [Act.put, List.setIfInBounds_toArray, List.set_cons_zero, List.set_cons_succ]
  refine takeH (i := 11) (.int .i64 0) (d := some 9) rfl (by kernel_rfl) (by kernel_rfl) (by kernel_rfl) (fun _ _ _ h => h) rfl (fun W hSw => by go_simp) hHeld rfl ?_
  simp only [Act.put, List.setIfInBounds_toArray, List.set_cons_zero, List.set_cons_succ]
  refine wpAnyH_done (by kernel_rfl) ?_ _
  refine NoPanic.normal ?_
  go_wp2_with fail
  refine retsky4 Tryd.results54 (g + 1) (sky h m) (sky_size _ _) _ _ _ _ rfl rfl rfl rfl h5 rfl ?_
  exact ⟨m, rfl, hM5, by omega, by rw [hg]; exact hB5⟩
end Go.Proofs.YtcdbkgpgjjeoiaaDoor
