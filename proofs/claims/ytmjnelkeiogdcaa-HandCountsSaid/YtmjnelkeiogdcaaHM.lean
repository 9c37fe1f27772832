/- Maps from states to numbers: looked up, written, gone through. -/
import Derived.Test.YtmjnelkeiogdcaaHN
import Derived.Test.YtmjnelkeiogdcaaRG
set_option linter.unusedSimpArgs false
set_option linter.unusedVariables false
namespace Go.Proofs.Ytmjnelkeiogdcaa
open Go Go.RowKit
set_option maxRecDepth 100000

/-- States with numbers. -/
abbrev SL := List (St × Int)
def entsL : SL → Nat → List MapEntry
  | [], _ => []
  | p :: L, i => { key := encS p.1, val := .int .i64 p.2, born := i } :: entsL L (i + 1)
def mapO (L : SL) : Obj := .map (entsL L 0).toArray L.length
theorem entsL_len : ∀ (L : SL) (i : Nat), (entsL L i).length = L.length
  | [], _ => rfl
  | _ :: L, i => by simp [entsL, entsL_len L]
theorem entsL_get : ∀ (L : SL) (i j : Nat) (hj : j < L.length), (entsL L i)[j]? = some { key := encS L[j].1, val := .int .i64 L[j].2, born := i + j }
  | p :: L, i, 0, _ => by simp [entsL]
  | p :: L, i, j + 1, hj => by
    have := entsL_get L (i + 1) j (by simpa using hj)
    simp only [entsL, List.getElem?_cons_succ, this, List.getElem_cons_succ]
    congr 2
    omega
theorem entsL_append (p : St × Int) : ∀ (L : SL) (i : Nat), entsL (L ++ [p]) i = entsL L i ++ [{ key := encS p.1, val := .int .i64 p.2, born := i + L.length }]
  | [], i => by simp [entsL]
  | q :: L, i => by simp [entsL, entsL_append p L (i + 1)]; omega
theorem entsL_set (s : St) (v : Int) : ∀ (L : SL) (i j : Nat), j < L.length → (entsL L i).modify j (fun e => { e with key := encS s, val := .int .i64 v }) = entsL (L.set j (s, v)) i
  | q :: L, i, 0, _ => by simp [entsL]
  | q :: L, i, j + 1, hj => by simp [entsL, entsL_set s v L (i + 1) j (by simpa using hj)]
theorem entsL_setV (v : Int) : ∀ (L : SL) (i j : Nat) (hj : j < L.length), (entsL L i).modify j (fun e => { e with val := .int .i64 v }) = entsL (L.set j (L[j].1, v)) i
  | q :: L, i, 0, _ => by simp [entsL]
  | q :: L, i, j + 1, hj => by simp [entsL, entsL_setV v L (i + 1) j (by simpa using hj)]
/-- Where a state is, and its number. -/
def findS (s : St) : SL → Nat → Option (Nat × Int)
  | [], _ => none
  | p :: L, i => if s = p.1 then some (i, p.2) else findS s L (i + 1)
def hasS (L : SL) (s : St) : Prop := s ∈ L.map Prod.fst
def getS (L : SL) (s : St) : Int := match findS s L 0 with | some z => z.2 | none => 0
def putS (L : SL) (s : St) (v : Int) : SL := match findS s L 0 with | some z => L.set z.1 (s, v) | none => L ++ [(s, v)]
theorem findS_some (s : St) : ∀ (L : SL) (i j : Nat) (v : Int), findS s L i = some (j, v) → i ≤ j ∧ ∃ h : j - i < L.length, L[j - i] = (s, v)
  | [], i, j, v, h => by cases h
  | p :: L, i, j, v, h => by
    unfold findS at h
    split at h
    · rename_i e
      cases h
      refine ⟨Nat.le_refl _, by simp, ?_⟩
      simp [e]
    · obtain ⟨h1, h2, h3⟩ := findS_some s L (i + 1) j v h
      refine ⟨by omega, by simp; omega, ?_⟩
      have : j - i = (j - (i + 1)) + 1 := by omega
      simp only [this, List.getElem_cons_succ]
      exact h3
theorem findS_none (s : St) : ∀ (L : SL) (i : Nat), findS s L i = none → s ∉ L.map Prod.fst
  | [], _, _ => by simp
  | p :: L, i, h => by
    unfold findS at h
    split at h
    · cases h
    · rename_i hne
      have := findS_none s L (i + 1) h
      simp only [List.map_cons, List.mem_cons, not_or]
      exact ⟨hne, this⟩
theorem run_findAsking (s : St) (w : World) : ∀ (L : SL) (i k : Nat), (Instr.findAsking 71 (encS s) (entsL L k) i).run Try.prog w = .ok ((findS s L i).map fun z => (z.1, Value.int .i64 z.2)) w
  | [], i, k => by simp [entsL, Instr.findAsking, findS]
  | p :: L, i, k => by
    simp only [entsL, Instr.findAsking, Sem.run_bind, run_eqS, Result.andThen_ok, findS]
    by_cases h : s = p.1
    · simp [h]
    · simp [h, run_findAsking s w L (i + 1) (k + 1)]
theorem run_findKeyS (s : St) (L : SL) (w : World) : (Instr.findKey 71 (encS s) (entsL L 0)).run Try.prog w = .ok ((findS s L 0).map fun z => (z.1, Value.int .i64 z.2)) w := by
  unfold Instr.findKey
  simp only [Sem.run_bind, run_underlying Try.underlying71, Result.andThen_ok]
  cases L with
  | nil => simp [entsL, Instr.findNow, findS]
  | cons p L =>
    have : ∀ ms, Instr.findNow (.interface ms) (encS s) (entsL (p :: L) 0) 0 = none := fun ms => by simp [entsL, Instr.findNow, Instr.sameNow]
    rw [this]
    exact run_findAsking s w _ 0 0
/-- The map of block b. -/
def MapAt (W : World) (b : Nat) (L : SL) : Prop := W.heap[b]? = some (mapO L)
theorem MapAt.abd (B b : Nat) (L : SL) : Abd B fun W => MapAt W b L := Abd.block B b _ rfl
theorem MapAt.lt {W : World} {b : Nat} {L : SL} (h : MapAt W b L) : b < W.heap.size := (Array.getElem?_eq_some_iff.1 h).1
theorem MapAt.below {W W' : World} {b : Nat} {L : SL} (h : MapAt W b L) (hb : Below W.heap.size W W') : MapAt W' b L := (hb.block b h.lt).trans h
theorem run_getMap {w : World} {b : Nat} {L : SL} (h : MapAt w b L) : (getObj b).run Try.prog w = .ok (mapO L) w := MapKept.run_getObj_map h
theorem run_setMap {w : World} {b : Nat} {L : SL} (h : MapAt w b L) (o : Obj) : (setObj b o).run Try.prog w = .ok () (w.putObj b o) := MapKept.run_setObj_map o h
theorem MapAt.put {W : World} {b : Nat} {L L' : SL} (h : MapAt W b L) : MapAt (W.putObj b (mapO L')) b L' := World.putObj_heap_same h.lt
theorem MapAt.other {W : World} {b c : Nat} {L : SL} (h : MapAt W b L) (o : Obj) (hne : b ≠ c) : MapAt (W.putObj c o) b L := (World.putObj_heap_other hne).trans h
/-- The type of such a map. -/
def MapT (T : TypeId) : Prop := Try.prog.underlying T = some (.map 71 3)
theorem size_entsL (L : SL) : (entsL L 0).toArray.size = L.length := by simp [entsL_len]
theorem run_lookupS {T : TypeId} (hT : MapT T) {w : World} {b : Nat} {L : SL} (h : MapAt w b L) (s : St) : (Instr.lookup T (.map (some b)) (encS s) false).run Try.prog w = .ok (.int .i64 (getS L s)) w := by
  unfold Instr.lookup getS
  simp only [Sem.run_bind, run_underlying hT, Result.andThen_ok, run_getMap h, mapO, Sem.run_pure, run_checkS, run_findKeyS]
  cases hf : findS s L 0 with
  | none => simp [Try.zeroValue3]
  | some z => simp
theorem run_lookupS2 {T : TypeId} (hT : MapT T) {w : World} {b : Nat} {L : SL} (h : MapAt w b L) (s : St) : (Instr.lookup T (.map (some b)) (encS s) true).run Try.prog w = .ok (.tuple #[.int .i64 (getS L s), .bool (findS s L 0).isSome]) w := by
  unfold Instr.lookup getS
  simp only [Sem.run_bind, run_underlying hT, Result.andThen_ok, run_getMap h, mapO, Sem.run_pure, run_checkS, run_findKeyS]
  cases hf : findS s L 0 with
  | none => simp [Try.zeroValue3]
  | some z => simp
theorem entsL_key (s : St) : ∀ (L : SL) (i j : Nat) (hj : j < L.length), L[j].1 = s → (entsL L i).modify j (fun e => { key := encS s, val := e.val, born := e.born }) = entsL L i
  | q :: L, i, 0, _, h => by
    simp only [List.getElem_cons_zero] at h
    subst h
    simp [entsL]
  | q :: L, i, j + 1, hj, h => by simp [entsL, entsL_key s L (i + 1) j (by simpa using hj) (by simpa using h)]
theorem run_stays (s : St) (w : World) : (Instr.keyThatStays (encS s) (encS s)).run Try.prog w = .ok (encS s) w := by
  unfold Instr.keyThatStays
  rw [sameS]
  simp
theorem run_updateS {T : TypeId} (hT : MapT T) {w : World} {b : Nat} {L : SL} (h : MapAt w b L) (s : St) (v : Int) : (Instr.mapUpdate T (.map (some b)) (encS s) (.int .i64 v)).run Try.prog w = .ok () (w.putObj b (mapO (putS L s v))) := by
  unfold Instr.mapUpdate putS
  simp only [Sem.run_bind, run_underlying hT, Result.andThen_ok, run_getMap h, mapO, Sem.run_pure, run_checkS, run_findKeyS]
  cases hf : findS s L 0 with
  | none => simp [run_setMap h, mapO, entsL_append]
  | some z =>
    obtain ⟨h1, h2, h3⟩ := findS_some s L 0 z.1 z.2 hf
    simp only [Nat.sub_zero] at h2 h3
    have hg := entsL_get L 0 z.1 h2
    rw [h3] at hg
    simp [hg, run_stays, run_setMap h, entsL_set s v L 0 z.1 h2, mapO]
/-- The place of a state; the map with that place. -/
def idxS (L : SL) (s : St) : Nat := match findS s L 0 with | some z => z.1 | none => L.length
def touchS (L : SL) (s : St) : SL := match findS s L 0 with | some _ => L | none => L ++ [(s, 0)]
theorem run_entryS {T : TypeId} (hT : MapT T) {w : World} {b : Nat} {L : SL} (h : MapAt w b L) (s : St) : (Instr.mapEntry T (.map (some b)) (encS s)).run Try.prog w = .ok (.tuple #[.int .i64 (getS L s), .int .i64 ((idxS L s : Nat) : Int)]) (w.putObj b (mapO (touchS L s))) := by
  unfold Instr.mapEntry getS idxS touchS
  simp only [Sem.run_bind, run_underlying hT, Result.andThen_ok, run_getMap h, mapO, Sem.run_pure, run_checkS, run_findKeyS]
  cases hf : findS s L 0 with
  | none => simp [run_setMap h, mapO, entsL_append, Try.zeroValue3, goInt]
  | some z =>
    obtain ⟨h1, h2, h3⟩ := findS_some s L 0 z.1 z.2 hf
    simp only [Nat.sub_zero] at h2 h3
    have hg := entsL_get L 0 z.1 h2
    rw [h3] at hg
    simp [hg, run_stays, run_setMap h, entsL_key s L 0 z.1 h2 (by rw [h3]), mapO, goInt]
theorem idx_lt (L : SL) (s : St) : idxS L s < (touchS L s).length := by
  unfold idxS touchS
  cases hf : findS s L 0 with
  | none => simp
  | some z =>
    obtain ⟨_, h2, _⟩ := findS_some s L 0 z.1 z.2 hf
    simpa using h2
theorem touch_key (L : SL) (s : St) : ((touchS L s)[idxS L s]'(idx_lt L s)).1 = s := by
  have h : ((touchS L s)[idxS L s]?).map Prod.fst = some s := by
    unfold idxS touchS
    cases hf : findS s L 0 with
    | none => simp
    | some z =>
      obtain ⟨_, h2, h3⟩ := findS_some s L 0 z.1 z.2 hf
      simp only [Nat.sub_zero] at h2 h3
      simp [h2, h3]
  rw [List.getElem?_eq_getElem (idx_lt L s)] at h
  simpa using h
theorem touch_set (L : SL) (s : St) (v : Int) : (touchS L s).set (idxS L s) (s, v) = putS L s v := by
  unfold idxS touchS putS
  cases hf : findS s L 0 with
  | none => simp
  | some z => simp
theorem findIdx_ents : ∀ (L : SL) (i j : Nat), j < L.length → (entsL L i).findIdx? (fun e => ((e.born : Nat) : Int) == ((i + j : Nat) : Int)) = some j
  | q :: L, i, 0, _ => by simp [entsL, List.findIdx?_cons]
  | q :: L, i, j + 1, hj => by
    have h := findIdx_ents L (i + 1) j (by simpa using hj)
    have e : i + 1 + j = i + (j + 1) := by omega
    rw [e] at h
    have hne : (((i : Nat) : Int) == ((i + (j + 1) : Nat) : Int)) = false := by simp; omega
    simp only [entsL, List.findIdx?_cons, hne, h]
    simp
theorem run_entryStoreS {T : TypeId} {s : St} {w : World} {b : Nat} {L : SL} (h : MapAt w b (touchS L s)) (v : Int) : (Instr.entryStore T (.map (some b)) (.int .i64 ((idxS L s : Nat) : Int)) (.int .i64 v)).run Try.prog w = .ok () (w.putObj b (mapO (putS L s v))) := by
  unfold Instr.entryStore
  have hi := findIdx_ents (touchS L s) 0 (idxS L s) (idx_lt L s)
  rw [Nat.zero_add] at hi
  simp only [Sem.run_bind, run_getMap h, mapO, Result.andThen_ok, asInt, asIntOf, Sem.run_pure]
  simp [hi, run_setMap h, entsL_setV v (touchS L s) 0 (idxS L s) (idx_lt L s), mapO]
  rw [touch_key, touch_set, show (putS L s v).length = (touchS L s).length by rw [← touch_set, List.length_set]]
/-- The entries that were handed out. -/
structure Vis (L : SL) (seen : Array Nat) (vis : SL) : Prop where
  nodup : seen.toList.Nodup
  lt : ∀ j ∈ seen.toList, j < L.length
  eq : vis = seen.toList.map fun j => L.getD j default
theorem Vis.nil (L : SL) : Vis L #[] [] := ⟨by simp, by simp, by simp⟩
theorem Vis.push {L : SL} {seen : Array Nat} {vis : SL} (h : Vis L seen vis) (j : Nat) (hj : j < L.length) (hn : j ∉ seen.toList) : Vis L (seen.push j) (vis ++ [L.getD j default]) := by
  refine ⟨?_, ?_, ?_⟩
  · simp only [Array.toList_push]
    rw [List.nodup_append]
    exact ⟨h.nodup, by simp, fun a ha b hb e => hn (by simp at hb; subst hb; subst e; exact ha)⟩
  · intro k hk
    simp only [Array.toList_push, List.mem_append, List.mem_singleton] at hk
    rcases hk with hk | rfl
    · exact h.lt k hk
    · exact hj
  · simp [h.eq]
theorem Vis.perm {L : SL} {seen : Array Nat} {vis : SL} (h : Vis L seen vis) (hall : ∀ j, j < L.length → j ∈ seen.toList) : vis.Perm L := by
  have hp : seen.toList.Perm (List.range L.length) := (List.perm_ext_iff_of_nodup h.nodup List.nodup_range).2 fun j => ⟨fun hj => List.mem_range.2 (h.lt j hj), fun hj => hall j (List.mem_range.1 hj)⟩
  rw [h.eq]
  refine (hp.map _).trans ?_
  refine List.Perm.of_eq (List.ext_getElem (by simp) fun i h1 h2 => ?_)
  simp at h1
  simp [h1]
theorem Vis.length {L : SL} {seen : Array Nat} {vis : SL} (h : Vis L seen vis) : vis.length ≤ L.length := by
  have h1 : seen.toList.length ≤ (List.range L.length).length := h.nodup.length_le_of_subset fun j hj => List.mem_range.2 (h.lt j hj)
  rw [h.eq]
  simpa using h1
/-- A range over the map of block b is under way: iterator r; vis has come. -/
def RangeS (W : World) (r b : Nat) (L vis : SL) : Prop := MapAt W b L ∧ ∃ seen, W.heap[r]? = some (.mapIter (some b) L.length seen L.length) ∧ Vis L seen vis
theorem RangeS.below {W W' : World} {r b : Nat} {L vis : SL} (h : RangeS W r b L vis) (hb : Below W.heap.size W W') : RangeS W' r b L vis := by
  obtain ⟨h1, seen, h2, h3⟩ := h
  exact ⟨h1.below hb, seen, (hb.block r (Array.getElem?_eq_some_iff.1 h2).1).trans h2, h3⟩
theorem RangeS.abd (B r b : Nat) (L vis : SL) : Abd B fun W => RangeS W r b L vis := (MapAt.abd B b L).and (Abd.ex fun seen => (Abd.block B r _ rfl).and (Abd.pure B _))
theorem RangeS.len {W : World} {r b : Nat} {L vis : SL} (h : RangeS W r b L vis) : vis.length ≤ L.length := (by obtain ⟨_, _, _, hv⟩ := h; exact hv.length)
theorem ents_born (L : SL) : ∀ x ∈ (entsL L 0).toArray.toList, x.born < L.length := by
  intro x hx
  obtain ⟨j, hj, rfl⟩ := List.getElem_of_mem hx
  have hj' : j < L.length := by simpa [entsL_len] using hj
  have := List.getElem?_eq_some_iff.1 (entsL_get L 0 j hj')
  simp only [this.2]
  omega
theorem ents_nodup (L : SL) : ((entsL L 0).toArray.toList.map (·.born)).Nodup := by
  have : ((entsL L 0).map (·.born)) = List.range L.length := List.ext_getElem (by simp [entsL_len]) fun i h1 h2 => by
    have hi : i < L.length := by simpa using h2
    have := List.getElem?_eq_some_iff.1 (entsL_get L 0 i hi)
    simp [this.2]
  simp only []
  rw [this]
  exact List.nodup_range
theorem run_rangeS {T : TypeId} (hT : MapT T) {w : World} {b : Nat} {L : SL} (h : MapAt w b L) : (Instr.range T (.map (some b))).run Try.prog w = .ok (.pointer (some ⟨w.heap.size, 0, none⟩)) (w.alloc (.mapIter (some b) L.length #[] L.length)) := by
  unfold Instr.range
  simp only [Sem.run_bind, run_underlying hT, Result.andThen_ok, run_getMap h, mapO, Sem.run_pure, run_newObj_alloc]
theorem rangeS_new {w : World} {b : Nat} {L : SL} (h : MapAt w b L) : RangeS (w.alloc (.mapIter (some b) L.length #[] L.length)) w.heap.size b L [] :=
  ⟨h.below ((Below.refl _ _).alloc (Nat.le_refl _) _), #[], World.alloc_heap_new w _, Vis.nil L⟩
theorem next_S {w : World} {r b : Nat} {L vis : SL} (h : RangeS w r b L vis) (ty : TypeId) :
    (vis.Perm L ∧ (Instr.next (.pointer (some ⟨r, 0, none⟩)) false ty).run Try.prog w = .ok (.tuple #[.bool false]) w) ∨
    ∃ p w', p ∈ L ∧ RangeS w' r b L (vis ++ [p]) ∧ w.grownBy w' (some r) ∧ w'.heap.size = w.heap.size ∧
      (Instr.next (.pointer (some ⟨r, 0, none⟩)) false ty).run Try.prog w = .ok (.tuple #[.bool true, encS p.1, .int .i64 p.2]) w' ∧
      (Instr.entry (.pointer (some ⟨r, 0, none⟩))).run Try.prog w' = .ok (.tuple #[encS p.1, .int .i64 p.2]) w' := by
  obtain ⟨hm, seen, hr, hv⟩ := h
  have hne : b ≠ r := fun e => by subst e; unfold MapAt mapO at hm; rw [hm] at hr; cases hr
  rcases run_next_at (P := Try.prog) w ty r b L.length L.length seen (entsL L 0).toArray L.length hr hm (ents_born L) (Nat.le_refl _) with ⟨h0, hrun⟩ | ⟨e, he, w1, hw1, hrun⟩
  · refine .inl ⟨hv.perm fun j hj => ?_, hrun⟩
    have hz : leftOf (entsL L 0).toArray seen = #[] := Array.eq_empty_of_size_eq_zero h0
    unfold leftOf at hz
    have hx := entsL_get L 0 j hj
    have hmem : ({ key := encS L[j].1, val := .int .i64 L[j].2, born := 0 + j } : MapEntry) ∈ (entsL L 0).toArray := by
      simpa using List.mem_of_getElem? hx
    have := (Array.filter_eq_empty_iff.1 hz) _ hmem
    simpa using this
  · have he' : e ∈ (entsL L 0).toArray ∧ e.born ∉ seen := by
      unfold leftOf at he
      simpa using he
    obtain ⟨j, hj, hej⟩ := List.getElem_of_mem (show e ∈ entsL L 0 by simpa using he'.1)
    have hjl : j < L.length := by rw [entsL_len] at hj; exact hj
    have hg := (List.getElem?_eq_some_iff.1 (entsL_get L 0 j hjl)).2
    rw [hej] at hg
    subst hg
    simp only [Nat.zero_add] at hrun he'
    have hw1' : w1.heap = w.heap := by rcases hw1 with rfl | rfl <;> rfl
    refine .inr ⟨L[j], _, List.getElem_mem hjl, ⟨?_, seen.push j, ?_, ?_⟩, ?_, ?_, hrun, ?_⟩
    · exact MapAt.other (W := w1) (by unfold MapAt; rw [hw1']; exact hm) _ hne
    · exact World.putObj_heap_same (w := w1) (by rw [hw1']; exact (Array.getElem?_eq_some_iff.1 hr).1)
    · have := hv.push j hjl (by simpa using he'.2)
      simpa [hjl] using this
    · have hg : w.grownBy w1 (some r) := by
        rcases hw1 with rfl | rfl
        · exact World.grownBy.refl _ _
        · exact ⟨rfl, rfl, rfl, Nat.le_refl _, fun _ _ _ => rfl⟩
      exact ⟨hg.os, hg.tape, hg.output, by show w.heap.size ≤ (w1.putObj r _).heap.size; simp [World.putObj, hw1'], fun k hk hne => (World.putObj_heap_other (w := w1) (fun e => hne (by rw [e]))).trans (by rw [hw1'])⟩
    · show (w1.putObj r _).heap.size = _
      simp [World.putObj, hw1']
    · refine run_entry_at (P := Try.prog) _ r b L.length seen (entsL L 0).toArray L.length { key := encS L[j].1, val := .int .i64 L[j].2, born := j } ?_ ?_ (by simpa using he'.1) (ents_nodup L)
      · exact World.putObj_heap_same (w := w1) (by rw [hw1']; exact (Array.getElem?_eq_some_iff.1 hr).1)
      · exact MapAt.other (W := w1) (by unfold MapAt; rw [hw1']; exact hm) _ hne
end Go.Proofs.Ytmjnelkeiogdcaa
