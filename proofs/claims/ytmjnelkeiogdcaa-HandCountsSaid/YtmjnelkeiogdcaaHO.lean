/- Walks of package hand: the layers of the courses. -/
import Derived.Test.YtmjnelkeiogdcaaHN
import Derived.Test.YtmjnelkeiogdcaaHI
import Derived.Deep.LoopGhost
import Derived.Sort.CutIn
set_option linter.unusedSimpArgs false
set_option linter.unusedVariables false
namespace Go.Proofs.Ytmjnelkeiogdcaa
open Go Go.RowKit Go.Shelf
set_option maxRecDepth 100000

section
variable {P : Program} {ops : Array Oper} {md : Region.Mode}
theorem region_cutR {F : Fence} {n : Nat} {c : Code} {Q : Exit → Act → World → Prop} {a : Act} {w : World} (R : Act → World → Prop) (h : c.wpIn F n P (Exit.then R (fun _ _ _ => False)) a w) (h2 : ∀ a' w', R a' w' → Q .normal a' w') : c.wpIn F n P Q a w :=
  wpIn_mono h fun e a' w' he => by
    cases e with
    | normal => exact h2 _ _ he
    | _ => exact he.elim
end
/-- The boxes of the closure of layers: the first state, the hand. -/
structure LyAt (W : World) (N bf bh : Nat) (H : HV) (fv cv : Value) (s : St) : Prop where
  fb : W.heap[bf]? = some (.cells #[encS s] 71 (0, 0))
  hb : W.heap[bh]? = some (.cells (handA H fv cv) 26 (0, 0))
  hand : HandAt W N H fv cv
  nb : N ≤ bf
theorem LyAt.kept {W W' : World} {N bf bh : Nat} {H : HV} {fv cv : Value} {s : St} (h : LyAt W N bf bh H fv cv s) {S : Nat → Prop} (hS : ∀ b, b < N → S b) (h1 : S bf) (h2 : S bh) (hk : KeptS S W W') : LyAt W' N bf bh H fv cv s :=
  have hx := hk bf h1 _ h.fb rfl
  ⟨hx, hk bh h2 _ h.hb rfl, h.hand.kept hS hk (Nat.le_trans h.nb (Nat.le_of_lt (heap_lt hx))), h.nb⟩
theorem LyAt.below {W W' : World} {N bf bh : Nat} {H : HV} {fv cv : Value} {s : St} (h : LyAt W N bf bh H fv cv s) (hb : Below W.heap.size W W') : LyAt W' N bf bh H fv cv s :=
  h.kept (S := fun _ => True) (fun _ _ => trivial) trivial trivial (KeptS.below hb)
theorem exec_ldstate {ev : Operand → Value} {o : Oper} {x : Operand} {g : Nat} {W : World} {s : St} (ho : o.op = .load 71 x) (hx : ev x = .pointer (some ⟨g, 0, none⟩)) (hg : W.heap[g]? = some (.cells #[encS s] 71 (0, 0))) :
    (execOp ev o).run Try.prog W = .ok (.value (encS s)) W := by
  have hc : W.cell? ⟨g, 0, none⟩ = some (encS s) := by rw [cell_of_row _ _ 0 _ _ (0, 0) hg]; rfl
  simp [execOp, ho, hx]
  go_simp
theorem layer_zero (H : HV) (s0 : St) : LayerL H s0 0 [(s0, ((chN H s0 : Nat) : Int))] :=
  ⟨by simp, fun s => by simp [Reach], fun p hp => by simp at hp; subst hp; rfl⟩
/-- Marks of ranges over functions. -/
def MarksA (V : World) (Ds : List Nat) : Prop := ∀ D ∈ Ds, V.heap[D]? = some (.deferred (some []))
def marksD (Ds : List Nat) : List Deferred := Ds.map fun D => { target := .collected D, args := #[] }
theorem MarksA.below {V V' : World} {Ds : List Nat} (h : MarksA V Ds) (hb : Below V.heap.size V V') : MarksA V' Ds := fun D hD => (hb.block D (Array.getElem?_eq_some_iff.1 (h D hD)).1).trans (h D hD)
theorem MarksA.kept {V V' : World} {Ds : List Nat} {S : Nat → Prop} (h : MarksA V Ds) (hk : KeptS S V V') : MarksA V' Ds := fun D hD => hk.dfr D _ (h D hD)
theorem MarksA.lt {V : World} {Ds : List Nat} (h : MarksA V Ds) : ∀ D ∈ Ds, D < V.heap.size := fun D hD => (Array.getElem?_eq_some_iff.1 (h D hD)).1
theorem MarksA.abd {B : Nat} {Ds : List Nat} (hB : ∀ D ∈ Ds, D < B) : Abd B fun V => MarksA V Ds :=
  ⟨fun _ _ h hb => h.below hb, fun W l r r' hl h hr D hD => (Abd.dfr B D (hB D hD) _).turn W l r r' hl (h D hD) hr, fun W E hE h hr D hD => (Abd.dfr B D (hB D hD) _).mark W E hE (h D hD) hr⟩
/-- A loop that bears the number of rounds that are left at most, inside a fence. -/
theorem wpIn_loop_ghost {F : Fence} {n : Nat} {P : Program} {Q : Exit → Act → World → Prop} {a : Act} {w : World} {c : Code} (I : Nat → Act → World → Prop) (n₀ : Nat) (h₀ : I n₀ a w)
    (round : ∀ k a w, I k a w → ∀ K : Act → World → Prop, (∀ k' a' w', k' < k → I k' a' w' → K a' w') → c.wpIn F n P (Exit.then K Q) a w) : (Code.loop c).wpIn F n P Q a w := by
  refine wpIn_loop (fun a w => ∃ k, I k a w) (fun a w => leastOf fun k => I k a w) ⟨n₀, h₀⟩ ?_
  intro a w hI
  exact round _ a w (leastOf_spec hI).1 _ fun k' a' w' hlt h => ⟨⟨k', h⟩, Nat.lt_of_le_of_lt ((leastOf_spec ⟨k', h⟩).2 k' h) hlt⟩
theorem HandAt.abd (B N : Nat) (H : HV) (fv cv : Value) : Abd B fun W => HandAt W N H fv cv :=
  ⟨fun _ _ h hb => h.below (hb.mono h.le),
   fun _ _ _ _ _ h hr => h.keptF (S := fun _ => True) (fun _ _ => trivial) (fun _ _ _ ho hk => (World.putObj_heap_other fun e => by subst e; rw [hr] at ho; cases ho; cases hk).trans ho) (by have := h.le; simpa [World.putObj] using this),
   fun _ _ _ h hr => h.keptF (S := fun _ => True) (fun _ _ => trivial) (fun _ _ _ ho hk => (World.putObj_heap_other fun e => by subst e; rw [hr] at ho; cases ho; cases hk).trans ho) (by have := h.le; simpa [World.putObj] using this)⟩
theorem LyAt.abd (B N bf bh : Nat) (H : HV) (fv cv : Value) (s : St) : Abd B fun W => LyAt W N bf bh H fv cv s :=
  ⟨fun _ _ h hb => h.below hb,
   fun W l r r' hl h hr => ⟨(Abd.block B bf _ rfl).turn W l r r' hl h.fb hr, (Abd.block B bh _ rfl).turn W l r r' hl h.hb hr, (HandAt.abd B N H fv cv).turn W l r r' hl h.hand hr, h.nb⟩,
   fun W D hD h hr => ⟨(Abd.block B bf _ rfl).mark W D hD h.fb hr, (Abd.block B bh _ rfl).mark W D hD h.hb hr, (HandAt.abd B N H fv cv).mark W D hD h.hand hr, h.nb⟩⟩
theorem LyAt.put {W : World} {N bf bh : Nat} {H : HV} {fv cv : Value} {s : St} (h : LyAt W N bf bh H fv cv s) {b : Nat} (o : Obj) (hN : N ≤ b) (h1 : bf ≠ b) (h2 : bh ≠ b) : LyAt (W.putObj b o) N bf bh H fv cv s :=
  ⟨(World.putObj_heap_other h1).trans h.fb, (World.putObj_heap_other h2).trans h.hb, h.hand.below ⟨rfl, rfl, rfl, by simp [World.putObj], fun k hk => World.putObj_heap_other (by omega)⟩, h.nb⟩
theorem RangeS.put {W : World} {r b c : Nat} {L vis : SL} (h : RangeS W r b L vis) (o : Obj) (h1 : b ≠ c) (h2 : r ≠ c) : RangeS (W.putObj c o) r b L vis := by
  obtain ⟨hm, seen, hr, hv⟩ := h
  exact ⟨hm.other o h1, seen, (World.putObj_heap_other h2).trans hr, hv⟩
/-- A map that holds the states of which T speaks, each with its number of choices. -/
def NextQ (H : HV) (T : St → Prop) (M : SL) : Prop := (M.map Prod.fst).Nodup ∧ (∀ s, s ∈ M.map Prod.fst ↔ T s) ∧ ∀ p ∈ M, p.2 = ((chN H p.1 : Nat) : Int)
theorem NextQ.put {H : HV} {T : St → Prop} {M : SL} (h : NextQ H T M) (u : St) : NextQ H (fun s => T s ∨ s = u) (putS M u ((chN H u : Nat) : Int)) := by
  obtain ⟨h1, h2, h3⟩ := h
  unfold putS
  cases hf : findS u M 0 with
  | none =>
    have hu := findS_none u M 0 hf
    refine ⟨?_, fun s => ?_, fun p hp => ?_⟩
    · rw [List.map_append, List.nodup_append]
      refine ⟨h1, by simp, fun a ha b hb e => ?_⟩
      simp at hb
      subst hb
      subst e
      exact hu ha
    · rw [List.map_append, List.mem_append, h2 s]
      simp
    · rcases List.mem_append.1 hp with hp | hp
      · exact h3 p hp
      · simp at hp
        subst hp
        rfl
  | some z =>
    obtain ⟨e1, e2, e3⟩ := findS_some u M 0 z.1 z.2 hf
    simp only [Nat.sub_zero] at e2 e3
    have hk : (M.set z.1 (u, ((chN H u : Nat) : Int))).map Prod.fst = M.map Prod.fst := by
      rw [List.map_set]
      refine List.ext_getElem (by simp) fun i hi1 hi2 => ?_
      rw [List.getElem_set]
      split
      · rename_i e
        subst e
        simp [e3]
      · rfl
    have hu : u ∈ M.map Prod.fst := List.mem_map.2 ⟨_, List.getElem_mem e2, by rw [e3]⟩
    refine ⟨by rw [hk]; exact h1, fun s => ?_, fun p hp => ?_⟩
    · rw [hk, h2 s]
      exact ⟨.inl, fun h => h.elim id fun e => by rw [e]; exact (h2 u).1 hu⟩
    · rcases List.mem_or_eq_of_mem_set hp with hp | hp
      · exact h3 p hp
      · rw [hp]
theorem NextQ.nil (H : HV) : NextQ H (fun _ => False) [] := ⟨by simp, by simp, by simp⟩
theorem NextQ.congr {H : HV} {T T' : St → Prop} {M : SL} (h : NextQ H T M) (e : ∀ s, T s ↔ T' s) : NextQ H T' M := ⟨h.1, fun s => (h.2.1 s).trans (e s), h.2.2⟩
/-- The states that follow those in a list. -/
def FolT (H : HV) (vis : SL) (s : St) : Prop := ∃ p ∈ vis, ∃ w, (w, s) ∈ brs H p.1
theorem next_layer {H : HV} {s0 : St} {k : Nat} {L vis M : SL} (hL : LayerL H s0 k L) (hp : vis.Perm L) (h : NextQ H (FolT H vis) M) : LayerL H s0 (k + 1) M := by
  refine ⟨h.1, fun s => (h.2.1 s).trans ?_, h.2.2⟩
  constructor
  · rintro ⟨p, hpv, w, hw⟩
    exact ⟨p.1, (hL.2.1 p.1).1 (List.mem_map.2 ⟨p, hp.mem_iff.1 hpv, rfl⟩), w, hw⟩
  · rintro ⟨u, hu, w, hw⟩
    obtain ⟨p, hpL, rfl⟩ := List.mem_map.1 ((hL.2.1 u).2 hu)
    exact ⟨p, hp.mem_iff.2 hpL, w, hw⟩
/-- What holds while the next layer is gathered: the map g, its box, the range over the map b. -/
def InnR (H : HV) (N bf bh : Nat) (fv cv : Value) (s0 : St) (w3 : World) (g b : Nat) (L : SL) (T : St → Prop) (Ds : List Nat) (vis : SL) (V : World) : Prop :=
  (∃ M, MapAt V g M ∧ NextQ H T M) ∧ Boxed V (g + 1) 75 (.map (some g)) ∧ RangeS V (g + 2) b L vis ∧ LyAt V N bf bh H fv cv s0 ∧ Below g w3 V ∧ MarksA V Ds
theorem InnR.abd {H : HV} {N bf bh : Nat} {fv cv : Value} {s0 : St} {w3 : World} {g b : Nat} {L : SL} {T : St → Prop} {Ds : List Nat} {vis : SL} (B : Nat) (hg : g ≤ w3.heap.size) (hB : g ≤ B) (hD : ∀ D ∈ Ds, D < B) : Abd B (InnR H N bf bh fv cv s0 w3 g b L T Ds vis) :=
  (Abd.ex fun M => (MapAt.abd B g M).and (Abd.pure B _)).and ((Abd.block B _ _ rfl).and ((RangeS.abd B _ _ _ _).and ((LyAt.abd B _ _ _ _ _ _ _).and ((Abd.belowOf hg hB).and (MarksA.abd hD)))))
theorem InnR.put {H : HV} {N bf bh : Nat} {fv cv : Value} {s0 : St} {w3 : World} {g b : Nat} {L : SL} {T : St → Prop} {Ds : List Nat} {vis : SL} {V : World} (h : InnR H N bf bh fv cv s0 w3 g b L T Ds vis V) (hN : N ≤ g) (h1 : bf < g) (h2 : bh < g) (hb : b < g) {M : SL} (hM : MapAt V g M) (hQ : NextQ H T M) (u : St) :
    InnR H N bf bh fv cv s0 w3 g b L (fun s => T s ∨ s = u) Ds vis (V.putObj g (mapO (putS M u ((chN H u : Nat) : Int)))) := by
  obtain ⟨-, hx, hr, hl, hw, hd⟩ := h
  refine ⟨⟨_, hM.put, hQ.put u⟩, (World.putObj_heap_other (by omega)).trans hx, hr.put _ (by omega) (by omega), hl.put _ hN (by omega) (by omega), hw.trans ⟨rfl, rfl, rfl, by simp [World.putObj], fun k hk => World.putObj_heap_other (by omega)⟩, fun D hD => ?_⟩
  refine (World.putObj_heap_other fun e => ?_).trans (hd D hD)
  subst e
  have := hd D hD
  rw [show V.heap[D]? = _ from hM] at this
  cases this
theorem InnR.congr {H : HV} {N bf bh : Nat} {fv cv : Value} {s0 : St} {w3 : World} {g b : Nat} {L : SL} {T T' : St → Prop} {Ds : List Nat} {vis : SL} {V : World} (h : InnR H N bf bh fv cv s0 w3 g b L T Ds vis V) (e : ∀ s, T s ↔ T' s) : InnR H N bf bh fv cv s0 w3 g b L T' Ds vis V := by
  obtain ⟨⟨M, hM, hQ⟩, hx⟩ := h
  exact ⟨⟨M, hM, hQ.congr e⟩, hx⟩
theorem InnR.next {H : HV} {N bf bh : Nat} {fv cv : Value} {s0 : St} {w3 : World} {g b : Nat} {L : SL} {T : St → Prop} {Ds : List Nat} {vis vis' : SL} {V V' : World} (h : InnR H N bf bh fv cv s0 w3 g b L T Ds vis V) (hN : N ≤ g) (h1 : bf < g) (h2 : bh < g) (hg : V.grownBy V' (some (g + 2))) (hr : RangeS V' (g + 2) b L vis') :
    InnR H N bf bh fv cv s0 w3 g b L T Ds vis' V' := by
  obtain ⟨⟨M, hM, hQ⟩, hx, hrg, hl, hw, hd⟩ := h
  have key : ∀ (k : Nat) (o : Obj), V.heap[k]? = some o → k ≠ g + 2 → V'.heap[k]? = some o := fun k o ho hk => (hg.block k (Array.getElem?_eq_some_iff.1 ho).1 (by simpa using hk)).trans ho
  have hwl := hw.size
  have hly : LyAt V' N bf bh H fv cv s0 := ⟨key _ _ hl.fb (by omega), key _ _ hl.hb (by omega), hl.hand.keptF (S := fun b => b < N) (fun _ h => h) (fun b hb o ho _ => key b o ho (by omega)) (Nat.le_trans hl.hand.le hg.size), hl.nb⟩
  have hbl : Below g V V' := ⟨hg.os, hg.tape, hg.output, hg.size, fun k hk => hg.block k (by have := (Array.getElem?_eq_some_iff.1 hM).1; omega) (by simp; omega)⟩
  refine ⟨⟨M, key g _ hM (by omega), hQ⟩, key _ _ hx (by omega), hr, hly, hw.trans hbl, fun D hD => key D _ (hd D hD) ?_⟩
  rintro rfl
  obtain ⟨_, seen, hs, _⟩ := hrg
  have := hd _ hD
  rw [hs] at this
  cases this
theorem InnR.mark {H : HV} {N bf bh : Nat} {fv cv : Value} {s0 : St} {w3 : World} {g b : Nat} {L : SL} {T : St → Prop} {Ds : List Nat} {vis : SL} {V : World} (h : InnR H N bf bh fv cv s0 w3 g b L T Ds vis V) {D : Nat} (hD : V.heap[D]? = some (.deferred (some []))) : InnR H N bf bh fv cv s0 w3 g b L T (D :: Ds) vis V := by
  obtain ⟨hm, hx, hr, hl, hw, hd⟩ := h
  exact ⟨hm, hx, hr, hl, hw, fun E hE => (List.mem_cons.1 hE).elim (fun e => by rw [e]; exact hD) (hd E)⟩
theorem fol_append (H : HV) (vis : SL) (p : St × Int) (s : St) : FolT H (vis ++ [p]) s ↔ FolT H vis s ∨ s ∈ (brs H p.1).map Prod.snd := by
  unfold FolT
  constructor
  · rintro ⟨q, hq, w, hw⟩
    rcases List.mem_append.1 hq with hq | hq
    · exact .inl ⟨q, hq, w, hw⟩
    · simp at hq
      subst hq
      exact .inr (List.mem_map.2 ⟨_, hw, rfl⟩)
  · rintro (⟨q, hq, w, hw⟩ | h)
    · exact ⟨q, by simp [hq], w, hw⟩
    · obtain ⟨x, hx, rfl⟩ := List.mem_map.1 h
      exact ⟨p, by simp, x.1, hx⟩
theorem exec_ldlayer {ev : Operand → Value} {o : Oper} {x : Operand} {g : Nat} {W : World} {v : Value} (ho : o.op = .load 75 x) (hx : ev x = .pointer (some ⟨g, 0, none⟩)) (hg : Boxed W g 75 v) :
    (execOp ev o).run Try.prog W = .ok (.value v) W := by
  have hc := hg.cell
  simp [execOp, ho, hx]
  go_simp
theorem layer_nil {H : HV} {s0 : St} {k : Nat} (h : LayerL H s0 k []) : ∀ s, ¬ Reach H s0 k s := fun s hs => by have := (h.2.1 s).2 hs; simp at this
theorem layer_dep {H : HV} {s0 : St} (hF : Fit H s0) {k : Nat} {L : SL} (h : LayerL H s0 k L) (hL : L ≠ []) : k ≤ dep s0 := by
  cases L with
  | nil => exact absurd rfl hL
  | cons p L =>
    have := (reach_fit H s0 hF k p.1 ((h.2.1 p.1).1 (by simp))).2
    omega
/-- How many entries a range has handed out. -/
def seenOf (V : World) (r : Nat) : Nat := match V.heap[r]? with | some (.mapIter _ _ seen _) => seen.size | _ => 0
theorem RangeS.seen {V : World} {r b : Nat} {L vis : SL} (h : RangeS V r b L vis) : seenOf V r = vis.length := by
  obtain ⟨_, seen, h2, h3⟩ := h
  simp [seenOf, h2, h3.eq]
theorem putS_nil (s : St) (v : Int) : putS [] s v = [(s, v)] := by simp [putS, findS]
attribute [local go_sem] Oper.semAt_some
set_option maxHeartbeats 2000000 in
theorem layers1_seq (n : Nat) (hn : 8 ≤ n) (N bf bh B0 B1 : Nat) (hs0 : B0 ≤ bf ∧ bf < B1) (hs1 : B0 ≤ bh ∧ bh < B1) (H : HV) (fv cv : Value) (s0 : St) (hF : Fit H s0) (w : World) (hw : LyAt w N bf bh H fv cv s0) :
    SeqG Fence.wide n Try.prog 67 #[.pointer (some ⟨bf, 0, none⟩), .pointer (some ⟨bh, 0, none⟩)] (fun b => #[.map (some b)]) (fun b k => SBr N B0 B1 k ∨ k = b) (fun pre b V => ∃ L, MapAt V b L ∧ LayerL H s0 pre.length L) (fun xs => ∀ s, ¬ Reach H s0 xs.length s) w := by
  intro l J Jx W hW hJ hJx hY h0
  have hA := hw.below hW
  have HY := hid hY
  have HJ := hid hJ
  have HA := hid hA
  have HJ0 := hid h0
  have HCH := hid (fun V (hV : HandAt V N H fv cv) => choices_c N H fv cv s0 hF V hV)
  have hT : MapT 75 := Try.underlying75
  have hmm := @run_makeMap Try.prog
  have hS0 : Below W.heap.size W W.drew := ⟨rfl, rfl, rfl, Nat.le_refl _, fun _ _ => rfl⟩
  refine callsIn_of_wp_marks Try.func67 rfl trivial ?_ rfl
  simp only [Try.ntmps67, List.size_toArray, List.length_cons, List.length_nil, Nat.reduceAdd, Nat.reduceSub, Array.replicate_succ, Array.replicate_zero, List.push_toArray, List.append_toArray, List.nil_append, List.cons_append]
  clear hY hJ hA h0 hw
  gi_wp2_with fail
  -- region 0
  refine region_cutR (fun a' V => ∃ (b : Nat) (u9 u10 u11 u12 u13 u14 : Value), a' = { tmps := #[.func (.yield l) #[] #[], .pointer (some ⟨bf, 0, none⟩), .pointer (some ⟨bh, 0, none⟩), undef, .map (some b), undef, undef, undef, undef, u9, u10, u11, u12, u13, u14, undef, undef, undef, undef, undef, undef, undef, undef, undef, undef, undef, undef, undef, undef, undef, undef, undef, undef, undef, undef, undef, undef, undef, undef, undef], defers := [] } ∧ MapAt V b [(s0, ((chN H s0 : Nat) : Int))] ∧ Below W.heap.size W V) ?_ ?_
  · have hS1 : LyAt W.drew N bf bh H fv cv s0 := HA.out.below hS0
    refine regD_in (lets_wide) (fun V => LyAt V N bf bh H fv cv s0) (fun _ => true) (by kernel_rfl) (by kernel_rfl) ?_
    refine takeE (i := 1) (encS s0) (d := some 10) rfl (by kernel_rfl) (by kernel_rfl) (by kernel_rfl) (by kernel_rfl) (fun _ _ _ h => h) rfl (fun W hSw => by exact exec_ldstate rfl rfl hSw.fb) (hS1) rfl ?_
    simp only [Act.put, List.setIfInBounds_toArray, List.set_cons_zero, List.set_cons_succ]
    refine takeE (i := 2) (.agg (handA H fv cv)) (d := some 11) rfl (by kernel_rfl) (by kernel_rfl) (by kernel_rfl) (by kernel_rfl) (fun _ _ _ h => h) rfl (fun W hSw => by exact exec_ldhand rfl rfl hSw.hb) (hS1) rfl ?_
    simp only [Act.put, List.setIfInBounds_toArray, List.set_cons_zero, List.set_cons_succ]
    refine takeE (i := 3) (encS s0) (d := some 12) rfl (by kernel_rfl) (by kernel_rfl) (by kernel_rfl) (by kernel_rfl) (fun _ _ _ h => h) rfl (fun W hSw => by exact exec_ldstate rfl rfl hSw.fb) (hS1) rfl ?_
    simp only [Act.put, List.setIfInBounds_toArray, List.set_cons_zero, List.set_cons_succ]
    refine stepD2 0 4 (by kernel_rfl) rfl rfl rfl rfl (fun K hK => ?_) (fun K hK => ?_)
    · skip
      go_simp
      have hV : Below W.heap.size W (W.alloc (.map #[] 0)).drew := ((Below.refl _ W).alloc (Nat.le_refl _) _).trans ⟨rfl, rfl, rfl, Nat.le_refl _, fun _ _ => rfl⟩
      have hS2 : LyAt (W.alloc (.map #[] 0)).drew N bf bh H fv cv s0 := HA.out.below hV
      have hm : MapAt (W.alloc (.map #[] 0)).drew W.heap.size [] := World.alloc_heap_new W _
      refine hK _ _ (fun _ => hS2) ?_
      clear hK K
      generalize (W.alloc (.map #[] 0)).drew = V1 at *
      refine stepD 4 (by kernel_rfl) rfl rfl (fun K hK => ?_)
      go_simp
      go_at_call 63
      refine (HCH.out _ hS2.hand).mono ?_
      rintro e V2 ⟨rfl, hb2⟩
      have hS3 := hS2.below hb2
      have hm2 := hm.below hb2
      have hV2 := hV.trans (hb2.mono hV.size)
      go_simp
      refine hK _ _ (fun _ => hS3) ?_
      clear hK K
      have hb0 : W.heap.size ≤ W.heap.size := Nat.le_refl _
      have hrun := run_updateS hT hm2 s0 ((chN H s0 : Nat) : Int)
      rw [putS_nil] at hrun
      have hV3 : Below W.heap.size W (V2.putObj W.heap.size (mapO [(s0, ((chN H s0 : Nat) : Int))])) := hV2.trans ⟨rfl, rfl, rfl, by simp [World.putObj], fun k hk => World.putObj_heap_other (by omega)⟩
      have hm3 : MapAt (V2.putObj W.heap.size (mapO [(s0, ((chN H s0 : Nat) : Int))])) W.heap.size [(s0, ((chN H s0 : Nat) : Int))] := hm2.put
      have hS4 : LyAt (V2.putObj W.heap.size (mapO [(s0, ((chN H s0 : Nat) : Int))])) N bf bh H fv cv s0 := HA.out.below hV3
      refine stepD 5 (by kernel_rfl) rfl rfl (fun K hK => ?_)
      go_simp
      refine hK _ _ (fun _ => hS4) ?_
      clear hK K
      generalize V2.putObj W.heap.size (mapO [(s0, ((chN H s0 : Nat) : Int))]) = V3 at *
      refine stepD 6 (by kernel_rfl) rfl rfl (fun K hK => ?_)
      go_simp
      refine hK _ _ (fun _ => hS4) ?_
      clear hK K
      refine stepD 7 (by kernel_rfl) rfl rfl (fun K hK => ?_)
      go_simp
      refine hK _ _ (fun _ => hS4) ?_
      clear hK K
      refine doneD (by kernel_rfl) ?_ _
      refine OnlyNorm.normal ?_
      refine ⟨W.heap.size, _, _, _, _, _, _, rfl, hm3, hV3⟩
    · skip
      go_simp
      go_at_call 63
      refine (HCH.out _ hS1.hand).mono ?_
      rintro e V1 ⟨rfl, hb2⟩
      have hS2 := hS1.below hb2
      have hV := hS0.trans (hb2.mono hS0.size)
      go_simp
      refine hK _ _ (fun _ => hS2) ?_
      clear hK K
      refine stepD 0 (by kernel_rfl) rfl rfl (fun K hK => ?_)
      go_simp
      have hba : Below V1.heap.size V1 (V1.alloc (.map #[] 0)) := (Below.refl _ _).alloc (Nat.le_refl _) _
      have hS3 := hS2.below hba
      have hm2 : MapAt (V1.alloc (.map #[] 0)) V1.heap.size [] := World.alloc_heap_new V1 _
      have hV2 := hV.trans (hba.mono hV.size)
      refine hK _ _ (fun _ => hS3) ?_
      clear hK K
      have hVs := hV.size
      generalize V1.alloc (.map #[] 0) = V2 at *
      generalize V1.heap.size = b0 at *
      have hb0 : W.heap.size ≤ b0 := hVs
      have hrun := run_updateS hT hm2 s0 ((chN H s0 : Nat) : Int)
      rw [putS_nil] at hrun
      have hV3 : Below W.heap.size W (V2.putObj b0 (mapO [(s0, ((chN H s0 : Nat) : Int))])) := hV2.trans ⟨rfl, rfl, rfl, by simp [World.putObj], fun k hk => World.putObj_heap_other (by omega)⟩
      have hm3 : MapAt (V2.putObj b0 (mapO [(s0, ((chN H s0 : Nat) : Int))])) b0 [(s0, ((chN H s0 : Nat) : Int))] := hm2.put
      have hS4 : LyAt (V2.putObj b0 (mapO [(s0, ((chN H s0 : Nat) : Int))])) N bf bh H fv cv s0 := HA.out.below hV3
      refine stepD 5 (by kernel_rfl) rfl rfl (fun K hK => ?_)
      go_simp
      refine hK _ _ (fun _ => hS4) ?_
      clear hK K
      generalize V2.putObj b0 (mapO [(s0, ((chN H s0 : Nat) : Int))]) = V3 at *
      refine stepD 6 (by kernel_rfl) rfl rfl (fun K hK => ?_)
      go_simp
      refine hK _ _ (fun _ => hS4) ?_
      clear hK K
      refine stepD 7 (by kernel_rfl) rfl rfl (fun K hK => ?_)
      go_simp
      refine hK _ _ (fun _ => hS4) ?_
      clear hK K
      refine doneD (by kernel_rfl) ?_ _
      refine OnlyNorm.normal ?_
      refine ⟨b0, _, _, _, _, _, _, rfl, hm3, hV3⟩
  · rintro a' V ⟨b, u9, u10, u11, u12, u13, u14, rfl, hm, hB⟩
    have hZ := layer_zero H s0
    have hAV := HA.out.below hB
    have hJV := HJ.out _ _ _ HJ0.out hB
    have HJ1 := hid hJV
    have HA1 := hid hAV
    have HZ := hid hZ
    clear hZ hAV hJV HA HJ0 hS0
    gi_wp2_with fail
    refine wpIn_loop_ghost (fun k a V => ∃ (pre : List Nat) (b : Nat) (L : SL) (Ds : List Nat) (u5 u6 u8 u15 u16 u17 u18 u19 u20 u21 u22 u23 u24 u25 u26 u27 u28 u29 u30 u31 u34 u35 u36 u37 u38 u39 : Value), MapAt V b L ∧ LayerL H s0 pre.length L ∧ LyAt V N bf bh H fv cv s0 ∧ J pre V ∧ k + pre.length = dep s0 + 1 ∧ Ds.Nodup ∧ (∀ D ∈ Ds, W.heap.size ≤ D) ∧ MarksA V Ds ∧ W.heap.size ≤ V.heap.size ∧ a = { tmps := #[.func (.yield l) #[] #[], .pointer (some ⟨bf, 0, none⟩), .pointer (some ⟨bh, 0, none⟩), undef, .map (some b), u5, u6, undef, u8, u9, u10, u11, u12, u13, u14, u15, u16, u17, u18, u19, u20, u21, u22, u23, u24, u25, u26, u27, u28, u29, u30, u31, undef, undef, u34, u35, u36, u37, u38, u39], defers := marksD Ds }) (dep s0 + 1) ⟨[], b, _, [], _, _, _, _, _, _, _, _, _, _, _, _, _, _, _, _, _, _, _, _, _, _, _, _, _, _, hm, HZ.out, HA1.out, HJ1.out, by simp, by simp, by simp, fun _ h => by simp at h, hB.size, rfl⟩ ?_
    rintro k a V ⟨pre, b, L, Ds, u5, u6, u8, u15, u16, u17, u18, u19, u20, u21, u22, u23, u24, u25, u26, u27, u28, u29, u30, u31, u34, u35, u36, u37, u38, u39, hm, hLy, hA, hj, hk, hnd, hge, hmk, hBW, rfl⟩ K hK
    clear HZ HA1 HJ1
    have HNM := hid (show Ds.Nodup ∧ (∀ D ∈ Ds, W.heap.size ≤ D) from ⟨hnd, hge⟩)
    have HMK := hid hmk
    clear hnd hge hmk
    have hlen : ∀ ty, (Builtin.len_ #[75] ty #[.map (some b)]).run Try.prog V = .ok (.int .i64 ((L.length : Nat) : Int)) V := fun ty => by
      have h := run_len_map (P := Try.prog) (w := V) 75 ty b (entsL L 0).toArray L.length (by kernel_rfl) hm
      rw [size_entsL] at h
      exact h
    by_cases hL : L = []
    · subst hL
      have HNO := hid (layer_nil hLy)
      have HJE := hid hj
      clear hLy hj hA hk hm hK hBW
      gi_wp2_with fail
      refine leaves_marksJ W.heap.size (J pre) (hJx pre).1.mark Ds _ HNM.out.1 (fun D hD => ⟨HMK.out D hD, HNM.out.2 D hD⟩) HJE.out (fun W' hJ' => ?_)
      exact ⟨_, results_none rfl _ _ _, ⟨_, rfl⟩, .all pre HNO.out hJ'⟩
    · have hpos : (0 : Int) < ((L.length : Nat) : Int) := by have := List.length_pos_iff.2 hL; omega
      have hdp := layer_dep hF hLy hL
      obtain ⟨fn, tmps, assign, body, hy, hR⟩ := HY.out pre b V hj ⟨L, hm, hLy⟩
      have HR := hid hR
      have HMA := hid hm
      have HLy := hid hLy
      have HA := hid hA
      have HDP := hid hdp
      have HKL := hid hk
      have HBW := hid hBW
      have HK := hid hK
      clear hR hLy hj hA hk hdp hL hm hBW hK
      gi_wp2_with fail
      refine HR.out.mono ?_
      clear HR hy hlen
      rintro e w3 (⟨rfl, hJ3, hk3, -⟩ | ⟨rfl, hJ3, hk3, -⟩)
      · have hm3 : MapAt w3 b L := hk3 b (.inr rfl) _ HMA.out rfl
        have hA3 := HA.out.kept (fun b h => .inl (.inl h)) (.inl (.inr hs0)) (.inl (.inr hs1)) hk3
        have hmk3 := HMK.out.kept hk3
        obtain ⟨g, hg⟩ : ∃ g, w3.heap.size = g := ⟨_, rfl⟩
        have hbg : b < g := hg ▸ hm3.lt
        have hWg : W.heap.size ≤ g := hg ▸ Nat.le_trans HBW.out hk3.size
        have hbfg : bf < g := hg ▸ heap_lt hA3.fb
        have hbhg : bh < g := hg ▸ heap_lt hA3.hb
        have hNg : N ≤ g := Nat.le_trans hA3.nb (Nat.le_of_lt hbfg)
        have HJ3 := hid hJ3
        have hb4 : Below w3.heap.size w3 ((w3.alloc (.map #[] 0)).alloc (.cells #[.map (some w3.heap.size)] 75)) := below2 w3 _ _
        have hs4 : ((w3.alloc (.map #[] 0)).alloc (.cells #[.map (some w3.heap.size)] 75)).heap.size = w3.heap.size + 2 := by simp
        have hm4 : MapAt ((w3.alloc (.map #[] 0)).alloc (.cells #[.map (some w3.heap.size)] 75)) w3.heap.size [] := alloc2_first w3 _ _
        have hx4 : Boxed ((w3.alloc (.map #[] 0)).alloc (.cells #[.map (some w3.heap.size)] 75)) (w3.heap.size + 1) 75 (.map (some w3.heap.size)) := alloc2_second w3 _ _
        have hmb4 := hm3.below hb4
        have hA4 := hA3.below hb4
        have hmk4 := hmk3.below hb4
        clear hJ3 hA3 hk3 HA HMA hm3 hmk3
        gi_upto_region 4 with fail
        rw [hg] at hb4 hs4 hm4 hx4 hmb4 hA4 hmk4
        generalize (w3.alloc (.map #[] 0)).alloc (.cells #[.map (some g)] 75) = w4 at *
        have hrng := run_rangeS hT hmb4
        have hr5 := rangeS_new hmb4
        have hb5 : Below w4.heap.size w4 (w4.alloc (.mapIter (some b) L.length #[] L.length)) := (Below.refl _ _).alloc (Nat.le_refl _) _
        have hi5 : InnR H N bf bh fv cv s0 w3 g b L (FolT H []) Ds [] (w4.alloc (.mapIter (some b) L.length #[] L.length)) :=
          ⟨⟨[], hm4.below hb5, (NextQ.nil H).congr fun s => by simp [FolT]⟩, heap_below hb5 hx4 (by omega), by rw [hs4] at hr5; exact hr5, hA4.below hb5, hb4.trans (hb5.mono (by omega)), hmk4.below hb5⟩
        have HI5 := hid hi5
        rw [hs4] at hrng
        clear hm4 hx4 hmb4 hA4 hmk4 hr5 hb5 hi5 hb4
        gi_wp2_with fail
        generalize w4.alloc (.mapIter (some b) L.length #[] L.length) = w5 at *
        clear hrng hs4
        refine wpIn_loop_ghost (fun k a V => ∃ (vis : SL) (Ds' : List Nat) (u6 u8 u15 u16 u17 u18 u19 u20 u21 u22 u23 u25 u26 u27 u28 u29 u30 u31 u34 u35 u36 u37 u38 u39 : Value), InnR H N bf bh fv cv s0 w3 g b L (FolT H vis) Ds' vis V ∧ k + vis.length = L.length ∧ Ds'.Nodup ∧ (∀ D ∈ Ds', W.heap.size ≤ D) ∧ a = { tmps := #[.func (.yield l) #[] #[], .pointer (some ⟨bf, 0, none⟩), .pointer (some ⟨bh, 0, none⟩), undef, .map (some b), .pointer (some ⟨g + 1, 0, none⟩), u6, undef, u8, u9, u10, u11, u12, u13, u14, u15, u16, u17, u18, u19, u20, u21, u22, u23, .pointer (some ⟨g + 2, 0, none⟩), u25, u26, u27, u28, u29, u30, u31, undef, undef, u34, u35, u36, u37, u38, u39], defers := marksD Ds' }) L.length ⟨[], Ds, _, _, _, _, _, _, _, _, _, _, _, _, _, _, _, _, _, _, _, _, _, _, _, _, HI5.out, by simp, HNM.out.1, HNM.out.2, rfl⟩ ?_
        rintro k2 a2 V2 ⟨vis, Ds', u6, u8, u15, u16, u17, u18, u19, u20, u21, u22, u23, u25, u26, u27, u28, u29, u30, u31, u34, u35, u36, u37, u38, u39, hi2, hk2, hnd2, hge2, rfl⟩ K2 hK2
        have HK2 := hid hK2
        have HKV := hid hk2
        have HND := hid (show Ds'.Nodup ∧ (∀ D ∈ Ds', W.heap.size ≤ D) from ⟨hnd2, hge2⟩)
        clear hK2 hk2 hnd2 hge2 HI5
        obtain ⟨⟨M, hM, hQ⟩, hbx, hrg, hly, hbl, hmk⟩ := hi2
        have HI2 := hid (show InnR H N bf bh fv cv s0 w3 g b L (FolT H vis) Ds' vis V2 from ⟨⟨M, hM, hQ⟩, hbx, hrg, hly, hbl, hmk⟩)
        rcases next_S hrg 0 with ⟨hperm, hrun⟩ | ⟨p, V3, hpL, hr3, hgr, hsz3, hrun, hent⟩
        · have HPM := hid hperm
          have HQ := hid hQ
          have HB2 := hid hbl
          have HLA := hid hly
          have HMM := hid hM
          have HMK2 := hid hmk
          have hWV : W.heap.size ≤ V2.heap.size := by have := hM.lt; omega
          have c5 := hbx.cell
          clear hperm hQ hbl hly hM hmk hrg hbx
          gi_wp2_with fail
          refine HK.out (k - 1) _ _ (by have := HDP.out; have := HKL.out; omega) ⟨pre ++ [b], g, M, Ds', _, _, _, _, _, _, _, _, _, _, _, _, _, _, _, _, _, _, _, _, _, _, _, _, _, _, HMM.out, by rw [List.length_append]; exact next_layer HLy.out HPM.out HQ.out, HLA.out, HJ.out _ _ _ HJ3.out (by rw [hg]; exact HB2.out), by rw [List.length_append]; simp only [List.length_cons, List.length_nil]; have := HDP.out; have := HKL.out; omega, HND.out.1, HND.out.2, HMK2.out, hWV, rfl⟩
        · have hI3 := HI2.out.next hNg hbfg hbhg hgr hr3
          have hFp : Fit H p.1 := (reach_fit H s0 hF pre.length p.1 ((HLy.out.2.1 p.1).1 (List.mem_map.2 ⟨p, hpL, rfl⟩))).1
          have HX := hid hI3.2.2.2.1.hb
          have HBR := hid (branches_c N H fv cv p.1 V3 hI3.2.2.2.1.hand)
          have HI3 := hid hI3
          have hg3 : g < V3.heap.size := by obtain ⟨⟨M3, hM3, _⟩, _⟩ := hI3; exact hM3.lt
          have HPL := hid (show vis.length + 1 ≤ L.length by have := hr3.len; simpa using this)
          clear hM hQ hbx hrg hly hbl hmk HI2 hpL hr3 hgr hsz3 hI3
          gi_wp2_with (first
            | (refine wpListIn_value lets_wide rfl (by intro c hc; cases hc) (.agg (handA H fv cv)) (exec_ldhand rfl rfl HX.out) ?_)
            | (refine wpListIn_enter lets_wide rfl (by intro c hc; cases hc) (inv_br _ _ _ _ rfl rfl rfl _) ?_; refine HBR.out.mono ?_; rintro e W6 ⟨rfl, hb6, hsz6, hbr⟩; refine ⟨_, rfl, ?_⟩))
          obtain ⟨g6, hg6⟩ : ∃ g6, V3.heap.size = g6 := ⟨_, rfl⟩
          rw [hg6] at hsz6 hbr hg3 ⊢
          have hSQ := br_seq (n - 1) (by omega) N g6 (g6 + 1) g6 (g6 + 2) ⟨by omega, by omega⟩ ⟨by omega, by omega⟩ H fv cv p.1 hFp W6 hbr
          have hI6 := (InnR.abd (H := H) (N := N) (bf := bf) (bh := bh) (fv := fv) (cv := cv) (s0 := s0) (b := b) (L := L) (T := FolT H vis) (vis := vis ++ [p]) V3.heap.size (Nat.le_of_eq hg.symm) (by rw [hg6]; exact Nat.le_of_lt hg3) (fun D hD => (HI3.out.2.2.2.2.2.lt D hD))).below _ _ HI3.out hb6
          have HI6 := hid hI6
          have HD6 := hid hI6.2.2.2.2.2.lt
          clear hrun hent HI3 HX HBR hbr hb6 hI6
          gi_wp2_with fail
          apply rg_outA rfl (show 1 ≤ n by omega) (gf := brC p.1) (lb := brL p.1 g6 (g6 + 1)) rfl trivial (brC_enters p.1) hSQ (fun _ => rfl)
            (fun xs V => InnR H N bf bh fv cv s0 w3 g b L (fun t => FolT H vis t ∨ t ∈ xs.map Prod.snd) Ds' (vis ++ [p]) V) (fun _ _ _ => False)
            (fun xs => InnR.abd _ (Nat.le_of_eq hg.symm) (by omega) HD6.out) (fun _ _ => Abd.pure _ _) (fun _ _ => Abd.pure _ _) (HI6.out.congr fun s => by simp)
          case hassign =>
            intro l pre x V K hi ho hK
            simp only [brEnc]
            gi_wp2_with fail
            first | rfl | exact hK _ rfl
          case hbody =>
            rintro l2 xs x V hl hr hI hnx
            have hFx : Fit H x.2 := by
              obtain ⟨rest, hrest⟩ := hnx
              exact (step_fit H p.1 hFp x (by rw [hrest]; simp)).1
            have hI7 := hI
            obtain ⟨⟨M7, hM7, hQ7⟩, hbx7, hrg7, hly7, hbl7, hmk7⟩ := hI
            have HB7 := hid hbx7
            have HH7 := hid hly7.hb
            have hS0 : Below V.heap.size V V.drew := ⟨rfl, rfl, rfl, Nat.le_refl _, fun _ _ => rfl⟩
            gi_wp2_with fail
            refine regD_in (lets_round l2) (fun X => Below V.heap.size V X) (fun j => decide (j < 5)) (by kernel_rfl) (by kernel_rfl) ?_
            refine takeE (i := 0) (.map (some g)) (d := some 34) rfl (by kernel_rfl) (by kernel_rfl) (by kernel_rfl) (by kernel_rfl) (fun _ _ _ h => h) rfl (fun X hX => by exact exec_ldlayer rfl rfl (heap_below hX HB7.out (heap_lt HB7.out))) hS0 rfl ?_
            simp only [Act.put, List.setIfInBounds_toArray, List.set_cons_zero, List.set_cons_succ]
            refine takeE (i := 1) (encS x.2) (d := some 35) rfl (by kernel_rfl) (by kernel_rfl) (by kernel_rfl) (by kernel_rfl) (fun _ _ _ h => h) rfl (fun X hX => by rfl) hS0 rfl ?_
            simp only [Act.put, List.setIfInBounds_toArray, List.set_cons_zero, List.set_cons_succ]
            refine takeE (i := 2) (.agg (handA H fv cv)) (d := some 36) rfl (by kernel_rfl) (by kernel_rfl) (by kernel_rfl) (by kernel_rfl) (fun _ _ _ h => h) rfl (fun X hX => by exact exec_ldhand rfl rfl (heap_below hX HH7.out (heap_lt HH7.out))) hS0 rfl ?_
            simp only [Act.put, List.setIfInBounds_toArray, List.set_cons_zero, List.set_cons_succ]
            refine takeE (i := 3) (encS x.2) (d := some 37) rfl (by kernel_rfl) (by kernel_rfl) (by kernel_rfl) (by kernel_rfl) (fun _ _ _ h => h) rfl (fun X hX => by rfl) hS0 rfl ?_
            simp only [Act.put, List.setIfInBounds_toArray, List.set_cons_zero, List.set_cons_succ]
            refine stepD 4 (by kernel_rfl) rfl rfl (fun K hK => ?_)
            go_simp
            go_at_call 63
            refine (choices_c N H fv cv x.2 hFx _ (hly7.below hS0).hand).mono ?_
            rintro e X ⟨rfl, hbX⟩
            have hS1 : Below V.heap.size V X := hS0.trans hbX
            go_simp
            refine hK _ _ (fun _ => hS1) ?_
            clear hK K
            have hMX := hM7.below hS1
            have hrun := run_updateS hT hMX x.2 ((chN H x.2 : Nat) : Int)
            have hIX := (InnR.abd (H := H) (N := N) (bf := bf) (bh := bh) (fv := fv) (cv := cv) (s0 := s0) (b := b) (L := L) (T := fun t => FolT H vis t ∨ t ∈ xs.map Prod.snd) (vis := vis ++ [p]) V.heap.size (Nat.le_of_eq hg.symm) (Nat.le_of_lt hM7.lt) (fun D hD => (hmk7.lt D hD))).below _ _ hI7 hS1
            have HIX := hid (hIX.put hNg hbfg hbhg hbg hMX hQ7 x.2)
            have HKL := hid ((KeepsL.below hS1).put (mapO (putS M7 x.2 ((chN H x.2 : Nat) : Int))) hMX rfl)
            have HKS := hid ((KeptS.below (S := SBr N g6 (g6 + 2)) hS1).put (mapO (putS M7 x.2 ((chN H x.2 : Nat) : Int))) hMX rfl (by unfold SBr; omega))
            clear hIX hMX
            refine stepD 5 (by kernel_rfl) rfl rfl (fun K hK => ?_)
            go_simp
            refine hK _ _ (fun h => by cases h) ?_
            clear hK K
            refine doneD (by kernel_rfl) ?_ _
            refine OnlyNorm.normal ?_
            exact ⟨HKL.out, HKS.out, HIX.out.congr fun s => by simp [or_assoc]⟩
          case hdone =>
            rintro D xs V hD rfl hI hmkD
            have hWV : W.heap.size ≤ D := by omega
            have hk2 := HKV.out
            have hpl := HPL.out
            show K2 _ _
            exact HK2.out (k2 - 1) _ _ (by omega) ⟨vis ++ [p], D :: Ds', _, _, _, _, _, _, _, _, _, _, _, _, _, _, _, _, _, _, _, _, _, _, _, _, (hI.congr fun s => (fol_append H vis p s).symm).mark hmkD, by simp only [List.length_append, List.length_cons, List.length_nil]; omega, List.nodup_cons.2 ⟨fun h => by have := HD6.out D h; omega, HND.out.1⟩, fun E hE => (List.mem_cons.1 hE).elim (fun e => by omega) (HND.out.2 E), rfl⟩
          case hstop =>
            intro D c pre V hD hx
            exact hx.elim
      · have HJ3 := hid hJ3
        have HM3 := hid (HMK.out.kept hk3)
        clear hJ3 hk3 HA HMA HMK HK
        gi_wp2_with fail
        refine leaves_marksJ W.heap.size (Jx (pre ++ [b])) (hJx (pre ++ [b])).2.mark Ds _ HNM.out.1 (fun D hD => ⟨HM3.out D hD, HNM.out.2 D hD⟩) HJ3.out (fun W' hJ' => ?_)
        exact ⟨_, results_none rfl _ _ _, ⟨_, rfl⟩, .stop _ hJ'⟩
end Go.Proofs.Ytmjnelkeiogdcaa
