/- Walks of package hand: Nth. -/
import Derived.Test.YtmjnelkeiogdcaaJH
set_option linter.unusedSimpArgs false
set_option linter.unusedVariables false
namespace Go.Proofs.Ytmjnelkeiogdcaa
open Go Go.RowKit Go.Shelf
set_option maxRecDepth 100000

theorem store_last {P : Program} (W : World) (t : TypeId) (u v : Value) (hv : v.oneCell' = true) : (store ⟨W.heap.size, 0, none⟩ v).run P (W.alloc (.cells #[u] t)) = .ok () (W.alloc (.cells #[v] t)) := by
  have hbx : Boxed (W.alloc (.cells #[u] t)) W.heap.size t u := World.alloc_heap_new W _
  have h1 := run_store P (W.alloc (.cells #[u] t)) ⟨W.heap.size, 0, none⟩ v .plain hv
  rw [hbx.cell] at h1
  simp only [hbx.frozen, Bool.false_eq_true, if_false] at h1
  rw [h1]
  congr 1
  rw [World.setCell_alloc_at _ _ _ _ _ rfl]
  rfl
theorem storeC_last {P : Program} (W : World) (t : TypeId) (u v : Value) (hv : v.oneCell' = true) : (storeCells ⟨W.heap.size, 0, none⟩ [v]).run P (W.alloc (.cells #[u] t)) = .ok () (W.alloc (.cells #[v] t)) := by
  simp only [storeCells, Sem.run_bind]
  rw [show (⟨W.heap.size, 0, none⟩ : Addr).add 0 = ⟨W.heap.size, 0, none⟩ from rfl, store_last W t u v hv]
  rfl
theorem wpO_append_int {o : Oper} {a : Act} {w : World} {K : Act → World → Prop} {Q : Exit → Act → World → Prop} (s x : Operand)
    (ho : o.op = .call { callee := .builtin .append, args := #[s, x], argTypes := #[24, 24] }) (B : Nat) (v : Value) (xs : List Int) (hs : a.eval s = v) (hown : Ints w B v xs)
    (n : Int) (g c : Nat) (hx : a.eval x = .slice (some ⟨g, 0, none⟩) 1 c) (hc : w.cell? ⟨g, 0, none⟩ = some (.int .i64 n)) (hlen : xs.length < 1000000000) (hB : B ≤ w.heap.size)
    (h : ∀ v' w', Ints w' B v' (xs ++ [n]) → w.grownBy w' v.ownBlock → K (a.put o.dst v') w') : o.wp Try.prog a w K Q := by
  obtain ⟨i0, hi, hz0, hz1, hz2⟩ := info_parts infoInt
  obtain ⟨v', w', hrun, r1, r2, r3⟩ := run_append_own (P := Try.prog) w B 24 o.type 3 i0 (.int .i64 0) 1 8 Try.underlying24 hi hz0 hz1 hz2 rfl (by decide) v xs.length _ hown ⟨g, 0, none⟩ 1 c [.int .i64 n] rfl
    (fun j u hj => by
      obtain rfl : j = 0 := by
        cases j with
        | zero => rfl
        | succ j => simp at hj
      simp at hj; subst hj; exact hc) (fun u hu => by simp at hu; subst hu; rfl) (by unfold maxLen; omega) (by omega) hB
  unfold Oper.wp execOp
  simp only [ho, resolve, invoke, builtin, Sem.run_bind, Sem.run_pure, Result.andThen_ok, List.map_toArray, List.map_cons, List.map_nil, hs, hx, hrun]
  refine h v' w' ?_ r2
  unfold Ints
  simpa using r1
theorem Ints.abd (B b : Nat) (v : Value) (xs : List Int) : Abd B fun W => Ints W b v xs :=
  ⟨fun W W' h hb => h.below hb,
   fun W l r r' hl h hr => ⟨h.1, h.2.elim .inl fun ⟨g, cap, cur, h3, h4, h5, h6⟩ => .inr ⟨g, cap, cur, h3, h4, (World.putObj_heap_other fun e => by subst e; rw [hr] at h5; cases h5).trans h5, h6⟩⟩,
   fun W D hl h hr => ⟨h.1, h.2.elim .inl fun ⟨g, cap, cur, h3, h4, h5, h6⟩ => .inr ⟨g, cap, cur, h3, h4, (World.putObj_heap_other fun e => by subst e; rw [hr] at h5; cases h5).trans h5, h6⟩⟩⟩
theorem Ints.grown {W W' : World} {b mb : Nat} {v : Value} {xs : List Int} (h : Ints W b v xs) (hg : W.grownBy W' (some mb)) (hb : mb < b) : Ints W' b v xs :=
  ⟨h.1, h.2.elim .inl fun ⟨g, cap, cur, h3, h4, h5, h6⟩ => .inr ⟨g, cap, cur, h3, h4, grown_block hg h5 (by omega), h6⟩⟩
theorem Ints.setBox {W : World} {b k : Nat} {v : Value} {xs : List Int} (h : Ints W b v xs) {cs : Array Value} {t : TypeId} (hk : W.heap[k]? = some (.cells cs t (0, 0))) (ht : t ≠ 3 ∨ k < b) (u : Value) : Ints (W.setCell ⟨k, 0, none⟩ u) b v xs :=
  ⟨h.1, h.2.elim .inl fun ⟨g, cap, cur, h3, h4, h5, h6⟩ => .inr ⟨g, cap, cur, h3, h4, (heap_setCell_other W ⟨k, 0, none⟩ g _ (show g ≠ k from fun e => by
    subst e
    rcases ht with ht | ht
    · rw [h5] at hk; cases hk; exact ht rfl
    · omega)).trans h5, h6⟩⟩
theorem Ints.own {W : World} {b : Nat} {v : Value} {xs : List Int} (h : Ints W b v xs) : ∀ k, v.ownBlock = some k → b ≤ k ∧ ∃ cs, W.heap[k]? = some (.cells cs 3 (0, 0)) := fun k hk => by
  rcases h.2 with ⟨h3, _⟩ | ⟨g, cap, cur, h3, h4, h5, _⟩
  · rw [h3] at hk; cases hk
  · rw [h3] at hk
    have : g = k := by simpa [Value.ownBlock] using hk
    subst this
    exact ⟨h4, _, h5⟩
theorem KeepsL.own {W W' : World} {b : Nat} {v : Value} {xs : List Int} (h : Ints W b v xs) (hg : W.grownBy W' v.ownBlock) : KeepsL W W' :=
  ⟨hg.size, fun k o ho hk => (hg.block k (heap_lt ho) fun e => by
    obtain ⟨_, cs, hc⟩ := h.own k e.symm
    rw [hc] at ho; cases ho; cases hk).trans ho⟩
theorem KeptS.own {S : Nat → Prop} {W W' : World} {b : Nat} {v : Value} {xs : List Int} (h : Ints W b v xs) (hg : W.grownBy W' v.ownBlock) (hS : ∀ k, S k → k < b) : KeptS S W W' :=
  ⟨hg.size, fun k hk o ho _ => (hg.block k (heap_lt ho) fun e => by have := (h.own k e.symm).1; have := hS k hk; omega).trans ho,
   fun k x ho => (hg.block k (heap_lt ho) fun e => by
    obtain ⟨_, cs, hc⟩ := h.own k e.symm
    rw [hc] at ho; cases ho).trans ho⟩
theorem own_block {W W' : World} {b : Nat} {v : Value} {xs : List Int} (h : Ints W b v xs) (hg : W.grownBy W' v.ownBlock) {k : Nat} {o : Obj} (ho : W.heap[k]? = some o) (hk : k < b ∨ ∀ cs, o ≠ .cells cs 3 (0, 0)) : W'.heap[k]? = some o :=
  (hg.block k (heap_lt ho) fun e => by
    obtain ⟨h1, cs, hc⟩ := h.own k e.symm
    rcases hk with hk | hk
    · omega
    · rw [hc] at ho; cases ho; exact hk _ rfl).trans ho
/-- What holds between two steps of Nth. -/
structure NthI (N : Nat) (H : HV) (fv cv : Value) (o : Int) (cp mb g p : Nat) (w : World) (s : St) (i : Nat) (v : Value) (xs : List Int) (V : World) : Prop where
  hand : HandAt V N H fv cv
  hb : V.heap[g]? = some (.cells (handA H fv cv) 26 (0, 0))
  nb : Boxed V (g + 1) 3 (.int .i64 ((i : Nat) : Int))
  pb : Boxed V p 81 (.pointer (some ⟨cp, 0, none⟩))
  sb : V.heap[p + 1]? = some (.cells #[encS s] 71 (0, 0))
  ct : V.heap[cp]? = some (.cells (ctrA H fv cv o mb) 110 (0, 0))
  kn : KnAt V mb H o
  vb : Boxed V (p + 2) 24 v
  own : Ints V (p + 3) v xs
  bel : Below g w V
section
variable {N : Nat} {H : HV} {fv cv : Value} {o : Int} {cp mb g p : Nat} {w : World} {s : St} {i : Nat} {v : Value} {xs : List Int} {V V' : World}
theorem NthI.abd (B : Nat) (hg : g ≤ w.heap.size) (hB : g ≤ B) : Abd B (NthI N H fv cv o cp mb g p w s i v xs) := by
  have h := (HandAt.abd B N H fv cv).and ((Abd.block B g (.cells (handA H fv cv) 26 (0, 0)) rfl).and ((Abd.boxed B (g + 1) 3 (.int .i64 ((i : Nat) : Int))).and ((Abd.boxed B p 81 (.pointer (some ⟨cp, 0, none⟩))).and ((Abd.block B (p + 1) (.cells #[encS s] 71 (0, 0)) rfl).and ((Abd.block B cp (.cells (ctrA H fv cv o mb) 110 (0, 0)) rfl).and ((KnAt.abd B mb H o).and ((Abd.boxed B (p + 2) 24 v).and ((Ints.abd B (p + 3) v xs).and (Abd.belowOf (w := w) hg hB)))))))))
  exact ⟨fun W W' k hb => by obtain ⟨a1, a2, a3, a4, a5, a6, a7, a8, a9, a10⟩ := h.below W W' ⟨k.1, k.2, k.3, k.4, k.5, k.6, k.7, k.8, k.9, k.10⟩ hb; exact ⟨a1, a2, a3, a4, a5, a6, a7, a8, a9, a10⟩,
    fun W l r r' hl k hr => by obtain ⟨a1, a2, a3, a4, a5, a6, a7, a8, a9, a10⟩ := h.turn W l r r' hl ⟨k.1, k.2, k.3, k.4, k.5, k.6, k.7, k.8, k.9, k.10⟩ hr; exact ⟨a1, a2, a3, a4, a5, a6, a7, a8, a9, a10⟩,
    fun W D hl k hr => by obtain ⟨a1, a2, a3, a4, a5, a6, a7, a8, a9, a10⟩ := h.mark W D hl ⟨k.1, k.2, k.3, k.4, k.5, k.6, k.7, k.8, k.9, k.10⟩ hr; exact ⟨a1, a2, a3, a4, a5, a6, a7, a8, a9, a10⟩⟩
theorem NthI.below (h : NthI N H fv cv o cp mb g p w s i v xs V) (hg : g = w.heap.size) (hb : Below V.heap.size V V') : NthI N H fv cv o cp mb g p w s i v xs V' := (NthI.abd (w := w) g (Nat.le_of_eq hg) (Nat.le_refl _)).below _ _ h hb
theorem NthI.grown (h : NthI N H fv cv o cp mb g p w s i v xs V) (hN : N ≤ mb) (hmp : g + 2 ≤ mb ∧ mb < p) (hG : V.grownBy V' (some mb)) (hk : KnAt V' mb H o) : NthI N H fv cv o cp mb g p w s i v xs V' :=
  ⟨h.hand.grown hG hN, grown_block hG h.hb (by omega), grown_block hG h.nb (by omega), grown_block hG h.pb (by omega), grown_block hG h.sb (by omega), grown_block hG h.ct (by obtain ⟨M, hM, _⟩ := h.kn; exact (map_ne hM h.ct).symm), hk, grown_block hG h.vb (by omega), h.own.grown hG (by omega), h.bel.trans (grownB hG (by have := heap_lt h.hb; omega) (by omega))⟩
theorem NthI.setN (h : NthI N H fv cv o cp mb g p w s i v xs V) (hN : N ≤ g) (hgp : g + 2 ≤ p) (hcp : g + 2 ≤ cp) (j : Nat) : NthI N H fv cv o cp mb g p w s j v xs (V.setCell ⟨g + 1, 0, none⟩ (.int .i64 ((j : Nat) : Int))) := by
  have key : ∀ (k : Nat) (o : Obj), V.heap[k]? = some o → k ≠ g + 1 → (V.setCell ⟨g + 1, 0, none⟩ (.int .i64 ((j : Nat) : Int))).heap[k]? = some o := fun k o h hk => (heap_setCell_other V ⟨g + 1, 0, none⟩ k _ hk).trans h
  have hbb : Below g V (V.setCell ⟨g + 1, 0, none⟩ (.int .i64 ((j : Nat) : Int))) := ⟨rfl, rfl, rfl, by simp, fun k hk => heap_setCell_other V ⟨g + 1, 0, none⟩ k _ (show k ≠ g + 1 by omega)⟩
  exact ⟨h.hand.below (hbb.mono hN), key _ _ h.hb (by omega), h.nb.set _, key _ _ h.pb (by omega), key _ _ h.sb (by omega), key _ _ h.ct (by omega), by obtain ⟨M, hM, hk⟩ := h.kn; exact ⟨M, key _ _ hM (map_ne hM h.nb), hk⟩, key _ _ h.vb (by omega), h.own.setBox h.nb (.inr (by omega)) _, h.bel.trans hbb⟩
theorem NthI.setS (h : NthI N H fv cv o cp mb g p w s i v xs V) (hN : N ≤ g) (hgp : g + 2 ≤ p) (hcp : cp < p) (t : St) : NthI N H fv cv o cp mb g p w t i v xs (V.setCell ⟨p + 1, 0, none⟩ (encS t)) := by
  have key : ∀ (k : Nat) (o : Obj), V.heap[k]? = some o → k ≠ p + 1 → (V.setCell ⟨p + 1, 0, none⟩ (encS t)).heap[k]? = some o := fun k o h hk => (heap_setCell_other V ⟨p + 1, 0, none⟩ k _ hk).trans h
  have hbb : Below g V (V.setCell ⟨p + 1, 0, none⟩ (encS t)) := ⟨rfl, rfl, rfl, by simp, fun k hk => heap_setCell_other V ⟨p + 1, 0, none⟩ k _ (show k ≠ p + 1 by omega)⟩
  exact ⟨h.hand.below (hbb.mono hN), key _ _ h.hb (by omega), key _ _ h.nb (by omega), key _ _ h.pb (by omega), (show Boxed V (p + 1) 71 (encS s) from h.sb).set _, key _ _ h.ct (by omega), by obtain ⟨M, hM, hk⟩ := h.kn; exact ⟨M, key _ _ hM (map_ne hM h.sb), hk⟩, key _ _ h.vb (by omega), h.own.setBox h.sb (.inr (by omega)) _, h.bel.trans hbb⟩
/-- A block that is none of those is changed. -/
theorem NthI.setX (h : NthI N H fv cv o cp mb g p w s i v xs V) (hN : N ≤ g) (hgp : g + 2 ≤ p) (hcp : cp < p) {k : Nat} {cs : Array Value} {t : TypeId} (hk : V.heap[k]? = some (.cells cs t (0, 0))) (hk3 : p + 3 ≤ k) (ht : ∀ j, v.ownBlock = some j → j ≠ k) (u : Value) : NthI N H fv cv o cp mb g p w s i v xs (V.setCell ⟨k, 0, none⟩ u) := by
  have key : ∀ (j : Nat) (o : Obj), V.heap[j]? = some o → j ≠ k → (V.setCell ⟨k, 0, none⟩ u).heap[j]? = some o := fun j o h hj => (heap_setCell_other V ⟨k, 0, none⟩ j _ hj).trans h
  have hbb : Below g V (V.setCell ⟨k, 0, none⟩ u) := ⟨rfl, rfl, rfl, by simp, fun j hj => heap_setCell_other V ⟨k, 0, none⟩ j _ (show j ≠ k by omega)⟩
  exact ⟨h.hand.below (hbb.mono hN), key _ _ h.hb (by omega), key _ _ h.nb (by omega), key _ _ h.pb (by omega), key _ _ h.sb (by omega), key _ _ h.ct (by omega), by obtain ⟨M, hM, hm⟩ := h.kn; exact ⟨M, key _ _ hM (map_ne hM hk), hm⟩, key _ _ h.vb (by omega),
    ⟨h.own.1, h.own.2.elim .inl fun ⟨q, cap, cur, h3, h4, h5, h6⟩ => .inr ⟨q, cap, cur, h3, h4, key _ _ h5 (ht q (by rw [h3]; rfl)), h6⟩⟩, h.bel.trans hbb⟩
/-- One more choice. -/
theorem NthI.app (h : NthI N H fv cv o cp mb g p w s i v xs V) (hN : N ≤ g) (hgp : g + 2 ≤ p) (hcp : cp < p) {v2 : Value} {ys : List Int} (hG : V.grownBy V' v.ownBlock) (hv2 : Ints V' (p + 3) v2 ys) : NthI N H fv cv o cp mb g p w s i v2 ys (V'.setCell ⟨p + 2, 0, none⟩ v2) := by
  have key : ∀ (j : Nat) (o : Obj), V.heap[j]? = some o → j < p + 3 → j ≠ p + 2 → (V'.setCell ⟨p + 2, 0, none⟩ v2).heap[j]? = some o := fun j o ho hj hne => (heap_setCell_other V' ⟨p + 2, 0, none⟩ j _ hne).trans (own_block h.own hG ho (.inl hj))
  have hvb : Boxed V' (p + 2) 24 v := own_block h.own hG h.vb (.inl (by omega))
  have hbb : Below g V V' := (Below.refl g V).grown hG (by have := heap_lt h.hb; omega) (fun k hk => by have := (h.own.own k hk).1; omega)
  have hbb2 : Below g V' (V'.setCell ⟨p + 2, 0, none⟩ v2) := ⟨rfl, rfl, rfl, by simp, fun j hj => heap_setCell_other V' ⟨p + 2, 0, none⟩ j _ (show j ≠ p + 2 by omega)⟩
  have hmb : mb < p + 3 → mb ≠ p + 2 → KnAt (V'.setCell ⟨p + 2, 0, none⟩ v2) mb H o := fun h1 h2 => by obtain ⟨M, hM, hm⟩ := h.kn; exact ⟨M, key _ _ hM h1 h2, hm⟩
  refine ⟨h.hand.below ((hbb.trans hbb2).mono hN), key _ _ h.hb (by omega) (by omega), key _ _ h.nb (by omega) (by omega), key _ _ h.pb (by omega) (by omega), key _ _ h.sb (by omega) (by omega), key _ _ h.ct (by omega) (by omega), ?_, hvb.set _, hv2.setBox hvb (.inr (by omega)) _, h.bel.trans (hbb.trans hbb2)⟩
  obtain ⟨M, hM, hm⟩ := h.kn
  exact ⟨M, (heap_setCell_other V' ⟨p + 2, 0, none⟩ mb _ (map_ne hM h.vb)).trans (own_block h.own hG hM (.inr fun cs e => by cases e)), hm⟩
end
theorem dep_le {H : HV} {s : St} (h : Fit H s) : dep s ≤ 8 := by
  cases s with
  | thrown l k => exact h.1.1
  | marked m => simp only [dep]; split <;> omega
  | divided l n => have := h.1.1; simp only [dep]; omega
  | drawn l g k => have := h.1.1; simp only [dep]; omega
  | cut k => simp only [dep]; split <;> omega
theorem nthS_congr (f f' : St → Nat) : ∀ (L : List (Nat × St)) (o i : Nat), (∀ x ∈ L, f x.2 = f' x.2) → nthS f o i L = nthS f' o i L
  | [], _, _, _ => rfl
  | x :: L, o, i, h => by
    unfold nthS
    rw [h x (by simp), nthS_congr f f' L _ _ fun y hy => h y (by simp [hy])]
theorem nthN_step (H : HV) (o : Int) (s : St) (hF : Fit H s) (i : Nat) (hi : i < cntO H o s) (hd : dep s ≠ 0) : ∃ c j t, nthS (cntO H o) 0 i (brs H s) = some (c, j, t) ∧ j < cntO H o t ∧ (∃ w, (w, t) ∈ brs H s) ∧ nthN H (okO H o) (dep s) s i = c :: nthN H (okO H o) (dep t) t j := by
  obtain ⟨k, hk⟩ : ∃ k, dep s = k + 1 := ⟨dep s - 1, by omega⟩
  have hc : ∀ x ∈ brs H s, cntO H o x.2 = cnt H (okO H o) k x.2 := fun x hx => by
    have := (step_fit H s hF x hx).2
    unfold cntO
    rw [show dep x.2 = k by omega]
  unfold cntO cnt at hi
  rw [hk, crs] at hi
  obtain ⟨c, j, t, h1, h2, ⟨w, hw⟩, _, _, h5⟩ := nthS_spec (fun c t => (crs H (okO H o) k t).map (c :: ·)) (cnt H (okO H o) k) (fun c t => by simp [cnt]) (brs H s) 0 i hi
  have hdt : dep t = k := by have := (step_fit H s hF _ hw).2; simp only at this; omega
  refine ⟨c, j, t, (nthS_congr _ _ _ _ _ hc).trans h1, by rw [hc _ hw]; exact h2, ⟨w, hw⟩, ?_⟩
  rw [hk, nthN, h1, hdt]
theorem storeS1 {P : Program} {V : World} {b : Nat} {t : TypeId} {u : Value} (h : Boxed V b t u) (s : St) : (store ⟨b, 0, none⟩ (encS s)).run P V = .ok () (V.setCell ⟨b, 0, none⟩ (encS s)) := by
  have hc := h.cell
  have hf := h.frozen
  have h1 := run_store P V ⟨b, 0, none⟩ (encS s) .plain rfl
  rw [hc] at h1
  simp only [hf, Bool.false_eq_true, if_false] at h1
  exact h1
theorem KeptS.mono {S S' : Nat → Prop} {W W' : World} (h : KeptS S W W') (hS : ∀ k, S' k → S k) : KeptS S' W W' := ⟨h.size, fun b hb => h.app b (hS b hb), h.dfr⟩
theorem results_t2 {P : Program} {fn : Func} {p q : Tmp} (h : fn.results = #[.tmp p, .tmp q]) {tmps : Array Value} {W : World} : (results fn tmps).run P W = .ok (.tuple #[tmps.getD p undef, tmps.getD q undef]) W := by
  simp [results, h]
theorem sat_prod (f x c : Nat) (h : f * x ≤ c) (hc : c ≤ 1000000000000000) : satN f * x = f * x := by
  rcases Nat.eq_zero_or_pos x with h0 | h0
  · subst h0; simp
  · have : f ≤ f * x := Nat.le_mul_of_pos_right f h0
    rw [satN_id f (by omega)]
theorem nthS_cons (f : St → Nat) (c j : Nat) (x : Nat × St) (L : List (Nat × St)) : nthS f c j (x :: L) = if j < f x.2 * x.1 then some (c + j / f x.2, j % f x.2, x.2) else nthS f (c + x.1) (j - f x.2 * x.1) L := rfl
theorem cntO_part (H : HV) (o : Int) (s : St) (hF : Fit H s) (x : Nat × St) (h : x ∈ brs H s) : cntO H o x.2 * x.1 ≤ cntO H o s := by
  have hd : dep s ≠ 0 := fun h0 => by rw [dep_zero hF h0] at h; simp at h
  rw [cntO_succ H o s hF hd, Nat.mul_comm]
  exact le_sum_mem _ _ (List.mem_map.2 ⟨x, h, rfl⟩)
attribute [local go_sem] Oper.semAt_some
set_option maxHeartbeats 4000000 in
theorem Nth_in (n : Nat) (hn : 24 ≤ n) (H : HV) (hV : Val H) (fv cv : Value) (o : Int) (hor : 0 ≤ o ∧ o < ((outsN H : Nat) : Int)) (hall : cntO H (-1) (beginS H) ≤ 1000000000000000) (i0 : Nat) (hi0 : i0 < cntO H o (beginS H)) (N : Nat) (w : World) (hR : RawAt w N (rawOf H) fv cv) :
    CallsIn Fence.wide n Try.prog 21 #[.agg (handA H fv cv), .int .i64 o, .int .i64 ((i0 : Nat) : Int)] w fun e w' => ∃ v, e = .returned (.tuple #[v, .int .i64 0]) ∧ Ints w' w.heap.size v ((nthN H (okO H o) (dep (beginS H)) (beginS H) i0).map fun c => ((c : Nat) : Int)) ∧ Below w.heap.size w w' := by
  have hx := alloc2_first w (.cells (handA H fv cv) 26) (.cells #[.int .i64 ((i0 : Nat) : Int)] 3)
  have hy := alloc2_second w (.cells (handA H fv cv) 26) (.cells #[.int .i64 ((i0 : Nat) : Int)] 3)
  have hb := below2 w (.cells (handA H fv cv) 26) (.cells #[.int .i64 ((i0 : Nat) : Int)] 3)
  have HX := hid hx
  have HY := hid hy
  have HB := hid hb
  have hR1 := hR.below (hb.mono hR.le)
  have HR := hid hR1
  have hNg : N ≤ w.heap.size := hR.le
  have hol := outs_le H hV.hand.ok
  have hcr : crsR H o = (((cntO H o (beginS H) : Nat) : Int), 0) := by unfold crsR; rw [if_pos hor, if_pos hall]
  have HCS := hid (hcr ▸ Courses_yes H hV fv cv o (by omega) N _ hR1)
  have HCY := hid (fun W hW => counted_yes N H hV.hand fv cv o hall W hW)
  have hcl := cntO_le H o (beginS H)
  have hF0 := begin_fit H hV.hand.ok
  have hL0 := hV.hand.last
  obtain ⟨s0, hs0⟩ : ∃ s0, beginS H = s0 := ⟨_, rfl⟩
  rw [hs0] at hF0 hL0 hi0 hcl hall HCS HCY ⊢
  obtain ⟨cn, hcn⟩ : ∃ cn, cntO H o s0 = cn := ⟨_, rfl⟩
  have HCN := hid hcn
  rw [hcn] at hi0 hcl HCS
  have hw : (decide ((0 : Int) ≤ ((i0 : Nat) : Int)) && decide (((i0 : Nat) : Int) ≤ ((cn : Nat) : Int) - 1)) = true := by simp; omega
  have hm1 : IntKind.i64.wrap (((cn : Nat) : Int) - 1) = ((cn : Nat) : Int) - 1 := IntWalk.i64_in _ (by omega)
  have hst := fun (W : World) (v : Value) => storeC_last (P := Try.prog) (W.alloc (.cells #[v] 81)) 71 .nilIface (encS s0) rfl
  simp only [World.size_alloc] at hst
  clear hx hy hb hR1 hcr hcn hor hV hR
  refine callsIn_of_wp_marks Try.func21 rfl trivial ?_ rfl
  simp only [Try.ntmps21, List.size_toArray, List.length_cons, List.length_nil, Nat.reduceAdd, Nat.reduceSub, Array.replicate_succ, Array.replicate_zero, List.push_toArray, List.append_toArray, List.nil_append, List.cons_append]
  gi_upto_region 7 with (first
    | (refine wpListIn_value lets_wide rfl (by intro c hc; cases hc) (.agg (handA H fv cv)) (exec_ldhand rfl rfl HX.out) ?_)
    | (gi_at_call 20; refine (callsIn_wide.2 HCS.out).mono ?_; rintro e w2 ⟨rfl, hb2⟩; have HX := hid (heap_below hb2 HX.out (heap_lt HX.out)); have HY := hid (heap_below hb2 HY.out (heap_lt HY.out)); have HB := hid (HB.out.trans (hb2.mono HB.out.size)); have HR := hid (HR.out.below (hb2.mono HR.out.le)); have cy := Boxed.cell HY.out; clear hb2 HCS)
    | (gi_at_call 48; refine (callsIn_wide.2 (within_c _ _ _ _)).mono ?_; rintro e w4 ⟨rfl, rfl⟩; rw [hw])
    | (gi_at_call 49; refine (callsIn_wide.2 (HCY.out _ (HandAt.of HR.out))).mono ?_; rintro e w5 ⟨cp, mb, rfl, hcp, hmb, hcc, hkk, hb5⟩))
  rw [hst]
  have hsz5 : w.heap.size + 2 ≤ w5.heap.size := by have := heap_lt HY.out; have := hb5.size; omega
  obtain ⟨w6, hw6⟩ : ∃ w6, (w5.alloc (.cells #[.pointer (some ⟨cp, 0, none⟩)] 81)).alloc (.cells #[encS s0] 71) = w6 := ⟨_, rfl⟩
  have hb6 : Below w5.heap.size w5 w6 := hw6 ▸ below2 w5 _ _
  have hs6 : w6.heap.size = w5.heap.size + 2 := by rw [← hw6]; simp
  have hc6 : Boxed w6 w5.heap.size 81 (.pointer (some ⟨cp, 0, none⟩)) := hw6 ▸ alloc2_first w5 _ _
  have hz6 : w6.heap[w5.heap.size + 1]? = some (.cells #[encS s0] 71 (0, 0)) := hw6 ▸ alloc2_second w5 _ _
  rw [hw6]
  clear hw6 hst cy hw hm1
  gi_upto_region 8 with fail
  have hb7 := below2 w6 (.cells #[.slice none 0 0] 24) (.cells #[.bool true] 4)
  have hv7 : Boxed _ w6.heap.size 24 (.slice none 0 0) := alloc2_first w6 (.cells #[.slice none 0 0] 24) (.cells #[.bool true] 4)
  have hm7 : Boxed _ (w6.heap.size + 1) 4 (.bool true) := alloc2_second w6 (.cells #[.slice none 0 0] 24) (.cells #[.bool true] 4)
  gi_wp2_with fail
  generalize (w6.alloc (.cells #[.slice none 0 0] 24)).alloc (.cells #[.bool true] 4) = w7 at *
  have hbA : Below w2.heap.size w2 w7 := (hb5.trans (hb6.mono hb5.size)).trans (hb7.mono (by have := hb5.size; omega))
  have hcp5 := heap_lt hcc
  have hI0 : NthI N H fv cv o cp mb w.heap.size w5.heap.size w s0 i0 (.slice none 0 0) [] w7 :=
    ⟨(HandAt.of HR.out).below (hbA.mono (HandAt.of HR.out).le), heap_below hbA HX.out (heap_lt HX.out), heap_below hbA HY.out (heap_lt HY.out), heap_below hb7 hc6 (heap_lt hc6), heap_below hb7 hz6 (heap_lt hz6),
     heap_below (hb6.trans (hb7.mono (by omega))) hcc hcp5, hkk.below (hb6.trans (hb7.mono (by omega))), by rw [hs6] at hv7; exact hv7, Ints.nil _ _, HB.out.trans (hbA.mono HB.out.size)⟩
  have hm0 : Boxed w7 (w5.heap.size + 3) 4 (.bool true) := by rw [hs6] at hm7; exact hm7
  have hmb5 : mb < w5.heap.size := by obtain ⟨M, hM, _⟩ := hkk; exact heap_lt hM
  have hN2 : N ≤ w2.heap.size := (HandAt.of HR.out).le
  have hg2 : w.heap.size + 2 ≤ w2.heap.size := heap_lt HY.out
  obtain ⟨g, hg⟩ : ∃ g, w.heap.size = g := ⟨_, rfl⟩
  obtain ⟨p, hp⟩ : ∃ p, w5.heap.size = p := ⟨_, rfl⟩
  have hgcp : g + 2 ≤ cp ∧ cp < p ∧ g + 2 ≤ mb ∧ mb < p ∧ g + 2 ≤ p ∧ N ≤ g ∧ N ≤ mb := by omega
  rw [hg, hp] at hI0
  rw [hp] at hm0
  rw [hg, hp]
  have hi0' : dep s0 ≠ 0 → i0 < cntO H o s0 := fun _ => by rw [HCN.out]; exact hi0
  have hc0 : cntO H o s0 ≤ 1000000000000000 := by rw [HCN.out]; omega
  have HI0 := hid hI0
  have HM0 := hid hm0
  clear hb7 hv7 hm7 hbA hcp5 hI0 hm0 hmb5 hN2 hg2 hNg hb5 hb6 hs6 hc6 hz6 hcc hkk hcp hmb hsz5 HX HY HB HR HCY HCN hol hi0 hcl
  refine wpIn_loop_ghost (fun k a V => ∃ (s : St) (i : Nat) (xs : List Int) (v : Value) (more : Bool) (mbx : Nat) (Ds : List Nat) (u14 u15 u16 u17 u18 u42 u43 u44 u45 u46 u47 u48 u49 u50 u51 u52 u53 u54 u55 u56 u57 u58 u59 u60 u61 u62 u63 u64 u65 u66 u67 u68 u69 u70 u71 u72 u73 u74 u75 u76 : Value),
    NthI N H fv cv o cp mb g p w s i v xs V ∧ (dep s ≠ 0 → i < cntO H o s) ∧ cntO H o s ≤ 1000000000000000 ∧ Fit H s ∧ Last H s ∧ ((nthN H (okO H o) (dep s0) s0 i0).map fun c => ((c : Nat) : Int)) = xs ++ ((nthN H (okO H o) (dep s) s i).map fun c => ((c : Nat) : Int)) ∧ (more = false → dep s = 0) ∧ xs.length + dep s = dep s0 ∧ p + 3 ≤ mbx ∧ Boxed V mbx 4 (.bool more) ∧ k = dep s + (if more then 1 else 0) ∧ Ds.Nodup ∧ (∀ D ∈ Ds, g ≤ D) ∧ MarksA V Ds ∧
    u14 = .pointer (some ⟨mbx, 0, none⟩) ∧
    a = { tmps := #[.agg (handA H fv cv), .int .i64 o, .int .i64 ((i0 : Nat) : Int), .pointer (some ⟨g, 0, none⟩), undef, .pointer (some ⟨g + 1, 0, none⟩), .slice none 0 0, .int .i64 0, .int .i64 ((cn : Nat) : Int), .int .i64 0, .pointer (some ⟨p, 0, none⟩), .pointer (some ⟨p + 1, 0, none⟩), .int .i64 0, .pointer (some ⟨p + 2, 0, none⟩), u14, u15, u16, u17, u18, .tuple #[.int .i64 ((cn : Nat) : Int), .int .i64 0], .agg (handA H fv cv), .int .i64 o, .tuple #[.int .i64 ((cn : Nat) : Int), .int .i64 0], .int .i64 ((cn : Nat) : Int), .int .i64 0, .bool false, .int .i64 0, .bool false, undef, .bool false, .int .i64 ((i0 : Nat) : Int), .int .i64 ((cn : Nat) : Int), .int .i64 (((cn : Nat) : Int) - 1), .bool true, .bool false, .tuple #[.pointer (some ⟨cp, 0, none⟩), encS s0, .int .i64 0], .agg (handA H fv cv), .int .i64 o, .tuple #[.pointer (some ⟨cp, 0, none⟩), encS s0, .int .i64 0], .pointer (some ⟨cp, 0, none⟩), encS s0, .int .i64 0, u42, u43, u44, u45, u46, u47, u48, u49, u50, u51, u52, u53, u54, u55, u56, u57, u58, u59, u60, u61, u62, u63, u64, u65, u66, u67, u68, u69, u70, u71, u72, u73, u74, u75, u76, undef], defers := marksD Ds })
    (dep s0 + 1) ⟨s0, i0, [], _, true, p + 3, [], _, _, _, _, _, _, _, _, _, _, _, _, _, _, _, _, _, _, _, _, _, _, _, _, _, _, _, _, _, _, _, _, _, _, _, _, _, _, _, _, HI0.out, hi0', hc0, hF0, hL0, rfl, (fun h => by cases h), by simp, Nat.le_refl _, HM0.out, rfl, by simp, (fun _ h => by simp at h), (fun _ h => by simp at h), rfl, rfl⟩ ?_
  clear HI0 HM0 hi0' hc0
  rintro k a V ⟨s, i, xs, v, more, mbx, Ds, u14, u15, u16, u17, u18, u42, u43, u44, u45, u46, u47, u48, u49, u50, u51, u52, u53, u54, u55, u56, u57, u58, u59, u60, u61, u62, u63, u64, u65, u66, u67, u68, u69, u70, u71, u72, u73, u74, u75, u76, hI, hi, hcs, hFs, hLs, hres, hmore, hlen, hmx3, hmx, hk, hnd, hge, hmk, rfl, rfl⟩ K hK
  cases more with
  | false =>
    have hd0 := hmore rfl
    rw [hd0, nthN, List.map_nil, List.append_nil] at hres
    have c1 := hmx.cell
    have c2 := hI.vb.cell
    have HI := hid hI
    have HND := hid (show Ds.Nodup ∧ (∀ D ∈ Ds, g ≤ D) ∧ MarksA V Ds from ⟨hnd, hge, hmk⟩)
    have HRS := hid hres
    clear hI hnd hge hmk hres hi hcs hFs hLs hmore hlen hk hK
    gi_wp2_with fail
    refine leaves_marks g Ds _ HND.out.1 (fun D hD => ⟨HND.out.2.2 D hD, HND.out.2.1 D hD⟩) (fun W' hb' hc' => ?_)
    refine ⟨_, results_t2 rfl, v, rfl, ?_, by rw [hg]; exact HI.out.bel.trans hb'⟩
    rw [HRS.out]
    obtain ⟨h1, h2⟩ := HI.out.own
    exact ⟨h1, h2.elim .inl fun ⟨q, cap, cur, h3, h4, h5, h6⟩ => .inr ⟨q, cap, cur, h3, by omega, hc' _ _ h5 rfl, h6⟩⟩
  | true =>
    obtain ⟨hgcp2, hcpp, hgmb, hmbp, hgpp, hNg', hNmb⟩ := hgcp
    have hown := hI.own.own
    have hI1 := hI.setX (k := mbx) hNg' hgpp hcpp hmx hmx3 (fun j hj e => by subst e; obtain ⟨_, cs, hc⟩ := hown j hj; rw [show V.heap[j]? = some (.cells #[.bool true] 4 (0, 0)) from hmx] at hc; cases hc) (.bool false)
    have hmx1 := hmx.set (.bool false)
    have hmk1 : MarksA (V.setCell ⟨mbx, 0, none⟩ (.bool false)) Ds := fun D hD => setCell_deferred (hmk D hD)
    have hs1 : (V.setCell ⟨mbx, 0, none⟩ (.bool false)).heap.size = V.heap.size := by simp
    have hwq : ∀ k, v.ownBlock = some k → k < V.heap.size := fun k hk => by obtain ⟨_, cs, hc⟩ := hown k hk; exact heap_lt hc
    have c1 := hmx.cell
    have f1 := hmx.frozen
    have HI := hid (show NthI N H fv cv o cp mb g p w s i v xs _ ∧ Boxed _ mbx 4 (.bool false) ∧ MarksA _ Ds from ⟨hI1, hmx1, hmk1⟩)
    have HND := hid (show Ds.Nodup ∧ (∀ D ∈ Ds, g ≤ D) from ⟨hnd, hge⟩)
    have HF := hid (show (dep s ≠ 0 → i < cntO H o s) ∧ cntO H o s ≤ 1000000000000000 ∧ Fit H s ∧ Last H s ∧ _ = _ ∧ xs.length + dep s = dep s0 from ⟨hi, hcs, hFs, hLs, hres, hlen⟩)
    have HK := hid hK
    have hk1 : k = dep s + 1 := hk
    clear hI hown hI1 hmx hmx1 hmk1 hnd hge hmk hi hcs hFs hLs hres hlen hmore hk hK
    dsimp only
    gi_upto_region 11 with fail
    obtain ⟨V1, hV1⟩ : ∃ V1, V.setCell ⟨mbx, 0, none⟩ (.bool false) = V1 := ⟨_, rfl⟩
    rw [hV1] at HI hs1 ⊢
    clear c1 f1 hV1
    gi_upto_region 12 with fail
    obtain ⟨q, hq⟩ : ∃ q, V.heap.size = q := ⟨_, rfl⟩
    rw [hq] at hs1 hwq ⊢
    have HOW := hid hwq
    clear hwq
    have hb2 : Below V1.heap.size V1 (V1.alloc (.cells #[.int .i64 0] 3)) := (Below.refl _ _).alloc (Nat.le_refl _) _
    have hq2 : Boxed (V1.alloc (.cells #[.int .i64 0] 3)) q 3 (.int .i64 0) := by have := World.alloc_heap_new V1 (.cells #[.int .i64 0] 3); rw [hs1] at this; exact this
    have hs2 : (V1.alloc (.cells #[.int .i64 0] 3)).heap.size = q + 1 := by simp [hs1]
    have hmq : mbx < q := hs1 ▸ heap_lt HI.out.2.1
    have hI2 := HI.out.1.below hg.symm hb2
    have hmx2 := heap_below hb2 HI.out.2.1 (heap_lt HI.out.2.1)
    have hmk2 := HI.out.2.2.below hb2
    generalize V1.alloc (.cells #[.int .i64 0] 3) = V2 at *
    have HX := hid hI2.hb
    have HS := hid hI2.sb
    have HBR := hid (branches_c N H fv cv s V2 hI2.hand)
    have HI2 := hid (show NthI N H fv cv o cp mb g p w s i v xs V2 ∧ Boxed V2 mbx 4 (.bool false) ∧ MarksA V2 Ds ∧ Boxed V2 q 3 (.int .i64 0) from ⟨hI2, hmx2, hmk2, hq2⟩)
    have hDq : ∀ D ∈ Ds, D < q + 1 := fun D hD => hs2 ▸ hmk2.lt D hD
    clear hb2 hq2 hI2 hmx2 hmk2 HI hs1 hq
    gi_upto_region 13 with (first
      | (refine wpListIn_value lets_wide rfl (by intro c hc; cases hc) (encS s) (exec_ldstate rfl rfl HS.out) ?_)
      | (refine wpListIn_value lets_wide rfl (by intro c hc; cases hc) (.agg (handA H fv cv)) (exec_ldhand rfl rfl HX.out) ?_)
      | (refine wpListIn_enter lets_wide rfl (by intro c hc; cases hc) (inv_br _ _ _ _ rfl rfl rfl _) ?_; refine HBR.out.mono ?_; rintro e W6 ⟨rfl, hb6, hsz6, hbr⟩; refine ⟨_, rfl, ?_⟩))
    rw [hs2] at hsz6 hbr
    have hFs := HF.out.2.2.1
    have hLs := HF.out.2.2.2.1
    have hSQ := br_seq (n - 1) (by omega) N (q + 1) (q + 1 + 1) (q + 1) (q + 1 + 2) ⟨by omega, by omega⟩ ⟨by omega, by omega⟩ H fv cv s hFs W6 hbr
    have h0 : NthI N H fv cv o cp mb g p w s i v xs W6 ∧ Boxed W6 mbx 4 (.bool false) ∧ MarksA W6 Ds ∧ Boxed W6 q 3 (.int .i64 0) := ⟨HI2.out.1.below hg.symm hb6, heap_below hb6 HI2.out.2.1 (heap_lt HI2.out.2.1), HI2.out.2.2.1.below hb6, heap_below hb6 HI2.out.2.2.2 (heap_lt HI2.out.2.2.2)⟩
    have hD6 : ∀ D ∈ Ds, D < W6.heap.size := fun D hD => by have := hDq D hD; omega
    have hgW : g ≤ W6.heap.size := by omega
    have hilt : i ≤ 1000000000000000 ∨ dep s = 0 := by rcases Nat.eq_zero_or_pos (dep s) with h | h; exact .inr h; exact .inl (by have h1 := HF.out.1 (by omega); have h2 := HF.out.2.1; omega)
    have H0 := hid h0
    clear HX HS HBR HI2 hb6 hbr h0 hDq
    apply rg_outA rfl (show 1 ≤ n by omega) (gf := brC s) (lb := brL s (q + 1) (q + 1 + 1)) rfl trivial (brC_enters s) hSQ (fun _ => rfl)
      (fun pre X => ∃ rest j, brs H s = pre ++ rest ∧ nthS (cntO H o) ((pre.map Prod.fst).sum) j rest = nthS (cntO H o) 0 i (brs H s) ∧ j ≤ i ∧ NthI N H fv cv o cp mb g p w s j v xs X ∧ Boxed X mbx 4 (.bool false) ∧ MarksA X Ds ∧ Boxed X q 3 (.int .i64 (((pre.map Prod.fst).sum : Nat) : Int)))
      (fun c _ X => c = .exit 3 ∧ ∃ ch j t v', nthS (cntO H o) 0 i (brs H s) = some (ch, j, t) ∧ cntO H o t ≤ 1000000000000000 ∧ NthI N H fv cv o cp mb g p w t j v' (xs ++ [((ch : Nat) : Int)]) X ∧ Boxed X mbx 4 (.bool true) ∧ MarksA X Ds)
      (fun pre => Abd.ex fun rest => Abd.ex fun j => (Abd.pure _ _).and ((Abd.pure _ _).and ((Abd.pure _ _).and ((NthI.abd _ (Nat.le_of_eq hg.symm) hgW).and ((Abd.boxed _ _ _ _).and ((MarksA.abd hD6).and (Abd.boxed _ _ _ _)))))))
      (fun c pre => (Abd.pure _ _).and (Abd.ex fun ch => Abd.ex fun j => Abd.ex fun t => Abd.ex fun v' => (Abd.pure _ _).and ((Abd.pure _ _).and ((NthI.abd _ (Nat.le_of_eq hg.symm) hgW).and ((Abd.boxed _ _ _ _).and (MarksA.abd hD6))))))
      (fun _ _ => Abd.pure _ _) ⟨brs H s, i, rfl, rfl, Nat.le_refl _, H0.out.1, H0.out.2.1, H0.out.2.2.1, H0.out.2.2.2⟩
    case hassign =>
      intro l pre x X K hi ho hK
      simp only [brEnc]
      gi_wp2_with fail
      first | rfl | exact hK _ rfl
    case hbody =>
      rintro l2 pre ⟨wd, t⟩ X hl hr ⟨rest, j, hrest, hnth, hj, hI, hmx, hmk, hqx⟩ ⟨rest', hrest'⟩
      obtain rfl : rest = (wd, t) :: rest' := List.append_cancel_left (hrest.symm.trans hrest')
      have hxm : (wd, t) ∈ brs H s := by rw [hrest]; simp
      have hst : Fit H t ∧ dep t + 1 = dep s := step_fit H s hFs (wd, t) hxm
      have hlx : Last H t := hLs.step (w := wd) hxm
      have hx1 : wd ≤ 20000 := brs_one H s hFs (wd, t) hxm
      have hpart : cntO H o t * wd ≤ cntO H o s := cntO_part H o s hFs (wd, t) hxm
      have hcs := HF.out.2.1
      have hsp := sat_prod _ _ _ hpart hcs
      have hjl : j ≤ 1000000000000000 := by rcases hilt with h | h <;> omega
      have hcsum : (pre.map Prod.fst).sum + wd ≤ 20000 := by have := brs_small H s hFs; unfold chN at this; rw [hrest] at this; simp at this; omega
      rw [nthS_cons] at hnth
      simp only at hnth
      have hCN := count_c N H fv cv o cp mb hNmb _ t rfl hst.1 hlx X hI.hand hI.ct hI.kn
      have hfl : cntO H o t * wd ≤ 1000000000000000 := by omega
      have hfs' : ∀ _ : 1 ≤ wd, satN (cntO H o t) = cntO H o t := fun h => satN_id _ (Nat.le_trans (Nat.le_mul_of_pos_right _ h) hfl)
      obtain ⟨f, hf⟩ : ∃ f, cntO H o t = f := ⟨_, rfl⟩
      rw [hf] at hnth hpart hsp hCN hfl hfs'
      obtain ⟨fs, hfs⟩ : ∃ fs, satN f = fs := ⟨_, rfl⟩
      rw [hfs] at hsp hCN hfs'
      obtain ⟨fw, hfw⟩ : ∃ fw, f * wd = fw := ⟨_, rfl⟩
      obtain ⟨c, hc⟩ : ∃ c, (pre.map Prod.fst).sum = c := ⟨_, rfl⟩
      rw [hfw] at hsp hnth hfl hpart
      rw [hc] at hnth hcsum hqx
      have hmul : IntKind.i64.wrap (((fs : Nat) : Int) * ((wd : Nat) : Int)) = ((fw : Nat) : Int) := by rw [← Int.natCast_mul, hsp]; exact IntWalk.i64_in _ (by omega)
      have c1 := hI.pb.cell
      have HI := hid (show NthI N H fv cv o cp mb g p w s j v xs X ∧ Boxed X mbx 4 (.bool false) ∧ MarksA X Ds ∧ Boxed X q 3 (.int .i64 ((c : Nat) : Int)) from ⟨hI, hmx, hmk, hqx⟩)
      have HCN := hid hCN
      have HNT := hid hnth
      have HRE := hid hrest
      have HXM := hid hxm
      have HC := hid hc
      have HJI := hid hj
      have HMK0 := hid hmk
      have hq3 : mbx ≠ q := by omega
      clear hI hmx hmk hqx hCN hnth hrest' hrest hxm hsp hlx hfs hj hpart hcs hc
      dsimp only
      gi_upto_region 16 with (gi_at_call 50; refine (CallsIn.inRound l2 (callsIn_wide.2 HCN.out)).mono ?_; rintro e X1 ⟨rfl, hG, hk1⟩)
      have hI1 := HI.out.1.grown hNmb ⟨hgmb, hmbp⟩ hG hk1
      obtain ⟨oM, hKm, hKb⟩ : ∃ oM, X.heap[mb]? = some oM ∧ isBook oM = false := by obtain ⟨M, hM, _⟩ := HI.out.1.kn; exact ⟨_, hM, rfl⟩
      have hmx1 := grown_block hG HI.out.2.1 (by omega)
      have hqx1 : Boxed X1 q 3 _ := grown_block hG HI.out.2.2.2 (by omega)
      have hL1 := KeepsL.grown hG hKm hKb
      have hS1 := KeptS.grown (S := SBr N (q + 1) (q + 1 + 2)) hG hKm hKb (by unfold SBr; omega)
      have hmk1 := HI.out.2.2.1.kept hS1
      clear hG hk1 hKm hKb HCN HI c1
      have c2 := hI1.nb.cell
      rcases Nat.lt_or_ge j fw with hlt | hge
      · have hz : decide (((j : Nat) : Int) < ((fw : Nat) : Int)) = true := decide_eq_true (by omega)
        have hwd1 : 1 ≤ wd := by rcases Nat.eq_zero_or_pos wd with h | h; · subst h; simp at hfw; omega
                                 · exact h
        have hf1 : 0 < f := by rcases Nat.eq_zero_or_pos f with h | h; · subst h; simp at hfw; omega
                               · exact h
        obtain rfl : fs = f := hfs' hwd1
        have HNT2 := hid (show some (c + j / fs, j % fs, t) = nthS (cntO H o) 0 i (brs H s) by rw [← HNT.out, if_pos hlt])
        have HFF := hid (show cntO H o t ≤ 1000000000000000 by rw [hf]; exact Nat.le_trans (Nat.le_mul_of_pos_right _ hwd1) (hfw ▸ hfl))
        have hS0 : (fun Y => Boxed Y (p + 2) 24 v ∧ Boxed Y q 3 (.int .i64 ((c : Nat) : Int)) ∧ Boxed Y (g + 1) 3 (.int .i64 ((j : Nat) : Int))) X1.drew := ⟨hI1.vb, hqx1, hI1.nb⟩
        gi_upto_region 17 with fail
        refine regD_in (lets_round l2) (fun Y => Boxed Y (p + 2) 24 v ∧ Boxed Y q 3 (.int .i64 ((c : Nat) : Int)) ∧ Boxed Y (g + 1) 3 (.int .i64 ((j : Nat) : Int))) (fun j => decide (j < 8)) (by kernel_rfl) (by kernel_rfl) ?_
        refine takeE (i := 0) (v) (d := some 56) rfl (by kernel_rfl) (by kernel_rfl) (by kernel_rfl) (by kernel_rfl) (fun _ _ _ h => h) rfl (fun Y hY => by exact exec_ldsl rfl rfl hY.1) hS0 rfl ?_
        simp only [Act.put, List.setIfInBounds_toArray, List.set_cons_zero, List.set_cons_succ]
        refine takeE (i := 1) (.int .i64 ((c : Nat) : Int)) (d := some 57) rfl (by kernel_rfl) (by kernel_rfl) (by kernel_rfl) (by kernel_rfl) (fun _ _ _ h => h) rfl (fun Y hY => by exact exec_ldint rfl rfl hY.2.1) hS0 rfl ?_
        simp only [Act.put, List.setIfInBounds_toArray, List.set_cons_zero, List.set_cons_succ]
        refine takeE (i := 2) (.int .i64 ((j : Nat) : Int)) (d := some 58) rfl (by kernel_rfl) (by kernel_rfl) (by kernel_rfl) (by kernel_rfl) (fun _ _ _ h => h) rfl (fun Y hY => by exact exec_ldint rfl rfl hY.2.2) hS0 rfl ?_
        simp only [Act.put, List.setIfInBounds_toArray, List.set_cons_zero, List.set_cons_succ]
        refine takeE (i := 3) (.int .i64 ((fs : Nat) : Int)) (d := some 59) rfl (by kernel_rfl) (by kernel_rfl) (by kernel_rfl) (by kernel_rfl) (fun _ _ _ h => h) rfl (fun Y hY => by exact rfl) hS0 rfl ?_
        simp only [Act.put, List.setIfInBounds_toArray, List.set_cons_zero, List.set_cons_succ]
        refine takeE (i := 4) (.int .i64 ((j / fs : Nat) : Int)) (d := some 60) rfl (by kernel_rfl) (by kernel_rfl) (by kernel_rfl) (by kernel_rfl) (fun _ _ _ h => h) rfl (fun Y hY => by exact exec_quoN rfl rfl rfl (by omega) hf1) hS0 rfl ?_
        simp only [Act.put, List.setIfInBounds_toArray, List.set_cons_zero, List.set_cons_succ]
        have hdj : j / fs ≤ j := Nat.div_le_self _ _
        obtain ⟨dj, hdj'⟩ : ∃ dj, j / fs = dj := ⟨_, rfl⟩
        rw [hdj'] at hdj HNT2 ⊢
        refine takeE (i := 5) (.int .i64 ((c + dj : Nat) : Int)) (d := some 61) rfl (by kernel_rfl) (by kernel_rfl) (by kernel_rfl) (by kernel_rfl) (fun _ _ _ h => h) rfl (fun Y hY => by exact exec_addN rfl rfl rfl (by omega)) hS0 rfl ?_
        simp only [Act.put, List.setIfInBounds_toArray, List.set_cons_zero, List.set_cons_succ]
        obtain ⟨cd, hcd⟩ : ∃ cd, c + dj = cd := ⟨_, rfl⟩
        rw [hcd] at HNT2 ⊢
        refine stepD 6 (by kernel_rfl) rfl rfl (fun K hK => ?_)
        go_simp
        have hbA : Below X1.heap.size X1 (X1.alloc (.cells #[.int .i64 ((cd : Nat) : Int)] 3)).drew := ((Below.refl _ _).alloc (Nat.le_refl _) _).trans ⟨rfl, rfl, rfl, Nat.le_refl _, fun _ _ => rfl⟩
        have hcA : (X1.alloc (.cells #[.int .i64 ((cd : Nat) : Int)] 3)).drew.cell? ⟨X1.heap.size, 0, none⟩ = some (.int .i64 ((cd : Nat) : Int)) := Boxed.cell (show Boxed (X1.alloc (.cells #[.int .i64 ((cd : Nat) : Int)] 3)) X1.heap.size 3 (.int .i64 ((cd : Nat) : Int)) from World.alloc_heap_new X1 _)
        have hsA : p + 3 ≤ (X1.alloc (.cells #[.int .i64 ((cd : Nat) : Int)] 3)).drew.heap.size := by have h1 := heap_lt hI1.vb; have h2 := hbA.size; have h3 := heap_lt hmx1; omega
        have hIA := hI1.below hg.symm hbA
        have hmxA := heap_below hbA hmx1 (heap_lt hmx1)
        have hmkA := hmk1.below hbA
        have hLA := hL1.trans (KeepsL.below hbA)
        have hSA := (hS1.trans (KeptS.below hbA)).mono (S' := fun _ => False) (fun _ h => h.elim)
        have hS0' : (fun Y => Boxed Y (p + 2) 24 v ∧ Boxed Y q 3 (.int .i64 ((c : Nat) : Int)) ∧ Boxed Y (g + 1) 3 (.int .i64 ((j : Nat) : Int))) (X1.alloc (.cells #[.int .i64 ((cd : Nat) : Int)] 3)).drew := ⟨hIA.vb, heap_below hbA hqx1 (heap_lt hqx1), hIA.nb⟩
        obtain ⟨b0, hb0⟩ : ∃ b0, X1.heap.size = b0 := ⟨_, rfl⟩
        rw [hb0] at hcA ⊢
        obtain ⟨A1, hA1⟩ : ∃ A1, (X1.alloc (.cells #[.int .i64 ((cd : Nat) : Int)] 3)).drew = A1 := ⟨_, rfl⟩
        rw [hA1] at hcA hsA hIA hmxA hmkA hLA hSA hS0' ⊢
        clear hA1 hbA hb0
        refine hK _ _ (fun _ => hS0') ?_
        clear hK K hS0
        have hdl := dep_le hF0
        have hxl := HF.out.2.2.2.2.2
        refine stepD 7 (by kernel_rfl) rfl rfl (fun K hK => ?_)
        refine wpO_append_int (.tmp 56) (.tmp 62) rfl (p + 3) v xs rfl hIA.own ((cd : Nat) : Int) b0 1 rfl hcA (by omega) hsA (fun v2 V2 hv2 hG2 => ?_)
        have hIB := hIA.app hNg' hgpp hcpp hG2 hv2
        have hvb2 : Boxed V2 (p + 2) 24 v := own_block hIA.own hG2 hIA.vb (.inl (by omega))
        have hqB : Boxed V2 q 3 (.int .i64 ((c : Nat) : Int)) := (hG2.block q (heap_lt hS0'.2.1) (fun e => by have := HOW.out q e.symm; omega)).trans hS0'.2.1
        have hnB : Boxed V2 (g + 1) 3 (.int .i64 ((j : Nat) : Int)) := own_block hIA.own hG2 hIA.nb (.inl (by omega))
        have hmxB : V2.heap[mbx]? = some _ := own_block hIA.own hG2 hmxA (.inr fun cs e => by cases e)
        have hLB := (hLA.trans (KeepsL.own hIA.own hG2)).setCell (i := 0) v2 hvb2
        have hSB := (hSA.trans (KeptS.own hIA.own hG2 (fun _ h => h.elim))).setCell (b := p + 2) (i := 0) v2 (fun h => h)
        simp only [Act.put, List.setIfInBounds_toArray, List.set_cons_zero, List.set_cons_succ]
        refine hK _ _ (fun _ => ⟨hvb2, hqB, hnB⟩) ?_
        clear hK K
        have c4 := hvb2.cell
        have f4 := hvb2.frozen
        obtain ⟨pp, nn, cc, rfl⟩ : ∃ pp nn cc, v2 = .slice pp nn cc := by rcases hv2.2 with ⟨h, _⟩ | ⟨g', cap, cur, h, _⟩ <;> exact ⟨_, _, _, h⟩
        refine stepD 8 (by kernel_rfl) rfl rfl (fun K hK => ?_)
        go_simp
        refine hK _ _ (fun h => by cases h) ?_
        clear hK K
        refine doneD (by kernel_rfl) ?_ _
        refine OnlyNorm.normal ?_
        have hmxC : Boxed (V2.setCell ⟨p + 2, 0, none⟩ (.slice pp nn cc)) mbx 4 (.bool false) := (heap_setCell_other V2 ⟨p + 2, 0, none⟩ mbx _ (show mbx ≠ p + 2 by omega)).trans hmxB
        clear hvb2 hqB hnB hmxB c4 f4 hG2 hv2 hS0' hLA hSA hmkA hmxA hIA hsA hcA hI1 hqx1 hmx1 hL1 hS1 hmk1
        obtain ⟨V3, hV3⟩ : ∃ V3, V2.setCell ⟨p + 2, 0, none⟩ (.slice pp nn cc) = V3 := ⟨_, rfl⟩
        rw [hV3] at hIB hLB hSB hmxC ⊢
        clear hV3 c2
        obtain ⟨r, hr'⟩ : ∃ r, j % fs = r := ⟨_, rfl⟩
        rw [hr'] at HNT2
        have hrl : r < fs := hr' ▸ Nat.mod_lt _ hf1
        have hfl1 : fs ≤ 1000000000000000 := hf ▸ HFF.out
        have hri : ((j : Nat) : Int) % ((fs : Nat) : Int) = ((r : Nat) : Int) := by rw [← hr']; simp
        have hrw : IntKind.i64.wrap ((r : Nat) : Int) = ((r : Nat) : Int) := IntWalk.i64_in _ (by omega)
        have hfs0 : ¬ fs = 0 := by omega
        have c5 := hIB.nb.cell
        have f5 := hIB.nb.frozen
        have hID := hIB.setN hNg' hgpp hgcp2 r
        have hst2 := storeS1 (P := Try.prog) (show Boxed _ (p + 1) 71 (encS s) from hID.sb) t
        have hIE := hID.setS hNg' hgpp hcpp t
        have hmxE : Boxed ((V3.setCell ⟨g + 1, 0, none⟩ (.int .i64 ((r : Nat) : Int))).setCell ⟨p + 1, 0, none⟩ (encS t)) mbx 4 (.bool false) := (heap_setCell_other _ ⟨p + 1, 0, none⟩ mbx _ (show mbx ≠ p + 1 by omega)).trans ((heap_setCell_other V3 ⟨g + 1, 0, none⟩ mbx _ (show mbx ≠ g + 1 by omega)).trans hmxC)
        have c6 := hmxE.cell
        have f6 := hmxE.frozen
        have hIF := hIE.setX (k := mbx) hNg' hgpp hcpp hmxE hmx3 (fun j hj e => by subst e; obtain ⟨_, cs, hc⟩ := hIE.own.own j hj; have hc2 := hmxE; unfold Boxed at hc2; rw [hc2] at hc; cases hc) (.bool true)
        have hLF := ((hLB.setCell (i := 0) (.int .i64 ((r : Nat) : Int)) hIB.nb).setCell (i := 0) (encS t) hID.sb).setCell (i := 0) (.bool true) hmxE
        have hSF := ((hSB.setCell (b := g + 1) (i := 0) (.int .i64 ((r : Nat) : Int)) (fun h => h)).setCell (b := p + 1) (i := 0) (encS t) (fun h => h)).setCell (b := mbx) (i := 0) (.bool true) (fun h => h)
        have HIF := hid hIF
        have HLF := hid hLF
        have HSF := hid hSF
        have HMX := hid (hmxE.set (.bool true))
        clear hIB hLB hSB hID hIE hmxE hIF hLF hSF hmxC
        gi_wp2_with fail
        exact ⟨HLF.out.r l2, rfl, cd, r, t, .slice pp nn cc, HNT2.out.symm, HFF.out, HIF.out, HMX.out, HMK0.out.kept HSF.out⟩
      · have hz : decide (((j : Nat) : Int) < ((fw : Nat) : Int)) = false := decide_eq_false (by omega)
        have hjw : IntKind.i64.wrap (((j : Nat) : Int) - ((fw : Nat) : Int)) = ((j - fw : Nat) : Int) := (IntWalk.i64_in _ (by omega)).trans (by omega)
        have hcw : IntKind.i64.wrap (((c : Nat) : Int) + ((wd : Nat) : Int)) = ((c + wd : Nat) : Int) := (IntWalk.i64_in _ (by omega)).trans (by omega)
        have f2 := hI1.nb.frozen
        have hID := hI1.setN hNg' hgpp hgcp2 (j - fw)
        have hqD : Boxed (X1.setCell ⟨g + 1, 0, none⟩ (.int .i64 ((j - fw : Nat) : Int))) q 3 (.int .i64 ((c : Nat) : Int)) := (heap_setCell_other X1 ⟨g + 1, 0, none⟩ q _ (show q ≠ g + 1 by omega)).trans hqx1
        have c7 := hqD.cell
        have f7 := hqD.frozen
        have hmxD : Boxed (X1.setCell ⟨g + 1, 0, none⟩ (.int .i64 ((j - fw : Nat) : Int))) mbx 4 (.bool false) := (heap_setCell_other X1 ⟨g + 1, 0, none⟩ mbx _ (show mbx ≠ g + 1 by omega)).trans hmx1
        have hIE := hID.setX (k := q) hNg' hgpp hcpp hqD (by omega) (fun j hj e => by have := HOW.out j hj; omega) (.int .i64 ((c + wd : Nat) : Int))
        have hLE := (hL1.setCell (i := 0) (.int .i64 ((j - fw : Nat) : Int)) hI1.nb).setCell (i := 0) (.int .i64 ((c + wd : Nat) : Int)) hqD
        have hSE := (hS1.setCell (b := g + 1) (i := 0) (.int .i64 ((j - fw : Nat) : Int)) (by unfold SBr; omega)).setCell (b := q) (i := 0) (.int .i64 ((c + wd : Nat) : Int)) (by unfold SBr; omega)
        have hmxE2 : Boxed ((X1.setCell ⟨g + 1, 0, none⟩ (.int .i64 ((j - fw : Nat) : Int))).setCell ⟨q, 0, none⟩ (.int .i64 ((c + wd : Nat) : Int))) mbx 4 (.bool false) := (heap_setCell_other _ ⟨q, 0, none⟩ mbx _ (show mbx ≠ q by omega)).trans hmxD
        have HFIN := hid (show _ ∧ _ ∧ _ ∧ _ ∧ _ from ⟨hIE, hLE, hSE, hmxE2, hqD.set (.int .i64 ((c + wd : Nat) : Int))⟩)
        have HMK := hid hmk1
        clear hI1 hID hqD hmxD hmxE2 hIE hLE hSE hmx1 hqx1 hL1 hS1 hmk1
        gi_wp2_with fail
        have hsum : ((pre ++ [(wd, t)]).map Prod.fst).sum = c + wd := by rw [List.map_append, List.sum_append, HC.out]; simp
        obtain ⟨k1, k2, k3, k4, k5⟩ := HFIN.out
        refine ⟨k2, k3, rest', j - fw, by rw [HRE.out]; simp, ?_, by have := HJI.out; omega, k1, k4, HMK0.out.kept k3, by rw [hsum]; exact k5⟩
        rw [hsum, ← HNT.out, if_neg (by omega)]
    case hdone =>
      rintro D pre X hD rfl ⟨rest, j, hrest, hnth, hj, hI, hmx, hmk, hqx⟩ hmkD
      obtain rfl : rest = [] := by simpa using hrest.symm
      have hd0 : dep s = 0 := Classical.byContradiction fun hd => by
        obtain ⟨c, j', t, h1, _⟩ := nthN_step H o s hFs i (HF.out.1 hd) hd
        rw [h1] at hnth
        simp [nthS] at hnth
      have HFO := HF.out
      have HI := hid (show NthI N H fv cv o cp mb g p w s j v xs X ∧ Boxed X mbx 4 (.bool false) ∧ MarksA X (D :: Ds) from ⟨hI, hmx, fun E hE => (List.mem_cons.1 hE).elim (fun e => e ▸ hmkD) (hmk E)⟩)
      have HDD := hid (show (D :: Ds).Nodup ∧ ∀ E ∈ D :: Ds, g ≤ E from ⟨List.nodup_cons.2 ⟨fun h => by have := hD6 D h; omega, HND.out.1⟩, fun E hE => (List.mem_cons.1 hE).elim (fun e => by omega) (HND.out.2 E)⟩)
      have c1 := hmx.cell
      clear hnth hI hmx hmk hqx hmkD H0 hrest
      simp only [Act.put, List.setIfInBounds_toArray, List.set_cons_zero, List.set_cons_succ]
      gi_wp2_with fail
      have hbX : Below X.heap.size X (X.alloc (.cells #[.bool false] 4)) := (Below.refl _ _).alloc (Nat.le_refl _) _
      have hpX : p + 3 ≤ X.heap.size := by have := heap_lt HI.out.2.1; omega
      exact HK.out 0 _ _ (by omega) ⟨s, j, xs, v, false, X.heap.size, D :: Ds, _, _, _, _, _, _, _, _, _, _, _, _, _, _, _, _, _, _, _, _, _, _, _, _, _, _, _, _, _, _, _, _, _, _, _, _, _, _, _, _, HI.out.1.below hg.symm hbX, (fun h => absurd hd0 h), HFO.2.1, HFO.2.2.1, HFO.2.2.2.1, by rw [HFO.2.2.2.2.1, hd0, nthN, nthN], (fun _ => hd0), HFO.2.2.2.2.2, hpX, World.alloc_heap_new X _, by rw [hd0]; rfl, HDD.out.1, HDD.out.2, HI.out.2.2.below hbX, rfl, rfl⟩
    case hstop =>
      rintro D c pre X hD ⟨rfl, ch, j, t, v', hnth, hct, hI, hmx, hmk⟩ hmkD
      have hdn : dep s ≠ 0 := fun h => by rw [dep_zero hFs h] at hnth; simp [nthS] at hnth
      obtain ⟨c', j', t', h1, hjt, ⟨wd, hwd⟩, hnn⟩ := nthN_step H o s hFs i (HF.out.1 hdn) hdn
      rw [hnth] at h1
      cases h1
      have hst := step_fit H s hFs _ hwd
      have hlt := hLs.step hwd
      have HFO := HF.out
      have HI := hid (show NthI N H fv cv o cp mb g p w t j v' (xs ++ [((ch : Nat) : Int)]) X ∧ Boxed X mbx 4 (.bool true) ∧ MarksA X (D :: Ds) from ⟨hI, hmx, fun E hE => (List.mem_cons.1 hE).elim (fun e => e ▸ hmkD) (hmk E)⟩)
      have HDD := hid (show (D :: Ds).Nodup ∧ ∀ E ∈ D :: Ds, g ≤ E from ⟨List.nodup_cons.2 ⟨fun h => by have := hD6 D h; omega, HND.out.1⟩, fun E hE => (List.mem_cons.1 hE).elim (fun e => by omega) (HND.out.2 E)⟩)
      have c1 := hmx.cell
      clear hnth hI hmx hmk hmkD H0
      gi_wp2_with fail
      have hbX : Below X.heap.size X (X.alloc (.cells #[.bool true] 4)) := (Below.refl _ _).alloc (Nat.le_refl _) _
      have hpX : p + 3 ≤ X.heap.size := by have := heap_lt HI.out.2.1; omega
      exact HK.out (dep t + 1) _ _ (by omega) ⟨t, j, xs ++ [((ch : Nat) : Int)], v', true, X.heap.size, D :: Ds, _, _, _, _, _, _, _, _, _, _, _, _, _, _, _, _, _, _, _, _, _, _, _, _, _, _, _, _, _, _, _, _, _, _, _, _, _, _, _, _, HI.out.1.below hg.symm hbX, (fun _ => hjt), hct, hst.1, hlt, by rw [HFO.2.2.2.2.1, hnn]; simp, (fun h => by cases h), by have := HFO.2.2.2.2.2; simp only [List.length_append, List.length_cons, List.length_nil]; omega, hpX, World.alloc_heap_new X _, rfl, HDD.out.1, HDD.out.2, HI.out.2.2.below hbX, rfl, rfl⟩
end Go.Proofs.Ytmjnelkeiogdcaa
/- Walks of package hand: Nth refused. -/
namespace Go.Proofs.Ytmjnelkeiogdcaa
open Go Go.RowKit Go.Shelf
set_option maxRecDepth 100000
theorem crsR_two (H : HV) (o : Int) : (crsR H o).2 = 0 ∨ (crsR H o).2 = 3 ∨ (crsR H o).2 = 8 := by
  unfold crsR
  split
  · split
    · exact .inl rfl
    · exact .inr (.inr rfl)
  · exact .inr (.inl rfl)
/-- Nth where Courses refuses. -/
theorem Nth_err (H : HV) (hV : Val H) (fv cv : Value) (o num : Int) (ho : -9000000000000000000 ≤ o ∧ o ≤ 9223372036854775807) (he : (crsR H o).2 ≠ 0) (N : Nat) (w : World) (hR : RawAt w N (rawOf H) fv cv) :
    CallsIn Fence.wide 24 Try.prog 21 #[.agg (handA H fv cv), .int .i64 o, .int .i64 num] w fun e w' => e = .returned (.tuple #[.slice none 0 0, .int .i64 (crsR H o).2]) ∧ Below w.heap.size w w' := by
  have hx := alloc2_first w (.cells (handA H fv cv) 26) (.cells #[.int .i64 num] 3)
  have hb := below2 w (.cells (handA H fv cv) 26) (.cells #[.int .i64 num] 3)
  have HX := hid hx
  have HB := hid hb
  have hR1 := hR.below (hb.mono hR.le)
  have HCS := hid (Courses_yes H hV fv cv o ho N _ hR1)
  have h2 := crsR_two H o
  obtain ⟨c1, hc1⟩ : ∃ c1, (crsR H o).1 = c1 := ⟨_, rfl⟩
  obtain ⟨c2, hc2⟩ : ∃ c2, (crsR H o).2 = c2 := ⟨_, rfl⟩
  rw [hc1, hc2] at HCS
  rw [hc2] at he h2 ⊢
  clear hx hb hR1 hR hV hc1 hc2
  refine callsIn_of_wp_marks Try.func21 rfl trivial ?_ rfl
  simp only [Try.ntmps21, List.size_toArray, List.length_cons, List.length_nil, Nat.reduceAdd, Nat.reduceSub, Array.replicate_succ, Array.replicate_zero, List.push_toArray, List.append_toArray, List.nil_append, List.cons_append]
  rcases h2 with rfl | rfl | rfl
  · exact absurd rfl he
  all_goals
    gi_wp2_with (first
      | (refine wpListIn_value lets_wide rfl (by intro c hc; cases hc) (.agg (handA H fv cv)) (exec_ldhand rfl rfl HX.out) ?_)
      | (gi_at_call 20; refine (callsIn_wide.2 HCS.out).mono ?_; rintro e w2 ⟨rfl, hb2⟩))
    exact ⟨_, results_t2 rfl, rfl, HB.out.trans (hb2.mono HB.out.size)⟩
/-- Nth where there is no such number. -/
theorem Nth_none (H : HV) (hV : Val H) (fv cv : Value) (o num : Int) (hor : 0 ≤ o ∧ o < ((outsN H : Nat) : Int)) (hall : cntO H (-1) (beginS H) ≤ 1000000000000000) (hnum : ¬ (0 ≤ num ∧ num < ((cntO H o (beginS H) : Nat) : Int))) (N : Nat) (w : World) (hR : RawAt w N (rawOf H) fv cv) :
    CallsIn Fence.wide 24 Try.prog 21 #[.agg (handA H fv cv), .int .i64 o, .int .i64 num] w fun e w' => e = .returned (.tuple #[.slice none 0 0, .int .i64 7]) ∧ Below w.heap.size w w' := by
  have hx := alloc2_first w (.cells (handA H fv cv) 26) (.cells #[.int .i64 num] 3)
  have hy := alloc2_second w (.cells (handA H fv cv) 26) (.cells #[.int .i64 num] 3)
  have hb := below2 w (.cells (handA H fv cv) 26) (.cells #[.int .i64 num] 3)
  have HX := hid hx
  have HY := hid hy
  have HB := hid hb
  have hR1 := hR.below (hb.mono hR.le)
  have hol := outs_le H hV.hand.ok
  have hcr : crsR H o = (((cntO H o (beginS H) : Nat) : Int), 0) := by unfold crsR; rw [if_pos hor, if_pos hall]
  have HCS := hid (hcr ▸ Courses_yes H hV fv cv o (by omega) N _ hR1)
  have hcl := cntO_le H o (beginS H)
  obtain ⟨cn, hcn⟩ : ∃ cn, cntO H o (beginS H) = cn := ⟨_, rfl⟩
  rw [hcn] at hcl HCS hnum
  have hw : (decide ((0 : Int) ≤ num) && decide (num ≤ ((cn : Nat) : Int) - 1)) = false := by simp; omega
  have hm1 : IntKind.i64.wrap (((cn : Nat) : Int) - 1) = ((cn : Nat) : Int) - 1 := IntWalk.i64_in _ (by omega)
  clear hx hy hb hR1 hR hV hcn hcr hall hcl hor hnum hol
  refine callsIn_of_wp_marks Try.func21 rfl trivial ?_ rfl
  simp only [Try.ntmps21, List.size_toArray, List.length_cons, List.length_nil, Nat.reduceAdd, Nat.reduceSub, Array.replicate_succ, Array.replicate_zero, List.push_toArray, List.append_toArray, List.nil_append, List.cons_append]
  gi_wp2_with (first
    | (refine wpListIn_value lets_wide rfl (by intro c hc; cases hc) (.agg (handA H fv cv)) (exec_ldhand rfl rfl HX.out) ?_)
    | (gi_at_call 20; refine (callsIn_wide.2 HCS.out).mono ?_; rintro e w2 ⟨rfl, hb2⟩; have cy := Boxed.cell (heap_below hb2 HY.out (heap_lt HY.out)))
    | (gi_at_call 48; refine (callsIn_wide.2 (within_c _ _ _ _)).mono ?_; rintro e w4 ⟨rfl, rfl⟩; rw [hw]))
  exact ⟨_, results_t2 rfl, rfl, HB.out.trans (hb2.mono HB.out.size)⟩
theorem Nth_no (R : RH) (h0 : okR R = false) (fv cv : Value) (o num : Int) (N : Nat) (w : World) (hR : RawAt w N R fv cv) (hf : R.faces.length ≤ 1000) (hc : R.cards.length ≤ 1000) :
    CallsIn Fence.wide 24 Try.prog 21 #[.agg (handR R fv cv), .int .i64 o, .int .i64 num] w fun e w' => e = .returned (.tuple #[.slice none 0 0, .int .i64 2]) ∧ Below w.heap.size w w' := by
  have hb := below2 w (.cells (handR R fv cv) 26) (.cells #[.int .i64 num] 3)
  have hR1 := hR.below (hb.mono hR.le)
  have HB := hid hb
  have HC := hid (Courses_no R h0 fv cv o N _ hR1 hf hc)
  simp only [handR, handV] at HB HC ⊢
  clear hb hR1 hR hf hc h0
  refine callsIn_of_wp_marks Try.func21 rfl trivial ?_ rfl
  simp only [Try.ntmps21, List.size_toArray, List.length_cons, List.length_nil, Nat.reduceAdd, Nat.reduceSub, Array.replicate_succ, Array.replicate_zero, List.push_toArray, List.append_toArray, List.nil_append, List.cons_append]
  gi_wp2_with (gi_at_call 20; refine (callsIn_wide.2 HC.out).mono ?_; rintro e w2 ⟨rfl, hb2⟩)
  exact ⟨_, results_t2 rfl, rfl, HB.out.trans (hb2.mono HB.out.size)⟩
end Go.Proofs.Ytmjnelkeiogdcaa
