/- Lemmas for WitnessDraws: part 17. -/
import Derived.Deep.CutRange
import Derived.Test.YtbcileppebpamaaGreatDoorKb16
set_option linter.unusedSimpArgs false
set_option linter.unusedVariables false
namespace Go.Proofs.YtbcileppebpamaaGreatDoor
open Go Go.RowKit Go.Shelf
set_option maxRecDepth 100000
/-- What Add answers. -/
def addE (b n : Nat) (ls : List RL) (x : RL) : Int :=
  if (!(x.k == 3) && !(decide (1 ≤ x.p) && decide (x.p ≤ ((n : Nat) : Int)))) = true then 7
  else if ((x.k == 1) && !isHashL x.h.data.toList) = true then 4
  else if ((x.k == 2) && !(decide (0 ≤ x.v) && decide (x.v ≤ ((b : Nat) : Int) - 1))) = true then 3
  else if ((x.k == 2) && !isSaltL x.s.data.toList) = true then 4
  else if (!(x.k == 1) && (decide (cntL 1 ls n < n) || overL n ls)) = true then 9
  else if (!(x.k == 3) && decide (0 < atL x.k x.p ls)) = true then 6 else 0
def addL (b n : Nat) (ls : List RL) (x : RL) : List RL := if addE b n ls x = 0 then ls ++ [x] else ls
theorem results_drw {fn : Func} {r q : Tmp} (h : fn.results = #[.cell r 49, .tmp q]) {tmps : Array Value} {W : World} {g : Nat} {a b v e : Value} (hr : tmps.getD r undef = .pointer (some ⟨g, 0, none⟩)) (hq : tmps.getD q undef = e) (hg : W.heap[g]? = some (.cells #[a, b, v] 49 (0, 0))) : (results fn tmps).run Tryz.prog W = .ok (.tuple #[.agg #[a, b, v], e]) W := by
  have hl := run_loadVar_row (P := Tryz.prog) W g 49 49 _ (0, 0) _ hg Tryz.underlying49 rfl (show (Tryz.prog.info? 49).map (·.size) = some 3 by kernel_rfl)
  have hr' : tmps[r]?.getD undef = .pointer (some ⟨g, 0, none⟩) := by simpa using hr
  have hq' : tmps[q]?.getD undef = e := by simpa using hq
  simp [results, h, hr', hq', asAddr, hl]
/-- The three boxes of Add. -/
structure AddB (V : World) (g b n : Nat) (v : Value) (k : Int) (h : ByteArray) (p x : Int) (s : ByteArray) : Prop where
  d : V.heap[g]? = some (.cells #[.int .i64 ((b : Nat) : Int), .int .i64 ((n : Nat) : Int), v] 49 (0, 0))
  x : V.heap[g + 1]? = some (.cells #[.int .i64 k, .string h, .int .i64 p, .int .i64 x, .string s] 56 (0, 0))
  r : V.heap[g + 2]? = some (.cells #[.int .i64 0, .int .i64 0, .slice none 0 0] 49 (0, 0))
theorem AddB.below {V V' : World} {g b n : Nat} {v : Value} {k : Int} {h : ByteArray} {p x : Int} {s : ByteArray} (a : AddB V g b n v k h p x s) (hb : Below (g + 3) V V') : AddB V' g b n v k h p x s :=
  ⟨heap_below hb a.d (by omega), heap_below hb a.x (by omega), heap_below hb a.r (by omega)⟩
theorem AddB.cells {V : World} {g b n : Nat} {v : Value} {k : Int} {h : ByteArray} {p x : Int} {s : ByteArray} (a : AddB V g b n v k h p x s) :
    V.cell? ⟨g, 0, none⟩ = some (.int .i64 ((b : Nat) : Int)) ∧ V.cell? ⟨g, 1, none⟩ = some (.int .i64 ((n : Nat) : Int)) ∧ V.cell? ⟨g, 2, none⟩ = some v ∧ V.cell? ⟨g + 1, 0, none⟩ = some (.int .i64 k) ∧ V.cell? ⟨g + 1, 1, none⟩ = some (.string h) ∧ V.cell? ⟨g + 1, 2, none⟩ = some (.int .i64 p) ∧ V.cell? ⟨g + 1, 3, none⟩ = some (.int .i64 x) ∧ V.cell? ⟨g + 1, 4, none⟩ = some (.string s) :=
  ⟨cell_of_row _ _ 0 _ _ _ a.d, cell_of_row _ _ 1 _ _ _ a.d, cell_of_row _ _ 2 _ _ _ a.d, cell_of_row _ _ 0 _ _ _ a.x, cell_of_row _ _ 1 _ _ _ a.x, cell_of_row _ _ 2 _ _ _ a.x, cell_of_row _ _ 3 _ _ _ a.x, cell_of_row _ _ 4 _ _ _ a.x⟩
theorem flat_getL {α : Type} (f : α → List Value) (sz : Nat) (hf : ∀ x, (f x).length = sz) : ∀ (xs : List α) (i : Nat) (x : α) (k : Nat), xs[i]? = some x → k < sz → (xs.flatMap f)[i * sz + k]? = (f x)[k]?
  | y :: xs, 0, x, k, h, hk => by
    simp at h
    subst h
    rw [List.flatMap_cons, Nat.zero_mul, Nat.zero_add, List.getElem?_append_left (by rw [hf]; exact hk)]
  | y :: xs, i + 1, x, k, h, hk => by
    rw [List.flatMap_cons, List.getElem?_append_right (by rw [hf, Nat.add_mul]; omega), hf, Nat.add_mul, show i * sz + 1 * sz + k - sz = i * sz + k by omega]
    exact flat_getL f sz hf xs i x k (by simpa using h) hk
theorem flat_len5 : ∀ ls : List RL, (ls.flatMap RL.cells).length = ls.length * 5
  | [] => rfl
  | x :: ls => by
    rw [List.flatMap_cons, List.length_append, flat_len5 ls, List.length_cons]
    simp [RL.cells]
    omega
theorem infoLine : (Tryz.prog.info? 56).map (fun i => (i.zero, i.size, i.bytes)) = some (some (.agg #[.int .i64 0, .string ⟨#[]⟩, .int .i64 0, .int .i64 0, .string ⟨#[]⟩]), 5, 56) := by kernel_rfl
/-- A slice of lines of the call's own. -/
def OwnL (W : World) (B : Nat) (v : Value) (ls : List RL) : Prop := W.ownsRow B 56 5 v ls.length (ls.flatMap RL.cells)
theorem OwnL.reads {W : World} {B : Nat} {v : Value} {ls : List RL} (h : OwnL W B v ls) : ReadsL W v ls := by
  rcases h.2 with ⟨rfl, h0⟩ | ⟨g, cap, cur, rfl, hBg, hg, hcap, _, _, htake⟩
  · exact .inl ⟨List.eq_nil_of_length_eq_zero h0, none, 0, rfl⟩
  · refine .inr ⟨g, 0, cap, rfl, ⟨heap_lt hg, _, _, hg⟩, fun i x hx k hk => ?_⟩
    have hi := (List.getElem?_eq_some_iff.1 hx).1
    rw [Nat.zero_add, cell_of_row _ _ _ _ _ (0, 0) hg]
    have h1 : (ls.flatMap RL.cells)[i * 5 + k]? = x.cells[k]? := flat_getL RL.cells 5 (fun _ => rfl) ls i x k hx hk
    rw [← h1, ← htake, List.getElem?_take, if_pos (by omega), Array.getElem?_toList]
theorem OwnL.below {W W' : World} {B : Nat} {v : Value} {ls : List RL} (h : OwnL W B v ls) (hb : Below W.heap.size W W') : OwnL W' B v ls :=
  ⟨h.1, h.2.imp id fun ⟨g, cap, cur, h3, h4, h5, h6⟩ => ⟨g, cap, cur, h3, h4, heap_below hb h5 (heap_lt h5), h6⟩⟩
theorem OwnL.own {W : World} {B : Nat} {v : Value} {ls : List RL} (h : OwnL W B v ls) : ∀ k, v.ownBlock = some k → B ≤ k := fun k hk => by
  rcases h.2 with ⟨rfl, h0⟩ | ⟨g, cap, cur, rfl, h4, _⟩
  · simp [Value.ownBlock] at hk
  · have : g = k := by simpa [Value.ownBlock] using hk
    omega
theorem OwnL.made (W : World) (B : Nat) (hB : B ≤ W.heap.size) : OwnL (W.alloc (.cells #[] 56)) B (.slice (some ⟨W.heap.size, 0, none⟩) 0 0) [] := World.ownsRow_made W #[] 0 hB (by decide) rfl
theorem AddB.grown {V V' : World} {g b n B : Nat} {v : Value} {k : Int} {h : ByteArray} {p x : Int} {s : ByteArray} {r : Option Nat} (a : AddB V g b n v k h p x s) (hg : V.grownBy V' r) (hr : ∀ q, r = some q → B ≤ q) (hB : g + 3 ≤ B) : AddB V' g b n v k h p x s :=
  have hne : ∀ q, q < g + 3 → some q ≠ r := fun q hq e => by have := hr q e.symm; omega
  ⟨(hg.block _ (heap_lt a.d) (hne _ (by omega))).trans a.d, (hg.block _ (heap_lt a.x) (hne _ (by omega))).trans a.x, (hg.block _ (heap_lt a.r) (hne _ (by omega))).trans a.r⟩
theorem OwnL.setLow {W : World} {B z k : Nat} {v u : Value} {ls : List RL} (h : OwnL W B v ls) (hz : z < B) : OwnL (W.setCell ⟨z, k, none⟩ u) B v ls :=
  ⟨h.1, h.2.imp id fun ⟨g, cap, cur, h3, h4, h5, h6⟩ => ⟨g, cap, cur, h3, h4, (heap_setCell_other W ⟨z, k, none⟩ g u (by show g ≠ z; omega)).trans h5, h6⟩⟩
theorem OwnL.setRowLow {W : World} {B z : Nat} {v : Value} {cs : Array Value} {ls : List RL} (h : OwnL W B v ls) (hz : z < B) : OwnL (W.setRow z cs) B v ls :=
  ⟨h.1, h.2.imp id fun ⟨g, cap, cur, h3, h4, h5, h6⟩ => ⟨g, cap, cur, h3, h4, (setRow_ne (show g ≠ z by omega)).trans h5, h6⟩⟩
theorem exec_ldLine {ev : Operand → Value} {o : Oper} {x : Operand} {g : Nat} {W : World} {k p v : Int} {h s : ByteArray} (ho : o.op = .load 56 x) (hx : ev x = .pointer (some ⟨g, 0, none⟩)) (hg : W.heap[g]? = some (.cells #[.int .i64 k, .string h, .int .i64 p, .int .i64 v, .string s] 56 (0, 0))) :
    (execOp ev o).run Tryz.prog W = .ok (.value (.agg #[.int .i64 k, .string h, .int .i64 p, .int .i64 v, .string s])) W := by
  have hh := run_loadVar_row (P := Tryz.prog) W g 56 56 #[.int .i64 k, .string h, .int .i64 p, .int .i64 v, .string s] (0, 0) _ hg Tryz.underlying56 rfl (by kernel_rfl)
  simp only [execOp, ho, hx, Instr.loadAt, Instr.sureAddr, Sem.run_bind, Sem.run_pure, Result.andThen_ok, hh]
theorem exec_neK {ev : Operand → Value} {o : Oper} {x y : Operand} {a c : Int} {W : World} (ho : o.op = .binOp .neq 3 x y 3) (hx : ev x = .int .i64 a) (hy : ev y = .int .i64 c) (hb : (a == c) = false) : (execOp ev o).run Tryz.prog W = .ok (.value (.bool true)) W := by
  have h2 : (a != c) = true := by simpa using hb
  have h3 : ¬ a = c := by simpa using hb
  simp [execOp, ho, hx, hy]
  go_simp
theorem exec_lsN {ev : Operand → Value} {o : Oper} {x y : Operand} {a c : Nat} {b : Bool} {W : World} (ho : o.op = .binOp .lss 3 x y 3) (hx : ev x = .int .i64 ((a : Nat) : Int)) (hy : ev y = .int .i64 ((c : Nat) : Int)) (hb : decide (a < c) = b) : (execOp ev o).run Tryz.prog W = .ok (.value (.bool b)) W := by
  have h : decide (((a : Nat) : Int) < ((c : Nat) : Int)) = b := by rw [← hb]; simp
  simp [execOp, ho, hx, hy]
  go_simp
theorem wpO_appL {o : Oper} {a : Act} {w : World} {K : Act → World → Prop} {Q : Exit → Act → World → Prop} (s x : Operand)
    (ho : o.op = .call { callee := .builtin .append, args := #[s, x], argTypes := #[47, 47] }) (B : Nat) (v : Value) (hs : a.eval s = v) (hown : OwnL w B v [])
    (u : Value) (ls : List RL) (hx : a.eval x = u) (hr : ReadsL w u ls) (hlen : ls.length ≤ 1000000) (hB : B ≤ w.heap.size)
    (h : ∀ v' w', OwnL w' B v' ls → w.grownBy w' v.ownBlock → K (a.put o.dst v') w') : o.wp Tryz.prog a w K Q := by
  obtain ⟨i0, hi, hz0, hz1, hz2⟩ := info_parts infoLine
  have key : ∀ (ad : Addr) (c : Nat), u = .slice (some ad) ls.length c → (∀ j y, (ls.flatMap RL.cells)[j]? = some y → w.cell? (ad.add j) = some y) → o.wp Tryz.prog a w K Q := fun ad c hu hc => by
    obtain ⟨v', w', hrun, r1, r2, _⟩ := run_append_own (P := Tryz.prog) w B 47 o.type 56 i0 (.agg #[.int .i64 0, .string ⟨#[]⟩, .int .i64 0, .int .i64 0, .string ⟨#[]⟩]) 5 56 Tryz.underlying47 hi hz0 hz1 hz2 rfl (by decide) v 0 _ hown ad ls.length c (ls.flatMap RL.cells)
      (flat_len5 ls) hc (fun y hy => by
        obtain ⟨q, _, hq⟩ := List.mem_flatMap.1 hy
        simp only [RL.cells, List.mem_cons, List.not_mem_nil, or_false] at hq
        rcases hq with rfl | rfl | rfl | rfl | rfl <;> rfl) (by unfold maxLen; omega) (by omega) hB
    unfold Oper.wp execOp
    simp only [ho, resolve, invoke, builtin, Sem.run_bind, Sem.run_pure, Result.andThen_ok, List.map_toArray, List.map_cons, List.map_nil, hs, hx, hu, hrun]
    refine h v' w' ?_ r2
    unfold OwnL
    simpa using r1
  rcases hr with ⟨rfl, ad, c, rfl⟩ | ⟨g, oo, c, rfl, hg, hc⟩
  · cases ad with
    | some ad => exact key ad c rfl (fun j y hj => by simp at hj)
    | none =>
      have hrun : (Builtin.append_ #[47, 47] o.type #[v, .slice none 0 c]).run Tryz.prog w = .ok v w := by
        rcases hown.2 with ⟨rfl, _⟩ | ⟨g, cap, cur, rfl, _, _, hnc, _⟩
        · simp [Builtin.append_, run_underlying Tryz.underlying47, sizeOf, typeInfo, hi, Builtin.lenOf, Builtin.firstCells]
        · simp [Builtin.append_, run_underlying Tryz.underlying47, sizeOf, typeInfo, hi, Builtin.lenOf, Builtin.firstCells, storeCells]
      unfold Oper.wp execOp
      simp only [ho, resolve, invoke, builtin, Sem.run_bind, Sem.run_pure, Result.andThen_ok, List.map_toArray, List.map_cons, List.map_nil, hs, hx, hrun]
      exact h v w hown (World.grownBy.refl w _)
  · refine key ⟨g, oo, none⟩ c rfl fun j y hj => ?_
    rw [show (⟨g, oo, none⟩ : Addr).add j = ⟨g, oo + j, none⟩ by unfold Addr.add; split <;> simp_all]
    have hjl : j < ls.length * 5 := by
      have h1 := (List.getElem?_eq_some_iff.1 hj).1
      rw [flat_len5] at h1
      exact h1
    have hq : j / 5 < ls.length := by omega
    obtain ⟨q, hqq⟩ : ∃ q, ls[j / 5]? = some q := ⟨_, List.getElem?_eq_getElem hq⟩
    have h2 := hc (j / 5) q hqq (j % 5) (by omega)
    have h3 : (ls.flatMap RL.cells)[j / 5 * 5 + j % 5]? = q.cells[j % 5]? := flat_getL RL.cells 5 (fun _ => rfl) ls (j / 5) q (j % 5) hqq (by omega)
    rw [show j / 5 * 5 + j % 5 = j by omega] at h3
    rw [show oo + j / 5 * 5 + j % 5 = oo + j by omega] at h2
    rw [h2, ← h3, hj]
theorem wpO_appX {o : Oper} {a : Act} {w : World} {K : Act → World → Prop} {Q : Exit → Act → World → Prop} (s x : Operand)
    (ho : o.op = .call { callee := .builtin .append, args := #[s, x], argTypes := #[47, 47] }) (B : Nat) (v : Value) (ls : List RL) (hs : a.eval s = v) (hown : OwnL w B v ls)
    (d : RL) (g c : Nat) (hx : a.eval x = .slice (some ⟨g, 0, none⟩) 1 c) (hc : w.heap[g]? = some (.cells d.cells.toArray 56 (0, 0))) (hlen : ls.length ≤ 1000000) (hB : B ≤ w.heap.size)
    (h : ∀ v' w', OwnL w' B v' (ls ++ [d]) → w.grownBy w' v.ownBlock → K (a.put o.dst v') w') : o.wp Tryz.prog a w K Q := by
  obtain ⟨i0, hi, hz0, hz1, hz2⟩ := info_parts infoLine
  obtain ⟨v', w', hrun, r1, r2, r3⟩ := run_append_own (P := Tryz.prog) w B 47 o.type 56 i0 (.agg #[.int .i64 0, .string ⟨#[]⟩, .int .i64 0, .int .i64 0, .string ⟨#[]⟩]) 5 56 Tryz.underlying47 hi hz0 hz1 hz2 rfl (by decide) v ls.length _ hown ⟨g, 0, none⟩ 1 c d.cells rfl
    (fun j u hj => by
      rw [show (⟨g, 0, none⟩ : Addr).add j = ⟨g, j, none⟩ by unfold Addr.add; split <;> simp_all, cell_of_row _ _ j _ _ (0, 0) hc]
      simpa using hj) (fun u hu => by
      simp only [RL.cells, List.mem_cons, List.not_mem_nil, or_false] at hu
      rcases hu with rfl | rfl | rfl | rfl | rfl <;> rfl) (by unfold maxLen; omega) (by omega) hB
  unfold Oper.wp execOp
  simp only [ho, resolve, invoke, builtin, Sem.run_bind, Sem.run_pure, Result.andThen_ok, List.map_toArray, List.map_cons, List.map_nil, hs, hx, hrun]
  refine h v' w' ?_ r2
  unfold OwnL
  simpa [List.flatMap_append] using r1
theorem drw_one (a b : Int) (p : Option Addr) (m c : Nat) : (#[.int .i64 a, .int .i64 b, .slice p m c] : Array Value).all (·.oneCell') = true := by
  simp [Value.oneCell']
set_option maxHeartbeats 16000000 in
theorem radd1_c (b n : Nat) (hb2 : b ≤ 1000000000) (hn : n ≤ 1000) (v : Value) (ls : List RL) (xh : ByteArray) (xp xv : Int) (xs : ByteArray) (W : World) (hr : ReadsL W v ls) (hl : ls.length ≤ 100000) (hsz : xh.size ≤ 1000000) (hss : xs.size ≤ 1000000) :
    Calls Tryz.prog 19 #[.agg #[.int .i64 ((b : Nat) : Int), .int .i64 ((n : Nat) : Int), v], .agg #[.int .i64 1, .string xh, .int .i64 xp, .int .i64 xv, .string xs]] W fun e w' => ∃ v', e = .returned (.tuple #[.agg #[.int .i64 ((b : Nat) : Int), .int .i64 ((n : Nat) : Int), v'], .int .i64 (addE b n ls ⟨1, xh, xp, xv, xs⟩)]) ∧ ReadsL w' v' (addL b n ls ⟨1, xh, xp, xv, xs⟩) ∧ Below W.heap.size W w' := by
  obtain ⟨pv, cc, rfl⟩ := hr.form
  obtain ⟨m, hm⟩ : ∃ m, ls.length = m := ⟨_, rfl⟩
  rw [hm] at hr ⊢
  have HIN1 := hid (fun V => rin_c xp 1 ((n : Nat) : Int) V)
  have HIN2 := hid (fun V => rin_c xv 0 (((b : Nat) : Int) - 1) V)
  have HHX := hid (fun V => rhex_c xh hsz V)
  have HSA := hid (fun V => rsalt_c xs hss V)
  have HCT := hid (fun V (hV : Below W.heap.size W V) => rcount_c ((b : Nat) : Int) n (by omega) (.slice pv m cc) ls 1 V (hr.below hV) (by omega))
  have HOV := hid (fun V (hV : Below W.heap.size W V) => rover_c ((b : Nat) : Int) n (by omega) (.slice pv m cc) ls V (hr.below hV) (by omega))
  have HAT := hid (fun V (hV : Below W.heap.size W V) => rat_c ((b : Nat) : Int) ((n : Nat) : Int) (.slice pv m cc) ls 1 xp V (hr.below hV) (by omega))
  obtain ⟨EE, hEE⟩ : ∃ E, addE b n ls ⟨1, xh, xp, xv, xs⟩ = E := ⟨_, rfl⟩
  obtain ⟨LE, hLE⟩ : ∃ l, addL b n ls ⟨1, xh, xp, xv, xs⟩ = l := ⟨_, rfl⟩
  rw [hEE, hLE]
  have hx := heap_alloc_new W (.cells #[.int .i64 ((b : Nat) : Int), .int .i64 ((n : Nat) : Int), .slice pv m cc] 49)
  obtain ⟨U1, hU1⟩ : ∃ U, W.alloc (.cells #[.int .i64 ((b : Nat) : Int), .int .i64 ((n : Nat) : Int), .slice pv m cc] 49) = U := ⟨_, rfl⟩
  have hs1 : U1.heap.size = W.heap.size + 1 := by rw [← hU1]; simp
  have hb1 : Below W.heap.size W U1 := by rw [← hU1]; exact (Below.refl _ _).alloc (Nat.le_refl _) _
  rw [hU1] at hx
  have hy := heap_alloc_new U1 (.cells #[.int .i64 1, .string xh, .int .i64 xp, .int .i64 xv, .string xs] 56)
  obtain ⟨U2, hU2⟩ : ∃ U, U1.alloc (.cells #[.int .i64 1, .string xh, .int .i64 xp, .int .i64 xv, .string xs] 56) = U := ⟨_, rfl⟩
  have hs2 : U2.heap.size = W.heap.size + 2 := by rw [← hU2]; simp [hs1]
  have hb2' : Below U1.heap.size U1 U2 := by rw [← hU2]; exact (Below.refl _ _).alloc (Nat.le_refl _) _
  rw [hU2, hs1] at hy
  have hz := heap_alloc_new U2 (.cells #[.int .i64 0, .int .i64 0, .slice none 0 0] 49)
  have hb3 : Below U2.heap.size U2 (U2.alloc (.cells #[.int .i64 0, .int .i64 0, .slice none 0 0] 49)) := (Below.refl _ _).alloc (Nat.le_refl _) _
  rw [hs2] at hz
  have hab : AddB (U2.alloc (.cells #[.int .i64 0, .int .i64 0, .slice none 0 0] 49)) W.heap.size b n (.slice pv m cc) 1 xh xp xv xs :=
    ⟨heap_below hb3 (heap_below hb2' hx (heap_lt hx)) (by omega), heap_below hb3 hy (heap_lt hy), hz⟩
  have hbw : Below W.heap.size W (U2.alloc (.cells #[.int .i64 0, .int .i64 0, .slice none 0 0] 49)) := hb1.trans ((hb2'.trans (hb3.mono (by omega))).mono (by omega))
  have hgs : W.heap.size + 3 ≤ (U2.alloc (.cells #[.int .i64 0, .int .i64 0, .slice none 0 0] 49)).heap.size := by simp [hs2]
  rw [← hU2, ← hU1] at hab hbw hgs
  have HEE0 := hid hEE
  have HLE0 := hid hLE
  have HR := hid hr
  have HM := hid hm
  clear hr hm hEE hLE hx hy hz hb1 hb2' hb3 hs1 hs2 hU1 hU2
  go_enter Tryz.func19, Tryz.ntmps19
  go_upto_region 1 with fail
  generalize ((W.alloc (.cells #[.int .i64 ((b : Nat) : Int), .int .i64 ((n : Nat) : Int), .slice pv m cc] 49)).alloc (.cells #[.int .i64 1, .string xh, .int .i64 xp, .int .i64 xv, .string xs] 56)).alloc (.cells #[.int .i64 0, .int .i64 0, .slice none 0 0] 49) = W0 at hab hbw hgs ⊢
  obtain ⟨g, hg⟩ : ∃ g, W.heap.size = g := ⟨_, rfl⟩
  try simp only [World.size_alloc, Nat.add_assoc, Nat.reduceAdd]
  rw [hg] at hab hbw hgs ⊢
  have HG := hid hg
  have HAB := hid hab
  have HBW := hid hbw
  have HGS := hid hgs
  clear hg hab hbw hgs
  obtain ⟨d0, d1, d2, x0, x1, x2, x3, x4⟩ := HAB.out.cells
  obtain ⟨i1, hi1⟩ : ∃ i, (decide (1 ≤ xp) && decide (xp ≤ ((n : Nat) : Int))) = i := ⟨_, rfl⟩
  rw [hi1] at HIN1
  obtain ⟨q1, hq1⟩ : ∃ i, isHashL xh.data.toList = i := ⟨_, rfl⟩
  rw [hq1] at HHX
  obtain ⟨a, ha⟩ : ∃ a, atL 1 xp ls = a := ⟨_, rfl⟩
  rw [ha] at HAT
  cases i1 with
  | false =>
    have hE : EE = 7 := by rw [← HEE0.out]; simp [addE, hi1]
    have HE := hid hE
    clear hE
    go_wp2_with (first
      | (go_at_call 32; refine (HIN1.out _).mono ?_; rintro e wn ⟨rfl, rfl⟩)
      | fail
      | (refine wpList_store_row rfl 49 (.tmp 4) (.tmp 20) rfl (g + 2) #[.int .i64 ((b : Nat) : Int), .int .i64 ((n : Nat) : Int), .slice pv m cc] rfl rfl 49 _ HAB.out.r (show (Tryz.prog.info? 49).map (·.size) = some 3 by kernel_rfl) rfl (drw_one _ _ _ _ _) ?_))
    refine bodyPost_ret (results_drw Tryz.results19 rfl rfl (setRow_at HAB.out.r)) rfl ⟨_, by rw [HE.out]; rfl, ?_⟩
    refine (fun (hB : Below W.heap.size W _) => ⟨by rw [← HLE0.out, addL, HEE0.out, HE.out, if_neg (by decide)]; exact HR.out.below hB, hB⟩) ?_
    rw [HG.out]
    exact HBW.out.trans (setRow_below (Nat.le_add_right g 2))
  | true =>
    cases q1 with
    | false =>
      have hE : EE = 4 := by rw [← HEE0.out]; simp [addE, hi1, hq1]
      have HE := hid hE
      clear hE
      go_wp2_with (first
        | (go_at_call 32; refine (HIN1.out _).mono ?_; rintro e wn ⟨rfl, rfl⟩)
        | (go_at_call 42; refine (HHX.out _).mono ?_; rintro e wn ⟨rfl, hwn⟩; subst wn)
        | fail
        | (refine wpList_store_row rfl 49 (.tmp 4) (.tmp 30) rfl (g + 2) #[.int .i64 ((b : Nat) : Int), .int .i64 ((n : Nat) : Int), .slice pv m cc] rfl rfl 49 _ HAB.out.r (show (Tryz.prog.info? 49).map (·.size) = some 3 by kernel_rfl) rfl (drw_one _ _ _ _ _) ?_))
      refine bodyPost_ret (results_drw Tryz.results19 rfl rfl (setRow_at HAB.out.r)) rfl ⟨_, by rw [HE.out]; rfl, ?_⟩
      refine (fun (hB : Below W.heap.size W _) => ⟨by rw [← HLE0.out, addL, HEE0.out, HE.out, if_neg (by decide)]; exact HR.out.below hB, hB⟩) ?_
      rw [HG.out]
      exact HBW.out.trans (setRow_below (Nat.le_add_right g 2))
    | true =>
      go_upto_region 10 with (first
        | (go_at_call 32; refine (HIN1.out _).mono ?_; rintro e wn ⟨rfl, rfl⟩)
        | (go_at_call 42; refine (HHX.out _).mono ?_; rintro e wn ⟨rfl, hwn⟩; subst wn))
      go_big_quiet (fail)
      have hbq : Below (g + 3) W0 (World.drewN W0 nq) := (below_drewN (Below.refl _ _) nq : Below W0.heap.size W0 (W0.drewN nq)).mono HGS.out
      have hab := HAB.out.below hbq
      have hbw := HBW.out.trans (hbq.mono (by omega))
      have hgs := Nat.le_trans HGS.out hbq.size
      clear HAB HBW HGS d0 d1 d2 x0 x1 x2 x3 x4 hbq
      generalize World.drewN W0 nq = wq at hab hbw hgs ⊢
      have HAB := hid hab
      have HBW := hid hbw
      have HGS := hid hgs
      clear hab hbw hgs
      obtain ⟨d0, d1, d2, x0, x1, x2, x3, x4⟩ := HAB.out.cells
      by_cases ha0 : 0 < a
      · have e1 : decide ((0 : Int) < ((a : Nat) : Int)) = true := decide_eq_true (by omega)
        have e2 : decide (0 < a) = true := decide_eq_true ha0
        have hE : EE = 6 := by rw [← HEE0.out]; simp [addE, hi1, hq1, ha, ha0]
        have HE := hid hE
        clear hE
        go_wp2_with (first
          | (go_at_call 59; refine (HAT.out _ (HG.out.symm ▸ HBW.out)).mono ?_; rintro e wn ⟨rfl, hbn⟩; have hab := HAB.out.below (hbn.mono HGS.out); have hbw := HBW.out.trans (hbn.mono (Nat.le_of_succ_le (Nat.le_of_succ_le (Nat.le_of_succ_le HGS.out)))); have hgs := Nat.le_trans HGS.out hbn.size; clear HAB HBW HGS d0 d1 d2 x0 x1 x2 x3 x4 hbn; have HAB := hid hab; have HBW := hid hbw; have HGS := hid hgs; clear hab hbw hgs; obtain ⟨d0, d1, d2, x0, x1, x2, x3, x4⟩ := HAB.out.cells)
          | fail
          | (refine wpList_store_row rfl 49 (.tmp 4) (.tmp 82) rfl (g + 2) #[.int .i64 ((b : Nat) : Int), .int .i64 ((n : Nat) : Int), .slice pv m cc] rfl rfl 49 _ HAB.out.r (show (Tryz.prog.info? 49).map (·.size) = some 3 by kernel_rfl) rfl (drw_one _ _ _ _ _) ?_))
        refine bodyPost_ret (results_drw Tryz.results19 rfl rfl (setRow_at HAB.out.r)) rfl ⟨_, by rw [HE.out]; rfl, ?_⟩
        refine (fun (hB : Below W.heap.size W _) => ⟨by rw [← HLE0.out, addL, HEE0.out, HE.out, if_neg (by decide)]; exact HR.out.below hB, hB⟩) ?_
        rw [HG.out]
        exact HBW.out.trans (setRow_below (Nat.le_add_right g 2))
      · have e1 : decide ((0 : Int) < ((a : Nat) : Int)) = false := decide_eq_false (by omega)
        have e2 : decide (0 < a) = false := decide_eq_false ha0
        have hE : EE = 0 := by rw [← HEE0.out]; simp [addE, hi1, hq1, ha, ha0]
        have HE := hid hE
        clear hE
        go_upto_region 14 with (first
          | (go_at_call 59; refine (HAT.out _ (HG.out.symm ▸ HBW.out)).mono ?_; rintro e wn ⟨rfl, hbn⟩; have hab := HAB.out.below (hbn.mono HGS.out); have hbw := HBW.out.trans (hbn.mono (Nat.le_of_succ_le (Nat.le_of_succ_le (Nat.le_of_succ_le HGS.out)))); have hgs := Nat.le_trans HGS.out hbn.size; clear HAB HBW HGS d0 d1 d2 x0 x1 x2 x3 x4 hbn; have HAB := hid hab; have HBW := hid hbw; have HGS := hid hgs; clear hab hbw hgs; obtain ⟨d0, d1, d2, x0, x1, x2, x3, x4⟩ := HAB.out.cells)
          | fail)
        generalize wn = wb at HAB HBW HGS d0 d1 d2 x0 x1 x2 x3 x4 ⊢
        obtain ⟨B, hBe⟩ : ∃ B, wb.heap.size = B := ⟨_, rfl⟩
        have HGB := hid (hBe ▸ HGS.out : g + 3 ≤ B)
        have HBB := hid (Nat.le_of_eq hBe.symm : B ≤ wb.heap.size)
        have HRB := hid (show ∀ V, Below B wb V → ReadsL V (.slice pv m cc) ls from fun V hV => HR.out.below (HG.out.symm ▸ HBW.out.trans (hV.mono (by have := HGB.out; omega))))
        clear hBe d0 d1 d2 x0 x1 x2 x3 x4
        go_cut [] from 83 to 90 (fun wx => ∃ v6, wx.heap[g]? = some (.cells #[.int .i64 ((b : Nat) : Int), .int .i64 ((n : Nat) : Int), v6] 49 (0, 0)) ∧ wx.heap[g + 2]? = some (.cells #[.int .i64 0, .int .i64 0, .slice none 0 0] 49 (0, 0)) ∧ OwnL wx B v6 (ls ++ [⟨1, xh, xp, xv, xs⟩]) ∧ Below g W wx)
        case first =>
          refine regD (fun V => AddB V g b n (.slice pv m cc) 1 xh xp xv xs) (fun j => !(j == 8)) (by kernel_rfl) ?_
          have hax0 : AddB wb.drew g b n (.slice pv m cc) 1 xh xp xv xs := HAB.out.below (below_drewN (Below.refl _ _) 1)
          have hbx0 : Below B wb wb.drew ∧ B ≤ wb.drew.heap.size := ⟨below_drewN (Below.refl _ _) 1, HBB.out⟩
          generalize wb.drew = x0 at hax0 hbx0 ⊢
          have hS := hax0
          refine takeE (i := 1) (.pointer (some ⟨g, 2, none⟩)) (d := some 84) rfl (by kernel_rfl) (by kernel_rfl) (by kernel_rfl) (by kernel_rfl) (fun _ _ _ h => h) rfl (fun W hSw => by exact exec_fldDr 2 rfl rfl (by simp)) hS rfl ?_
          simp only [Act.put, List.setIfInBounds_toArray, List.set_cons_zero, List.set_cons_succ]
          refine takeE (i := 2) (.slice pv m cc) (d := some 85) rfl (by kernel_rfl) (by kernel_rfl) (by kernel_rfl) (by kernel_rfl) (fun _ _ _ h => h) rfl (fun W hSw => by exact exec_ldLs rfl rfl (cell_of_row _ _ 2 _ _ _ hSw.d)) hS rfl ?_
          simp only [Act.put, List.setIfInBounds_toArray, List.set_cons_zero, List.set_cons_succ]
          refine takeE (i := 4) (.agg #[.int .i64 1, .string xh, .int .i64 xp, .int .i64 xv, .string xs]) (d := some 87) rfl (by kernel_rfl) (by kernel_rfl) (by kernel_rfl) (by kernel_rfl) (fun _ _ _ h => h) rfl (fun W hSw => by exact exec_ldLine rfl rfl hSw.x) hS rfl ?_
          simp only [Act.put, List.setIfInBounds_toArray, List.set_cons_zero, List.set_cons_succ]
          clear hS
          refine stepD2 0 5 (by kernel_rfl) rfl rfl rfl rfl (fun K hK => ?_) (fun K hK => ?_)
          · go_simp
            have hal : Below x0.heap.size x0 (x0.alloc (.cells #[] 56)) := (Below.refl _ _).alloc (Nat.le_refl _) _
            have hmd := OwnL.made x0 B hbx0.2
            refine hK _ _ (fun _ => hax0.below (hal.mono (Nat.le_trans HGB.out hbx0.2))) ?_
            clear hK K
            obtain ⟨kk, hkk⟩ : ∃ k, x0.heap.size = k := ⟨_, rfl⟩
            rw [hkk] at hmd ⊢
            have hkl : kk < (x0.alloc (.cells #[] 56)).heap.size := by simp [hkk]
            generalize x0.alloc (.cells #[] 56) = x1 at hal hmd hkl ⊢
            clear hkk
            have hax1 := hax0.below (hal.mono (Nat.le_trans HGB.out hbx0.2))
            have hbx1 : Below B wb x1 ∧ B ≤ x1.heap.size := ⟨hbx0.1.trans (hal.mono hbx0.2), Nat.le_trans hbx0.2 hal.size⟩
            clear hax0 hbx0 hal
            have hrowx1 := hmd
            clear hmd
            refine stepD2 3 5 (by kernel_rfl) rfl rfl rfl rfl (fun K hK => ?_) (fun K hK => ?_)
            · refine wpO_appL (.tmp 83) (.tmp 85) rfl B (.slice (some ⟨kk, 0, none⟩) 0 0) rfl hrowx1 _ ls rfl (HRB.out x1 hbx1.1) (by omega) hbx1.2 (fun v3 x2 hrowx2 hg3 => hK _ _ (fun _ => hax1.grown hg3 hrowx1.own HGB.out) ?_)
              clear hK K
              have hax2 := hax1.grown hg3 hrowx1.own HGB.out
              have hbx2 : Below B wb x2 ∧ B ≤ x2.heap.size := ⟨hbx1.1.grown hg3 hbx1.2 hrowx1.own, Nat.le_trans hbx1.2 hg3.size⟩
              clear hax1 hbx1 hrowx1 hg3
              refine stepD 5 (by kernel_rfl) rfl rfl (fun K hK => ?_)
              go_simp
              have hal : Below x2.heap.size x2 (x2.alloc (.cells #[.int .i64 1, .string xh, .int .i64 xp, .int .i64 xv, .string xs] 56)) := (Below.refl _ _).alloc (Nat.le_refl _) _
              have hnz := heap_alloc_new x2 (.cells #[.int .i64 1, .string xh, .int .i64 xp, .int .i64 xv, .string xs] 56)
              refine hK _ _ (fun _ => hax2.below (hal.mono (Nat.le_trans HGB.out hbx2.2))) ?_
              clear hK K
              obtain ⟨z8, hz8⟩ : ∃ k, x2.heap.size = k := ⟨_, rfl⟩
              rw [hz8] at hnz ⊢
              generalize x2.alloc (.cells #[.int .i64 1, .string xh, .int .i64 xp, .int .i64 xv, .string xs] 56) = x3 at hal hnz ⊢
              clear hz8
              have hax3 := hax2.below (hal.mono (Nat.le_trans HGB.out hbx2.2))
              have hbx3 : Below B wb x3 ∧ B ≤ x3.heap.size := ⟨hbx2.1.trans (hal.mono hbx2.2), Nat.le_trans hbx2.2 hal.size⟩
              have hrowx3 := hrowx2.below hal
              clear hax2 hbx2 hrowx2 hal
              have hzx3 := hnz
              clear hnz
              refine stepD 6 (by kernel_rfl) rfl rfl (fun K hK => ?_)
              refine wpO_appX (.tmp 86) (.tmp 88) rfl B v3 ls rfl hrowx3 ⟨1, xh, xp, xv, xs⟩ z8 1 rfl hzx3 (by omega) hbx3.2 (fun v6 x4 hrowx4 hg6 => hK _ _ (fun _ => hax3.grown hg6 hrowx3.own HGB.out) ?_)
              clear hK K
              have hax4 := hax3.grown hg6 hrowx3.own HGB.out
              have hbx4 : Below B wb x4 ∧ B ≤ x4.heap.size := ⟨hbx3.1.grown hg6 hbx3.2 hrowx3.own, Nat.le_trans hbx3.2 hg6.size⟩
              clear hax3 hbx3 hrowx3 hg6 hzx3
              obtain ⟨p6, c6, hv6⟩ := hrowx4.reads.form
              obtain ⟨l6, hl6⟩ : ∃ l, (ls ++ [⟨1, xh, xp, xv, xs⟩] : List RL).length = l := ⟨_, rfl⟩
              rw [hl6] at hv6
              subst hv6
              clear hl6
              refine stepD 7 (by kernel_rfl) rfl rfl (fun K hK => ?_)
              go_simp
              refine hK _ _ (fun _ => hax4) ?_
              clear hK K
              have hfz := frozen_of_row _ _ 2 _ _ hax4.d
              have hk2 := cell_of_row _ _ 2 _ _ _ hax4.d
              refine stepD 8 (by kernel_rfl) rfl rfl (fun K hK => ?_)
              go_simp
              have hd9 : (x4.setCell ⟨g, 2, none⟩ (.slice p6 l6 c6)).heap[g]? = some (.cells #[.int .i64 ((b : Nat) : Int), .int .i64 ((n : Nat) : Int), (.slice p6 l6 c6)] 49 (0, 0)) := heap_setCell_same x4 g 2 _ _ _ hax4.d
              have hr9 : (x4.setCell ⟨g, 2, none⟩ (.slice p6 l6 c6)).heap[g + 2]? = some (.cells #[.int .i64 0, .int .i64 0, .slice none 0 0] 49 (0, 0)) := (heap_setCell_other x4 ⟨g, 2, none⟩ (g + 2) _ (by show g + 2 ≠ g; omega)).trans hax4.r
              have hl9 : OwnL (x4.setCell ⟨g, 2, none⟩ (.slice p6 l6 c6)) B (.slice p6 l6 c6) (ls ++ [⟨1, xh, xp, xv, xs⟩]) := OwnL.setLow hrowx4 (by have := HGB.out; omega)
              have hb9 : Below g W (x4.setCell ⟨g, 2, none⟩ (.slice p6 l6 c6)) := (HBW.out.trans (hbx4.1.mono (by have := HGB.out; omega))).setCell (p := ⟨g, 2, none⟩) (Nat.le_refl g) _
              refine hK _ _ (fun h => (by simp at h)) ?_
              clear hK K hfz hk2
              generalize x4.setCell ⟨g, 2, none⟩ (.slice p6 l6 c6) = w9 at hd9 hr9 hl9 hb9 ⊢
              refine doneD (by kernel_rfl) ?_ _
              refine OnlyNorm.normal ?_
              first | go_meet | (go_step; go_meet) | (go_step; go_step; go_meet)
              case rel => exact ⟨(.slice p6 l6 c6), hd9, hr9, hl9, hb9⟩
            · go_simp
              have hal : Below x1.heap.size x1 (x1.alloc (.cells #[.int .i64 1, .string xh, .int .i64 xp, .int .i64 xv, .string xs] 56)) := (Below.refl _ _).alloc (Nat.le_refl _) _
              have hnz := heap_alloc_new x1 (.cells #[.int .i64 1, .string xh, .int .i64 xp, .int .i64 xv, .string xs] 56)
              refine hK _ _ (fun _ => hax1.below (hal.mono (Nat.le_trans HGB.out hbx1.2))) ?_
              clear hK K
              obtain ⟨z8, hz8⟩ : ∃ k, x1.heap.size = k := ⟨_, rfl⟩
              rw [hz8] at hnz ⊢
              have hkz : z8 ≠ kk := by omega
              generalize x1.alloc (.cells #[.int .i64 1, .string xh, .int .i64 xp, .int .i64 xv, .string xs] 56) = x2 at hal hnz ⊢
              clear hz8
              have hax2 := hax1.below (hal.mono (Nat.le_trans HGB.out hbx1.2))
              have hbx2 : Below B wb x2 ∧ B ≤ x2.heap.size := ⟨hbx1.1.trans (hal.mono hbx1.2), Nat.le_trans hbx1.2 hal.size⟩
              have hrowx2 := hrowx1.below hal
              clear hax1 hbx1 hrowx1 hal
              have hzx2 := hnz
              clear hnz
              refine stepD 3 (by kernel_rfl) rfl rfl (fun K hK => ?_)
              refine wpO_appL (.tmp 83) (.tmp 85) rfl B (.slice (some ⟨kk, 0, none⟩) 0 0) rfl hrowx2 _ ls rfl (HRB.out x2 hbx2.1) (by omega) hbx2.2 (fun v3 x3 hrowx3 hg3 => hK _ _ (fun _ => hax2.grown hg3 hrowx2.own HGB.out) ?_)
              clear hK K
              have hax3 := hax2.grown hg3 hrowx2.own HGB.out
              have hbx3 : Below B wb x3 ∧ B ≤ x3.heap.size := ⟨hbx2.1.grown hg3 hbx2.2 hrowx2.own, Nat.le_trans hbx2.2 hg3.size⟩
              have hzx3 := (hg3.block z8 (heap_lt hzx2) (fun e => hkz (by simpa [Value.ownBlock] using e))).trans hzx2
              clear hax2 hbx2 hrowx2 hg3 hzx2
              refine stepD 6 (by kernel_rfl) rfl rfl (fun K hK => ?_)
              refine wpO_appX (.tmp 86) (.tmp 88) rfl B v3 ls rfl hrowx3 ⟨1, xh, xp, xv, xs⟩ z8 1 rfl hzx3 (by omega) hbx3.2 (fun v6 x4 hrowx4 hg6 => hK _ _ (fun _ => hax3.grown hg6 hrowx3.own HGB.out) ?_)
              clear hK K
              have hax4 := hax3.grown hg6 hrowx3.own HGB.out
              have hbx4 : Below B wb x4 ∧ B ≤ x4.heap.size := ⟨hbx3.1.grown hg6 hbx3.2 hrowx3.own, Nat.le_trans hbx3.2 hg6.size⟩
              clear hax3 hbx3 hrowx3 hg6 hzx3
              obtain ⟨p6, c6, hv6⟩ := hrowx4.reads.form
              obtain ⟨l6, hl6⟩ : ∃ l, (ls ++ [⟨1, xh, xp, xv, xs⟩] : List RL).length = l := ⟨_, rfl⟩
              rw [hl6] at hv6
              subst hv6
              clear hl6
              refine stepD 7 (by kernel_rfl) rfl rfl (fun K hK => ?_)
              go_simp
              refine hK _ _ (fun _ => hax4) ?_
              clear hK K
              have hfz := frozen_of_row _ _ 2 _ _ hax4.d
              have hk2 := cell_of_row _ _ 2 _ _ _ hax4.d
              refine stepD 8 (by kernel_rfl) rfl rfl (fun K hK => ?_)
              go_simp
              have hd9 : (x4.setCell ⟨g, 2, none⟩ (.slice p6 l6 c6)).heap[g]? = some (.cells #[.int .i64 ((b : Nat) : Int), .int .i64 ((n : Nat) : Int), (.slice p6 l6 c6)] 49 (0, 0)) := heap_setCell_same x4 g 2 _ _ _ hax4.d
              have hr9 : (x4.setCell ⟨g, 2, none⟩ (.slice p6 l6 c6)).heap[g + 2]? = some (.cells #[.int .i64 0, .int .i64 0, .slice none 0 0] 49 (0, 0)) := (heap_setCell_other x4 ⟨g, 2, none⟩ (g + 2) _ (by show g + 2 ≠ g; omega)).trans hax4.r
              have hl9 : OwnL (x4.setCell ⟨g, 2, none⟩ (.slice p6 l6 c6)) B (.slice p6 l6 c6) (ls ++ [⟨1, xh, xp, xv, xs⟩]) := OwnL.setLow hrowx4 (by have := HGB.out; omega)
              have hb9 : Below g W (x4.setCell ⟨g, 2, none⟩ (.slice p6 l6 c6)) := (HBW.out.trans (hbx4.1.mono (by have := HGB.out; omega))).setCell (p := ⟨g, 2, none⟩) (Nat.le_refl g) _
              refine hK _ _ (fun h => (by simp at h)) ?_
              clear hK K hfz hk2
              generalize x4.setCell ⟨g, 2, none⟩ (.slice p6 l6 c6) = w9 at hd9 hr9 hl9 hb9 ⊢
              refine doneD (by kernel_rfl) ?_ _
              refine OnlyNorm.normal ?_
              first | go_meet | (go_step; go_meet) | (go_step; go_step; go_meet)
              case rel => exact ⟨(.slice p6 l6 c6), hd9, hr9, hl9, hb9⟩
          · go_simp
            have hal : Below x0.heap.size x0 (x0.alloc (.cells #[.int .i64 1, .string xh, .int .i64 xp, .int .i64 xv, .string xs] 56)) := (Below.refl _ _).alloc (Nat.le_refl _) _
            have hnz := heap_alloc_new x0 (.cells #[.int .i64 1, .string xh, .int .i64 xp, .int .i64 xv, .string xs] 56)
            refine hK _ _ (fun _ => hax0.below (hal.mono (Nat.le_trans HGB.out hbx0.2))) ?_
            clear hK K
            obtain ⟨z8, hz8⟩ : ∃ k, x0.heap.size = k := ⟨_, rfl⟩
            rw [hz8] at hnz ⊢
            generalize x0.alloc (.cells #[.int .i64 1, .string xh, .int .i64 xp, .int .i64 xv, .string xs] 56) = x1 at hal hnz ⊢
            clear hz8
            have hax1 := hax0.below (hal.mono (Nat.le_trans HGB.out hbx0.2))
            have hbx1 : Below B wb x1 ∧ B ≤ x1.heap.size := ⟨hbx0.1.trans (hal.mono hbx0.2), Nat.le_trans hbx0.2 hal.size⟩
            clear hax0 hbx0 hal
            have hzx1 := hnz
            clear hnz
            refine stepD 0 (by kernel_rfl) rfl rfl (fun K hK => ?_)
            go_simp
            have hal : Below x1.heap.size x1 (x1.alloc (.cells #[] 56)) := (Below.refl _ _).alloc (Nat.le_refl _) _
            have hmd := OwnL.made x1 B hbx1.2
            refine hK _ _ (fun _ => hax1.below (hal.mono (Nat.le_trans HGB.out hbx1.2))) ?_
            clear hK K
            obtain ⟨kk, hkk⟩ : ∃ k, x1.heap.size = k := ⟨_, rfl⟩
            rw [hkk] at hmd ⊢
            have hkz : z8 ≠ kk := by have := heap_lt hzx1; omega
            generalize x1.alloc (.cells #[] 56) = x2 at hal hmd ⊢
            clear hkk
            have hax2 := hax1.below (hal.mono (Nat.le_trans HGB.out hbx1.2))
            have hbx2 : Below B wb x2 ∧ B ≤ x2.heap.size := ⟨hbx1.1.trans (hal.mono hbx1.2), Nat.le_trans hbx1.2 hal.size⟩
            have hzx2 := heap_below hal hzx1 (heap_lt hzx1)
            clear hax1 hbx1 hzx1 hal
            have hrowx2 := hmd
            clear hmd
            refine stepD 3 (by kernel_rfl) rfl rfl (fun K hK => ?_)
            refine wpO_appL (.tmp 83) (.tmp 85) rfl B (.slice (some ⟨kk, 0, none⟩) 0 0) rfl hrowx2 _ ls rfl (HRB.out x2 hbx2.1) (by omega) hbx2.2 (fun v3 x3 hrowx3 hg3 => hK _ _ (fun _ => hax2.grown hg3 hrowx2.own HGB.out) ?_)
            clear hK K
            have hax3 := hax2.grown hg3 hrowx2.own HGB.out
            have hbx3 : Below B wb x3 ∧ B ≤ x3.heap.size := ⟨hbx2.1.grown hg3 hbx2.2 hrowx2.own, Nat.le_trans hbx2.2 hg3.size⟩
            have hzx3 := (hg3.block z8 (heap_lt hzx2) (fun e => hkz (by simpa [Value.ownBlock] using e))).trans hzx2
            clear hax2 hbx2 hrowx2 hg3 hzx2
            refine stepD 6 (by kernel_rfl) rfl rfl (fun K hK => ?_)
            refine wpO_appX (.tmp 86) (.tmp 88) rfl B v3 ls rfl hrowx3 ⟨1, xh, xp, xv, xs⟩ z8 1 rfl hzx3 (by omega) hbx3.2 (fun v6 x4 hrowx4 hg6 => hK _ _ (fun _ => hax3.grown hg6 hrowx3.own HGB.out) ?_)
            clear hK K
            have hax4 := hax3.grown hg6 hrowx3.own HGB.out
            have hbx4 : Below B wb x4 ∧ B ≤ x4.heap.size := ⟨hbx3.1.grown hg6 hbx3.2 hrowx3.own, Nat.le_trans hbx3.2 hg6.size⟩
            clear hax3 hbx3 hrowx3 hg6 hzx3
            obtain ⟨p6, c6, hv6⟩ := hrowx4.reads.form
            obtain ⟨l6, hl6⟩ : ∃ l, (ls ++ [⟨1, xh, xp, xv, xs⟩] : List RL).length = l := ⟨_, rfl⟩
            rw [hl6] at hv6
            subst hv6
            clear hl6
            refine stepD 7 (by kernel_rfl) rfl rfl (fun K hK => ?_)
            go_simp
            refine hK _ _ (fun _ => hax4) ?_
            clear hK K
            have hfz := frozen_of_row _ _ 2 _ _ hax4.d
            have hk2 := cell_of_row _ _ 2 _ _ _ hax4.d
            refine stepD 8 (by kernel_rfl) rfl rfl (fun K hK => ?_)
            go_simp
            have hd9 : (x4.setCell ⟨g, 2, none⟩ (.slice p6 l6 c6)).heap[g]? = some (.cells #[.int .i64 ((b : Nat) : Int), .int .i64 ((n : Nat) : Int), (.slice p6 l6 c6)] 49 (0, 0)) := heap_setCell_same x4 g 2 _ _ _ hax4.d
            have hr9 : (x4.setCell ⟨g, 2, none⟩ (.slice p6 l6 c6)).heap[g + 2]? = some (.cells #[.int .i64 0, .int .i64 0, .slice none 0 0] 49 (0, 0)) := (heap_setCell_other x4 ⟨g, 2, none⟩ (g + 2) _ (by show g + 2 ≠ g; omega)).trans hax4.r
            have hl9 : OwnL (x4.setCell ⟨g, 2, none⟩ (.slice p6 l6 c6)) B (.slice p6 l6 c6) (ls ++ [⟨1, xh, xp, xv, xs⟩]) := OwnL.setLow hrowx4 (by have := HGB.out; omega)
            have hb9 : Below g W (x4.setCell ⟨g, 2, none⟩ (.slice p6 l6 c6)) := (HBW.out.trans (hbx4.1.mono (by have := HGB.out; omega))).setCell (p := ⟨g, 2, none⟩) (Nat.le_refl g) _
            refine hK _ _ (fun h => (by simp at h)) ?_
            clear hK K hfz hk2
            generalize x4.setCell ⟨g, 2, none⟩ (.slice p6 l6 c6) = w9 at hd9 hr9 hl9 hb9 ⊢
            refine doneD (by kernel_rfl) ?_ _
            refine OnlyNorm.normal ?_
            first | go_meet | (go_step; go_meet) | (go_step; go_step; go_meet)
            case rel => exact ⟨(.slice p6 l6 c6), hd9, hr9, hl9, hb9⟩
        case rest =>
          obtain ⟨v6, hd9, hr9, hl9, hb9⟩ := hcut
          obtain ⟨p6, c6, hv6⟩ := hl9.reads.form
          obtain ⟨l6, hl6⟩ : ∃ l, (ls ++ [⟨1, xh, xp, xv, xs⟩] : List RL).length = l := ⟨_, rfl⟩
          rw [hl6] at hv6
          subst hv6
          clear hl6
          have HF := hid (And.intro hl9 hb9)
          have HRW := hid hr9
          have d0 := cell_of_row _ _ 0 _ _ _ hd9
          have d1 := cell_of_row _ _ 1 _ _ _ hd9
          have d2 := cell_of_row _ _ 2 _ _ _ hd9
          clear hd9 hr9 hl9 hb9
          go_wp2_with (refine wpList_store_row rfl 49 (.tmp 4) (.tmp 91) rfl (g + 2) #[.int .i64 ((b : Nat) : Int), .int .i64 ((n : Nat) : Int), .slice p6 l6 c6] rfl rfl 49 _ HRW.out (show (Tryz.prog.info? 49).map (·.size) = some 3 by kernel_rfl) rfl (drw_one _ _ _ _ _) ?_)
          refine bodyPost_ret (results_drw Tryz.results19 rfl rfl (setRow_at HRW.out)) rfl ⟨_, by rw [HE.out]; rfl, ?_⟩
          refine (fun (hB : Below W.heap.size W _) => ⟨by rw [← HLE0.out, addL, HEE0.out, HE.out, if_pos rfl]; exact OwnL.reads (OwnL.setRowLow HF.out.1 (by have := HGB.out; omega)), hB⟩) ?_
          rw [HG.out]
          exact HF.out.2.trans (setRow_below (Nat.le_add_right g 2))
end Go.Proofs.YtbcileppebpamaaGreatDoor
