/- Walks of package witness: the lines of a transcript. -/
import Derived.Test.YtbcileppebpamaaGreatDoorWH
set_option linter.unusedSimpArgs false
set_option linter.unusedVariables false
namespace Go.Proofs.YtbcileppebpamaaGreatDoor
open Go Go.RowKit Go.Shelf
set_option maxRecDepth 100000

theorem infoStr : (Tryz.prog.info? 9).map (fun i => (i.zero, i.size, i.bytes)) = some (some (.string ⟨#[]⟩), 1, 16) := by kernel_rfl
/-- Only block b, the row's own block and new ones have changed. -/
structure OnlyIn (b : Nat) (vl : Value) (W W' : World) : Prop where
  os : W'.os = W.os
  tape : W'.tape = W.tape
  output : W'.output = W.output
  size : W.heap.size ≤ W'.heap.size
  block : ∀ k o, W.heap[k]? = some o → k ≠ b → vl.ownBlock ≠ some k → W'.heap[k]? = some o
/-- The texts of a row. -/
def StrRow (W : World) (B : Nat) (v : Value) (ls : List ByteArray) : Prop := W.ownsRow B 9 1 v ls.length (ls.map Value.string)
theorem StrRow.below {W W' : World} {B : Nat} {v : Value} {ls : List ByteArray} (h : StrRow W B v ls) (hb : Below W.heap.size W W') : StrRow W' B v ls :=
  ⟨h.1, h.2.imp id fun ⟨g, cap, cur, h3, h4, h5, h6⟩ => ⟨g, cap, cur, h3, h4, heap_below hb h5 (heap_lt h5), h6⟩⟩
theorem StrRow.own {W : World} {B : Nat} {v : Value} {ls : List ByteArray} (h : StrRow W B v ls) : ∀ k, v.ownBlock = some k → B ≤ k ∧ ∃ cs, W.heap[k]? = some (.cells cs 9 (0, 0)) := fun k hk => by
  rcases h.2 with ⟨h3, _⟩ | ⟨g, cap, cur, h3, h4, h5, _⟩
  · rw [h3] at hk; cases hk
  · rw [h3] at hk
    have : g = k := by simpa [Value.ownBlock] using hk
    subst this
    exact ⟨h4, _, h5⟩
theorem StrRow.kept {W W' : World} {B : Nat} {v : Value} {ls : List ByteArray} (h : StrRow W B v ls) (hk : ∀ k o, v.ownBlock = some k → W.heap[k]? = some o → W'.heap[k]? = some o) : StrRow W' B v ls :=
  ⟨h.1, h.2.imp id fun ⟨g, cap, cur, h3, h4, h5, h6⟩ => ⟨g, cap, cur, h3, h4, hk g _ (by rw [h3]; rfl) h5, h6⟩⟩
theorem StrRow.slice {W : World} {B : Nat} {v : Value} {ls : List ByteArray} (h : StrRow W B v ls) : ∃ p c, v = .slice p ls.length c := by
  rcases h.2 with ⟨h3, h4⟩ | ⟨g, cap, cur, h3, _⟩
  · exact ⟨none, 0, by rw [h3, h4]⟩
  · exact ⟨_, _, h3⟩
theorem wpO_app_str {o : Oper} {a : Act} {w : World} {K : Act → World → Prop} {Q : Exit → Act → World → Prop} (s x : Operand)
    (ho : o.op = .call { callee := .builtin .append, args := #[s, x], argTypes := #[22, 22] }) (B : Nat) (v : Value) (ls : List ByteArray) (hs : a.eval s = v) (hown : StrRow w B v ls)
    (z : ByteArray) (g c : Nat) (hx : a.eval x = .slice (some ⟨g, 0, none⟩) 1 c) (hc : w.cell? ⟨g, 0, none⟩ = some (.string z)) (hlen : ls.length < 1000000000) (hB : B ≤ w.heap.size)
    (h : ∀ v' w', StrRow w' B v' (ls ++ [z]) → w.grownBy w' v.ownBlock → K (a.put o.dst v') w') : o.wp Tryz.prog a w K Q := by
  obtain ⟨i0, hi, hz0, hz1, hz2⟩ := info_parts infoStr
  obtain ⟨v', w', hrun, r1, r2, r3⟩ := run_append_own (P := Tryz.prog) w B 22 o.type 9 i0 (.string ⟨#[]⟩) 1 16 Tryz.underlying22 hi hz0 hz1 hz2 rfl (by decide) v ls.length _ hown ⟨g, 0, none⟩ 1 c [.string z] rfl
    (fun j u hj => by
      obtain rfl : j = 0 := by
        cases j with
        | zero => rfl
        | succ j => simp at hj
      simp at hj; subst hj; exact hc) (fun u hu => by simp at hu; subst hu; rfl) (by unfold maxLen; omega) (by omega) hB
  unfold Oper.wp execOp
  simp only [ho, resolve, invoke, builtin, Sem.run_bind, Sem.run_pure, Result.andThen_ok, List.map_toArray, List.map_cons, List.map_nil, hs, hx, hrun]
  refine h v' w' ?_ r2
  unfold StrRow
  simpa using r1
theorem exec_nilP {P : Program} {ev : Operand → Value} {o : Oper} {x : Operand} {p : Addr} {W : World} (ho : o.op = .nilCheck x) (hx : ev x = .pointer (some p)) : (execOp ev o).run P W = .ok (.value (.pointer (some p))) W := by simp [execOp, ho, hx]
theorem exec_fldLog {ev : Operand → Value} {o : Oper} {x : Operand} {b : Nat} {W : World} (ho : o.op = .fieldAddr 97 x 0) (hx : ev x = .pointer (some ⟨b, 0, none⟩)) : (execOp ev o).run Tryz.prog W = .ok (.value (.pointer (some ⟨b, 0, none⟩))) W := by
  simp [execOp, ho, hx]
  go_simp
theorem exec_ldstrs {ev : Operand → Value} {o : Oper} {x : Operand} {p : Addr} {W : World} {v : Value} (ho : o.op = .load 22 x) (hx : ev x = .pointer (some p)) (hg : W.cell? p = some v) : (execOp ev o).run Tryz.prog W = .ok (.value v) W := by
  simp [execOp, ho, hx]
  go_simp
/-- A line of words. -/
def lineL (ws : List ByteArray) : List UInt8 := Lib.join (ws.map (·.data.toList)) [32] ++ [10]
theorem wpO_strs {P : Program} {o : Oper} {a : Act} {w w' : World} {K : Act → World → Prop} {Q : Exit → Act → World → Prop} (v : Value) (h : (execOp a.eval o).run P w = .ok (.value v) w') (hK : K (a.put o.dst v) w') : o.wp P a w K Q := wpO_val v h hK
set_option maxHeartbeats 4000000 in
theorem write_c (b B : Nat) (cs : Array Value) (t : TypeId) (vl : Value) (ls ws : List ByteArray) (bk c : Nat) (W : World) (hbx : W.heap[b]? = some (.cells cs t (0, 0))) (hts : t ≠ 9) (h0 : cs[0]? = some vl)
    (hrow : StrRow W B vl ls) (hB : B ≤ W.heap.size) (hwc : ∀ (j : Nat) x, ws[j]? = some x → W.cell? ⟨bk, 0 + j, none⟩ = some (.string x)) (hbk : bk < W.heap.size) (hcap : ws.length ≤ c) (hls : ls.length < 1000000) (hwl : ws.length < 1000000)
    (hjl : (lineL ws).length ≤ 1000000000) :
    Calls Tryz.prog 51 #[.pointer (some ⟨b, 0, none⟩), .slice (some ⟨bk, 0, none⟩) ws.length c] W fun e W' => e = .returned (.int .i64 ((ls.length + 1 : Nat) : Int)) ∧ OnlyIn b vl W W' ∧
      ∃ vl', StrRow W' B vl' (ls ++ [⟨(lineL ws).toArray⟩]) ∧ W'.heap[b]? = some (.cells (cs.setIfInBounds 0 vl') t (0, 0)) := by
  have hcell : W.cell? ⟨b, 0, none⟩ = some vl := by rw [cell_of_row _ _ 0 _ _ _ hbx, h0]
  have hjn := fun W' (hW' : Below W.heap.size W W') => strings_Join bk 0 c ws ⟨#[32]⟩ W' (fun j x hx => (hW'.cell (p := ⟨bk, 0 + j, none⟩) hbk).trans (hwc j x hx)) (Nat.lt_of_lt_of_le hbk hW'.size) (by omega) hcap (by
    have : (lineL ws).length = (Lib.join (ws.map (·.data.toList)) [32]).length + 1 := by simp [lineL]
    show (Lib.join (ws.map (·.data.toList)) [32]).length ≤ _
    omega)
  have HJ := hid hjn
  have hd : Below W.heap.size W W.drew := ⟨rfl, rfl, rfl, Nat.le_refl _, fun _ _ => rfl⟩
  obtain ⟨m, hm⟩ : ∃ m, ws.length = m := ⟨_, rfl⟩
  rw [hm] at HJ ⊢
  go_enter Tryz.func51, Tryz.ntmps51
  go_upto_region 1 with fail
  refine regD (fun V => V.cell? ⟨b, 0, none⟩ = some vl) (fun j => decide (j < 12)) (by kernel_rfl) ?_
  have hS : W.drew.cell? ⟨b, 0, none⟩ = some vl := hcell
  refine takeE (i := 0) (.pointer (some ⟨b, 0, none⟩)) (d := some 5) rfl (by kernel_rfl) (by kernel_rfl) (by kernel_rfl) (by kernel_rfl) (fun _ _ _ h => h) rfl (fun W hSw => by exact exec_mv rfl rfl) hS rfl ?_
  simp only [Act.put, List.setIfInBounds_toArray, List.set_cons_zero, List.set_cons_succ]
  refine takeE (i := 1) (.pointer (some ⟨b, 0, none⟩)) (d := some 6) rfl (by kernel_rfl) (by kernel_rfl) (by kernel_rfl) (by kernel_rfl) (fun _ _ _ h => h) rfl (fun W hSw => by exact exec_mv rfl rfl) hS rfl ?_
  simp only [Act.put, List.setIfInBounds_toArray, List.set_cons_zero, List.set_cons_succ]
  refine takeE (i := 2) (.pointer (some ⟨b, 0, none⟩)) (d := some 7) rfl (by kernel_rfl) (by kernel_rfl) (by kernel_rfl) (by kernel_rfl) (fun _ _ _ h => h) rfl (fun W hSw => by exact exec_nilP rfl rfl) hS rfl ?_
  simp only [Act.put, List.setIfInBounds_toArray, List.set_cons_zero, List.set_cons_succ]
  refine takeE (i := 3) (.pointer (some ⟨b, 0, none⟩)) (d := some 8) rfl (by kernel_rfl) (by kernel_rfl) (by kernel_rfl) (by kernel_rfl) (fun _ _ _ h => h) rfl (fun W hSw => by exact exec_fldLog rfl rfl) hS rfl ?_
  simp only [Act.put, List.setIfInBounds_toArray, List.set_cons_zero, List.set_cons_succ]
  refine takeE (i := 4) vl (d := some 9) rfl (by kernel_rfl) (by kernel_rfl) (by kernel_rfl) (by kernel_rfl) (fun _ _ _ h => h) rfl (fun W hSw => by exact exec_ldstrs rfl rfl hSw) hS rfl ?_
  simp only [Act.put, List.setIfInBounds_toArray, List.set_cons_zero, List.set_cons_succ]
  refine takeE (i := 5) (.slice (some ⟨bk, 0, none⟩) m c) (d := some 10) rfl (by kernel_rfl) (by kernel_rfl) (by kernel_rfl) (by kernel_rfl) (fun _ _ _ h => h) rfl (fun W hSw => by exact exec_mv rfl rfl) hS rfl ?_
  simp only [Act.put, List.setIfInBounds_toArray, List.set_cons_zero, List.set_cons_succ]
  have hS0 : Below W.heap.size W W.drew := hd
  generalize W.drew = V0 at hS hS0 ⊢
  refine stepD 6 (by kernel_rfl) rfl rfl (fun K hK => ?_)
  go_simp
  go_at_call 65
  refine (HJ.out V0 hS0).mono ?_
  rintro e V1 ⟨rfl, hb1⟩
  have hB1 := hS0.trans (hb1.mono hS0.size)
  have hS1 : V1.cell? ⟨b, 0, none⟩ = some vl := (hB1.cell (p := ⟨b, 0, none⟩) (heap_lt hbx)).trans hcell
  go_simp
  refine hK _ _ (fun _ => hS1) ?_
  clear hK K
  obtain ⟨z, hz⟩ : ∃ z, z = (⟨(Lib.join (ws.map (·.data.toList)) [32]).toArray⟩ : ByteArray) := ⟨_, rfl⟩
  obtain ⟨zz, hzz⟩ : ∃ zz, zz = z ++ (⟨#[10]⟩ : ByteArray) := ⟨_, rfl⟩
  have hzl : zz = ⟨(lineL ws).toArray⟩ := by
    rw [hzz, hz]
    apply ByteArray.ext
    rw [ByteArray.data_append]
    show (Lib.join (ws.map (·.data.toList)) [32]).toArray ++ #[10] = _
    simp [lineL]
  have hzs : z.size + 1 ≤ 9223372036854775807 := by
    have h1 : (lineL ws).length = (Lib.join (ws.map (·.data.toList)) [32]).length + 1 := by simp [lineL]
    have h2 : z.size = (Lib.join (ws.map (·.data.toList)) [32]).length := by rw [hz]; show (Lib.join (ws.map (·.data.toList)) [32]).toArray.size = _; rw [List.size_toArray]
    omega
  have HZL := hid hzl
  change wpAnyD _ _ _ _ _ _ _ _ { tmps := #[_, _, _, _, _, _, _, _, _, _, _, .string ⟨(Lib.join (ws.map (·.data.toList)) [32]).toArray⟩, _, _, _, _, _, _, _, _, _, _], defers := _ } _
  rw [← hz]
  have HZZ := hid hzz
  clear hz hzl hzz
  refine stepD 7 (by kernel_rfl) rfl rfl (fun K hK => ?_)
  go_simp
  rw [if_neg (by omega)]
  go_simp
  refine hK _ _ (fun _ => hS1) ?_
  clear hK K
  rw [← HZZ.out]
  refine stepD 8 (by kernel_rfl) rfl rfl (fun K hK => ?_)
  go_simp
  have hal : Below V1.heap.size V1 (V1.alloc (.cells #[.string zz] 9)) := (Below.refl _ _).alloc (Nat.le_refl _) _
  have hB2 := hB1.trans (hal.mono hB1.size)
  have hS2 : (V1.alloc (.cells #[.string zz] 9)).cell? ⟨b, 0, none⟩ = some vl := (hB2.cell (p := ⟨b, 0, none⟩) (heap_lt hbx)).trans hcell
  have hk2 := cell_of_row _ V1.heap.size 0 _ _ _ (heap_alloc_new V1 (.cells #[.string zz] 9))
  refine hK _ _ (fun _ => hS2) ?_
  clear hK K
  obtain ⟨gz, hgz⟩ : ∃ gz, V1.heap.size = gz := ⟨_, rfl⟩
  rw [hgz] at hk2 ⊢
  generalize V1.alloc (.cells #[.string zz] 9) = V2 at hB2 hS2 hk2 ⊢
  refine stepD 9 (by kernel_rfl) rfl rfl (fun K hK => ?_)
  refine wpO_app_str (.tmp 9) (.tmp 13) rfl B vl ls rfl (hrow.below hB2) zz gz 1 rfl hk2 (by omega) (Nat.le_trans hB hB2.size) fun v' V3 hr3 hg3 => ?_
  have hbne : vl.ownBlock ≠ some b := fun e => by
    obtain ⟨_, cs', hc'⟩ := hrow.own b e
    rw [hbx] at hc'
    cases hc'
    exact hts rfl
  have hbx3 : V3.heap[b]? = some (.cells cs t (0, 0)) := (hg3.block b (heap_lt (heap_below hB2 hbx (heap_lt hbx))) (fun e => hbne e.symm)).trans (heap_below hB2 hbx (heap_lt hbx))
  have hS3 : V3.cell? ⟨b, 0, none⟩ = some vl := by rw [cell_of_row _ _ 0 _ _ _ hbx3, h0]
  refine hK _ _ (fun _ => hS3) ?_
  clear hK K
  simp only [Act.put, List.setIfInBounds_toArray, List.set_cons_zero, List.set_cons_succ]
  have HR3 := hid hr3
  obtain ⟨p3, c3, hv3⟩ := hr3.slice
  rw [List.length_append, List.length_singleton] at hv3
  obtain ⟨n1, hn1⟩ : ∃ n1, ls.length + 1 = n1 := ⟨_, rfl⟩
  rw [hn1] at hv3
  subst hv3
  refine stepD 10 (by kernel_rfl) rfl rfl (fun K hK => ?_)
  go_simp
  refine hK _ _ (fun _ => hS3) ?_
  clear hK K
  refine stepD 11 (by kernel_rfl) rfl rfl (fun K hK => ?_)
  go_simp
  refine hK _ _ (fun _ => hS3) ?_
  clear hK K
  have hfz := frozen_of_row _ _ 0 _ _ hbx3
  refine stepD 12 (by kernel_rfl) rfl rfl (fun K hK => ?_)
  go_simp
  refine hK _ _ (fun h => by cases h) ?_
  clear hK K
  refine doneD (by kernel_rfl) ?_ _
  refine OnlyNorm.normal ?_
  have hbx4 : (V3.setCell ⟨b, 0, none⟩ (.slice p3 n1 c3)).heap[b]? = some (.cells (cs.setIfInBounds 0 (.slice p3 n1 c3)) t (0, 0)) := heap_setCell_same V3 b 0 _ t _ hbx3
  rename_i Q' K hK
  change K _ _
  refine hK _ _ ?_
  clear hK K
  subst Q'
  have hk4 := cell_of_row _ b 0 _ _ _ hbx4
  have hsz : 0 < cs.size := (Array.getElem?_eq_some_iff.1 h0).1
  rw [show (cs.setIfInBounds 0 (Value.slice p3 n1 c3))[0]? = some (Value.slice p3 n1 c3) from by simp [hsz]] at hk4
  have hzl := HZL.out
  have hso : OnlyIn b vl W (V3.setCell ⟨b, 0, none⟩ (.slice p3 n1 c3)) :=
    ⟨(by show V3.os = W.os; exact hg3.os.trans hB2.os), by simpa using hg3.tape.trans hB2.tape, (by show V3.output = W.output; exact hg3.output.trans hB2.output),
      by simpa using Nat.le_trans hB2.size hg3.size, fun k o ho hkb hko => (heap_setCell_other V3 ⟨b, 0, none⟩ k _ hkb).trans ((hg3.block k (heap_lt (heap_below hB2 ho (heap_lt ho))) (fun e => hko e.symm)).trans (heap_below hB2 ho (heap_lt ho)))⟩
  have hr4 : StrRow (V3.setCell ⟨b, 0, none⟩ (.slice p3 n1 c3)) B (.slice p3 n1 c3) (ls ++ [⟨(lineL ws).toArray⟩]) := by
    rw [← hzl]
    refine HR3.out.kept fun k o hk ho => (heap_setCell_other V3 ⟨b, 0, none⟩ k _ fun e => ?_).trans ho
    have e' : k = b := e
    subst e'
    obtain ⟨_, cs', hc'⟩ := HR3.out.own _ hk
    rw [hbx3] at hc'
    cases hc'
    exact hts rfl
  have HO := hid (And.intro hso hr4)
  have hn2 : ((n1 : Nat) : Int) = ((ls.length + 1 : Nat) : Int) := by rw [hn1]
  rw [← hn2]
  clear hn1 hn2 hso hr4 hzl HZL HZZ HR3 hr3 hg3 HJ hjn hjl
  generalize V3.setCell ⟨b, 0, none⟩ (.slice p3 n1 c3) = V4 at hk4 hbx4 HO ⊢
  go_upto_region 99 with fail
  go_ret
  exact ⟨rfl, HO.out.1, _, HO.out.2, hbx4⟩
end Go.Proofs.YtbcileppebpamaaGreatDoor
