/- Lemmas for WitnessDraws: part 4. -/
import Derived.Test.YtbcileppebpamaaGreatDoorKb03
set_option linter.unusedSimpArgs false
set_option linter.unusedVariables false
namespace Go.Proofs.YtbcileppebpamaaGreatDoor
open Go Go.RowKit Go.Shelf
set_option maxRecDepth 100000
/-- The shares of a value, or the error. -/
def splitR (v b : Int) (xs : List Int) : List Int × Int :=
  if inR b 1 1000000000 = false ∨ inR v 0 (b - 1) = false then ([], 3) else if (combR b xs).2 ≠ 0 then ([], (combR b xs).2) else (xs ++ [(v + (b - (combR b xs).1) % b) % b], 0)
theorem addO_lt (b : Nat) (hb : 0 < b) : ∀ (xs : List Int) (n r : Nat), n < b → addO b xs n = some r → r < b
  | [], n, r, hn, h => by
    simp only [addO, Option.some.injEq] at h
    omega
  | s :: l, n, r, hn, h => by
    rw [addO] at h
    split at h
    · exact addO_lt b hb l _ r (Nat.mod_lt _ hb) h
    · cases h
theorem comb_ok (b : Int) (xs : List Int) (h : (combR b xs).2 = 0) (hb : inR b 1 1000000000 = true) : ∃ B n : Nat, b = ((B : Nat) : Int) ∧ (combR b xs).1 = ((n : Nat) : Int) ∧ n < B := by
  obtain ⟨h1, h2⟩ := (inR_iff _ _ _).1 hb
  obtain ⟨B, rfl⟩ : ∃ n : Nat, b = ((n : Nat) : Int) := ⟨b.toNat, by omega⟩
  unfold combR at h ⊢
  rw [if_neg (by rw [hb]; simp)] at h ⊢
  split at h
  · simp at h
  · rename_i h30
    rw [if_neg h30]
    rw [Int.toNat_natCast] at h ⊢
    cases ha : addO B xs 0 with
    | none => rw [ha] at h; simp at h
    | some n => exact ⟨B, n, rfl, rfl, addO_lt B (by omega) xs 0 n (by omega) ha⟩
set_option maxHeartbeats 4000000 in
theorem Split_c (v b : Int) (xs : List Int) (u : Value) (w : World) (hr : ReadsA w u xs) (hl : xs.length ≤ 1000000) (hbw : -9223372036854775808 ≤ b ∧ b ≤ 9223372036854775807) :
    Calls Tryz.prog 30 #[.int .i64 v, .int .i64 b, u] w fun e w' => ∃ l, e = .returned (.tuple #[l, .int .i64 (splitR v b xs).2]) ∧ Ints w' w.heap.size l (splitR v b xs).1 ∧ Below w.heap.size w w' := by
  have hnil : ∀ W : World, ∀ B, Ints W B (.slice none 0 0) [] := fun W B => ⟨rfl, .inl ⟨rfl, rfl⟩⟩
  have h1 := within_c b 1 1000000000 w
  obtain ⟨p, c, rfl⟩ := hr.form
  unfold splitR
  cases hb : inR b 1 1000000000 with
  | false =>
    rw [show (decide ((1 : Int) ≤ b) && decide (b ≤ 1000000000)) = false from hb] at h1
    have H1 := hid h1
    have HN := hid hnil
    rw [if_pos (.inl rfl)]
    clear h1 hr hnil
    go_enter Tryz.func30, Tryz.ntmps30
    go_wp2_with (go_at_call 36; refine H1.out.mono ?_; rintro e w1 ⟨rfl, rfl⟩)
    go_ret2
    exact ⟨_, rfl, HN.out _ _, Below.refl _ _⟩
  | true =>
    rw [show (decide ((1 : Int) ≤ b) && decide (b ≤ 1000000000)) = true from hb] at h1
    have H1 := hid h1
    obtain ⟨hb1, hb2⟩ := (inR_iff _ _ _).1 hb
    have hbm : IntKind.i64.wrap (b - 1) = b - 1 := IntWalk.i64_in _ (by omega)
    have h2 := within_c v 0 (b - 1) w
    have HD := hid trivial
    cases hv : inR v 0 (b - 1) with
    | false =>
      rw [show (decide ((0 : Int) ≤ v) && decide (v ≤ b - 1)) = false from hv] at h2
      have H2 := hid h2
      have HN := hid hnil
      rw [if_pos (.inr rfl)]
      clear h1 h2 hr hnil hb hv
      go_enter Tryz.func30, Tryz.ntmps30
      go_wp2_with (first
        | (go_at_call 36; have hq := HD; clear hq HD; refine H1.out.mono ?_; rintro e w1 ⟨rfl, rfl⟩)
        | (go_at_call 36; refine H2.out.mono ?_; rintro e w1 ⟨rfl, rfl⟩))
      go_ret2
      exact ⟨_, rfl, HN.out _ _, Below.refl _ _⟩
    | true =>
      rw [show (decide ((0 : Int) ≤ v) && decide (v ≤ b - 1)) = true from hv] at h2
      have H2 := hid h2
      obtain ⟨hv1, hv2⟩ := (inR_iff _ _ _).1 hv
      rw [if_neg (by simp)]
      have HC := hid (Combine_c b xs _ w hr hl)
      have hXR0 := fun W (hW : Below w.heap.size w W) => hr.below hW
      by_cases he : (combR b xs).2 = 0
      · rw [if_neg (by rw [he]; simp)]
        obtain ⟨B, n, rfl, hn, hnB⟩ := comb_ok b xs he hb
        rw [he] at HC
        rw [hn] at HC ⊢
        obtain ⟨V, rfl⟩ : ∃ V : Nat, v = ((V : Nat) : Int) := ⟨v.toNat, by omega⟩
        have hsw : IntKind.i64.wrap (((B : Nat) : Int) - ((n : Nat) : Int)) = ((B - n : Nat) : Int) := (IntWalk.i64_in _ (by omega)).trans (by omega)
        obtain ⟨d, hd⟩ : ∃ d, B - n = d := ⟨_, rfl⟩
        have hdi : ((B : Nat) : Int) - ((n : Nat) : Int) = ((d : Nat) : Int) := by omega
        rw [hd] at hsw
        rw [hdi]
        have htm := tmod_nat d B
        have hrB : d % B < B := Nat.mod_lt _ (by omega)
        have hB0 : (((B : Nat) : Int) == 0) = false := by simp; omega
        have hB0' : ((B : Nat) : Int) ≠ 0 := by omega
        have hrw : IntKind.i64.wrap ((d % B : Nat) : Int) = ((d % B : Nat) : Int) := IntWalk.i64_in _ (by omega)
        obtain ⟨z, hz⟩ : ∃ z, (V + d % B) % B = z := ⟨_, rfl⟩
        have hVm : V % B = V := Nat.mod_eq_of_lt (by omega)
        have hadd : addO B [((V : Nat) : Int), ((d : Nat) : Int) % ((B : Nat) : Int)] 0 = some z := by
          have e1 : ((d : Nat) : Int) % ((B : Nat) : Int) = ((d % B : Nat) : Int) := (Int.natCast_emod _ _).symm
          rw [e1, addO, if_pos ⟨by omega, by omega⟩, addO, if_pos ⟨by omega, by omega⟩, addO, Int.toNat_natCast, Int.toNat_natCast, Nat.zero_add, hVm, hz]
        have HA2 := hid (show ∀ (W : World) (g : Nat), W.heap[g]? = some (.cells #[.int .i64 ((V : Nat) : Int), .int .i64 (((d : Nat) : Int) % ((B : Nat) : Int))] 3 (0, 0)) → Calls Tryz.prog 63 #[.int .i64 ((B : Nat) : Int), .slice (some ⟨g, 0, none⟩) 2 2] W fun e w' => e = .returned (.tuple #[.int .i64 ((z : Nat) : Int), .bool true]) ∧ Below W.heap.size W w' from fun W g hg => by
          have h := add_c B ⟨by omega, by omega⟩ [((V : Nat) : Int), ((d : Nat) : Int) % ((B : Nat) : Int)] (.slice (some ⟨g, 0, none⟩) 2 2) W (.inr ⟨⟨g, 0, none⟩, 2, rfl, fun _ => heap_lt hg, fun k hk => by
            rcases k with _ | _ | k
            · exact cell_of_row W g 0 _ _ _ hg
            · exact cell_of_row W g 1 _ _ _ hg
            · exact absurd hk (by simp)⟩) (by simp)
          rw [hadd] at h
          exact h)
        have hlast : (((V : Nat) : Int) + ((d : Nat) : Int) % ((B : Nat) : Int)) % ((B : Nat) : Int) = ((z : Nat) : Int) := by rw [← hz]; push_cast; rfl
        rw [hlast]
        have HCL := hid (fun W (hW : Below w.heap.size w W) => clone_c xs _ W (hXR0 W hW) hl)
        clear h1 h2 hr hnil hb hv hadd hz hn hdi hd he hlast
        go_enter Tryz.func30, Tryz.ntmps30
        go_wp2_with (first
          | (go_at_call 36; have hq := HD; clear hq HD; refine H1.out.mono ?_; rintro e w1 ⟨rfl, rfl⟩)
          | (go_at_call 36; refine H2.out.mono ?_; rintro e w1 ⟨rfl, rfl⟩)
          | (go_at_call 68; refine HC.out.mono ?_; rintro e w2 ⟨rfl, hbc⟩; have hal : Below w.heap.size w (w2.alloc (.cells #[.int .i64 ((V : Nat) : Int), .int .i64 (((d : Nat) : Int) % ((B : Nat) : Int))] 3)) := hbc.trans ((Below.refl _ _).alloc hbc.size _))
          | (go_at_call 63; refine (HA2.out (w2.alloc (.cells #[.int .i64 ((V : Nat) : Int), .int .i64 (((d : Nat) : Int) % ((B : Nat) : Int))] 3)) w2.heap.size (heap_alloc_new _ _)).mono ?_; rintro e w3 ⟨rfl, hb3⟩; have hb3' := hal.trans (hb3.mono hal.size))
          | (go_at_call 69; refine (HCL.out w3 hb3').mono ?_; rintro e w4 ⟨vc, rfl, hvc, hb4⟩; have hb4' := hb3'.trans (hb4.mono hb3'.size); have hal4 : Below w4.heap.size w4 (w4.alloc (.cells #[.int .i64 ((z : Nat) : Int)] 3)) := (Below.refl _ _).alloc (Nat.le_refl _) _; have hvc4 := (hvc.below hal4).mono hb3'.size; have hc4 := cell_of_row _ w4.heap.size 0 _ _ _ (heap_alloc_new w4 (.cells #[.int .i64 ((z : Nat) : Int)] 3)); have hb5 := hb4'.trans (hal4.mono hb4'.size))
          | (refine wp_append_int rfl (.tmp 44) (.tmp 46) rfl w.heap.size vc xs rfl hvc4 _ w4.heap.size 1 rfl hc4 (by omega) hb5.size fun v6 w6 hv6 hg6 => ?_; have hb6 := grown_below hb5 hg6 hvc4 (Nat.le_refl _) hb5.size))
        go_ret2
        exact ⟨_, rfl, hv6, hb6⟩
      · rw [if_pos he]
        obtain ⟨z, hz⟩ : ∃ z, (combR b xs).2 = z := ⟨_, rfl⟩
        obtain ⟨y, hy⟩ : ∃ y, (combR b xs).1 = y := ⟨_, rfl⟩
        rw [hz] at he HC ⊢
        rw [hy] at HC
        have hz0 : (z != 0) = true := by simpa using he
        have HN := hid hnil
        clear h1 h2 hr hnil hb hv hz hy he hXR0
        go_enter Tryz.func30, Tryz.ntmps30
        go_wp2_with (first
          | (go_at_call 36; have hq := HD; clear hq HD; refine H1.out.mono ?_; rintro e w1 ⟨rfl, rfl⟩)
          | (go_at_call 36; refine H2.out.mono ?_; rintro e w1 ⟨rfl, rfl⟩)
          | (go_at_call 68; refine HC.out.mono ?_; rintro e w2 ⟨rfl, hbc⟩))
        go_ret2
        exact ⟨_, rfl, HN.out _ _, hbc⟩
end Go.Proofs.YtbcileppebpamaaGreatDoor
set_option linter.unusedSimpArgs false
set_option linter.unusedVariables false
namespace Go.Proofs.YtbcileppebpamaaGreatDoor
open Go Go.RowKit Go.Shelf
set_option maxRecDepth 100000
theorem infoStr : (Tryz.prog.info? 9).map (fun i => (i.zero, i.size, i.bytes)) = some (some (.string ⟨#[]⟩), 1, 16) := by kernel_rfl
/-- Only block b, the row's own block and new ones have changed. -/
structure OnlyIn (b : Nat) (vl : Value) (W W' : World) : Prop where
  os : W'.os = W.os
  tape : W'.tape = W.tape
  output : W'.output = W.output
  size : W.heap.size ≤ W'.heap.size
  block : ∀ k o, W.heap[k]? = some o → k ≠ b → vl.ownBlock ≠ some k → W'.heap[k]? = some o
/-- The texts of a row. -/
def StrRow (W : World) (B : Nat) (v : Value) (ls : List ByteArray) : Prop := W.ownsRow B 9 1 v ls.length (ls.map Value.string)
theorem StrRow.below {W W' : World} {B : Nat} {v : Value} {ls : List ByteArray} (h : StrRow W B v ls) (hb : Below W.heap.size W W') : StrRow W' B v ls :=
  ⟨h.1, h.2.imp id fun ⟨g, cap, cur, h3, h4, h5, h6⟩ => ⟨g, cap, cur, h3, h4, heap_below hb h5 (heap_lt h5), h6⟩⟩
theorem StrRow.own {W : World} {B : Nat} {v : Value} {ls : List ByteArray} (h : StrRow W B v ls) : ∀ k, v.ownBlock = some k → B ≤ k ∧ ∃ cs, W.heap[k]? = some (.cells cs 9 (0, 0)) := fun k hk => by
  rcases h.2 with ⟨h3, _⟩ | ⟨g, cap, cur, h3, h4, h5, _⟩
  · rw [h3] at hk; cases hk
  · rw [h3] at hk
    have : g = k := by simpa [Value.ownBlock] using hk
    subst this
    exact ⟨h4, _, h5⟩
theorem StrRow.kept {W W' : World} {B : Nat} {v : Value} {ls : List ByteArray} (h : StrRow W B v ls) (hk : ∀ k o, v.ownBlock = some k → W.heap[k]? = some o → W'.heap[k]? = some o) : StrRow W' B v ls :=
  ⟨h.1, h.2.imp id fun ⟨g, cap, cur, h3, h4, h5, h6⟩ => ⟨g, cap, cur, h3, h4, hk g _ (by rw [h3]; rfl) h5, h6⟩⟩
theorem StrRow.slice {W : World} {B : Nat} {v : Value} {ls : List ByteArray} (h : StrRow W B v ls) : ∃ p c, v = .slice p ls.length c := by
  rcases h.2 with ⟨h3, h4⟩ | ⟨g, cap, cur, h3, _⟩
  · exact ⟨none, 0, by rw [h3, h4]⟩
  · exact ⟨_, _, h3⟩
theorem wpO_app_str {o : Oper} {a : Act} {w : World} {K : Act → World → Prop} {Q : Exit → Act → World → Prop} (s x : Operand)
    (ho : o.op = .call { callee := .builtin .append, args := #[s, x], argTypes := #[22, 22] }) (B : Nat) (v : Value) (ls : List ByteArray) (hs : a.eval s = v) (hown : StrRow w B v ls)
    (z : ByteArray) (g c : Nat) (hx : a.eval x = .slice (some ⟨g, 0, none⟩) 1 c) (hc : w.cell? ⟨g, 0, none⟩ = some (.string z)) (hlen : ls.length < 1000000000) (hB : B ≤ w.heap.size)
    (h : ∀ v' w', StrRow w' B v' (ls ++ [z]) → w.grownBy w' v.ownBlock → K (a.put o.dst v') w') : o.wp Tryz.prog a w K Q := by
  obtain ⟨i0, hi, hz0, hz1, hz2⟩ := info_parts infoStr
  obtain ⟨v', w', hrun, r1, r2, r3⟩ := run_append_own (P := Tryz.prog) w B 22 o.type 9 i0 (.string ⟨#[]⟩) 1 16 Tryz.underlying22 hi hz0 hz1 hz2 rfl (by decide) v ls.length _ hown ⟨g, 0, none⟩ 1 c [.string z] rfl
    (fun j u hj => by
      obtain rfl : j = 0 := by
        cases j with
        | zero => rfl
        | succ j => simp at hj
      simp at hj; subst hj; exact hc) (fun u hu => by simp at hu; subst hu; rfl) (by unfold maxLen; omega) (by omega) hB
  unfold Oper.wp execOp
  simp only [ho, resolve, invoke, builtin, Sem.run_bind, Sem.run_pure, Result.andThen_ok, List.map_toArray, List.map_cons, List.map_nil, hs, hx, hrun]
  refine h v' w' ?_ r2
  unfold StrRow
  simpa using r1
theorem exec_nilP {P : Program} {ev : Operand → Value} {o : Oper} {x : Operand} {p : Addr} {W : World} (ho : o.op = .nilCheck x) (hx : ev x = .pointer (some p)) : (execOp ev o).run P W = .ok (.value (.pointer (some p))) W := by simp [execOp, ho, hx]
theorem exec_fldLog {ev : Operand → Value} {o : Oper} {x : Operand} {b : Nat} {W : World} (ho : o.op = .fieldAddr 97 x 0) (hx : ev x = .pointer (some ⟨b, 0, none⟩)) : (execOp ev o).run Tryz.prog W = .ok (.value (.pointer (some ⟨b, 0, none⟩))) W := by
  simp [execOp, ho, hx]
  go_simp
theorem exec_ldstrs {ev : Operand → Value} {o : Oper} {x : Operand} {p : Addr} {W : World} {v : Value} (ho : o.op = .load 22 x) (hx : ev x = .pointer (some p)) (hg : W.cell? p = some v) : (execOp ev o).run Tryz.prog W = .ok (.value v) W := by
  simp [execOp, ho, hx]
  go_simp
/-- A line of words. -/
def lineL (ws : List ByteArray) : List UInt8 := Lib.join (ws.map (·.data.toList)) [32] ++ [10]
set_option maxHeartbeats 4000000 in
theorem write_c (b B : Nat) (cs : Array Value) (t : TypeId) (vl : Value) (ls ws : List ByteArray) (bk c : Nat) (W : World) (hbx : W.heap[b]? = some (.cells cs t (0, 0))) (hts : t ≠ 9) (h0 : cs[0]? = some vl)
    (hrow : StrRow W B vl ls) (hB : B ≤ W.heap.size) (hwc : ∀ (j : Nat) x, ws[j]? = some x → W.cell? ⟨bk, 0 + j, none⟩ = some (.string x)) (hbk : bk < W.heap.size) (hcap : ws.length ≤ c) (hls : ls.length < 1000000) (hwl : ws.length < 1000000)
    (hjl : (lineL ws).length ≤ 1000000000) :
    Calls Tryz.prog 51 #[.pointer (some ⟨b, 0, none⟩), .slice (some ⟨bk, 0, none⟩) ws.length c] W fun e W' => e = .returned (.int .i64 ((ls.length + 1 : Nat) : Int)) ∧ OnlyIn b vl W W' ∧
      ∃ vl', StrRow W' B vl' (ls ++ [⟨(lineL ws).toArray⟩]) ∧ W'.heap[b]? = some (.cells (cs.setIfInBounds 0 vl') t (0, 0)) := by
  have hcell : W.cell? ⟨b, 0, none⟩ = some vl := by rw [cell_of_row _ _ 0 _ _ _ hbx, h0]
  have hjn := fun W' (hW' : Below W.heap.size W W') => strings_Join bk 0 c ws ⟨#[32]⟩ W' (fun j x hx => (hW'.cell (p := ⟨bk, 0 + j, none⟩) hbk).trans (hwc j x hx)) (Nat.lt_of_lt_of_le hbk hW'.size) (by omega) hcap (by
    have : (lineL ws).length = (Lib.join (ws.map (·.data.toList)) [32]).length + 1 := by simp [lineL]
    show (Lib.join (ws.map (·.data.toList)) [32]).length ≤ _
    omega)
  have HJ := hid hjn
  have hd : Below W.heap.size W W.drew := ⟨rfl, rfl, rfl, Nat.le_refl _, fun _ _ => rfl⟩
  obtain ⟨m, hm⟩ : ∃ m, ws.length = m := ⟨_, rfl⟩
  rw [hm] at HJ ⊢
  go_enter Tryz.func51, Tryz.ntmps51
  go_upto_region 1 with fail
  refine regD (fun V => V.cell? ⟨b, 0, none⟩ = some vl) (fun j => decide (j < 12)) (by kernel_rfl) ?_
  have hS : W.drew.cell? ⟨b, 0, none⟩ = some vl := hcell
  refine takeE (i := 0) (.pointer (some ⟨b, 0, none⟩)) (d := some 5) rfl (by kernel_rfl) (by kernel_rfl) (by kernel_rfl) (by kernel_rfl) (fun _ _ _ h => h) rfl (fun W hSw => by exact exec_mv rfl rfl) hS rfl ?_
  simp only [Act.put, List.setIfInBounds_toArray, List.set_cons_zero, List.set_cons_succ]
  refine takeE (i := 1) (.pointer (some ⟨b, 0, none⟩)) (d := some 6) rfl (by kernel_rfl) (by kernel_rfl) (by kernel_rfl) (by kernel_rfl) (fun _ _ _ h => h) rfl (fun W hSw => by exact exec_mv rfl rfl) hS rfl ?_
  simp only [Act.put, List.setIfInBounds_toArray, List.set_cons_zero, List.set_cons_succ]
  refine takeE (i := 2) (.pointer (some ⟨b, 0, none⟩)) (d := some 7) rfl (by kernel_rfl) (by kernel_rfl) (by kernel_rfl) (by kernel_rfl) (fun _ _ _ h => h) rfl (fun W hSw => by exact exec_nilP rfl rfl) hS rfl ?_
  simp only [Act.put, List.setIfInBounds_toArray, List.set_cons_zero, List.set_cons_succ]
  refine takeE (i := 3) (.pointer (some ⟨b, 0, none⟩)) (d := some 8) rfl (by kernel_rfl) (by kernel_rfl) (by kernel_rfl) (by kernel_rfl) (fun _ _ _ h => h) rfl (fun W hSw => by exact exec_fldLog rfl rfl) hS rfl ?_
  simp only [Act.put, List.setIfInBounds_toArray, List.set_cons_zero, List.set_cons_succ]
  refine takeE (i := 4) vl (d := some 9) rfl (by kernel_rfl) (by kernel_rfl) (by kernel_rfl) (by kernel_rfl) (fun _ _ _ h => h) rfl (fun W hSw => by exact exec_ldstrs rfl rfl hSw) hS rfl ?_
  simp only [Act.put, List.setIfInBounds_toArray, List.set_cons_zero, List.set_cons_succ]
  refine takeE (i := 5) (.slice (some ⟨bk, 0, none⟩) m c) (d := some 10) rfl (by kernel_rfl) (by kernel_rfl) (by kernel_rfl) (by kernel_rfl) (fun _ _ _ h => h) rfl (fun W hSw => by exact exec_mv rfl rfl) hS rfl ?_
  simp only [Act.put, List.setIfInBounds_toArray, List.set_cons_zero, List.set_cons_succ]
  have hS0 : Below W.heap.size W W.drew := hd
  generalize W.drew = V0 at hS hS0 ⊢
  refine stepD 6 (by kernel_rfl) rfl rfl (fun K hK => ?_)
  go_simp
  go_at_call 65
  refine (HJ.out V0 hS0).mono ?_
  rintro e V1 ⟨rfl, hb1⟩
  have hB1 := hS0.trans (hb1.mono hS0.size)
  have hS1 : V1.cell? ⟨b, 0, none⟩ = some vl := (hB1.cell (p := ⟨b, 0, none⟩) (heap_lt hbx)).trans hcell
  go_simp
  refine hK _ _ (fun _ => hS1) ?_
  clear hK K
  obtain ⟨z, hz⟩ : ∃ z, z = (⟨(Lib.join (ws.map (·.data.toList)) [32]).toArray⟩ : ByteArray) := ⟨_, rfl⟩
  obtain ⟨zz, hzz⟩ : ∃ zz, zz = z ++ (⟨#[10]⟩ : ByteArray) := ⟨_, rfl⟩
  have hzl : zz = ⟨(lineL ws).toArray⟩ := by
    rw [hzz, hz]
    apply ByteArray.ext
    rw [ByteArray.data_append]
    show (Lib.join (ws.map (·.data.toList)) [32]).toArray ++ #[10] = _
    simp [lineL]
  have hzs : z.size + 1 ≤ 9223372036854775807 := by
    have h1 : (lineL ws).length = (Lib.join (ws.map (·.data.toList)) [32]).length + 1 := by simp [lineL]
    have h2 : z.size = (Lib.join (ws.map (·.data.toList)) [32]).length := by rw [hz]; show (Lib.join (ws.map (·.data.toList)) [32]).toArray.size = _; rw [List.size_toArray]
    omega
  have HZL := hid hzl
  change wpAnyD _ _ _ _ _ _ _ _ { tmps := #[_, _, _, _, _, _, _, _, _, _, _, .string ⟨(Lib.join (ws.map (·.data.toList)) [32]).toArray⟩, _, _, _, _, _, _, _, _, _, _], defers := _ } _
  rw [← hz]
  have HZZ := hid hzz
  clear hz hzl hzz
  refine stepD 7 (by kernel_rfl) rfl rfl (fun K hK => ?_)
  go_simp
  rw [if_neg (by omega)]
  go_simp
  refine hK _ _ (fun _ => hS1) ?_
  clear hK K
  rw [← HZZ.out]
  refine stepD 8 (by kernel_rfl) rfl rfl (fun K hK => ?_)
  go_simp
  have hal : Below V1.heap.size V1 (V1.alloc (.cells #[.string zz] 9)) := (Below.refl _ _).alloc (Nat.le_refl _) _
  have hB2 := hB1.trans (hal.mono hB1.size)
  have hS2 : (V1.alloc (.cells #[.string zz] 9)).cell? ⟨b, 0, none⟩ = some vl := (hB2.cell (p := ⟨b, 0, none⟩) (heap_lt hbx)).trans hcell
  have hk2 := cell_of_row _ V1.heap.size 0 _ _ _ (heap_alloc_new V1 (.cells #[.string zz] 9))
  refine hK _ _ (fun _ => hS2) ?_
  clear hK K
  obtain ⟨gz, hgz⟩ : ∃ gz, V1.heap.size = gz := ⟨_, rfl⟩
  rw [hgz] at hk2 ⊢
  generalize V1.alloc (.cells #[.string zz] 9) = V2 at hB2 hS2 hk2 ⊢
  refine stepD 9 (by kernel_rfl) rfl rfl (fun K hK => ?_)
  refine wpO_app_str (.tmp 9) (.tmp 13) rfl B vl ls rfl (hrow.below hB2) zz gz 1 rfl hk2 (by omega) (Nat.le_trans hB hB2.size) fun v' V3 hr3 hg3 => ?_
  have hbne : vl.ownBlock ≠ some b := fun e => by
    obtain ⟨_, cs', hc'⟩ := hrow.own b e
    rw [hbx] at hc'
    cases hc'
    exact hts rfl
  have hbx3 : V3.heap[b]? = some (.cells cs t (0, 0)) := (hg3.block b (heap_lt (heap_below hB2 hbx (heap_lt hbx))) (fun e => hbne e.symm)).trans (heap_below hB2 hbx (heap_lt hbx))
  have hS3 : V3.cell? ⟨b, 0, none⟩ = some vl := by rw [cell_of_row _ _ 0 _ _ _ hbx3, h0]
  refine hK _ _ (fun _ => hS3) ?_
  clear hK K
  simp only [Act.put, List.setIfInBounds_toArray, List.set_cons_zero, List.set_cons_succ]
  have HR3 := hid hr3
  obtain ⟨p3, c3, hv3⟩ := hr3.slice
  rw [List.length_append, List.length_singleton] at hv3
  obtain ⟨n1, hn1⟩ : ∃ n1, ls.length + 1 = n1 := ⟨_, rfl⟩
  rw [hn1] at hv3
  subst hv3
  refine stepD 10 (by kernel_rfl) rfl rfl (fun K hK => ?_)
  go_simp
  refine hK _ _ (fun _ => hS3) ?_
  clear hK K
  refine stepD 11 (by kernel_rfl) rfl rfl (fun K hK => ?_)
  go_simp
  refine hK _ _ (fun _ => hS3) ?_
  clear hK K
  have hfz := frozen_of_row _ _ 0 _ _ hbx3
  refine stepD 12 (by kernel_rfl) rfl rfl (fun K hK => ?_)
  go_simp
  refine hK _ _ (fun h => by cases h) ?_
  clear hK K
  refine doneD (by kernel_rfl) ?_ _
  refine OnlyNorm.normal ?_
  have hbx4 : (V3.setCell ⟨b, 0, none⟩ (.slice p3 n1 c3)).heap[b]? = some (.cells (cs.setIfInBounds 0 (.slice p3 n1 c3)) t (0, 0)) := heap_setCell_same V3 b 0 _ t _ hbx3
  rename_i Q' K hK
  change K _ _
  refine hK _ _ ?_
  clear hK K
  subst Q'
  have hk4 := cell_of_row _ b 0 _ _ _ hbx4
  have hsz : 0 < cs.size := (Array.getElem?_eq_some_iff.1 h0).1
  rw [show (cs.setIfInBounds 0 (Value.slice p3 n1 c3))[0]? = some (Value.slice p3 n1 c3) from by simp [hsz]] at hk4
  have hzl := HZL.out
  have hso : OnlyIn b vl W (V3.setCell ⟨b, 0, none⟩ (.slice p3 n1 c3)) :=
    ⟨(by show V3.os = W.os; exact hg3.os.trans hB2.os), by simpa using hg3.tape.trans hB2.tape, (by show V3.output = W.output; exact hg3.output.trans hB2.output),
      by simpa using Nat.le_trans hB2.size hg3.size, fun k o ho hkb hko => (heap_setCell_other V3 ⟨b, 0, none⟩ k _ hkb).trans ((hg3.block k (heap_lt (heap_below hB2 ho (heap_lt ho))) (fun e => hko e.symm)).trans (heap_below hB2 ho (heap_lt ho)))⟩
  have hr4 : StrRow (V3.setCell ⟨b, 0, none⟩ (.slice p3 n1 c3)) B (.slice p3 n1 c3) (ls ++ [⟨(lineL ws).toArray⟩]) := by
    rw [← hzl]
    refine HR3.out.kept fun k o hk ho => (heap_setCell_other V3 ⟨b, 0, none⟩ k _ fun e => ?_).trans ho
    have e' : k = b := e
    subst e'
    obtain ⟨_, cs', hc'⟩ := HR3.out.own _ hk
    rw [hbx3] at hc'
    cases hc'
    exact hts rfl
  have HO := hid (And.intro hso hr4)
  have hn2 : ((n1 : Nat) : Int) = ((ls.length + 1 : Nat) : Int) := by rw [hn1]
  rw [← hn2]
  clear hn1 hn2 hso hr4 hzl HZL HZZ HR3 hr3 hg3 HJ hjn hjl
  generalize V3.setCell ⟨b, 0, none⟩ (.slice p3 n1 c3) = V4 at hk4 hbx4 HO ⊢
  go_upto_region 99 with fail
  go_ret
  exact ⟨rfl, HO.out.1, _, HO.out.2, hbx4⟩
end Go.Proofs.YtbcileppebpamaaGreatDoor
set_option linter.unusedSimpArgs false
set_option linter.unusedVariables false
namespace Go.Proofs.YtbcileppebpamaaGreatDoor
open Go Go.RowKit Go.Shelf
set_option maxRecDepth 100000
/-- What a person did: the hash, the value, the lines of both, and whether the box was the sealed one. -/
structure PS where
  h : ByteArray
  v : Int
  s : Nat
  o : Nat
  r : Bool
/-- A drawing. -/
structure DS where
  ls : List ByteArray
  below : Nat
  ps : List PS
  sl : Nat
  op : Nat
  cl : Nat
def PS.enc (p : PS) : List Value := [.string p.h, .int .i64 p.v, .int .i64 ((p.s : Nat) : Int), .int .i64 ((p.o : Nat) : Int), .bool p.r]
def encP (ps : List PS) : Array Value := (ps.flatMap PS.enc).toArray
theorem encL_len : ∀ (ps : List PS), (ps.flatMap PS.enc).length = 5 * ps.length
  | [] => rfl
  | p :: l => by rw [List.flatMap_cons, List.length_append, encL_len l, List.length_cons]; simp [PS.enc]; omega
theorem encP_size (ps : List PS) : (encP ps).size = 5 * ps.length := by rw [encP, List.size_toArray, encL_len]
theorem encL_get : ∀ (ps : List PS) (i : Nat) (p : PS), ps[i]? = some p → ∀ k, k < 5 → (ps.flatMap PS.enc)[5 * i + k]? = p.enc[k]?
  | [], _, _, h, _, _ => by simp at h
  | x :: l, 0, p, h, k, hk => by
    simp at h; subst h
    rw [List.flatMap_cons, List.getElem?_append_left (by simp [PS.enc]; omega)]
    simp
  | x :: l, i + 1, p, h, k, hk => by
    rw [List.flatMap_cons, List.getElem?_append_right (by simp [PS.enc]; omega)]
    have := encL_get l i p (by simpa using h) k hk
    rw [← this]
    congr 1
    simp [PS.enc]; omega
theorem encP_get (ps : List PS) (i : Nat) (p : PS) (h : ps[i]? = some p) (k : Nat) (hk : k < 5) : (encP ps)[5 * i + k]? = p.enc[k]? := by
  rw [encP, List.getElem?_toArray]
  exact encL_get ps i p h k hk
theorem encL_set : ∀ (ps : List PS) (i : Nat) (p : PS), ps[i]? = some p → ∀ (k : Nat) (v : Value) (p' : PS), k < 5 → p'.enc = p.enc.set k v → (ps.flatMap PS.enc).set (5 * i + k) v = (ps.set i p').flatMap PS.enc
  | [], _, _, h, _, _, _, _, _ => by simp at h
  | x :: l, 0, p, h, k, v, p', hk, hp => by
    simp at h; subst h
    rw [List.set_cons_zero, List.flatMap_cons, List.flatMap_cons, hp, List.set_append_left _ _ (by simp [PS.enc]; omega)]
    simp
  | x :: l, i + 1, p, h, k, v, p', hk, hp => by
    rw [List.set_cons_succ, List.flatMap_cons, List.flatMap_cons, ← encL_set l i p (by simpa using h) k v p' hk hp, List.set_append_right _ _ (by simp [PS.enc]; omega)]
    congr 2
    simp [PS.enc]; omega
theorem encP_set (ps : List PS) (i : Nat) (p : PS) (h : ps[i]? = some p) (k : Nat) (v : Value) (p' : PS) (hk : k < 5) (hp : p'.enc = p.enc.set k v) : (encP ps).setIfInBounds (5 * i + k) v = encP (ps.set i p') := by
  rw [encP, encP, ← encL_set ps i p h k v p' hk hp, List.setIfInBounds_toArray]
def boxV (vl : Value) (q : Nat) (D : DS) : Array Value := #[vl, .int .i64 ((D.below : Nat) : Int), .slice (some ⟨q, 0, none⟩) D.ps.length D.ps.length, .int .i64 ((D.sl : Nat) : Int), .int .i64 ((D.op : Nat) : Int), .int .i64 ((D.cl : Nat) : Int)]
/-- A drawing lies at block b, its persons at block q, its lines from block B on. -/
structure DrawAt (W : World) (B b q : Nat) (D : DS) : Prop where
  box : ∃ vl, W.heap[b]? = some (.cells (boxV vl q D) 100 (0, 0)) ∧ StrRow W B vl D.ls
  row : W.heap[q]? = some (.cells (encP D.ps) 114 (0, 0))
theorem DrawAt.below {W W' : World} {B b q : Nat} {D : DS} (h : DrawAt W B b q D) (hb : Below W.heap.size W W') : DrawAt W' B b q D :=
  ⟨let ⟨vl, h1, h2⟩ := h.box; ⟨vl, heap_below hb h1 (heap_lt h1), h2.below hb⟩, heap_below hb h.row (heap_lt h.row)⟩
theorem DrawAt.ne {W : World} {B b q : Nat} {D : DS} (h : DrawAt W B b q D) : b ≠ q := fun e => by
  obtain ⟨vl, h1, _⟩ := h.box
  have h2 := h.row
  rw [← e, h1] at h2
  exact absurd (Obj.cells.inj (Option.some.inj h2)).2.1 (by decide)
/-- A row of texts. -/
def isStrs : Obj → Bool
  | .cells _ t _ => t == 9
  | _ => false
/-- Only the drawing's own blocks and new ones have changed. -/
structure OnlyD (B b q : Nat) (W W' : World) : Prop where
  os : W'.os = W.os
  tape : W'.tape = W.tape
  output : W'.output = W.output
  size : W.heap.size ≤ W'.heap.size
  block : ∀ k o, W.heap[k]? = some o → k ≠ b → k ≠ q → (k < B ∨ isStrs o = false) → W'.heap[k]? = some o
theorem OnlyD.refl (B b q : Nat) (W : World) : OnlyD B b q W W := ⟨rfl, rfl, rfl, Nat.le_refl _, fun _ _ h _ _ _ => h⟩
theorem OnlyD.trans {B b q : Nat} {X Y Z : World} (h : OnlyD B b q X Y) (k : OnlyD B b q Y Z) : OnlyD B b q X Z :=
  ⟨k.os.trans h.os, k.tape.trans h.tape, k.output.trans h.output, Nat.le_trans h.size k.size, fun j o ho h1 h2 h3 => k.block j o (h.block j o ho h1 h2 h3) h1 h2 h3⟩
theorem OnlyD.below {B b q : Nat} {W W' : World} (h : Below W.heap.size W W') : OnlyD B b q W W' := ⟨h.os, h.tape, h.output, h.size, fun k o ho _ _ _ => heap_below h ho (heap_lt ho)⟩
theorem OnlyD.toB {B b q : Nat} {W W' : World} (h : OnlyD B b q W W') (hb : B ≤ b) (hq : B ≤ q) (hB : B ≤ W.heap.size) : Below B W W' :=
  ⟨h.os, h.tape, h.output, h.size, fun k hk => by
    have hlt : k < W.heap.size := by omega
    exact (h.block k _ (Array.getElem?_eq_getElem hlt) (by omega) (by omega) (.inl hk)).trans (Array.getElem?_eq_getElem hlt).symm⟩
theorem OnlyD.set {B b q : Nat} {W V : World} (h : OnlyD B b q W V) {k : Nat} (hk : k = b ∨ k = q) (i : Nat) (v : Value) : OnlyD B b q W (V.setCell ⟨k, i, none⟩ v) :=
  ⟨by show V.os = W.os; exact h.os, h.tape, by show V.output = W.output; exact h.output, by simpa using h.size, fun j o ho h1 h2 h3 => (heap_setCell_other V ⟨k, i, none⟩ j _ (by rcases hk with rfl | rfl <;> assumption)).trans (h.block j o ho h1 h2 h3)⟩
theorem find_c (B b q : Nat) (D : DS) (p : Int) (W : World) (h : DrawAt W B b q D) (hn : D.ps.length ≤ 30) :
    Calls Tryz.prog 56 #[.pointer (some ⟨b, 0, none⟩), .int .i64 p] W fun e W' => e = .returned (.pointer (if inR p 1 ((D.ps.length : Nat) : Int) = true then some ⟨q, 5 * (p.toNat - 1), none⟩ else none)) ∧ W = W' := by
  obtain ⟨vl, hbx, -⟩ := h.box
  unfold boxV at hbx
  have k2 := cell_of_row _ _ 2 _ _ _ hbx
  have hw := within_c p 1 ((D.ps.length : Nat) : Int) W
  obtain ⟨n, hnn⟩ : ∃ n, D.ps.length = n := ⟨_, rfl⟩
  rw [hnn] at k2 hw hn ⊢
  cases hp : inR p 1 ((n : Nat) : Int) with
  | false =>
    rw [show (decide ((1 : Int) ≤ p) && decide (p ≤ ((n : Nat) : Int))) = false from hp] at hw
    have HW := hid hw
    rw [if_neg (by simp)]
    clear hw hbx h
    go_enter Tryz.func56, Tryz.ntmps56
    go_wp2_with (go_at_call 36; refine HW.out.mono ?_; rintro e w1 ⟨rfl, rfl⟩)
    go_ret
    exact ⟨rfl, rfl⟩
  | true =>
    rw [show (decide ((1 : Int) ≤ p) && decide (p ≤ ((n : Nat) : Int))) = true from hp] at hw
    have HW := hid hw
    rw [if_pos rfl]
    obtain ⟨h1, h2⟩ := (inR_iff _ _ _).1 hp
    obtain ⟨i, rfl⟩ : ∃ i : Nat, p = ((i + 1 : Nat) : Int) := ⟨(p - 1).toNat, by omega⟩
    have hs : IntKind.i64.wrap (((i + 1 : Nat) : Int) - 1) = ((i : Nat) : Int) := (IntWalk.i64_in _ (by omega)).trans (by omega)
    have hin : i < n := by omega
    rw [show (((i + 1 : Nat) : Int)).toNat - 1 = i from by omega]
    clear hw hbx h hp h1 h2
    go_enter Tryz.func56, Tryz.ntmps56
    go_wp2_with (go_at_call 36; refine HW.out.mono ?_; rintro e w1 ⟨rfl, rfl⟩)
    go_ret
    exact ⟨by simp [Nat.mul_comm], rfl⟩
/-- Whether a drawing is over, whether it runs. -/
def DS.over (D : DS) : Bool := decide (0 < D.cl) || D.op == D.ps.length
def DS.running (D : DS) : Bool := D.sl == D.ps.length && !D.over
theorem natCast_beq (a b : Nat) : ((((a : Nat) : Int) == ((b : Nat) : Int)) : Bool) = (a == b) := by
  by_cases h : a = b
  · subst h; simp
  · rw [show (a == b) = false from by simp [h]]; simp; omega
theorem over_c (B b q : Nat) (D : DS) (W : World) (h : DrawAt W B b q D) :
    Calls Tryz.prog 46 #[.pointer (some ⟨b, 0, none⟩)] W fun e W' => e = .returned (.bool D.over) ∧ ∃ m, W' = W.drewN m := by
  obtain ⟨vl, hbx, -⟩ := h.box
  unfold boxV at hbx
  have k2 := cell_of_row _ _ 2 _ _ _ hbx
  have k4 := cell_of_row _ _ 4 _ _ _ hbx
  have k5 := cell_of_row _ _ 5 _ _ _ hbx
  have hd : Below W.heap.size W W.drew := ⟨rfl, rfl, rfl, Nat.le_refl _, fun _ _ => rfl⟩
  unfold DS.over
  by_cases hc : 0 < D.cl
  · have d1 : decide ((0 : Int) < ((D.cl : Nat) : Int)) = true := decide_eq_true (by omega)
    rw [decide_eq_true hc, Bool.true_or]
    clear hbx h
    go_enter Tryz.func46, Tryz.ntmps46
    go_upto_region 1 with fail
    go_quiet (fail)
    go_wp2_with fail
    go_ret
    exact ⟨rfl, _, rfl⟩
  · have d1 : decide ((0 : Int) < ((D.cl : Nat) : Int)) = false := decide_eq_false (by omega)
    rw [decide_eq_false hc, Bool.false_or]
    clear hbx h
    go_enter Tryz.func46, Tryz.ntmps46
    go_upto_region 1 with fail
    go_quiet (fail)
    go_wp2_with fail
    go_ret
    exact ⟨by rw [← natCast_beq]; rfl, _, rfl⟩
theorem drewN_below (W : World) (n : Nat) : Below W.heap.size W (W.drewN n) := below_drewN (Below.refl _ _) _
theorem running_c (B b q : Nat) (D : DS) (W : World) (h : DrawAt W B b q D) :
    Calls Tryz.prog 60 #[.pointer (some ⟨b, 0, none⟩)] W fun e W' => e = .returned (.bool D.running) ∧ ∃ m, W' = W.drewN m := by
  obtain ⟨vl, hbx, -⟩ := h.box
  unfold boxV at hbx
  have k2 := cell_of_row _ _ 2 _ _ _ hbx
  have k3 := cell_of_row _ _ 3 _ _ _ hbx
  have HO := hid (fun n => over_c B b q D (W.drewN n) (h.below (drewN_below W n)))
  unfold DS.running
  by_cases hc : D.sl = D.ps.length
  · have d1 : ((((D.sl : Nat) : Int) == ((D.ps.length : Nat) : Int)) : Bool) = true := by rw [hc]; simp
    rw [show (D.sl == D.ps.length) = true from by simp [hc], Bool.true_and]
    generalize D.over = ov at HO ⊢
    clear hbx h hc
    go_enter Tryz.func60, Tryz.ntmps60
    go_upto_region 1 with fail
    go_quiet ((go_at_call 46; exact Calls.quiet_of (HO.out _)))
    go_wp2_with fail
    go_ret
    exact ⟨rfl, _, rfl⟩
  · have d1 : ((((D.sl : Nat) : Int) == ((D.ps.length : Nat) : Int)) : Bool) = false := by simp; omega
    rw [show (D.sl == D.ps.length) = false from by simp [hc], Bool.false_and]
    clear hbx h hc
    go_enter Tryz.func60, Tryz.ntmps60
    go_upto_region 1 with fail
    go_quiet (fail)
    go_wp2_with fail
    go_ret
    exact ⟨rfl, _, rfl⟩
end Go.Proofs.YtbcileppebpamaaGreatDoor
set_option linter.unusedSimpArgs false
set_option linter.unusedVariables false
namespace Go.Proofs.YtbcileppebpamaaGreatDoor
open Go Go.RowKit Go.Shelf
set_option maxRecDepth 100000
theorem exec_fldD {ev : Operand → Value} {o : Oper} {x : Operand} {b : Nat} {W : World} (k : Nat) (ho : o.op = .fieldAddr 100 x k) (hx : ev x = .pointer (some ⟨b, 0, none⟩)) (hk : k = 0 ∨ k = 1 ∨ k = 2 ∨ k = 3 ∨ k = 4 ∨ k = 5) : (execOp ev o).run Tryz.prog W = .ok (.value (.pointer (some ⟨b, k, none⟩))) W := by
  rcases hk with rfl | rfl | rfl | rfl | rfl | rfl <;> simp [execOp, ho, hx] <;> go_simp
theorem exec_fldP {ev : Operand → Value} {o : Oper} {x : Operand} {q a : Nat} {W : World} (k : Nat) (ho : o.op = .fieldAddr 114 x k) (hx : ev x = .pointer (some ⟨q, a, none⟩)) (hk : k = 0 ∨ k = 1 ∨ k = 2 ∨ k = 3 ∨ k = 4) : (execOp ev o).run Tryz.prog W = .ok (.value (.pointer (some ⟨q, a + k, none⟩))) W := by
  rcases hk with rfl | rfl | rfl | rfl | rfl <;> simp [execOp, ho, hx] <;> go_simp
theorem StrRow.setOther {W : World} {B : Nat} {v : Value} {ls : List ByteArray} (h : StrRow W B v ls) {k : Nat} {cs : Array Value} {t : TypeId} (hk : W.heap[k]? = some (.cells cs t (0, 0))) (ht : t ≠ 9) (i : Nat) (u : Value) : StrRow (W.setCell ⟨k, i, none⟩ u) B v ls :=
  h.kept fun j o hj ho => (heap_setCell_other W ⟨k, i, none⟩ j _ fun e => by
    have e' : j = k := e
    subst e'
    obtain ⟨_, cs', hc'⟩ := h.own _ hj
    rw [hk] at hc'
    cases hc'
    exact ht rfl).trans ho
theorem DrawAt.setP {W : World} {B b q : Nat} {D : DS} (h : DrawAt W B b q D) {i a : Nat} {p : PS} (k : Nat) (v : Value) (p' : PS) (hp : D.ps[i]? = some p) (ha : a = 5 * i + k) (hk : k < 5) (he : p'.enc = p.enc.set k v) : DrawAt (W.setCell ⟨q, a, none⟩ v) B b q { D with ps := D.ps.set i p' } := by
  subst ha
  obtain ⟨vl, h1, h2⟩ := h.box
  refine ⟨⟨vl, ?_, h2.setOther h.row (by decide) _ _⟩, ?_⟩
  · rw [show boxV vl q { D with ps := D.ps.set i p' } = boxV vl q D from by simp [boxV]]
    exact (heap_setCell_other W ⟨q, _, none⟩ b _ h.ne).trans h1
  · rw [show encP (D.ps.set i p') = (encP D.ps).setIfInBounds (5 * i + k) v from (encP_set _ _ _ hp _ _ _ hk he).symm]
    exact heap_setCell_same W q _ _ _ _ h.row
theorem DrawAt.setB {W : World} {B b q : Nat} {D : DS} (h : DrawAt W B b q D) (j : Nat) (v : Value) (D' : DS) (hv : ∀ vl, (boxV vl q D).setIfInBounds j v = boxV vl q D') (hl : D'.ls = D.ls) (hp : D'.ps = D.ps) : DrawAt (W.setCell ⟨b, j, none⟩ v) B b q D' := by
  obtain ⟨vl, h1, h2⟩ := h.box
  refine ⟨⟨vl, ?_, ?_⟩, ?_⟩
  · rw [← hv]
    exact heap_setCell_same W b _ _ _ _ h1
  · rw [hl]
    exact h2.setOther h1 (by decide) _ _
  · rw [hp]
    exact (heap_setCell_other W ⟨b, _, none⟩ q _ (fun e => h.ne e.symm)).trans h.row
def DS.line (D : DS) (ws : List ByteArray) : DS := { D with ls := D.ls ++ [⟨(lineL ws).toArray⟩] }
theorem writeD_c {W : World} {B b q : Nat} {D : DS} (h : DrawAt W B b q D) (ws : List ByteArray) (bk c : Nat) (hB : B ≤ W.heap.size) (hwc : ∀ (j : Nat) x, ws[j]? = some x → W.cell? ⟨bk, 0 + j, none⟩ = some (.string x)) (hbk : bk < W.heap.size) (hcap : ws.length ≤ c)
    (hls : D.ls.length < 1000000) (hwl : ws.length < 1000000) (hjl : (lineL ws).length ≤ 1000000000) :
    Calls Tryz.prog 51 #[.pointer (some ⟨b, 0, none⟩), .slice (some ⟨bk, 0, none⟩) ws.length c] W fun e W' => e = .returned (.int .i64 ((D.ls.length + 1 : Nat) : Int)) ∧ DrawAt W' B b q (D.line ws) ∧ OnlyD B b q W W' := by
  obtain ⟨vl, h1, h2⟩ := h.box
  refine (write_c b B _ _ vl D.ls ws bk c W h1 (by decide) rfl h2 hB hwc hbk hcap hls hwl hjl).mono ?_
  rintro e W' ⟨he, ho, vl', h3, h4⟩
  have hown : ∀ k, vl.ownBlock = some k → B ≤ k ∧ ∃ cs, W.heap[k]? = some (.cells cs 9 (0, 0)) := h2.own
  refine ⟨he, ⟨⟨vl', h4, h3⟩, ?_⟩, ⟨ho.os, ho.tape, ho.output, ho.size, fun k o hk hkb hkq hor => ho.block k o hk hkb fun e => ?_⟩⟩
  · refine ho.block q _ h.row (fun e => h.ne e.symm) fun e => ?_
    obtain ⟨_, cs, hc⟩ := hown q e
    rw [h.row] at hc
    exact absurd (Obj.cells.inj (Option.some.inj hc)).2.1 (by decide)
  · obtain ⟨hl, cs, hc⟩ := hown k e
    rw [hk] at hc
    cases hc
    rcases hor with hlt | hns
    · omega
    · simp [isStrs] at hns
/-- The errors, and what is sealed. -/
def wSeal : ByteArray := ⟨#[115, 101, 97, 108]⟩
def sealW (p : Int) (h : ByteArray) : List ByteArray := [wSeal, ⟨(Lib.itoa p).toArray⟩, h]
def DS.sealE (D : DS) (p : Int) (h : ByteArray) : Int :=
  if inR p 1 ((D.ps.length : Nat) : Int) = false then 7 else if isHashL h.data.toList = false then 4 else match D.ps[p.toNat - 1]? with | none => 7 | some x => if 0 < x.s then 6 else 0
def DS.sealT (D : DS) (p : Int) (h : ByteArray) : DS :=
  match D.ps[p.toNat - 1]? with
  | none => D
  | some x => { D with ls := D.ls ++ [⟨(lineL (sealW p h)).toArray⟩], ps := D.ps.set (p.toNat - 1) { x with h := h, s := D.ls.length + 1 }, sl := D.sl + 1 }
def DS.seal (D : DS) (p : Int) (h : ByteArray) : DS := if D.sealE p h = 0 then D.sealT p h else D
def lensW : List ByteArray → Nat
  | [] => 0
  | x :: l => x.size + lensW l
theorem lensW_eq : ∀ (ws : List ByteArray), Lib.lens (ws.map (·.data.toList)) = lensW ws
  | [] => rfl
  | x :: l => by
    rw [List.map_cons, lensW, ← lensW_eq l]
    rfl
theorem line_len (ws : List ByteArray) : (lineL ws).length ≤ lensW ws + ws.length + 1 := by
  have h : (Lib.join (ws.map (·.data.toList)) [32]).length ≤ Lib.lens (ws.map (·.data.toList)) + (ws.map (·.data.toList)).length := by
    cases ws with
    | nil => simp [Lib.join]
    | cons x l => rw [List.map_cons, Lib.join_length, List.length_singleton, List.length_cons]; omega
  rw [lensW_eq] at h
  unfold lineL
  rw [List.length_append, List.length_singleton]
  rw [List.length_map] at h
  omega
set_option maxHeartbeats 4000000 in
theorem SealD_c {W : World} {B b q : Nat} {D : DS} (hd : DrawAt W B b q D) (p : Int) (h : ByteArray) (hB : B ≤ W.heap.size) (hbB : B ≤ b) (hqB : B ≤ q) (hL : ∀ W', Below B W W' → LaidW W') (hn : D.ps.length ≤ 30) (hh : h.size ≤ 1000000) (hls : D.ls.length < 1000000) (hsl : D.sl < 1000000) :
    Calls Tryz.prog 18 #[.pointer (some ⟨b, 0, none⟩), .int .i64 p, .string h] W fun e W' => e = .returned (.int .i64 (D.sealE p h)) ∧ DrawAt W' B b q (D.seal p h) ∧ OnlyD B b q W W' := by
  have HF := hid (find_c B b q D p W hd hn)
  have HI := hid (fun W => isHash_c h hh W)
  have FL := hid trivial
  unfold DS.seal DS.sealE
  cases hp : inR p 1 ((D.ps.length : Nat) : Int) with
  | false =>
    rw [hp, if_neg (by simp)] at HF
    rw [if_pos rfl, if_neg (by decide)]
    have HD := hid hd
    clear hd hp hL
    go_enter Tryz.func18, Tryz.ntmps18
    go_wp2_with (go_at_call 56; refine HF.out.mono ?_; rintro e w1 ⟨rfl, rfl⟩)
    go_ret
    exact ⟨rfl, HD.out, .refl _ _ _ _⟩
  | true =>
    rw [hp, if_pos rfl] at HF
    rw [if_neg (by simp)]
    obtain ⟨h1, h2⟩ := (inR_iff _ _ _).1 hp
    obtain ⟨i, hi⟩ : ∃ i, p.toNat - 1 = i := ⟨_, rfl⟩
    have hpi := hid (show p = ((i + 1 : Nat) : Int) by omega)
    obtain ⟨x, hx⟩ : ∃ x, D.ps[i]? = some x := ⟨_, List.getElem?_eq_getElem (by omega)⟩
    unfold DS.sealT
    rw [hi] at HF ⊢
    rw [hx]
    obtain ⟨a, ha⟩ : ∃ a, 5 * i = a := ⟨_, rfl⟩
    rw [ha] at HF
    cases hhs : isHashL h.data.toList with
    | false =>
      rw [hhs] at HI
      rw [if_pos rfl, if_neg (by decide)]
      have HD := hid hd
      clear hd hp hL hhs h1 h2 hi hx ha
      go_enter Tryz.func18, Tryz.ntmps18
      go_wp2_with (first
        | (go_at_call 56; have hq := FL; clear hq FL; refine HF.out.mono ?_; rintro e w1 ⟨rfl, rfl⟩)
        | (go_at_call 35; refine (HI.out _).mono ?_; rintro e w1 ⟨rfl, hb1⟩))
      go_ret
      exact ⟨rfl, HD.out.below hb1, .below hb1⟩
    | true =>
      rw [hhs] at HI
      rw [if_neg (by simp)]
      have hk2 : ∀ W', Below W.heap.size W W' → W'.cell? ⟨q, a + 2, none⟩ = some (.int .i64 ((x.s : Nat) : Int)) := fun W' hW' => by
        rw [cell_of_row _ _ _ _ _ _ (hd.below hW').row, ← ha, encP_get _ _ _ hx 2 (by omega)]
        rfl
      by_cases hs : 0 < x.s
      · simp only [if_pos hs]
        rw [if_neg (by decide)]
        have d1 : decide ((0 : Int) < ((x.s : Nat) : Int)) = true := decide_eq_true (by omega)
        have HD := hid hd
        clear hd hp hL hhs h1 h2 hi hx ha
        go_enter Tryz.func18, Tryz.ntmps18
        go_wp2_with (first
          | (go_at_call 56; have hq := FL; clear hq FL; refine HF.out.mono ?_; rintro e w1 ⟨rfl, rfl⟩)
          | (go_at_call 35; refine (HI.out _).mono ?_; rintro e w1 ⟨rfl, hb1⟩; have hk := hk2 _ hb1))
        go_ret
        exact ⟨rfl, HD.out.below hb1, .below hb1⟩
      · simp only [if_neg hs]
        rw [if_pos trivial]
        have h16 : h.size = 16 := by
          have : h.data.toList.length = 16 := by
            unfold isHashL at hhs
            rw [Bool.and_eq_true] at hhs
            exact of_decide_eq_true hhs.1
          rw [← this, Array.length_toList]; rfl
        have d1 : decide ((0 : Int) < ((x.s : Nat) : Int)) = false := decide_eq_false (by omega)
        have HD := hid hd
        have HLL := hid hL
        have hxs := hid hx
        have has := hid ha
        have hil : i < 30 := by have := (List.getElem?_eq_some_iff.1 hx).1; omega
        clear hd hp hL hhs h1 h2 hi hx ha
        go_enter Tryz.func18, Tryz.ntmps18
        go_upto_region 4 with (first
          | (go_at_call 56; have hq := FL; clear hq FL; refine HF.out.mono ?_; rintro e w1 ⟨rfl, rfl⟩)
          | (go_at_call 35; refine (HI.out _).mono ?_; rintro e w1 ⟨rfl, hb1⟩; have hk := hk2 _ hb1))
        refine regD (fun _ => True) (fun _ => true) (by kernel_rfl) ?_
        have hS := trivial
        have hb2 : Below W.heap.size W w1.drew := ⟨hb1.os, hb1.tape, hb1.output, hb1.size, hb1.block⟩
        generalize w1.drew = V0 at hb2 ⊢
        refine takeE (i := 0) (.pointer (some ⟨q, a, none⟩)) (d := some 13) rfl (by kernel_rfl) (by kernel_rfl) (by kernel_rfl) (by kernel_rfl) (fun _ _ _ h => h) rfl (fun W hSw => by exact exec_mv rfl rfl) hS rfl ?_
        simp only [Act.put, List.setIfInBounds_toArray, List.set_cons_zero, List.set_cons_succ]
        refine takeE (i := 1) (.pointer (some ⟨q, a, none⟩)) (d := some 14) rfl (by kernel_rfl) (by kernel_rfl) (by kernel_rfl) (by kernel_rfl) (fun _ _ _ h => h) rfl (fun W hSw => by exact exec_mv rfl rfl) hS rfl ?_
        simp only [Act.put, List.setIfInBounds_toArray, List.set_cons_zero, List.set_cons_succ]
        refine takeE (i := 2) (.string h) (d := some 15) rfl (by kernel_rfl) (by kernel_rfl) (by kernel_rfl) (by kernel_rfl) (fun _ _ _ h => h) rfl (fun W hSw => by exact exec_mv rfl rfl) hS rfl ?_
        simp only [Act.put, List.setIfInBounds_toArray, List.set_cons_zero, List.set_cons_succ]
        refine takeE (i := 3) (.pointer (some ⟨b, 0, none⟩)) (d := some 16) rfl (by kernel_rfl) (by kernel_rfl) (by kernel_rfl) (by kernel_rfl) (fun _ _ _ h => h) rfl (fun W hSw => by exact exec_mv rfl rfl) hS rfl ?_
        simp only [Act.put, List.setIfInBounds_toArray, List.set_cons_zero, List.set_cons_succ]
        refine takeE (i := 4) (.pointer (some ⟨b, 0, none⟩)) (d := some 17) rfl (by kernel_rfl) (by kernel_rfl) (by kernel_rfl) (by kernel_rfl) (fun _ _ _ h => h) rfl (fun W hSw => by exact exec_nilP rfl rfl) hS rfl ?_
        simp only [Act.put, List.setIfInBounds_toArray, List.set_cons_zero, List.set_cons_succ]
        refine takeE (i := 5) (.pointer (some ⟨b, 0, none⟩)) (d := some 18) rfl (by kernel_rfl) (by kernel_rfl) (by kernel_rfl) (by kernel_rfl) (fun _ _ _ h => h) rfl (fun W hSw => by exact exec_fldD 0 rfl rfl (by simp)) hS rfl ?_
        simp only [Act.put, List.setIfInBounds_toArray, List.set_cons_zero, List.set_cons_succ]
        refine takeE (i := 6) (.int .i64 p) (d := some 19) rfl (by kernel_rfl) (by kernel_rfl) (by kernel_rfl) (by kernel_rfl) (fun _ _ _ h => h) rfl (fun W hSw => by exact exec_mv rfl rfl) hS rfl ?_
        simp only [Act.put, List.setIfInBounds_toArray, List.set_cons_zero, List.set_cons_succ]
        refine takeE (i := 8) (.string h) (d := some 21) rfl (by kernel_rfl) (by kernel_rfl) (by kernel_rfl) (by kernel_rfl) (fun _ _ _ h => h) rfl (fun W hSw => by exact exec_mv rfl rfl) hS rfl ?_
        simp only [Act.put, List.setIfInBounds_toArray, List.set_cons_zero, List.set_cons_succ]
        refine stepD 7 (by kernel_rfl) rfl rfl (fun K hK => ?_)
        go_simp
        go_at_call 52
        refine (number_c p (by have := hpi.out; omega) (by have := hpi.out; omega) V0 (HLL.out _ (hb2.mono hB))).mono ?_
        rintro e V1 ⟨rfl, hb3⟩
        go_simp
        refine hK _ _ (fun _ => trivial) ?_
        clear hK K
        have hb4 := hb2.trans (hb3.mono hb2.size)
        obtain ⟨z, hz⟩ : ∃ z, z = (⟨(Lib.itoa p).toArray⟩ : ByteArray) := ⟨_, rfl⟩
        have HZ := hid hz
        rw [← hz]
        clear hz
        refine stepD 9 (by kernel_rfl) rfl rfl (fun K hK => ?_)
        go_simp
        refine hK _ _ (fun _ => trivial) ?_
        clear hK K
        have hal : Below V1.heap.size V1 (V1.alloc (.cells #[.string wSeal, .string z, .string h] 9)) := (Below.refl _ _).alloc (Nat.le_refl _) _
        have hb5 := hb4.trans (hal.mono hb4.size)
        have hnew := heap_alloc_new V1 (.cells #[.string wSeal, .string z, .string h] 9)
        have hlt : V1.heap.size < (V1.alloc (.cells #[.string wSeal, .string z, .string h] 9)).heap.size := heap_lt hnew
        obtain ⟨gz, hgz⟩ : ∃ gz, V1.heap.size = gz := ⟨_, rfl⟩
        rw [hgz] at hnew hlt
        change wpAnyD _ _ _ _ _ _ _ _ _ (V1.alloc (.cells #[.string wSeal, .string z, .string h] 9))
        rw [hgz]
        generalize V1.alloc (.cells #[.string wSeal, .string z, .string h] 9) = V2 at hb5 hnew hlt ⊢
        have hpl : z.size ≤ 21 := by
          rw [HZ.out]
          show (Lib.itoa p).toArray.size ≤ 21
          rw [List.size_toArray]
          exact Lib.itoa_length_le p (by have := hpi.out; omega) (by have := hpi.out; omega)
        have hll : (lineL [wSeal, z, h]).length ≤ 1000000000 := by
          have h9 := line_len [wSeal, z, h]
          simp only [lensW, List.length_cons, List.length_nil, h16] at h9
          have : wSeal.size = 4 := rfl
          omega
        have HWR := hid (writeD_c (HD.out.below hb5) [wSeal, z, h] gz 3 (Nat.le_trans hB hb5.size) (fun j y hj => by
          rcases j with _ | _ | _ | j
          · cases hj; exact cell_of_row _ gz 0 _ _ _ hnew
          · cases hj; exact cell_of_row _ gz 1 _ _ _ hnew
          · cases hj; exact cell_of_row _ gz 2 _ _ _ hnew
          · simp at hj) hlt (by simp) hls (by simp) hll)
        obtain ⟨n1, hn1⟩ : ∃ n1, D.ls.length + 1 = n1 := ⟨_, rfl⟩
        have HN1 := hid hn1
        rw [hn1] at HWR
        clear hn1
        refine stepD 10 (by kernel_rfl) rfl rfl (fun K hK => ?_)
        go_simp
        go_at_call 51
        refine HWR.out.mono ?_
        rintro e V3 ⟨rfl, hd3, ho3⟩
        go_simp
        refine hK _ _ (fun _ => trivial) ?_
        clear hK K
        refine stepD 11 (by kernel_rfl) rfl rfl (fun K hK => ?_)
        go_simp
        refine hK _ _ (fun _ => trivial) ?_
        clear hK K
        refine stepD 12 (by kernel_rfl) rfl rfl (fun K hK => ?_)
        go_simp
        refine hK _ _ (fun _ => trivial) ?_
        clear hK K
        have hfz3 := frozen_of_row _ _ a _ _ hd3.row
        have k3 : V3.cell? ⟨q, a, none⟩ = some (.string x.h) := by
          rw [cell_of_row _ _ _ _ _ _ hd3.row, ← has.out]
          exact encP_get _ _ _ hxs.out 0 (by omega)
        refine stepD 13 (by kernel_rfl) rfl rfl (fun K hK => ?_)
        go_simp
        refine hK _ _ (fun _ => trivial) ?_
        clear hK K
        have hd4 := hd3.setP 0 (.string h) { x with h := h } hxs.out (show a = 5 * i + 0 by rw [← has.out, Nat.add_zero]) (by omega) rfl
        have ho4 := ho3.set (.inr rfl) a (.string h)
        generalize V3.setCell ⟨q, a, none⟩ (.string h) = V4 at hd4 ho4 ⊢
        refine stepD 14 (by kernel_rfl) rfl rfl (fun K hK => ?_)
        go_simp
        refine hK _ _ (fun _ => trivial) ?_
        clear hK K
        refine stepD 15 (by kernel_rfl) rfl rfl (fun K hK => ?_)
        go_simp
        refine hK _ _ (fun _ => trivial) ?_
        clear hK K
        have hfz4 := frozen_of_row _ _ (a + 2) _ _ hd4.row
        have hx4 : (D.ps.set i { x with h := h })[i]? = some { x with h := h } := List.getElem?_set_self (List.getElem?_eq_some_iff.1 hxs.out).1
        have k4 : V4.cell? ⟨q, a + 2, none⟩ = some (.int .i64 ((x.s : Nat) : Int)) := by
          rw [cell_of_row _ _ _ _ _ _ hd4.row, ← has.out]
          exact encP_get _ _ _ hx4 2 (by omega)
        refine stepD 16 (by kernel_rfl) rfl rfl (fun K hK => ?_)
        go_simp
        refine hK _ _ (fun _ => trivial) ?_
        clear hK K
        have hd5 := hd4.setP (p := { x with h := h }) 2 (.int .i64 ((n1 : Nat) : Int)) { x with h := h, s := n1 } hx4 (show a + 2 = 5 * i + 2 by rw [← has.out]) (by omega) rfl
        have ho5 := ho4.set (.inr rfl) (a + 2) (.int .i64 ((n1 : Nat) : Int))
        generalize V4.setCell ⟨q, a + 2, none⟩ (.int .i64 ((n1 : Nat) : Int)) = V5 at hd5 ho5 ⊢
        refine doneD (by kernel_rfl) ?_ _
        refine OnlyNorm.normal ?_
        rename_i Q' K1 hK1 K hK
        change K _ _
        refine hK _ _ ?_
        clear hK K
        obtain ⟨vl5, hb51, -⟩ := hd5.box
        have k53 := cell_of_row _ _ 3 _ _ _ hb51
        have hfz5 := frozen_of_row _ _ 3 _ _ hb51
        change _ = some (Value.int .i64 ((D.sl : Nat) : Int)) at k53
        have hsw : IntKind.i64.wrap (((D.sl : Nat) : Int) + 1) = ((D.sl + 1 : Nat) : Int) := (IntWalk.i64_in _ (by omega)).trans (by omega)
        have HD5 := hid hd5
        have HO5 := hid ho5
        have HB5 := hid hb5
        clear hd5 ho5 hd4 ho4 hd3 ho3 hb51 hb5 hb4 hb3 hb2 hb1 hnew hlt hk2 hk
        go_wp2_with fail
        go_ret
        refine ⟨rfl, ?_, ((OnlyD.below HB5.out).trans HO5.out).set (.inl rfl) 3 _⟩
        have e := HD5.out.setB 3 (.int .i64 ((D.sl + 1 : Nat) : Int)) { D with ls := D.ls ++ [⟨(lineL (sealW p h)).toArray⟩], ps := D.ps.set i { x with h := h, s := D.ls.length + 1 }, sl := D.sl + 1 } (fun vl => by simp [boxV, DS.line]) (by simp [DS.line, sealW, HZ.out]) (by simp [DS.line, HN1.out])
        exact e
end Go.Proofs.YtbcileppebpamaaGreatDoor
