/- Walks of package hand: Run, Chance. -/
import Derived.Test.YtmjnelkeiogdcaaHZ
set_option linter.unusedSimpArgs false
set_option linter.unusedVariables false
namespace Go.Proofs.Ytmjnelkeiogdcaa
open Go Go.RowKit Go.Shelf
set_option maxRecDepth 100000

/-- What Run answers. -/
def runV (H : HV) : FR → Array Value
  | .ok t => #[.int .i64 (outN H t), .int .i64 0, .int .i64 0]
  | .bad i e => #[.int .i64 0, .int .i64 ((i : Nat) : Int), .int .i64 ((e : Nat) : Int)]
theorem complete_b (N Nc : Nat) (H : HV) (hV : Val H) (fv cv : Value) (v : Value) (Cs : List Int) (hn : Cs.length ≤ 1000000) (hi63 : ∀ c ∈ Cs, c ≤ 9223372036854775807) (w : World) (hR : RawAt w N (rawOf H) fv cv) (hC : CrsAt w Nc v Cs) :
    Calls Try.prog 61 #[.agg (handA H fv cv), v, .func (.func 62) #[] #[]] w fun e w' => e = .returned (.tuple (folV (fulN H (beginS H) Cs))) ∧ Below w.heap.size w w' :=
  (complete_blind N Nc H hV fv cv (fun _ => False) (fun _ _ => True) v Cs hn hi63 w hR hC (fun _ h => h.elim) trivial (fun _ _ _ _ _ => trivial) (fun tr s c W _ _ _ _ _ => (blind_c s c W).mono fun e w' ⟨h, e2⟩ => ⟨h, trivial, by rw [e2]; exact Mods.refl _ _⟩)).mono
    fun e w' ⟨h1, _, h3⟩ => ⟨h1, h3.to (Nat.le_refl _) (fun _ _ h => h)⟩
theorem ful_fit (H : HV) (L : List Int) (s t : St) (hF : Fit H s) (h : fulN H s L = .ok t) : Fit H t := by
  unfold fulN at h
  cases hf : folN H s L 0 with
  | ok u =>
    rw [hf] at h
    simp only at h
    split at h
    · injection h with h; rw [← h]; exact fol_fit H L s 0 u hF hf
    · cases h
  | bad i e => rw [hf] at h; cases h
theorem ful_bad (H : HV) (L : List Int) (s : St) (i e : Nat) (h : fulN H s L = .bad i e) : (e = 5 ∨ e = 20 ∨ e = 7) ∧ i ≤ L.length := by
  unfold fulN at h
  cases hf : folN H s L 0 with
  | ok u =>
    rw [hf] at h
    simp only at h
    split at h
    · cases h
    · injection h with h1 h2; subst h1; subst h2; exact ⟨by omega, Nat.le_refl _⟩
  | bad j f =>
    rw [hf] at h
    injection h with h1 h2
    subst h1; subst h2
    have := fol_bad H L s 0 _ _ hf
    omega
set_option maxHeartbeats 1000000 in
theorem Run_yes (N Nc : Nat) (H : HV) (hV : Val H) (fv cv : Value) (v : Value) (Cs : List Int) (hn : Cs.length ≤ 1000000) (hi63 : ∀ c ∈ Cs, c ≤ 9223372036854775807) (w : World) (hR : RawAt w N (rawOf H) fv cv) (hC : CrsAt w Nc v Cs) :
    Calls Try.prog 29 #[.agg (handA H fv cv), v] w fun e w' => e = .returned (.tuple (runV H (fulN H (beginS H) Cs))) ∧ Below w.heap.size w w' := by
  have hx := heap_alloc_new w (.cells (handA H fv cv) 26)
  have hb : Below w.heap.size w (w.alloc (.cells (handA H fv cv) 26)) := (Below.refl _ _).alloc (Nat.le_refl _) _
  have HX := hid hx
  have HB := hid hb
  have hR1 := hR.below (hb.mono hR.le)
  have HCO := hid (complete_b N Nc H hV fv cv v Cs hn hi63 _ hR1 (hC.below (hb.mono hC.le)))
  have HFT := hid (fun t (ht : fulN H (beginS H) Cs = .ok t) => ful_fit H Cs _ t (begin_fit H hV.hand.ok) ht)
  have HBD := hid (fun i e (ht : fulN H (beginS H) Cs = .bad i e) => (ful_bad H Cs _ i e ht).1)
  obtain ⟨p, cp, rfl, -⟩ := hC.at'
  clear hx hb hR hR1 hC hi63
  cases hf : fulN H (beginS H) Cs with
  | ok t =>
    have HOU := hid (fun W => outcome_c H fv cv t (HFT.out t hf) W)
    rw [hf] at HCO
    simp only [folV, runV] at HCO ⊢
    clear HBD HFT hf
    go_enter Try.func29, Try.ntmps29
    go_wp2_with (first
      | (refine wpList_value rfl (by intro c hc; cases hc) (.agg (handA H fv cv)) (exec_ldhand rfl rfl HX.out) ?_)
      | (refine wpList_enter rfl (inv_out _ _ _ _ rfl rfl rfl _) ?_; refine (HOU.out _).mono ?_; rintro e w4 ⟨rfl, hb4⟩; refine ⟨_, rfl, ?_⟩)
      | (go_at_call 61; refine HCO.out.mono ?_; rintro e w3 ⟨rfl, hb3⟩; have HX := hid (heap_below hb3 HX.out (heap_lt HX.out)); have HB := hid (HB.out.trans (hb3.mono HB.out.size))))
    go_ret3
    exact ⟨rfl, HB.out.trans (hb4.mono HB.out.size)⟩
  | bad i e =>
    have he := HBD.out i e hf
    have he0 : (((e : Nat) : Int) != 0) = true := by simp; omega
    rw [hf] at HCO
    simp only [folV, runV] at HCO ⊢
    clear HBD HFT hf he
    go_enter Try.func29, Try.ntmps29
    go_wp2_with (first
      | (refine wpList_value rfl (by intro c hc; cases hc) (.agg (handA H fv cv)) (exec_ldhand rfl rfl HX.out) ?_)
      | (go_at_call 61; refine HCO.out.mono ?_; rintro e w3 ⟨rfl, hb3⟩))
    go_ret3
    exact ⟨rfl, HB.out.trans (hb3.mono HB.out.size)⟩
theorem exec_ldR {ev : Operand → Value} {o : Oper} {x : Operand} {g : Nat} {W : World} {R : RH} {fv cv : Value} (ho : o.op = .load 26 x) (hx : ev x = .pointer (some ⟨g, 0, none⟩)) (hg : W.heap[g]? = some (.cells (handR R fv cv) 26 (0, 0))) :
    (execOp ev o).run Try.prog W = .ok (.value (.agg (handR R fv cv))) W := by
  have h := run_loadVar_row (P := Try.prog) W g 26 26 (handR R fv cv) (0, 0) _ hg Try.underlying26 rfl (by kernel_rfl)
  simp only [execOp, ho, hx, Instr.loadAt, Instr.sureAddr, Sem.run_bind, Sem.run_pure, Result.andThen_ok, h]
theorem Run_no (R : RH) (h0 : okR R = false) (fv cv : Value) (N : Nat) (p : Option Addr) (n m : Nat) (w : World) (hR : RawAt w N R fv cv) (hf : R.faces.length ≤ 1000) (hc : R.cards.length ≤ 1000) :
    Calls Try.prog 29 #[.agg (handR R fv cv), .slice p n m] w fun e w' => e = .returned (.tuple #[.int .i64 0, .int .i64 0, .int .i64 2]) ∧ Below w.heap.size w w' := by
  have hx := heap_alloc_new w (.cells (handR R fv cv) 26)
  have hb : Below w.heap.size w (w.alloc (.cells (handR R fv cv) 26)) := (Below.refl _ _).alloc (Nat.le_refl _) _
  have HX := hid hx
  have HB := hid hb
  have HC := hid (complete_no_blind R h0 fv cv N p n m _ (hR.below (hb.mono hR.le)) hf hc)
  clear hx hb hR hf hc h0
  go_enter Try.func29, Try.ntmps29
  go_wp2_with (first
    | (refine wpList_value rfl (by intro c hc; cases hc) (.agg (handR R fv cv)) (exec_ldR rfl rfl HX.out) ?_)
    | (go_at_call 61; refine HC.out.mono ?_; rintro e w2 ⟨rfl, hb2⟩))
  go_ret3
  exact ⟨rfl, HB.out.trans (hb2.mono HB.out.size)⟩
/-- The denominator of what a course has shown. -/
def denT (H : HV) (tr : List (St × Int)) : Nat := satN (prodL (tr.map fun x => chN H x.1))
theorem prod_append (L : List Nat) (x : Nat) : prodL (L ++ [x]) = prodL L * x := by
  induction L with
  | nil => simp [prodL]
  | cons y L ih => simp only [List.cons_append, prodL, ih, Nat.mul_assoc]
theorem den_append (H : HV) (tr : List (St × Int)) (s : St) (c : Int) : denT H (tr ++ [(s, c)]) = timesN (denT H tr) (chN H s) := by
  unfold denT
  rw [List.map_append, List.map_cons, List.map_nil, prod_append, sat_times]
theorem exec_ldint {ev : Operand → Value} {o : Oper} {x : Operand} {g : Nat} {W : World} {v : Value} (ho : o.op = .load 3 x) (hx : ev x = .pointer (some ⟨g, 0, none⟩)) (hg : Boxed W g 3 v) :
    (execOp ev o).run Try.prog W = .ok (.value v) W := by
  have hc := hg.cell
  simp [execOp, ho, hx]
  go_simp
/-- What holds while a chance is reckoned. -/
def ChK (N bd bh : Nat) (H : HV) (fv cv : Value) (tr : List (St × Int)) (W : World) : Prop :=
  Boxed W bd 3 (.int .i64 ((denT H tr : Nat) : Int)) ∧ W.heap[bh]? = some (.cells (handA H fv cv) 26 (0, 0)) ∧ HandAt W N H fv cv
theorem ChK.below {N bd bh : Nat} {H : HV} {fv cv : Value} {tr : List (St × Int)} {W W' : World} (h : ChK N bd bh H fv cv tr W) (hb : Below W.heap.size W W') : ChK N bd bh H fv cv tr W' :=
  ⟨heap_below hb h.1 (heap_lt h.1), heap_below hb h.2.1 (heap_lt h.2.1), h.2.2.below (hb.mono h.2.2.le)⟩
set_option maxHeartbeats 1000000 in
theorem chance1_c (N bd bh : Nat) (hNd : N ≤ bd) (hne : bd ≠ bh) (H : HV) (fv cv : Value) (tr : List (St × Int)) (s : St) (c : Int) (hF : Fit H s) (W : World) (hk : ChK N bd bh H fv cv tr W) :
    Calls Try.prog 64 #[encS s, .int .i64 c, .pointer (some ⟨bd, 0, none⟩), .pointer (some ⟨bh, 0, none⟩)] W fun e W' => (∃ v, e = .returned v) ∧ ChK N bd bh H fv cv (tr ++ [(s, c)]) W' ∧ Mods (fun b => b = bd) W W' := by
  have HK := hid hk
  have HDA := hid (den_append H tr s c)
  have hd := satN_le (prodL (tr.map fun x => chN H x.1))
  have hsm := brs_small H s hF
  obtain ⟨d, hdd⟩ : ∃ d, denT H tr = d := ⟨_, rfl⟩
  have hd' : d ≤ 1000000000000001 := by rw [← hdd]; exact hd
  have HDD := hid hdd
  have hHA := hk.2.2
  have HCH := hid (fun V hV => choices_c N H fv cv s hF V hV)
  have HTI := hid (fun V => times_c d (chN H s) (by omega) (by omega) V)
  obtain ⟨z, hz⟩ : ∃ z, timesN d (chN H s) = z := ⟨_, rfl⟩
  have HZ := hid hz
  rw [hz] at HTI
  clear hk hd hsm hdd hd' hz hHA
  go_enter Try.func64, Try.ntmps64
  go_wp2_with fail
  have hS0 : Below W.heap.size W W.drew := ⟨rfl, rfl, rfl, Nat.le_refl _, fun _ _ => rfl⟩
  refine regD (fun X => Below W.heap.size W X) (fun j => decide (j < 5)) (by kernel_rfl) ?_
  refine takeE (i := 0) (.int .i64 ((d : Nat) : Int)) (d := some 6) rfl (by kernel_rfl) (by kernel_rfl) (by kernel_rfl) (by kernel_rfl) (fun _ _ _ h => h) rfl (fun X hX => by exact exec_ldint rfl rfl (by rw [← HDD.out]; exact (HK.out.below hX).1)) hS0 rfl ?_
  simp only [Act.put, List.setIfInBounds_toArray, List.set_cons_zero, List.set_cons_succ]
  refine takeE (i := 1) (.agg (handA H fv cv)) (d := some 7) rfl (by kernel_rfl) (by kernel_rfl) (by kernel_rfl) (by kernel_rfl) (fun _ _ _ h => h) rfl (fun X hX => by exact exec_ldhand rfl rfl (HK.out.below hX).2.1) hS0 rfl ?_
  simp only [Act.put, List.setIfInBounds_toArray, List.set_cons_zero, List.set_cons_succ]
  refine takeE (i := 2) (encS s) (d := some 8) rfl (by kernel_rfl) (by kernel_rfl) (by kernel_rfl) (by kernel_rfl) (fun _ _ _ h => h) rfl (fun X hX => by rfl) hS0 rfl ?_
  simp only [Act.put, List.setIfInBounds_toArray, List.set_cons_zero, List.set_cons_succ]
  refine stepD 3 (by kernel_rfl) rfl rfl (fun K hK => ?_)
  go_simp
  go_at_call 63
  refine (HCH.out _ (HK.out.below hS0).2.2).mono ?_
  rintro e X ⟨rfl, hbX⟩
  have hS1 : Below W.heap.size W X := hS0.trans hbX
  go_simp
  refine hK _ _ (fun _ => hS1) ?_
  clear hK K
  refine stepD 4 (by kernel_rfl) rfl rfl (fun K hK => ?_)
  go_simp
  go_at_call 44
  refine (HTI.out _).mono ?_
  rintro e X2 ⟨rfl, rfl⟩
  go_simp
  refine hK _ _ (fun _ => hS1) ?_
  clear hK K
  have hKX := HK.out.below hS1
  have hbx := hKX.1
  have hc := hbx.cell
  have hf := hbx.frozen
  have HN := hid (show ChK N bd bh H fv cv (tr ++ [(s, c)]) (X.setCell ⟨bd, 0, none⟩ (.int .i64 ((z : Nat) : Int))) from
    ⟨by rw [HDA.out, HDD.out, HZ.out]; exact hbx.set _, (heap_setCell_other X ⟨bd, 0, none⟩ bh _ (Ne.symm hne)).trans hKX.2.1, hKX.2.2.below ⟨rfl, rfl, rfl, by simp, fun k hk => heap_setCell_other X ⟨bd, 0, none⟩ k _ (show k ≠ bd by omega)⟩⟩)
  have HM := hid (show Mods (fun b => b = bd) W (X.setCell ⟨bd, 0, none⟩ (.int .i64 ((z : Nat) : Int))) from
    (Mods.below hS1).trans ⟨rfl, rfl, rfl, by simp, fun b o hb ho => (heap_setCell_other X ⟨bd, 0, none⟩ b _ (show b ≠ bd from hb)).trans ho⟩)
  refine stepD 5 (by kernel_rfl) rfl rfl (fun K hK => ?_)
  go_simp
  refine hK _ _ (fun h => by cases h) ?_
  clear hK K
  refine doneD (by kernel_rfl) ?_ _
  refine OnlyNorm.normal ?_
  go_end0
  exact ⟨⟨_, rfl⟩, HN.out, HM.out⟩
end Go.Proofs.Ytmjnelkeiogdcaa
/- Walks of package hand: Chance. -/
namespace Go.Proofs.Ytmjnelkeiogdcaa
open Go Go.RowKit Go.Shelf
set_option maxRecDepth 100000

theorem setRow_at {W : World} {g : Nat} {cs old : Array Value} {t : TypeId} {fr : Nat × Nat} (h : W.heap[g]? = some (.cells old t fr)) : (W.setRow g cs).heap[g]? = some (.cells cs t fr) := by
  unfold World.setRow
  simp [Array.getElem?_modify, h]
theorem setRow_ne {W : World} {g k : Nat} {cs : Array Value} (h : k ≠ g) : (W.setRow g cs).heap[k]? = W.heap[k]? := by
  unfold World.setRow
  simp [Array.getElem?_modify, Ne.symm h]
theorem setRow_below {W : World} {g n : Nat} {cs : Array Value} (h : n ≤ g) : Below n W (W.setRow g cs) := ⟨rfl, rfl, rfl, by simp [World.setRow], fun k hk => setRow_ne (by omega)⟩
theorem results_c3 {P : Program} {fn : Func} {p q r : Tmp} {T : TypeId} (h : fn.results = #[.cell p T, .tmp q, .tmp r]) {tmps : Array Value} {W : World} {b : Nat} {cs : Array Value} {d : TypeDesc} (hp : tmps.getD p undef = .pointer (some ⟨b, 0, none⟩)) (hb : W.heap[b]? = some (.cells cs T (0, 0)))
    (hu : P.underlying T = some d) (hd : (match d with | .struct _ | .array _ _ => true | _ => false) = true) (hi : (P.info? T).map (·.size) = some cs.size) : (results fn tmps).run P W = .ok (.tuple #[.agg cs, tmps.getD q undef, tmps.getD r undef]) W := by
  have hp' : tmps[p]?.getD undef = .pointer (some ⟨b, 0, none⟩) := by simpa using hp
  simp [results, h, hp', asAddr, run_loadVar_row W b T T cs (0, 0) d hb hu hd hi]
theorem exec_ldch {ev : Operand → Value} {o : Oper} {x : Operand} {g : Nat} {W : World} {a b : Value} (ho : o.op = .load 62 x) (hx : ev x = .pointer (some ⟨g, 0, none⟩)) (hg : W.heap[g]? = some (.cells #[a, b] 62 (0, 0))) :
    (execOp ev o).run Try.prog W = .ok (.value (.agg #[a, b])) W := by
  have h := run_loadVar_row (P := Try.prog) W g 62 62 #[a, b] (0, 0) _ hg Try.underlying62 rfl (by kernel_rfl)
  simp only [execOp, ho, hx, Instr.loadAt, Instr.sureAddr, Sem.run_bind, Sem.run_pure, Result.andThen_ok, h]
/-- What Chance answers. -/
def chanceV : FR → Nat → Array Value
  | .ok _, d => if d ≤ 1000000000000000 then #[.agg #[.int .i64 1, .int .i64 ((d : Nat) : Int)], .int .i64 0, .int .i64 0] else #[.agg #[.int .i64 0, .int .i64 0], .int .i64 0, .int .i64 8]
  | .bad i e, _ => #[.agg #[.int .i64 0, .int .i64 0], .int .i64 ((i : Nat) : Int), .int .i64 ((e : Nat) : Int)]
set_option maxHeartbeats 2000000 in
theorem Chance_yes (N Nc : Nat) (H : HV) (hV : Val H) (fv cv : Value) (v : Value) (Cs : List Int) (hn : Cs.length ≤ 1000000) (hi63 : ∀ c ∈ Cs, c ≤ 9223372036854775807) (w : World) (hR : RawAt w N (rawOf H) fv cv) (hC : CrsAt w Nc v Cs) :
    Calls Try.prog 33 #[.agg (handA H fv cv), v] w fun e w' => e = .returned (.tuple (chanceV (fulN H (beginS H) Cs) (denT H (trN H (beginS H) Cs)))) ∧ Below w.heap.size w w' := by
  have hx := alloc3_0 w (.cells (handA H fv cv) 26) (.cells #[.int .i64 0, .int .i64 0] 62) (.cells #[.int .i64 1] 3)
  have hy := alloc3_1 w (.cells (handA H fv cv) 26) (.cells #[.int .i64 0, .int .i64 0] 62) (.cells #[.int .i64 1] 3)
  have hz := alloc3_2 w (.cells (handA H fv cv) 26) (.cells #[.int .i64 0, .int .i64 0] 62) (.cells #[.int .i64 1] 3)
  have hb := below3 w (.cells (handA H fv cv) 26) (.cells #[.int .i64 0, .int .i64 0] 62) (.cells #[.int .i64 1] 3)
  have hs : (((w.alloc (.cells (handA H fv cv) 26)).alloc (.cells #[.int .i64 0, .int .i64 0] 62)).alloc (.cells #[.int .i64 1] 3)).heap.size = w.heap.size + 3 := by simp
  have hR1 := hR.below (hb.mono hR.le)
  have HX := hid hx
  have HY := hid hy
  have HZ := hid hz
  have HB := hid hb
  have hNw := hR.le
  have hCw := hC.le
  have HCO := hid (complete_chance N Nc H hV fv cv (w.heap.size + 1 + 1) w.heap.size (fun b => b = w.heap.size + 1 + 1) (ChK N (w.heap.size + 1 + 1) w.heap.size H fv cv) v Cs hn hi63 _ hR1 (hC.below (hb.mono hC.le))
    (fun b e => ⟨by rw [hs]; omega, by omega, by omega⟩) ⟨hz, hx, HandAt.of hR1⟩ (fun tr W W' h hb => h.below hb) (fun tr s c W hk _ hF _ _ => chance1_c N _ _ (by omega) (by omega) H fv cv tr s c hF W hk))
  have hdl := satN_le (prodL ((trN H (beginS H) Cs).map fun x => chN H x.1))
  have HBD := hid (fun i e (ht : fulN H (beginS H) Cs = .bad i e) => (ful_bad H Cs _ i e ht).1)
  obtain ⟨p, cp, rfl, -⟩ := hC.at'
  obtain ⟨d, hd⟩ : ∃ d, denT H (trN H (beginS H) Cs) = d := ⟨_, rfl⟩
  have hdl' : d ≤ 1000000000000001 := by rw [← hd]; exact hdl
  have HKD := hid (fun W (hk : ChK N (w.heap.size + 1 + 1) w.heap.size H fv cv (trN H (beginS H) Cs) W) => (show Boxed W (w.heap.size + 1 + 1) 3 (.int .i64 ((d : Nat) : Int)) from by rw [← hd]; exact hk.1))
  rw [hd]
  clear hx hy hz hR hR1 hC hi63 hdl hd
  cases hf : fulN H (beginS H) Cs with
  | ok t =>
    rw [hf] at HCO
    simp only [folV, chanceV] at HCO ⊢
    clear HBD hf
    by_cases hle : d ≤ 1000000000000000
    · rw [if_pos hle]
      have hg0 : decide ((1000000000000000 : Int) < ((d : Nat) : Int)) = false := decide_eq_false (by omega)
      have hg0' : ¬ (1000000000000000 : Int) < ((d : Nat) : Int) := by omega
      clear hle hdl' hb
      go_enter Try.func33, Try.ntmps33
      go_wp2_with (first
        | (refine wpList_value rfl (by intro c hc; cases hc) (.agg (handA H fv cv)) (exec_ldhand rfl rfl HX.out) ?_)
        | (refine wpList_store_row rfl _ _ _ rfl (w.heap.size + 1) _ rfl rfl _ _ HY.out (by kernel_rfl) rfl (by simp [Value.oneCell']) ?_)
        | (go_at_call 61; refine HCO.out.mono ?_; rintro e w3 ⟨rfl, hk3, hm3⟩; have HY := hid (hm3.kept _ _ (show ¬ (w.heap.size + 1 = w.heap.size + 1 + 1) by omega) HY.out); have hbx := HKD.out _ hk3; have hcd := hbx.cell))
      exact bodyPost_ret (results_c3 Try.results33 rfl (setRow_at HY.out) Try.underlying62 rfl (by kernel_rfl)) rfl ⟨rfl, (HB.out.trans (hm3.to (by rw [hs]; omega) (fun b hb e => by omega))).trans (setRow_below (by omega))⟩
    · rw [if_neg hle]
      have hg0 : decide ((1000000000000000 : Int) < ((d : Nat) : Int)) = true := decide_eq_true (by omega)
      have hg0' : (1000000000000000 : Int) < ((d : Nat) : Int) := by omega
      clear hle hdl' hb
      go_enter Try.func33, Try.ntmps33
      go_wp2_with (first
        | (refine wpList_value rfl (by intro c hc; cases hc) (.agg (handA H fv cv)) (exec_ldhand rfl rfl HX.out) ?_)
        | (refine wpList_value rfl (by intro c hc; cases hc) (.agg #[.int .i64 0, .int .i64 0]) (exec_ldch rfl rfl HY.out) ?_)
        | (refine wpList_store_row rfl _ _ _ rfl (w.heap.size + 1) _ rfl rfl _ _ HY.out (by kernel_rfl) rfl (by simp [Value.oneCell']) ?_)
        | (go_at_call 61; refine HCO.out.mono ?_; rintro e w3 ⟨rfl, hk3, hm3⟩; have HY := hid (hm3.kept _ _ (show ¬ (w.heap.size + 1 = w.heap.size + 1 + 1) by omega) HY.out); have hbx := HKD.out _ hk3; have hcd := hbx.cell))
      exact bodyPost_ret (results_c3 Try.results33 rfl (setRow_at HY.out) Try.underlying62 rfl (by kernel_rfl)) rfl ⟨rfl, (HB.out.trans (hm3.to (by rw [hs]; omega) (fun b hb e => by omega))).trans (setRow_below (by omega))⟩
  | bad i e =>
    have he := HBD.out i e hf
    have he0 : (((e : Nat) : Int) != 0) = true := by simp; omega
    rw [hf] at HCO
    simp only [folV, chanceV] at HCO ⊢
    clear HBD hf he hb hdl'
    go_enter Try.func33, Try.ntmps33
    go_wp2_with (first
      | (refine wpList_value rfl (by intro c hc; cases hc) (.agg (handA H fv cv)) (exec_ldhand rfl rfl HX.out) ?_)
      | (refine wpList_value rfl (by intro c hc; cases hc) (.agg #[.int .i64 0, .int .i64 0]) (exec_ldch rfl rfl HY.out) ?_)
      | (refine wpList_store_row rfl _ _ _ rfl (w.heap.size + 1) _ rfl rfl _ _ HY.out (by kernel_rfl) rfl (by simp [Value.oneCell']) ?_)
      | (go_at_call 61; refine HCO.out.mono ?_; rintro e w3 ⟨rfl, hk3, hm3⟩; have HY := hid (hm3.kept _ _ (show ¬ (w.heap.size + 1 = w.heap.size + 1 + 1) by omega) HY.out)))
    exact bodyPost_ret (results_c3 Try.results33 rfl (setRow_at HY.out) Try.underlying62 rfl (by kernel_rfl)) rfl ⟨rfl, (HB.out.trans (hm3.to (by rw [hs]; omega) (fun b hb e => by omega))).trans (setRow_below (by omega))⟩
theorem Chance_no (R : RH) (h0 : okR R = false) (fv cv : Value) (N : Nat) (p : Option Addr) (n m : Nat) (w : World) (hR : RawAt w N R fv cv) (hf : R.faces.length ≤ 1000) (hc : R.cards.length ≤ 1000) :
    Calls Try.prog 33 #[.agg (handR R fv cv), .slice p n m] w fun e w' => e = .returned (.tuple #[.agg #[.int .i64 0, .int .i64 0], .int .i64 0, .int .i64 2]) ∧ Below w.heap.size w w' := by
  have hx := alloc3_0 w (.cells (handR R fv cv) 26) (.cells #[.int .i64 0, .int .i64 0] 62) (.cells #[.int .i64 1] 3)
  have hy := alloc3_1 w (.cells (handR R fv cv) 26) (.cells #[.int .i64 0, .int .i64 0] 62) (.cells #[.int .i64 1] 3)
  have hb := below3 w (.cells (handR R fv cv) 26) (.cells #[.int .i64 0, .int .i64 0] 62) (.cells #[.int .i64 1] 3)
  have HX := hid hx
  have HY := hid hy
  have HB := hid hb
  have hs : (((w.alloc (.cells (handR R fv cv) 26)).alloc (.cells #[.int .i64 0, .int .i64 0] 62)).alloc (.cells #[.int .i64 1] 3)).heap.size = w.heap.size + 3 := by simp
  have HCO := hid (complete_no_chance R h0 fv cv N (w.heap.size + 1 + 1) w.heap.size p n m _ (hR.below (hb.mono hR.le)) hf hc)
  clear hx hy hb hR hf hc h0
  go_enter Try.func33, Try.ntmps33
  go_wp2_with (first
    | (refine wpList_value rfl (by intro c hc; cases hc) (.agg (handR R fv cv)) (exec_ldR rfl rfl HX.out) ?_)
    | (refine wpList_value rfl (by intro c hc; cases hc) (.agg #[.int .i64 0, .int .i64 0]) (exec_ldch rfl rfl HY.out) ?_)
    | (refine wpList_store_row rfl _ _ _ rfl (w.heap.size + 1) _ rfl rfl _ _ HY.out (by kernel_rfl) rfl (by simp [Value.oneCell']) ?_)
    | (go_at_call 61; refine HCO.out.mono ?_; rintro e w3 ⟨rfl, hb3⟩; have HY := hid (heap_below hb3 HY.out (heap_lt HY.out))))
  exact bodyPost_ret (results_c3 Try.results33 rfl (setRow_at HY.out) Try.underlying62 rfl (by kernel_rfl)) rfl ⟨rfl, (HB.out.trans (hb3.mono (by rw [hs]; omega))).trans (setRow_below (by omega))⟩
end Go.Proofs.Ytmjnelkeiogdcaa
/- Walks of package hand: Audit. -/
namespace Go.Proofs.Ytmjnelkeiogdcaa
open Go Go.RowKit Go.Shelf
set_option maxRecDepth 100000

/-- A record lies below block N. -/
structure RecAt (W : World) (N : Nat) (v : Value) (Rs : List (List Int × Int)) : Prop where
  le : N ≤ W.heap.size
  at' : ∃ p c, v = .slice p Rs.length c ∧ ∀ i (h : i < Rs.length), ∃ b o q m, p = some ⟨b, o, none⟩ ∧ b < N ∧ W.cell? ⟨b, o + i * 2, none⟩ = some (.slice q Rs[i].1.length m) ∧ W.cell? ⟨b, o + i * 2 + 1, none⟩ = some (.int .i64 Rs[i].2) ∧ CrsAt W N (.slice q Rs[i].1.length m) Rs[i].1
theorem RecAt.below {W W' : World} {N : Nat} {v : Value} {Rs : List (List Int × Int)} (h : RecAt W N v Rs) (hb : Below N W W') : RecAt W' N v Rs := by
  obtain ⟨p, c, hv, hf⟩ := h.at'
  refine ⟨Nat.le_trans h.le hb.size, p, c, hv, fun i hi => ?_⟩
  obtain ⟨b, o, q, m, e, hbN, h1, h2, h3⟩ := hf i hi
  exact ⟨b, o, q, m, e, hbN, (hb.cell (p := ⟨b, o + i * 2, none⟩) hbN).trans h1, (hb.cell (p := ⟨b, o + i * 2 + 1, none⟩) hbN).trans h2, h3.below hb⟩
/-- The first cast that can not be. -/
def audN (H : HV) : List (List Int × Int) → Nat → Int × Int × Int
  | [], _ => (-1, 0, 0)
  | x :: L, i => match fulN H (beginS H) x.1 with
    | .bad j e => (((i : Nat) : Int), ((j : Nat) : Int), ((e : Nat) : Int))
    | .ok t => if outN H t = x.2 then audN H L (i + 1) else (((i : Nat) : Int), outN H t, 9)
def audV (z : Int × Int × Int) : Array Value := #[.int .i64 z.1, .int .i64 z.2.1, .int .i64 z.2.2]
set_option maxHeartbeats 2000000 in
theorem Audit_yes (N Nc : Nat) (H : HV) (hV : Val H) (fv cv : Value) (v : Value) (Rs : List (List Int × Int)) (hn : Rs.length ≤ 200) (hc1 : ∀ x ∈ Rs, x.1.length ≤ 1000000 ∧ ∀ c ∈ x.1, c ≤ 9223372036854775807) (w : World) (hR : RawAt w N (rawOf H) fv cv) (hC : RecAt w Nc v Rs) :
    Calls Try.prog 30 #[.agg (handA H fv cv), v] w fun e w' => e = .returned (.tuple (audV (audN H Rs 0))) ∧ Below w.heap.size w w' := by
  have hx := heap_alloc_new w (.cells (handA H fv cv) 26)
  have hb : Below w.heap.size w (w.alloc (.cells (handA H fv cv) 26)) := (Below.refl _ _).alloc (Nat.le_refl _) _
  have HX := hid hx
  have HB := hid hb
  have hR1 := hR.below (hb.mono hR.le)
  have HCK := hid (check_yes H hV fv cv N _ hR1)
  have HR := hid hR
  have HC := hid hC
  have HRU := hid (fun v Cs hn hi W hW hCW => Run_yes N Nc H hV fv cv v Cs hn hi W hW hCW)
  have HBD := hid (fun Cs i e (ht : fulN H (beginS H) Cs = .bad i e) => (ful_bad H Cs _ i e ht).1)
  obtain ⟨n, hnn⟩ : ∃ n, Rs.length = n := ⟨_, rfl⟩
  obtain ⟨p, cp, rfl, -⟩ := hC.at'
  have HNN := hid hnn
  have HC1 := hid hc1
  rw [hnn] at hn ⊢
  have hn' : decide ((200 : Int) < ((n : Nat) : Int)) = false := decide_eq_false (by omega)
  have hn'' : ¬ (200 : Int) < ((n : Nat) : Int) := by omega
  clear hx hb hR hR1 hC hc1 hnn
  go_enter Try.func30, Try.ntmps30
  go_wp2_with (first
    | (refine wpList_value rfl (by intro c hc; cases hc) (.agg (handA H fv cv)) (exec_ldhand rfl rfl HX.out) ?_)
    | (go_at_call 26; refine HCK.out.mono ?_; rintro e w2 ⟨rfl, hb2⟩; have HX := hid (heap_below hb2 HX.out (heap_lt HX.out)); have HB := hid (HB.out.trans (hb2.mono HB.out.size))))
  clear hb2 HCK
  go_loopw [23] (fun ix wr => ∃ i : Nat, i ≤ n ∧ ix = .int .i64 i ∧ audN H Rs 0 = audN H (Rs.drop i) i ∧ Below w.heap.size w wr ∧ wr.heap[w.heap.size]? = some (.cells (handA H fv cv) 26 (0, 0))) (fun ix _ => n - (intOf ix).toNat)
  case atStart => exact ⟨0, by omega, rfl, rfl, HB.out, HX.out⟩
  case round =>
    clear HX HB
    obtain ⟨i, hi, rfl, haud, hB, hx⟩ := hrel
    by_cases hlt : i < n
    · have hlt' : ((i : Nat) : Int) < n := by omega
      have hi0 : (0 : Int) ≤ i := by omega
      have hil : i < Rs.length := by rw [HNN.out]; exact hlt
      have hdrop : Rs.drop i = Rs[i] :: Rs.drop (i + 1) := List.drop_eq_getElem_cons hil
      rw [hdrop] at haud
      have hCr := HC.out.below (hB.mono HC.out.le)
      obtain ⟨p', c', hv', hcs⟩ := hCr.at'
      injection hv' with ep _ ec
      subst ep
      subst ec
      obtain ⟨b, o, q, m, rfl, hbN, h0, h1, h2⟩ := hcs i hil
      have hcc := HC1.out _ (List.getElem_mem hil)
      generalize Rs[i] = x at *
      obtain ⟨Cs, oc⟩ := x
      simp only at h0 h1 h2 hcc haud
      have hba : Below wr.heap.size wr (wr.alloc (.cells #[.slice q Cs.length m, .int .i64 oc] 57)) := (Below.refl _ _).alloc (Nat.le_refl _) _
      have hnew := heap_alloc_new wr (.cells #[.slice q Cs.length m, .int .i64 oc] 57)
      have hHR := HR.out.below (hB.mono HR.out.le)
      have HRX := hid (HRU.out _ Cs hcc.1 hcc.2 _ (hHR.below (hba.mono hHR.le)) (h2.below (hba.mono h2.le)))
      have HX := hid (heap_below hba hx (heap_lt hx))
      have HNEW := hid hnew
      have HBA := hid (hB.trans (hba.mono hB.size))
      have HAU := hid haud
      have HBE := hid (HBD.out Cs)
      clear hcs hdrop h2 hcc hx hB hHR hCr haud hba hnew
      cases hf : fulN H (beginS H) Cs with
      | bad j e =>
        have he := HBE.out j e hf
        have he0 : (((e : Nat) : Int) != 0) = true := by simp; omega
        have HAU2 := hid (show audN H Rs 0 = (((i : Nat) : Int), ((j : Nat) : Int), ((e : Nat) : Int)) from by rw [HAU.out, audN]; simp only [hf])
        rw [hf] at HRX
        simp only [runV] at HRX
        clear he HAU hf
        go_wp2_with (first
          | (refine wpList_value rfl (by intro c hc; cases hc) (.agg (handA H fv cv)) (exec_ldhand rfl rfl HX.out) ?_)
          | (go_at_call 29; refine HRX.out.mono ?_; rintro e w5 ⟨rfl, hb5⟩))
        go_ret3
        exact ⟨by rw [HAU2.out]; rfl, HBA.out.trans (hb5.mono HBA.out.size)⟩
      | ok t =>
        rw [hf] at HRX
        simp only [runV] at HRX
        by_cases ho : outN H t = oc
        · have HAU2 := hid (show audN H Rs 0 = audN H (Rs.drop (i + 1)) (i + 1) from by rw [HAU.out, audN]; simp only [hf]; rw [if_pos ho])
          have ho' : (outN H t != oc) = false := by simp [ho]
          clear HAU hf ho
          generalize outN H t = z at *
          go_wp2_with (first
            | (refine wpList_value rfl (by intro c hc; cases hc) (.agg (handA H fv cv)) (exec_ldhand rfl rfl HX.out) ?_)
            | (go_at_call 29; refine HRX.out.mono ?_; rintro e w5 ⟨rfl, hb5⟩; have hn5 := heap_below hb5 HNEW.out (heap_lt HNEW.out); have d0 := cell_of_row _ _ 0 _ _ (0, 0) hn5; have d1 := cell_of_row _ _ 1 _ _ (0, 0) hn5))
          go_roundw
          case rel => exact ⟨i + 1, by omega, by go_num, HAU2.out, HBA.out.trans (hb5.mono HBA.out.size), heap_below hb5 HX.out (heap_lt HX.out)⟩
          case measure => simp [intOf]; omega
        · have HAU2 := hid (show audN H Rs 0 = (((i : Nat) : Int), outN H t, 9) from by rw [HAU.out, audN]; simp only [hf]; rw [if_neg ho])
          have ho' : (outN H t != oc) = true := by simp [ho]
          clear HAU hf ho
          generalize outN H t = z at *
          go_wp2_with (first
            | (refine wpList_value rfl (by intro c hc; cases hc) (.agg (handA H fv cv)) (exec_ldhand rfl rfl HX.out) ?_)
            | (go_at_call 29; refine HRX.out.mono ?_; rintro e w5 ⟨rfl, hb5⟩; have hn5 := heap_below hb5 HNEW.out (heap_lt HNEW.out); have d0 := cell_of_row _ _ 0 _ _ (0, 0) hn5; have d1 := cell_of_row _ _ 1 _ _ (0, 0) hn5))
          go_ret3
          exact ⟨by rw [HAU2.out]; rfl, HBA.out.trans (hb5.mono HBA.out.size)⟩
    · have hge : ¬ ((i : Nat) : Int) < n := by omega
      have hd : Rs.drop i = [] := List.drop_eq_nil_of_le (by rw [HNN.out]; omega)
      rw [hd] at haud
      have HAU := hid haud
      have HBA := hid hB
      clear hd haud hB hx
      go_wp2_with fail
      go_ret3
      exact ⟨by rw [HAU.out]; rfl, HBA.out⟩
theorem Audit_long (N : Nat) (H : HV) (hV : Val H) (fv cv : Value) (p : Option Addr) (n m : Nat) (hn : 200 < n) (w : World) (hR : RawAt w N (rawOf H) fv cv) :
    Calls Try.prog 30 #[.agg (handA H fv cv), .slice p n m] w fun e w' => e = .returned (.tuple #[.int .i64 0, .int .i64 0, .int .i64 5]) ∧ Below w.heap.size w w' := by
  have hx := heap_alloc_new w (.cells (handA H fv cv) 26)
  have hb : Below w.heap.size w (w.alloc (.cells (handA H fv cv) 26)) := (Below.refl _ _).alloc (Nat.le_refl _) _
  have HX := hid hx
  have HB := hid hb
  have HCK := hid (check_yes H hV fv cv N _ (hR.below (hb.mono hR.le)))
  have hn' : decide ((200 : Int) < ((n : Nat) : Int)) = true := decide_eq_true (by omega)
  have hn'' : (200 : Int) < ((n : Nat) : Int) := by omega
  clear hx hb hR hn
  go_enter Try.func30, Try.ntmps30
  go_wp2_with (first
    | (refine wpList_value rfl (by intro c hc; cases hc) (.agg (handA H fv cv)) (exec_ldhand rfl rfl HX.out) ?_)
    | (go_at_call 26; refine HCK.out.mono ?_; rintro e w2 ⟨rfl, hb2⟩))
  go_ret3
  exact ⟨rfl, HB.out.trans (hb2.mono HB.out.size)⟩
theorem Audit_no (R : RH) (h0 : okR R = false) (fv cv : Value) (N : Nat) (p : Option Addr) (n m : Nat) (w : World) (hR : RawAt w N R fv cv) (hf : R.faces.length ≤ 1000) (hc : R.cards.length ≤ 1000) :
    Calls Try.prog 30 #[.agg (handR R fv cv), .slice p n m] w fun e w' => e = .returned (.tuple #[.int .i64 0, .int .i64 0, .int .i64 2]) ∧ Below w.heap.size w w' := by
  have hx := heap_alloc_new w (.cells (handR R fv cv) 26)
  have hb : Below w.heap.size w (w.alloc (.cells (handR R fv cv) 26)) := (Below.refl _ _).alloc (Nat.le_refl _) _
  have HX := hid hx
  have HB := hid hb
  have HC := hid (check_no R h0 fv cv N _ (hR.below (hb.mono hR.le)) hf hc)
  clear hx hb hR hf hc h0
  go_enter Try.func30, Try.ntmps30
  go_wp2_with (first
    | (refine wpList_value rfl (by intro c hc; cases hc) (.agg (handR R fv cv)) (exec_ldR rfl rfl HX.out) ?_)
    | (go_at_call 26; refine HC.out.mono ?_; rintro e w2 ⟨rfl, hb2⟩))
  go_ret3
  exact ⟨rfl, HB.out.trans (hb2.mono HB.out.size)⟩
end Go.Proofs.Ytmjnelkeiogdcaa
/- Walks of package hand: the common denominator of a layer. -/
namespace Go.Proofs.Ytmjnelkeiogdcaa
open Go Go.RowKit Go.Shelf
set_option maxRecDepth 100000

theorem RangeS.mem {W : World} {r b : Nat} {L vis : SL} (h : RangeS W r b L vis) : ∀ p ∈ vis, p ∈ L := by
  obtain ⟨_, seen, _, hv⟩ := h
  intro p hp
  rw [hv.eq] at hp
  obtain ⟨j, hj, rfl⟩ := List.mem_map.1 hp
  have hl := hv.lt j hj
  rw [List.getD_eq_getElem?_getD, List.getElem?_eq_getElem hl]
  exact List.getElem_mem hl
/-- The numbers of choices of a layer. -/
def chsL (L : SL) : List Nat := L.map fun p => p.2.toNat
set_option maxHeartbeats 2000000 in
theorem common_c (b : Nat) (L : SL) (hL : ∀ p ∈ L, ∃ c : Nat, p.2 = ((c : Nat) : Int) ∧ c ≤ 20000) (w : World) (hm : MapAt w b L) :
    Calls Try.prog 43 #[.map (some b)] w fun e w' => e = .returned (.int .i64 ((satN (lcmL (chsL L)) : Nat) : Int)) ∧ Below w.heap.size w w' := by
  have hT : MapT 75 := Try.underlying75
  have hrng := run_rangeS hT hm
  have hr5 := rangeS_new hm
  have hb5 : Below w.heap.size w (w.alloc (.mapIter (some b) L.length #[] L.length)) := (Below.refl _ _).alloc (Nat.le_refl _) _
  have hit5 := World.alloc_heap_new w (.mapIter (some b) L.length #[] L.length)
  have HR5 := hid hr5
  have HIT := hid hit5
  have HB5 := hid hb5
  have HL := hid hL
  clear hr5 hb5 hit5 hm hL
  go_enter Try.func43, Try.ntmps43
  go_wp2_with fail
  obtain ⟨r, hrr⟩ : ∃ r, w.heap.size = r := ⟨_, rfl⟩
  rw [hrr] at HR5 HIT HB5 ⊢
  obtain ⟨V1, hV1⟩ : ∃ V1, w.alloc (.mapIter (some b) L.length #[] L.length) = V1 := ⟨_, rfl⟩
  rw [hV1] at HR5 HIT HB5 ⊢
  clear hV1 hrng
  go_loopw [3] (fun nv X => ∃ vis, RangeS X r b L vis ∧ V1.grownBy X (some r) ∧ nv = .int .i64 ((satN (lcmL (chsL vis)) : Nat) : Int) ∧ lcmL (chsL vis) ≤ 1000000000000000) (fun _ X => L.length - seenOf X r)
  case atStart => exact ⟨[], HR5.out, World.grownBy.refl _ _, rfl, by decide⟩
  case round =>
    obtain ⟨vis, hrg, hgr, rfl, hle⟩ := hrel
    rcases next_S hrg 0 with ⟨hperm, hrun⟩ | ⟨p, V3, hpL, hr3, hgr3, hsz3, hrun, hent⟩
    · have he : lcmL (chsL vis) = lcmL (chsL L) := lcmL_congr _ _ fun c _ => by
        unfold chsL
        rw [(hperm.map _).mem_iff]
      rw [he]
      have HBW := hid (HB5.out.trans (grownB hgr (by have := HB5.out.size; omega) (by omega)))
      obtain ⟨z, hz⟩ : ∃ z, satN (lcmL (chsL L)) = z := ⟨_, rfl⟩
      rw [hz]
      have HZ := hid hz
      clear hperm hrg hgr he hle hz
      go_wp2_with fail
      go_ret
      exact ⟨by rw [HZ.out]; rfl, by rw [hrr]; exact HBW.out⟩
    · obtain ⟨ps, pm⟩ := p
      obtain ⟨c, hc, hc2⟩ := HL.out _ hpL
      simp only at hc
      subst hc
      have hgr4 := grown_trans hgr hgr3
      have HSN := hid (show seenOf wr r = vis.length ∧ (vis ++ [((ps, ((c : Nat) : Int)) : St × Int)]).length ≤ L.length from ⟨hrg.seen, hr3.len⟩)
      have HR3 := hid hr3
      have HG4 := hid hgr4
      have hch : chsL (vis ++ [(ps, ((c : Nat) : Int))]) = chsL vis ++ [c] := by simp [chsL]
      have hsub : lcmL (chsL vis ++ [c]) ≤ lcmL (chsL L) := by
        rw [← hch]
        exact lcmL_le _ _ fun x hx => by
          unfold chsL at hx ⊢
          obtain ⟨y, hy, rfl⟩ := List.mem_map.1 hx
          exact List.mem_map.2 ⟨y, hr3.mem y hy, rfl⟩
      obtain ⟨m, hm⟩ : ∃ m, satN (lcmL (chsL vis)) = m := ⟨_, rfl⟩
      have hm1 : m ≤ 1000000000000001 := by rw [← hm]; exact satN_le _
      have HM := hid hm
      have HCH := hid hch
      have HSUB := hid hsub
      have HLE := hid hle
      rw [hm]
      clear hrg hgr hgr3 hr3 hgr4 hch hsub hle hm hpL hsz3
      by_cases h0 : 0 < c
      · have hd0 : decide ((0 : Int) < ((c : Nat) : Int)) = true := decide_eq_true (by omega)
        have hd0' : (0 : Int) < ((c : Nat) : Int) := by omega
        have HDV := hid (fun W => divisor_c m c (by omega) (by omega) W)
        obtain ⟨g, hg⟩ : ∃ g, Nat.gcd c m = g := ⟨_, rfl⟩
        have hg0 : 0 < g := by rw [← hg]; exact Nat.gcd_pos_of_pos_left _ h0
        have hgne : (((g : Nat) : Int) == 0) = false := by simp; omega
        have hgne' : ((g : Nat) : Int) ≠ 0 := by omega
        have hq := tdivN c g
        have hql : c / g ≤ c := Nat.div_le_self _ _
        obtain ⟨q, hqq⟩ : ∃ q, c / g = q := ⟨_, rfl⟩
        rw [hqq] at hq hql
        have wq := wrap_nat q (by omega)
        have HTI := hid (fun W => times_c m q (by omega) (by omega) W)
        have hnew : timesN m q = satN (lcmL (chsL vis ++ [c])) := by
          have := lcm_step (chsL vis) c h0 HLE.out
          rw [HM.out, Nat.gcd_comm, hg, hqq] at this
          exact this
        rw [hnew] at HTI
        rw [hg] at HDV
        obtain ⟨z, hz⟩ : ∃ z, satN (lcmL (chsL vis ++ [c])) = z := ⟨_, rfl⟩
        have HZ := hid hz
        rw [hz] at HTI
        clear hnew hg hqq hz hg0
        by_cases hzl : z ≤ 1000000000000000
        · have hz1 : decide ((1000000000000000 : Int) < ((z : Nat) : Int)) = false := decide_eq_false (by omega)
          have hz1' : ¬ (1000000000000000 : Int) < ((z : Nat) : Int) := by omega
          have HZL := hid (show lcmL (chsL vis ++ [c]) ≤ 1000000000000000 from (satN_small _).1 (by rw [HZ.out]; exact hzl))
          clear hzl
          go_wp2_with (first
            | (go_at_call 45; refine (HDV.out _).mono ?_; rintro e X1 ⟨rfl, dz, rfl⟩)
            | (go_at_call 44; refine (HTI.out _).mono ?_; rintro e X2 ⟨rfl, rfl⟩))
          go_roundw
          case rel => exact ⟨_, HR3.out.below (below_drewN (Below.refl _ _) dz), grown_trans HG4.out (below_grown (below_drewN (Below.refl _ _) dz)), by rw [HCH.out, HZ.out], by rw [HCH.out]; exact HZL.out⟩
          case measure =>
            have h1 := (HR3.out.below (below_drewN (Below.refl _ _) dz)).seen
            have h2 := HSN.out
            rw [h1, h2.1]
            have := h2.2
            simp only [List.length_append, List.length_cons, List.length_nil] at this ⊢
            omega
        · have hz1 : decide ((1000000000000000 : Int) < ((z : Nat) : Int)) = true := decide_eq_true (by omega)
          have hz1' : (1000000000000000 : Int) < ((z : Nat) : Int) := by omega
          have HZL := hid (show satN (lcmL (chsL L)) = z from by
            have h1 : ¬ lcmL (chsL vis ++ [c]) ≤ 1000000000000000 := fun h => hzl (by rw [← HZ.out]; exact (satN_small _).2 h)
            have h2 := HSUB.out
            rw [← HZ.out]
            unfold satN
            rw [if_neg h1, if_neg (by omega)])
          have HBW := hid (HB5.out.trans (grownB HG4.out (by have := HB5.out.size; omega) (by omega)))
          clear hzl
          go_wp2_with (first
            | (go_at_call 45; refine (HDV.out _).mono ?_; rintro e X1 ⟨rfl, dz, rfl⟩)
            | (go_at_call 44; refine (HTI.out _).mono ?_; rintro e X2 ⟨rfl, rfl⟩))
          go_ret
          exact ⟨by rw [HZL.out]; rfl, by rw [hrr]; exact below_drewN HBW.out dz⟩
      · have hc0 : c = 0 := by omega
        subst hc0
        have hm2 : m ≤ 1000000000000000 := by rw [← HM.out]; exact (satN_small _).2 HLE.out
        have hz1 : decide ((1000000000000000 : Int) < ((m : Nat) : Int)) = false := decide_eq_false (by omega)
        have hz1' : ¬ (1000000000000000 : Int) < ((m : Nat) : Int) := by omega
        have HEQ := hid (lcmL_snoc0 (chsL vis))
        clear hm2 h0
        go_wp2_with fail
        go_roundw
        case rel => exact ⟨_, HR3.out, HG4.out, by rw [HCH.out, HEQ.out, HM.out], by rw [HCH.out, HEQ.out]; exact HLE.out⟩
        case measure =>
          have h1 := HR3.out.seen
          have h2 := HSN.out
          rw [h1, h2.1]
          have := h2.2
          simp only [List.length_append, List.length_cons, List.length_nil] at this ⊢
          omega
end Go.Proofs.Ytmjnelkeiogdcaa
