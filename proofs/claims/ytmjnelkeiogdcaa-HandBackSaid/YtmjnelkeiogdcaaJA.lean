/- Walks of package hand: Run, Chance. -/
import Derived.Test.YtmjnelkeiogdcaaHZ
namespace Go.Proofs.Ytmjnelkeiogdcaa
open Go Go.RowKit Go.Shelf
set_option maxRecDepth 100000

/-- What Run answers. -/
def runV (H : HV) : FR → Array Value
  | .ok t => #[.int .i64 (outN H t), .int .i64 0, .int .i64 0]
  | .bad i e => #[.int .i64 0, .int .i64 ((i : Nat) : Int), .int .i64 ((e : Nat) : Int)]
theorem complete_b (N Nc : Nat) (H : HV) (hV : Val H) (fv cv : Value) (v : Value) (Cs : List Int) (hn : Cs.length ≤ 1000000) (hi63 : ∀ c ∈ Cs, c ≤ 9223372036854775807) (w : World) (hR : RawAt w N (rawOf H) fv cv) (hC : CrsAt w Nc v Cs) :
    Calls Try.prog 61 #[.agg (handA H fv cv), v, .func (.func 62) #[] #[]] w fun e w' => e = .returned (.tuple (folV (fulN H (beginS H) Cs))) ∧ Below w.heap.size w w' :=
  (complete_blind N Nc H hV fv cv (fun _ => False) (fun _ _ => True) v Cs hn hi63 w hR hC (fun _ h => h.elim) trivial (fun _ _ _ _ _ => trivial) (fun tr s c W _ _ _ _ _ => (blind_c s c W).mono fun e w' ⟨h, e2⟩ => ⟨h, trivial, by rw [e2]; exact Mods.refl _ _⟩)).mono
    fun e w' ⟨h1, _, h3⟩ => ⟨h1, h3.to (Nat.le_refl _) (fun _ _ h => h)⟩
theorem ful_fit (H : HV) (L : List Int) (s t : St) (hF : Fit H s) (h : fulN H s L = .ok t) : Fit H t := by
  unfold fulN at h
  cases hf : folN H s L 0 with
  | ok u =>
    rw [hf] at h
    simp only at h
    split at h
    · injection h with h; rw [← h]; exact fol_fit H L s 0 u hF hf
    · cases h
  | bad i e => rw [hf] at h; cases h
theorem ful_bad (H : HV) (L : List Int) (s : St) (i e : Nat) (h : fulN H s L = .bad i e) : (e = 5 ∨ e = 20 ∨ e = 7) ∧ i ≤ L.length := by
  unfold fulN at h
  cases hf : folN H s L 0 with
  | ok u =>
    rw [hf] at h
    simp only at h
    split at h
    · cases h
    · injection h with h1 h2; subst h1; subst h2; exact ⟨by omega, Nat.le_refl _⟩
  | bad j f =>
    rw [hf] at h
    injection h with h1 h2
    subst h1; subst h2
    have := fol_bad H L s 0 _ _ hf
    omega
set_option maxHeartbeats 1000000 in
theorem Run_yes (N Nc : Nat) (H : HV) (hV : Val H) (fv cv : Value) (v : Value) (Cs : List Int) (hn : Cs.length ≤ 1000000) (hi63 : ∀ c ∈ Cs, c ≤ 9223372036854775807) (w : World) (hR : RawAt w N (rawOf H) fv cv) (hC : CrsAt w Nc v Cs) :
    Calls Try.prog 29 #[.agg (handA H fv cv), v] w fun e w' => e = .returned (.tuple (runV H (fulN H (beginS H) Cs))) ∧ Below w.heap.size w w' := by
  have hx := heap_alloc_new w (.cells (handA H fv cv) 26)
  have hb : Below w.heap.size w (w.alloc (.cells (handA H fv cv) 26)) := (Below.refl _ _).alloc (Nat.le_refl _) _
  have HX := hid hx
  have HB := hid hb
  have hR1 := hR.below (hb.mono hR.le)
  have HCO := hid (complete_b N Nc H hV fv cv v Cs hn hi63 _ hR1 (hC.below (hb.mono hC.le)))
  have HFT := hid (fun t (ht : fulN H (beginS H) Cs = .ok t) => ful_fit H Cs _ t (begin_fit H hV.hand.ok) ht)
  have HBD := hid (fun i e (ht : fulN H (beginS H) Cs = .bad i e) => (ful_bad H Cs _ i e ht).1)
  obtain ⟨p, cp, rfl, -⟩ := hC.at'
  clear hx hb hR hR1 hC hi63
  cases hf : fulN H (beginS H) Cs with
  | ok t =>
    have HOU := hid (fun W => outcome_c H fv cv t (HFT.out t hf) W)
    rw [hf] at HCO
    simp only [folV, runV] at HCO ⊢
    clear HBD HFT hf
    go_enter Try.func29, Try.ntmps29
    go_wp2_with (first
      | (refine wpList_value rfl (by intro c hc; cases hc) (.agg (handA H fv cv)) (exec_ldhand rfl rfl HX.out) ?_)
      | (refine wpList_enter rfl (inv_out _ _ _ _ rfl rfl rfl _) ?_; refine (HOU.out _).mono ?_; rintro e w4 ⟨rfl, hb4⟩; refine ⟨_, rfl, ?_⟩)
      | (go_at_call 61; refine HCO.out.mono ?_; rintro e w3 ⟨rfl, hb3⟩; have HX := hid (heap_below hb3 HX.out (heap_lt HX.out)); have HB := hid (HB.out.trans (hb3.mono HB.out.size))))
    go_ret3
    exact ⟨rfl, HB.out.trans (hb4.mono HB.out.size)⟩
  | bad i e =>
    have he := HBD.out i e hf
    have he0 : (((e : Nat) : Int) != 0) = true := by simp; omega
    rw [hf] at HCO
    simp only [folV, runV] at HCO ⊢
    clear HBD HFT hf he
    go_enter Try.func29, Try.ntmps29
    go_wp2_with (first
      | (refine wpList_value rfl (by intro c hc; cases hc) (.agg (handA H fv cv)) (exec_ldhand rfl rfl HX.out) ?_)
      | (go_at_call 61; refine HCO.out.mono ?_; rintro e w3 ⟨rfl, hb3⟩))
    go_ret3
    exact ⟨rfl, HB.out.trans (hb3.mono HB.out.size)⟩
theorem exec_ldR {ev : Operand → Value} {o : Oper} {x : Operand} {g : Nat} {W : World} {R : RH} {fv cv : Value} (ho : o.op = .load 26 x) (hx : ev x = .pointer (some ⟨g, 0, none⟩)) (hg : W.heap[g]? = some (.cells (handR R fv cv) 26 (0, 0))) :
    (execOp ev o).run Try.prog W = .ok (.value (.agg (handR R fv cv))) W := by
  have h := run_loadVar_row (P := Try.prog) W g 26 26 (handR R fv cv) (0, 0) _ hg Try.underlying26 rfl (by kernel_rfl)
  simp only [execOp, ho, hx, Instr.loadAt, Instr.sureAddr, Sem.run_bind, Sem.run_pure, Result.andThen_ok, h]
theorem Run_no (R : RH) (h0 : okR R = false) (fv cv : Value) (N : Nat) (p : Option Addr) (n m : Nat) (w : World) (hR : RawAt w N R fv cv) (hf : R.faces.length ≤ 1000) (hc : R.cards.length ≤ 1000) :
    Calls Try.prog 29 #[.agg (handR R fv cv), .slice p n m] w fun e w' => e = .returned (.tuple #[.int .i64 0, .int .i64 0, .int .i64 2]) ∧ Below w.heap.size w w' := by
  have hx := heap_alloc_new w (.cells (handR R fv cv) 26)
  have hb : Below w.heap.size w (w.alloc (.cells (handR R fv cv) 26)) := (Below.refl _ _).alloc (Nat.le_refl _) _
  have HX := hid hx
  have HB := hid hb
  have HC := hid (complete_no_blind R h0 fv cv N p n m _ (hR.below (hb.mono hR.le)) hf hc)
  clear hx hb hR hf hc h0
  go_enter Try.func29, Try.ntmps29
  go_wp2_with (first
    | (refine wpList_value rfl (by intro c hc; cases hc) (.agg (handR R fv cv)) (exec_ldR rfl rfl HX.out) ?_)
    | (go_at_call 61; refine HC.out.mono ?_; rintro e w2 ⟨rfl, hb2⟩))
  go_ret3
  exact ⟨rfl, HB.out.trans (hb2.mono HB.out.size)⟩
/-- The denominator of what a course has shown. -/
def denT (H : HV) (tr : List (St × Int)) : Nat := satN (prodL (tr.map fun x => chN H x.1))
theorem prod_append (L : List Nat) (x : Nat) : prodL (L ++ [x]) = prodL L * x := by
  induction L with
  | nil => simp [prodL]
  | cons y L ih => simp only [List.cons_append, prodL, ih, Nat.mul_assoc]
theorem den_append (H : HV) (tr : List (St × Int)) (s : St) (c : Int) : denT H (tr ++ [(s, c)]) = timesN (denT H tr) (chN H s) := by
  unfold denT
  rw [List.map_append, List.map_cons, List.map_nil, prod_append, sat_times]
theorem exec_ldint {ev : Operand → Value} {o : Oper} {x : Operand} {g : Nat} {W : World} {v : Value} (ho : o.op = .load 3 x) (hx : ev x = .pointer (some ⟨g, 0, none⟩)) (hg : Boxed W g 3 v) :
    (execOp ev o).run Try.prog W = .ok (.value v) W := by
  have hc := hg.cell
  simp [execOp, ho, hx]
  go_simp
/-- What holds while a chance is reckoned. -/
def ChK (N bd bh : Nat) (H : HV) (fv cv : Value) (tr : List (St × Int)) (W : World) : Prop :=
  Boxed W bd 3 (.int .i64 ((denT H tr : Nat) : Int)) ∧ W.heap[bh]? = some (.cells (handA H fv cv) 26 (0, 0)) ∧ HandAt W N H fv cv
theorem ChK.below {N bd bh : Nat} {H : HV} {fv cv : Value} {tr : List (St × Int)} {W W' : World} (h : ChK N bd bh H fv cv tr W) (hb : Below W.heap.size W W') : ChK N bd bh H fv cv tr W' :=
  ⟨heap_below hb h.1 (heap_lt h.1), heap_below hb h.2.1 (heap_lt h.2.1), h.2.2.below (hb.mono h.2.2.le)⟩
set_option maxHeartbeats 1000000 in
theorem chance1_c (N bd bh : Nat) (hNd : N ≤ bd) (hne : bd ≠ bh) (H : HV) (fv cv : Value) (tr : List (St × Int)) (s : St) (c : Int) (hF : Fit H s) (W : World) (hk : ChK N bd bh H fv cv tr W) :
    Calls Try.prog 64 #[encS s, .int .i64 c, .pointer (some ⟨bd, 0, none⟩), .pointer (some ⟨bh, 0, none⟩)] W fun e W' => (∃ v, e = .returned v) ∧ ChK N bd bh H fv cv (tr ++ [(s, c)]) W' ∧ Mods (fun b => b = bd) W W' := by
  have HK := hid hk
  have HDA := hid (den_append H tr s c)
  have hd := satN_le (prodL (tr.map fun x => chN H x.1))
  have hsm := brs_small H s hF
  obtain ⟨d, hdd⟩ : ∃ d, denT H tr = d := ⟨_, rfl⟩
  have hd' : d ≤ 1000000000000001 := by rw [← hdd]; exact hd
  have HDD := hid hdd
  have hHA := hk.2.2
  have HCH := hid (fun V hV => choices_c N H fv cv s hF V hV)
  have HTI := hid (fun V => times_c d (chN H s) (by omega) (by omega) V)
  obtain ⟨z, hz⟩ : ∃ z, timesN d (chN H s) = z := ⟨_, rfl⟩
  have HZ := hid hz
  rw [hz] at HTI
  clear hk hd hsm hdd hd' hz hHA
  go_enter Try.func64, Try.ntmps64
  go_wp2_with fail
  have hS0 : Below W.heap.size W W.drew := ⟨rfl, rfl, rfl, Nat.le_refl _, fun _ _ => rfl⟩
  refine regD (fun X => Below W.heap.size W X) (fun j => decide (j < 5)) (by kernel_rfl) ?_
  refine takeE (i := 0) (.int .i64 ((d : Nat) : Int)) (d := some 6) rfl (by kernel_rfl) (by kernel_rfl) (by kernel_rfl) (by kernel_rfl) (fun _ _ _ h => h) rfl (fun X hX => by exact exec_ldint rfl rfl (by rw [← HDD.out]; exact (HK.out.below hX).1)) hS0 rfl ?_
  simp only [Act.put, List.setIfInBounds_toArray, List.set_cons_zero, List.set_cons_succ]
  refine takeE (i := 1) (.agg (handA H fv cv)) (d := some 7) rfl (by kernel_rfl) (by kernel_rfl) (by kernel_rfl) (by kernel_rfl) (fun _ _ _ h => h) rfl (fun X hX => by exact exec_ldhand rfl rfl (HK.out.below hX).2.1) hS0 rfl ?_
  simp only [Act.put, List.setIfInBounds_toArray, List.set_cons_zero, List.set_cons_succ]
  refine takeE (i := 2) (encS s) (d := some 8) rfl (by kernel_rfl) (by kernel_rfl) (by kernel_rfl) (by kernel_rfl) (fun _ _ _ h => h) rfl (fun X hX => by rfl) hS0 rfl ?_
  simp only [Act.put, List.setIfInBounds_toArray, List.set_cons_zero, List.set_cons_succ]
  refine stepD 3 (by kernel_rfl) rfl rfl (fun K hK => ?_)
  go_simp
  go_at_call 63
  refine (HCH.out _ (HK.out.below hS0).2.2).mono ?_
  rintro e X ⟨rfl, hbX⟩
  have hS1 : Below W.heap.size W X := hS0.trans hbX
  go_simp
  refine hK _ _ (fun _ => hS1) ?_
  clear hK K
  refine stepD 4 (by kernel_rfl) rfl rfl (fun K hK => ?_)
  go_simp
  go_at_call 44
  refine (HTI.out _).mono ?_
  rintro e X2 ⟨rfl, rfl⟩
  go_simp
  refine hK _ _ (fun _ => hS1) ?_
  clear hK K
  have hKX := HK.out.below hS1
  have hbx := hKX.1
  have hc := hbx.cell
  have hf := hbx.frozen
  have HN := hid (show ChK N bd bh H fv cv (tr ++ [(s, c)]) (X.setCell ⟨bd, 0, none⟩ (.int .i64 ((z : Nat) : Int))) from
    ⟨by rw [HDA.out, HDD.out, HZ.out]; exact hbx.set _, (heap_setCell_other X ⟨bd, 0, none⟩ bh _ (Ne.symm hne)).trans hKX.2.1, hKX.2.2.below ⟨rfl, rfl, rfl, by simp, fun k hk => heap_setCell_other X ⟨bd, 0, none⟩ k _ (show k ≠ bd by omega)⟩⟩)
  have HM := hid (show Mods (fun b => b = bd) W (X.setCell ⟨bd, 0, none⟩ (.int .i64 ((z : Nat) : Int))) from
    (Mods.below hS1).trans ⟨rfl, rfl, rfl, by simp, fun b o hb ho => (heap_setCell_other X ⟨bd, 0, none⟩ b _ (show b ≠ bd from hb)).trans ho⟩)
  refine stepD 5 (by kernel_rfl) rfl rfl (fun K hK => ?_)
  go_simp
  refine hK _ _ (fun h => by cases h) ?_
  clear hK K
  refine doneD (by kernel_rfl) ?_ _
  refine OnlyNorm.normal ?_
  go_end0
  exact ⟨⟨_, rfl⟩, HN.out, HM.out⟩
end Go.Proofs.Ytmjnelkeiogdcaa
