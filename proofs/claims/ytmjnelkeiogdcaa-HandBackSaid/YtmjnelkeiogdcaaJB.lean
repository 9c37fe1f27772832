/- Walks of package hand: Chance. -/
import Derived.Test.YtmjnelkeiogdcaaJA
namespace Go.Proofs.Ytmjnelkeiogdcaa
open Go Go.RowKit Go.Shelf
set_option maxRecDepth 100000

theorem setRow_at {W : World} {g : Nat} {cs old : Array Value} {t : TypeId} {fr : Nat × Nat} (h : W.heap[g]? = some (.cells old t fr)) : (W.setRow g cs).heap[g]? = some (.cells cs t fr) := by
  unfold World.setRow
  simp [Array.getElem?_modify, h]
theorem setRow_ne {W : World} {g k : Nat} {cs : Array Value} (h : k ≠ g) : (W.setRow g cs).heap[k]? = W.heap[k]? := by
  unfold World.setRow
  simp [Array.getElem?_modify, Ne.symm h]
theorem setRow_below {W : World} {g n : Nat} {cs : Array Value} (h : n ≤ g) : Below n W (W.setRow g cs) := ⟨rfl, rfl, rfl, by simp [World.setRow], fun k hk => setRow_ne (by omega)⟩
theorem results_c3 {P : Program} {fn : Func} {p q r : Tmp} {T : TypeId} (h : fn.results = #[.cell p T, .tmp q, .tmp r]) {tmps : Array Value} {W : World} {b : Nat} {cs : Array Value} {d : TypeDesc} (hp : tmps.getD p undef = .pointer (some ⟨b, 0, none⟩)) (hb : W.heap[b]? = some (.cells cs T (0, 0)))
    (hu : P.underlying T = some d) (hd : (match d with | .struct _ | .array _ _ => true | _ => false) = true) (hi : (P.info? T).map (·.size) = some cs.size) : (results fn tmps).run P W = .ok (.tuple #[.agg cs, tmps.getD q undef, tmps.getD r undef]) W := by
  have hp' : tmps[p]?.getD undef = .pointer (some ⟨b, 0, none⟩) := by simpa using hp
  simp [results, h, hp', asAddr, run_loadVar_row W b T T cs (0, 0) d hb hu hd hi]
theorem exec_ldch {ev : Operand → Value} {o : Oper} {x : Operand} {g : Nat} {W : World} {a b : Value} (ho : o.op = .load 62 x) (hx : ev x = .pointer (some ⟨g, 0, none⟩)) (hg : W.heap[g]? = some (.cells #[a, b] 62 (0, 0))) :
    (execOp ev o).run Try.prog W = .ok (.value (.agg #[a, b])) W := by
  have h := run_loadVar_row (P := Try.prog) W g 62 62 #[a, b] (0, 0) _ hg Try.underlying62 rfl (by kernel_rfl)
  simp only [execOp, ho, hx, Instr.loadAt, Instr.sureAddr, Sem.run_bind, Sem.run_pure, Result.andThen_ok, h]
/-- What Chance answers. -/
def chanceV : FR → Nat → Array Value
  | .ok _, d => if d ≤ 1000000000000000 then #[.agg #[.int .i64 1, .int .i64 ((d : Nat) : Int)], .int .i64 0, .int .i64 0] else #[.agg #[.int .i64 0, .int .i64 0], .int .i64 0, .int .i64 8]
  | .bad i e, _ => #[.agg #[.int .i64 0, .int .i64 0], .int .i64 ((i : Nat) : Int), .int .i64 ((e : Nat) : Int)]
set_option maxHeartbeats 2000000 in
theorem Chance_yes (N Nc : Nat) (H : HV) (hV : Val H) (fv cv : Value) (v : Value) (Cs : List Int) (hn : Cs.length ≤ 1000000) (hi63 : ∀ c ∈ Cs, c ≤ 9223372036854775807) (w : World) (hR : RawAt w N (rawOf H) fv cv) (hC : CrsAt w Nc v Cs) :
    Calls Try.prog 33 #[.agg (handA H fv cv), v] w fun e w' => e = .returned (.tuple (chanceV (fulN H (beginS H) Cs) (denT H (trN H (beginS H) Cs)))) ∧ Below w.heap.size w w' := by
  have hx := alloc3_0 w (.cells (handA H fv cv) 26) (.cells #[.int .i64 0, .int .i64 0] 62) (.cells #[.int .i64 1] 3)
  have hy := alloc3_1 w (.cells (handA H fv cv) 26) (.cells #[.int .i64 0, .int .i64 0] 62) (.cells #[.int .i64 1] 3)
  have hz := alloc3_2 w (.cells (handA H fv cv) 26) (.cells #[.int .i64 0, .int .i64 0] 62) (.cells #[.int .i64 1] 3)
  have hb := below3 w (.cells (handA H fv cv) 26) (.cells #[.int .i64 0, .int .i64 0] 62) (.cells #[.int .i64 1] 3)
  have hs : (((w.alloc (.cells (handA H fv cv) 26)).alloc (.cells #[.int .i64 0, .int .i64 0] 62)).alloc (.cells #[.int .i64 1] 3)).heap.size = w.heap.size + 3 := by simp
  have hR1 := hR.below (hb.mono hR.le)
  have HX := hid hx
  have HY := hid hy
  have HZ := hid hz
  have HB := hid hb
  have hNw := hR.le
  have hCw := hC.le
  have HCO := hid (complete_chance N Nc H hV fv cv (w.heap.size + 1 + 1) w.heap.size (fun b => b = w.heap.size + 1 + 1) (ChK N (w.heap.size + 1 + 1) w.heap.size H fv cv) v Cs hn hi63 _ hR1 (hC.below (hb.mono hC.le))
    (fun b e => ⟨by rw [hs]; omega, by omega, by omega⟩) ⟨hz, hx, HandAt.of hR1⟩ (fun tr W W' h hb => h.below hb) (fun tr s c W hk _ hF _ _ => chance1_c N _ _ (by omega) (by omega) H fv cv tr s c hF W hk))
  have hdl := satN_le (prodL ((trN H (beginS H) Cs).map fun x => chN H x.1))
  have HBD := hid (fun i e (ht : fulN H (beginS H) Cs = .bad i e) => (ful_bad H Cs _ i e ht).1)
  obtain ⟨p, cp, rfl, -⟩ := hC.at'
  obtain ⟨d, hd⟩ : ∃ d, denT H (trN H (beginS H) Cs) = d := ⟨_, rfl⟩
  have hdl' : d ≤ 1000000000000001 := by rw [← hd]; exact hdl
  have HKD := hid (fun W (hk : ChK N (w.heap.size + 1 + 1) w.heap.size H fv cv (trN H (beginS H) Cs) W) => (show Boxed W (w.heap.size + 1 + 1) 3 (.int .i64 ((d : Nat) : Int)) from by rw [← hd]; exact hk.1))
  rw [hd]
  clear hx hy hz hR hR1 hC hi63 hdl hd
  cases hf : fulN H (beginS H) Cs with
  | ok t =>
    rw [hf] at HCO
    simp only [folV, chanceV] at HCO ⊢
    clear HBD hf
    by_cases hle : d ≤ 1000000000000000
    · rw [if_pos hle]
      have hg0 : decide ((1000000000000000 : Int) < ((d : Nat) : Int)) = false := decide_eq_false (by omega)
      have hg0' : ¬ (1000000000000000 : Int) < ((d : Nat) : Int) := by omega
      clear hle hdl' hb
      go_enter Try.func33, Try.ntmps33
      go_wp2_with (first
        | (refine wpList_value rfl (by intro c hc; cases hc) (.agg (handA H fv cv)) (exec_ldhand rfl rfl HX.out) ?_)
        | (refine wpList_store_row rfl _ _ _ rfl (w.heap.size + 1) _ rfl rfl _ _ HY.out (by kernel_rfl) rfl (by simp [Value.oneCell']) ?_)
        | (go_at_call 61; refine HCO.out.mono ?_; rintro e w3 ⟨rfl, hk3, hm3⟩; have HY := hid (hm3.kept _ _ (show ¬ (w.heap.size + 1 = w.heap.size + 1 + 1) by omega) HY.out); have hbx := HKD.out _ hk3; have hcd := hbx.cell))
      exact bodyPost_ret (results_c3 Try.results33 rfl (setRow_at HY.out) Try.underlying62 rfl (by kernel_rfl)) rfl ⟨rfl, (HB.out.trans (hm3.to (by rw [hs]; omega) (fun b hb e => by omega))).trans (setRow_below (by omega))⟩
    · rw [if_neg hle]
      have hg0 : decide ((1000000000000000 : Int) < ((d : Nat) : Int)) = true := decide_eq_true (by omega)
      have hg0' : (1000000000000000 : Int) < ((d : Nat) : Int) := by omega
      clear hle hdl' hb
      go_enter Try.func33, Try.ntmps33
      go_wp2_with (first
        | (refine wpList_value rfl (by intro c hc; cases hc) (.agg (handA H fv cv)) (exec_ldhand rfl rfl HX.out) ?_)
        | (refine wpList_value rfl (by intro c hc; cases hc) (.agg #[.int .i64 0, .int .i64 0]) (exec_ldch rfl rfl HY.out) ?_)
        | (refine wpList_store_row rfl _ _ _ rfl (w.heap.size + 1) _ rfl rfl _ _ HY.out (by kernel_rfl) rfl (by simp [Value.oneCell']) ?_)
        | (go_at_call 61; refine HCO.out.mono ?_; rintro e w3 ⟨rfl, hk3, hm3⟩; have HY := hid (hm3.kept _ _ (show ¬ (w.heap.size + 1 = w.heap.size + 1 + 1) by omega) HY.out); have hbx := HKD.out _ hk3; have hcd := hbx.cell))
      exact bodyPost_ret (results_c3 Try.results33 rfl (setRow_at HY.out) Try.underlying62 rfl (by kernel_rfl)) rfl ⟨rfl, (HB.out.trans (hm3.to (by rw [hs]; omega) (fun b hb e => by omega))).trans (setRow_below (by omega))⟩
  | bad i e =>
    have he := HBD.out i e hf
    have he0 : (((e : Nat) : Int) != 0) = true := by simp; omega
    rw [hf] at HCO
    simp only [folV, chanceV] at HCO ⊢
    clear HBD hf he hb hdl'
    go_enter Try.func33, Try.ntmps33
    go_wp2_with (first
      | (refine wpList_value rfl (by intro c hc; cases hc) (.agg (handA H fv cv)) (exec_ldhand rfl rfl HX.out) ?_)
      | (refine wpList_value rfl (by intro c hc; cases hc) (.agg #[.int .i64 0, .int .i64 0]) (exec_ldch rfl rfl HY.out) ?_)
      | (refine wpList_store_row rfl _ _ _ rfl (w.heap.size + 1) _ rfl rfl _ _ HY.out (by kernel_rfl) rfl (by simp [Value.oneCell']) ?_)
      | (go_at_call 61; refine HCO.out.mono ?_; rintro e w3 ⟨rfl, hk3, hm3⟩; have HY := hid (hm3.kept _ _ (show ¬ (w.heap.size + 1 = w.heap.size + 1 + 1) by omega) HY.out)))
    exact bodyPost_ret (results_c3 Try.results33 rfl (setRow_at HY.out) Try.underlying62 rfl (by kernel_rfl)) rfl ⟨rfl, (HB.out.trans (hm3.to (by rw [hs]; omega) (fun b hb e => by omega))).trans (setRow_below (by omega))⟩
theorem Chance_no (R : RH) (h0 : okR R = false) (fv cv : Value) (N : Nat) (p : Option Addr) (n m : Nat) (w : World) (hR : RawAt w N R fv cv) (hf : R.faces.length ≤ 1000) (hc : R.cards.length ≤ 1000) :
    Calls Try.prog 33 #[.agg (handR R fv cv), .slice p n m] w fun e w' => e = .returned (.tuple #[.agg #[.int .i64 0, .int .i64 0], .int .i64 0, .int .i64 2]) ∧ Below w.heap.size w w' := by
  have hx := alloc3_0 w (.cells (handR R fv cv) 26) (.cells #[.int .i64 0, .int .i64 0] 62) (.cells #[.int .i64 1] 3)
  have hy := alloc3_1 w (.cells (handR R fv cv) 26) (.cells #[.int .i64 0, .int .i64 0] 62) (.cells #[.int .i64 1] 3)
  have hb := below3 w (.cells (handR R fv cv) 26) (.cells #[.int .i64 0, .int .i64 0] 62) (.cells #[.int .i64 1] 3)
  have HX := hid hx
  have HY := hid hy
  have HB := hid hb
  have hs : (((w.alloc (.cells (handR R fv cv) 26)).alloc (.cells #[.int .i64 0, .int .i64 0] 62)).alloc (.cells #[.int .i64 1] 3)).heap.size = w.heap.size + 3 := by simp
  have HCO := hid (complete_no_chance R h0 fv cv N (w.heap.size + 1 + 1) w.heap.size p n m _ (hR.below (hb.mono hR.le)) hf hc)
  clear hx hy hb hR hf hc h0
  go_enter Try.func33, Try.ntmps33
  go_wp2_with (first
    | (refine wpList_value rfl (by intro c hc; cases hc) (.agg (handR R fv cv)) (exec_ldR rfl rfl HX.out) ?_)
    | (refine wpList_value rfl (by intro c hc; cases hc) (.agg #[.int .i64 0, .int .i64 0]) (exec_ldch rfl rfl HY.out) ?_)
    | (refine wpList_store_row rfl _ _ _ rfl (w.heap.size + 1) _ rfl rfl _ _ HY.out (by kernel_rfl) rfl (by simp [Value.oneCell']) ?_)
    | (go_at_call 61; refine HCO.out.mono ?_; rintro e w3 ⟨rfl, hb3⟩; have HY := hid (heap_below hb3 HY.out (heap_lt HY.out))))
  exact bodyPost_ret (results_c3 Try.results33 rfl (setRow_at HY.out) Try.underlying62 rfl (by kernel_rfl)) rfl ⟨rfl, (HB.out.trans (hb3.mono (by rw [hs]; omega))).trans (setRow_below (by omega))⟩
end Go.Proofs.Ytmjnelkeiogdcaa
