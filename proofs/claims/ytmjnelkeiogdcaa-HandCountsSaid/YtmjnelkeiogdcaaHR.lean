/- Walks of package hand: lasts. -/
import Derived.Test.YtmjnelkeiogdcaaHP
set_option linter.unusedSimpArgs false
set_option linter.unusedVariables false
namespace Go.Proofs.Ytmjnelkeiogdcaa
open Go Go.RowKit Go.Shelf
set_option maxRecDepth 100000

attribute [local go_sem] Oper.semAt_some
set_option maxHeartbeats 1000000 in
theorem lasts_in (n : Nat) (hn : 24 ≤ n) (N : Nat) (H : HV) (fv cv : Value) (hF : Fit H (.divided H.changes H.count)) (w : World) (hH : HandAt w N H fv cv) :
    CallsIn Fence.wide n Try.prog 58 #[.agg (handA H fv cv)] w fun e w' => (∃ b : Bool, e = .returned (.bool b) ∧ (b = true ↔ ∀ k s, Reach H (.divided H.changes H.count) k s → okD s = true)) ∧ Below w.heap.size w w' := by
  have hx := alloc2_first w (.cells (handA H fv cv) 26) (.cells #[.bool false] 4)
  have hy := alloc2_second w (.cells (handA H fv cv) 26) (.cells #[.bool false] 4)
  have hb := below2 w (.cells (handA H fv cv) 26) (.cells #[.bool false] 4)
  have hs2 : ((w.alloc (.cells (handA H fv cv) 26)).alloc (.cells #[.bool false] 4)).heap.size = w.heap.size + 2 := by simp
  have hH2 : HandAt ((w.alloc (.cells (handA H fv cv) 26)).alloc (.cells #[.bool false] 4)) N H fv cv := hH.below (hb.mono hH.le)
  have HS := hid (show Calls Try.prog 72 #[.agg (handA H fv cv), .iface 102 (.agg #[.int .i64 ((H.changes : Nat) : Int), .int .i64 ((H.count : Nat) : Int)]), .func (.func 73) #[] #[]] _ _ from states_c N H fv cv (.divided H.changes H.count) _ hH2)
  have c6 : ((w.alloc (.cells (handA H fv cv) 26)).alloc (.cells #[.bool false] 4)).cell? ⟨w.heap.size, 6, none⟩ = some (.int .i64 ((H.changes : Nat) : Int)) := by rw [cell_of_row _ _ 6 _ _ (0, 0) hx]; rfl
  have c1 : ((w.alloc (.cells (handA H fv cv) 26)).alloc (.cells #[.bool false] 4)).cell? ⟨w.heap.size, 1, none⟩ = some (.int .i64 ((H.count : Nat) : Int)) := by rw [cell_of_row _ _ 1 _ _ (0, 0) hx]; rfl
  have HX := hid hx
  have HY := hid hy
  have HB := hid hb
  refine callsIn_of_wp_marks Try.func58 rfl trivial ?_ rfl
  simp only [Try.ntmps58, List.size_toArray, List.length_cons, List.length_nil, Nat.reduceAdd, Nat.reduceSub, Array.replicate_succ, Array.replicate_zero, List.push_toArray, List.append_toArray, List.nil_append, List.cons_append]
  clear hx hy hb hH hH2
  gi_wp2_with (first
    | (refine wpListIn_value lets_wide rfl (by intro c hc; cases hc) (.agg (handA H fv cv)) (exec_ldhand rfl rfl HX.out) ?_)
    | (gi_at_call 72; refine (callsIn_wide.2 HS.out).mono ?_; rintro e W2 ⟨rfl, hb2, hsz2, hly2, hbi⟩))
  have HY2 := hid (heap_below hb2 HY.out (heap_lt HY.out))
  have HB2 := hid (HB.out.trans (hb2.mono (by rw [hs2]; omega)))
  rw [hs2] at hsz2 hly2 hbi
  obtain ⟨g, hg⟩ : ∃ g, w.heap.size = g := ⟨_, rfl⟩
  rw [hg] at HY2 HB2 hsz2 hly2 hbi ⊢
  have hSQ := states1_one (n - 1) (by omega) N (g + 2 + 1) (g + 2) (g + 2 + 2) H fv cv H.changes H.count hF W2 hly2 hbi
  clear HX HY HB HS hb2 hly2 hbi c6 c1
  gi_wp2_with fail
  apply rg_first rfl (show 1 ≤ n by omega) (gf := 77) (lb := #[.pointer (some ⟨g + 2, 0, none⟩), .pointer (some ⟨g + 2 + 1, 0, none⟩), .pointer (some ⟨g + 2 + 2, 0, none⟩)]) rfl trivial (enters_of Try.func77 (by kernel_rfl) rfl) hSQ (fun _ => rfl)
    (fun c x V => c = .ret ∧ ((∃ k, Reach H (.divided H.changes H.count) k x) ∧ okD x = false) ∧ Boxed V (g + 1) 4 (.bool false) ∧ Below g w V)
    (fun c x => (Abd.pure _ _).and ((Abd.pure _ _).and ((Abd.boxed _ _ _ _).and (Abd.belowOf (by omega) (by omega))))) (fun x => Abd.pure _ _)
  case hassign =>
    intro l x V K hi ho hK
    simp only [encSt]
    gi_wp2_with fail
    first | rfl | exact hK _ rfl
  case hbody =>
    rintro l x V hl hr hBV hok
    have hbx := heap_below hBV HY2.out (heap_lt HY2.out)
    have hbx' : Boxed V (g + 1) 4 (.bool false) := hbx
    have hc := hbx'.cell
    have hf := hbx'.frozen
    have HBX := hid (show Boxed (V.setCell ⟨g + 1, 0, none⟩ (.bool false)) (g + 1) 4 (.bool false) from hbx'.set _)
    have HKL := hid ((KeepsL.refl V).setCell (i := 0) (.bool false) hbx)
    have HB3 := hid ((HB2.out.trans (hBV.mono (by omega))).setCell (p := ⟨g + 1, 0, none⟩) (show g ≤ g + 1 by omega) (.bool false))
    have HOK := hid hok
    clear hbx hbx' hBV hok
    gi_wp2_with fail
    exact ⟨HKL.out.r l, x, rfl, rfl, HOK.out, HBX.out, HB3.out⟩
  case hdone =>
    rintro D V hD hend hBV hmk
    have hbx : Boxed V (g + 1) 4 (.bool false) := heap_below hBV HY2.out (heap_lt HY2.out)
    have hc := hbx.cell
    have hf := hbx.frozen
    have HBX := hid (hbx.set (.bool true))
    have HB3 := hid ((HB2.out.trans (hBV.mono (by omega))).setCell (p := ⟨g + 1, 0, none⟩) (show g ≤ g + 1 by omega) (.bool true))
    have hne : g + 1 ≠ D := by omega
    have HE := hid hend
    clear hbx hBV hend
    gi_wp2_with fail
    refine leaves_marks g [D] _ (by simp) (fun D' hD' => ?_) (fun W' hb' hc' => ?_)
    · obtain rfl : D' = D := by simpa using hD'
      exact ⟨(heap_setCell_other V ⟨g + 1, 0, none⟩ D' _ (show D' ≠ g + 1 by omega)).trans hmk, by omega⟩
    · exact ⟨_, results_cell Try.results58 rfl Try.isAgg4 (hc' _ _ HBX.out rfl), ⟨true, rfl, ⟨fun _ => HE.out, fun _ => rfl⟩⟩, by rw [hg]; exact HB3.out.trans hb'⟩
  case hstop =>
    rintro D c x V hD ⟨rfl, hok, hbx, hB⟩ hmk
    have HBX := hid hbx
    have HB3 := hid hB
    have HOK := hid hok
    clear hbx hB hok
    gi_wp2_with fail
    refine leaves_marks g [D] _ (by simp) (fun D' hD' => ?_) (fun W' hb' hc' => ?_)
    · obtain rfl : D' = D := by simpa using hD'
      exact ⟨hmk, by omega⟩
    · refine ⟨_, results_cell Try.results58 rfl Try.isAgg4 (hc' _ _ HBX.out rfl), ⟨false, rfl, ⟨(fun h => by cases h), fun h => ?_⟩⟩, by rw [hg]; exact HB3.out.trans hb'⟩
      obtain ⟨⟨k, hr⟩, hf⟩ := HOK.out
      rw [h k x hr] at hf
      cases hf
theorem lasts_c (N : Nat) (H : HV) (fv cv : Value) (hF : Fit H (.divided H.changes H.count)) (w : World) (hH : HandAt w N H fv cv) :
    Calls Try.prog 58 #[.agg (handA H fv cv)] w fun e w' => (∃ b : Bool, e = .returned (.bool b) ∧ (b = true ↔ ∀ k s, Reach H (.divided H.changes H.count) k s → okD s = true)) ∧ Below w.heap.size w w' :=
  callsIn_wide.1 (lasts_in 24 (Nat.le_refl _) N H fv cv hF w hH)
end Go.Proofs.Ytmjnelkeiogdcaa
/- Walks of package hand: whether a hand is bare; whether cards are valid. -/
namespace Go.Proofs.Ytmjnelkeiogdcaa
open Go Go.RowKit Go.Shelf
set_option maxRecDepth 100000

/-- A hand as it comes: any numbers. -/
structure RH where
  kind : Int
  count : Int
  faces : List (Int × Int)
  low : Int
  high : Int
  group : Int
  changes : Int
  cards : List Int
def handV (k c : Int) (fv : Value) (lo hi g ch : Int) (cv : Value) : Array Value := #[.int .i64 k, .int .i64 c, fv, .int .i64 lo, .int .i64 hi, .int .i64 g, .int .i64 ch, cv]
def handR (R : RH) (fv cv : Value) : Array Value := handV R.kind R.count fv R.low R.high R.group R.changes cv
/-- The hand without the fields that its kind uses. -/
def plainV (k c : Int) (fv : Value) (lo hi g ch : Int) (cv : Value) : Array Value :=
  if k = 1 then handV k 0 (.slice none 0 0) lo hi g ch cv else if k = 2 then handV k c fv 0 0 g ch cv else if k = 3 then handV k 0 fv lo hi 0 0 cv else if k = 4 then handV k 0 fv lo hi g ch (.slice none 0 0) else handV k c fv lo hi g ch (.slice none 0 0)
theorem results_row {P : Program} {fn : Func} {p : Tmp} {T : TypeId} (h : fn.results = #[.cell p T]) {tmps : Array Value} {W : World} {b : Nat} {cs : Array Value} {d : TypeDesc} (hp : tmps.getD p undef = .pointer (some ⟨b, 0, none⟩)) (hb : W.heap[b]? = some (.cells cs T (0, 0)))
    (hu : P.underlying T = some d) (hd : (match d with | .struct _ | .array _ _ => true | _ => false) = true) (hi : (P.info? T).map (·.size) = some cs.size) : (results fn tmps).run P W = .ok (.agg cs) W := by
  have hp' : tmps[p]?.getD undef = .pointer (some ⟨b, 0, none⟩) := by simpa using hp
  simp [results, h, hp', asAddr, run_loadVar_row W b T T cs (0, 0) d hb hu hd hi]
set_option maxHeartbeats 1000000 in
theorem plain_c (k c : Int) (p : Option Addr) (n m : Nat) (lo hi g ch : Int) (q : Option Addr) (n' m' : Nat) (hk : k = 1 ∨ k = 2 ∨ k = 3 ∨ k = 4 ∨ k = 5) (w : World) :
    Calls Try.prog 76 #[.agg (handV k c (.slice p n m) lo hi g ch (.slice q n' m'))] w fun e w' => e = .returned (.agg (plainV k c (.slice p n m) lo hi g ch (.slice q n' m'))) ∧ Below w.heap.size w w' := by
  have hb : ∀ o1 o2, Below w.heap.size w ((w.alloc o1).alloc o2) := below2 w
  have HB := hid hb
  have HS := hid (alloc2_second w)
  clear hb
  rcases hk with rfl | rfl | rfl | rfl | rfl
  · show Calls _ _ _ _ fun e w' => e = .returned (.agg (handV 1 0 (.slice none 0 0) lo hi g ch (.slice q n' m'))) ∧ Below w.heap.size w w'
    simp only [handV]
    go_enter Try.func76, Try.ntmps76
    go_wp2_with fail
    exact bodyPost_ret (results_row Try.results76 rfl (HS.out _ _) Try.underlying26 rfl (by kernel_rfl)) rfl ⟨rfl, HB.out _ _⟩
  · show Calls _ _ _ _ fun e w' => e = .returned (.agg (handV 2 c (.slice p n m) 0 0 g ch (.slice q n' m'))) ∧ Below w.heap.size w w'
    simp only [handV]
    go_enter Try.func76, Try.ntmps76
    go_wp2_with fail
    exact bodyPost_ret (results_row Try.results76 rfl (HS.out _ _) Try.underlying26 rfl (by kernel_rfl)) rfl ⟨rfl, HB.out _ _⟩
  · show Calls _ _ _ _ fun e w' => e = .returned (.agg (handV 3 0 (.slice p n m) lo hi 0 0 (.slice q n' m'))) ∧ Below w.heap.size w w'
    simp only [handV]
    go_enter Try.func76, Try.ntmps76
    go_wp2_with fail
    exact bodyPost_ret (results_row Try.results76 rfl (HS.out _ _) Try.underlying26 rfl (by kernel_rfl)) rfl ⟨rfl, HB.out _ _⟩
  · show Calls _ _ _ _ fun e w' => e = .returned (.agg (handV 4 0 (.slice p n m) lo hi g ch (.slice none 0 0))) ∧ Below w.heap.size w w'
    simp only [handV]
    go_enter Try.func76, Try.ntmps76
    go_wp2_with fail
    exact bodyPost_ret (results_row Try.results76 rfl (HS.out _ _) Try.underlying26 rfl (by kernel_rfl)) rfl ⟨rfl, HB.out _ _⟩
  · show Calls _ _ _ _ fun e w' => e = .returned (.agg (handV 5 c (.slice p n m) lo hi g ch (.slice none 0 0))) ∧ Below w.heap.size w w'
    simp only [handV]
    go_enter Try.func76, Try.ntmps76
    go_wp2_with fail
    exact bodyPost_ret (results_row Try.results76 rfl (HS.out _ _) Try.underlying26 rfl (by kernel_rfl)) rfl ⟨rfl, HB.out _ _⟩
/-- All fields that a kind does not use are 0 or empty. -/
def bareB (k c : Int) (n : Nat) (lo hi g ch : Int) (n' : Nat) : Bool :=
  if k = 1 then decide (n' = 0) && decide (lo = 0) && decide (hi = 0) && decide (g = 0) && decide (ch = 0)
  else if k = 2 then decide (n + n' = 0) && decide (c = 0) && decide (g = 0) && decide (ch = 0)
  else if k = 3 then decide (n + n' = 0) && decide (lo = 0) && decide (hi = 0)
  else if k = 4 then decide (n = 0) && decide (lo = 0) && decide (hi = 0) && decide (g = 0) && decide (ch = 0)
  else decide (n = 0) && decide (c = 0) && decide (lo = 0) && decide (hi = 0) && decide (g = 0) && decide (ch = 0)
theorem eqArr5 (a b c d e : Int) (w : World) : (Op.equalIn 10000 119 (.agg #[.int .i64 a, .int .i64 b, .int .i64 c, .int .i64 d, .int .i64 e]) (.agg #[.int .i64 0, .int .i64 0, .int .i64 0, .int .i64 0, .int .i64 0])).run Try.prog w = .ok (a == 0 && (b == 0 && (c == 0 && (d == 0 && e == 0)))) w := by
  have u3 := Try.underlying3
  have a3 := Try.isAgg3
  have z3 := Try.sizeOf3
  obtain ⟨i, hi⟩ := Option.isSome_iff_exists.1 (show (Try.prog.info? 3).isSome = true by kernel_rfl)
  rw [run_equalIn_array w 9999 _ _ Try.underlying119 hi]
  rw [show Try.prog.cellsOf 3 = 1 by kernel_rfl, show List.range 5 = [0, 1, 2, 3, 4] by decide]
  simp only [Op.eqItems]
  go_simp
  by_cases h1 : a = 0 <;> by_cases h2 : b = 0 <;> by_cases h3 : c = 0 <;> by_cases h4 : d = 0 <;> by_cases h5 : e = 0 <;> simp [h1, h2, h3, h4, h5]
set_option maxHeartbeats 1000000 in
theorem isBare_c (k c : Int) (p : Option Addr) (n m : Nat) (lo hi g ch : Int) (q : Option Addr) (n' m' : Nat) (hk : k = 1 ∨ k = 2 ∨ k = 3 ∨ k = 4 ∨ k = 5) (hn : n ≤ 1000) (hn' : n' ≤ 1000) (w : World) :
    Calls Try.prog 60 #[.agg (handV k c (.slice p n m) lo hi g ch (.slice q n' m'))] w fun e w' => e = .returned (.bool (bareB k c n lo hi g ch n')) ∧ Below w.heap.size w w' := by
  have hb : ∀ o, Below w.heap.size w (w.alloc o) := fun o => (Below.refl _ _).alloc (Nat.le_refl _) _
  have HB := hid hb
  clear hb
  rcases hk with rfl | rfl | rfl | rfl | rfl
  · have HP := hid (fun W => (show Calls _ _ _ _ fun e w' => e = .returned (.agg (handV 1 0 (.slice none 0 0) lo hi g ch (.slice q n' m'))) ∧ _ from plain_c 1 c p n m lo hi g ch q n' m' (by simp) W))
    obtain ⟨r, hr⟩ : ∃ r, (0 == (0 : Int) && (lo == (0 : Int) && (hi == (0 : Int) && (g == (0 : Int) && ch == (0 : Int))))) = r := ⟨_, rfl⟩
    have HE := hid (fun W => eqArr5 0 lo hi g ch W)
    rw [hr] at HE
    have hrb : (decide (n' = 0) && r) = bareB 1 c n lo hi g ch n' := by
      rw [← hr]
      by_cases h1 : c = 0 <;> by_cases h2 : lo = 0 <;> by_cases h3 : hi = 0 <;> by_cases h4 : g = 0 <;> by_cases h5 : ch = 0 <;> simp [bareB, h1, h2, h3, h4, h5]
    rw [← hrb]
    have wsm := wrap_nat n' (by omega)
    have es : (0 : Int) + ((n' : Nat) : Int) = ((n' : Nat) : Int) := by omega
    simp only [handV] at HP ⊢
    clear hrb hr
    by_cases hz : n' = 0
    · have hz' : (((n' : Nat) : Int) == 0) = true := by simp [hz]
      have hd : decide (n' = 0) = true := decide_eq_true hz
      rw [hd, Bool.true_and]
      clear hz
      go_enter Try.func60, Try.ntmps60
      go_wp2_with (go_at_call 76; refine (HP.out _).mono ?_; rintro e w2 ⟨rfl, hb2⟩; have heq := HE.out)
      go_ret
      exact ⟨rfl, ((HB.out _).trans (hb2.mono (by simp))).alloc (by have := hb2.size; simp at this; omega) _⟩
    · have hz' : (((n' : Nat) : Int) == 0) = false := by simp; omega
      have hd : decide (n' = 0) = false := decide_eq_false hz
      rw [hd, Bool.false_and]
      clear hz
      go_enter Try.func60, Try.ntmps60
      go_wp2_with (go_at_call 76; refine (HP.out _).mono ?_; rintro e w2 ⟨rfl, hb2⟩)
      go_ret
      exact ⟨rfl, ((HB.out _).trans (hb2.mono (by simp))).alloc (by have := hb2.size; simp at this; omega) _⟩
  · have HP := hid (fun W => (show Calls _ _ _ _ fun e w' => e = .returned (.agg (handV 2 c (.slice p n m) 0 0 g ch (.slice q n' m'))) ∧ _ from plain_c 2 c p n m lo hi g ch q n' m' (by simp) W))
    obtain ⟨r, hr⟩ : ∃ r, (c == (0 : Int) && (0 == (0 : Int) && (0 == (0 : Int) && (g == (0 : Int) && ch == (0 : Int))))) = r := ⟨_, rfl⟩
    have HE := hid (fun W => eqArr5 c 0 0 g ch W)
    rw [hr] at HE
    have hrb : (decide (n + n' = 0) && r) = bareB 2 c n lo hi g ch n' := by
      rw [← hr]
      by_cases h1 : c = 0 <;> by_cases h2 : lo = 0 <;> by_cases h3 : hi = 0 <;> by_cases h4 : g = 0 <;> by_cases h5 : ch = 0 <;> simp [bareB, h1, h2, h3, h4, h5]
    rw [← hrb]
    obtain ⟨sm, hsm⟩ : ∃ sm, n + n' = sm := ⟨_, rfl⟩
    rw [hsm]
    have wsm := wrap_nat sm (by omega)
    have es : ((n : Nat) : Int) + ((n' : Nat) : Int) = ((sm : Nat) : Int) := by omega
    simp only [handV] at HP ⊢
    clear hrb hr
    by_cases hz : sm = 0
    · have hz' : (((sm : Nat) : Int) == 0) = true := by simp [hz]
      have hd : decide (sm = 0) = true := decide_eq_true hz
      rw [hd, Bool.true_and]
      clear hz
      go_enter Try.func60, Try.ntmps60
      go_wp2_with (go_at_call 76; refine (HP.out _).mono ?_; rintro e w2 ⟨rfl, hb2⟩; have heq := HE.out)
      go_ret
      exact ⟨rfl, ((HB.out _).trans (hb2.mono (by simp))).alloc (by have := hb2.size; simp at this; omega) _⟩
    · have hz' : (((sm : Nat) : Int) == 0) = false := by simp; omega
      have hd : decide (sm = 0) = false := decide_eq_false hz
      rw [hd, Bool.false_and]
      clear hz
      go_enter Try.func60, Try.ntmps60
      go_wp2_with (go_at_call 76; refine (HP.out _).mono ?_; rintro e w2 ⟨rfl, hb2⟩)
      go_ret
      exact ⟨rfl, ((HB.out _).trans (hb2.mono (by simp))).alloc (by have := hb2.size; simp at this; omega) _⟩
  · have HP := hid (fun W => (show Calls _ _ _ _ fun e w' => e = .returned (.agg (handV 3 0 (.slice p n m) lo hi 0 0 (.slice q n' m'))) ∧ _ from plain_c 3 c p n m lo hi g ch q n' m' (by simp) W))
    obtain ⟨r, hr⟩ : ∃ r, (0 == (0 : Int) && (lo == (0 : Int) && (hi == (0 : Int) && (0 == (0 : Int) && 0 == (0 : Int))))) = r := ⟨_, rfl⟩
    have HE := hid (fun W => eqArr5 0 lo hi 0 0 W)
    rw [hr] at HE
    have hrb : (decide (n + n' = 0) && r) = bareB 3 c n lo hi g ch n' := by
      rw [← hr]
      by_cases h1 : c = 0 <;> by_cases h2 : lo = 0 <;> by_cases h3 : hi = 0 <;> by_cases h4 : g = 0 <;> by_cases h5 : ch = 0 <;> simp [bareB, h1, h2, h3, h4, h5]
    rw [← hrb]
    obtain ⟨sm, hsm⟩ : ∃ sm, n + n' = sm := ⟨_, rfl⟩
    rw [hsm]
    have wsm := wrap_nat sm (by omega)
    have es : ((n : Nat) : Int) + ((n' : Nat) : Int) = ((sm : Nat) : Int) := by omega
    simp only [handV] at HP ⊢
    clear hrb hr
    by_cases hz : sm = 0
    · have hz' : (((sm : Nat) : Int) == 0) = true := by simp [hz]
      have hd : decide (sm = 0) = true := decide_eq_true hz
      rw [hd, Bool.true_and]
      clear hz
      go_enter Try.func60, Try.ntmps60
      go_wp2_with (go_at_call 76; refine (HP.out _).mono ?_; rintro e w2 ⟨rfl, hb2⟩; have heq := HE.out)
      go_ret
      exact ⟨rfl, ((HB.out _).trans (hb2.mono (by simp))).alloc (by have := hb2.size; simp at this; omega) _⟩
    · have hz' : (((sm : Nat) : Int) == 0) = false := by simp; omega
      have hd : decide (sm = 0) = false := decide_eq_false hz
      rw [hd, Bool.false_and]
      clear hz
      go_enter Try.func60, Try.ntmps60
      go_wp2_with (go_at_call 76; refine (HP.out _).mono ?_; rintro e w2 ⟨rfl, hb2⟩)
      go_ret
      exact ⟨rfl, ((HB.out _).trans (hb2.mono (by simp))).alloc (by have := hb2.size; simp at this; omega) _⟩
  · have HP := hid (fun W => (show Calls _ _ _ _ fun e w' => e = .returned (.agg (handV 4 0 (.slice p n m) lo hi g ch (.slice none 0 0))) ∧ _ from plain_c 4 c p n m lo hi g ch q n' m' (by simp) W))
    obtain ⟨r, hr⟩ : ∃ r, (0 == (0 : Int) && (lo == (0 : Int) && (hi == (0 : Int) && (g == (0 : Int) && ch == (0 : Int))))) = r := ⟨_, rfl⟩
    have HE := hid (fun W => eqArr5 0 lo hi g ch W)
    rw [hr] at HE
    have hrb : (decide (n = 0) && r) = bareB 4 c n lo hi g ch n' := by
      rw [← hr]
      by_cases h1 : c = 0 <;> by_cases h2 : lo = 0 <;> by_cases h3 : hi = 0 <;> by_cases h4 : g = 0 <;> by_cases h5 : ch = 0 <;> simp [bareB, h1, h2, h3, h4, h5]
    rw [← hrb]
    have wsm := wrap_nat n (by omega)
    have es : ((n : Nat) : Int) + (0 : Int) = ((n : Nat) : Int) := by omega
    simp only [handV] at HP ⊢
    clear hrb hr
    by_cases hz : n = 0
    · have hz' : (((n : Nat) : Int) == 0) = true := by simp [hz]
      have hd : decide (n = 0) = true := decide_eq_true hz
      rw [hd, Bool.true_and]
      clear hz
      go_enter Try.func60, Try.ntmps60
      go_wp2_with (go_at_call 76; refine (HP.out _).mono ?_; rintro e w2 ⟨rfl, hb2⟩; have heq := HE.out)
      go_ret
      exact ⟨rfl, ((HB.out _).trans (hb2.mono (by simp))).alloc (by have := hb2.size; simp at this; omega) _⟩
    · have hz' : (((n : Nat) : Int) == 0) = false := by simp; omega
      have hd : decide (n = 0) = false := decide_eq_false hz
      rw [hd, Bool.false_and]
      clear hz
      go_enter Try.func60, Try.ntmps60
      go_wp2_with (go_at_call 76; refine (HP.out _).mono ?_; rintro e w2 ⟨rfl, hb2⟩)
      go_ret
      exact ⟨rfl, ((HB.out _).trans (hb2.mono (by simp))).alloc (by have := hb2.size; simp at this; omega) _⟩
  · have HP := hid (fun W => (show Calls _ _ _ _ fun e w' => e = .returned (.agg (handV 5 c (.slice p n m) lo hi g ch (.slice none 0 0))) ∧ _ from plain_c 5 c p n m lo hi g ch q n' m' (by simp) W))
    obtain ⟨r, hr⟩ : ∃ r, (c == (0 : Int) && (lo == (0 : Int) && (hi == (0 : Int) && (g == (0 : Int) && ch == (0 : Int))))) = r := ⟨_, rfl⟩
    have HE := hid (fun W => eqArr5 c lo hi g ch W)
    rw [hr] at HE
    have hrb : (decide (n = 0) && r) = bareB 5 c n lo hi g ch n' := by
      rw [← hr]
      by_cases h1 : c = 0 <;> by_cases h2 : lo = 0 <;> by_cases h3 : hi = 0 <;> by_cases h4 : g = 0 <;> by_cases h5 : ch = 0 <;> simp [bareB, h1, h2, h3, h4, h5]
    rw [← hrb]
    have wsm := wrap_nat n (by omega)
    have es : ((n : Nat) : Int) + (0 : Int) = ((n : Nat) : Int) := by omega
    simp only [handV] at HP ⊢
    clear hrb hr
    by_cases hz : n = 0
    · have hz' : (((n : Nat) : Int) == 0) = true := by simp [hz]
      have hd : decide (n = 0) = true := decide_eq_true hz
      rw [hd, Bool.true_and]
      clear hz
      go_enter Try.func60, Try.ntmps60
      go_wp2_with (go_at_call 76; refine (HP.out _).mono ?_; rintro e w2 ⟨rfl, hb2⟩; have heq := HE.out)
      go_ret
      exact ⟨rfl, ((HB.out _).trans (hb2.mono (by simp))).alloc (by have := hb2.size; simp at this; omega) _⟩
    · have hz' : (((n : Nat) : Int) == 0) = false := by simp; omega
      have hd : decide (n = 0) = false := decide_eq_false hz
      rw [hd, Bool.false_and]
      clear hz
      go_enter Try.func60, Try.ntmps60
      go_wp2_with (go_at_call 76; refine (HP.out _).mono ?_; rintro e w2 ⟨rfl, hb2⟩)
      go_ret
      exact ⟨rfl, ((HB.out _).trans (hb2.mono (by simp))).alloc (by have := hb2.size; simp at this; omega) _⟩
end Go.Proofs.Ytmjnelkeiogdcaa
