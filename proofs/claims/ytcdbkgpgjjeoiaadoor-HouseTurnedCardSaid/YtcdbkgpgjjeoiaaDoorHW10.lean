/- Walks of package house: the ties of two places. -/
import Derived.Test.YtcdbkgpgjjeoiaaDoorHW9
import Derived.Sort.QuietTacIn
import Derived.BigFrameIn
import Derived.Laws.EntriesVeiled
namespace Go.Proofs.YtcdbkgpgjjeoiaaDoor
open Go Go.RowKit Go.Shelf
set_option maxRecDepth 100000
set_option linter.unusedSimpArgs false
set_option linter.unusedVariables false

attribute [local go_sem] Oper.semAt_some
/-- What lies when the ties are begun. -/
structure Ts (h : Nat → Nat) (m a b g : Nat) (fv : Value) (w W : World) : Prop where
  sky : W.heap[g]? = some (.cells (sky h m) 109 (0, 0))
  bA : Boxed W (g + 1) 115 (.int .i64 ((a : Nat) : Int))
  bB : Boxed W (g + 1 + 1) 115 (.int .i64 ((b : Nat) : Int))
  bL : Boxed W (g + 1 + 1 + 1) 45 (.slice none 0 0)
  bF : Boxed W (g + 1 + 1 + 1 + 1) 142 fv
  below : Below g w W
  size : W.heap.size = g + 1 + 1 + 1 + 1 + 1
theorem ts_start (h : Nat → Nat) (m a b : Nat) (fv : Value) (w : World) : Ts h m a b w.heap.size fv w (((((w.alloc (.cells (sky h m) 109)).alloc (.cells #[.int .i64 ((a : Nat) : Int)] 115)).alloc (.cells #[.int .i64 ((b : Nat) : Int)] 115)).alloc (.cells #[.slice none 0 0] 45)).alloc (.cells #[fv] 142)) := by
  have e2 : ((w.alloc (.cells (sky h m) 109)).alloc (.cells #[.int .i64 ((a : Nat) : Int)] 115)).heap.size = w.heap.size + 1 + 1 := by simp
  have e3 : (((w.alloc (.cells (sky h m) 109)).alloc (.cells #[.int .i64 ((a : Nat) : Int)] 115)).alloc (.cells #[.int .i64 ((b : Nat) : Int)] 115)).heap.size = w.heap.size + 1 + 1 + 1 := by simp
  have e4 : ((((w.alloc (.cells (sky h m) 109)).alloc (.cells #[.int .i64 ((a : Nat) : Int)] 115)).alloc (.cells #[.int .i64 ((b : Nat) : Int)] 115)).alloc (.cells #[.slice none 0 0] 45)).heap.size = w.heap.size + 1 + 1 + 1 + 1 := by simp
  have hA := Boxed.new (w.alloc (.cells (sky h m) 109)) 115 (.int .i64 ((a : Nat) : Int))
  have hB := Boxed.new ((w.alloc (.cells (sky h m) 109)).alloc (.cells #[.int .i64 ((a : Nat) : Int)] 115)) 115 (.int .i64 ((b : Nat) : Int))
  have hL := Boxed.new (((w.alloc (.cells (sky h m) 109)).alloc (.cells #[.int .i64 ((a : Nat) : Int)] 115)).alloc (.cells #[.int .i64 ((b : Nat) : Int)] 115)) 45 (.slice none 0 0)
  have hF := Boxed.new ((((w.alloc (.cells (sky h m) 109)).alloc (.cells #[.int .i64 ((a : Nat) : Int)] 115)).alloc (.cells #[.int .i64 ((b : Nat) : Int)] 115)).alloc (.cells #[.slice none 0 0] 45)) 142 fv
  simp only [World.size_alloc] at hA hB hL hF
  refine ⟨?_, ((hA.alloc _).alloc _).alloc _, (hB.alloc _).alloc _, hL.alloc _, hF, ?_, by simp⟩
  · rw [heap_alloc_old _ _ (by simp; omega), heap_alloc_old _ _ (by simp; omega), heap_alloc_old _ _ (by simp; omega), heap_alloc_old _ _ (by simp)]
    exact heap_alloc_new w _
  · exact (((((Below.refl _ w).alloc (Nat.le_refl _) _).alloc (by simp) _).alloc (by simp; omega) _).alloc (by simp; omega) _).alloc (by simp; omega) _
theorem cond_join {F : Fence} {n : Nat} {P : Program} {c : Operand} {x y z : Code} {Q : Exit → Act → World → Prop} {a : Act} {w : World} (J : Act → World → Prop) (t : Bool) (hc : a.eval c = .bool t) (h1 : (if t then x else y).wpIn F n P (Exit.then J Q) a w) (h2 : ∀ a' W', J a' W' → z.wpIn F n P Q a' W') : (Code.seq (Code.cond c x y) z).wpIn F n P Q a w :=
  wpIn_seq (wpIn_cond hc (wpIn_mono h1 fun e a' W' he => by cases e <;> first | exact h2 _ _ he | exact he))
theorem region_cut {F : Fence} {n : Nat} {P : Program} {c : Code} {Q : Exit → Act → World → Prop} {a : Act} {w : World} (A : Act) (V : World) (h : c.wpIn F n P (Exit.then (fun a' w' => a' = A ∧ w' = V) (fun _ _ _ => False)) a w) (h2 : Q .normal A V) : c.wpIn F n P Q a w :=
  wpIn_mono h fun e a' w' he => by
    cases e with
    | normal => obtain ⟨e1, e2⟩ := he; rw [e1, e2]; exact h2
    | _ => exact he.elim
set_option maxHeartbeats 16000000 in
theorem ties_in (h : Nat → Nat) (hh : ∀ i, i < 12 → h i < 16) (m a b n : Nat) (hn : 8 ≤ n) (ha : a < 12) (hb : b < 12) (hab : a ≠ b) (w : World) (LB : LaidB w) (hM : SkyM w m 12 (onF h 12)) :
    CallsIn Fence.wide n Tryd.prog 55 #[.agg (sky h m), .int .i64 ((a : Nat) : Int), .int .i64 ((b : Nat) : Int)] w fun e w' => ∃ v, e = .returned v ∧ ReadsT w' v (tiesR h a b) ∧ Below w.heap.size w w' := by
  have h1 : 1 ≤ n := by omega
  have HH := hid hh
  have HM := hid hM
  have HLB := hid LB
  have hmg : m < w.heap.size := hM.lt
  have hLg : 3 < w.heap.size := LB.size
  have HT := hid (ts_start h m a b (.func (.func 73) #[] #[.pointer (some ⟨w.heap.size + 1 + 1 + 1, 0, none⟩)]) w)
  have bF := (ts_start h m a b .nilFunc w).bF
  have hcF := bF.cell
  have hfF := bF.frozen
  clear hh LB hM bF
  refine callsIn_of_wp_marks Tryd.func55 rfl trivial ?_ rfl
  simp only [Tryd.ntmps55, List.size_toArray, List.length_cons, List.length_nil, Nat.reduceAdd, Nat.reduceSub, Array.replicate_succ, Array.replicate_zero, List.push_toArray, List.append_toArray, List.nil_append, List.cons_append]
  gi_wp2_with fail
  clear hcF hfF
  generalize (((((w.alloc (.cells (sky h m) 109)).alloc (.cells #[.int .i64 ((a : Nat) : Int)] 115)).alloc (.cells #[.int .i64 ((b : Nat) : Int)] 115)).alloc (.cells #[.slice none 0 0] 45)).alloc (.cells #[.func (.func 73) #[] #[.pointer (some ⟨w.heap.size + 1 + 1 + 1, 0, none⟩)]] 142)) = w1 at *
  obtain ⟨g, hg⟩ : ∃ g, w.heap.size = g := ⟨_, rfl⟩
  rw [hg] at HT hmg hLg ⊢
  have T1 := HT.out
  have hcA := T1.bA.cell
  have hcB := T1.bB.cell
  have hca := cell_sky T1.sky a ha
  have hcb := cell_sky T1.sky b hb
  have ha' : ((a : Nat) : Int) < 12 := by omega
  have hb' : ((b : Nat) : Int) < 12 := by omega
  clear T1
  refine wpIn_wide.2 ?_
  go_quiet (fail)
  rename_i Q1 K1 hK1 K2 hK2
  have key : ∀ (u25 u26 u27 u28 u29 : Value) (W : World), KeepT 53 (g + 1 + 1 + 1) w1 W → (∃ v, Boxed W (g + 1 + 1 + 1) 45 v ∧ Trs 53 W (g + 1 + 1 + 1 + 1 + 1) v (tie1 h a b)) → Below g w W → K1 { tmps := #[.agg (sky h m), .int .i64 ((a : Nat) : Int), .int .i64 ((b : Nat) : Int), .pointer (some ⟨g, 0, none⟩), .pointer (some ⟨g + 1, 0, none⟩), .pointer (some ⟨g + 1 + 1, 0, none⟩), .pointer (some ⟨g + 1 + 1 + 1, 0, none⟩), .pointer (some ⟨g + 1 + 1 + 1 + 1, 0, none⟩), undef, undef, undef, undef, undef, undef, undef, undef, .func (.func 73) #[] #[.pointer (some ⟨g + 1 + 1 + 1, 0, none⟩)], .int .i64 ((a : Nat) : Int), .pointer (some ⟨g, 0, none⟩), .pointer (some ⟨g, a, none⟩), .int .i64 ((h a : Nat) : Int), .int .i64 ((b : Nat) : Int), .pointer (some ⟨g, 0, none⟩), .pointer (some ⟨g, b, none⟩), .int .i64 ((h b : Nat) : Int), u25, u26, u27, u28, u29, undef, undef, undef, undef, undef, undef, undef, undef, undef, undef, undef, undef, undef, undef, undef, undef, undef, undef, undef, undef, undef, undef, undef, undef, undef, undef, undef, undef, undef, undef, undef, undef, undef, undef, undef, undef, undef, undef, undef, undef, undef, undef, undef, undef, undef, undef, undef, undef, undef, undef, undef, undef, undef, undef, undef, undef, undef, undef, undef, undef, undef, undef, undef, undef, undef, undef, undef, undef, undef, undef, undef, undef, undef, undef, undef, undef, undef, undef, undef, undef, undef, undef, undef, undef, undef, undef, undef, undef, undef, undef, undef, undef, undef, undef, undef, undef, undef, undef, undef, undef], defers := [] } W := by
    clear hca hcb hcA hcB hK2 K2
    intro u25 u26 u27 u28 u29 W hKT hL hBl
    refine hK1 _ _ ?_
    clear hK1 K1
    have T1 := HT.out
    have bA := hKT.boxed (by omega) T1.bA (by decide)
    have bB := hKT.boxed (by omega) T1.bB (by decide)
    have hcA := bA.cell
    have hcB := bB.cell
    have hcA1 := (bA.alloc (.cells #[.int .u64 0] 113)).cell
    have hcB1 := (bB.alloc (.cells #[.int .u64 0] 113)).cell
    clear T1 bA bB
    obtain ⟨both, hboth⟩ : ∃ z : Nat, setN (fun x => x == a || x == b) 12 = z := ⟨_, rfl⟩
    have hbl : both < 4096 := by rw [← hboth]; exact setN_lt12 _
    have hor : bits .or .u64 ((2 ^ a : Nat) : Int) ((2 ^ b : Nat) : Int) = ((both : Nat) : Int) := by
      have e : 2 ^ a ||| 2 ^ b = both := by rw [← hboth, ← setN_or, setN_one a ha, setN_one b hb]
      rw [← e]
      exact u64_or _ _ (by rw [setN_one a ha]; exact Nat.lt_trans (setN_lt12 _) (by omega)) (by rw [setN_one b hb]; exact Nat.lt_trans (setN_lt12 _) (by omega))
    have hpa : 2 ^ a < 4096 := by rw [setN_one a ha]; exact setN_lt12 _
    have hpb : 2 ^ b < 4096 := by rw [setN_one b hb]; exact setN_lt12 _
    have f1 : (2 : Int) ^ a = ((2 ^ a : Nat) : Int) := by push_cast; rfl
    have f2 : (2 : Int) ^ b = ((2 ^ b : Nat) : Int) := by push_cast; rfl
    have w1' := wrap_natU (2 ^ a) (by omega)
    have w2' := wrap_natU (2 ^ b) (by omega)
    have HF1 := hid f1
    have HF2 := hid f2
    have HBo := hid hboth
    have HPa := hid (show 2 ^ a = 2 ^ a from rfl)
    obtain ⟨pa, hpa'⟩ : ∃ z : Nat, 2 ^ a = z := ⟨_, rfl⟩
    obtain ⟨pb, hpb'⟩ : ∃ z : Nat, 2 ^ b = z := ⟨_, rfl⟩
    have HPA := hid hpa'
    have HPB := hid hpb'
    rw [hpa'] at hor hpa f1 w1' HF1
    rw [hpb'] at hor hpb f2 w2' HF2
    clear hboth hpa' hpb' HPa
    gi_wp2_with fail
    refine region_cut { tmps := #[.agg (sky h m), .int .i64 ((a : Nat) : Int), .int .i64 ((b : Nat) : Int), .pointer (some ⟨g, 0, none⟩), .pointer (some ⟨g + 1, 0, none⟩), .pointer (some ⟨g + 1 + 1, 0, none⟩), .pointer (some ⟨g + 1 + 1 + 1, 0, none⟩), .pointer (some ⟨g + 1 + 1 + 1 + 1, 0, none⟩), .pointer (some ⟨W.heap.size, 0, none⟩), undef, undef, undef, undef, undef, undef, undef, .func (.func 73) #[] #[.pointer (some ⟨g + 1 + 1 + 1, 0, none⟩)], .int .i64 ((a : Nat) : Int), .pointer (some ⟨g, 0, none⟩), .pointer (some ⟨g, a, none⟩), .int .i64 ((h a : Nat) : Int), .int .i64 ((b : Nat) : Int), .pointer (some ⟨g, 0, none⟩), .pointer (some ⟨g, b, none⟩), .int .i64 ((h b : Nat) : Int), u25, u26, u27, u28, u29, .int .i64 ((a : Nat) : Int), .int .u64 ((pa : Nat) : Int), .int .i64 ((b : Nat) : Int), .int .u64 ((pb : Nat) : Int), .int .u64 ((both : Nat) : Int), undef, undef, undef, undef, undef, undef, undef, undef, undef, undef, undef, undef, undef, undef, undef, undef, undef, undef, undef, undef, undef, undef, undef, undef, undef, undef, undef, undef, undef, undef, undef, undef, undef, undef, undef, undef, undef, undef, undef, undef, undef, undef, undef, undef, undef, undef, undef, undef, undef, undef, undef, undef, undef, undef, undef, undef, undef, undef, undef, undef, undef, undef, undef, undef, undef, undef, undef, undef, undef, undef, undef, undef, undef, undef, undef, undef, undef, undef, undef, undef, undef, undef, undef, undef, undef, undef, undef, undef, undef, undef, undef, undef, undef, undef, undef], defers := [] } (W.alloc (.cells #[.int .u64 ((both : Nat) : Int)] 113)).drew ?_ ?_
    · gi_region
      all_goals exact ⟨rfl, rfl⟩
    dsimp only
    have hTs := HT.out
    have fs1 : Fs h m a b g W.heap.size both (.func (.func 73) #[] #[.pointer (some ⟨g + 1 + 1 + 1, 0, none⟩)]) (W.alloc (.cells #[.int .u64 ((both : Nat) : Int)] 113)).drew := by
      have k1 : KeepT 53 (g + 1 + 1 + 1) w1 (W.alloc (.cells #[.int .u64 ((both : Nat) : Int)] 113)) := hKT.trans (KeepT.below ((Below.refl _ W).alloc (Nat.le_refl _) _))
      exact ⟨k1.row (by omega) hTs.sky (by decide), k1.boxed (by omega) hTs.bA (by decide), k1.boxed (by omega) hTs.bB (by decide), k1.boxed (by omega) hTs.bF (by decide), Boxed.new W _ _, by have := hKT.size; have := hTs.size; omega⟩
    have hL2 : ∃ v, Boxed (W.alloc (.cells #[.int .u64 ((both : Nat) : Int)] 113)).drew (g + 1 + 1 + 1) 45 v ∧ Trs 53 (W.alloc (.cells #[.int .u64 ((both : Nat) : Int)] 113)).drew (g + 1 + 1 + 1 + 1 + 1) v (tie1 h a b) := by
      obtain ⟨v, v1, v2⟩ := hL
      exact ⟨v, v1.alloc _, World.ownsRow.alloc v2 _⟩
    have hg1 : g ≤ W.heap.size := hg ▸ hBl.size
    have hB2 : Below g w (W.alloc (.cells #[.int .u64 ((both : Nat) : Int)] 113)).drew := below_drew (hBl.alloc hg1 _)
    have hbb : W.heap.size < (W.alloc (.cells #[.int .u64 ((both : Nat) : Int)] 113)).drew.heap.size := by show _ < (W.alloc _).heap.size; simp
    clear hTs hKT hL hBl hcA hcB hcA1 hcB1
    generalize (W.alloc (.cells #[.int .u64 ((both : Nat) : Int)] 113)).drew = W2 at *
    generalize W.heap.size = bb at *
    gi_wp2_with fail
    have HWpa := hid w1'
    have HWpb := hid w2'
    have hlen1 := tie1_len h a b
    have hL1 := hL2
    have hB1 := hB2
    clear f1 f2 w1' w2' hL2 hB2 hbb
    have HM2 := HM.out.below hB1 hmg
    obtain ⟨s1, hs1⟩ : ∃ z : Nat, onF h 12 (h a) = z := ⟨_, rfl⟩
    obtain ⟨s2, hs2⟩ : ∃ z : Nat, setN (fun i => nxt i b) 12 = z := ⟨_, rfl⟩
    obtain ⟨s3, hs3⟩ : ∃ z : Nat, s1 &&& s2 = z := ⟨_, rfl⟩
    obtain ⟨s5, hs5⟩ : ∃ z : Nat, s3 &&& (2 ^ 64 - (pa + 1)) = z := ⟨_, rfl⟩
    have HO := hid (of_b h HH.out m a ha W2 HM2)
    have HR := hid (around_b b hb W2)
    rw [hs1] at HO
    rw [hs2] at HR
    have l1 : s1 < 4096 := by rw [← hs1]; exact onF_lt _ _
    have l2 : s2 < 4096 := by rw [← hs2]; exact setN_lt12 _
    have l3 : s3 < 4096 := by rw [← hs3]; exact Nat.lt_of_le_of_lt Nat.and_le_left l1
    have l5 : s5 < 4096 := by rw [← hs5]; exact Nat.lt_of_le_of_lt Nat.and_le_left l3
    have hand := u64_and s1 s2 (by omega) (by omega)
    have handn := u64_andn s3 pa (by omega) (by omega)
    rw [hs3] at hand
    rw [hs5] at handn
    have HS5 := hid (show s5 = setN (fun x => h x == h a && nxt x b && x != a) 12 by rw [← hs5, ← hs3, ← hs1, ← hs2, ← HPA.out]; exact set_conj h a b ha)
    clear hs1 hs2 hs3 hs5
    refine wpIn_quiet_tail (lets_wide) 9 (by kernel_rfl) (by kernel_rfl) (by kernel_rfl) (fun V => Below W2.heap.size W2 V) (below_drew (Below.refl _ _)) ?_
    simp only [List.take_succ_cons, List.take_zero, List.drop_succ_cons, List.drop_zero]
    refine qvalK (.agg (sky h m)) rfl (fun W hW => by exact exec_ldsky rfl rfl (heap_below hW fs1.sky (heap_lt fs1.sky))) (fun K hK => ?_)
    go_simp
    refine hK _ ?_
    clear hK K
    refine qvalK (.int .i64 ((a : Nat) : Int)) rfl (fun W hW => by have hc := ((boxb fs1.bA hW).cell); go_simp) (fun K hK => ?_)
    go_simp
    refine hK _ ?_
    clear hK K
    refine qcallK (.int .u64 ((s1 : Nat) : Int)) 49 #[.agg (sky h m), .int .i64 ((a : Nat) : Int)] rfl (fun W => by kernel_rfl) (fun W hW => by exact HO.out W hW) (fun K hK => ?_)
    go_simp
    refine hK _ ?_
    clear hK K
    refine qvalK (.int .i64 ((b : Nat) : Int)) rfl (fun W hW => by have hc := ((boxb fs1.bB hW).cell); go_simp) (fun K hK => ?_)
    go_simp
    refine hK _ ?_
    clear hK K
    refine qcallK (.int .u64 ((s2 : Nat) : Int)) 74 #[.int .i64 ((b : Nat) : Int)] rfl (fun W => by kernel_rfl) (fun W hW => by exact HR.out W hW) (fun K hK => ?_)
    go_simp
    refine hK _ ?_
    clear hK K
    refine qvalK (.int .u64 ((s3 : Nat) : Int)) rfl (fun W hW => by go_simp <;> exact hand) (fun K hK => ?_)
    go_simp
    refine hK _ ?_
    clear hK K
    refine qvalK (.int .i64 ((a : Nat) : Int)) rfl (fun W hW => by have hc := ((boxb fs1.bA hW).cell); go_simp) (fun K hK => ?_)
    go_simp
    refine hK _ ?_
    clear hK K
    refine qvalK (.int .u64 ((pa : Nat) : Int)) rfl (fun W hW => by have f1 := HF1.out; have w1' := HWpa.out; go_simp) (fun K hK => ?_)
    go_simp
    refine hK _ ?_
    clear hK K
    refine qvalK (.int .u64 ((s5 : Nat) : Int)) rfl (fun W hW => by go_simp <;> exact handn) (fun K hK => ?_)
    go_simp
    refine hK _ ?_
    clear hK K
    refine wpQuiet_nil ?_
    intro V hW
    gi_wp2_with (gi_at_call 48; refine (callsIn_wide.2 (all_c _ _)).mono ?_; rintro e w' ⟨rfl, rfl⟩)
    clear HO HR hand handn l1 l2 l3 HM2
    have hgW2 : g ≤ W2.heap.size := by have := fs1.lt; have := fs1.bO.lt; omega
    obtain ⟨vl, v1, v2⟩ := hL1
    obtain ⟨b1, hb1⟩ : ∃ z, V.heap.size = z := ⟨_, rfl⟩
    have S0 := enter_all hb1 (Nat.le_trans hgW2 hW.size) (hB1.trans (hW.mono hgW2)) (boxb v1 hW) (v2.below hW) (.int .u64 ((s5 : Nat) : Int))
    have bx := Boxed.new V 113 (.int .u64 ((s5 : Nat) : Int))
    have fsv := fs1.below hW
    have hgV : g + 1 + 1 + 1 + 1 + 1 ≤ V.heap.size := by have := fs1.lt; have := fs1.bO.lt; have := hW.size; omega
    have hsz : (V.alloc (.cells #[.int .u64 ((s5 : Nat) : Int)] 113)).heap.size = V.heap.size + 1 := by simp
    clear v1 v2 fs1 hB1 hW
    generalize V.alloc (.cells #[.int .u64 ((s5 : Nat) : Int)] 113) = V3 at *
    rw [hb1] at bx hgV hsz ⊢
    apply rf_outA rfl h1 (gf := 70) (lb := #[.pointer (some ⟨b1, 0, none⟩)]) rfl trivial (enters_of Tryd.func70 (by kernel_rfl) rfl)
      (all1_seq (n - 1) (by omega) b1 s5 l5 V3 bx) bx.lt (fun _ => rfl)
      (fun pre W => St 53 45 g (g + 1 + 1 + 1) (g + 1 + 1 + 1 + 1 + 1) b1 w V (tie1 h a b ++ pre.map fun x => (2, x, b)) W) (St.own (by omega) (by omega) (by omega))
      (fun pre W v hS => hS.setB (by omega) (by omega) (by omega) (by decide) v) (fun pre W hS => HLB.out.below (by rw [hg]; exact hS.below)) (by simpa using S0)
    case hassign =>
      intro l pre x W K hi hK
      gi_wp2_with fail
      first | rfl | exact hK _ rfl
    case hbody =>
      rintro l pre x W hl hr hi ⟨rest, hx⟩
      try dsimp only at hi
      try dsimp only
      obtain ⟨hp1, hp2, hp3⟩ := pre_bits (p := fun x => h x == h a && nxt x b && x != a) (by rw [HS5.out]; exact bitsL_bit _) hx
      obtain ⟨v, v1, v2⟩ := hi.l
      have fsW := fsv.keep hi.keep
      have hcF := fsW.bF.cell
      have hcA := fsW.bA.cell
      have hcB := fsW.bB.cell
      obtain ⟨ub, hub⟩ := hi.box
      have hlen : (tie1 h a b ++ pre.map fun x => (2, x, b)).length < 100000 := by have := hlen1; rw [List.length_append, List.length_map]; omega
      have HA := hid (add_c 2 x b (by omega) (by omega) (g + 1 + 1 + 1) (g + 1 + 1 + 1 + 1 + 1) v _ hlen W v1 (by omega) (by have := hi.keep.size; omega) v2)
      have HI := hid hi
      have HU := hid hub
      clear hi hub v1 v2 fsW hx hp3 hlen
      gi_wp2_with (gi_at_call 73; refine (CallsIn.inRound l (callsIn_wide.2 HA.out)).mono ?_; rintro e W' ⟨⟨u, rfl⟩, hl', hb', hk'⟩)
      exact ⟨hk'.from (by omega), hk'.keptB (by omega) HU.out (by decide), HI.out.add (by omega) (by decide) (by omega) (by rw [list_snoc]; exact hl') hb' hk'⟩
    case hdone =>
      rintro D1 W3 hD1 hi mk1
      try dsimp only at hi
      have fs2 := fsv.keep hi.keep
      have hB2 := hi.below
      have hL2 : ∃ v, Boxed W3 (g + 1 + 1 + 1) 45 v ∧ Trs 53 W3 (g + 1 + 1 + 1 + 1 + 1) v (tie1 h a b ++ tie2a h a b) := by
        have h9 := hi.l
        rw [HS5.out, bitsL_bit] at h9
        exact h9
      have hlen2 : (tie1 h a b ++ tie2a h a b).length ≤ 13 := by
        have h9 := len_bits fun x => h x == h a && nxt x b && x != a
        have h8 := hlen1
        rw [List.length_append]
        show _ + (List.map _ _).length ≤ _
        rw [List.length_map]
        omega
      have hD1' : g + 1 + 1 + 1 + 1 + 1 ≤ D1 := by omega
      clear hi S0 bx fsv HS5 hgV hsz hlen1 vl hD1
      gi_wp2_with fail
      have HM2 := HM.out.below hB2 hmg
      obtain ⟨s1, hs1⟩ : ∃ z : Nat, onF h 12 (h b) = z := ⟨_, rfl⟩
      obtain ⟨s2, hs2⟩ : ∃ z : Nat, setN (fun i => nxt i a) 12 = z := ⟨_, rfl⟩
      obtain ⟨s3, hs3⟩ : ∃ z : Nat, s1 &&& s2 = z := ⟨_, rfl⟩
      obtain ⟨s5, hs5⟩ : ∃ z : Nat, s3 &&& (2 ^ 64 - (pb + 1)) = z := ⟨_, rfl⟩
      have HO := hid (of_b h HH.out m b hb W3 HM2)
      have HR := hid (around_b a ha W3)
      rw [hs1] at HO
      rw [hs2] at HR
      have l1 : s1 < 4096 := by rw [← hs1]; exact onF_lt _ _
      have l2 : s2 < 4096 := by rw [← hs2]; exact setN_lt12 _
      have l3 : s3 < 4096 := by rw [← hs3]; exact Nat.lt_of_le_of_lt Nat.and_le_left l1
      have l5 : s5 < 4096 := by rw [← hs5]; exact Nat.lt_of_le_of_lt Nat.and_le_left l3
      have hand := u64_and s1 s2 (by omega) (by omega)
      have handn := u64_andn s3 pb (by omega) (by omega)
      rw [hs3] at hand
      rw [hs5] at handn
      have HS5 := hid (show s5 = setN (fun x => h x == h b && nxt x a && x != b) 12 by rw [← hs5, ← hs3, ← hs1, ← hs2, ← HPB.out]; exact set_conj h b a hb)
      clear hs1 hs2 hs3 hs5
      refine wpIn_quiet_tail (lets_wide) 9 (by kernel_rfl) (by kernel_rfl) (by kernel_rfl) (fun V => Below W3.heap.size W3 V) (below_drew (Below.refl _ _)) ?_
      simp only [List.take_succ_cons, List.take_zero, List.drop_succ_cons, List.drop_zero]
      refine qvalK (.agg (sky h m)) rfl (fun W hW => by exact exec_ldsky rfl rfl (heap_below hW fs2.sky (heap_lt fs2.sky))) (fun K hK => ?_)
      go_simp
      refine hK _ ?_
      clear hK K
      refine qvalK (.int .i64 ((b : Nat) : Int)) rfl (fun W hW => by have hc := ((boxb fs2.bB hW).cell); go_simp) (fun K hK => ?_)
      go_simp
      refine hK _ ?_
      clear hK K
      refine qcallK (.int .u64 ((s1 : Nat) : Int)) 49 #[.agg (sky h m), .int .i64 ((b : Nat) : Int)] rfl (fun W => by kernel_rfl) (fun W hW => by exact HO.out W hW) (fun K hK => ?_)
      go_simp
      refine hK _ ?_
      clear hK K
      refine qvalK (.int .i64 ((a : Nat) : Int)) rfl (fun W hW => by have hc := ((boxb fs2.bA hW).cell); go_simp) (fun K hK => ?_)
      go_simp
      refine hK _ ?_
      clear hK K
      refine qcallK (.int .u64 ((s2 : Nat) : Int)) 74 #[.int .i64 ((a : Nat) : Int)] rfl (fun W => by kernel_rfl) (fun W hW => by exact HR.out W hW) (fun K hK => ?_)
      go_simp
      refine hK _ ?_
      clear hK K
      refine qvalK (.int .u64 ((s3 : Nat) : Int)) rfl (fun W hW => by go_simp <;> exact hand) (fun K hK => ?_)
      go_simp
      refine hK _ ?_
      clear hK K
      refine qvalK (.int .i64 ((b : Nat) : Int)) rfl (fun W hW => by have hc := ((boxb fs2.bB hW).cell); go_simp) (fun K hK => ?_)
      go_simp
      refine hK _ ?_
      clear hK K
      refine qvalK (.int .u64 ((pb : Nat) : Int)) rfl (fun W hW => by have f1 := HF2.out; have w1' := HWpb.out; go_simp) (fun K hK => ?_)
      go_simp
      refine hK _ ?_
      clear hK K
      refine qvalK (.int .u64 ((s5 : Nat) : Int)) rfl (fun W hW => by go_simp <;> exact handn) (fun K hK => ?_)
      go_simp
      refine hK _ ?_
      clear hK K
      refine wpQuiet_nil ?_
      intro V hW
      gi_wp2_with (gi_at_call 48; refine (callsIn_wide.2 (all_c _ _)).mono ?_; rintro e w' ⟨rfl, rfl⟩)
      clear HO HR hand handn l1 l2 l3 HM2
      have hgW2 : g ≤ W3.heap.size := by have := fs2.lt; have := fs2.bO.lt; omega
      obtain ⟨vl, v1, v2⟩ := hL2
      obtain ⟨b2, hb2⟩ : ∃ z, V.heap.size = z := ⟨_, rfl⟩
      have S0 := enter_all hb2 (Nat.le_trans hgW2 hW.size) (hB2.trans (hW.mono hgW2)) (boxb v1 hW) (v2.below hW) (.int .u64 ((s5 : Nat) : Int))
      have bx := Boxed.new V 113 (.int .u64 ((s5 : Nat) : Int))
      have fsv := fs2.below hW
      have hgV : g + 1 + 1 + 1 + 1 + 1 ≤ V.heap.size := by have := fs2.lt; have := fs2.bO.lt; have := hW.size; omega
      have hsz : (V.alloc (.cells #[.int .u64 ((s5 : Nat) : Int)] 113)).heap.size = V.heap.size + 1 := by simp
      have mk1' := heap_below hW mk1 (heap_lt mk1)
      clear v1 v2 fs2 hB2 hW
      generalize V.alloc (.cells #[.int .u64 ((s5 : Nat) : Int)] 113) = V3 at *
      rw [hb2] at bx hgV hsz ⊢
      apply rf_outA rfl h1 (gf := 70) (lb := #[.pointer (some ⟨b2, 0, none⟩)]) rfl trivial (enters_of Tryd.func70 (by kernel_rfl) rfl)
        (all1_seq (n - 1) (by omega) b2 s5 l5 V3 bx) bx.lt (fun _ => rfl)
        (fun pre W => St 53 45 g (g + 1 + 1 + 1) (g + 1 + 1 + 1 + 1 + 1) b2 w V ((tie1 h a b ++ tie2a h a b) ++ pre.map fun x => (2, a, x)) W) (St.own (by omega) (by omega) (by omega))
        (fun pre W v hS => hS.setB (by omega) (by omega) (by omega) (by decide) v) (fun pre W hS => HLB.out.below (by rw [hg]; exact hS.below)) (by simpa using S0)
      case hassign =>
        intro l pre x W K hi hK
        gi_wp2_with fail
        first | rfl | exact hK _ rfl
      case hbody =>
        rintro l pre x W hl hr hi ⟨rest, hx⟩
        try dsimp only at hi
        try dsimp only
        obtain ⟨hp1, hp2, hp3⟩ := pre_bits (p := fun x => h x == h b && nxt x a && x != b) (by rw [HS5.out]; exact bitsL_bit _) hx
        obtain ⟨v, v1, v2⟩ := hi.l
        have fsW := fsv.keep hi.keep
        have hcF := fsW.bF.cell
        have hcA := fsW.bA.cell
        have hcB := fsW.bB.cell
        obtain ⟨ub, hub⟩ := hi.box
        have hlen : ((tie1 h a b ++ tie2a h a b) ++ pre.map fun x => (2, a, x)).length < 100000 := by have := hlen2; rw [List.length_append, List.length_map]; omega
        have HA := hid (add_c 2 a x (by omega) (by omega) (g + 1 + 1 + 1) (g + 1 + 1 + 1 + 1 + 1) v _ hlen W v1 (by omega) (by have := hi.keep.size; omega) v2)
        have HI := hid hi
        have HU := hid hub
        clear hi hub v1 v2 fsW hx hp3 hlen
        gi_wp2_with (gi_at_call 73; refine (CallsIn.inRound l (callsIn_wide.2 HA.out)).mono ?_; rintro e W' ⟨⟨u, rfl⟩, hl', hb', hk'⟩)
        exact ⟨hk'.from (by omega), hk'.keptB (by omega) HU.out (by decide), HI.out.add (by omega) (by decide) (by omega) (by rw [list_snoc]; exact hl') hb' hk'⟩
      case hdone =>
        rintro D2 W4 hD2 hi mk2
        try dsimp only at hi
        have fs3 := fsv.keep hi.keep
        have hB3 := hi.below
        have hL3 : ∃ v, Boxed W4 (g + 1 + 1 + 1) 45 v ∧ Trs 53 W4 (g + 1 + 1 + 1 + 1 + 1) v (tie1 h a b ++ tie2a h a b ++ tie2b h a b) := by
          have h9 := hi.l
          rw [HS5.out, bitsL_bit] at h9
          exact h9
        have hlen3 : (tie1 h a b ++ tie2a h a b ++ tie2b h a b).length ≤ 25 := by
          have h9 := len_bits fun x => h x == h b && nxt x a && x != b
          have h8 := hlen2
          rw [List.length_append]
          show _ + (List.map _ _).length ≤ _
          rw [List.length_map]
          omega
        have hD2' : g + 1 + 1 + 1 + 1 + 1 ≤ D2 := by omega
        have hDD12 : D1 < D2 := by have := heap_lt mk1'; omega
        have mk1 := mark_keep mk1' hi.keep (by omega)
        clear mk1'
        clear hi S0 bx fsv HS5 hgV hsz hlen2 vl hD2
        gi_wp2_with fail
        have HM2 := HM.out.below hB3 hmg
        obtain ⟨s1, hs1⟩ : ∃ z : Nat, onF h 12 (h a) = z := ⟨_, rfl⟩
        obtain ⟨s5, hs5⟩ : ∃ z : Nat, s1 &&& (2 ^ 64 - (both + 1)) = z := ⟨_, rfl⟩
        have HO := hid (of_b h HH.out m a ha W4 HM2)
        rw [hs1] at HO
        have l1 : s1 < 4096 := by rw [← hs1]; exact onF_lt _ _
        have l5 : s5 < 4096 := by rw [← hs5]; exact Nat.lt_of_le_of_lt Nat.and_le_left l1
        have handn := u64_andn s1 both (by omega) (by omega)
        rw [hs5] at handn
        have HS5 := hid (show s5 = setN (fun x => h x == h a && x != a && x != b) 12 by rw [← hs5, ← hs1, ← HBo.out]; exact set_mut h a b)
        clear hs1 hs5
        refine wpIn_quiet_tail (lets_wide) 5 (by kernel_rfl) (by kernel_rfl) (by kernel_rfl) (fun V => Below W4.heap.size W4 V) (below_drew (Below.refl _ _)) ?_
        simp only [List.take_succ_cons, List.take_zero, List.drop_succ_cons, List.drop_zero]
        refine qvalK (.agg (sky h m)) rfl (fun W hW => by exact exec_ldsky rfl rfl (heap_below hW fs3.sky (heap_lt fs3.sky))) (fun K hK => ?_)
        go_simp
        refine hK _ ?_
        clear hK K
        refine qvalK (.int .i64 ((a : Nat) : Int)) rfl (fun W hW => by have hc := ((boxb fs3.bA hW).cell); go_simp) (fun K hK => ?_)
        go_simp
        refine hK _ ?_
        clear hK K
        refine qcallK (.int .u64 ((s1 : Nat) : Int)) 49 #[.agg (sky h m), .int .i64 ((a : Nat) : Int)] rfl (fun W => by kernel_rfl) (fun W hW => by exact HO.out W hW) (fun K hK => ?_)
        go_simp
        refine hK _ ?_
        clear hK K
        refine qvalK (.int .u64 ((both : Nat) : Int)) rfl (fun W hW => by have hc := ((boxb fs3.bO hW).cell); go_simp) (fun K hK => ?_)
        go_simp
        refine hK _ ?_
        clear hK K
        refine qvalK (.int .u64 ((s5 : Nat) : Int)) rfl (fun W hW => by go_simp <;> exact handn) (fun K hK => ?_)
        go_simp
        refine hK _ ?_
        clear hK K
        refine wpQuiet_nil ?_
        intro V hW
        gi_wp2_with (gi_at_call 48; refine (callsIn_wide.2 (all_c _ _)).mono ?_; rintro e w' ⟨rfl, rfl⟩)
        clear HO handn l1 HM2
        have hgW2 : g ≤ W4.heap.size := by have := fs3.lt; have := fs3.bO.lt; omega
        obtain ⟨vl, v1, v2⟩ := hL3
        obtain ⟨b3, hb3⟩ : ∃ z, V.heap.size = z := ⟨_, rfl⟩
        have S0 := enter_all hb3 (Nat.le_trans hgW2 hW.size) (hB3.trans (hW.mono hgW2)) (boxb v1 hW) (v2.below hW) (.int .u64 ((s5 : Nat) : Int))
        have bx := Boxed.new V 113 (.int .u64 ((s5 : Nat) : Int))
        have fsv := fs3.below hW
        have hgV : g + 1 + 1 + 1 + 1 + 1 ≤ V.heap.size := by have := fs3.lt; have := fs3.bO.lt; have := hW.size; omega
        have hsz : (V.alloc (.cells #[.int .u64 ((s5 : Nat) : Int)] 113)).heap.size = V.heap.size + 1 := by simp
        have mk1' := heap_below hW mk1 (heap_lt mk1)
        have mk2' := heap_below hW mk2 (heap_lt mk2)
        clear v1 v2 fs3 hB3 hW
        generalize V.alloc (.cells #[.int .u64 ((s5 : Nat) : Int)] 113) = V3 at *
        rw [hb3] at bx hgV hsz ⊢
        apply rf_outX rfl h1 (gf := 70) (lb := #[.pointer (some ⟨b3, 0, none⟩)]) rfl trivial (enters_of Tryd.func70 (by kernel_rfl) rfl)
          (all1_seq (n - 1) (by omega) b3 s5 l5 V3 bx) bx.lt (fun _ => rfl) 115
          (fun pre W => St 53 45 g (g + 1 + 1 + 1) (g + 1 + 1 + 1 + 1 + 1) b3 w V ((tie1 h a b ++ tie2a h a b ++ tie2b h a b) ++ pre.flatMap fun x => (bitsL fun y => h y == h b && nxt y x && y != a && y != b).map fun y => (3, x, y)) W) (St.own (by omega) (by omega) (by omega)) (fun pre W o hS => hS.alloc (by omega) o) (fun pre W hS => by have := hS.size; omega)
          (fun pre W v hS => hS.setB (by omega) (by omega) (by omega) (by decide) v) (fun pre W hS => HLB.out.below (by rw [hg]; exact hS.below)) (by simpa using S0)
        case hassign =>
          intro l pre x B W K hB hi hK
          gi_wp2_with fail
          first | rfl | (rw [hB]; rfl) | (rw [hB]; exact hK _ rfl)
        case hbody =>
          rintro l pre x B W hl ⟨r, hr⟩ hi hBx bX ⟨rest, hx⟩
          try dsimp only at hi
          try dsimp only
          obtain ⟨hp1, hp2, hp3⟩ := pre_bits (p := fun x => h x == h a && x != a && x != b) (by rw [HS5.out]; exact bitsL_bit _) hx
          have hp2' : ((x : Nat) : Int) < 12 := by omega
          have fsW := fsv.keep hi.keep
          have HMW : SkyM W m 12 (onF h 12) := HM.out.below hi.below hmg
          have hszW : V3.heap.size ≤ W.heap.size := by have := hi.size; omega
          have HI := hid hi
          clear hx hp3 hi
          obtain ⟨t1, ht1⟩ : ∃ z : Nat, onF h 12 (h b) = z := ⟨_, rfl⟩
          obtain ⟨t2, ht2⟩ : ∃ z : Nat, setN (fun i => nxt i x) 12 = z := ⟨_, rfl⟩
          obtain ⟨t3, ht3⟩ : ∃ z : Nat, t1 &&& t2 = z := ⟨_, rfl⟩
          obtain ⟨t5, ht5⟩ : ∃ z : Nat, t3 &&& (2 ^ 64 - (both + 1)) = z := ⟨_, rfl⟩
          have HO2 := hid (of_b h HH.out m b hb W HMW)
          have HR2 := hid (around_b x hp2 W)
          rw [ht1] at HO2
          rw [ht2] at HR2
          have q1 : t1 < 4096 := by rw [← ht1]; exact onF_lt _ _
          have q2 : t2 < 4096 := by rw [← ht2]; exact setN_lt12 _
          have q3 : t3 < 4096 := by rw [← ht3]; exact Nat.lt_of_le_of_lt Nat.and_le_left q1
          have q5 : t5 < 4096 := by rw [← ht5]; exact Nat.lt_of_le_of_lt Nat.and_le_left q3
          have hand2 := u64_and t1 t2 (by omega) (by omega)
          have handn2 := u64_andn t3 both (by omega) (by omega)
          rw [ht3] at hand2
          rw [ht5] at handn2
          have HT5 := hid (show t5 = setN (fun y => h y == h b && nxt y x && y != a && y != b) 12 by rw [← ht5, ← ht3, ← ht1, ← ht2, ← HBo.out]; exact set_mut2 h a b x)
          clear ht1 ht2 ht3 ht5 HMW
          gi_wp2_with fail
          refine wpIn_quiet_tail (lets_round l) 8 (by kernel_rfl) (by kernel_rfl) (by kernel_rfl) (fun V => Below W.heap.size W V) (below_drew (Below.refl _ _)) ?_
          simp only [List.take_succ_cons, List.take_zero, List.drop_succ_cons, List.drop_zero]
          refine qvalK (.agg (sky h m)) rfl (fun W0 hW => by exact exec_ldsky rfl rfl (heap_below hW fsW.sky (heap_lt fsW.sky))) (fun K hK => ?_)
          go_simp
          refine hK _ ?_
          clear hK K
          refine qvalK (.int .i64 ((b : Nat) : Int)) rfl (fun W0 hW => by have hc := ((boxb fsW.bB hW).cell); go_simp) (fun K hK => ?_)
          go_simp
          refine hK _ ?_
          clear hK K
          refine qcallK (.int .u64 ((t1 : Nat) : Int)) 49 #[.agg (sky h m), .int .i64 ((b : Nat) : Int)] rfl (fun W => by kernel_rfl) (fun W0 hW => by exact HO2.out _ hW) (fun K hK => ?_)
          go_simp
          refine hK _ ?_
          clear hK K
          refine qvalK (.int .i64 ((x : Nat) : Int)) rfl (fun W0 hW => by have hc := ((boxb bX hW).cell); go_simp) (fun K hK => ?_)
          go_simp
          refine hK _ ?_
          clear hK K
          refine qcallK (.int .u64 ((t2 : Nat) : Int)) 74 #[.int .i64 ((x : Nat) : Int)] rfl (fun W => by kernel_rfl) (fun W0 hW => by exact HR2.out _ hW) (fun K hK => ?_)
          go_simp
          refine hK _ ?_
          clear hK K
          refine qvalK (.int .u64 ((t3 : Nat) : Int)) rfl (fun W0 hW => by go_simp <;> exact hand2) (fun K hK => ?_)
          go_simp
          refine hK _ ?_
          clear hK K
          refine qvalK (.int .u64 ((both : Nat) : Int)) rfl (fun W0 hW => by have hc := ((boxb fsW.bO hW).cell); go_simp) (fun K hK => ?_)
          go_simp
          refine hK _ ?_
          clear hK K
          refine qvalK (.int .u64 ((t5 : Nat) : Int)) rfl (fun W0 hW => by go_simp <;> exact handn2) (fun K hK => ?_)
          go_simp
          refine hK _ ?_
          clear hK K
          refine wpQuiet_nil ?_
          intro U hW
          gi_wp2_with (gi_at_call 48; refine (CallsIn.inRound l (callsIn_wide.2 (all_c _ _))).mono ?_; rintro e w' ⟨rfl, rfl⟩)
          obtain ⟨vl, v1, v2⟩ := HI.out.l
          obtain ⟨c0, hc0⟩ : ∃ z, U.heap.size = z := ⟨_, rfl⟩
          have hgW : g ≤ W.heap.size := by omega
          have T0 := (enter_all hc0 (Nat.le_trans hgW hW.size) (HI.out.below.trans (hW.mono hgW)) (boxb v1 hW) (v2.below hW) (.int .u64 ((t5 : Nat) : Int))).rebase (KeepT.below hW)
          have cx := Boxed.new U 113 (.int .u64 ((t5 : Nat) : Int))
          have hszU : (U.alloc (.cells #[.int .u64 ((t5 : Nat) : Int)] 113)).heap.size = U.heap.size + 1 := by simp
          have hr3 : (U.alloc (.cells #[.int .u64 ((t5 : Nat) : Int)] 113)).heap[l]? = some (.loop r) := (Below.heap_alloc U _ l (Nat.lt_of_lt_of_le (heap_lt hr) hW.size)).trans (heap_below hW hr (heap_lt hr))
          have hWU := hW.size
          clear v1 v2 hW HO2 HR2 hand2 handn2
          generalize U.alloc (.cells #[.int .u64 ((t5 : Nat) : Int)] 113) = U3 at *
          rw [hc0] at cx hszU hWU ⊢
          apply rf_inA (l₀ := l) (r₀ := r) rfl hr3 (by omega) (gf := 70) (lb := #[.pointer (some ⟨c0, 0, none⟩)]) rfl trivial (enters_of Tryd.func70 (by kernel_rfl) rfl)
            ((all1_seq (n - 1 - 1 - 1) (by omega) c0 t5 q5 U3 cx).inRound l) cx.lt (fun _ => rfl)
            (fun pre' W' => St 53 45 g (g + 1 + 1 + 1) (g + 1 + 1 + 1 + 1 + 1) c0 w W (((tie1 h a b ++ tie2a h a b ++ tie2b h a b) ++ pre.flatMap fun x => (bitsL fun y => h y == h b && nxt y x && y != a && y != b).map fun y => (3, x, y)) ++ pre'.map fun y => (3, x, y)) W') (St.own (by omega) (by omega) (by omega))
            (fun pre' W' v hS => hS.setB (by omega) (by omega) (by omega) (by decide) v) (fun pre' W' hS => HLB.out.below (by rw [hg]; exact hS.below)) (by simpa using T0)
          case hassign =>
            intro l2 pre' y W' K hi hK
            gi_wp2_with fail
            first | rfl | exact hK _ rfl
          case hbody =>
            rintro l2 pre' y W' hl2 hr2 hi ⟨rest', hy⟩
            try dsimp only at hi
            try dsimp only
            obtain ⟨hq1, hq2, hq3⟩ := pre_bits (p := fun y => h y == h b && nxt y x && y != a && y != b) (by rw [HT5.out]; exact bitsL_bit _) hy
            obtain ⟨v, v1, v2⟩ := hi.l
            have hcF := (fsW.keep hi.keep).bF.cell
            have hcX := (hi.keep.boxed (by omega) bX (by decide)).cell
            obtain ⟨ub, hub⟩ := hi.box
            have hlen : (((tie1 h a b ++ tie2a h a b ++ tie2b h a b) ++ pre.flatMap fun x => (bitsL fun y => h y == h b && nxt y x && y != a && y != b).map fun y => (3, x, y)) ++ pre'.map fun y => (3, x, y)).length < 100000 := by
              have h7 := hlen3
              have h8 := flat_len (fun x => (bitsL fun y => h y == h b && nxt y x && y != a && y != b).map fun y => (3, x, y)) 12 (fun x => flen3 h a b x) pre
              rw [List.length_append, List.length_append, List.length_map]
              omega
            have HA := hid (add_c 3 x y (by omega) (by omega) (g + 1 + 1 + 1) (g + 1 + 1 + 1 + 1 + 1) v _ hlen W' v1 (by omega) (by have := hi.keep.size; omega) v2)
            have HJ := hid hi
            have HU := hid hub
            clear hi hub v1 v2 hy hq3 hlen
            gi_wp2_with (gi_at_call 73; refine (CallsIn.inRound l2 (CallsIn.inRound l (callsIn_wide.2 HA.out))).mono ?_; rintro e W2' ⟨⟨u, rfl⟩, hl', hb', hk'⟩)
            exact ⟨hk'.from (by omega), hk'.keptB (by omega) HU.out (by decide), HJ.out.add (by omega) (by decide) (by omega) (by rw [list_snoc]; exact hl') hb' hk'⟩
          case hdone =>
            rintro W' hi
            try dsimp only at hi
            gi_wp2_with fail
            obtain ⟨ub, hub⟩ := HI.out.box
            refine ⟨hi.keep.from (by omega), hi.keep.keptB (by omega) hub (by decide), ?_⟩
            rw [HT5.out, bitsL_bit] at hi
            have h6 := HI.out.outer hi (by omega) (by decide)
            rw [flat_snoc]
            exact h6
        case hdone =>
          rintro D3 W5 hD3 hi mk3
          try dsimp only at hi
          have fs4 := fsv.keep hi.keep
          have hB4 := hi.below
          have hL4 : ∃ v, Boxed W5 (g + 1 + 1 + 1) 45 v ∧ Trs 53 W5 (g + 1 + 1 + 1 + 1 + 1) v (tie1 h a b ++ tie2a h a b ++ tie2b h a b ++ tie3 h a b) := by
            have h9 := hi.l
            rw [HS5.out, bitsL_bit] at h9
            exact h9
          have hlen4 : ((tie1 h a b ++ tie2a h a b ++ tie2b h a b ++ tie3 h a b)).length ≤ 200 := by
            have h9 := len_bits fun x => h x == h a && x != a && x != b
            have h7 := flat_len (fun x => (bitsL fun y => h y == h b && nxt y x && y != a && y != b).map fun y => (3, x, y)) 12 (fun x => flen3 h a b x) (bitsL fun x => h x == h a && x != a && x != b)
            have h8 := hlen3
            rw [List.length_append]
            show _ + (List.flatMap _ _).length ≤ _
            omega
          have hD3' : g + 1 + 1 + 1 + 1 + 1 ≤ D3 := by omega
          have hDD13 : D1 < D3 := by have := heap_lt mk1'; omega
          have mk1 := mark_keep mk1' hi.keep (by omega)
          clear mk1'
          have hDD23 : D2 < D3 := by have := heap_lt mk2'; omega
          have mk2 := mark_keep mk2' hi.keep (by omega)
          clear mk2'
          clear hi S0 bx fsv HS5 hgV hsz hlen3 vl hD3
          gi_wp2_with fail
          obtain ⟨s1, hs1⟩ : ∃ z : Nat, setN (fun i => nxt i a) 12 = z := ⟨_, rfl⟩
          obtain ⟨s5, hs5⟩ : ∃ z : Nat, s1 &&& (2 ^ 64 - (both + 1)) = z := ⟨_, rfl⟩
          have HO := hid (around_b a ha W5)
          rw [hs1] at HO
          have l1 : s1 < 4096 := by rw [← hs1]; exact setN_lt12 _
          have l5 : s5 < 4096 := by rw [← hs5]; exact Nat.lt_of_le_of_lt Nat.and_le_left l1
          have handn := u64_andn s1 both (by omega) (by omega)
          rw [hs5] at handn
          have HS5 := hid (show s5 = setN (fun x => nxt x a && x != a && x != b) 12 by rw [← hs5, ← hs1, ← HBo.out]; exact set_tra a b)
          clear hs1 hs5
          refine wpIn_quiet_tail (lets_wide) 4 (by kernel_rfl) (by kernel_rfl) (by kernel_rfl) (fun V => Below W5.heap.size W5 V) (below_drew (Below.refl _ _)) ?_
          simp only [List.take_succ_cons, List.take_zero, List.drop_succ_cons, List.drop_zero]
          refine qvalK (.int .i64 ((a : Nat) : Int)) rfl (fun W hW => by have hc := ((boxb fs4.bA hW).cell); go_simp) (fun K hK => ?_)
          go_simp
          refine hK _ ?_
          clear hK K
          refine qcallK (.int .u64 ((s1 : Nat) : Int)) 74 #[.int .i64 ((a : Nat) : Int)] rfl (fun W => by kernel_rfl) (fun W hW => by exact HO.out W hW) (fun K hK => ?_)
          go_simp
          refine hK _ ?_
          clear hK K
          refine qvalK (.int .u64 ((both : Nat) : Int)) rfl (fun W hW => by have hc := ((boxb fs4.bO hW).cell); go_simp) (fun K hK => ?_)
          go_simp
          refine hK _ ?_
          clear hK K
          refine qvalK (.int .u64 ((s5 : Nat) : Int)) rfl (fun W hW => by go_simp <;> exact handn) (fun K hK => ?_)
          go_simp
          refine hK _ ?_
          clear hK K
          refine wpQuiet_nil ?_
          intro V hW
          gi_wp2_with (gi_at_call 48; refine (callsIn_wide.2 (all_c _ _)).mono ?_; rintro e w' ⟨rfl, rfl⟩)
          clear HO handn l1
          have hgW2 : g ≤ W5.heap.size := by have := fs4.lt; have := fs4.bO.lt; omega
          obtain ⟨vl, v1, v2⟩ := hL4
          obtain ⟨b4, hb4⟩ : ∃ z, V.heap.size = z := ⟨_, rfl⟩
          have S0 := enter_all hb4 (Nat.le_trans hgW2 hW.size) (hB4.trans (hW.mono hgW2)) (boxb v1 hW) (v2.below hW) (.int .u64 ((s5 : Nat) : Int))
          have bx := Boxed.new V 113 (.int .u64 ((s5 : Nat) : Int))
          have fsv := fs4.below hW
          have hgV : g + 1 + 1 + 1 + 1 + 1 ≤ V.heap.size := by have := fs4.lt; have := fs4.bO.lt; have := hW.size; omega
          have hsz : (V.alloc (.cells #[.int .u64 ((s5 : Nat) : Int)] 113)).heap.size = V.heap.size + 1 := by simp
          have mk1' := heap_below hW mk1 (heap_lt mk1)
          have mk2' := heap_below hW mk2 (heap_lt mk2)
          have mk3' := heap_below hW mk3 (heap_lt mk3)
          clear v1 v2 fs4 hB4 hW
          generalize V.alloc (.cells #[.int .u64 ((s5 : Nat) : Int)] 113) = V3 at *
          rw [hb4] at bx hgV hsz ⊢
          apply rf_outX rfl h1 (gf := 70) (lb := #[.pointer (some ⟨b4, 0, none⟩)]) rfl trivial (enters_of Tryd.func70 (by kernel_rfl) rfl)
            (all1_seq (n - 1) (by omega) b4 s5 l5 V3 bx) bx.lt (fun _ => rfl) 115
            (fun pre W => St 53 45 g (g + 1 + 1 + 1) (g + 1 + 1 + 1 + 1 + 1) b4 w V ((tie1 h a b ++ tie2a h a b ++ tie2b h a b ++ tie3 h a b) ++ pre.flatMap fun x => (if h x = h a ∨ h x = h b then [] else (bitsL fun y => h y == h x && nxt y b && y != a && y != b && y != x).map fun y => (4, x, y))) W) (St.own (by omega) (by omega) (by omega)) (fun pre W o hS => hS.alloc (by omega) o) (fun pre W hS => by have := hS.size; omega)
            (fun pre W v hS => hS.setB (by omega) (by omega) (by omega) (by decide) v) (fun pre W hS => HLB.out.below (by rw [hg]; exact hS.below)) (by simpa using S0)
          case hassign =>
            intro l pre x B W K hB hi hK
            gi_wp2_with fail
            first | rfl | (rw [hB]; rfl) | (rw [hB]; exact hK _ rfl)
          case hbody =>
            rintro l pre x B W hl ⟨r, hr⟩ hi hBx bX ⟨rest, hx⟩
            try dsimp only at hi
            try dsimp only
            obtain ⟨hp1, hp2, hp3⟩ := pre_bits (p := fun x => nxt x a && x != a && x != b) (by rw [HS5.out]; exact bitsL_bit _) hx
            have hp2' : ((x : Nat) : Int) < 12 := by omega
            have fsW := fsv.keep hi.keep
            have HMW : SkyM W m 12 (onF h 12) := HM.out.below hi.below hmg
            have hszW : V3.heap.size ≤ W.heap.size := by have := hi.size; omega
            have HI := hid hi
            clear hx hp3 hi
            have hcx := cell_sky fsW.sky x hp2
            have hca := cell_sky fsW.sky a ha
            have hcb := cell_sky fsW.sky b hb
            have hcX := bX.cell
            have hcA := fsW.bA.cell
            have hcB := fsW.bB.cell
            by_cases hsk : h x = h a ∨ h x = h b
            · have hflx : ((if h x = h a ∨ h x = h b then [] else (bitsL fun y => h y == h x && nxt y b && y != a && y != b && y != x).map fun y => (4, x, y)) : List Tie3) = [] := if_pos hsk
              have hSt : St 53 45 g (g + 1 + 1 + 1) (g + 1 + 1 + 1 + 1 + 1) b4 w V ((tie1 h a b ++ tie2a h a b ++ tie2b h a b ++ tie3 h a b) ++ (pre ++ [x]).flatMap fun x => (if h x = h a ∨ h x = h b then [] else (bitsL fun y => h y == h x && nxt y b && y != a && y != b && y != x).map fun y => (4, x, y))) W := by
                rw [flat_snoc, hflx, List.append_nil]
                exact HI.out
              have HSt := hid hSt
              clear HI hSt hflx HMW
              by_cases hxa : h x = h a
              · have e1 : (((h x : Nat) : Int) == ((h a : Nat) : Int)) = true := by rw [hxa]; simp
                gi_wp2_with fail
                exact ⟨KeepsFrom.refl _ _, KeptB.refl _ _, HSt.out⟩
              · have e1 : (((h x : Nat) : Int) == ((h a : Nat) : Int)) = false := by simp; omega
                have e2 : (((h x : Nat) : Int) == ((h b : Nat) : Int)) = true := by rw [hsk.resolve_left hxa]; simp
                gi_wp2_with fail
                exact ⟨KeepsFrom.refl _ _, KeptB.refl _ _, HSt.out⟩
            · have hflx : ((if h x = h a ∨ h x = h b then [] else (bitsL fun y => h y == h x && nxt y b && y != a && y != b && y != x).map fun y => (4, x, y)) : List Tie3) = (bitsL fun y => h y == h x && nxt y b && y != a && y != b && y != x).map fun y => (4, x, y) := if_neg hsk
              have e1 : (((h x : Nat) : Int) == ((h a : Nat) : Int)) = false := by simp; omega
              have e2 : (((h x : Nat) : Int) == ((h b : Nat) : Int)) = false := by simp; omega
              obtain ⟨px, hpx⟩ : ∃ z : Nat, 2 ^ x = z := ⟨_, rfl⟩
              obtain ⟨t1, ht1⟩ : ∃ z : Nat, onF h 12 (h x) = z := ⟨_, rfl⟩
              obtain ⟨t2, ht2⟩ : ∃ z : Nat, setN (fun i => nxt i b) 12 = z := ⟨_, rfl⟩
              obtain ⟨t3, ht3⟩ : ∃ z : Nat, t1 &&& t2 = z := ⟨_, rfl⟩
              obtain ⟨t4, ht4⟩ : ∃ z : Nat, t3 &&& (2 ^ 64 - (both + 1)) = z := ⟨_, rfl⟩
              obtain ⟨t5, ht5⟩ : ∃ z : Nat, t4 &&& (2 ^ 64 - (px + 1)) = z := ⟨_, rfl⟩
              have HO2 := hid (of_b h HH.out m x hp2 W HMW)
              have HR2 := hid (around_b b hb W)
              rw [ht1] at HO2
              rw [ht2] at HR2
              have q0 : px < 4096 := by rw [← hpx, setN_one x hp2]; exact setN_lt12 _
              have HFx := hid (show (2 : Int) ^ x = ((px : Nat) : Int) by rw [← hpx]; push_cast; rfl)
              have HWx := hid (wrap_natU px (by omega))
              have q1 : t1 < 4096 := by rw [← ht1]; exact onF_lt _ _
              have q2 : t2 < 4096 := by rw [← ht2]; exact setN_lt12 _
              have q3 : t3 < 4096 := by rw [← ht3]; exact Nat.lt_of_le_of_lt Nat.and_le_left q1
              have q4 : t4 < 4096 := by rw [← ht4]; exact Nat.lt_of_le_of_lt Nat.and_le_left q3
              have q5 : t5 < 4096 := by rw [← ht5]; exact Nat.lt_of_le_of_lt Nat.and_le_left q4
              have hand2 := u64_and t1 t2 (by omega) (by omega)
              have handn2 := u64_andn t3 both (by omega) (by omega)
              have handn3 := u64_andn t4 px (by omega) (by omega)
              rw [ht3] at hand2
              rw [ht4] at handn2
              rw [ht5] at handn3
              have HT5 := hid (show t5 = setN (fun y => h y == h x && nxt y b && y != a && y != b && y != x) 12 by rw [← ht5, ← ht4, ← ht3, ← ht1, ← ht2, ← HBo.out, ← hpx]; exact set_tra2 h a b x hp2)
              clear ht1 ht2 ht3 ht4 ht5 hpx HMW
              gi_wp2_with fail
              refine wpIn_quiet_tail (lets_round l) 11 (by kernel_rfl) (by kernel_rfl) (by kernel_rfl) (fun V => Below W.heap.size W V) (below_drew (Below.refl _ _)) ?_
              simp only [List.take_succ_cons, List.take_zero, List.drop_succ_cons, List.drop_zero]
              refine qvalK (.agg (sky h m)) rfl (fun W0 hW => by exact exec_ldsky rfl rfl (heap_below hW fsW.sky (heap_lt fsW.sky))) (fun K hK => ?_)
              go_simp
              refine hK _ ?_
              clear hK K
              refine qvalK (.int .i64 ((x : Nat) : Int)) rfl (fun W0 hW => by have hc := ((boxb bX hW).cell); go_simp) (fun K hK => ?_)
              go_simp
              refine hK _ ?_
              clear hK K
              refine qcallK (.int .u64 ((t1 : Nat) : Int)) 49 #[.agg (sky h m), .int .i64 ((x : Nat) : Int)] rfl (fun W => by kernel_rfl) (fun W0 hW => by exact HO2.out _ hW) (fun K hK => ?_)
              go_simp
              refine hK _ ?_
              clear hK K
              refine qvalK (.int .i64 ((b : Nat) : Int)) rfl (fun W0 hW => by have hc := ((boxb fsW.bB hW).cell); go_simp) (fun K hK => ?_)
              go_simp
              refine hK _ ?_
              clear hK K
              refine qcallK (.int .u64 ((t2 : Nat) : Int)) 74 #[.int .i64 ((b : Nat) : Int)] rfl (fun W => by kernel_rfl) (fun W0 hW => by exact HR2.out _ hW) (fun K hK => ?_)
              go_simp
              refine hK _ ?_
              clear hK K
              refine qvalK (.int .u64 ((t3 : Nat) : Int)) rfl (fun W0 hW => by go_simp <;> exact hand2) (fun K hK => ?_)
              go_simp
              refine hK _ ?_
              clear hK K
              refine qvalK (.int .u64 ((both : Nat) : Int)) rfl (fun W0 hW => by have hc := ((boxb fsW.bO hW).cell); go_simp) (fun K hK => ?_)
              go_simp
              refine hK _ ?_
              clear hK K
              refine qvalK (.int .u64 ((t4 : Nat) : Int)) rfl (fun W0 hW => by go_simp <;> exact handn2) (fun K hK => ?_)
              go_simp
              refine hK _ ?_
              clear hK K
              refine qvalK (.int .i64 ((x : Nat) : Int)) rfl (fun W0 hW => by have hc := ((boxb bX hW).cell); go_simp) (fun K hK => ?_)
              go_simp
              refine hK _ ?_
              clear hK K
              refine qvalK (.int .u64 ((px : Nat) : Int)) rfl (fun W0 hW => by have f1 := HFx.out; have w1' := HWx.out; go_simp) (fun K hK => ?_)
              go_simp
              refine hK _ ?_
              clear hK K
              refine qvalK (.int .u64 ((t5 : Nat) : Int)) rfl (fun W0 hW => by go_simp <;> exact handn3) (fun K hK => ?_)
              go_simp
              refine hK _ ?_
              clear hK K
              refine wpQuiet_nil ?_
              intro U hW
              gi_wp2_with (gi_at_call 48; refine (CallsIn.inRound l (callsIn_wide.2 (all_c _ _))).mono ?_; rintro e w' ⟨rfl, rfl⟩)
              obtain ⟨vl, v1, v2⟩ := HI.out.l
              obtain ⟨c0, hc0⟩ : ∃ z, U.heap.size = z := ⟨_, rfl⟩
              have hgW : g ≤ W.heap.size := by omega
              have T0 := (enter_all hc0 (Nat.le_trans hgW hW.size) (HI.out.below.trans (hW.mono hgW)) (boxb v1 hW) (v2.below hW) (.int .u64 ((t5 : Nat) : Int))).rebase (KeepT.below hW)
              have cx := Boxed.new U 113 (.int .u64 ((t5 : Nat) : Int))
              have hszU : (U.alloc (.cells #[.int .u64 ((t5 : Nat) : Int)] 113)).heap.size = U.heap.size + 1 := by simp
              have hr3 : (U.alloc (.cells #[.int .u64 ((t5 : Nat) : Int)] 113)).heap[l]? = some (.loop r) := (Below.heap_alloc U _ l (Nat.lt_of_lt_of_le (heap_lt hr) hW.size)).trans (heap_below hW hr (heap_lt hr))
              have hWU := hW.size
              clear v1 v2 hW HO2 HR2 hand2 handn2 handn3 hcx hca hcb hcA hcB hcX
              generalize U.alloc (.cells #[.int .u64 ((t5 : Nat) : Int)] 113) = U3 at *
              rw [hc0] at cx hszU hWU ⊢
              apply rf_inA (l₀ := l) (r₀ := r) rfl hr3 (by omega) (gf := 70) (lb := #[.pointer (some ⟨c0, 0, none⟩)]) rfl trivial (enters_of Tryd.func70 (by kernel_rfl) rfl)
                ((all1_seq (n - 1 - 1 - 1) (by omega) c0 t5 q5 U3 cx).inRound l) cx.lt (fun _ => rfl)
                (fun pre' W' => St 53 45 g (g + 1 + 1 + 1) (g + 1 + 1 + 1 + 1 + 1) c0 w W (((tie1 h a b ++ tie2a h a b ++ tie2b h a b ++ tie3 h a b) ++ pre.flatMap fun x => (if h x = h a ∨ h x = h b then [] else (bitsL fun y => h y == h x && nxt y b && y != a && y != b && y != x).map fun y => (4, x, y))) ++ pre'.map fun y => (4, x, y)) W') (St.own (by omega) (by omega) (by omega))
                (fun pre' W' v hS => hS.setB (by omega) (by omega) (by omega) (by decide) v) (fun pre' W' hS => HLB.out.below (by rw [hg]; exact hS.below)) (by simpa using T0)
              case hassign =>
                intro l2 pre' y W' K hi hK
                gi_wp2_with fail
                first | rfl | exact hK _ rfl
              case hbody =>
                rintro l2 pre' y W' hl2 hr2 hi ⟨rest', hy⟩
                try dsimp only at hi
                try dsimp only
                obtain ⟨hq1, hq2, hq3⟩ := pre_bits (p := fun y => h y == h x && nxt y b && y != a && y != b && y != x) (by rw [HT5.out]; exact bitsL_bit _) hy
                obtain ⟨v, v1, v2⟩ := hi.l
                have hcF := (fsW.keep hi.keep).bF.cell
                have hcX := (hi.keep.boxed (by omega) bX (by decide)).cell
                obtain ⟨ub, hub⟩ := hi.box
                have hlen : (((tie1 h a b ++ tie2a h a b ++ tie2b h a b ++ tie3 h a b) ++ pre.flatMap fun x => (if h x = h a ∨ h x = h b then [] else (bitsL fun y => h y == h x && nxt y b && y != a && y != b && y != x).map fun y => (4, x, y))) ++ pre'.map fun y => (4, x, y)).length < 100000 := by
                  have h7 := hlen4
                  have h8 := flat_len (fun x => (if h x = h a ∨ h x = h b then [] else (bitsL fun y => h y == h x && nxt y b && y != a && y != b && y != x).map fun y => (4, x, y))) 12 (fun x => flen4 h a b x) pre
                  rw [List.length_append, List.length_append, List.length_map]
                  omega
                have HA := hid (add_c 4 x y (by omega) (by omega) (g + 1 + 1 + 1) (g + 1 + 1 + 1 + 1 + 1) v _ hlen W' v1 (by omega) (by have := hi.keep.size; omega) v2)
                have HJ := hid hi
                have HU := hid hub
                clear hi hub v1 v2 hy hq3 hlen
                gi_wp2_with (gi_at_call 73; refine (CallsIn.inRound l2 (CallsIn.inRound l (callsIn_wide.2 HA.out))).mono ?_; rintro e W2' ⟨⟨u, rfl⟩, hl', hb', hk'⟩)
                exact ⟨hk'.from (by omega), hk'.keptB (by omega) HU.out (by decide), HJ.out.add (by omega) (by decide) (by omega) (by rw [list_snoc]; exact hl') hb' hk'⟩
              case hdone =>
                rintro W' hi
                try dsimp only at hi
                gi_wp2_with fail
                obtain ⟨ub, hub⟩ := HI.out.box
                refine ⟨hi.keep.from (by omega), hi.keep.keptB (by omega) hub (by decide), ?_⟩
                rw [HT5.out, bitsL_bit] at hi
                have h6 := HI.out.outer hi (by omega) (by decide)
                rw [flat_snoc, hflx]
                exact h6
          case hdone =>
            rintro D4 W6 hD4 hi mk4
            try dsimp only at hi
            have fs5 := fsv.keep hi.keep
            have hB5 := hi.below
            have hL5 : ∃ v, Boxed W6 (g + 1 + 1 + 1) 45 v ∧ Trs 53 W6 (g + 1 + 1 + 1 + 1 + 1) v (tiesL h a b) := by
              have h9 := hi.l
              rw [HS5.out, bitsL_bit] at h9
              exact h9
            have hlen5 : (tiesL h a b).length < 100000 := by
              have h9 := len_bits fun x => nxt x a && x != a && x != b
              have h7 := flat_len (fun x => (if h x = h a ∨ h x = h b then [] else (bitsL fun y => h y == h x && nxt y b && y != a && y != b && y != x).map fun y => (4, x, y))) 12 (fun x => flen4 h a b x) (bitsL fun x => nxt x a && x != a && x != b)
              have h8 := hlen4
              show ((tie1 h a b ++ tie2a h a b ++ tie2b h a b ++ tie3 h a b) ++ List.flatMap _ _).length < _
              rw [List.length_append]
              omega
            have hDD14 : D1 < D4 := by have := heap_lt mk1'; omega
            have mk1 := mark_keep mk1' hi.keep (by omega)
            clear mk1'
            have hDD24 : D2 < D4 := by have := heap_lt mk2'; omega
            have mk2 := mark_keep mk2' hi.keep (by omega)
            clear mk2'
            have hDD34 : D3 < D4 := by have := heap_lt mk3'; omega
            have mk3 := mark_keep mk3' hi.keep (by omega)
            clear mk3'
            obtain ⟨v5, v1, v2⟩ := hL5
            have HSO := hid (sortT_c (tiesL h a b) (g + 1 + 1 + 1 + 1 + 1) v5 W6 v2 hlen5)
            have hne := v1.not_row (by decide) v2
            obtain ⟨q5, c5, ev5⟩ := v2.form
            have hcL := v1.cell
            have HV1 := hid v1
            have HV2 := hid v2
            clear hi S0 bx fsv HS5 hsz hlen4 vl v1 v2 fs5
            generalize (tiesL h a b).length = n5 at ev5
            subst ev5
            gi_wp2_with (gi_at_call 75; refine (callsIn_wide.2 HSO.out).mono ?_; rintro e W7 ⟨⟨u, rfl⟩, hR7, hg7⟩; have b7 := HV1.out.kept hg7 hne; have hc7 := b7.cell; have hf7 := b7.frozen)
            have hk7 := KeepT.grown (bl := (g + 1 + 1 + 1)) hg7 HV2.out
            have e8 := set_same b7
            have hB7 := (hB5.grown hg7 (by rw [← hg]; exact hB5.size) (fun j e => by have := (World.ownsRow.lt HV2.out j e).1; omega)).setCell (p := ⟨g + 1 + 1 + 1, 0, none⟩) (by simp; omega) (.slice q5 n5 c5)
            refine leaves_marks g [D4, D3, D2, D1] _ (by simp; omega) (fun D hD => ?_) (fun W' hb' hc' => ?_)
            · simp only [List.mem_cons, List.not_mem_nil, or_false] at hD
              rcases hD with rfl | rfl | rfl | rfl
              · exact ⟨(e8 _).trans (mark_keep mk4 hk7 (by omega)), by omega⟩
              · exact ⟨(e8 _).trans (mark_keep mk3 hk7 (by omega)), by omega⟩
              · exact ⟨(e8 _).trans (mark_keep mk2 hk7 (by omega)), by omega⟩
              · exact ⟨(e8 _).trans (mark_keep mk1 hk7 (by omega)), by omega⟩
            · have b8 : Boxed W' (g + 1 + 1 + 1) 45 (.slice q5 n5 c5) := hc' _ _ ((e8 _).trans b7) rfl
              refine ⟨.slice q5 n5 c5, results_slot rfl _ _ (g + 1 + 1 + 1) _ rfl (load_ties b8), _, rfl, ?_, ?_⟩
              · rw [← sort_ties h a b ha hb hab]
                exact hR7.keep (fun b o ho hc => hc' b o ((e8 b).trans ho) hc) (Nat.le_trans (by simp) hb'.size)
              · rw [hg]
                exact hB7.trans hb'
  have hk0 : KeepT 53 (g + 1 + 1 + 1) w1 (w1.drewN nq) := ⟨rfl, rfl, rfl, Nat.le_refl _, fun _ _ h _ _ => h⟩
  have hBw : Below g w (w1.drewN nq) := below_drewN HT.out.below nq
  have hbL : Boxed (w1.drewN nq) (g + 1 + 1 + 1) 45 (.slice none 0 0) := HT.out.bL
  have hszw : (w1.drewN nq).heap.size = g + 1 + 1 + 1 + 1 + 1 := HT.out.size
  have hbF : (w1.drewN nq).cell? ⟨g + 1 + 1 + 1 + 1, 0, none⟩ = some (.func (.func 73) #[] #[.pointer (some ⟨g + 1 + 1 + 1, 0, none⟩)]) := HT.out.bF.cell
  have hcA' : (w1.drewN nq).cell? ⟨g + 1, 0, none⟩ = some (.int .i64 ((a : Nat) : Int)) := HT.out.bA.cell
  have hcB' : (w1.drewN nq).cell? ⟨g + 1 + 1, 0, none⟩ = some (.int .i64 ((b : Nat) : Int)) := HT.out.bB.cell
  have HKEY := hid key
  clear key hcA hcB hca hcb hK1
  generalize w1.drewN nq = w2 at *
  by_cases he : h a = h b
  · have hbq : (((h a : Nat) : Int) == ((h b : Nat) : Int)) = true := by rw [he]; simp
    have e1 : tie1 h a b = [] ++ [(1, a, b)] := by unfold tie1; rw [if_pos he]; rfl
    have HA := hid (add_c 1 a b (by omega) (by omega) (g + 1 + 1 + 1) (g + 1 + 1 + 1 + 1 + 1) (.slice none 0 0) [] (by simp) w2 hbL (by omega) (by omega) (Trs.nil _ _ _))
    clear he
    gi_wp2_with (gi_at_call 73; refine (callsIn_wide.2 HA.out).mono ?_; rintro e W' ⟨⟨u, rfl⟩, hl', hb', hk'⟩)
    exact HKEY.out _ _ _ _ _ _ (hk0.trans hk') (by rw [e1]; exact hl') (hBw.trans (hb'.mono (by omega)))
  · have hbq : (((h a : Nat) : Int) == ((h b : Nat) : Int)) = false := by simp; omega
    have e1 : tie1 h a b = [] := by unfold tie1; rw [if_neg he]
    gi_wp2_with fail
    exact HKEY.out _ _ _ _ _ _ hk0 (by rw [e1]; exact ⟨_, hbL, Trs.nil _ _ _⟩) hBw
end Go.Proofs.YtcdbkgpgjjeoiaaDoor
