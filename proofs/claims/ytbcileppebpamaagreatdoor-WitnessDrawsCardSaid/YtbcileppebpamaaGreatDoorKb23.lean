/- Lemmas for WitnessDraws: part 23. -/
import Derived.Great.BuildSlice
import Derived.Test.YtbcileppebpamaaGreatDoorKb08
import Derived.Test.YtbcileppebpamaaGreatDoorKb22
set_option linter.unusedSimpArgs false
set_option linter.unusedVariables false
namespace Go.Proofs.YtbcileppebpamaaGreatDoor
open Go Go.RowKit Go.Shelf
set_option maxRecDepth 100000
/-- What an audit returns. -/
def AudR (w' : World) (B : Nat) (l : List UInt8) (e : Ending) : Prop :=
  match auditL l with
  | (none, k, er) => e = .returned (.tuple #[.agg repZ, .int .i64 ((k : Nat) : Int), .int .i64 er])
  | (some (b, n, ls), _, _) => ∃ u, e = .returned (.tuple #[.agg (repV b n (overL n ls) (repN b n ls) u), .int .i64 0, .int .i64 0]) ∧ DvO w' B u (devL ls n)
/-- Where an audit stands behind some lines. -/
def AudI (w : World) (g : Nat) (pre : List (List UInt8)) (V : World) : Prop := ∃ st, goodT none pre = some st ∧ RdAt V (g + 5) (g + 3) st ∧ Aud w V g repZ ((pre.length : Nat) : Int) 0
/-- .. and how it is left. -/
def AudX (w : World) (g : Nat) (l : List UInt8) (c : Code) (V : World) : Prop := c = .ret ∧ ∃ (k : Nat) (er : Int), er ≠ 0 ∧ (audT none 0 (linesL l)).2 = (k, er) ∧ Aud w V g repZ ((k : Nat) : Int) er
theorem AudI.abd (B : Nat) (w : World) (g : Nat) (hw : g ≤ w.heap.size) (hB : g ≤ B) (pre : List (List UInt8)) : Abd B (AudI w g pre) :=
  Abd.ex fun st => (Abd.pure _ _).and ((RdAt.abd _ _ _ _).and (Aud.abd _ _ _ _ _ _ hw hB))
theorem AudX.abd (B : Nat) (w : World) (g : Nat) (hw : g ≤ w.heap.size) (hB : g ≤ B) (l : List UInt8) (c : Code) : Abd B (AudX w g l c) :=
  (Abd.pure _ _).and (Abd.ex fun k => Abd.ex fun er => (Abd.pure _ _).and ((Abd.pure _ _).and (Aud.abd _ _ _ _ _ _ hw hB)))
theorem AudI.setK {w : World} {g : Nat} {pre : List (List UInt8)} {V : World} (h : AudI w g pre V) (v : Value) : AudI w g pre (V.setCell ⟨g + 4, 0, none⟩ v) := by
  obtain ⟨st, h1, h2, h3⟩ := h
  exact ⟨st, h1, h2.setLow (by omega) (by omega), h3.set (by omega)⟩
theorem aud_next {l : List UInt8} {pre : List (List UInt8)} {x : List UInt8} {st : Option St} (hg : goodT none pre = some st) (hx : ∃ rest, linesL l = pre ++ x :: rest) : ((lineT st x).2 = 0 → goodT none (pre ++ [x]) = some (lineT st x).1) ∧ ((lineT st x).2 ≠ 0 → (audT none 0 (linesL l)).2 = (pre.length + 1, (lineT st x).2)) := by
  obtain ⟨rest, hr⟩ := hx
  constructor
  · intro h
    rw [goodT_snoc, hg]
    simp [h]
  · intro h
    rw [hr, audT_good _ _ _ _ 0 hg, audT, if_neg h]
    simp
theorem repZ_one : repZ.all (·.oneCell') = true := by simp [repZ, Value.oneCell']
theorem exec_ldPs {ev : Operand → Value} {o : Oper} {x : Operand} {p : Addr} {W : World} {v : Value} (ho : o.op = .load 98 x) (hx : ev x = .pointer (some p)) (hg : W.cell? p = some v) : (execOp ev o).run Tryz.prog W = .ok (.value v) W := by
  simp [execOp, ho, hx]
  go_simp
theorem exec_lenP {ev : Operand → Value} {o : Oper} {x : Operand} {p : Option Addr} {m c : Nat} {W : World} (ho : o.op = .call { callee := .builtin .len, args := #[x], argTypes := #[98] }) (hx : ev x = .slice p m c) : (execOp ev o).run Tryz.prog W = .ok (.value (.int .i64 ((m : Nat) : Int))) W := by
  simp [execOp, ho, hx]
  go_simp
theorem exec_buildR4 {ev : Operand → Value} {o : Oper} {x y z : Operand} {b n : Nat} {ov : Bool} {W : World} (ho : o.op = .build 37 #[(0, x), (1, y), (2, z), (3, .const (.int .i64 (-1)))]) (hx : ev x = .int .i64 ((b : Nat) : Int)) (hy : ev y = .int .i64 ((n : Nat) : Int)) (hz : ev z = .bool ov) (hc : ev (.const (.int .i64 (-1))) = .int .i64 (-1)) : (execOp ev o).run Tryz.prog W = .ok (.value (.agg (repV b n ov (-1) (.slice none 0 0)))) W := by
  unfold repV
  simp [execOp, ho, hx, hy, hz, hc]
  go_simp
theorem DrawAt.keepB {V V' : World} {B b q : Nat} {D : DS} (h : DrawAt V B b q D) (hk : ∀ j, B ≤ j → V'.heap[j]? = V.heap[j]?) (hb : B ≤ b) (hq : B ≤ q) : DrawAt V' B b q D := by
  obtain ⟨vl, k1, k2⟩ := h.box
  exact ⟨⟨vl, (hk b hb).trans k1, ⟨k2.1, k2.2.imp id fun ⟨g, cap, cur, h3, h4, h5, h6⟩ => ⟨g, cap, cur, h3, h4, (hk g h4).trans h5, h6⟩⟩⟩, (hk q hq).trans h.row⟩
theorem DvO.keepN {W W' : World} {B g : Nat} {v : Value} {ds : List Dv} (h : DvO W B v ds) (hk : ∀ j, j ≠ g → W'.heap[j]? = W.heap[j]?) (hB : g < B) : DvO W' B v ds :=
  ⟨h.1, h.2.imp id fun ⟨k, cap, cur, h3, h4, h5, h6⟩ => ⟨k, cap, cur, h3, h4, (hk k (by omega)).trans h5, h6⟩⟩
theorem Aud.setC {w V : World} {g : Nat} {rep : Array Value} {k er : Int} (h : Aud w V g rep k er) (i : Nat) (v : Value) (rep' : Array Value) (hr : rep.setIfInBounds i v = rep') : Aud w (V.setCell ⟨g, i, none⟩ v) g rep' k er :=
  hr ▸ ⟨heap_setCell_same V g i _ _ v h.r, (heap_setCell_other V ⟨g, i, none⟩ (g + 1) v (show g + 1 ≠ g by omega)).trans h.l, (heap_setCell_other V ⟨g, i, none⟩ (g + 2) v (show g + 2 ≠ g by omega)).trans h.e, h.b.setCell (p := ⟨g, i, none⟩) (Nat.le_refl g) _, by simpa using h.s⟩
theorem setC_other {V : World} {g i : Nat} {v : Value} : ∀ j, j ≠ g → (V.setCell ⟨g, i, none⟩ v).heap[j]? = V.heap[j]? := fun j hj => heap_setCell_other V ⟨g, i, none⟩ j v hj
theorem repV_one (b n : Nat) (o : Bool) (v : Int) (p : Option Addr) (m c : Nat) : (repV b n o v (.slice p m c)).all (·.oneCell') = true := by simp [repV, Value.oneCell']
theorem alloc_at (W : World) (o : Obj) (k : Nat) : (W.alloc o).heap[k]? = if k = W.heap.size then some o else W.heap[k]? := by
  by_cases h : k = W.heap.size
  · rw [if_pos h, h]; exact heap_alloc_new W o
  · rw [if_neg h]
    rcases Nat.lt_or_ge k W.heap.size with h1 | h1
    · exact Below.heap_alloc W o _ h1
    · rw [Array.getElem?_eq_none (by simp; omega), Array.getElem?_eq_none h1]
theorem audit_start (w : World) (S : ByteArray) (g : Nat) (hg : w.heap.size = g) (W : World) (hW : W = ((((w.alloc (.cells #[.int .i64 0, .int .i64 0, .bool false, .int .i64 0, .slice none 0 0] 37)).alloc (.cells #[.int .i64 0] 3)).alloc (.cells #[.int .i64 0] 31)).alloc (.cells #[.pointer none] 89)).alloc (.cells #[.string S] 9)) :
    Aud w W g repZ 0 0 ∧ RdAt W (g + 5) (g + 3) none ∧ Boxed W (g + 4) 9 (.string S) ∧ W.heap.size = g + 5 := by
  subst hW
  subst hg
  refine ⟨⟨?_, ?_, ?_, ?_, ?_⟩, ?_, ?_, ?_⟩
  · rw [alloc_at, if_neg (by simp only [World.size_alloc]; omega), alloc_at, if_neg (by simp only [World.size_alloc]; omega), alloc_at, if_neg (by simp only [World.size_alloc]; omega), alloc_at, if_neg (by simp only [World.size_alloc]; omega), alloc_at, if_pos (by simp only [World.size_alloc])]
    rfl
  · rw [alloc_at, if_neg (by simp only [World.size_alloc]; omega), alloc_at, if_neg (by simp only [World.size_alloc]; omega), alloc_at, if_neg (by simp only [World.size_alloc]; omega), alloc_at, if_pos (by simp only [World.size_alloc])]
  · rw [alloc_at, if_neg (by simp only [World.size_alloc]; omega), alloc_at, if_neg (by simp only [World.size_alloc]; omega), alloc_at, if_pos (by simp only [World.size_alloc])]
  · exact ((((((Below.refl _ _).alloc (Nat.le_refl _) _).alloc (by simp) _).alloc (by simp; omega) _).alloc (by simp; omega) _).alloc (by simp; omega) _)
  · simp
  · unfold RdAt
    rw [alloc_at, if_neg (by simp only [World.size_alloc]; omega), alloc_at, if_pos (by simp only [World.size_alloc])]
  · unfold Boxed
    rw [alloc_at, if_pos (by simp only [World.size_alloc])]
  · simp
attribute [local go_sem] Oper.semAt_some
set_option maxHeartbeats 4000000 in
theorem audit_in (n : Nat) (hn : 4 ≤ n) (l : List UInt8) (hl : l.length ≤ 20000) (w : World) (L : LaidW w) (hm : ∃ m, w.cell? ⟨2, 0, none⟩ = some (.int .i64 m)) :
    CallsIn Fence.wide n Tryz.prog 13 #[.string ⟨l.toArray⟩] w fun e w' => AudR w' w.heap.size l e ∧ Below w.heap.size w w' := by
  have hsz : (⟨l.toArray⟩ : ByteArray).size = l.length := by show l.toArray.size = _; simp
  have hbl := linesL_mem l
  have hnl := linesL_len l
  obtain ⟨g, hg⟩ : ∃ g, w.heap.size = g := ⟨_, rfl⟩
  have hLI := fun V => Lines_c ⟨l.toArray⟩ V
  obtain ⟨S, hS⟩ : ∃ S : ByteArray, ⟨l.toArray⟩ = S := ⟨_, rfl⟩
  obtain ⟨m, hml⟩ : ∃ m, l.length = m := ⟨_, rfl⟩
  rw [hS, hml] at hsz
  rw [hml] at hl hbl hnl
  rw [hS] at hLI
  rw [hS, hg]
  have d1 : decide ((20000 : Int) < ((m : Nat) : Int)) = false := decide_eq_false (by omega)
  have d2 : ¬ 20000 < m := by omega
  have d3 : decide (20000 < m) = false := decide_eq_false d2
  have HLI := hid hLI
  have HBL := hid hbl
  have HNL := hid hnl
  have HLL := hid L
  have HMX := hid hm
  have HGW := hid hg
  have HS := hid hS
  have HML := hid hml
  clear hLI hbl hnl L hm hS hml
  refine callsIn_of_wp_marks Tryz.func13 rfl trivial ?_ rfl
  simp only [Tryz.ntmps13, List.size_toArray, List.length_cons, List.length_nil, Nat.reduceAdd, Nat.reduceSub, Array.replicate_succ, Array.replicate_zero, List.push_toArray, List.append_toArray, List.nil_append, List.cons_append]
  gi_upto_region 5 with (gi_at_call 43; refine (callsIn_wide.2 (HLI.out _)).mono ?_; rintro e w5 ⟨rfl, h5⟩; have H5 := hid h5; clear h5)
  simp only [Nat.add_assoc, Nat.reduceAdd]
  obtain ⟨hA5, hr5, hb5, hs5⟩ := audit_start w S g HGW.out w5 H5.out
  have hSQ := lines_seq (n - 1) (by omega) (g + 4) l (by have := HML.out; omega) w5 (by rw [HS.out]; exact hb5)
  have HA5 := hid hA5
  have HR5 := hid hr5
  have HS5 := hid hs5
  clear hA5 hr5 hb5 H5 HLI
  apply rw_outA (k0 := g + 4) (by have := HS5.out; omega) rfl (show 1 ≤ n by omega) (gf := 75) (lb := #[.pointer (some ⟨g + 4, 0, none⟩)]) rfl trivial (enters_of Tryz.func75 (by kernel_rfl) rfl) hSQ (fun _ => rfl)
    (fun pre V => AudI w g pre V)
    (fun c pre V => AudX w g l c V)
    (fun pre => AudI.abd _ w g (by rw [HGW.out]; exact Nat.le_refl _) (by have := HS5.out; omega) pre) (fun c pre => AudX.abd _ w g (by rw [HGW.out]; exact Nat.le_refl _) (by have := HS5.out; omega) l c) (fun pre x => Abd.pure _ _) (fun pre V v h => h.setK v) ⟨none, rfl, HR5.out, HA5.out⟩
  case hassign =>
    intro l1 pre x V K hi ho hK
    gi_wp2_with fail
    first | rfl | exact hK _ rfl
  case hbody =>
    rintro l1 pre x V hl1 hr1 ⟨st, hgd, hrd, hA⟩ hnx
    have hmem : x ∈ linesL l := by obtain ⟨rest, h⟩ := hnx; rw [h]; simp
    have hxl := HBL.out x hmem
    have hpl : pre.length ≤ 20000 := by
      obtain ⟨rest, h⟩ := hnx
      have := HNL.out
      rw [h] at this
      simp at this
      omega
    have hstl : ∀ bl n ls, st = some (bl, n, ls) → ls.length ≤ 900000 := fun bl n ls e => by
      have := goodT_len pre none st 0 (by intro _ _ _ h; cases h) hgd bl n ls e
      omega
    have han := aud_next hgd hnx
    have hpn : (pre ++ [x]).length = pre.length + 1 := by simp
    obtain ⟨k, hk⟩ : ∃ k, pre.length = k := ⟨_, rfl⟩
    obtain ⟨k1, hk1⟩ : ∃ k1, k + 1 = k1 := ⟨_, rfl⟩
    rw [hk] at hA hpl han hpn
    rw [hk1] at han hpn
    have c1 := cell_of_row _ _ 0 _ _ _ hA.l
    have f1 := frozen_of_row _ _ 0 _ _ hA.l
    have hw1 : IntKind.i64.wrap (((k : Nat) : Int) + 1) = ((k1 : Nat) : Int) := (IntWalk.i64_in _ (by omega)).trans (by omega)
    have HA := hid (hA.setL ((k1 : Nat) : Int))
    have HRD := hid (hrd.setLow (k := g + 1) (i := 0) (v := .int .i64 ((k1 : Nat) : Int)) (by omega) (by omega))
    have HKL := hid ((KeepsL.refl V).setCell (i := 0) (.int .i64 ((k1 : Nat) : Int)) hA.l)
    have HKS := hid ((KeptS.refl (fun k => k = g + 4) V).setCell (b := g + 1) (i := 0) (.int .i64 ((k1 : Nat) : Int)) (by omega))
    have HAN := hid han
    have HPN := hid hpn
    have HSTL := hid hstl
    have HXL := hid hxl
    clear hgd hrd hA hnx hmem hxl hpl hstl han hpn hk hk1 hSQ HA5 HR5 hr1
    gi_upto_region 7 with fail
    generalize V.setCell ⟨g + 1, 0, none⟩ (.int .i64 ((k1 : Nat) : Int)) = V1 at HA HRD HKL HKS ⊢
    clear c1 f1
    have hcut := cut_c x (by have := HXL.out; omega) V1
    by_cases hlast : x.getLast? = some 10
    · rw [if_pos hlast, decide_eq_true hlast] at hcut
      have hlt : lineT st x = readT st x.dropLast := by rw [lineT, if_pos hlast]
      rw [hlt] at HAN
      obtain ⟨y, hy⟩ : ∃ y, x.dropLast = y := ⟨_, rfl⟩
      have hyl : y.length ≤ 100000 := by rw [← hy, List.length_dropLast]; have := HXL.out; omega
      rw [hy] at hcut HAN
      have HC := hid hcut
      have HRE := hid (fun (V2 : World) (hA2 : Aud w V2 g repZ ((k1 : Nat) : Int) 0) (hrd2 : RdAt V2 (g + 5) (g + 3) st) => read_c w V2 HLL.out (HGW.out.symm ▸ hA2.b) (g + 5) (g + 3) (by have := HGW.out; omega) (by omega) hA2.s st hrd2 HSTL.out y hyl (max_below HMX.out (HGW.out.symm ▸ hA2.b)))
      obtain ⟨st2, hst2⟩ : ∃ s, (readT st y).1 = s := ⟨_, rfl⟩
      obtain ⟨er, her⟩ : ∃ s, (readT st y).2 = s := ⟨_, rfl⟩
      rw [hst2, her] at HRE HAN
      clear hcut hlast hlt hy hyl hst2 her
      by_cases hE : er = 0
      · subst hE
        gi_wp2_with (first
          | (gi_at_call 44; refine (CallsIn.inRound l1 (callsIn_wide.2 HC.out)).mono ?_; rintro e V2 ⟨rfl, hb2⟩; have HA2 := hid (HA.out.below hb2); have HRD2 := hid (HRD.out.below hb2); have HKL2 := hid (HKL.out.to hb2); have HKS2 := hid (HKS.out.to hb2); clear hb2)
          | (gi_at_call 45; refine (CallsIn.inRound l1 (callsIn_wide.2 (HRE.out _ HA2.out HRD2.out))).mono ?_; rintro e V3 ⟨rfl, ho3, hrd3⟩; have HRD3 := hid hrd3; have HO3 := hid ho3; clear ho3 hrd3))
        obtain ⟨pv, hz⟩ := HRD2.out.box
        exact ⟨HKL2.out.trans (HO3.out.keepsL hz), HKS2.out.trans (HO3.out.keptS (by omega) (by omega) hz), st2, HAN.out.1 (by first | rfl | trivial), HRD3.out, by rw [HPN.out]; exact HA2.out.onlyR HO3.out⟩
      · have e1 : (er != 0) = true := by simp [hE]
        have e2 : (er == 0) = false := by simp [hE]
        have HER := hid hE
        clear hE
        gi_upto_region 12 with (first
          | (gi_at_call 44; refine (CallsIn.inRound l1 (callsIn_wide.2 HC.out)).mono ?_; rintro e V2 ⟨rfl, hb2⟩; have HA2 := hid (HA.out.below hb2); have HRD2 := hid (HRD.out.below hb2); have HKL2 := hid (HKL.out.to hb2); clear hb2)
          | (gi_at_call 45; refine (CallsIn.inRound l1 (callsIn_wide.2 (HRE.out _ HA2.out HRD2.out))).mono ?_; rintro e V3 ⟨rfl, ho3, hrd3⟩; have HO3 := hid ho3; clear ho3 hrd3))
        obtain ⟨pv, hz⟩ := HRD2.out.box
        have hA3 := HA2.out.onlyR HO3.out
        have hKL3 := HKL2.out.trans (HO3.out.keepsL hz)
        clear hz
        refine regD_in (lets_round l1) (fun V => ∃ ee, Aud w V g repZ ((k1 : Nat) : Int) ee) (fun _ => true) (by kernel_rfl) (by kernel_rfl) ?_
        have hbd : Below V3.heap.size V3 V3.drew := below_drewN (Below.refl _ _) 1
        have hA4 := hA3.below hbd
        have hKL4 := hKL3.to hbd
        clear hA3 hKL3 hbd
        generalize V3.drew = U at hA4 hKL4 ⊢
        have hS : ∃ ee, Aud w U g repZ ((k1 : Nat) : Int) ee := ⟨_, hA4⟩
        refine takeE (i := 0) (.agg repZ) (d := some 34) rfl (by kernel_rfl) (by kernel_rfl) (by kernel_rfl) (by kernel_rfl) (fun _ _ _ h => h) rfl (fun W hSw => by obtain ⟨ee, h⟩ := hSw; exact exec_ldRep rfl rfl h.r rfl) (hS) rfl ?_
        simp only [Act.put, List.setIfInBounds_toArray, List.set_cons_zero, List.set_cons_succ]
        refine takeE (i := 1) (.int .i64 ((k1 : Nat) : Int)) (d := some 35) rfl (by kernel_rfl) (by kernel_rfl) (by kernel_rfl) (by kernel_rfl) (fun _ _ _ h => h) rfl (fun W hSw => by obtain ⟨ee, h⟩ := hSw; exact exec_ldcellB rfl rfl (cell_of_row _ _ 0 _ _ _ h.l)) (hS) rfl ?_
        simp only [Act.put, List.setIfInBounds_toArray, List.set_cons_zero, List.set_cons_succ]
        refine takeE (i := 2) (.int .i64 er) (d := some 36) rfl (by kernel_rfl) (by kernel_rfl) (by kernel_rfl) (by kernel_rfl) (fun _ _ _ h => h) rfl (fun W hSw => by exact exec_mv rfl rfl) (hS) rfl ?_
        simp only [Act.put, List.setIfInBounds_toArray, List.set_cons_zero, List.set_cons_succ]
        refine stepD 3 (by kernel_rfl) rfl rfl (fun K hK => ?_)
        refine wp_store_row 37 (.tmp 2) (.tmp 34) rfl g repZ rfl rfl _ repZ hA4.r (by kernel_rfl) rfl repZ_one ?_
        rw [setRow_self hA4.r]
        refine hK _ _ (fun _ => hS) ?_
        clear hK K
        have c1 := cell_of_row _ _ 0 _ _ _ hA4.l
        have f1 := frozen_of_row _ _ 0 _ _ hA4.l
        refine stepD 4 (by kernel_rfl) rfl rfl (fun K hK => ?_)
        go_simp
        refine hK _ _ (fun _ => ⟨_, hA4.setL _⟩) ?_
        clear hK K c1 f1
        have hA5 := hA4.setL ((k1 : Nat) : Int)
        have hKL5 := hKL4.setCell (i := 0) (.int .i64 ((k1 : Nat) : Int)) hA4.l
        clear hA4 hKL4 hS
        generalize U.setCell ⟨g + 1, 0, none⟩ (.int .i64 ((k1 : Nat) : Int)) = U1 at hA5 hKL5 ⊢
        have c2 := cell_of_row _ _ 0 _ _ _ hA5.e
        have f2 := frozen_of_row _ _ 0 _ _ hA5.e
        refine stepD 5 (by kernel_rfl) rfl rfl (fun K hK => ?_)
        go_simp
        refine hK _ _ (fun _ => ⟨_, hA5.setE _⟩) ?_
        clear hK K c2 f2
        have hA4 := hA5.setE er
        have hKL4 := hKL5.setCell (i := 0) (.int .i64 er) hA5.e
        clear hA5 hKL5
        generalize U1.setCell ⟨g + 2, 0, none⟩ (.int .i64 er) = U2 at hA4 hKL4 ⊢
        refine doneD (by kernel_rfl) ?_ _
        refine OnlyNorm.normal ?_
        rename_i K hK
        change K _ _
        refine hK _ _ ?_
        clear hK K
        gi_wp2_with fail
        exact ⟨hKL4.r l1, rfl, k1, er, HER.out, HAN.out.2 HER.out, hA4⟩
    · rw [if_neg hlast, decide_eq_false hlast] at hcut
      have hlt : lineT st x = (st, 4) := by rw [lineT, if_neg hlast]
      rw [hlt] at HAN
      have HC := hid hcut
      clear hcut hlast hlt
      gi_upto_region 9 with (gi_at_call 44; refine (CallsIn.inRound l1 (callsIn_wide.2 HC.out)).mono ?_; rintro e V2 ⟨rfl, hb2⟩; have HA2 := hid (HA.out.below hb2); have HKL2 := hid (HKL.out.to hb2); clear hb2)
      have hA3 := HA2.out
      have hKL3 := HKL2.out
      refine regD_in (lets_round l1) (fun V => ∃ ee, Aud w V g repZ ((k1 : Nat) : Int) ee) (fun _ => true) (by kernel_rfl) (by kernel_rfl) ?_
      have hbd : Below V2.heap.size V2 V2.drew := below_drewN (Below.refl _ _) 1
      have hA4 := hA3.below hbd
      have hKL4 := hKL3.to hbd
      clear hA3 hKL3 hbd
      generalize V2.drew = U at hA4 hKL4 ⊢
      have hS : ∃ ee, Aud w U g repZ ((k1 : Nat) : Int) ee := ⟨_, hA4⟩
      refine takeE (i := 0) (.agg repZ) (d := some 28) rfl (by kernel_rfl) (by kernel_rfl) (by kernel_rfl) (by kernel_rfl) (fun _ _ _ h => h) rfl (fun W hSw => by obtain ⟨ee, h⟩ := hSw; exact exec_ldRep rfl rfl h.r rfl) (hS) rfl ?_
      simp only [Act.put, List.setIfInBounds_toArray, List.set_cons_zero, List.set_cons_succ]
      refine takeE (i := 1) (.int .i64 ((k1 : Nat) : Int)) (d := some 29) rfl (by kernel_rfl) (by kernel_rfl) (by kernel_rfl) (by kernel_rfl) (fun _ _ _ h => h) rfl (fun W hSw => by obtain ⟨ee, h⟩ := hSw; exact exec_ldcellB rfl rfl (cell_of_row _ _ 0 _ _ _ h.l)) (hS) rfl ?_
      simp only [Act.put, List.setIfInBounds_toArray, List.set_cons_zero, List.set_cons_succ]
      refine stepD 2 (by kernel_rfl) rfl rfl (fun K hK => ?_)
      refine wp_store_row 37 (.tmp 2) (.tmp 28) rfl g repZ rfl rfl _ repZ hA4.r (by kernel_rfl) rfl repZ_one ?_
      rw [setRow_self hA4.r]
      refine hK _ _ (fun _ => hS) ?_
      clear hK K
      have c1 := cell_of_row _ _ 0 _ _ _ hA4.l
      have f1 := frozen_of_row _ _ 0 _ _ hA4.l
      refine stepD 3 (by kernel_rfl) rfl rfl (fun K hK => ?_)
      go_simp
      refine hK _ _ (fun _ => ⟨_, hA4.setL _⟩) ?_
      clear hK K c1 f1
      have hA5 := hA4.setL ((k1 : Nat) : Int)
      have hKL5 := hKL4.setCell (i := 0) (.int .i64 ((k1 : Nat) : Int)) hA4.l
      clear hA4 hKL4 hS
      generalize U.setCell ⟨g + 1, 0, none⟩ (.int .i64 ((k1 : Nat) : Int)) = U1 at hA5 hKL5 ⊢
      have c2 := cell_of_row _ _ 0 _ _ _ hA5.e
      have f2 := frozen_of_row _ _ 0 _ _ hA5.e
      refine stepD 4 (by kernel_rfl) rfl rfl (fun K hK => ?_)
      go_simp
      refine hK _ _ (fun _ => ⟨_, hA5.setE _⟩) ?_
      clear hK K c2 f2
      have hA4 := hA5.setE 4
      have hKL4 := hKL5.setCell (i := 0) (.int .i64 4) hA5.e
      clear hA5 hKL5
      generalize U1.setCell ⟨g + 2, 0, none⟩ (.int .i64 4) = U2 at hA4 hKL4 ⊢
      refine doneD (by kernel_rfl) ?_ _
      refine OnlyNorm.normal ?_
      rename_i K hK
      change K _ _
      refine hK _ _ ?_
      clear hK K
      gi_wp2_with fail
      exact ⟨hKL4.r l1, rfl, k1, 4, by decide, HAN.out.2 (by show ¬ (4 : Int) = 0; decide), hA4⟩
  case hdone =>
    rintro M xs V hM rfl ⟨st, hgd, hrd, hA⟩ hmk
    have hau := audT_good (linesL l) [] none st 0 hgd
    rw [List.append_nil, Nat.zero_add] at hau
    change _ = (st, _, (0 : Int)) at hau
    rcases goodT_some (linesL l) none st hgd with ⟨hnil, rfl⟩ | ⟨⟨bl, n', ls⟩, rfl⟩
    · have hRR : auditL l = (none, 1, 4) := by rw [auditL, if_neg (by rw [HML.out]; exact d2), hau]; rfl
      rw [hnil] at hA
      have hA1 : Aud w V g repZ 0 0 := hA
      have c1 := cell_of_row _ _ 0 _ _ _ hA1.l
      have f1 := frozen_of_row _ _ 0 _ _ hA1.l
      have f2 := frozen_of_row _ _ 0 _ _ hA1.e
      have c2 := cell_of_row _ _ 0 _ _ _ hA1.e
      have HA1 := hid hA1
      have HMK := hid hmk
      have HRR := hid hRR
      clear hgd hrd hA hA1 hmk hau hRR hnil hSQ HA5 HR5
      gi_wp2_with (first
        | (refine wpListIn_value lets_wide rfl (by intro c hc; cases hc) (.agg repZ) (exec_ldRep rfl rfl HA1.out.r rfl) ?_)
        | (refine wpListIn_stRep lets_wide rfl (by intro c; simp) _ _ rfl g repZ repZ rfl rfl HA1.out.r rfl rfl repZ_one ?_; rw [setRow_self HA1.out.r]))
      refine leaves_marks g [M] _ (by simp) (fun M' hM' => ?_) (fun W' hb' hc' => ?_)
      · obtain rfl : M' = M := by simpa using hM'
        have h5 := HS5.out
        exact ⟨(heap_setCell_other _ ⟨g + 2, 0, none⟩ M' _ (show M' ≠ g + 2 by omega)).trans ((heap_setCell_other V ⟨g + 1, 0, none⟩ M' _ (show M' ≠ g + 1 by omega)).trans HMK.out), by omega⟩
      · have hA9 := (HA1.out.setL 1).setE 4
        have hA10 : Aud w W' g repZ 1 4 := ⟨hc' _ _ hA9.r rfl, hc' _ _ hA9.l rfl, hc' _ _ hA9.e rfl, hA9.b.trans hb', Nat.le_trans hA9.s hb'.size⟩
        exact ⟨_, results_aud Tryz.results13 rfl rfl rfl hA10 rfl, by unfold AudR; rw [HRR.out]; rfl, hA10.b⟩
    · have hk0 : (linesL l).length ≠ 0 := fun e => by
        rw [List.eq_nil_of_length_eq_zero e] at hgd
        cases hgd
      have hRR : auditL l = (some (bl, n', ls), 0, 0) := by rw [auditL, if_neg (by rw [HML.out]; exact d2), hau]; rfl
      obtain ⟨k, hk⟩ : ∃ k, (linesL l).length = k := ⟨_, rfl⟩
      rw [hk] at hA hk0
      obtain ⟨⟨hbl, hn'⟩, B, b, q, D, hz, hd, hR, h1, h2, h3, h4⟩ := hrd
      obtain ⟨vl, hbx, _⟩ := hd.box
      have c1 := cell_of_row _ _ 0 _ _ _ hA.l
      have e1 : (((k : Nat) : Int) == 0) = false := by simp; omega
      have HA := hid hA
      have HZ := hid hz
      have HD := hid hd
      have HBX := hid hbx
      have HR := hid hR
      have HBN := hid (And.intro hbl (And.intro hn' (And.intro h1 (And.intro h2 (And.intro h3 h4)))))
      have HMK := hid hmk
      have HRR := hid hRR
      have HM := hid (show g + 5 ≤ M by rw [← HS5.out]; exact hM)
      obtain ⟨np, hnp⟩ : ∃ np, D.ps.length = np := ⟨_, rfl⟩
      have hnp' : np = n' := by rw [← hnp, hR.len]
      have HNP := hid (And.intro hnp hnp')
      have hov : boxV vl q D = #[vl, .int .i64 ((D.below : Nat) : Int), .slice (some ⟨q, 0, none⟩) np np, .int .i64 ((D.sl : Nat) : Int), .int .i64 ((D.op : Nat) : Int), .int .i64 ((D.cl : Nat) : Int)] := by rw [boxV, hnp]
      have HOV := hid hov
      have hbe : D.below = bl := hR.below
      have HBE := hid hbe
      clear hgd hA hmk hau hRR hk0 hk hz hd hR hbx hbl hn' h1 h2 h3 h4 hnp hnp' hov hbe hSQ HA5 HR5 hM
      gi_upto_region 15 with fail
      clear c1
      refine regD_in lets_wide (fun V => V.heap[g + 3]? = some (.cells #[.pointer (some ⟨b, 0, none⟩)] 89 (0, 0)) ∧ V.heap[b]? = some (.cells #[vl, .int .i64 ((D.below : Nat) : Int), .slice (some ⟨q, 0, none⟩) np np, .int .i64 ((D.sl : Nat) : Int), .int .i64 ((D.op : Nat) : Int), .int .i64 ((D.cl : Nat) : Int)] 100 (0, 0))) (fun _ => true) (by kernel_rfl) (by kernel_rfl) ?_
      have hbd : Below V.heap.size V V.drew := below_drewN (Below.refl _ _) 1
      have hS : V.drew.heap[g + 3]? = some (.cells #[.pointer (some ⟨b, 0, none⟩)] 89 (0, 0)) ∧ V.drew.heap[b]? = some (.cells #[vl, .int .i64 ((D.below : Nat) : Int), .slice (some ⟨q, 0, none⟩) np np, .int .i64 ((D.sl : Nat) : Int), .int .i64 ((D.op : Nat) : Int), .int .i64 ((D.cl : Nat) : Int)] 100 (0, 0)) := ⟨heap_below hbd HZ.out (heap_lt HZ.out), heap_below hbd (HOV.out ▸ HBX.out) (heap_lt HBX.out)⟩
      have hA3 := HA.out.below hbd
      have hd3 := HD.out.below hbd
      have hm3 : V.drew.heap[M]? = some (.deferred (some [])) := HMK.out
      have hs3 : B ≤ V.drew.heap.size := Nat.le_trans HBN.out.2.2.2.2.2 hbd.size
      clear hbd
      generalize V.drew = w3 at hS hA3 hd3 hm3 hs3 ⊢
      refine takeE (i := 0) (.pointer (some ⟨g + 3, 0, none⟩)) (d := some 40) rfl (by kernel_rfl) (by kernel_rfl) (by kernel_rfl) (by kernel_rfl) (fun _ _ _ h => h) rfl (fun W hSw => by exact exec_fldR rfl rfl) (hS) rfl ?_
      simp only [Act.put, List.setIfInBounds_toArray, List.set_cons_zero, List.set_cons_succ]
      refine takeE (i := 1) (.pointer (some ⟨b, 0, none⟩)) (d := some 41) rfl (by kernel_rfl) (by kernel_rfl) (by kernel_rfl) (by kernel_rfl) (fun _ _ _ h => h) rfl (fun W hSw => by exact exec_ldPD rfl rfl (cell_of_row _ _ 0 _ _ _ hSw.1)) (hS) rfl ?_
      simp only [Act.put, List.setIfInBounds_toArray, List.set_cons_zero, List.set_cons_succ]
      refine takeE (i := 2) (.pointer (some ⟨b, 0, none⟩)) (d := some 42) rfl (by kernel_rfl) (by kernel_rfl) (by kernel_rfl) (by kernel_rfl) (fun _ _ _ h => h) rfl (fun W hSw => by exact exec_nilP rfl rfl) (hS) rfl ?_
      simp only [Act.put, List.setIfInBounds_toArray, List.set_cons_zero, List.set_cons_succ]
      refine takeE (i := 3) (.pointer (some ⟨b, 1, none⟩)) (d := some 43) rfl (by kernel_rfl) (by kernel_rfl) (by kernel_rfl) (by kernel_rfl) (fun _ _ _ h => h) rfl (fun W hSw => by exact exec_fldD 1 rfl rfl (by simp)) (hS) rfl ?_
      simp only [Act.put, List.setIfInBounds_toArray, List.set_cons_zero, List.set_cons_succ]
      refine takeE (i := 4) (.int .i64 ((D.below : Nat) : Int)) (d := some 44) rfl (by kernel_rfl) (by kernel_rfl) (by kernel_rfl) (by kernel_rfl) (fun _ _ _ h => h) rfl (fun W hSw => by exact exec_ldcellB rfl rfl (cell_of_row _ _ 1 _ _ _ hSw.2)) (hS) rfl ?_
      simp only [Act.put, List.setIfInBounds_toArray, List.set_cons_zero, List.set_cons_succ]
      refine takeE (i := 5) (.pointer (some ⟨g + 3, 0, none⟩)) (d := some 45) rfl (by kernel_rfl) (by kernel_rfl) (by kernel_rfl) (by kernel_rfl) (fun _ _ _ h => h) rfl (fun W hSw => by exact exec_fldR rfl rfl) (hS) rfl ?_
      simp only [Act.put, List.setIfInBounds_toArray, List.set_cons_zero, List.set_cons_succ]
      refine takeE (i := 6) (.pointer (some ⟨b, 0, none⟩)) (d := some 46) rfl (by kernel_rfl) (by kernel_rfl) (by kernel_rfl) (by kernel_rfl) (fun _ _ _ h => h) rfl (fun W hSw => by exact exec_ldPD rfl rfl (cell_of_row _ _ 0 _ _ _ hSw.1)) (hS) rfl ?_
      simp only [Act.put, List.setIfInBounds_toArray, List.set_cons_zero, List.set_cons_succ]
      refine takeE (i := 7) (.pointer (some ⟨b, 0, none⟩)) (d := some 47) rfl (by kernel_rfl) (by kernel_rfl) (by kernel_rfl) (by kernel_rfl) (fun _ _ _ h => h) rfl (fun W hSw => by exact exec_nilP rfl rfl) (hS) rfl ?_
      simp only [Act.put, List.setIfInBounds_toArray, List.set_cons_zero, List.set_cons_succ]
      refine takeE (i := 8) (.pointer (some ⟨b, 2, none⟩)) (d := some 48) rfl (by kernel_rfl) (by kernel_rfl) (by kernel_rfl) (by kernel_rfl) (fun _ _ _ h => h) rfl (fun W hSw => by exact exec_fldD 2 rfl rfl (by simp)) (hS) rfl ?_
      simp only [Act.put, List.setIfInBounds_toArray, List.set_cons_zero, List.set_cons_succ]
      refine takeE (i := 9) (.slice (some ⟨q, 0, none⟩) np np) (d := some 49) rfl (by kernel_rfl) (by kernel_rfl) (by kernel_rfl) (by kernel_rfl) (fun _ _ _ h => h) rfl (fun W hSw => by exact exec_ldPs rfl rfl (cell_of_row _ _ 2 _ _ _ hSw.2)) (hS) rfl ?_
      simp only [Act.put, List.setIfInBounds_toArray, List.set_cons_zero, List.set_cons_succ]
      refine takeE (i := 10) (.int .i64 ((np : Nat) : Int)) (d := some 50) rfl (by kernel_rfl) (by kernel_rfl) (by kernel_rfl) (by kernel_rfl) (fun _ _ _ h => h) rfl (fun W hSw => by exact exec_lenP rfl rfl) (hS) rfl ?_
      simp only [Act.put, List.setIfInBounds_toArray, List.set_cons_zero, List.set_cons_succ]
      refine takeE (i := 11) (.pointer (some ⟨g + 3, 0, none⟩)) (d := some 51) rfl (by kernel_rfl) (by kernel_rfl) (by kernel_rfl) (by kernel_rfl) (fun _ _ _ h => h) rfl (fun W hSw => by exact exec_fldR rfl rfl) (hS) rfl ?_
      simp only [Act.put, List.setIfInBounds_toArray, List.set_cons_zero, List.set_cons_succ]
      refine takeE (i := 12) (.pointer (some ⟨b, 0, none⟩)) (d := some 52) rfl (by kernel_rfl) (by kernel_rfl) (by kernel_rfl) (by kernel_rfl) (fun _ _ _ h => h) rfl (fun W hSw => by exact exec_ldPD rfl rfl (cell_of_row _ _ 0 _ _ _ hSw.1)) (hS) rfl ?_
      simp only [Act.put, List.setIfInBounds_toArray, List.set_cons_zero, List.set_cons_succ]
      refine stepD 13 (by kernel_rfl) rfl rfl (fun K hK => ?_)
      refine wpO_call 46 #[.pointer (some ⟨b, 0, none⟩)] (exec_call1 rfl rfl rfl (by go_simp)) ((over_c B b q D w3 hd3).mono ?_)
      rintro e w4 ⟨he, mq, hw4⟩
      refine ⟨_, he, ?_⟩
      have hb4 : Below w3.heap.size w3 w4 := by rw [hw4]; exact below_drewN (Below.refl _ _) _
      have hS4 : w4.heap[g + 3]? = some (.cells #[.pointer (some ⟨b, 0, none⟩)] 89 (0, 0)) ∧ w4.heap[b]? = some (.cells #[vl, .int .i64 ((D.below : Nat) : Int), .slice (some ⟨q, 0, none⟩) np np, .int .i64 ((D.sl : Nat) : Int), .int .i64 ((D.op : Nat) : Int), .int .i64 ((D.cl : Nat) : Int)] 100 (0, 0)) := ⟨heap_below hb4 hS.1 (heap_lt hS.1), heap_below hb4 hS.2 (heap_lt hS.2)⟩
      refine hK _ _ (fun _ => hS4) ?_
      have hA4 := hA3.below hb4
      have hd4 := hd3.below hb4
      have hm4 := heap_below hb4 hm3 (heap_lt hm3)
      clear hK K he hw4 hA3 hd3 hm3 hb4 hS
      simp only [Act.put, List.setIfInBounds_toArray, List.set_cons_zero, List.set_cons_succ]
      refine stepD 14 (by kernel_rfl) rfl rfl (fun K hK => ?_)
      refine wpO_val (.agg (repV D.below np D.over (-1) (.slice none 0 0))) (exec_buildR4 rfl rfl rfl rfl rfl) ?_
      refine hK _ _ (fun _ => hS4) ?_
      clear hK K
      simp only [Act.put, List.setIfInBounds_toArray, List.set_cons_zero, List.set_cons_succ]
      refine stepD 15 (by kernel_rfl) rfl rfl (fun K hK => ?_)
      refine wp_store_row 37 (.tmp 2) (.tmp 54) rfl g (repV D.below np D.over (-1) (.slice none 0 0)) rfl rfl _ repZ hA4.r (by kernel_rfl) rfl (repV_one _ _ _ _ _ _ _) ?_
      have hne : ∀ j, j ≠ g → (w4.setRow g (repV D.below np D.over (-1) (.slice none 0 0))).heap[j]? = w4.heap[j]? := fun j hj => setRow_ne hj
      have hS5 : (w4.setRow g (repV D.below np D.over (-1) (.slice none 0 0))).heap[g + 3]? = some (.cells #[.pointer (some ⟨b, 0, none⟩)] 89 (0, 0)) ∧ (w4.setRow g (repV D.below np D.over (-1) (.slice none 0 0))).heap[b]? = some (.cells #[vl, .int .i64 ((D.below : Nat) : Int), .slice (some ⟨q, 0, none⟩) np np, .int .i64 ((D.sl : Nat) : Int), .int .i64 ((D.op : Nat) : Int), .int .i64 ((D.cl : Nat) : Int)] 100 (0, 0)) := ⟨(hne _ (by omega)).trans hS4.1, (hne _ (by have := HBN.out; omega)).trans hS4.2⟩
      refine hK _ _ (fun _ => hS5) ?_
      have hA5 := hA4.setR (rep' := repV D.below np D.over (-1) (.slice none 0 0))
      have hd5 := hd4.keepB (fun j hj => hne j (by have := HBN.out; omega)) HBN.out.2.2.2.1 HBN.out.2.2.2.2.1
      have hm5 := (hne M (by have := HM.out; omega)).trans hm4
      have hz5 := hS5.1
      clear hK K hne hS5 hS4 hA4 hd4 hm4
      generalize w4.setRow g (repV D.below np D.over (-1) (.slice none 0 0)) = w5 at hA5 hd5 hm5 hz5 ⊢
      rw [HBE.out, HNP.out.2] at hA5
      refine doneD (by kernel_rfl) ?_ _
      refine OnlyNorm.normal ?_
      rename_i K hK
      change K _ _
      refine hK _ _ ?_
      clear hK K
      obtain ⟨ov, hov⟩ : ∃ ov, D.over = ov := ⟨_, rfl⟩
      obtain ⟨vv, hvv⟩ : ∃ vv, D.val = vv := ⟨_, rfl⟩
      rw [hov] at hA5
      have HOVE := hid hov
      have HVV := hid hvv
      have HA5 := hid hA5
      have HD5 := hid hd5
      have HZ5 := hid hz5
      have HM5 := hid hm5
      have cz := cell_of_row _ _ 0 _ _ _ hz5
      have HDV := hid (Deviants_in hd5.dev (by rw [HR.out.len]; exact HBN.out.2.1.2) (Nat.le_trans (devFrom_len _ _ _) (by rw [HR.out.len]; exact HBN.out.2.1.2)))
      have HVA := hid (fun (V' : World) (hd' : DrawAt V' B b q D) => hvv ▸ Value_c hd' (by rw [HR.out.len]; exact HBN.out.2.1.2) (by rw [HBE.out]; exact HBN.out.1))
      obtain ⟨dl, hdl⟩ : ∃ dl, D.devs.length = dl := ⟨_, rfl⟩
      have HDL := hid hdl
      clear hov hvv hA5 hd5 hz5 hm5 hdl
      by_cases hv0 : D.valE = 0
      · rw [hv0] at HVA
        have HV0 := hid hv0
        clear hv0
        gi_wp2_with (first
          | (gi_at_call 24; refine (callsIn_wide.2 HDV.out).mono ?_; rintro e w6 ⟨u, rfl, hu, hb6⟩; obtain ⟨pu, cu, rfl⟩ := hu.form; rw [HDL.out] at hu ⊢; have hA6 := HA5.out.below hb6; have hd6 := HD5.out.below hb6; have hz6 := heap_below hb6 HZ5.out (heap_lt HZ5.out); have hm6 := heap_below hb6 HM5.out (heap_lt HM5.out); have f4 := frozen_of_row _ _ 4 _ _ hA6.r; have k4 := cell_of_row _ _ 4 _ _ _ hA6.r; have cz6 := cell_of_row _ _ 0 _ _ _ hz6; have hgB : g < w5.heap.size := heap_lt HA5.out.r; have HGB := hid hgB; have hA7 := hA6.setC 4 (.slice pu dl cu) (repV bl n' ov (-1) (.slice pu dl cu)) rfl; have hd7 := hd6.keepB (fun j hj => setC_other (g := g) (i := 4) (v := .slice pu dl cu) j (by have := HBN.out; omega)) HBN.out.2.2.2.1 HBN.out.2.2.2.2.1; have hz7 := (setC_other (g := g) (i := 4) (v := .slice pu dl cu) (g + 3) (by omega)).trans hz6; have hm7 := (setC_other (g := g) (i := 4) (v := .slice pu dl cu) M (by have := HM.out; omega)).trans hm6; have hu7 := hu.keepN (setC_other (g := g) (i := 4) (v := .slice pu dl cu)) hgB; have HX7 := hid (And.intro hA7 (And.intro hd7 (And.intro hz7 (And.intro hm7 hu7)))); have cz7 := cell_of_row _ _ 0 _ _ _ hz7; clear hu hb6 hA6 hd6 hz6 hm6 hA7 hd7 hz7 hm7 hu7 hgB)
          | (gi_at_call 23; refine (callsIn_wide.2 (HVA.out _ HX7.out.2.1)).mono ?_; rintro e w8 ⟨rfl, hb8⟩; have hA8 := HX7.out.1.below hb8; have hm8 := heap_below hb8 HX7.out.2.2.2.1 (heap_lt HX7.out.2.2.2.1); have hu8 := HX7.out.2.2.2.2.below hb8; have HA8 := hid hA8; have HM8 := hid hm8; have HU8 := hid hu8; have f3 := frozen_of_row _ _ 3 _ _ hA8.r; have k3 := cell_of_row _ _ 3 _ _ _ hA8.r; clear hA8 hm8 hu8 hb8)
          | (refine wpListIn_value lets_wide rfl (by intro c hc; cases hc) (.agg (repV bl n' ov vv (.slice pu dl cu))) (exec_ldRep rfl rfl (HA8.out.setC 3 (.int .i64 vv) (repV bl n' ov vv (.slice pu dl cu)) rfl).r rfl) ?_)
          | (refine wpListIn_stRep lets_wide rfl (by intro c; simp) _ _ rfl g (repV bl n' ov vv (.slice pu dl cu)) (repV bl n' ov vv (.slice pu dl cu)) rfl rfl (HA8.out.setC 3 (.int .i64 vv) (repV bl n' ov vv (.slice pu dl cu)) rfl).r rfl rfl (repV_one _ _ _ _ _ _ _) ?_; rw [setRow_self (HA8.out.setC 3 (.int .i64 vv) (repV bl n' ov vv (.slice pu dl cu)) rfl).r]; have hA9 := HA8.out.setC 3 (.int .i64 vv) (repV bl n' ov vv (.slice pu dl cu)) rfl; have hu9 := HU8.out.keepN (setC_other (g := g) (i := 3) (v := .int .i64 vv)) HGB.out; have hm9 := (setC_other (g := g) (i := 3) (v := .int .i64 vv) M (by have := HM.out; omega)).trans HM8.out; generalize w8.setCell ⟨g, 3, none⟩ (.int .i64 vv) = w9 at hA9 hu9 hm9 ⊢; have HA9 := hid hA9; have HU9 := hid hu9; have HM9 := hid hm9; have cl := cell_of_row _ _ 0 _ _ _ hA9.l; have fl := frozen_of_row _ _ 0 _ _ hA9.l; have ce := cell_of_row _ _ 0 _ _ _ hA9.e; have fe := frozen_of_row _ _ 0 _ _ hA9.e; clear hA9 hu9 hm9))
        refine leaves_marks g [M] _ (by simp) (fun M' hM' => ?_) (fun W' hb' hc' => ?_)
        · obtain rfl : M' = M := by simpa using hM'
          have h5 := HM.out
          exact ⟨(heap_setCell_other _ ⟨g + 2, 0, none⟩ M' _ (show M' ≠ g + 2 by omega)).trans ((heap_setCell_other w9 ⟨g + 1, 0, none⟩ M' _ (show M' ≠ g + 1 by omega)).trans HM9.out), by omega⟩
        · have hA10 := (HA9.out.setL 0).setE 0
          have hA11 : Aud w W' g (repV bl n' ov vv (.slice pu dl cu)) 0 0 := ⟨hc' _ _ hA10.r rfl, hc' _ _ hA10.l rfl, hc' _ _ hA10.e rfl, hA10.b.trans hb', Nat.le_trans hA10.s hb'.size⟩
          have hu10 := (HU9.out.keepN (setC_other (g := g + 1) (i := 0) (v := .int .i64 0)) (by have := HA5.out.s; omega)).keepN (setC_other (g := g + 2) (i := 0) (v := .int .i64 0)) (by have := HA5.out.s; omega)
          have hu11 : DvO W' g (.slice pu dl cu) D.devs := (show DvO _ g _ _ from ⟨hu10.1, hu10.2.imp id fun ⟨k, cap, cur, h3, h4, h5, h6⟩ => ⟨k, cap, cur, h3, by have := HA5.out.s; omega, hc' _ _ h5 rfl, h6⟩⟩)
          refine ⟨_, results_aud Tryz.results13 rfl rfl rfl hA11 rfl, ?_, hA11.b⟩
          unfold AudR
          rw [HRR.out]
          refine ⟨.slice pu dl cu, ?_, by rw [← HR.out.devs]; exact hu11⟩
          rw [← HR.out.over, HOVE.out]
          unfold repN
          rw [← HR.out.valE, ← HR.out.val (by have := HBN.out; omega), HVV.out]
          rw [if_pos HV0.out]
      · have hve : (D.valE == 0) = false := by simpa using hv0
        have HV0 := hid hv0
        clear hv0
        obtain ⟨vE, hvE⟩ : ∃ vE, D.valE = vE := ⟨_, rfl⟩
        rw [hvE] at hve HVA
        have HVE := hid hvE
        clear hvE
        gi_wp2_with (first
          | (gi_at_call 24; refine (callsIn_wide.2 HDV.out).mono ?_; rintro e w6 ⟨u, rfl, hu, hb6⟩; obtain ⟨pu, cu, rfl⟩ := hu.form; rw [HDL.out] at hu ⊢; have hA6 := HA5.out.below hb6; have hd6 := HD5.out.below hb6; have hz6 := heap_below hb6 HZ5.out (heap_lt HZ5.out); have hm6 := heap_below hb6 HM5.out (heap_lt HM5.out); have f4 := frozen_of_row _ _ 4 _ _ hA6.r; have k4 := cell_of_row _ _ 4 _ _ _ hA6.r; have cz6 := cell_of_row _ _ 0 _ _ _ hz6; have hgB : g < w5.heap.size := heap_lt HA5.out.r; have HGB := hid hgB; have hA7 := hA6.setC 4 (.slice pu dl cu) (repV bl n' ov (-1) (.slice pu dl cu)) rfl; have hd7 := hd6.keepB (fun j hj => setC_other (g := g) (i := 4) (v := .slice pu dl cu) j (by have := HBN.out; omega)) HBN.out.2.2.2.1 HBN.out.2.2.2.2.1; have hz7 := (setC_other (g := g) (i := 4) (v := .slice pu dl cu) (g + 3) (by omega)).trans hz6; have hm7 := (setC_other (g := g) (i := 4) (v := .slice pu dl cu) M (by have := HM.out; omega)).trans hm6; have hu7 := hu.keepN (setC_other (g := g) (i := 4) (v := .slice pu dl cu)) hgB; have HX7 := hid (And.intro hA7 (And.intro hd7 (And.intro hz7 (And.intro hm7 hu7)))); have cz7 := cell_of_row _ _ 0 _ _ _ hz7; clear hu hb6 hA6 hd6 hz6 hm6 hA7 hd7 hz7 hm7 hu7 hgB)
          | (gi_at_call 23; refine (callsIn_wide.2 (HVA.out _ HX7.out.2.1)).mono ?_; rintro e w8 ⟨rfl, hb8⟩; have hA8 := HX7.out.1.below hb8; have hm8 := heap_below hb8 HX7.out.2.2.2.1 (heap_lt HX7.out.2.2.2.1); have hu8 := HX7.out.2.2.2.2.below hb8; have HA8 := hid hA8; have HM8 := hid hm8; have HU8 := hid hu8; have f3 := frozen_of_row _ _ 3 _ _ hA8.r; have k3 := cell_of_row _ _ 3 _ _ _ hA8.r; clear hA8 hm8 hu8 hb8)
          | (refine wpListIn_value lets_wide rfl (by intro c hc; cases hc) (.agg (repV bl n' ov (-1) (.slice pu dl cu))) (exec_ldRep rfl rfl HA8.out.r rfl) ?_)
          | (refine wpListIn_stRep lets_wide rfl (by intro c; simp) _ _ rfl g (repV bl n' ov (-1) (.slice pu dl cu)) (repV bl n' ov (-1) (.slice pu dl cu)) rfl rfl HA8.out.r rfl rfl (repV_one _ _ _ _ _ _ _) ?_; rw [setRow_self HA8.out.r]; have cl := cell_of_row _ _ 0 _ _ _ HA8.out.l; have fl := frozen_of_row _ _ 0 _ _ HA8.out.l; have ce := cell_of_row _ _ 0 _ _ _ HA8.out.e; have fe := frozen_of_row _ _ 0 _ _ HA8.out.e))
        refine leaves_marks g [M] _ (by simp) (fun M' hM' => ?_) (fun W' hb' hc' => ?_)
        · obtain rfl : M' = M := by simpa using hM'
          have h5 := HM.out
          exact ⟨(heap_setCell_other _ ⟨g + 2, 0, none⟩ M' _ (show M' ≠ g + 2 by omega)).trans ((heap_setCell_other w8 ⟨g + 1, 0, none⟩ M' _ (show M' ≠ g + 1 by omega)).trans HM8.out), by omega⟩
        · have hA10 := (HA8.out.setL 0).setE 0
          have hA11 : Aud w W' g (repV bl n' ov (-1) (.slice pu dl cu)) 0 0 := ⟨hc' _ _ hA10.r rfl, hc' _ _ hA10.l rfl, hc' _ _ hA10.e rfl, hA10.b.trans hb', Nat.le_trans hA10.s hb'.size⟩
          have hu10 := (HU8.out.keepN (setC_other (g := g + 1) (i := 0) (v := .int .i64 0)) (by have := HA5.out.s; omega)).keepN (setC_other (g := g + 2) (i := 0) (v := .int .i64 0)) (by have := HA5.out.s; omega)
          have hu11 : DvO W' g (.slice pu dl cu) D.devs := (show DvO _ g _ _ from ⟨hu10.1, hu10.2.imp id fun ⟨k, cap, cur, h3, h4, h5, h6⟩ => ⟨k, cap, cur, h3, by have := HA5.out.s; omega, hc' _ _ h5 rfl, h6⟩⟩)
          refine ⟨_, results_aud Tryz.results13 rfl rfl rfl hA11 rfl, ?_, hA11.b⟩
          unfold AudR
          rw [HRR.out]
          refine ⟨.slice pu dl cu, ?_, by rw [← HR.out.devs]; exact hu11⟩
          rw [← HR.out.over, HOVE.out]
          unfold repN
          rw [← HR.out.valE, ← HR.out.val (by have := HBN.out; omega), HVV.out]
          rw [if_neg HV0.out]
  case hstop =>
    rintro M c pre V hM ⟨rfl, k, er, her, hau, hA⟩ hmk
    have hRR : auditL l = (none, k, er) := by rw [auditL, if_neg (by rw [HML.out]; exact d2), hau, if_neg her]
    have HA := hid hA
    have HRR := hid hRR
    have HMK := hid hmk
    clear hau hA hRR hmk her hSQ HA5 HR5
    gi_wp2_with fail
    refine leaves_marks g [M] _ (by simp) (fun M' hM' => ?_) (fun W' hb' hc' => ?_)
    · obtain rfl : M' = M := by simpa using hM'
      exact ⟨HMK.out, by have := HS5.out; omega⟩
    · have hA9 := HA.out
      have hA10 : Aud w W' g repZ ((k : Nat) : Int) er := ⟨hc' _ _ hA9.r rfl, hc' _ _ hA9.l rfl, hc' _ _ hA9.e rfl, hA9.b.trans hb', Nat.le_trans hA9.s hb'.size⟩
      exact ⟨_, results_aud Tryz.results13 rfl rfl rfl hA10 rfl, by unfold AudR; rw [HRR.out], hA10.b⟩
theorem results_aud3 {fn : Func} {r q s : Tmp} (h : fn.results = #[.cell r 37, .cell q 3, .cell s 31]) {tmps : Array Value} {W : World} {g : Nat} {rep : Array Value} {k er : Int} (hr : tmps.getD r undef = .pointer (some ⟨g, 0, none⟩)) (hq : tmps.getD q undef = .pointer (some ⟨g + 1, 0, none⟩)) (hs : tmps.getD s undef = .pointer (some ⟨g + 2, 0, none⟩)) (h0 : W.heap[g]? = some (.cells rep 37 (0, 0))) (h1 : W.heap[g + 1]? = some (.cells #[.int .i64 k] 3 (0, 0))) (h2 : W.heap[g + 2]? = some (.cells #[.int .i64 er] 31 (0, 0))) (hc : rep.size = 5) : (results fn tmps).run Tryz.prog W = .ok (.tuple #[.agg rep, .int .i64 k, .int .i64 er]) W := by
  have hl := run_loadVar_row (P := Tryz.prog) W g 37 37 rep (0, 0) _ h0 Tryz.underlying37 rfl (by rw [hc]; kernel_rfl)
  have hr' : tmps[r]?.getD undef = .pointer (some ⟨g, 0, none⟩) := by simpa using hr
  have hq' : tmps[q]?.getD undef = .pointer (some ⟨g + 1, 0, none⟩) := by simpa using hq
  have hs' : tmps[s]?.getD undef = .pointer (some ⟨g + 2, 0, none⟩) := by simpa using hs
  have c1 := cell_of_row _ _ 0 _ _ _ h1
  have c2 := cell_of_row _ _ 0 _ _ _ h2
  simp [results, h, hr', hq', hs', asAddr, hl]
  go_simp
set_option maxHeartbeats 4000000 in
theorem audit_long (n : Nat) (l : List UInt8) (hl : 20000 < l.length) (hl2 : l.length ≤ 1000000000) (w : World) :
    CallsIn Fence.wide n Tryz.prog 13 #[.string ⟨l.toArray⟩] w fun e w' => AudR w' w.heap.size l e ∧ Below w.heap.size w w' := by
  have hRR : auditL l = (none, 0, 5) := by rw [auditL, if_pos hl]
  have hsz : (⟨l.toArray⟩ : ByteArray).size = l.length := by show l.toArray.size = _; simp
  obtain ⟨g, hg⟩ : ∃ g, w.heap.size = g := ⟨_, rfl⟩
  obtain ⟨S, hS⟩ : ∃ S : ByteArray, ⟨l.toArray⟩ = S := ⟨_, rfl⟩
  obtain ⟨m, hml⟩ : ∃ m, l.length = m := ⟨_, rfl⟩
  rw [hS, hml] at hsz
  rw [hml] at hl hl2
  rw [hS, hg]
  have d1 : decide ((20000 : Int) < ((m : Nat) : Int)) = true := decide_eq_true (by omega)
  have d2 : 20000 < m := hl
  have d3 : decide (20000 < m) = true := decide_eq_true d2
  have hx : (((w.alloc (.cells #[.int .i64 0, .int .i64 0, .bool false, .int .i64 0, .slice none 0 0] 37)).alloc (.cells #[.int .i64 0] 3)).alloc (.cells #[.int .i64 0] 31)).heap[g]? = some (.cells repZ 37 (0, 0)) := by
    rw [← hg, alloc_at, if_neg (by simp only [World.size_alloc]; omega), alloc_at, if_neg (by simp only [World.size_alloc]; omega), alloc_at, if_pos rfl]
    rfl
  have hy : (((w.alloc (.cells #[.int .i64 0, .int .i64 0, .bool false, .int .i64 0, .slice none 0 0] 37)).alloc (.cells #[.int .i64 0] 3)).alloc (.cells #[.int .i64 0] 31)).heap[g + 1]? = some (.cells #[.int .i64 0] 3 (0, 0)) := by
    rw [← hg, alloc_at, if_neg (by simp only [World.size_alloc]; omega), alloc_at, if_pos (by simp only [World.size_alloc])]
  have hz : (((w.alloc (.cells #[.int .i64 0, .int .i64 0, .bool false, .int .i64 0, .slice none 0 0] 37)).alloc (.cells #[.int .i64 0] 3)).alloc (.cells #[.int .i64 0] 31)).heap[g + 2]? = some (.cells #[.int .i64 0] 31 (0, 0)) := by
    rw [← hg, alloc_at, if_pos (by simp only [World.size_alloc])]
  have hb : Below g w (((w.alloc (.cells #[.int .i64 0, .int .i64 0, .bool false, .int .i64 0, .slice none 0 0] 37)).alloc (.cells #[.int .i64 0] 3)).alloc (.cells #[.int .i64 0] 31)) := by
    rw [← hg]
    exact ((((Below.refl _ _).alloc (Nat.le_refl _) _).alloc (by simp) _).alloc (by simp; omega) _)
  have HX := hid (And.intro hx (And.intro hy (And.intro hz hb)))
  have HRR := hid hRR
  clear hRR hS hml hx hy hz hb hl hl2
  refine callsIn_of_wp_marks Tryz.func13 rfl trivial ?_ rfl
  simp only [Tryz.ntmps13, List.size_toArray, List.length_cons, List.length_nil, Nat.reduceAdd, Nat.reduceSub, Array.replicate_succ, Array.replicate_zero, List.push_toArray, List.append_toArray, List.nil_append, List.cons_append]
  gi_upto_region 2 with fail
  generalize ((w.alloc (.cells #[.int .i64 0, .int .i64 0, .bool false, .int .i64 0, .slice none 0 0] 37)).alloc (.cells #[.int .i64 0] 3)).alloc (.cells #[.int .i64 0] 31) = V at HX ⊢
  simp only [Nat.add_assoc, Nat.reduceAdd]
  have c1 := cell_of_row _ _ 0 _ _ _ HX.out.2.1
  have f1 := frozen_of_row _ _ 0 _ _ HX.out.2.1
  have c2 := cell_of_row _ _ 0 _ _ _ HX.out.2.2.1
  have f2 := frozen_of_row _ _ 0 _ _ HX.out.2.2.1
  gi_wp2_with (first
    | (refine wpListIn_value lets_wide rfl (by intro c hc; cases hc) (.agg repZ) (exec_ldRep rfl rfl HX.out.1 rfl) ?_)
    | (refine wpListIn_stRep lets_wide rfl (by intro c; simp) _ _ rfl g repZ repZ rfl rfl HX.out.1 rfl rfl repZ_one ?_; rw [setRow_self HX.out.1]))
  refine leaves_marks g [] _ (by simp) (fun _ h => by simp at h) (fun W' hb' hc' => ?_)
  have h1 := heap_setCell_same V (g + 1) 0 _ _ (.int .i64 0) HX.out.2.1
  refine ⟨_, results_aud3 Tryz.results13 rfl rfl rfl (hc' _ _ ((heap_setCell_other _ ⟨g + 2, 0, none⟩ g _ (show g ≠ g + 2 by omega)).trans ((heap_setCell_other V ⟨g + 1, 0, none⟩ g _ (show g ≠ g + 1 by omega)).trans HX.out.1)) rfl) (hc' _ _ ((heap_setCell_other _ ⟨g + 2, 0, none⟩ (g + 1) _ (show g + 1 ≠ g + 2 by omega)).trans h1) rfl) (hc' _ _ (heap_setCell_same _ (g + 2) 0 _ _ (.int .i64 5) ((heap_setCell_other V ⟨g + 1, 0, none⟩ (g + 2) _ (show g + 2 ≠ g + 1 by omega)).trans HX.out.2.2.1)) rfl) rfl, by unfold AudR; rw [HRR.out]; rfl, ?_⟩
  exact ((HX.out.2.2.2.setCell (p := ⟨g + 1, 0, none⟩) (show g ≤ g + 1 by omega) _).setCell (p := ⟨g + 2, 0, none⟩) (show g ≤ g + 2 by omega) _).trans hb'
/-- Audit of any text. -/
theorem Audit_c (l : List UInt8) (hl : l.length ≤ 1000000000) (w : World) (L : LaidW w) (hm : ∃ m, w.cell? ⟨2, 0, none⟩ = some (.int .i64 m)) :
    Calls Tryz.prog 13 #[.string ⟨l.toArray⟩] w fun e w' => AudR w' w.heap.size l e ∧ Below w.heap.size w w' := by
  by_cases h : 20000 < l.length
  · exact callsIn_wide.1 (audit_long 4 l h hl w)
  · exact callsIn_wide.1 (audit_in 4 (Nat.le_refl _) l (by omega) w L hm)
end Go.Proofs.YtbcileppebpamaaGreatDoor
set_option linter.unusedSimpArgs false
set_option linter.unusedVariables false
namespace Go.Proofs.YtbcileppebpamaaGreatDoor
open Go Go.RowKit Go.Shelf
set_option maxRecDepth 100000
theorem StrRow.made (W : World) (B : Nat) (hB : B ≤ W.heap.size) : StrRow (W.alloc (.cells #[] 9)) B (.slice (some ⟨W.heap.size, 0, none⟩) 0 0) [] := World.ownsRow_made W #[] 0 hB (by decide) rfl
end Go.Proofs.YtbcileppebpamaaGreatDoor
set_option linter.unusedSimpArgs false
set_option linter.unusedVariables false
namespace Go.Proofs.YtbcileppebpamaaGreatDoor
open Go Go.RowKit Go.Shelf
set_option maxRecDepth 100000
theorem StrRow.at' {W : World} {B : Nat} {v : Value} {ls : List ByteArray} (h : StrRow W B v ls) (hn : 1 ≤ ls.length) : ∃ gw c cur, v = .slice (some ⟨gw, 0, none⟩) ls.length c ∧ B ≤ gw ∧ W.heap[gw]? = some (.cells cur 9 (0, 0)) ∧ ∀ (i : Nat) x, ls[i]? = some x → cur[i]? = some (.string x) := by
  rcases h.2 with ⟨_, h0⟩ | ⟨g, cap, cur, h3, h4, h5, h6, h7, h8, h9⟩
  · omega
  · refine ⟨g, cap, cur, h3, h4, h5, fun i x hx => ?_⟩
    have h10 : (cur.toList.take (ls.length * 1))[i]? = (ls.map Value.string)[i]? := by rw [h9]
    have hi := (List.getElem?_eq_some_iff.1 hx).1
    rw [List.getElem?_take, if_pos (by omega)] at h10
    rw [← Array.getElem?_toList, h10, List.getElem?_map, hx]
    rfl
def lineC (x : RL) : Array Value := #[.int .i64 x.k, .string x.h, .int .i64 x.p, .int .i64 x.v, .string x.s]
end Go.Proofs.YtbcileppebpamaaGreatDoor
set_option linter.unusedSimpArgs false
set_option linter.unusedVariables false
namespace Go.Proofs.YtbcileppebpamaaGreatDoor
open Go Go.RowKit Go.Shelf
set_option maxRecDepth 100000
/-- Add of the reference, whatever is read. -/
theorem radd_c (b n : Nat) (hb2 : b ≤ 1000000000) (hn : n ≤ 1000) (v : Value) (ls : List RL) (x : RL) (hk : x.k = 3 ∨ x.k = 1 ∨ x.k = 2) (W : World) (hr : ReadsL W v ls) (hl : ls.length ≤ 100000) (hsz : x.h.size ≤ 1000000) (hss : x.s.size ≤ 1000000) :
    Calls Tryz.prog 19 #[.agg #[.int .i64 ((b : Nat) : Int), .int .i64 ((n : Nat) : Int), v], .agg (lineC x)] W fun e w' => ∃ v', e = .returned (.tuple #[.agg #[.int .i64 ((b : Nat) : Int), .int .i64 ((n : Nat) : Int), v'], .int .i64 (addE b n ls x)]) ∧ ReadsL w' v' (addL b n ls x) ∧ Below W.heap.size W w' := by
  obtain ⟨k, hh, p, xv, s⟩ := x
  rcases hk with h | h | h
  · simp only at h; subst h
    exact radd3_c b n hb2 hn v ls hh p xv s W hr hl hsz hss
  · simp only at h; subst h
    exact radd1_c b n hb2 hn v ls hh p xv s W hr hl hsz hss
  · simp only at h; subst h
    exact radd2_c b n hb2 hn v ls hh p xv s W hr hl hsz hss
end Go.Proofs.YtbcileppebpamaaGreatDoor
set_option linter.unusedSimpArgs false
set_option linter.unusedVariables false
namespace Go.Proofs.YtbcileppebpamaaGreatDoor
open Go Go.RowKit Go.Shelf
set_option maxRecDepth 100000
theorem ReadsL.setRow3 {V : World} {z : Nat} {v : Value} {ls : List RL} {row cs : Array Value} {T : TypeId} (h : ReadsL V v ls) (hg : V.heap[z]? = some (.cells row T (0, 0))) (hr : row.size ≤ 4) : ReadsL (V.setRow z cs) v ls := by
  cases ls with
  | nil => rcases h with h | ⟨g, o, c, h1, h2, h3⟩
           · exact .inl h
           · exact .inl ⟨rfl, _, _, h1⟩
  | cons x ls =>
    rcases h with ⟨h, _⟩ | ⟨g, o, c, h1, h2, h3⟩
    · cases h
    · have hne : g ≠ z := by
        rintro rfl
        have h4 := h3 0 x rfl 4 (by omega)
        rw [cell_of_row _ _ _ _ _ _ hg, Array.getElem?_eq_none (by omega)] at h4
        cases h4
      refine .inr ⟨g, o, c, h1, ⟨by simpa [World.setRow] using h2.1, let ⟨cur, z', h6⟩ := h2.2; ⟨cur, z', by rw [setRow_ne hne]; exact h6⟩⟩, fun i y hy k hk => ?_⟩
      have h5 := h3 i y hy k hk
      rw [← h5]
      simp only [World.cell?, setRow_ne hne]
theorem alloc_row {W : World} {o : Obj} {cs old : Array Value} {T : TypeId} (ho : o = .cells old T) : ((W.alloc o).setRow W.heap.size cs).heap[W.heap.size]? = some (.cells cs T (0, 0)) ∧ Below W.heap.size W ((W.alloc o).setRow W.heap.size cs) := by
  subst ho
  exact ⟨setRow_at (heap_alloc_new W _), ((Below.refl _ _).alloc (Nat.le_refl _) _).trans (setRow_below (Nat.le_refl _))⟩
theorem draw_one (a b : Int) (p : Option Addr) (m c : Nat) : (#[.int .i64 a, .int .i64 b, .slice p m c] : Array Value).all (·.oneCell') = true := by simp [Value.oneCell']
end Go.Proofs.YtbcileppebpamaaGreatDoor
