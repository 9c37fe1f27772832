/- Lemmas for WitnessDraws: part 5. -/
import Derived.Test.YtbcileppebpamaaGreatDoorKb04
set_option linter.unusedSimpArgs false
set_option linter.unusedVariables false
namespace Go.Proofs.YtbcileppebpamaaGreatDoor
open Go Go.RowKit Go.Shelf
set_option maxRecDepth 100000
def PS.zero : PS := ⟨⟨#[]⟩, 0, 0, 0, false⟩
theorem made_ps (n : Nat) : madeCells (Value.agg #[.string ⟨#[]⟩, .int .i64 0, .int .i64 0, .int .i64 0, .bool false]).cells (n * 5) = encP (List.replicate n PS.zero) := by
  refine Array.ext (by rw [encP_size, List.length_replicate]; simp [madeCells, Nat.mul_comm]) fun j h1 h2 => ?_
  have hj : j < n * 5 := by simpa [madeCells] using h1
  obtain ⟨i, k, rfl, hk⟩ : ∃ i k, j = 5 * i + k ∧ k < 5 := ⟨j / 5, j % 5, by omega, by omega⟩
  have e : (encP (List.replicate n PS.zero))[5 * i + k]? = PS.zero.enc[k]? := encP_get _ _ _ (by rw [List.getElem?_replicate, if_pos (by omega)]) _ hk
  have e' : (madeCells (Value.agg #[.string ⟨#[]⟩, .int .i64 0, .int .i64 0, .int .i64 0, .bool false]).cells (n * 5))[5 * i + k]? = PS.zero.enc[k]? := by
    rw [show (Value.agg #[.string ⟨#[]⟩, .int .i64 0, .int .i64 0, .int .i64 0, .bool false]).cells = PS.zero.enc.toArray from rfl]
    simp only [madeCells]
    rw [Array.getElem?_map, Array.getElem?_range, if_pos hj, Option.map_some]
    rw [show (5 * i + k) % PS.zero.enc.toArray.size = k from by
      rw [show PS.zero.enc.toArray.size = 5 from rfl]
      omega]
    rcases k with _ | _ | _ | _ | _ | k <;> first | rfl | omega
  rw [← e, Array.getElem?_eq_getElem h1, Array.getElem?_eq_getElem h2] at e'
  exact Option.some.inj e'
theorem mk_ps (W : World) (n : Nat) (hn : n ≤ 100000) : (Instr.makeSlice 98 (.int .i64 ((n : Nat) : Int)) (.int .i64 ((n : Nat) : Int))).run Tryz.prog W = .ok (.slice (some ⟨W.heap.size, 0, none⟩) n n) (W.alloc (.cells (encP (List.replicate n PS.zero)) 114)) := by
  obtain ⟨i, hi⟩ := Option.isSome_iff_exists.1 (show (Tryz.prog.info? 114).isSome = true by kernel_rfl)
  have h1 : (Tryz.prog.info? 114).map (·.size) = some 5 := by kernel_rfl
  have h2 : (Tryz.prog.info? 114).map (fun i => decide (i.bytes ≤ 100)) = some true := by kernel_rfl
  have h3 : (Tryz.prog.info? 114).bind (·.zero) = some (.agg #[.string ⟨#[]⟩, .int .i64 0, .int .i64 0, .int .i64 0, .bool false]) := by kernel_rfl
  rw [hi] at h1 h2 h3
  simp only [Option.map_some, Option.some.injEq, Option.bind_some, decide_eq_true_eq] at h1 h2 h3
  have hb : (i.bytes : Int) * ((n : Nat) : Int) ≤ 281474976710656 := by
    have : i.bytes * n ≤ 100 * 100000 := Nat.mul_le_mul h2 hn
    have e : (i.bytes : Int) * ((n : Nat) : Int) = ((i.bytes * n : Nat) : Int) := by push_cast; rfl
    rw [e]
    omega
  have h := run_makeSlice (P := Tryz.prog) W 98 114 i _ Tryz.underlying98 hi h3 .i64 .i64 ((n : Nat) : Int) ((n : Nat) : Int) (by omega) (Int.le_refl _) (by rw [h1]; omega) hb (by omega)
  rw [h, h1]
  congr 2
  rw [Int.toNat_natCast, made_ps]
def wDraw : ByteArray := ⟨#[100, 114, 97, 119]⟩
def newW (b n : Nat) : List ByteArray := [wDraw, ⟨(Lib.itoa ((b : Nat) : Int)).toArray⟩, ⟨(Lib.itoa ((n : Nat) : Int)).toArray⟩]
def DS.start (b n : Nat) : DS := ⟨[⟨(lineL (newW b n)).toArray⟩], b, List.replicate n PS.zero, 0, 0, 0⟩
set_option maxHeartbeats 4000000 in
theorem New_no (b n : Int) (W : World) (h : ¬ (inR b 1 1000000000 = true ∧ inR n 1 30 = true)) :
    Calls Tryz.prog 16 #[.int .i64 b, .int .i64 n] W fun e W' => e = .returned (.tuple #[.pointer none, .int .i64 3]) ∧ W = W' := by
  have h1 := within_c b 1 1000000000 W
  have h2 := within_c n 1 30 W
  have FL := hid trivial
  cases hb : inR b 1 1000000000 with
  | false =>
    rw [show (decide ((1 : Int) ≤ b) && decide (b ≤ 1000000000)) = false from hb] at h1
    have H1 := hid h1
    clear h1 h2 hb h
    go_enter Tryz.func16, Tryz.ntmps16
    go_wp2_with (go_at_call 36; refine H1.out.mono ?_; rintro e w1 ⟨rfl, rfl⟩)
    go_ret2
    exact ⟨rfl, rfl⟩
  | true =>
    have hn : inR n 1 30 = false := Bool.eq_false_iff.2 fun e => h ⟨hb, e⟩
    rw [show (decide ((1 : Int) ≤ b) && decide (b ≤ 1000000000)) = true from hb] at h1
    rw [show (decide ((1 : Int) ≤ n) && decide (n ≤ 30)) = false from hn] at h2
    have H1 := hid h1
    have H2 := hid h2
    clear h1 h2 hb h hn
    go_enter Tryz.func16, Tryz.ntmps16
    go_wp2_with (first
      | (go_at_call 36; have hq := FL; clear hq FL; refine H1.out.mono ?_; rintro e w1 ⟨rfl, rfl⟩)
      | (go_at_call 36; refine H2.out.mono ?_; rintro e w1 ⟨rfl, rfl⟩))
    go_ret2
    exact ⟨rfl, rfl⟩
set_option maxHeartbeats 4000000 in
theorem New_c (b n : Nat) (hb : 1 ≤ b ∧ b ≤ 1000000000) (hn : 1 ≤ n ∧ n ≤ 30) (W : World) (L : LaidW W) :
    Calls Tryz.prog 16 #[.int .i64 ((b : Nat) : Int), .int .i64 ((n : Nat) : Int)] W fun e W' => e = .returned (.tuple #[.pointer (some ⟨W.heap.size + 1, 0, none⟩), .int .i64 0]) ∧ DrawAt W' W.heap.size (W.heap.size + 1) W.heap.size (DS.start b n) ∧ Below W.heap.size W W' := by
  have h1 := within_c ((b : Nat) : Int) 1 1000000000 W
  have h2 := within_c ((n : Nat) : Int) 1 30 W
  rw [show (decide ((1 : Int) ≤ ((b : Nat) : Int)) && decide (((b : Nat) : Int) ≤ 1000000000)) = true from by rw [decide_eq_true (by omega), decide_eq_true (by omega)]; rfl] at h1
  rw [show (decide ((1 : Int) ≤ ((n : Nat) : Int)) && decide (((n : Nat) : Int) ≤ 30)) = true from by rw [decide_eq_true (by omega), decide_eq_true (by omega)]; rfl] at h2
  have H1 := hid h1
  have H2 := hid h2
  have FL := hid trivial
  have HLL := hid L
  have hmk := fun V => mk_ps V n (by omega)
  clear h1 h2 L
  go_enter Tryz.func16, Tryz.ntmps16
  go_upto_region 4 with (first
    | (go_at_call 36; have hq := FL; clear hq FL; refine H1.out.mono ?_; rintro e w1 ⟨rfl, rfl⟩)
    | (go_at_call 36; refine H2.out.mono ?_; rintro e w1 ⟨rfl, rfl⟩))
  have hr0 : ((W.alloc (.cells (encP (List.replicate n PS.zero)) 114)).alloc (.cells #[.slice none 0 0, .int .i64 ((b : Nat) : Int), .slice (some ⟨W.heap.size, 0, none⟩) n n, .int .i64 0, .int .i64 0, .int .i64 0] 100)).heap[W.heap.size]? = some (.cells (encP (List.replicate n PS.zero)) 114 (0, 0)) := by
    rw [heap_alloc_old _ _ (heap_lt (heap_alloc_new W _))]
    exact heap_alloc_new W _
  have hx0 := heap_alloc_new (W.alloc (.cells (encP (List.replicate n PS.zero)) 114)) (.cells #[.slice none 0 0, .int .i64 ((b : Nat) : Int), .slice (some ⟨W.heap.size, 0, none⟩) n n, .int .i64 0, .int .i64 0, .int .i64 0] 100)
  rw [show (W.alloc (.cells (encP (List.replicate n PS.zero)) 114)).heap.size = W.heap.size + 1 from by simp] at hx0
  have hbw : Below W.heap.size W ((W.alloc (.cells (encP (List.replicate n PS.zero)) 114)).alloc (.cells #[.slice none 0 0, .int .i64 ((b : Nat) : Int), .slice (some ⟨W.heap.size, 0, none⟩) n n, .int .i64 0, .int .i64 0, .int .i64 0] 100)) := ((Below.refl _ _).alloc (Nat.le_refl _) _).alloc (by simp) _
  generalize (W.alloc (.cells (encP (List.replicate n PS.zero)) 114)).alloc (.cells #[.slice none 0 0, .int .i64 ((b : Nat) : Int), .slice (some ⟨W.heap.size, 0, none⟩) n n, .int .i64 0, .int .i64 0, .int .i64 0] 100) = Va at hr0 hx0 hbw ⊢
  have hd0 : DrawAt Va W.heap.size (W.heap.size + 1) W.heap.size ⟨[], b, List.replicate n PS.zero, 0, 0, 0⟩ := ⟨⟨.slice none 0 0, by simp only [boxV, List.length_replicate]; exact hx0, ⟨rfl, .inl ⟨rfl, rfl⟩⟩⟩, hr0⟩
  have hdw : Below Va.heap.size Va Va.drew := ⟨rfl, rfl, rfl, Nat.le_refl _, fun _ _ => rfl⟩
  clear hr0 hx0 hmk
  obtain ⟨q, hq⟩ : ∃ q, W.heap.size = q := ⟨_, rfl⟩
  obtain ⟨x, hx⟩ : ∃ x, q + 1 = x := ⟨_, rfl⟩
  have HQ := hid (And.intro hq hx)
  rw [hq, hx] at hd0 ⊢
  rw [hq] at hbw
  have hqs : q ≤ Va.heap.size := hq ▸ hbw.size
  clear hq hx
  refine regD (fun _ => True) (fun _ => true) (by kernel_rfl) ?_
  have hS := trivial
  generalize Va.drew = V0 at hdw ⊢
  have hb1 := hbw.trans (hdw.mono hqs)
  refine takeE (i := 0) (.pointer (some ⟨x, 0, none⟩)) (d := some 20) rfl (by kernel_rfl) (by kernel_rfl) (by kernel_rfl) (by kernel_rfl) (fun _ _ _ h => h) rfl (fun W hSw => by exact exec_mv rfl rfl) hS rfl ?_
  simp only [Act.put, List.setIfInBounds_toArray, List.set_cons_zero, List.set_cons_succ]
  refine takeE (i := 1) (.pointer (some ⟨x, 0, none⟩)) (d := some 21) rfl (by kernel_rfl) (by kernel_rfl) (by kernel_rfl) (by kernel_rfl) (fun _ _ _ h => h) rfl (fun W hSw => by exact exec_nilP rfl rfl) hS rfl ?_
  simp only [Act.put, List.setIfInBounds_toArray, List.set_cons_zero, List.set_cons_succ]
  refine takeE (i := 2) (.pointer (some ⟨x, 0, none⟩)) (d := some 22) rfl (by kernel_rfl) (by kernel_rfl) (by kernel_rfl) (by kernel_rfl) (fun _ _ _ h => h) rfl (fun W hSw => by exact exec_fldD 0 rfl rfl (by simp)) hS rfl ?_
  simp only [Act.put, List.setIfInBounds_toArray, List.set_cons_zero, List.set_cons_succ]
  refine takeE (i := 3) (.int .i64 ((b : Nat) : Int)) (d := some 23) rfl (by kernel_rfl) (by kernel_rfl) (by kernel_rfl) (by kernel_rfl) (fun _ _ _ h => h) rfl (fun W hSw => by exact exec_mv rfl rfl) hS rfl ?_
  simp only [Act.put, List.setIfInBounds_toArray, List.set_cons_zero, List.set_cons_succ]
  refine takeE (i := 5) (.int .i64 ((n : Nat) : Int)) (d := some 25) rfl (by kernel_rfl) (by kernel_rfl) (by kernel_rfl) (by kernel_rfl) (fun _ _ _ h => h) rfl (fun W hSw => by exact exec_mv rfl rfl) hS rfl ?_
  simp only [Act.put, List.setIfInBounds_toArray, List.set_cons_zero, List.set_cons_succ]
  have hc1 := hdw
  have hLa : ∀ W', Below Va.heap.size Va W' → LaidW W' := fun W' hW' => HLL.out.below ((HQ.out.1 ▸ hbw : Below W.heap.size W Va).trans (hW'.mono (by rw [HQ.out.1]; exact hqs)))
  refine stepD 4 (by kernel_rfl) rfl rfl (fun K hK => ?_)
  go_simp
  go_at_call 52
  refine (number_c ((b : Nat) : Int) (by omega) (by omega) V0 (hLa _ hc1)).mono ?_
  rintro e V1 ⟨rfl, hn4⟩
  go_simp
  refine hK _ _ (fun _ => trivial) ?_
  clear hK K
  have hc2 := hc1.trans (hn4.mono hc1.size)
  obtain ⟨zb, hzb⟩ : ∃ z, z = (⟨(Lib.itoa ((b : Nat) : Int)).toArray⟩ : ByteArray) := ⟨_, rfl⟩
  have Hzb := hid hzb
  rw [← hzb]
  clear hzb
  refine stepD 6 (by kernel_rfl) rfl rfl (fun K hK => ?_)
  go_simp
  go_at_call 52
  refine (number_c ((n : Nat) : Int) (by omega) (by omega) V1 (hLa _ hc2)).mono ?_
  rintro e V2 ⟨rfl, hn6⟩
  go_simp
  refine hK _ _ (fun _ => trivial) ?_
  clear hK K
  have hc3 := hc2.trans (hn6.mono hc2.size)
  obtain ⟨zn, hzn⟩ : ∃ z, z = (⟨(Lib.itoa ((n : Nat) : Int)).toArray⟩ : ByteArray) := ⟨_, rfl⟩
  have Hzn := hid hzn
  rw [← hzn]
  clear hzn
  refine stepD 7 (by kernel_rfl) rfl rfl (fun K hK => ?_)
  go_simp
  refine hK _ _ (fun _ => trivial) ?_
  clear hK K
  have hal : Below V2.heap.size V2 (V2.alloc (.cells #[.string wDraw, .string zb, .string zn] 9)) := (Below.refl _ _).alloc (Nat.le_refl _) _
  have hc4 := hc3.trans (hal.mono hc3.size)
  have hnew := heap_alloc_new V2 (.cells #[.string wDraw, .string zb, .string zn] 9)
  have hlt : V2.heap.size < (V2.alloc (.cells #[.string wDraw, .string zb, .string zn] 9)).heap.size := heap_lt hnew
  obtain ⟨gz, hgz⟩ : ∃ gz, V2.heap.size = gz := ⟨_, rfl⟩
  rw [hgz] at hnew hlt
  change wpAnyD _ _ _ _ _ _ _ _ _ (V2.alloc (.cells #[.string wDraw, .string zb, .string zn] 9))
  rw [hgz]
  generalize V2.alloc (.cells #[.string wDraw, .string zb, .string zn] 9) = V3 at hc4 hnew hlt ⊢
  have hl0 : ∀ m : Nat, m ≤ 1000000000 → (⟨(Lib.itoa ((m : Nat) : Int)).toArray⟩ : ByteArray).size ≤ 21 := fun m hm => by
    show (Lib.itoa ((m : Nat) : Int)).toArray.size ≤ 21
    rw [List.size_toArray]
    exact Lib.itoa_length_le ((m : Nat) : Int) (by omega) (by omega)
  have hpb : zb.size ≤ 21 := by rw [Hzb.out]; exact hl0 b (by omega)
  have hpn : zn.size ≤ 21 := by rw [Hzn.out]; exact hl0 n (by omega)
  have hll : (lineL [wDraw, zb, zn]).length ≤ 1000000000 := by
    have h9 := line_len [wDraw, zb, zn]
    simp only [lensW, List.length_cons, List.length_nil] at h9
    have : wDraw.size = 4 := rfl
    omega
  have HWR := hid (writeD_c (hd0.below hc4) [wDraw, zb, zn] gz 3 (Nat.le_trans hqs hc4.size) (fun j y hj => by
    rcases j with _ | _ | _ | j
    · cases hj; exact cell_of_row _ gz 0 _ _ _ hnew
    · cases hj; exact cell_of_row _ gz 1 _ _ _ hnew
    · cases hj; exact cell_of_row _ gz 2 _ _ _ hnew
    · simp at hj) hlt (by simp) (by simp) (by simp) hll)
  refine stepD 8 (by kernel_rfl) rfl rfl (fun K hK => ?_)
  go_simp
  go_at_call 51
  refine HWR.out.mono ?_
  rintro e V4 ⟨rfl, hd4, ho4⟩
  go_simp
  refine hK _ _ (fun _ => trivial) ?_
  clear hK K
  refine doneD (by kernel_rfl) ?_ _
  refine OnlyNorm.normal ?_
  rename_i Q' K hK
  change K _ _
  refine hK _ _ ?_
  clear hK K
  subst Q'
  have HD4 := hid hd4
  have hfin : Below q W V4 := (hbw.trans (hc4.mono hqs)).trans (ho4.toB (by have := HQ.out.2; omega) (Nat.le_refl _) (Nat.le_trans hqs hc4.size))
  have HFN := hid hfin
  clear hd4 hfin ho4 hc4 hc3 hc2 hc1 hd0 hb1 hal hnew hlt hbw hdw
  go_wp2_with fail
  go_ret2
  obtain ⟨e1, e2⟩ := HQ.out
  subst e1
  subst e2
  refine ⟨rfl, ?_, HFN.out⟩
  have e := HD4.out
  simp only [DS.line, List.nil_append] at e
  rw [Hzb.out, Hzn.out] at e
  exact e
end Go.Proofs.YtbcileppebpamaaGreatDoor
set_option linter.unusedSimpArgs false
set_option linter.unusedVariables false
namespace Go.Proofs.YtbcileppebpamaaGreatDoor
open Go Go.RowKit Go.Shelf
set_option maxRecDepth 100000
def wOpen : ByteArray := ⟨#[111, 112, 101, 110]⟩
def openW (p v : Int) (s : ByteArray) : List ByteArray := [wOpen, ⟨(Lib.itoa p).toArray⟩, ⟨(Lib.itoa v).toArray⟩, s]
def DS.openE (D : DS) (p v : Int) (s : ByteArray) : Int :=
  if inR p 1 ((D.ps.length : Nat) : Int) = false then 7 else if inR v 0 (((D.below : Nat) : Int) - 1) = false then 3 else if isSaltL s.data.toList = false then 4 else if D.running = false then 9
  else match D.ps[p.toNat - 1]? with | none => 7 | some x => if 0 < x.o then 6 else 0
def sameB (a b : ByteArray) : Bool := a.data.toList == b.data.toList
/-- The hash of what was opened. -/
def openH (p v : Int) (s : ByteArray) : ByteArray := ⟨(hashL (boxL p v s.data.toList)).toArray⟩
def DS.openR (D : DS) (p v : Int) (s : ByteArray) : Bool := match D.ps[p.toNat - 1]? with | none => false | some x => sameB (openH p v s) x.h
def DS.openT (D : DS) (p v : Int) (s : ByteArray) : DS :=
  match D.ps[p.toNat - 1]? with
  | none => D
  | some x => { D with ls := D.ls ++ [⟨(lineL (openW p v s)).toArray⟩], ps := D.ps.set (p.toNat - 1) { x with v := v, r := sameB (openH p v s) x.h, o := D.ls.length + 1 }, op := D.op + 1 }
def DS.open (D : DS) (p v : Int) (s : ByteArray) : DS := if D.openE p v s = 0 then D.openT p v s else D
theorem bytes_beq (a b : ByteArray) : (a.toList == b.toList) = sameB a b := by rw [ByteArray.toList_eq, ByteArray.toList_eq]; rfl
theorem OnlyD.heap {B b q : Nat} {W W' : World} (h : OnlyD B b q W W') {g : Nat} {o : Obj} (hg : W.heap[g]? = some o) (h1 : g ≠ b) (h2 : g ≠ q) (h3 : isStrs o = false) : W'.heap[g]? = some o := h.block g o hg h1 h2 (.inr h3)
theorem exec_eqB {ev : Operand → Value} {o : Oper} {x y : Operand} {s t : ByteArray} {W : World} (ho : o.op = .binOp .eql 9 x y 9) (hx : ev x = .string s) (hy : ev y = .string t) : (execOp ev o).run Tryz.prog W = .ok (.value (.bool (sameB s t))) W := by
  rw [← bytes_beq]
  simp [execOp, ho, hx, hy]
  go_simp
/-- What Open knows of its world: the box at g, the drawing. -/
structure OpS (B b q g : Nat) (D : DS) (p v : Int) (s : ByteArray) (V : World) : Prop where
  g : V.heap[g]? = some (.cells #[.int .i64 p, .int .i64 v, .string s] 27 (0, 0))
  d : DrawAt V B b q D
theorem OpS.below {B b q g : Nat} {D : DS} {p v : Int} {s : ByteArray} {V V' : World} (h : OpS B b q g D p v s V) (hb : Below V.heap.size V V') : OpS B b q g D p v s V' := ⟨heap_below hb h.g (heap_lt h.g), h.d.below hb⟩
theorem OpS.g0 {B b q g : Nat} {D : DS} {p v : Int} {s : ByteArray} {V : World} (h : OpS B b q g D p v s V) : V.cell? ⟨g, 0, none⟩ = some (.int .i64 p) := cell_of_row _ _ 0 _ _ _ h.g
theorem OpS.g1 {B b q g : Nat} {D : DS} {p v : Int} {s : ByteArray} {V : World} (h : OpS B b q g D p v s V) : V.cell? ⟨g, 1, none⟩ = some (.int .i64 v) := cell_of_row _ _ 1 _ _ _ h.g
theorem OpS.g2 {B b q g : Nat} {D : DS} {p v : Int} {s : ByteArray} {V : World} (h : OpS B b q g D p v s V) : V.cell? ⟨g, 2, none⟩ = some (.string s) := cell_of_row _ _ 2 _ _ _ h.g
theorem DrawAt.b1 {V : World} {B b q : Nat} {D : DS} (h : DrawAt V B b q D) : V.cell? ⟨b, 1, none⟩ = some (.int .i64 ((D.below : Nat) : Int)) := by
  obtain ⟨vl, h1, -⟩ := h.box
  exact cell_of_row _ _ 1 _ _ _ h1
theorem DrawAt.b4 {V : World} {B b q : Nat} {D : DS} (h : DrawAt V B b q D) : V.cell? ⟨b, 4, none⟩ = some (.int .i64 ((D.op : Nat) : Int)) := by
  obtain ⟨vl, h1, -⟩ := h.box
  exact cell_of_row _ _ 4 _ _ _ h1
theorem DrawAt.bf {V : World} {B b q : Nat} {D : DS} (h : DrawAt V B b q D) (j : Nat) : V.frozen? ⟨b, j, none⟩ = false := by
  obtain ⟨vl, h1, -⟩ := h.box
  exact frozen_of_row _ _ j _ _ h1
theorem DrawAt.qf {V : World} {B b q : Nat} {D : DS} (h : DrawAt V B b q D) (j : Nat) : V.frozen? ⟨q, j, none⟩ = false := frozen_of_row _ _ j _ _ h.row
theorem DrawAt.cell {V : World} {B b q : Nat} {D : DS} (h : DrawAt V B b q D) {i : Nat} {x : PS} (hx : D.ps[i]? = some x) (k : Nat) (hk : k < 5) : V.cell? ⟨q, 5 * i + k, none⟩ = x.enc[k]? := by
  rw [cell_of_row _ _ _ _ _ _ h.row]
  exact encP_get _ _ _ hx k hk
set_option maxHeartbeats 4000000 in
theorem OpenD_c {W : World} {B b q : Nat} {D : DS} (hd : DrawAt W B b q D) (p v : Int) (s : ByteArray) (hB : B ≤ W.heap.size) (hbB : B ≤ b) (hqB : B ≤ q) (hL : ∀ W', Below B W W' → LaidW W') (hn : D.ps.length ≤ 30) (hbl : D.below ≤ 1000000000) (hs : s.size ≤ 1000000) (hls : D.ls.length < 1000000) (hop : D.op < 1000000) :
    Calls Tryz.prog 20 #[.pointer (some ⟨b, 0, none⟩), .agg #[.int .i64 p, .int .i64 v, .string s]] W fun e W' => e = .returned (.tuple #[.bool (if D.openE p v s = 0 then D.openR p v s else false), .int .i64 (D.openE p v s)]) ∧ DrawAt W' B b q (D.open p v s) ∧ OnlyD B b q W W' := by
  have HF := hid (fun V (hV : DrawAt V B b q D) => find_c B b q D p V hV hn)
  have HW := hid (fun V => show Calls Tryz.prog 36 #[.int .i64 v, .int .i64 0, .int .i64 (((D.below : Nat) : Int) - 1)] V fun e w' => e = .returned (.bool (inR v 0 (((D.below : Nat) : Int) - 1))) ∧ w' = V from (within_c v 0 (((D.below : Nat) : Int) - 1) V).mono fun e w' h => ⟨h.1, h.2.symm⟩)
  have HS := hid (fun V => isSalt_c s hs V)
  have HR := hid (fun V (hV : DrawAt V B b q D) => running_c B b q D V hV)
  have hbq := hd.ne
  have hblt : b < W.heap.size := by obtain ⟨vl, h1, -⟩ := hd.box; exact heap_lt h1
  have hqlt : q < W.heap.size := heap_lt hd.row
  have hal : Below W.heap.size W (W.alloc (.cells #[.int .i64 p, .int .i64 v, .string s] 27)) := (Below.refl _ _).alloc (Nat.le_refl _) _
  have hO : OpS B b q W.heap.size D p v s (W.alloc (.cells #[.int .i64 p, .int .i64 v, .string s] 27)) := ⟨heap_alloc_new W _, hd.below hal⟩
  have hsub : IntKind.i64.wrap (((D.below : Nat) : Int) - 1) = ((D.below : Nat) : Int) - 1 := IntWalk.i64_in _ (by omega)
  have HLL := hid (fun V (hV : Below W.heap.size W V) => hL V (hV.mono hB))
  have HLB := hid hL
  obtain ⟨g, hg⟩ : ∃ g, W.heap.size = g := ⟨_, rfl⟩
  rw [hg] at hO hblt hqlt
  have HG := hid hg
  have HAL := hid hal
  have HDW := hid hd
  have HLL' := HLL
  clear HLL'
  cases hp : inR p 1 ((D.ps.length : Nat) : Int) with
  | false =>
    simp only [hp, Bool.false_eq_true, if_false] at HF
    have hE : D.openE p v s = 7 := by simp [DS.openE, hp]
    unfold DS.open
    rw [hE, if_neg (by decide), if_neg (by decide)]
    clear hE
    clear hd hL hg hal
    go_enter Tryz.func20, Tryz.ntmps20
    go_upto_region 1 with fail
    rw [HG.out]
    generalize W.alloc (.cells #[.int .i64 p, .int .i64 v, .string s] 27) = W0 at HAL hO ⊢
    have HO := hid hO
    have kg0 := hO.g0
    have kg1 := hO.g1
    have kg2 := hO.g2
    have kb1 := hO.d.b1
    clear hO
    clear hp
    go_wp2_with (go_at_call 56; refine (HF.out _ HO.out.d).mono ?_; rintro e w1 ⟨rfl, rfl⟩)
    go_ret2
    exact ⟨rfl, HDW.out.below HAL.out, .below HAL.out⟩
  | true =>
    simp only [hp, if_true] at HF
    obtain ⟨h1, h2⟩ := (inR_iff _ _ _).1 hp
    obtain ⟨i, hi⟩ : ∃ i, p.toNat - 1 = i := ⟨_, rfl⟩
    have hpi := hid (show p = ((i + 1 : Nat) : Int) by omega)
    obtain ⟨x, hx⟩ : ∃ x, D.ps[i]? = some x := ⟨_, List.getElem?_eq_getElem (by omega)⟩
    rw [hi] at HF
    obtain ⟨a, ha⟩ : ∃ a, 5 * i = a := ⟨_, rfl⟩
    rw [ha] at HF
    have hxs := hid hx
    have has := hid ha
    have hil : i < 30 := by have := (List.getElem?_eq_some_iff.1 hx).1; omega
    have hkp : ∀ V, DrawAt V B b q D → V.cell? ⟨q, a, none⟩ = some (.string x.h) ∧ V.cell? ⟨q, a + 3, none⟩ = some (.int .i64 ((x.o : Nat) : Int)) := fun V hV => by
      have e0 := hV.cell hx 0 (by omega)
      have e3 := hV.cell hx 3 (by omega)
      rw [ha] at e0 e3
      exact ⟨e0, e3⟩
    have his := hid hi
    have hps := hid hp
    clear hp h1 h2 hi hx ha
    cases hv : inR v 0 (((D.below : Nat) : Int) - 1) with
    | false =>
      simp only [hv] at HW
      have hE : D.openE p v s = 3 := by simp [DS.openE, hps.out, hv]
      unfold DS.open
      rw [hE, if_neg (by decide), if_neg (by decide)]
      clear hE
      clear hd hL hg hal
      go_enter Tryz.func20, Tryz.ntmps20
      go_upto_region 1 with fail
      rw [HG.out]
      generalize W.alloc (.cells #[.int .i64 p, .int .i64 v, .string s] 27) = W0 at HAL hO ⊢
      have HO := hid hO
      have kg0 := hO.g0
      have kg1 := hO.g1
      have kg2 := hO.g2
      have kb1 := hO.d.b1
      clear hO
      clear hv
      go_upto_region 6 with (go_at_call 56; refine (HF.out _ HO.out.d).mono ?_; rintro e w1 ⟨rfl, rfl⟩)
      go_quiet ((go_at_call 36; exact Calls.quiet_of_same (HW.out _)))
      go_wp2_with fail
      go_ret2
      exact ⟨rfl, HDW.out.below (HAL.out.trans ((drewN_below _ _).mono (by rw [HG.out]; exact Nat.le_of_lt (heap_lt HO.out.g)))), .below (HAL.out.trans ((drewN_below _ _).mono (by rw [HG.out]; exact Nat.le_of_lt (heap_lt HO.out.g))))⟩
    | true =>
      simp only [hv] at HW
      have hvb := (inR_iff _ _ _).1 hv
      have HV := hid hvb
      have hvs := hid hv
      clear hv hvb
      cases hss : isSaltL s.data.toList with
      | false =>
        rw [hss] at HS
        have hE : D.openE p v s = 4 := by simp [DS.openE, hps.out, hvs.out, hss]
        unfold DS.open
        rw [hE, if_neg (by decide), if_neg (by decide)]
        clear hE
        clear hd hL hg hal
        go_enter Tryz.func20, Tryz.ntmps20
        go_upto_region 1 with fail
        rw [HG.out]
        generalize W.alloc (.cells #[.int .i64 p, .int .i64 v, .string s] 27) = W0 at HAL hO ⊢
        have HO := hid hO
        have kg0 := hO.g0
        have kg1 := hO.g1
        have kg2 := hO.g2
        have kb1 := hO.d.b1
        clear hO
        clear hss
        go_upto_region 6 with (go_at_call 56; refine (HF.out _ HO.out.d).mono ?_; rintro e w1 ⟨rfl, rfl⟩)
        go_quiet ((go_at_call 36; exact Calls.quiet_of_same (HW.out _)))
        go_wp2_with (go_at_call 39; refine (HS.out _).mono ?_; rintro e w2 ⟨rfl, hb2⟩; have ho2 := (HO.out.below (drewN_below _ _)).below hb2; have HO2 := hid ho2; have kh0 := ho2.g0; have kh1 := ho2.g1; have kh2 := ho2.g2; clear ho2)
        go_ret2
        exact ⟨rfl, HDW.out.below (HAL.out.trans (((drewN_below _ _).mono (by rw [HG.out]; exact Nat.le_of_lt (heap_lt HO.out.g))).trans (hb2.mono (by rw [HG.out]; exact Nat.le_of_lt (heap_lt HO.out.g))))), .below (HAL.out.trans (((drewN_below _ _).mono (by rw [HG.out]; exact Nat.le_of_lt (heap_lt HO.out.g))).trans (hb2.mono (by rw [HG.out]; exact Nat.le_of_lt (heap_lt HO.out.g)))))⟩
      | true =>
        rw [hss] at HS
        have hsss := hid hss
        clear hss
        cases hrr : D.running with
        | false =>
          rw [hrr] at HR
          have hE : D.openE p v s = 9 := by simp [DS.openE, hps.out, hvs.out, hsss.out, hrr]
          unfold DS.open
          rw [hE, if_neg (by decide), if_neg (by decide)]
          clear hE
          clear hd hL hg hal
          go_enter Tryz.func20, Tryz.ntmps20
          go_upto_region 1 with fail
          rw [HG.out]
          generalize W.alloc (.cells #[.int .i64 p, .int .i64 v, .string s] 27) = W0 at HAL hO ⊢
          have HO := hid hO
          have kg0 := hO.g0
          have kg1 := hO.g1
          have kg2 := hO.g2
          have kb1 := hO.d.b1
          clear hO
          clear hrr
          go_upto_region 6 with (go_at_call 56; refine (HF.out _ HO.out.d).mono ?_; rintro e w1 ⟨rfl, rfl⟩)
          go_quiet ((go_at_call 36; exact Calls.quiet_of_same (HW.out _)))
          go_wp2_with (first
            | (go_at_call 39; refine (HS.out _).mono ?_; rintro e w2 ⟨rfl, hb2⟩; have ho2 := (HO.out.below (drewN_below _ _)).below hb2; have HO2 := hid ho2; have kh0 := ho2.g0; have kh1 := ho2.g1; have kh2 := ho2.g2; clear ho2)
            | (go_at_call 60; refine (HR.out _ HO2.out.d).mono ?_; rintro e w3 ⟨rfl, m3, rfl⟩))
          go_ret2
          exact ⟨rfl, HDW.out.below (HAL.out.trans ((((drewN_below _ _).mono (by rw [HG.out]; exact Nat.le_of_lt (heap_lt HO.out.g))).trans (hb2.mono (by rw [HG.out]; exact Nat.le_of_lt (heap_lt HO.out.g)))).trans ((drewN_below _ _).mono (Nat.le_trans (by rw [HG.out]; exact Nat.le_of_lt (heap_lt HO.out.g)) hb2.size)))), .below (HAL.out.trans ((((drewN_below _ _).mono (by rw [HG.out]; exact Nat.le_of_lt (heap_lt HO.out.g))).trans (hb2.mono (by rw [HG.out]; exact Nat.le_of_lt (heap_lt HO.out.g)))).trans ((drewN_below _ _).mono (Nat.le_trans (by rw [HG.out]; exact Nat.le_of_lt (heap_lt HO.out.g)) hb2.size))))⟩
        | true =>
          rw [hrr] at HR
          have hrrs := hid hrr
          clear hrr
          by_cases ho : 0 < x.o
          · have hE : D.openE p v s = 6 := by simp [DS.openE, hps.out, hvs.out, hsss.out, hrrs.out, his.out, hxs.out, ho]
            unfold DS.open
            rw [hE, if_neg (by decide), if_neg (by decide)]
            clear hE
            have d1 : decide ((0 : Int) < ((x.o : Nat) : Int)) = true := decide_eq_true (by omega)
            clear hd hL hg hal
            go_enter Tryz.func20, Tryz.ntmps20
            go_upto_region 1 with fail
            rw [HG.out]
            generalize W.alloc (.cells #[.int .i64 p, .int .i64 v, .string s] 27) = W0 at HAL hO ⊢
            have HO := hid hO
            have kg0 := hO.g0
            have kg1 := hO.g1
            have kg2 := hO.g2
            have kb1 := hO.d.b1
            clear hO
            go_upto_region 6 with (go_at_call 56; refine (HF.out _ HO.out.d).mono ?_; rintro e w1 ⟨rfl, rfl⟩)
            go_quiet ((go_at_call 36; exact Calls.quiet_of_same (HW.out _)))
            go_wp2_with (first
              | (go_at_call 39; refine (HS.out _).mono ?_; rintro e w2 ⟨rfl, hb2⟩; have ho2 := (HO.out.below (drewN_below _ _)).below hb2; have HO2 := hid ho2; have kh0 := ho2.g0; have kh1 := ho2.g1; have kh2 := ho2.g2; have kp := (hkp _ ho2.d).2; clear ho2)
              | (go_at_call 60; refine (HR.out _ HO2.out.d).mono ?_; rintro e w3 ⟨rfl, m3, rfl⟩))
            go_ret2
            exact ⟨rfl, HDW.out.below (HAL.out.trans ((((drewN_below _ _).mono (by rw [HG.out]; exact Nat.le_of_lt (heap_lt HO.out.g))).trans (hb2.mono (by rw [HG.out]; exact Nat.le_of_lt (heap_lt HO.out.g)))).trans ((drewN_below _ _).mono (Nat.le_trans (by rw [HG.out]; exact Nat.le_of_lt (heap_lt HO.out.g)) hb2.size)))), .below (HAL.out.trans ((((drewN_below _ _).mono (by rw [HG.out]; exact Nat.le_of_lt (heap_lt HO.out.g))).trans (hb2.mono (by rw [HG.out]; exact Nat.le_of_lt (heap_lt HO.out.g)))).trans ((drewN_below _ _).mono (Nat.le_trans (by rw [HG.out]; exact Nat.le_of_lt (heap_lt HO.out.g)) hb2.size))))⟩
          · have hE : D.openE p v s = 0 := by simp [DS.openE, hps.out, hvs.out, hsss.out, hrrs.out, his.out, hxs.out, ho]
            unfold DS.open DS.openT DS.openR
            rw [hE, if_pos rfl, if_pos rfl, his.out, hxs.out]
            clear hE
            have d1 : decide ((0 : Int) < ((x.o : Nat) : Int)) = false := decide_eq_false (by omega)
            clear hd hL hg hal
            go_enter Tryz.func20, Tryz.ntmps20
            go_upto_region 1 with fail
            rw [HG.out]
            generalize W.alloc (.cells #[.int .i64 p, .int .i64 v, .string s] 27) = W0 at HAL hO ⊢
            have HO := hid hO
            have kg0 := hO.g0
            have kg1 := hO.g1
            have kg2 := hO.g2
            have kb1 := hO.d.b1
            clear hO
            go_upto_region 6 with (go_at_call 56; refine (HF.out _ HO.out.d).mono ?_; rintro e w1 ⟨rfl, rfl⟩)
            go_quiet ((go_at_call 36; exact Calls.quiet_of_same (HW.out _)))
            go_upto_region 14 with (first
              | (go_at_call 39; refine (HS.out _).mono ?_; rintro e w2 ⟨rfl, hb2⟩; have ho2 := (HO.out.below (drewN_below _ _)).below hb2; have HO2 := hid ho2; have kh0 := ho2.g0; have kh1 := ho2.g1; have kh2 := ho2.g2; have kp := (hkp _ ho2.d).2; clear ho2)
              | (go_at_call 60; refine (HR.out _ HO2.out.d).mono ?_; rintro e w3 ⟨rfl, m3, rfl⟩))
            have hpb : -9223372036854775808 ≤ p ∧ p ≤ 9223372036854775807 := by have := hpi.out; omega
            have hvb : -9223372036854775808 ≤ v ∧ v ≤ 9223372036854775807 := by have := HV.out; omega
            have hb3 : Below W.heap.size W (w2.drewN m3).drew := ((HAL.out.trans ((drewN_below W0 nq).mono HAL.out.size)).trans (hb2.mono HAL.out.size)).trans ((below_drewN (Below.refl _ _) (m3 + 1) : Below w2.heap.size w2 (w2.drewN (m3 + 1))).mono (Nat.le_trans HAL.out.size hb2.size))
            have hO3 : OpS B b q g D p v s (w2.drewN m3).drew := HO2.out.below (below_drewN (Below.refl _ _) (m3 + 1) : Below w2.heap.size w2 (w2.drewN (m3 + 1)))
            clear kg0 kg1 kg2 kb1 kh0 kh1 kh2 kp
            refine regD (fun V => V.heap[g]? = some (.cells #[.int .i64 p, .int .i64 v, .string s] 27 (0, 0)) ∧ V.cell? ⟨q, a, none⟩ = some (.string x.h)) (fun _ => true) (by kernel_rfl) ?_
            have hS := And.intro hO3.g (hkp _ hO3.d).1
            generalize (w2.drewN m3).drew = V0 at hb3 hO3 hS ⊢
            refine takeE (i := 0) (.pointer (some ⟨q, a, none⟩)) (d := some 41) rfl (by kernel_rfl) (by kernel_rfl) (by kernel_rfl) (by kernel_rfl) (fun _ _ _ h => h) rfl (fun W hSw => by exact exec_mv rfl rfl) hS rfl ?_
            simp only [Act.put, List.setIfInBounds_toArray, List.set_cons_zero, List.set_cons_succ]
            refine takeE (i := 1) (.pointer (some ⟨q, a, none⟩)) (d := some 42) rfl (by kernel_rfl) (by kernel_rfl) (by kernel_rfl) (by kernel_rfl) (fun _ _ _ h => h) rfl (fun W hSw => by exact exec_mv rfl rfl) hS rfl ?_
            simp only [Act.put, List.setIfInBounds_toArray, List.set_cons_zero, List.set_cons_succ]
            refine takeE (i := 2) (.pointer (some ⟨g, 1, none⟩)) (d := some 43) rfl (by kernel_rfl) (by kernel_rfl) (by kernel_rfl) (by kernel_rfl) (fun _ _ _ h => h) rfl (fun W hSw => by exact exec_fldB1 rfl rfl) hS rfl ?_
            simp only [Act.put, List.setIfInBounds_toArray, List.set_cons_zero, List.set_cons_succ]
            refine takeE (i := 3) (.int .i64 v) (d := some 44) rfl (by kernel_rfl) (by kernel_rfl) (by kernel_rfl) (by kernel_rfl) (fun _ _ _ h => h) rfl (fun W hSw => by exact exec_ldcellB rfl rfl (cell_of_row _ _ 1 _ _ _ hSw.1)) hS rfl ?_
            simp only [Act.put, List.setIfInBounds_toArray, List.set_cons_zero, List.set_cons_succ]
            refine takeE (i := 4) (.agg #[.int .i64 p, .int .i64 v, .string s]) (d := some 45) rfl (by kernel_rfl) (by kernel_rfl) (by kernel_rfl) (by kernel_rfl) (fun _ _ _ h => h) rfl (fun W hSw => by exact exec_ldB rfl rfl hSw.1) hS rfl ?_
            simp only [Act.put, List.setIfInBounds_toArray, List.set_cons_zero, List.set_cons_succ]
            refine takeE (i := 7) (.pointer (some ⟨q, a, none⟩)) (d := some 48) rfl (by kernel_rfl) (by kernel_rfl) (by kernel_rfl) (by kernel_rfl) (fun _ _ _ h => h) rfl (fun W hSw => by exact exec_mv rfl rfl) hS rfl ?_
            simp only [Act.put, List.setIfInBounds_toArray, List.set_cons_zero, List.set_cons_succ]
            refine takeE (i := 8) (.pointer (some ⟨q, a, none⟩)) (d := some 49) rfl (by kernel_rfl) (by kernel_rfl) (by kernel_rfl) (by kernel_rfl) (fun _ _ _ h => h) rfl (fun W hSw => by exact exec_nilP rfl rfl) hS rfl ?_
            simp only [Act.put, List.setIfInBounds_toArray, List.set_cons_zero, List.set_cons_succ]
            refine takeE (i := 9) (.pointer (some ⟨q, a, none⟩)) (d := some 50) rfl (by kernel_rfl) (by kernel_rfl) (by kernel_rfl) (by kernel_rfl) (fun _ _ _ h => h) rfl (fun W hSw => by exact exec_fldP 0 rfl rfl (by simp)) hS rfl ?_
            simp only [Act.put, List.setIfInBounds_toArray, List.set_cons_zero, List.set_cons_succ]
            refine takeE (i := 10) (.string x.h) (d := some 51) rfl (by kernel_rfl) (by kernel_rfl) (by kernel_rfl) (by kernel_rfl) (fun _ _ _ h => h) rfl (fun W hSw => by exact exec_ldstrB rfl rfl hSw.2) hS rfl ?_
            simp only [Act.put, List.setIfInBounds_toArray, List.set_cons_zero, List.set_cons_succ]
            obtain ⟨y, hy⟩ : ∃ y, sealN p v s.data.toList = y := ⟨_, rfl⟩
            have hyl : y < 18446744073709551616 := hy ▸ hashN_lt _ _ h0_lt
            have HSE := hid (hy ▸ seal_c p v hpb hvb s hs V0 (HLL.out _ hb3))
            refine stepD 5 (by kernel_rfl) rfl rfl (fun K hK => ?_)
            go_simp
            go_at_call 41
            refine HSE.out.mono ?_
            rintro e V1 ⟨rfl, hs1⟩
            have hO4 := hO3.below hs1
            have hb4 := hb3.trans (hs1.mono hb3.size)
            go_simp
            refine hK _ _ (fun _ => ⟨hO4.g, (hkp _ hO4.d).1⟩) ?_
            clear hK K
            refine stepD 6 (by kernel_rfl) rfl rfl (fun K hK => ?_)
            go_simp
            go_at_call 61
            refine (String_c y hyl V1 (HLL.out _ hb4)).mono ?_
            rintro e V2 ⟨rfl, hs2⟩
            have hO5 := hO4.below hs2
            have hb5 := hb4.trans (hs2.mono hb4.size)
            go_simp
            refine hK _ _ (fun _ => ⟨hO5.g, (hkp _ hO5.d).1⟩) ?_
            clear hK K
            obtain ⟨hh, hhh⟩ : ∃ hh, openH p v s = hh := ⟨_, rfl⟩
            have hho : (⟨(hex16 y).toArray⟩ : ByteArray) = hh := by rw [← hhh, ← hy]; rfl
            rw [hho]
            have HHH := hid hhh
            clear hho hhh hy HSE
            obtain ⟨r, hr⟩ : ∃ r, sameB hh x.h = r := ⟨_, rfl⟩
            have HRR := hid hr
            have hS := And.intro hO5.g (hkp _ hO5.d).1
            refine takeE (i := 11) (.bool r) (d := some 52) rfl (by kernel_rfl) (by kernel_rfl) (by kernel_rfl) (by kernel_rfl) (fun _ _ _ h => h) rfl (fun W hSw => by exact hr ▸ exec_eqB rfl rfl rfl) hS rfl ?_
            simp only [Act.put, List.setIfInBounds_toArray, List.set_cons_zero, List.set_cons_succ]
            clear hr hS
            refine stepD 12 (by kernel_rfl) rfl rfl (fun K hK => ?_)
            go_simp
            refine hK _ _ (fun _ => ⟨hO5.g, (hkp _ hO5.d).1⟩) ?_
            clear hK K
            refine stepD 13 (by kernel_rfl) rfl rfl (fun K hK => ?_)
            go_simp
            refine hK _ _ (fun _ => ⟨hO5.g, (hkp _ hO5.d).1⟩) ?_
            clear hK K
            have hfz := hO5.d.qf (a + 1)
            have hk1 : V2.cell? ⟨q, a + 1, none⟩ = some (.int .i64 x.v) := by rw [← has.out]; exact hO5.d.cell hxs.out 1 (by omega)
            have hS1 : (V2.setCell ⟨q, a + 1, none⟩ (.int .i64 v)).heap[g]? = some (.cells #[.int .i64 p, .int .i64 v, .string s] 27 (0, 0)) ∧ (V2.setCell ⟨q, a + 1, none⟩ (.int .i64 v)).cell? ⟨q, a, none⟩ = some (.string x.h) := ⟨((OnlyD.refl B b q V2).set (.inr rfl) (a + 1) (.int .i64 v)).heap hO5.g (by omega) (by omega) rfl, by
              have e := (hO5.d.setP 1 (.int .i64 v) { x with v := v } hxs.out (show a + 1 = 5 * i + 1 by rw [has.out]) (by omega) rfl).cell (List.getElem?_set_self (List.getElem?_eq_some_iff.1 hxs.out).1) 0 (by omega)
              rw [Nat.add_zero, has.out] at e
              exact e⟩
            refine stepD 14 (by kernel_rfl) rfl rfl (fun K hK => ?_)
            go_simp
            refine hK _ _ (fun _ => hS1) ?_
            clear hK K
            obtain ⟨D1, hD1⟩ : ∃ D1, D1 = ({ D with ps := D.ps.set i { x with v := v } } : DS) := ⟨_, rfl⟩
            have hd1 : DrawAt (V2.setCell ⟨q, a + 1, none⟩ (.int .i64 v)) B b q D1 := by rw [hD1]; exact hO5.d.setP 1 _ { x with v := v } hxs.out (show a + 1 = 5 * i + 1 by rw [has.out]) (by omega) rfl
            have ho1 := (OnlyD.refl B b q V2).set (.inr rfl) (a + 1) (.int .i64 v)
            have hx1 : D1.ps[i]? = some { x with v := v } := by rw [hD1]; exact List.getElem?_set_self (List.getElem?_eq_some_iff.1 hxs.out).1
            generalize V2.setCell ⟨q, a + 1, none⟩ (.int .i64 v) = V3 at hd1 ho1 hS1 ⊢
            clear hfz hk1
            refine stepD 15 (by kernel_rfl) rfl rfl (fun K hK => ?_)
            go_simp
            refine hK _ _ (fun _ => hS1) ?_
            clear hK K
            refine stepD 16 (by kernel_rfl) rfl rfl (fun K hK => ?_)
            go_simp
            refine hK _ _ (fun _ => hS1) ?_
            clear hK K
            have hfz := hd1.qf (a + 4)
            have hk4 : V3.cell? ⟨q, a + 4, none⟩ = some (.bool x.r) := by rw [← has.out]; exact hd1.cell hx1 4 (by omega)
            have hS2 : (V3.setCell ⟨q, a + 4, none⟩ (.bool r)).heap[g]? = some (.cells #[.int .i64 p, .int .i64 v, .string s] 27 (0, 0)) ∧ (V3.setCell ⟨q, a + 4, none⟩ (.bool r)).cell? ⟨q, a, none⟩ = some (.string x.h) := ⟨(ho1.set (.inr rfl) (a + 4) (.bool r)).heap hO5.g (by omega) (by omega) rfl, by
              have e := (hd1.setP 4 (.bool r) { x with v := v, r := r } hx1 (show a + 4 = 5 * i + 4 by rw [has.out]) (by omega) rfl).cell (List.getElem?_set_self (List.getElem?_eq_some_iff.1 hx1).1) 0 (by omega)
              rw [Nat.add_zero, has.out] at e
              exact e⟩
            refine stepD 17 (by kernel_rfl) rfl rfl (fun K hK => ?_)
            go_simp
            refine hK _ _ (fun _ => hS2) ?_
            clear hK K
            clear hS1 hS2
            obtain ⟨D2, hD2⟩ : ∃ D2, D2 = ({ D1 with ps := D1.ps.set i { x with v := v, r := r } } : DS) := ⟨_, rfl⟩
            have hd2 : DrawAt (V3.setCell ⟨q, a + 4, none⟩ (.bool r)) B b q D2 := by rw [hD2]; exact hd1.setP 4 _ { x with v := v, r := r } hx1 (show a + 4 = 5 * i + 4 by rw [has.out]) (by omega) rfl
            have ho2 := ho1.set (.inr rfl) (a + 4) (.bool r)
            have hx2 : D2.ps[i]? = some { x with v := v, r := r } := by rw [hD2]; exact List.getElem?_set_self (List.getElem?_eq_some_iff.1 hx1).1
            generalize V3.setCell ⟨q, a + 4, none⟩ (.bool r) = V4 at hd2 ho2 ⊢
            have hl2 : D2.ls = D.ls := by rw [hD2, hD1]
            have hop2 : D2.op = D.op := by rw [hD2, hD1]
            clear hfz hk4
            refine doneD (by kernel_rfl) ?_ _
            refine OnlyNorm.normal ?_
            rename_i Q' K hK
            change K _ _
            refine hK _ _ ?_
            clear hK K
            have hg4 : V4.heap[g]? = some (.cells #[.int .i64 p, .int .i64 v, .string s] 27 (0, 0)) := ho2.heap hO5.g (by omega) (by omega) rfl
            have hHD := hid (And.intro hD1 hD2)
            have hbw : Below B W V4 := (hb5.mono hB).trans (ho2.toB hbB hqB (Nat.le_trans hB hb5.size))
            have hsz4 : W.heap.size ≤ V4.heap.size := Nat.le_trans hb5.size ho2.size
            have hoW : OnlyD B b q W V4 := (OnlyD.below hb5).trans ho2
            have HOW := hid hoW
            clear ho1 ho2 hoW hb4 hb3 hb2 hO3 hO4 hO5 hb5 hs1 hs2 hD1 hD2 hkp HO HO2 hd1 hS
            go_upto_region 15 with fail
            refine regD (fun V => V.heap[g]? = some (.cells #[.int .i64 p, .int .i64 v, .string s] 27 (0, 0))) (fun _ => true) (by kernel_rfl) ?_
            have hdw : Below V4.heap.size V4 V4.drew := ⟨rfl, rfl, rfl, Nat.le_refl _, fun _ _ => rfl⟩
            have hS : V4.drew.heap[g]? = some (.cells #[.int .i64 p, .int .i64 v, .string s] 27 (0, 0)) := hg4
            generalize V4.drew = V5 at hdw hS ⊢
            refine takeE (i := 0) (.pointer (some ⟨q, a, none⟩)) (d := some 57) rfl (by kernel_rfl) (by kernel_rfl) (by kernel_rfl) (by kernel_rfl) (fun _ _ _ h => h) rfl (fun W hSw => by exact exec_mv rfl rfl) hS rfl ?_
            simp only [Act.put, List.setIfInBounds_toArray, List.set_cons_zero, List.set_cons_succ]
            refine takeE (i := 1) (.pointer (some ⟨b, 0, none⟩)) (d := some 58) rfl (by kernel_rfl) (by kernel_rfl) (by kernel_rfl) (by kernel_rfl) (fun _ _ _ h => h) rfl (fun W hSw => by exact exec_mv rfl rfl) hS rfl ?_
            simp only [Act.put, List.setIfInBounds_toArray, List.set_cons_zero, List.set_cons_succ]
            refine takeE (i := 2) (.pointer (some ⟨b, 0, none⟩)) (d := some 59) rfl (by kernel_rfl) (by kernel_rfl) (by kernel_rfl) (by kernel_rfl) (fun _ _ _ h => h) rfl (fun W hSw => by exact exec_nilP rfl rfl) hS rfl ?_
            simp only [Act.put, List.setIfInBounds_toArray, List.set_cons_zero, List.set_cons_succ]
            refine takeE (i := 3) (.pointer (some ⟨b, 0, none⟩)) (d := some 60) rfl (by kernel_rfl) (by kernel_rfl) (by kernel_rfl) (by kernel_rfl) (fun _ _ _ h => h) rfl (fun W hSw => by exact exec_fldD 0 rfl rfl (by simp)) hS rfl ?_
            simp only [Act.put, List.setIfInBounds_toArray, List.set_cons_zero, List.set_cons_succ]
            refine takeE (i := 4) (.pointer (some ⟨g, 0, none⟩)) (d := some 61) rfl (by kernel_rfl) (by kernel_rfl) (by kernel_rfl) (by kernel_rfl) (fun _ _ _ h => h) rfl (fun W hSw => by exact exec_fldB0 rfl rfl) hS rfl ?_
            simp only [Act.put, List.setIfInBounds_toArray, List.set_cons_zero, List.set_cons_succ]
            refine takeE (i := 5) (.int .i64 p) (d := some 62) rfl (by kernel_rfl) (by kernel_rfl) (by kernel_rfl) (by kernel_rfl) (fun _ _ _ h => h) rfl (fun W hSw => by exact exec_ldcellB rfl rfl (cell_of_row _ _ 0 _ _ _ hSw)) hS rfl ?_
            simp only [Act.put, List.setIfInBounds_toArray, List.set_cons_zero, List.set_cons_succ]
            refine takeE (i := 7) (.pointer (some ⟨g, 1, none⟩)) (d := some 64) rfl (by kernel_rfl) (by kernel_rfl) (by kernel_rfl) (by kernel_rfl) (fun _ _ _ h => h) rfl (fun W hSw => by exact exec_fldB1 rfl rfl) hS rfl ?_
            simp only [Act.put, List.setIfInBounds_toArray, List.set_cons_zero, List.set_cons_succ]
            refine takeE (i := 8) (.int .i64 v) (d := some 65) rfl (by kernel_rfl) (by kernel_rfl) (by kernel_rfl) (by kernel_rfl) (fun _ _ _ h => h) rfl (fun W hSw => by exact exec_ldcellB rfl rfl (cell_of_row _ _ 1 _ _ _ hSw)) hS rfl ?_
            simp only [Act.put, List.setIfInBounds_toArray, List.set_cons_zero, List.set_cons_succ]
            refine takeE (i := 10) (.pointer (some ⟨g, 2, none⟩)) (d := some 67) rfl (by kernel_rfl) (by kernel_rfl) (by kernel_rfl) (by kernel_rfl) (fun _ _ _ h => h) rfl (fun W hSw => by exact exec_fldB2 rfl rfl) hS rfl ?_
            simp only [Act.put, List.setIfInBounds_toArray, List.set_cons_zero, List.set_cons_succ]
            refine takeE (i := 11) (.string s) (d := some 68) rfl (by kernel_rfl) (by kernel_rfl) (by kernel_rfl) (by kernel_rfl) (fun _ _ _ h => h) rfl (fun W hSw => by exact exec_ldstrB rfl rfl (cell_of_row _ _ 2 _ _ _ hSw)) hS rfl ?_
            simp only [Act.put, List.setIfInBounds_toArray, List.set_cons_zero, List.set_cons_succ]
            have hc1 := hdw
            refine stepD 6 (by kernel_rfl) rfl rfl (fun K hK => ?_)
            go_simp
            go_at_call 52
            refine (number_c p hpb.1 hpb.2 V5 (HLB.out _ (hbw.trans (hc1.mono (Nat.le_trans hB hsz4))))).mono ?_
            rintro e V6 ⟨rfl, hn6⟩
            have hc2 := hc1.trans (hn6.mono hc1.size)
            have hS6 := heap_below hc2 hg4 (heap_lt hg4)
            go_simp
            refine hK _ _ (fun _ => hS6) ?_
            clear hK K
            obtain ⟨zp, hzp⟩ : ∃ z, z = (⟨(Lib.itoa p).toArray⟩ : ByteArray) := ⟨_, rfl⟩
            have Hzp := hid hzp
            rw [← hzp]
            clear hzp
            refine stepD 9 (by kernel_rfl) rfl rfl (fun K hK => ?_)
            go_simp
            go_at_call 52
            refine (number_c v hvb.1 hvb.2 V6 (HLB.out _ (hbw.trans (hc2.mono (Nat.le_trans hB hsz4))))).mono ?_
            rintro e V7 ⟨rfl, hn9⟩
            have hc3 := hc2.trans (hn9.mono hc2.size)
            have hS9 := heap_below hc3 hg4 (heap_lt hg4)
            go_simp
            refine hK _ _ (fun _ => hS9) ?_
            clear hK K
            obtain ⟨zv, hzv⟩ : ∃ z, z = (⟨(Lib.itoa v).toArray⟩ : ByteArray) := ⟨_, rfl⟩
            have Hzv := hid hzv
            rw [← hzv]
            clear hzv
            have hal : Below V7.heap.size V7 (V7.alloc (.cells #[.string wOpen, .string zp, .string zv, .string s] 9)) := (Below.refl _ _).alloc (Nat.le_refl _) _
            have hc4 := hc3.trans (hal.mono hc3.size)
            have hnew := heap_alloc_new V7 (.cells #[.string wOpen, .string zp, .string zv, .string s] 9)
            have hlt : V7.heap.size < (V7.alloc (.cells #[.string wOpen, .string zp, .string zv, .string s] 9)).heap.size := heap_lt hnew
            have hg8 := heap_below hc4 hg4 (heap_lt hg4)
            refine stepD 12 (by kernel_rfl) rfl rfl (fun K hK => ?_)
            go_simp
            refine hK _ _ (fun _ => hg8) ?_
            clear hK K
            obtain ⟨gz, hgz⟩ : ∃ gz, V7.heap.size = gz := ⟨_, rfl⟩
            rw [hgz] at hnew hlt
            change wpAnyD _ _ _ _ _ _ _ _ _ (V7.alloc (.cells #[.string wOpen, .string zp, .string zv, .string s] 9))
            rw [hgz]
            generalize V7.alloc (.cells #[.string wOpen, .string zp, .string zv, .string s] 9) = V8 at hc4 hnew hlt hg8 ⊢
            have hl0 : ∀ m : Int, -9223372036854775808 ≤ m ∧ m ≤ 9223372036854775807 → (⟨(Lib.itoa m).toArray⟩ : ByteArray).size ≤ 21 := fun m hm => by
              show (Lib.itoa m).toArray.size ≤ 21
              rw [List.size_toArray]
              exact Lib.itoa_length_le m hm.1 hm.2
            have hpp : zp.size ≤ 21 := by rw [Hzp.out]; exact hl0 p hpb
            have hpv : zv.size ≤ 21 := by rw [Hzv.out]; exact hl0 v hvb
            have hll : (lineL [wOpen, zp, zv, s]).length ≤ 1000000000 := by
              have h9 := line_len [wOpen, zp, zv, s]
              simp only [lensW, List.length_cons, List.length_nil] at h9
              have : wOpen.size = 4 := rfl
              omega
            have HWR := hid (writeD_c (hd2.below hc4) [wOpen, zp, zv, s] gz 4 (Nat.le_trans (Nat.le_trans hB hsz4) hc4.size) (fun j y hj => by
              rcases j with _ | _ | _ | _ | j
              · cases hj; exact cell_of_row _ gz 0 _ _ _ hnew
              · cases hj; exact cell_of_row _ gz 1 _ _ _ hnew
              · cases hj; exact cell_of_row _ gz 2 _ _ _ hnew
              · cases hj; exact cell_of_row _ gz 3 _ _ _ hnew
              · simp at hj) hlt (by simp) (by rw [hl2]; exact hls) (by simp) hll)
            obtain ⟨n1, hn1⟩ : ∃ n1, D2.ls.length + 1 = n1 := ⟨_, rfl⟩
            have HN1 := hid hn1
            rw [hn1] at HWR
            clear hn1
            refine stepD 13 (by kernel_rfl) rfl rfl (fun K hK => ?_)
            go_simp
            go_at_call 51
            refine HWR.out.mono ?_
            rintro e V9 ⟨rfl, hd3, ho3⟩
            have hg9 := ho3.heap hg8 (by omega) (by omega) rfl
            go_simp
            refine hK _ _ (fun _ => hg9) ?_
            clear hK K
            obtain ⟨D3, hD3⟩ : ∃ D3, D3 = D2.line [wOpen, zp, zv, s] := ⟨_, rfl⟩
            rw [← hD3] at hd3
            have hx3 : D3.ps[i]? = some { x with v := v, r := r } := by rw [hD3]; exact hx2
            refine stepD 14 (by kernel_rfl) rfl rfl (fun K hK => ?_)
            go_simp
            refine hK _ _ (fun _ => hg9) ?_
            clear hK K
            refine stepD 15 (by kernel_rfl) rfl rfl (fun K hK => ?_)
            go_simp
            refine hK _ _ (fun _ => hg9) ?_
            clear hK K
            have hfz := hd3.qf (a + 3)
            have hk3 : V9.cell? ⟨q, a + 3, none⟩ = some (.int .i64 ((x.o : Nat) : Int)) := by rw [← has.out]; exact hd3.cell hx3 3 (by omega)
            refine stepD 16 (by kernel_rfl) rfl rfl (fun K hK => ?_)
            go_simp
            refine hK _ _ (fun _ => (ho3.set (.inr rfl) (a + 3) (.int .i64 ((n1 : Nat) : Int))).heap hg8 (by omega) (by omega) rfl) ?_
            clear hK K
            obtain ⟨D4, hD4⟩ : ∃ D4, D4 = ({ D3 with ps := D3.ps.set i { x with v := v, r := r, o := n1 } } : DS) := ⟨_, rfl⟩
            have hd4 : DrawAt (V9.setCell ⟨q, a + 3, none⟩ (.int .i64 ((n1 : Nat) : Int))) B b q D4 := by rw [hD4]; exact hd3.setP 3 _ { x with v := v, r := r, o := n1 } hx3 (show a + 3 = 5 * i + 3 by rw [has.out]) (by omega) rfl
            have ho4 := ho3.set (.inr rfl) (a + 3) (.int .i64 ((n1 : Nat) : Int))
            have hx4 : D4.ps[i]? = some { x with v := v, r := r, o := n1 } := by rw [hD4]; exact List.getElem?_set_self (List.getElem?_eq_some_iff.1 hx3).1
            generalize V9.setCell ⟨q, a + 3, none⟩ (.int .i64 ((n1 : Nat) : Int)) = V10 at hd4 ho4 ⊢
            have hop4 : D4.op = D.op := by rw [hD4, hD3]; exact hop2
            clear hfz hk3
            refine doneD (by kernel_rfl) ?_ _
            refine OnlyNorm.normal ?_
            rename_i K hK
            change K _ _
            refine hK _ _ ?_
            clear hK K
            have kb4 := hd4.b4
            rw [hop4] at kb4
            have hfz := hd4.bf 4
            obtain ⟨m1, hm1⟩ : ∃ m1, D.op + 1 = m1 := ⟨_, rfl⟩
            have hsw : IntKind.i64.wrap (((D.op : Nat) : Int) + 1) = ((m1 : Nat) : Int) := (IntWalk.i64_in _ (by omega)).trans (by omega)
            have HM1 := hid hm1
            clear hm1
            have HO4 := hid (((HOW.out.trans (.below hc4)).trans ho4).set (.inl rfl) 4 (.int .i64 ((m1 : Nat) : Int)))
            have HHH4 := hid (And.intro hD3 hD4)
            clear hc1 hc2 hc3 hc4 ho3 ho4 hD3 hD4 hg8 hg9 hnew hlt hal hg4 hS hd3 hS6 hS9 hn6 hn9
            obtain ⟨D5, hD5⟩ : ∃ D5, D5 = ({ D4 with op := m1 } : DS) := ⟨_, rfl⟩
            have hd5 : DrawAt (V10.setCell ⟨b, 4, none⟩ (.int .i64 ((m1 : Nat) : Int))) B b q D5 := hd4.setB 4 (.int .i64 ((m1 : Nat) : Int)) D5 (fun vl => by rw [hD5]; simp [boxV]) (by rw [hD5]) (by rw [hD5])
            have hx5 : D5.ps[i]? = some { x with v := v, r := r, o := n1 } := by rw [hD5]; exact hx4
            have kr : (V10.setCell ⟨b, 4, none⟩ (.int .i64 ((m1 : Nat) : Int))).cell? ⟨q, a + 4, none⟩ = some (.bool r) := by rw [← has.out]; exact hd5.cell hx5 4 (by omega)
            have HD5 := hid (And.intro hd5 hD5)
            clear hd5 hD5 hd4
            go_upto_region 17 with fail
            generalize V10.setCell ⟨b, 4, none⟩ (.int .i64 ((m1 : Nat) : Int)) = V11 at kr HD5 HO4 ⊢
            go_wp2_with fail
            go_ret2
            refine ⟨by rw [HHH.out, HRR.out]; rfl, ?_, HO4.out⟩
            have e := HD5.out.1
            obtain ⟨e1, e2⟩ := hHD.out
            obtain ⟨e3, e4⟩ := HHH4.out
            rw [HD5.out.2, e4, e3, e2, e1, ← HM1.out] at e
            have hn1 := HN1.out
            rw [hl2] at hn1
            rw [HHH.out, HRR.out]
            simpa [DS.line, openW, hn1, Hzp.out, Hzv.out] using e
end Go.Proofs.YtbcileppebpamaaGreatDoor
