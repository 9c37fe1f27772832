/- Walks of package witness: New. -/
import Derived.Test.YtbcileppebpamaaGreatDoorWK
set_option linter.unusedSimpArgs false
set_option linter.unusedVariables false
namespace Go.Proofs.YtbcileppebpamaaGreatDoor
open Go Go.RowKit Go.Shelf
set_option maxRecDepth 100000

def PS.zero : PS := ⟨⟨#[]⟩, 0, 0, 0, false⟩
theorem made_ps (n : Nat) : madeCells (Value.agg #[.string ⟨#[]⟩, .int .i64 0, .int .i64 0, .int .i64 0, .bool false]).cells (n * 5) = encP (List.replicate n PS.zero) := by
  refine Array.ext (by rw [encP_size, List.length_replicate]; simp [madeCells, Nat.mul_comm]) fun j h1 h2 => ?_
  have hj : j < n * 5 := by simpa [madeCells] using h1
  obtain ⟨i, k, rfl, hk⟩ : ∃ i k, j = 5 * i + k ∧ k < 5 := ⟨j / 5, j % 5, by omega, by omega⟩
  have e : (encP (List.replicate n PS.zero))[5 * i + k]? = PS.zero.enc[k]? := encP_get _ _ _ (by rw [List.getElem?_replicate, if_pos (by omega)]) _ hk
  have e' : (madeCells (Value.agg #[.string ⟨#[]⟩, .int .i64 0, .int .i64 0, .int .i64 0, .bool false]).cells (n * 5))[5 * i + k]? = PS.zero.enc[k]? := by
    rw [show (Value.agg #[.string ⟨#[]⟩, .int .i64 0, .int .i64 0, .int .i64 0, .bool false]).cells = PS.zero.enc.toArray from rfl]
    simp only [madeCells]
    rw [Array.getElem?_map, Array.getElem?_range, if_pos hj, Option.map_some]
    rw [show (5 * i + k) % PS.zero.enc.toArray.size = k from by
      rw [show PS.zero.enc.toArray.size = 5 from rfl]
      omega]
    rcases k with _ | _ | _ | _ | _ | k <;> first | rfl | omega
  rw [← e, Array.getElem?_eq_getElem h1, Array.getElem?_eq_getElem h2] at e'
  exact Option.some.inj e'
theorem mk_ps (W : World) (n : Nat) (hn : n ≤ 100000) : (Instr.makeSlice 98 (.int .i64 ((n : Nat) : Int)) (.int .i64 ((n : Nat) : Int))).run Tryz.prog W = .ok (.slice (some ⟨W.heap.size, 0, none⟩) n n) (W.alloc (.cells (encP (List.replicate n PS.zero)) 114)) := by
  obtain ⟨i, hi⟩ := Option.isSome_iff_exists.1 (show (Tryz.prog.info? 114).isSome = true by kernel_rfl)
  have h1 : (Tryz.prog.info? 114).map (·.size) = some 5 := by kernel_rfl
  have h2 : (Tryz.prog.info? 114).map (fun i => decide (i.bytes ≤ 100)) = some true := by kernel_rfl
  have h3 : (Tryz.prog.info? 114).bind (·.zero) = some (.agg #[.string ⟨#[]⟩, .int .i64 0, .int .i64 0, .int .i64 0, .bool false]) := by kernel_rfl
  rw [hi] at h1 h2 h3
  simp only [Option.map_some, Option.some.injEq, Option.bind_some, decide_eq_true_eq] at h1 h2 h3
  have hb : (i.bytes : Int) * ((n : Nat) : Int) ≤ 281474976710656 := by
    have : i.bytes * n ≤ 100 * 100000 := Nat.mul_le_mul h2 hn
    have e : (i.bytes : Int) * ((n : Nat) : Int) = ((i.bytes * n : Nat) : Int) := by push_cast; rfl
    rw [e]
    omega
  have h := run_makeSlice (P := Tryz.prog) W 98 114 i _ Tryz.underlying98 hi h3 .i64 .i64 ((n : Nat) : Int) ((n : Nat) : Int) (by omega) (Int.le_refl _) (by rw [h1]; omega) hb (by omega)
  rw [h, h1]
  congr 2
  rw [Int.toNat_natCast, made_ps]
def wDraw : ByteArray := ⟨#[100, 114, 97, 119]⟩
def newW (b n : Nat) : List ByteArray := [wDraw, ⟨(Lib.itoa ((b : Nat) : Int)).toArray⟩, ⟨(Lib.itoa ((n : Nat) : Int)).toArray⟩]
def DS.start (b n : Nat) : DS := ⟨[⟨(lineL (newW b n)).toArray⟩], b, List.replicate n PS.zero, 0, 0, 0⟩
set_option maxHeartbeats 4000000 in
theorem New_no (b n : Int) (W : World) (h : ¬ (inR b 1 1000000000 = true ∧ inR n 1 30 = true)) :
    Calls Tryz.prog 16 #[.int .i64 b, .int .i64 n] W fun e W' => e = .returned (.tuple #[.pointer none, .int .i64 3]) ∧ W = W' := by
  have h1 := within_c b 1 1000000000 W
  have h2 := within_c n 1 30 W
  have FL := hid trivial
  cases hb : inR b 1 1000000000 with
  | false =>
    rw [show (decide ((1 : Int) ≤ b) && decide (b ≤ 1000000000)) = false from hb] at h1
    have H1 := hid h1
    clear h1 h2 hb h
    go_enter Tryz.func16, Tryz.ntmps16
    go_wp2_with (go_at_call 36; refine H1.out.mono ?_; rintro e w1 ⟨rfl, rfl⟩)
    go_ret2
    exact ⟨rfl, rfl⟩
  | true =>
    have hn : inR n 1 30 = false := Bool.eq_false_iff.2 fun e => h ⟨hb, e⟩
    rw [show (decide ((1 : Int) ≤ b) && decide (b ≤ 1000000000)) = true from hb] at h1
    rw [show (decide ((1 : Int) ≤ n) && decide (n ≤ 30)) = false from hn] at h2
    have H1 := hid h1
    have H2 := hid h2
    clear h1 h2 hb h hn
    go_enter Tryz.func16, Tryz.ntmps16
    go_wp2_with (first
      | (go_at_call 36; have hq := FL; clear hq FL; refine H1.out.mono ?_; rintro e w1 ⟨rfl, rfl⟩)
      | (go_at_call 36; refine H2.out.mono ?_; rintro e w1 ⟨rfl, rfl⟩))
    go_ret2
    exact ⟨rfl, rfl⟩
set_option maxHeartbeats 4000000 in
theorem New_c (b n : Nat) (hb : 1 ≤ b ∧ b ≤ 1000000000) (hn : 1 ≤ n ∧ n ≤ 30) (W : World) (L : LaidW W) :
    Calls Tryz.prog 16 #[.int .i64 ((b : Nat) : Int), .int .i64 ((n : Nat) : Int)] W fun e W' => e = .returned (.tuple #[.pointer (some ⟨W.heap.size + 1, 0, none⟩), .int .i64 0]) ∧ DrawAt W' W.heap.size (W.heap.size + 1) W.heap.size (DS.start b n) ∧ Below W.heap.size W W' := by
  have h1 := within_c ((b : Nat) : Int) 1 1000000000 W
  have h2 := within_c ((n : Nat) : Int) 1 30 W
  rw [show (decide ((1 : Int) ≤ ((b : Nat) : Int)) && decide (((b : Nat) : Int) ≤ 1000000000)) = true from by rw [decide_eq_true (by omega), decide_eq_true (by omega)]; rfl] at h1
  rw [show (decide ((1 : Int) ≤ ((n : Nat) : Int)) && decide (((n : Nat) : Int) ≤ 30)) = true from by rw [decide_eq_true (by omega), decide_eq_true (by omega)]; rfl] at h2
  have H1 := hid h1
  have H2 := hid h2
  have FL := hid trivial
  have HLL := hid L
  have hmk := fun V => mk_ps V n (by omega)
  clear h1 h2 L
  go_enter Tryz.func16, Tryz.ntmps16
  go_upto_region 4 with (first
    | (go_at_call 36; have hq := FL; clear hq FL; refine H1.out.mono ?_; rintro e w1 ⟨rfl, rfl⟩)
    | (go_at_call 36; refine H2.out.mono ?_; rintro e w1 ⟨rfl, rfl⟩))
  have hr0 : ((W.alloc (.cells (encP (List.replicate n PS.zero)) 114)).alloc (.cells #[.slice none 0 0, .int .i64 ((b : Nat) : Int), .slice (some ⟨W.heap.size, 0, none⟩) n n, .int .i64 0, .int .i64 0, .int .i64 0] 100)).heap[W.heap.size]? = some (.cells (encP (List.replicate n PS.zero)) 114 (0, 0)) := by
    rw [heap_alloc_old _ _ (heap_lt (heap_alloc_new W _))]
    exact heap_alloc_new W _
  have hx0 := heap_alloc_new (W.alloc (.cells (encP (List.replicate n PS.zero)) 114)) (.cells #[.slice none 0 0, .int .i64 ((b : Nat) : Int), .slice (some ⟨W.heap.size, 0, none⟩) n n, .int .i64 0, .int .i64 0, .int .i64 0] 100)
  rw [show (W.alloc (.cells (encP (List.replicate n PS.zero)) 114)).heap.size = W.heap.size + 1 from by simp] at hx0
  have hbw : Below W.heap.size W ((W.alloc (.cells (encP (List.replicate n PS.zero)) 114)).alloc (.cells #[.slice none 0 0, .int .i64 ((b : Nat) : Int), .slice (some ⟨W.heap.size, 0, none⟩) n n, .int .i64 0, .int .i64 0, .int .i64 0] 100)) := ((Below.refl _ _).alloc (Nat.le_refl _) _).alloc (by simp) _
  generalize (W.alloc (.cells (encP (List.replicate n PS.zero)) 114)).alloc (.cells #[.slice none 0 0, .int .i64 ((b : Nat) : Int), .slice (some ⟨W.heap.size, 0, none⟩) n n, .int .i64 0, .int .i64 0, .int .i64 0] 100) = Va at hr0 hx0 hbw ⊢
  have hd0 : DrawAt Va W.heap.size (W.heap.size + 1) W.heap.size ⟨[], b, List.replicate n PS.zero, 0, 0, 0⟩ := ⟨⟨.slice none 0 0, by simp only [boxV, List.length_replicate]; exact hx0, ⟨rfl, .inl ⟨rfl, rfl⟩⟩⟩, hr0⟩
  have hdw : Below Va.heap.size Va Va.drew := ⟨rfl, rfl, rfl, Nat.le_refl _, fun _ _ => rfl⟩
  clear hr0 hx0 hmk
  obtain ⟨q, hq⟩ : ∃ q, W.heap.size = q := ⟨_, rfl⟩
  obtain ⟨x, hx⟩ : ∃ x, q + 1 = x := ⟨_, rfl⟩
  have HQ := hid (And.intro hq hx)
  rw [hq, hx] at hd0 ⊢
  rw [hq] at hbw
  have hqs : q ≤ Va.heap.size := hq ▸ hbw.size
  clear hq hx
  refine regD (fun _ => True) (fun _ => true) (by kernel_rfl) ?_
  have hS := trivial
  generalize Va.drew = V0 at hdw ⊢
  have hb1 := hbw.trans (hdw.mono hqs)
  refine takeE (i := 0) (.pointer (some ⟨x, 0, none⟩)) (d := some 20) rfl (by kernel_rfl) (by kernel_rfl) (by kernel_rfl) (by kernel_rfl) (fun _ _ _ h => h) rfl (fun W hSw => by exact exec_mv rfl rfl) hS rfl ?_
  simp only [Act.put, List.setIfInBounds_toArray, List.set_cons_zero, List.set_cons_succ]
  refine takeE (i := 1) (.pointer (some ⟨x, 0, none⟩)) (d := some 21) rfl (by kernel_rfl) (by kernel_rfl) (by kernel_rfl) (by kernel_rfl) (fun _ _ _ h => h) rfl (fun W hSw => by exact exec_nilP rfl rfl) hS rfl ?_
  simp only [Act.put, List.setIfInBounds_toArray, List.set_cons_zero, List.set_cons_succ]
  refine takeE (i := 2) (.pointer (some ⟨x, 0, none⟩)) (d := some 22) rfl (by kernel_rfl) (by kernel_rfl) (by kernel_rfl) (by kernel_rfl) (fun _ _ _ h => h) rfl (fun W hSw => by exact exec_fldD 0 rfl rfl (by simp)) hS rfl ?_
  simp only [Act.put, List.setIfInBounds_toArray, List.set_cons_zero, List.set_cons_succ]
  refine takeE (i := 3) (.int .i64 ((b : Nat) : Int)) (d := some 23) rfl (by kernel_rfl) (by kernel_rfl) (by kernel_rfl) (by kernel_rfl) (fun _ _ _ h => h) rfl (fun W hSw => by exact exec_mv rfl rfl) hS rfl ?_
  simp only [Act.put, List.setIfInBounds_toArray, List.set_cons_zero, List.set_cons_succ]
  refine takeE (i := 5) (.int .i64 ((n : Nat) : Int)) (d := some 25) rfl (by kernel_rfl) (by kernel_rfl) (by kernel_rfl) (by kernel_rfl) (fun _ _ _ h => h) rfl (fun W hSw => by exact exec_mv rfl rfl) hS rfl ?_
  simp only [Act.put, List.setIfInBounds_toArray, List.set_cons_zero, List.set_cons_succ]
  have hc1 := hdw
  have hLa : ∀ W', Below Va.heap.size Va W' → LaidW W' := fun W' hW' => HLL.out.below ((HQ.out.1 ▸ hbw : Below W.heap.size W Va).trans (hW'.mono (by rw [HQ.out.1]; exact hqs)))
  refine stepD 4 (by kernel_rfl) rfl rfl (fun K hK => ?_)
  go_simp
  go_at_call 52
  refine (number_c ((b : Nat) : Int) (by omega) (by omega) V0 (hLa _ hc1)).mono ?_
  rintro e V1 ⟨rfl, hn4⟩
  go_simp
  refine hK _ _ (fun _ => trivial) ?_
  clear hK K
  have hc2 := hc1.trans (hn4.mono hc1.size)
  obtain ⟨zb, hzb⟩ : ∃ z, z = (⟨(Lib.itoa ((b : Nat) : Int)).toArray⟩ : ByteArray) := ⟨_, rfl⟩
  have Hzb := hid hzb
  rw [← hzb]
  clear hzb
  refine stepD 6 (by kernel_rfl) rfl rfl (fun K hK => ?_)
  go_simp
  go_at_call 52
  refine (number_c ((n : Nat) : Int) (by omega) (by omega) V1 (hLa _ hc2)).mono ?_
  rintro e V2 ⟨rfl, hn6⟩
  go_simp
  refine hK _ _ (fun _ => trivial) ?_
  clear hK K
  have hc3 := hc2.trans (hn6.mono hc2.size)
  obtain ⟨zn, hzn⟩ : ∃ z, z = (⟨(Lib.itoa ((n : Nat) : Int)).toArray⟩ : ByteArray) := ⟨_, rfl⟩
  have Hzn := hid hzn
  rw [← hzn]
  clear hzn
  refine stepD 7 (by kernel_rfl) rfl rfl (fun K hK => ?_)
  go_simp
  refine hK _ _ (fun _ => trivial) ?_
  clear hK K
  have hal : Below V2.heap.size V2 (V2.alloc (.cells #[.string wDraw, .string zb, .string zn] 9)) := (Below.refl _ _).alloc (Nat.le_refl _) _
  have hc4 := hc3.trans (hal.mono hc3.size)
  have hnew := heap_alloc_new V2 (.cells #[.string wDraw, .string zb, .string zn] 9)
  have hlt : V2.heap.size < (V2.alloc (.cells #[.string wDraw, .string zb, .string zn] 9)).heap.size := heap_lt hnew
  obtain ⟨gz, hgz⟩ : ∃ gz, V2.heap.size = gz := ⟨_, rfl⟩
  rw [hgz] at hnew hlt
  change wpAnyD _ _ _ _ _ _ _ _ _ (V2.alloc (.cells #[.string wDraw, .string zb, .string zn] 9))
  rw [hgz]
  generalize V2.alloc (.cells #[.string wDraw, .string zb, .string zn] 9) = V3 at hc4 hnew hlt ⊢
  have hl0 : ∀ m : Nat, m ≤ 1000000000 → (⟨(Lib.itoa ((m : Nat) : Int)).toArray⟩ : ByteArray).size ≤ 21 := fun m hm => by
    show (Lib.itoa ((m : Nat) : Int)).toArray.size ≤ 21
    rw [List.size_toArray]
    exact Lib.itoa_length_le ((m : Nat) : Int) (by omega) (by omega)
  have hpb : zb.size ≤ 21 := by rw [Hzb.out]; exact hl0 b (by omega)
  have hpn : zn.size ≤ 21 := by rw [Hzn.out]; exact hl0 n (by omega)
  have hll : (lineL [wDraw, zb, zn]).length ≤ 1000000000 := by
    have h9 := line_len [wDraw, zb, zn]
    simp only [lensW, List.length_cons, List.length_nil] at h9
    have : wDraw.size = 4 := rfl
    omega
  have HWR := hid (writeD_c (hd0.below hc4) [wDraw, zb, zn] gz 3 (Nat.le_trans hqs hc4.size) (fun j y hj => by
    rcases j with _ | _ | _ | j
    · cases hj; exact cell_of_row _ gz 0 _ _ _ hnew
    · cases hj; exact cell_of_row _ gz 1 _ _ _ hnew
    · cases hj; exact cell_of_row _ gz 2 _ _ _ hnew
    · simp at hj) hlt (by simp) (by simp) (by simp) hll)
  refine stepD 8 (by kernel_rfl) rfl rfl (fun K hK => ?_)
  go_simp
  go_at_call 51
  refine HWR.out.mono ?_
  rintro e V4 ⟨rfl, hd4, ho4⟩
  go_simp
  refine hK _ _ (fun _ => trivial) ?_
  clear hK K
  refine doneD (by kernel_rfl) ?_ _
  refine OnlyNorm.normal ?_
  rename_i Q' K hK
  change K _ _
  refine hK _ _ ?_
  clear hK K
  subst Q'
  have HD4 := hid hd4
  have hfin : Below q W V4 := (hbw.trans (hc4.mono hqs)).trans (ho4.toB (by have := HQ.out.2; omega) (Nat.le_refl _) (Nat.le_trans hqs hc4.size))
  have HFN := hid hfin
  clear hd4 hfin ho4 hc4 hc3 hc2 hc1 hd0 hb1 hal hnew hlt hbw hdw
  go_wp2_with fail
  go_ret2
  obtain ⟨e1, e2⟩ := HQ.out
  subst e1
  subst e2
  refine ⟨rfl, ?_, HFN.out⟩
  have e := HD4.out
  simp only [DS.line, List.nil_append] at e
  rw [Hzb.out, Hzn.out] at e
  exact e
end Go.Proofs.YtbcileppebpamaaGreatDoor
