/- Walk of law 11: WitnessGuesses. -/
import Derived.Test.YtbcileppebpamaaGreatDoorGB
import Derived.Test.YtbcileppebpamaaGreatDoorYC
import Derived.Deep.CutRange
set_option linter.unusedSimpArgs false
set_option linter.unusedVariables false
namespace Go.Proofs.YtbcileppebpamaaGreatDoor
open Go Go.RowKit Go.Shelf
set_option maxRecDepth 100000

theorem exec_fldX {ev : Operand → Value} {o : Oper} {x : Operand} {b : Nat} {W : World} (k : Nat) (ho : o.op = .fieldAddr 24 x k) (hx : ev x = .pointer (some ⟨b, 0, none⟩)) (hk : k = 0 ∨ k = 1 ∨ k = 2 ∨ k = 3 ∨ k = 4 ∨ k = 5 ∨ k = 6) : (execOp ev o).run Tryz.prog W = .ok (.value (.pointer (some ⟨b, k, none⟩))) W := by
  rcases hk with rfl | rfl | rfl | rfl | rfl | rfl | rfl <;> simp [execOp, ho, hx] <;> go_simp
theorem exec_lenS {ev : Operand → Value} {o : Oper} {x : Operand} {p : Option Addr} {m c : Nat} {W : World} (ho : o.op = .call { callee := .builtin .len, args := #[x], argTypes := #[22] }) (hx : ev x = .slice p m c) : (execOp ev o).run Tryz.prog W = .ok (.value (.int .i64 ((m : Nat) : Int))) W := by
  simp [execOp, ho, hx]
  go_simp
theorem exec_ixT {ev : Operand → Value} {o : Oper} {x y : Operand} {p : Option Addr} {m cc b oo i : Nat} {W : World} (ho : o.op = .indexAddr 22 x y) (hx : ev x = .slice p m cc) (hy : ev y = .int .i64 ((i : Nat) : Int)) (hp : p = some ⟨b, oo, none⟩) (hi : i < m) : (execOp ev o).run Tryz.prog W = .ok (.value (.pointer (some ⟨b, oo + i, none⟩))) W := by
  subst hp
  have h0 : (0 : Int) ≤ ((i : Nat) : Int) := by omega
  have h1 : ((i : Nat) : Int) < ((m : Nat) : Int) := by omega
  simp [execOp, ho, hx, hy]
  go_simp
theorem exec_ldu8 {ev : Operand → Value} {o : Oper} {x : Operand} {p : Addr} {W : World} {v : Value} (ho : o.op = .load 5 x) (hx : ev x = .pointer (some p)) (hg : W.cell? p = some v) : (execOp ev o).run Tryz.prog W = .ok (.value v) W := by
  simp [execOp, ho, hx]
  go_simp
theorem wpO_appS {o : Oper} {a : Act} {w : World} {K : Act → World → Prop} {Q : Exit → Act → World → Prop} (s x : Operand)
    (ho : o.op = .call { callee := .builtin .append, args := #[s, x], argTypes := #[22, 22] }) (z : Nat) (hs : a.eval s = .slice (some ⟨z, 0, none⟩) 0 0)
    (u : Value) (ss : List ByteArray) (hx : a.eval x = u) (hr : ReadsT w u ss) (hlen : ss.length ≤ 1000000)
    (h : ∀ v' w', ReadsT w' v' ss → Below w.heap.size w w' → K (a.put o.dst v') w') : o.wp Tryz.prog a w K Q := by
  obtain ⟨i0, hi, hz0, hz1, hz2⟩ := info_parts infoStr
  have hu := Tryz.underlying22
  rcases Nat.eq_zero_or_pos ss.length with h0 | h0
  · have hnil : ss = [] := List.eq_nil_of_length_eq_zero h0
    subst hnil
    obtain ⟨q, c, rfl⟩ := hr.form
    have hrun : (Builtin.append_ #[22, 22] o.type #[.slice (some ⟨z, 0, none⟩) 0 0, .slice q 0 c]).run Tryz.prog w = .ok (.slice (some ⟨z, 0, none⟩) 0 0) w := by
      cases q <;> simp [Builtin.append_, run_underlying hu, sizeOf, typeInfo, hi, Builtin.lenOf, Builtin.firstCells, loadCells, loadCellsFrom, storeCells]
    unfold Oper.wp execOp
    simp only [ho, resolve, invoke, builtin, Sem.run_bind, Sem.run_pure, Result.andThen_ok, List.map_toArray, List.map_cons, List.map_nil, hs, hx]
    simp only [List.length_nil, hrun, Result.andThen_ok, Sem.run_pure]
    exact h _ w (.inl ⟨rfl, _, _, rfl⟩) (Below.refl _ _)
  · rcases hr with ⟨rfl, _⟩ | ⟨g, oo, c, rfl, hg, hc⟩
    · simp at h0
    · have hrun := run_append_grow (P := Tryz.prog) w 22 o.type 9 i0 (.string ⟨#[]⟩) hu hi hz0 ⟨z, 0, none⟩ 0 0 [] (by simp) (fun j v hj => by simp at hj) ⟨g, oo, none⟩ ss.length c (ss.map Value.string) (by rw [hz1]; simp)
        (fun j v hj => by
          rw [List.getElem?_map] at hj
          obtain ⟨y, hy, rfl⟩ := Option.map_eq_some_iff.1 hj
          rw [show (⟨g, oo, none⟩ : Addr).add j = ⟨g, oo + j, none⟩ by unfold Addr.add; split <;> simp_all]
          exact hc j y hy) (by omega) (by omega) (growslice_fits (by omega) (by rw [hz2]; omega))
      unfold Oper.wp execOp
      simp only [ho, resolve, invoke, builtin, Sem.run_bind, Sem.run_pure, Result.andThen_ok, List.map_toArray, List.map_cons, List.map_nil, hs, hx, hrun]
      rw [Nat.zero_add]
      refine h _ _ (.inr ⟨w.heap.size, 0, _, rfl, by simp, fun k y hk => ?_⟩) ?_
      · rw [Nat.zero_add]
        refine (cell_of_row _ _ k _ _ (0, 0) (heap_alloc_new w.drew _)).trans ?_
        have hk1 := (List.getElem?_eq_some_iff.1 hk).1
        rw [Array.getElem?_append_left (by simpa using hk1)]
        simp [hk]
      · have hd : Below w.heap.size w w.drew := below_drewN (Below.refl _ _) 1
        exact hd.alloc (Nat.le_refl _) _
set_option maxHeartbeats 16000000 in
theorem lawGuesses (hs : ByteArray) (ps bl : Int) (ss : List ByteArray) (u : Value) (own : Bool) (vl : Int) (aq : Nat) (w : World) (hr : ReadsT w u ss) (hl : ss.length ≤ maxLen) (hss : ∀ s ∈ ss, s.size ≤ maxLen) (hhs : hs.size ≤ maxLen) (hps : -9223372036854775808 ≤ ps ∧ ps ≤ 9223372036854775807) (hbl : -9223372036854775808 ≤ bl ∧ bl ≤ 9223372036854775807) (hvl : -9223372036854775808 ≤ vl ∧ vl ≤ 9223372036854775807) (haq : aq < 256) (L : LaidW w) :
    Calls Tryz.prog 3 #[.agg #[.string hs, .int .i64 ps, .int .i64 bl, u, .bool own, .int .i64 vl, .int .u8 ((aq : Nat) : Int)]] w fun e w' => e = .returned (.bool true) ∧ Below w.heap.size w w' := by
  obtain ⟨p, cc, rfl⟩ := hr.form
  obtain ⟨m, hm⟩ : ∃ m, ss.length = m := ⟨_, rfl⟩
  obtain ⟨lh, hlh⟩ : ∃ n, hs.size = n := ⟨_, rfl⟩
  unfold maxLen at hl hhs
  rw [hm] at hr hl ⊢
  rw [hlh] at hhs
  have hx := heap_alloc_new w (.cells #[.string hs, .int .i64 ps, .int .i64 bl, .slice p m cc, .bool own, .int .i64 vl, .int .u8 ((aq : Nat) : Int)] 24)
  have hal : Below w.heap.size w (w.alloc (.cells #[.string hs, .int .i64 ps, .int .i64 bl, .slice p m cc, .bool own, .int .i64 vl, .int .u8 ((aq : Nat) : Int)] 24)) := (Below.refl _ _).alloc (Nat.le_refl _) _
  have HX := hid (And.intro hx hal)
  have HR := hid hr
  have HM := hid hm
  have HLL := hid L
  have HSM := hid hss
  clear hx hal hr hm hss L
  go_enter Tryz.func3, Tryz.ntmps3
  go_upto_region 1 with fail
  generalize w.alloc (.cells #[.string hs, .int .i64 ps, .int .i64 bl, .slice p m cc, .bool own, .int .i64 vl, .int .u8 ((aq : Nat) : Int)] 24) = W0 at HX ⊢
  obtain ⟨bx, hbx⟩ : ∃ b, w.heap.size = b := ⟨_, rfl⟩
  rw [hbx] at HX ⊢
  have HBX := hid hbx
  have HK := hid (known_c W0 (HLL.out.below (hbx.symm ▸ HX.out.2)))
  have hbs : bx ≤ W0.heap.size := hbx ▸ HX.out.2.size
  have k0 := cell_of_row _ _ 0 _ _ _ HX.out.1
  have k1 := cell_of_row _ _ 1 _ _ _ HX.out.1
  have k2 := cell_of_row _ _ 2 _ _ _ HX.out.1
  have k3 := cell_of_row _ _ 3 _ _ _ HX.out.1
  have k4 := cell_of_row _ _ 4 _ _ _ HX.out.1
  clear hbx
  by_cases h20 : 20 < m
  · as_aux_lemma =>
    have d1 : decide ((20 : Int) < ((m : Nat) : Int)) = true := decide_eq_true (by omega)
    have d2 : decide (20 < m) = true := decide_eq_true h20
    go_wp2_with (go_at_call 7; refine HK.out.mono ?_; rintro e w2 ⟨rfl, hb2⟩; have HB2 := hid (HX.out.2.trans (hb2.mono hbs)); clear hb2)
    go_ret
    exact ⟨rfl, by rw [HBX.out]; exact HB2.out⟩
  · have d1 : decide ((20 : Int) < ((m : Nat) : Int)) = false := decide_eq_false (by omega)
    have d2 : decide (20 < m) = false := decide_eq_false h20
    by_cases h100 : 100 < lh
    · as_aux_lemma =>
      have d3 : decide ((100 : Int) < ((lh : Nat) : Int)) = true := decide_eq_true (by omega)
      have d4 : decide (100 < lh) = true := decide_eq_true h100
      go_wp2_with (go_at_call 7; refine HK.out.mono ?_; rintro e w2 ⟨rfl, hb2⟩; have HB2 := hid (HX.out.2.trans (hb2.mono hbs)); clear hb2)
      go_ret
      exact ⟨rfl, by rw [HBX.out]; exact HB2.out⟩
    · have d3 : decide ((100 : Int) < ((lh : Nat) : Int)) = false := decide_eq_false (by omega)
      have d4 : decide (100 < lh) = false := decide_eq_false h100
      go_wp2_with fail
      go_loopw [3] (fun ix wr => ∃ i : Nat, i ≤ m ∧ ix = .int .i64 ((i : Nat) : Int) ∧ wr = W0 ∧ Aside (∀ s ∈ ss.take i, s.size ≤ 100)) (fun ix _ => m - (intOf ix).toNat)
      case atStart => exact ⟨0, by omega, rfl, rfl, fun s h => by simp at h⟩
      case round =>
        obtain ⟨i, hi, rfl, hwr, A⟩ := hrel
        subst wr
        rcases Nat.lt_or_ge i m with hlti | hge
        · as_aux_lemma =>
          have hin : decide (((i : Nat) : Int) < ((m : Nat) : Int)) = true := decide_eq_true (by omega)
          have hin' : ((i : Nat) : Int) < ((m : Nat) : Int) := by omega
          have hi0 : (0 : Int) ≤ ((i : Nat) : Int) := by omega
          have hiw : IntKind.i64.wrap (((i : Nat) : Int) + 1) = ((i + 1 : Nat) : Int) := (IntWalk.i64_in _ (by omega)).trans (by omega)
          obtain ⟨x, hx⟩ : ∃ x, ss[i]? = some x := ⟨_, List.getElem?_eq_getElem (by rw [HM.out]; exact hlti)⟩
          obtain ⟨bk, o, rfl, hbk, hc⟩ := HR.out.at' hx
          have hcr : W0.cell? ⟨bk, o + i, none⟩ = some (.string x) := (HX.out.2.cell (p := ⟨bk, o + i, none⟩) (HBX.out ▸ hbk)).trans hc
          obtain ⟨n, hn⟩ : ∃ n, x.size = n := ⟨_, rfl⟩
          have hnm : n ≤ 9223372036854775807 := by have := HSM.out x (List.mem_of_getElem? hx); unfold maxLen at this; omega
          by_cases hb : 100 < n
          · have c1 : decide ((100 : Int) < ((n : Nat) : Int)) = true := decide_eq_true (by omega)
            have c2 : decide (100 < n) = true := decide_eq_true hb
            clear hx hbk hc A
            go_wp2_with (go_at_call 7; refine HK.out.mono ?_; rintro e w2 ⟨rfl, hb2⟩; have HB2 := hid (HX.out.2.trans (hb2.mono hbs)); clear hb2)
            go_ret
            exact ⟨rfl, by rw [HBX.out]; exact HB2.out⟩
          · have c1 : decide ((100 : Int) < ((n : Nat) : Int)) = false := decide_eq_false (by omega)
            have c2 : decide (100 < n) = false := decide_eq_false hb
            have hA2 : ∀ s ∈ ss.take (i + 1), s.size ≤ 100 := fun s hs' => by
              rw [List.take_add_one, hx] at hs'
              rcases List.mem_append.1 hs' with hs' | hs'
              · exact A s hs'
              · simp at hs'
                rw [hs', hn]
                omega
            have HA2 := hid hA2
            clear hx hbk hc A hA2
            go_wp2_with fail
            go_roundw
            case rel => exact ⟨i + 1, by omega, rfl, trivial, HA2.out⟩
            case measure => simp only [intOf, Int.toNat_natCast]; omega
        · obtain rfl : m = i := by omega
          have hin : ¬ ((m : Nat) : Int) < ((m : Nat) : Int) := by omega
          have hinN : decide (m < m) = false := decide_eq_false (by omega)
          have hs100 : ∀ s ∈ ss, s.size ≤ 100 := fun s hs' => A s (by rw [List.take_of_length_le (by rw [HM.out]; exact hge)]; exact hs')
          have HSZ := hid hs100
          clear A hs100
          have h0m : m ≤ 20 := by omega
          by_cases hg : 0 < bl ∧ bl ≤ 1000000000 ∧ 1000 < ((m : Nat) : Int) * bl ∧ ((m : Nat) : Int) * bl ≤ 100000
          · as_aux_lemma =>
            obtain ⟨mb, hmb⟩ : ∃ z, ((m : Nat) : Int) * bl = z := ⟨_, rfl⟩
            rw [hmb] at hg
            have c1 : decide ((0 : Int) < bl) = true := decide_eq_true hg.1
            have c2 : decide (bl ≤ 1000000000) = true := decide_eq_true hg.2.1
            have c3 : decide ((1000 : Int) < mb) = true := decide_eq_true hg.2.2.1
            have c4 : decide (mb ≤ 100000) = true := decide_eq_true hg.2.2.2
            have cw : IntKind.i64.wrap (((m : Nat) : Int) * bl) = mb := by rw [hmb]; exact IntWalk.i64_in _ (by omega)
            clear hmb
            go_wp2_with (go_at_call 7; refine HK.out.mono ?_; rintro e w2 ⟨rfl, hb2⟩; have HB2 := hid (HX.out.2.trans (hb2.mono hbs)); clear hb2)
            go_ret
            exact ⟨rfl, by rw [HBX.out]; exact HB2.out⟩
          · go_upto_region 8 with fail
            go_cut [61] from 36 to 61 (fun c wx => c = .bool false ∧ wx = W0)
            case first => as_aux_lemma =>
              by_cases h1 : 0 < bl
              · have c1 : decide ((0 : Int) < bl) = true := decide_eq_true h1
                by_cases h2 : bl ≤ 1000000000
                · have c2 : decide (bl ≤ 1000000000) = true := decide_eq_true h2
                  obtain ⟨bn, rfl⟩ : ∃ n : Nat, bl = n := ⟨bl.toNat, by omega⟩
                  have hmb : m * bn ≤ 20 * 1000000000 := Nat.mul_le_mul h0m (by omega)
                  rw [← Int.natCast_mul] at hg
                  obtain ⟨mb, hmb2⟩ : ∃ z, m * bn = z := ⟨_, rfl⟩
                  rw [hmb2] at hg hmb
                  have cw : IntKind.i64.wrap (((m : Nat) : Int) * ((bn : Nat) : Int)) = ((mb : Nat) : Int) := by rw [← Int.natCast_mul, hmb2]; exact IntWalk.i64_in _ (by omega)
                  clear hmb2
                  by_cases h3 : 1000 < mb
                  · have c3 : decide ((1000 : Int) < ((mb : Nat) : Int)) = true := decide_eq_true (by omega)
                    have c3N : decide (1000 < mb) = true := decide_eq_true h3
                    have c4 : decide (((mb : Nat) : Int) ≤ 100000) = false := decide_eq_false (by omega)
                    have c4N : decide (mb ≤ 100000) = false := decide_eq_false (by omega)
                    go_wp2_with fail
                    go_meet
                    case rel => exact ⟨rfl, rfl⟩
                  · have c3 : decide ((1000 : Int) < ((mb : Nat) : Int)) = false := decide_eq_false (by omega)
                    have c3N : decide (1000 < mb) = false := decide_eq_false h3
                    go_wp2_with fail
                    go_meet
                    case rel => exact ⟨rfl, rfl⟩
                · have c2 : decide (bl ≤ 1000000000) = false := decide_eq_false h2
                  go_wp2_with fail
                  go_meet
                  case rel => exact ⟨rfl, rfl⟩
              · have c1 : decide ((0 : Int) < bl) = false := decide_eq_false h1
                go_wp2_with fail
                go_meet
                case rel => exact ⟨rfl, rfl⟩
            case rest => as_aux_lemma =>
              obtain ⟨rfl, hwc⟩ := hcut
              subst wc
              clear hg
              obtain ⟨zz, hzz⟩ : ∃ zz, (own && decide (0 < m)) = zz := ⟨_, rfl⟩
              go_upto_region 11 with fail
              go_cut [72] from 65 to 72 (fun c wx => c = .bool zz ∧ wx = W0)
              case first => as_aux_lemma =>
                cases own with
                | false =>
                  obtain rfl : false = zz := hzz
                  go_wp2_with fail
                  go_meet
                  case rel => exact ⟨rfl, rfl⟩
                | true =>
                  rw [Bool.true_and] at hzz
                  rcases Nat.eq_zero_or_pos m with hm0 | hm0
                  · subst hm0
                    obtain rfl : false = zz := hzz
                    go_wp2_with fail
                    go_meet
                    case rel => exact ⟨rfl, rfl⟩
                  · have c0 : decide ((0 : Int) < ((m : Nat) : Int)) = true := decide_eq_true (by omega)
                    have c0N : decide (0 < m) = true := decide_eq_true hm0
                    obtain rfl : true = zz := by rw [← hzz, c0N]
                    go_wp2_with fail
                    go_meet
                    case rel => exact ⟨rfl, rfl⟩
              obtain ⟨rfl, hwc⟩ := hcut
              subst wc
              go_upto_if 72 with fail
              go_cut [4, 5] from 73 to 93 (fun h h5 wx => ∃ hq : ByteArray, h = .string hq ∧ hq.size ≤ 100 ∧ Below W0.heap.size W0 wx)
              case first => as_aux_lemma =>
                cases zz with
                | false =>
                  go_wp2_with fail
                  go_meet
                  case rel => exact ⟨hs, rfl, by rw [hlh]; omega, Below.refl _ _⟩
                | true =>
                  rw [Bool.and_eq_true, decide_eq_true_eq] at hzz
                  have hm0 := hzz.2
                  obtain ⟨jj, hjj⟩ : ∃ j, aq % m = j := ⟨_, rfl⟩
                  have hjm : jj < m := hjj ▸ Nat.mod_lt _ hm0
                  obtain ⟨x, hx⟩ : ∃ x, ss[jj]? = some x := ⟨_, List.getElem?_eq_getElem (by rw [HM.out]; exact hjm)⟩
                  obtain ⟨bk, o, hpe, hbk, hc⟩ := HR.out.at' hx
                  have hx100 := HSZ.out x (List.mem_of_getElem? hx)
                  have htm : Int.tmod ((aq : Nat) : Int) ((m : Nat) : Int) = ((jj : Nat) : Int) := by rw [tmod_nat, hjj]
                  have hwj : IntKind.i64.wrap ((jj : Nat) : Int) = ((jj : Nat) : Int) := IntWalk.i64_in _ (by omega)
                  have hmI : ((m : Nat) : Int) ≠ 0 := by omega
                  have hid0 : ∀ w', Below W0.heap.size W0 w' → w'.heap[bx]? = some (.cells #[.string hs, .int .i64 ps, .int .i64 bl, .slice p m cc, .bool own, .int .i64 vl, .int .u8 ((aq : Nat) : Int)] 24 (0, 0)) ∧ w'.cell? ⟨bk, o + jj, none⟩ = some (.string x) := fun w' hb' =>
                    ⟨heap_below hb' HX.out.1 (heap_lt HX.out.1), ((HX.out.2.trans (hb'.mono hbs)).cell (p := ⟨bk, o + jj, none⟩) (HBX.out ▸ hbk)).trans hc⟩
                  have HPE := hid hpe
                  clear hx hbk hc hpe hjj hzz
                  go_upto_region 12 with fail
                  refine grow_region 17 [73, 74, 75, 76, 77, 78, 79, 80, 81, 82, 83, 84, 85, 86, 87, 88, 5] (by kernel_rfl) (by kernel_rfl) (DK 16 [(.pointer (some ⟨bx, 1, none⟩)), (.int .i64 ps), (.pointer (some ⟨bx, 5, none⟩)), (.int .i64 vl), (.pointer (some ⟨bx, 3, none⟩)), (.slice p m cc), (.pointer (some ⟨bx, 6, none⟩)), (.int .u8 ((aq : Nat) : Int)), (.int .i64 ((aq : Nat) : Int)), (.pointer (some ⟨bx, 3, none⟩)), (.slice p m cc), (.int .i64 ((m : Nat) : Int)), (.int .i64 ((jj : Nat) : Int)), (.pointer (some ⟨bk, o + jj, none⟩)), (.string x), (.agg #[.int .i64 ps, .int .i64 vl, .string x])] (BoxNew W0.heap.size)) (fun _ _ _ => False) (DK.mono (BoxNew.mono _)) (fun _ _ _ _ _ h => h.elim) ?_ ?_
                  · intro jq oj hjq hoj a' w' hb' he hdep K hK
                    obtain ⟨c0, c1⟩ := hid0 w' hb'
                    rcases (show jq = 0 ∨ jq = 1 ∨ jq = 2 ∨ jq = 3 ∨ jq = 4 ∨ jq = 5 ∨ jq = 6 ∨ jq = 7 ∨ jq = 8 ∨ jq = 9 ∨ jq = 10 ∨ jq = 11 ∨ jq = 12 ∨ jq = 13 ∨ jq = 14 ∨ jq = 15 ∨ jq = 16 by omega) with rfl | rfl | rfl | rfl | rfl | rfl | rfl | rfl | rfl | rfl | rfl | rfl | rfl | rfl | rfl | rfl | rfl
                    · obtain rfl := Option.some.inj hoj
                      exact wpO_val _ (exec_fldX 1 rfl ((he 1 (by decide)).trans rfl : a'.eval (.tmp 1) = (.pointer (some ⟨bx, 0, none⟩))) (by simp)) (hK _ _ (Below.refl _ _) rfl (fun b h => h.elim))
                    · obtain rfl := Option.some.inj hoj
                      exact wpO_val _ (exec_ldcellB rfl ((hdep ⟨0, .data⟩ (by simp) rfl : DK _ _ _ 0 _ _) : a'.eval (.tmp 73) = (.pointer (some ⟨bx, 1, none⟩))) (cell_of_row _ _ 1 _ _ _ c0)) (hK _ _ (Below.refl _ _) rfl (fun b h => h.elim))
                    · obtain rfl := Option.some.inj hoj
                      exact wpO_val _ (exec_fldX 5 rfl ((he 1 (by decide)).trans rfl : a'.eval (.tmp 1) = (.pointer (some ⟨bx, 0, none⟩))) (by simp)) (hK _ _ (Below.refl _ _) rfl (fun b h => h.elim))
                    · obtain rfl := Option.some.inj hoj
                      exact wpO_val _ (exec_ldcellB rfl ((hdep ⟨2, .data⟩ (by simp) rfl : DK _ _ _ 2 _ _) : a'.eval (.tmp 75) = (.pointer (some ⟨bx, 5, none⟩))) (cell_of_row _ _ 5 _ _ _ c0)) (hK _ _ (Below.refl _ _) rfl (fun b h => h.elim))
                    · obtain rfl := Option.some.inj hoj
                      exact wpO_val _ (exec_fldX 3 rfl ((he 1 (by decide)).trans rfl : a'.eval (.tmp 1) = (.pointer (some ⟨bx, 0, none⟩))) (by simp)) (hK _ _ (Below.refl _ _) rfl (fun b h => h.elim))
                    · obtain rfl := Option.some.inj hoj
                      exact wpO_val _ (exec_ldstrs rfl ((hdep ⟨4, .data⟩ (by simp) rfl : DK _ _ _ 4 _ _) : a'.eval (.tmp 77) = (.pointer (some ⟨bx, 3, none⟩))) (cell_of_row _ _ 3 _ _ _ c0)) (hK _ _ (Below.refl _ _) rfl (fun b h => h.elim))
                    · obtain rfl := Option.some.inj hoj
                      exact wpO_val _ (exec_fldX 6 rfl ((he 1 (by decide)).trans rfl : a'.eval (.tmp 1) = (.pointer (some ⟨bx, 0, none⟩))) (by simp)) (hK _ _ (Below.refl _ _) rfl (fun b h => h.elim))
                    · obtain rfl := Option.some.inj hoj
                      exact wpO_val _ (exec_ldu8 rfl ((hdep ⟨6, .data⟩ (by simp) rfl : DK _ _ _ 6 _ _) : a'.eval (.tmp 79) = (.pointer (some ⟨bx, 6, none⟩))) (cell_of_row _ _ 6 _ _ _ c0)) (hK _ _ (Below.refl _ _) rfl (fun b h => h.elim))
                    · obtain rfl := Option.some.inj hoj
                      exact wpO_val _ (exec_cv8 rfl ((hdep ⟨7, .data⟩ (by simp) rfl : DK _ _ _ 7 _ _) : a'.eval (.tmp 80) = (.int .u8 ((aq : Nat) : Int))) haq) (hK _ _ (Below.refl _ _) rfl (fun b h => h.elim))
                    · obtain rfl := Option.some.inj hoj
                      exact wpO_val _ (exec_fldX 3 rfl ((he 1 (by decide)).trans rfl : a'.eval (.tmp 1) = (.pointer (some ⟨bx, 0, none⟩))) (by simp)) (hK _ _ (Below.refl _ _) rfl (fun b h => h.elim))
                    · obtain rfl := Option.some.inj hoj
                      exact wpO_val _ (exec_ldstrs rfl ((hdep ⟨9, .data⟩ (by simp) rfl : DK _ _ _ 9 _ _) : a'.eval (.tmp 82) = (.pointer (some ⟨bx, 3, none⟩))) (cell_of_row _ _ 3 _ _ _ c0)) (hK _ _ (Below.refl _ _) rfl (fun b h => h.elim))
                    · obtain rfl := Option.some.inj hoj
                      exact wpO_val _ (exec_lenS rfl ((hdep ⟨10, .data⟩ (by simp) rfl : DK _ _ _ 10 _ _) : a'.eval (.tmp 83) = (.slice p m cc))) (hK _ _ (Below.refl _ _) rfl (fun b h => h.elim))
                    · obtain rfl := Option.some.inj hoj
                      exact wpO_val _ (exec_rem rfl ((hdep ⟨8, .data⟩ (by simp) rfl : DK _ _ _ 8 _ _) : a'.eval (.tmp 81) = (.int .i64 ((aq : Nat) : Int))) ((hdep ⟨11, .data⟩ (by simp) rfl : DK _ _ _ 11 _ _) : a'.eval (.tmp 84) = (.int .i64 ((m : Nat) : Int))) hmI htm hwj) (hK _ _ (Below.refl _ _) rfl (fun b h => h.elim))
                    · obtain rfl := Option.some.inj hoj
                      exact wpO_val _ (exec_ixT rfl ((hdep ⟨5, .data⟩ (by simp) rfl : DK _ _ _ 5 _ _) : a'.eval (.tmp 78) = (.slice p m cc)) ((hdep ⟨12, .data⟩ (by simp) rfl : DK _ _ _ 12 _ _) : a'.eval (.tmp 85) = (.int .i64 ((jj : Nat) : Int))) HPE.out hjm) (hK _ _ (Below.refl _ _) rfl (fun b h => h.elim))
                    · obtain rfl := Option.some.inj hoj
                      exact wpO_val _ (exec_ldstrB rfl ((hdep ⟨13, .data⟩ (by simp) rfl : DK _ _ _ 13 _ _) : a'.eval (.tmp 86) = (.pointer (some ⟨bk, o + jj, none⟩))) c1) (hK _ _ (Below.refl _ _) rfl (fun b h => h.elim))
                    · obtain rfl := Option.some.inj hoj
                      exact wpO_val _ (exec_build rfl ((hdep ⟨1, .data⟩ (by simp) rfl : DK _ _ _ 1 _ _) : a'.eval (.tmp 74) = (.int .i64 ps)) ((hdep ⟨3, .data⟩ (by simp) rfl : DK _ _ _ 3 _ _) : a'.eval (.tmp 76) = (.int .i64 vl)) ((hdep ⟨14, .data⟩ (by simp) rfl : DK _ _ _ 14 _ _) : a'.eval (.tmp 87) = (.string x))) (hK _ _ (Below.refl _ _) rfl (fun b h => h.elim))
                    · obtain rfl := Option.some.inj hoj
                      exact wpO_val _ (exec_allocBox rfl) (hK _ _ ((Below.refl _ _).alloc (Nat.le_refl _) _) ⟨_, hb'.size, rfl, heap_alloc_new w' _⟩ (fun b h => h.elim))
                  intro vq w6 hb6 hD _ _
                  have hv0 : vq 0 = (.pointer (some ⟨bx, 1, none⟩)) := hD 0 (by omega)
                  have hv1 : vq 1 = (.int .i64 ps) := hD 1 (by omega)
                  have hv2 : vq 2 = (.pointer (some ⟨bx, 5, none⟩)) := hD 2 (by omega)
                  have hv3 : vq 3 = (.int .i64 vl) := hD 3 (by omega)
                  have hv4 : vq 4 = (.pointer (some ⟨bx, 3, none⟩)) := hD 4 (by omega)
                  have hv5 : vq 5 = (.slice p m cc) := hD 5 (by omega)
                  have hv6 : vq 6 = (.pointer (some ⟨bx, 6, none⟩)) := hD 6 (by omega)
                  have hv7 : vq 7 = (.int .u8 ((aq : Nat) : Int)) := hD 7 (by omega)
                  have hv8 : vq 8 = (.int .i64 ((aq : Nat) : Int)) := hD 8 (by omega)
                  have hv9 : vq 9 = (.pointer (some ⟨bx, 3, none⟩)) := hD 9 (by omega)
                  have hv10 : vq 10 = (.slice p m cc) := hD 10 (by omega)
                  have hv11 : vq 11 = (.int .i64 ((m : Nat) : Int)) := hD 11 (by omega)
                  have hv12 : vq 12 = (.int .i64 ((jj : Nat) : Int)) := hD 12 (by omega)
                  have hv13 : vq 13 = (.pointer (some ⟨bk, o + jj, none⟩)) := hD 13 (by omega)
                  have hv14 : vq 14 = (.string x) := hD 14 (by omega)
                  have hv15 : vq 15 = (.agg #[.int .i64 ps, .int .i64 vl, .string x]) := hD 15 (by omega)
                  obtain ⟨z, hzn, hv16, hz⟩ : ∃ z, W0.heap.size ≤ z ∧ vq 16 = .pointer (some ⟨z, 0, none⟩) ∧ w6.heap[z]? = some (.cells #[.int .i64 0, .int .i64 0, .string ⟨#[]⟩] 27 (0, 0)) := hD 16 (by omega)
                  simp only [puts, Act.put, List.setIfInBounds_toArray, List.set_cons_zero, List.set_cons_succ, hv0, hv1, hv2, hv3, hv4, hv5, hv6, hv7, hv8, hv9, hv10, hv11, hv12, hv13, hv14, hv15, hv16, List.drop_succ_cons, List.drop_zero, Nat.zero_add, Nat.reduceAdd]
                  have HZ := hid hz
                  have HB6 := hid hb6
                  clear hD hz hb6 hid0 hv0 hv1 hv2 hv3 hv4 hv5 hv6 hv7 hv8 hv9 hv10 hv11 hv12 hv13 hv14 hv15 hv16
                  go_upto_region 13 with (refine wpList_store_row rfl 27 (.tmp 5) (.tmp 88) rfl z #[.int .i64 ps, .int .i64 vl, .string x] rfl rfl 27 _ HZ.out (show (Tryz.prog.info? 27).map (·.size) = some 3 by kernel_rfl) rfl (box_one _ _ _) ?_)
                  have hz7 : (w6.setRow z #[.int .i64 ps, .int .i64 vl, .string x]).heap[z]? = _ := setRow_at HZ.out
                  have hb7 : Below W0.heap.size W0 (w6.setRow z #[.int .i64 ps, .int .i64 vl, .string x]) := HB6.out.trans (setRow_below hzn)
                  generalize w6.setRow z #[.int .i64 ps, .int .i64 vl, .string x] = w7 at hz7 hb7 ⊢
                  have HW7 := hid (And.intro hz7 hb7)
                  have f0 := cell_of_row _ _ 0 _ _ _ hz7
                  have f1 := cell_of_row _ _ 1 _ _ _ hz7
                  have f2 := cell_of_row _ _ 2 _ _ _ hz7
                  have HBO := hid (rbox_c ps vl x (by omega) w7)
                  clear hz7 hb7 HB6 HZ hzn
                  cases hbox : isBoxL ps vl x.data.toList with
                  | false =>
                    rw [hbox] at HBO
                    go_wp2_with (go_at_call 8; refine HBO.out.mono ?_; rintro e w8 ⟨rfl, hb8⟩; have HB8 := hid (HW7.out.2.trans (hb8.mono HW7.out.2.size)); clear hb8)
                    go_meet
                    case rel => exact ⟨hs, rfl, by rw [hlh]; omega, HB8.out⟩
                  | true =>
                    rw [hbox] at HBO
                    have hbx2 := hbox
                    rw [isBoxL, Bool.and_eq_true, Bool.and_eq_true, Bool.and_eq_true, Bool.and_eq_true, decide_eq_true_eq, decide_eq_true_eq, decide_eq_true_eq, decide_eq_true_eq] at hbx2
                    obtain ⟨pn, rfl⟩ : ∃ n : Nat, ps = n := ⟨ps.toNat, by omega⟩
                    obtain ⟨vn, rfl⟩ : ∃ n : Nat, vl = n := ⟨vl.toNat, by omega⟩
                    have HTX := hid (fun W => rtext_c pn vn (by omega) (by omega) x (by omega) W)
                    have HHA := hid (fun W => rhash_c ⟨(boxL ((pn : Nat) : Int) ((vn : Nat) : Int) x.data.toList).toArray⟩ (box_size pn vn (by omega) (by omega) x hbx2.2.2) W)
                    obtain ⟨tx, htx⟩ : ∃ t : ByteArray, ⟨(boxL ((pn : Nat) : Int) ((vn : Nat) : Int) x.data.toList).toArray⟩ = t := ⟨_, rfl⟩
                    obtain ⟨hx3, hhx⟩ : ∃ t : ByteArray, ⟨(hashL (boxL ((pn : Nat) : Int) ((vn : Nat) : Int) x.data.toList)).toArray⟩ = t := ⟨_, rfl⟩
                    have hx16 : hx3.size ≤ 100 := by
                      rw [← hhx]
                      show (hashL _).toArray.size ≤ 100
                      rw [List.size_toArray, hashL, hex16, hexK_len]
                      omega
                    rw [hhx] at HHA
                    rw [htx] at HTX HHA
                    clear hbox hbx2 htx hhx
                    go_upto_region 14 with (go_at_call 8; refine HBO.out.mono ?_; rintro e w8 ⟨rfl, hb8⟩; have HW8 := hid (And.intro (heap_below hb8 HW7.out.1 (heap_lt HW7.out.1)) (HW7.out.2.trans (hb8.mono HW7.out.2.size))); clear hb8)
                    clear f0 f1 f2
                    have f0 := cell_of_row _ _ 0 _ _ _ HW8.out.1
                    have f1 := cell_of_row _ _ 1 _ _ _ HW8.out.1
                    have f2 := cell_of_row _ _ 2 _ _ _ HW8.out.1
                    go_wp2_with (first
                      | (go_at_call 10; refine (HTX.out _).mono ?_; rintro e w9 ⟨rfl, hb9⟩; have HW9 := hid (HW8.out.2.trans (hb9.mono HW8.out.2.size)); clear hb9)
                      | (go_at_call 9; refine (HHA.out _).mono ?_; rintro e w10 ⟨rfl, hb10⟩; have HW10 := hid (HW9.out.trans (hb10.mono HW9.out.size)); clear hb10))
                    go_meet
                    case rel => exact ⟨hx3, rfl, hx16, HW10.out⟩
              case rest => as_aux_lemma =>
                obtain ⟨hq, rfl, hq100, hbc⟩ := hcut
                have HBC := hid hbc
                have hsw := heap_below hbc HX.out.1 (heap_lt HX.out.1)
                have HSW := hid hsw
                have HBXL := hid (heap_lt hsw)
                have HWW := hid (show Below w.heap.size w wc from HBX.out ▸ HX.out.2.trans (hbc.mono hbs))
                have HRS := hid (show ∀ V, Below wc.heap.size wc V → ReadsT V (.slice p m cc) ss from fun V hV => HR.out.below (HWW.out.trans (hV.mono HWW.out.size)))
                have HLS := hid (show ss.length ≤ 1000000 by rw [HM.out]; omega)
                obtain ⟨⟨a0, a1, a2, a3⟩, hgx⟩ : ∃ x, gx hq ps bl ss = x := ⟨_, rfl⟩
                have HGU := hid (fun (v : Value) V (hv : ReadsT V v ss) (hV : Below wc.heap.size wc V) => by
                  have h := guess_c hq (by omega) ps bl v ss V hv HLS.out (fun s hs' => Nat.le_trans (HSZ.out s hs') (by decide)) (HLL.out.below (HWW.out.trans (hV.mono HWW.out.size)))
                  rw [hgx] at h
                  exact h)
                have HRG := hid (fun (v : Value) V (hv : ReadsT V v ss) => by
                  have h := rguess_c hq (by omega) ps bl v ss V hv HLS.out (fun s hs' => Nat.le_trans (HSZ.out s hs') (by decide))
                  rw [hgx] at h
                  exact h)
                simp only [gEnd] at HGU HRG
                clear hgx hbc hsw hq100 k0 k1 k2 k3 k4
                go_upto_region 15 with fail
                go_cut [6, 7] from 94 to 106 (fun b6 e7 wx => ∃ zq : Nat, b6 = .pointer (some ⟨zq, 0, none⟩) ∧ e7 = .int .i64 a3 ∧ wx.heap[zq]? = some (.cells #[.int .i64 a0, .int .i64 a1, .string a2] 27 (0, 0)) ∧ Below wc.heap.size wc wx)
                case first => as_aux_lemma =>
                  refine regD (fun Vw => Vw.heap[bx]? = some (.cells #[.string hs, .int .i64 ps, .int .i64 bl, .slice p m cc, .bool own, .int .i64 vl, .int .u8 ((aq : Nat) : Int)] 24 (0, 0))) (fun _ => true) (by kernel_rfl) ?_
                  have hbx0 : Below wc.heap.size wc wc.drew := below_drewN (Below.refl _ _) 1
                  have hsx0 : wc.drew.heap[bx]? = _ := heap_below hbx0 HSW.out (heap_lt HSW.out)
                  generalize wc.drew = x0 at hsx0 hbx0 ⊢
                  have hS := hsx0
                  refine takeE (i := 0) (.string hq) (d := some 95) rfl (by kernel_rfl) (by kernel_rfl) (by kernel_rfl) (by kernel_rfl) (fun _ _ _ h => h) rfl (fun W hSw => by exact exec_mv rfl rfl) hS rfl ?_
                  simp only [Act.put, List.setIfInBounds_toArray, List.set_cons_zero, List.set_cons_succ]
                  refine takeE (i := 1) (.pointer (some ⟨bx, 1, none⟩)) (d := some 96) rfl (by kernel_rfl) (by kernel_rfl) (by kernel_rfl) (by kernel_rfl) (fun _ _ _ h => h) rfl (fun W hSw => by exact exec_fldX 1 rfl rfl (by simp)) hS rfl ?_
                  simp only [Act.put, List.setIfInBounds_toArray, List.set_cons_zero, List.set_cons_succ]
                  refine takeE (i := 2) (.int .i64 ps) (d := some 97) rfl (by kernel_rfl) (by kernel_rfl) (by kernel_rfl) (by kernel_rfl) (fun _ _ _ h => h) rfl (fun W hSw => by exact exec_ldcellB rfl rfl (cell_of_row _ _ 1 _ _ _ hSw)) hS rfl ?_
                  simp only [Act.put, List.setIfInBounds_toArray, List.set_cons_zero, List.set_cons_succ]
                  refine takeE (i := 3) (.pointer (some ⟨bx, 2, none⟩)) (d := some 98) rfl (by kernel_rfl) (by kernel_rfl) (by kernel_rfl) (by kernel_rfl) (fun _ _ _ h => h) rfl (fun W hSw => by exact exec_fldX 2 rfl rfl (by simp)) hS rfl ?_
                  simp only [Act.put, List.setIfInBounds_toArray, List.set_cons_zero, List.set_cons_succ]
                  refine takeE (i := 4) (.int .i64 bl) (d := some 99) rfl (by kernel_rfl) (by kernel_rfl) (by kernel_rfl) (by kernel_rfl) (fun _ _ _ h => h) rfl (fun W hSw => by exact exec_ldcellB rfl rfl (cell_of_row _ _ 2 _ _ _ hSw)) hS rfl ?_
                  simp only [Act.put, List.setIfInBounds_toArray, List.set_cons_zero, List.set_cons_succ]
                  refine takeE (i := 6) (.pointer (some ⟨bx, 3, none⟩)) (d := some 101) rfl (by kernel_rfl) (by kernel_rfl) (by kernel_rfl) (by kernel_rfl) (fun _ _ _ h => h) rfl (fun W hSw => by exact exec_fldX 3 rfl rfl (by simp)) hS rfl ?_
                  simp only [Act.put, List.setIfInBounds_toArray, List.set_cons_zero, List.set_cons_succ]
                  refine takeE (i := 7) (.slice p m cc) (d := some 102) rfl (by kernel_rfl) (by kernel_rfl) (by kernel_rfl) (by kernel_rfl) (fun _ _ _ h => h) rfl (fun W hSw => by exact exec_ldstrs rfl rfl (cell_of_row _ _ 3 _ _ _ hSw)) hS rfl ?_
                  simp only [Act.put, List.setIfInBounds_toArray, List.set_cons_zero, List.set_cons_succ]
                  clear hS
                  refine stepD2 5 13 (by kernel_rfl) rfl rfl rfl rfl (fun K hK => ?_) (fun K hK => ?_)
                  · go_simp
                    have hal : Below x0.heap.size x0 (x0.alloc (.cells #[] 9)) := (Below.refl _ _).alloc (Nat.le_refl _) _
                    refine hK _ _ (fun _ => heap_below hal hsx0 (heap_lt hsx0)) ?_
                    clear hK K
                    obtain ⟨kk, hkk⟩ : ∃ k, x0.heap.size = k := ⟨_, rfl⟩
                    rw [hkk] at ⊢
                    generalize x0.alloc (.cells #[] 9) = x1 at hal ⊢
                    clear hkk
                    have hsx1 := heap_below hal hsx0 (heap_lt hsx0)
                    have hbx1 := hbx0.trans (hal.mono hbx0.size)
                    clear hsx0 hbx0 hal
                    refine stepD2 8 13 (by kernel_rfl) rfl rfl rfl rfl (fun K hK => ?_) (fun K hK => ?_)
                    · refine wpO_appS (.tmp 100) (.tmp 102) rfl kk rfl _ ss rfl (HRS.out x1 hbx1) HLS.out (fun vr x2 hrowx2 hb8 => hK _ _ (fun _ => heap_below hb8 hsx1 (heap_lt hsx1)) ?_)
                      clear hK K
                      have hsx2 := heap_below hb8 hsx1 (heap_lt hsx1)
                      have hbx2 := hbx1.trans (hb8.mono hbx1.size)
                      clear hsx1 hbx1 hb8
                      refine stepD2 9 13 (by kernel_rfl) rfl rfl rfl rfl (fun K hK => ?_) (fun K hK => ?_)
                      · go_simp
                        go_at_call 11
                        refine (HGU.out vr x2 hrowx2 hbx2).mono ?_
                        rintro e x3 ⟨rfl, hb9⟩
                        go_simp
                        refine hK _ _ (fun _ => heap_below hb9 hsx2 (heap_lt hsx2)) ?_
                        clear hK K
                        have hsx3 := heap_below hb9 hsx2 (heap_lt hsx2)
                        have hbx3 := hbx2.trans (hb9.mono hbx2.size)
                        have hrowx3 := hrowx2.below hb9
                        clear hsx2 hbx2 hrowx2 hb9
                        have hS := hsx3
                        refine takeE (i := 10) (.tuple #[.agg #[.int .i64 a0, .int .i64 a1, .string a2], .int .i64 a3]) (d := some 94) rfl (by kernel_rfl) (by kernel_rfl) (by kernel_rfl) (by kernel_rfl) (fun _ _ _ h => h) rfl (fun W hSw => by exact exec_mv rfl rfl) hS rfl ?_
                        simp only [Act.put, List.setIfInBounds_toArray, List.set_cons_zero, List.set_cons_succ]
                        refine takeE (i := 11) (.agg #[.int .i64 a0, .int .i64 a1, .string a2]) (d := some 105) rfl (by kernel_rfl) (by kernel_rfl) (by kernel_rfl) (by kernel_rfl) (fun _ _ _ h => h) rfl (fun W hSw => by exact exec_ext rfl rfl rfl) hS rfl ?_
                        simp only [Act.put, List.setIfInBounds_toArray, List.set_cons_zero, List.set_cons_succ]
                        refine takeE (i := 12) (.int .i64 a3) (d := some 106) rfl (by kernel_rfl) (by kernel_rfl) (by kernel_rfl) (by kernel_rfl) (fun _ _ _ h => h) rfl (fun W hSw => by exact exec_ext rfl rfl rfl) hS rfl ?_
                        simp only [Act.put, List.setIfInBounds_toArray, List.set_cons_zero, List.set_cons_succ]
                        refine stepD 13 (by kernel_rfl) rfl rfl (fun K hK => ?_)
                        go_simp
                        have hal : Below x3.heap.size x3 (x3.alloc (.cells #[.int .i64 0, .int .i64 0, .string ⟨#[]⟩] 27)) := (Below.refl _ _).alloc (Nat.le_refl _) _
                        have hnz := heap_alloc_new x3 (.cells #[.int .i64 0, .int .i64 0, .string ⟨#[]⟩] 27)
                        have hkn := hbx3.size
                        refine hK _ _ (fun _ => heap_below hal hsx3 (heap_lt hsx3)) ?_
                        clear hK K
                        have hsz : x3.heap.size = x3.heap.size := rfl
                        obtain ⟨zq, hzq⟩ : ∃ k, x3.heap.size = k := ⟨_, rfl⟩
                        rw [hzq] at hnz hkn ⊢
                        generalize x3.alloc (.cells #[.int .i64 0, .int .i64 0, .string ⟨#[]⟩] 27) = x4 at hal hnz ⊢
                        have HZQ := hid hkn
                        clear hkn hsz hzq
                        have hsx4 := heap_below hal hsx3 (heap_lt hsx3)
                        have hbx4 := hbx3.trans (hal.mono hbx3.size)
                        have hrowx4 := hrowx3.below hal
                        clear hsx3 hbx3 hrowx3 hal
                        have hzx4 := hnz
                        clear hnz
                        refine stepD 14 (by kernel_rfl) rfl rfl (fun K hK => ?_)
                        refine wp_store_row 27 (.tmp 6) (.tmp 105) rfl zq #[.int .i64 a0, .int .i64 a1, .string a2] rfl rfl 27 _ hzx4 (show (Tryz.prog.info? 27).map (·.size) = some 3 by kernel_rfl) rfl (by simp [Value.oneCell']) (hK _ _ (fun _ => (setRow_ne (show bx ≠ zq from (by have := HZQ.out; have := HBXL.out; omega))).trans hsx4) ?_)
                        clear hK K
                        have hsF := (setRow_ne (cs := #[.int .i64 a0, .int .i64 a1, .string a2]) (show bx ≠ zq from (by have := HZQ.out; have := HBXL.out; omega))).trans hsx4
                        have hzF : (x4.setRow zq #[.int .i64 a0, .int .i64 a1, .string a2]).heap[zq]? = _ := setRow_at hzx4
                        have hbF := hbx4.trans (setRow_below (cs := #[.int .i64 a0, .int .i64 a1, .string a2]) (W := x4) HZQ.out)
                        generalize x4.setRow zq #[.int .i64 a0, .int .i64 a1, .string a2] = wF at hsF hzF hbF ⊢
                        refine stepD 15 (by kernel_rfl) rfl rfl (fun K hK => ?_)
                        go_simp
                        refine hK _ _ (fun _ => hsF) ?_
                        clear hK K
                        refine doneD (by kernel_rfl) ?_ _
                        refine OnlyNorm.normal ?_
                        first | go_meet | (go_step; go_meet) | (go_step; go_step; go_meet)
                        case rel => exact ⟨zq, rfl, rfl, hzF, hbF⟩
                      · go_simp
                        have hal : Below x2.heap.size x2 (x2.alloc (.cells #[.int .i64 0, .int .i64 0, .string ⟨#[]⟩] 27)) := (Below.refl _ _).alloc (Nat.le_refl _) _
                        have hnz := heap_alloc_new x2 (.cells #[.int .i64 0, .int .i64 0, .string ⟨#[]⟩] 27)
                        have hkn := hbx2.size
                        refine hK _ _ (fun _ => heap_below hal hsx2 (heap_lt hsx2)) ?_
                        clear hK K
                        have hsz : x2.heap.size = x2.heap.size := rfl
                        obtain ⟨zq, hzq⟩ : ∃ k, x2.heap.size = k := ⟨_, rfl⟩
                        rw [hzq] at hnz hkn ⊢
                        generalize x2.alloc (.cells #[.int .i64 0, .int .i64 0, .string ⟨#[]⟩] 27) = x3 at hal hnz ⊢
                        have HZQ := hid hkn
                        clear hkn hsz hzq
                        have hsx3 := heap_below hal hsx2 (heap_lt hsx2)
                        have hbx3 := hbx2.trans (hal.mono hbx2.size)
                        have hrowx3 := hrowx2.below hal
                        clear hsx2 hbx2 hrowx2 hal
                        have hzx3 := hnz
                        clear hnz
                        refine stepD 9 (by kernel_rfl) rfl rfl (fun K hK => ?_)
                        go_simp
                        go_at_call 11
                        refine (HGU.out vr x3 hrowx3 hbx3).mono ?_
                        rintro e x4 ⟨rfl, hb9⟩
                        go_simp
                        refine hK _ _ (fun _ => heap_below hb9 hsx3 (heap_lt hsx3)) ?_
                        clear hK K
                        have hsx4 := heap_below hb9 hsx3 (heap_lt hsx3)
                        have hbx4 := hbx3.trans (hb9.mono hbx3.size)
                        have hrowx4 := hrowx3.below hb9
                        have hzx4 := heap_below hb9 hzx3 (heap_lt hzx3)
                        clear hsx3 hbx3 hrowx3 hzx3 hb9
                        have hS := hsx4
                        refine takeE (i := 10) (.tuple #[.agg #[.int .i64 a0, .int .i64 a1, .string a2], .int .i64 a3]) (d := some 94) rfl (by kernel_rfl) (by kernel_rfl) (by kernel_rfl) (by kernel_rfl) (fun _ _ _ h => h) rfl (fun W hSw => by exact exec_mv rfl rfl) hS rfl ?_
                        simp only [Act.put, List.setIfInBounds_toArray, List.set_cons_zero, List.set_cons_succ]
                        refine takeE (i := 11) (.agg #[.int .i64 a0, .int .i64 a1, .string a2]) (d := some 105) rfl (by kernel_rfl) (by kernel_rfl) (by kernel_rfl) (by kernel_rfl) (fun _ _ _ h => h) rfl (fun W hSw => by exact exec_ext rfl rfl rfl) hS rfl ?_
                        simp only [Act.put, List.setIfInBounds_toArray, List.set_cons_zero, List.set_cons_succ]
                        refine takeE (i := 12) (.int .i64 a3) (d := some 106) rfl (by kernel_rfl) (by kernel_rfl) (by kernel_rfl) (by kernel_rfl) (fun _ _ _ h => h) rfl (fun W hSw => by exact exec_ext rfl rfl rfl) hS rfl ?_
                        simp only [Act.put, List.setIfInBounds_toArray, List.set_cons_zero, List.set_cons_succ]
                        refine stepD 14 (by kernel_rfl) rfl rfl (fun K hK => ?_)
                        refine wp_store_row 27 (.tmp 6) (.tmp 105) rfl zq #[.int .i64 a0, .int .i64 a1, .string a2] rfl rfl 27 _ hzx4 (show (Tryz.prog.info? 27).map (·.size) = some 3 by kernel_rfl) rfl (by simp [Value.oneCell']) (hK _ _ (fun _ => (setRow_ne (show bx ≠ zq from (by have := HZQ.out; have := HBXL.out; omega))).trans hsx4) ?_)
                        clear hK K
                        have hsF := (setRow_ne (cs := #[.int .i64 a0, .int .i64 a1, .string a2]) (show bx ≠ zq from (by have := HZQ.out; have := HBXL.out; omega))).trans hsx4
                        have hzF : (x4.setRow zq #[.int .i64 a0, .int .i64 a1, .string a2]).heap[zq]? = _ := setRow_at hzx4
                        have hbF := hbx4.trans (setRow_below (cs := #[.int .i64 a0, .int .i64 a1, .string a2]) (W := x4) HZQ.out)
                        generalize x4.setRow zq #[.int .i64 a0, .int .i64 a1, .string a2] = wF at hsF hzF hbF ⊢
                        refine stepD 15 (by kernel_rfl) rfl rfl (fun K hK => ?_)
                        go_simp
                        refine hK _ _ (fun _ => hsF) ?_
                        clear hK K
                        refine doneD (by kernel_rfl) ?_ _
                        refine OnlyNorm.normal ?_
                        first | go_meet | (go_step; go_meet) | (go_step; go_step; go_meet)
                        case rel => exact ⟨zq, rfl, rfl, hzF, hbF⟩
                    · go_simp
                      have hal : Below x1.heap.size x1 (x1.alloc (.cells #[.int .i64 0, .int .i64 0, .string ⟨#[]⟩] 27)) := (Below.refl _ _).alloc (Nat.le_refl _) _
                      have hnz := heap_alloc_new x1 (.cells #[.int .i64 0, .int .i64 0, .string ⟨#[]⟩] 27)
                      have hkn := hbx1.size
                      refine hK _ _ (fun _ => heap_below hal hsx1 (heap_lt hsx1)) ?_
                      clear hK K
                      have hsz : x1.heap.size = x1.heap.size := rfl
                      obtain ⟨zq, hzq⟩ : ∃ k, x1.heap.size = k := ⟨_, rfl⟩
                      rw [hzq] at hnz hkn ⊢
                      generalize x1.alloc (.cells #[.int .i64 0, .int .i64 0, .string ⟨#[]⟩] 27) = x2 at hal hnz ⊢
                      have HZQ := hid hkn
                      clear hkn hsz hzq
                      have hsx2 := heap_below hal hsx1 (heap_lt hsx1)
                      have hbx2 := hbx1.trans (hal.mono hbx1.size)
                      clear hsx1 hbx1 hal
                      have hzx2 := hnz
                      clear hnz
                      refine stepD 8 (by kernel_rfl) rfl rfl (fun K hK => ?_)
                      refine wpO_appS (.tmp 100) (.tmp 102) rfl kk rfl _ ss rfl (HRS.out x2 hbx2) HLS.out (fun vr x3 hrowx3 hb8 => hK _ _ (fun _ => heap_below hb8 hsx2 (heap_lt hsx2)) ?_)
                      clear hK K
                      have hsx3 := heap_below hb8 hsx2 (heap_lt hsx2)
                      have hbx3 := hbx2.trans (hb8.mono hbx2.size)
                      have hzx3 := heap_below hb8 hzx2 (heap_lt hzx2)
                      clear hsx2 hbx2 hzx2 hb8
                      refine stepD 9 (by kernel_rfl) rfl rfl (fun K hK => ?_)
                      go_simp
                      go_at_call 11
                      refine (HGU.out vr x3 hrowx3 hbx3).mono ?_
                      rintro e x4 ⟨rfl, hb9⟩
                      go_simp
                      refine hK _ _ (fun _ => heap_below hb9 hsx3 (heap_lt hsx3)) ?_
                      clear hK K
                      have hsx4 := heap_below hb9 hsx3 (heap_lt hsx3)
                      have hbx4 := hbx3.trans (hb9.mono hbx3.size)
                      have hrowx4 := hrowx3.below hb9
                      have hzx4 := heap_below hb9 hzx3 (heap_lt hzx3)
                      clear hsx3 hbx3 hrowx3 hzx3 hb9
                      have hS := hsx4
                      refine takeE (i := 10) (.tuple #[.agg #[.int .i64 a0, .int .i64 a1, .string a2], .int .i64 a3]) (d := some 94) rfl (by kernel_rfl) (by kernel_rfl) (by kernel_rfl) (by kernel_rfl) (fun _ _ _ h => h) rfl (fun W hSw => by exact exec_mv rfl rfl) hS rfl ?_
                      simp only [Act.put, List.setIfInBounds_toArray, List.set_cons_zero, List.set_cons_succ]
                      refine takeE (i := 11) (.agg #[.int .i64 a0, .int .i64 a1, .string a2]) (d := some 105) rfl (by kernel_rfl) (by kernel_rfl) (by kernel_rfl) (by kernel_rfl) (fun _ _ _ h => h) rfl (fun W hSw => by exact exec_ext rfl rfl rfl) hS rfl ?_
                      simp only [Act.put, List.setIfInBounds_toArray, List.set_cons_zero, List.set_cons_succ]
                      refine takeE (i := 12) (.int .i64 a3) (d := some 106) rfl (by kernel_rfl) (by kernel_rfl) (by kernel_rfl) (by kernel_rfl) (fun _ _ _ h => h) rfl (fun W hSw => by exact exec_ext rfl rfl rfl) hS rfl ?_
                      simp only [Act.put, List.setIfInBounds_toArray, List.set_cons_zero, List.set_cons_succ]
                      refine stepD 14 (by kernel_rfl) rfl rfl (fun K hK => ?_)
                      refine wp_store_row 27 (.tmp 6) (.tmp 105) rfl zq #[.int .i64 a0, .int .i64 a1, .string a2] rfl rfl 27 _ hzx4 (show (Tryz.prog.info? 27).map (·.size) = some 3 by kernel_rfl) rfl (by simp [Value.oneCell']) (hK _ _ (fun _ => (setRow_ne (show bx ≠ zq from (by have := HZQ.out; have := HBXL.out; omega))).trans hsx4) ?_)
                      clear hK K
                      have hsF := (setRow_ne (cs := #[.int .i64 a0, .int .i64 a1, .string a2]) (show bx ≠ zq from (by have := HZQ.out; have := HBXL.out; omega))).trans hsx4
                      have hzF : (x4.setRow zq #[.int .i64 a0, .int .i64 a1, .string a2]).heap[zq]? = _ := setRow_at hzx4
                      have hbF := hbx4.trans (setRow_below (cs := #[.int .i64 a0, .int .i64 a1, .string a2]) (W := x4) HZQ.out)
                      generalize x4.setRow zq #[.int .i64 a0, .int .i64 a1, .string a2] = wF at hsF hzF hbF ⊢
                      refine stepD 15 (by kernel_rfl) rfl rfl (fun K hK => ?_)
                      go_simp
                      refine hK _ _ (fun _ => hsF) ?_
                      clear hK K
                      refine doneD (by kernel_rfl) ?_ _
                      refine OnlyNorm.normal ?_
                      first | go_meet | (go_step; go_meet) | (go_step; go_step; go_meet)
                      case rel => exact ⟨zq, rfl, rfl, hzF, hbF⟩
                  · go_simp
                    have hal : Below x0.heap.size x0 (x0.alloc (.cells #[.int .i64 0, .int .i64 0, .string ⟨#[]⟩] 27)) := (Below.refl _ _).alloc (Nat.le_refl _) _
                    have hnz := heap_alloc_new x0 (.cells #[.int .i64 0, .int .i64 0, .string ⟨#[]⟩] 27)
                    have hkn := hbx0.size
                    refine hK _ _ (fun _ => heap_below hal hsx0 (heap_lt hsx0)) ?_
                    clear hK K
                    have hsz : x0.heap.size = x0.heap.size := rfl
                    obtain ⟨zq, hzq⟩ : ∃ k, x0.heap.size = k := ⟨_, rfl⟩
                    rw [hzq] at hnz hkn ⊢
                    generalize x0.alloc (.cells #[.int .i64 0, .int .i64 0, .string ⟨#[]⟩] 27) = x1 at hal hnz ⊢
                    have HZQ := hid hkn
                    clear hkn hsz hzq
                    have hsx1 := heap_below hal hsx0 (heap_lt hsx0)
                    have hbx1 := hbx0.trans (hal.mono hbx0.size)
                    clear hsx0 hbx0 hal
                    have hzx1 := hnz
                    clear hnz
                    refine stepD 5 (by kernel_rfl) rfl rfl (fun K hK => ?_)
                    go_simp
                    have hal : Below x1.heap.size x1 (x1.alloc (.cells #[] 9)) := (Below.refl _ _).alloc (Nat.le_refl _) _
                    refine hK _ _ (fun _ => heap_below hal hsx1 (heap_lt hsx1)) ?_
                    clear hK K
                    obtain ⟨kk, hkk⟩ : ∃ k, x1.heap.size = k := ⟨_, rfl⟩
                    rw [hkk] at ⊢
                    generalize x1.alloc (.cells #[] 9) = x2 at hal ⊢
                    clear hkk
                    have hsx2 := heap_below hal hsx1 (heap_lt hsx1)
                    have hbx2 := hbx1.trans (hal.mono hbx1.size)
                    have hzx2 := heap_below hal hzx1 (heap_lt hzx1)
                    clear hsx1 hbx1 hzx1 hal
                    refine stepD 8 (by kernel_rfl) rfl rfl (fun K hK => ?_)
                    refine wpO_appS (.tmp 100) (.tmp 102) rfl kk rfl _ ss rfl (HRS.out x2 hbx2) HLS.out (fun vr x3 hrowx3 hb8 => hK _ _ (fun _ => heap_below hb8 hsx2 (heap_lt hsx2)) ?_)
                    clear hK K
                    have hsx3 := heap_below hb8 hsx2 (heap_lt hsx2)
                    have hbx3 := hbx2.trans (hb8.mono hbx2.size)
                    have hzx3 := heap_below hb8 hzx2 (heap_lt hzx2)
                    clear hsx2 hbx2 hzx2 hb8
                    refine stepD 9 (by kernel_rfl) rfl rfl (fun K hK => ?_)
                    go_simp
                    go_at_call 11
                    refine (HGU.out vr x3 hrowx3 hbx3).mono ?_
                    rintro e x4 ⟨rfl, hb9⟩
                    go_simp
                    refine hK _ _ (fun _ => heap_below hb9 hsx3 (heap_lt hsx3)) ?_
                    clear hK K
                    have hsx4 := heap_below hb9 hsx3 (heap_lt hsx3)
                    have hbx4 := hbx3.trans (hb9.mono hbx3.size)
                    have hrowx4 := hrowx3.below hb9
                    have hzx4 := heap_below hb9 hzx3 (heap_lt hzx3)
                    clear hsx3 hbx3 hrowx3 hzx3 hb9
                    have hS := hsx4
                    refine takeE (i := 10) (.tuple #[.agg #[.int .i64 a0, .int .i64 a1, .string a2], .int .i64 a3]) (d := some 94) rfl (by kernel_rfl) (by kernel_rfl) (by kernel_rfl) (by kernel_rfl) (fun _ _ _ h => h) rfl (fun W hSw => by exact exec_mv rfl rfl) hS rfl ?_
                    simp only [Act.put, List.setIfInBounds_toArray, List.set_cons_zero, List.set_cons_succ]
                    refine takeE (i := 11) (.agg #[.int .i64 a0, .int .i64 a1, .string a2]) (d := some 105) rfl (by kernel_rfl) (by kernel_rfl) (by kernel_rfl) (by kernel_rfl) (fun _ _ _ h => h) rfl (fun W hSw => by exact exec_ext rfl rfl rfl) hS rfl ?_
                    simp only [Act.put, List.setIfInBounds_toArray, List.set_cons_zero, List.set_cons_succ]
                    refine takeE (i := 12) (.int .i64 a3) (d := some 106) rfl (by kernel_rfl) (by kernel_rfl) (by kernel_rfl) (by kernel_rfl) (fun _ _ _ h => h) rfl (fun W hSw => by exact exec_ext rfl rfl rfl) hS rfl ?_
                    simp only [Act.put, List.setIfInBounds_toArray, List.set_cons_zero, List.set_cons_succ]
                    refine stepD 14 (by kernel_rfl) rfl rfl (fun K hK => ?_)
                    refine wp_store_row 27 (.tmp 6) (.tmp 105) rfl zq #[.int .i64 a0, .int .i64 a1, .string a2] rfl rfl 27 _ hzx4 (show (Tryz.prog.info? 27).map (·.size) = some 3 by kernel_rfl) rfl (by simp [Value.oneCell']) (hK _ _ (fun _ => (setRow_ne (show bx ≠ zq from (by have := HZQ.out; have := HBXL.out; omega))).trans hsx4) ?_)
                    clear hK K
                    have hsF := (setRow_ne (cs := #[.int .i64 a0, .int .i64 a1, .string a2]) (show bx ≠ zq from (by have := HZQ.out; have := HBXL.out; omega))).trans hsx4
                    have hzF : (x4.setRow zq #[.int .i64 a0, .int .i64 a1, .string a2]).heap[zq]? = _ := setRow_at hzx4
                    have hbF := hbx4.trans (setRow_below (cs := #[.int .i64 a0, .int .i64 a1, .string a2]) (W := x4) HZQ.out)
                    generalize x4.setRow zq #[.int .i64 a0, .int .i64 a1, .string a2] = wF at hsF hzF hbF ⊢
                    refine stepD 15 (by kernel_rfl) rfl rfl (fun K hK => ?_)
                    go_simp
                    refine hK _ _ (fun _ => hsF) ?_
                    clear hK K
                    refine doneD (by kernel_rfl) ?_ _
                    refine OnlyNorm.normal ?_
                    first | go_meet | (go_step; go_meet) | (go_step; go_step; go_meet)
                    case rel => exact ⟨zq, rfl, rfl, hzF, hbF⟩
                case rest => as_aux_lemma =>
                  obtain ⟨zq, rfl, rfl, hzq, hbq⟩ := hcut
                  rename_i wq
                  have hsq := heap_below hbq HSW.out (heap_lt HSW.out)
                  have k1 := cell_of_row _ _ 1 _ _ _ hsq
                  have k2 := cell_of_row _ _ 2 _ _ _ hsq
                  have k3 := cell_of_row _ _ 3 _ _ _ hsq
                  have HZQ := hid (And.intro hzq hbq)
                  have HRR := hid (HRG.out _ _ (HRS.out _ hbq))
                  clear hzq hbq hsq
                  go_upto_region 17 with (go_at_call 12; refine HRR.out.mono ?_; rintro e w5 ⟨rfl, hb5⟩; have HB5 := hid hb5; clear hb5)
                  have hbal : Below w5.heap.size w5 (w5.alloc (.cells #[.int .i64 a0, .int .i64 a1, .string a2] 27)) := (Below.refl _ _).alloc (Nat.le_refl _) _
                  have hz9 := heap_alloc_new w5 (.cells #[.int .i64 a0, .int .i64 a1, .string a2] 27)
                  have hz5 := heap_below HB5.out HZQ.out.1 (heap_lt HZQ.out.1)
                  have hz6 := heap_below hbal hz5 (heap_lt hz5)
                  have hb6 := HWW.out.trans ((HZQ.out.2.trans ((HB5.out.trans (hbal.mono HB5.out.size)).mono HZQ.out.2.size)).mono HWW.out.size)
                  obtain ⟨z9, hz9e⟩ : ∃ z, w5.heap.size = z := ⟨_, rfl⟩
                  rw [hz9e] at hz9 ⊢
                  generalize w5.alloc (.cells #[.int .i64 a0, .int .i64 a1, .string a2] 27) = w6 at hz9 hz6 hb6 ⊢
                  have HB6 := hid hb6
                  have HK6 := hid (known_c w6 (HLL.out.below hb6))
                  have f0 := cell_of_row _ _ 0 _ _ _ hz6
                  have f1 := cell_of_row _ _ 1 _ _ _ hz6
                  have f2 := cell_of_row _ _ 2 _ _ _ hz6
                  have j0 := cell_of_row _ _ 0 _ _ _ hz9
                  have j1 := cell_of_row _ _ 1 _ _ _ hz9
                  have j2 := cell_of_row _ _ 2 _ _ _ hz9
                  clear hbal hz5 hz6 hz9 hb6 hz9e k1 k2 k3
                  go_wp2_with (go_at_call 7; refine HK6.out.mono ?_; rintro e w7 ⟨rfl, hb7⟩; have HB7 := hid (HB6.out.trans (hb7.mono HB6.out.size)); clear hb7)
                  go_ret
                  exact ⟨rfl, HB7.out⟩
end Go.Proofs.YtbcileppebpamaaGreatDoor
