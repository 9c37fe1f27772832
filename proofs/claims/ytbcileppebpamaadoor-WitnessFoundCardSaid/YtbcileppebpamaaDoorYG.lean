/- Walk of law 11: WitnessFound. -/
import Derived.Test.YtbcileppebpamaaDoorYE
import Derived.Test.YtbcileppebpamaaDoorYA
set_option linter.unusedSimpArgs false
set_option linter.unusedVariables false
namespace Go.Proofs.YtbcileppebpamaaDoor
open Go Go.RowKit Go.Shelf
set_option maxRecDepth 100000

theorem StrRow.readsT {W : World} {B : Nat} {v : Value} {ls : List ByteArray} (h : StrRow W B v ls) : ReadsT W v ls := by
  rcases h.2 with ⟨rfl, h0⟩ | ⟨g, cap, cur, rfl, hBg, hg, hcap, _, _, htake⟩
  · exact .inl ⟨List.eq_nil_of_length_eq_zero h0, none, 0, rfl⟩
  · refine .inr ⟨g, 0, cap, rfl, heap_lt hg, fun j x hj => ?_⟩
    rw [Nat.zero_add, cell_of_row _ _ j _ _ (0, 0) hg]
    have hjl := (List.getElem?_eq_some_iff.1 hj).1
    have : (cur.toList.take (ls.length * 1))[j]? = (ls.map Value.string)[j]? := by rw [htake]
    rw [List.getElem?_take, if_pos (by omega), List.getElem?_map, hj] at this
    rw [← Array.getElem?_toList, this]
    rfl
theorem StrRow.made (W : World) (B : Nat) (hB : B ≤ W.heap.size) : StrRow (W.alloc (.cells #[] 9)) B (.slice (some ⟨W.heap.size, 0, none⟩) 0 0) [] := World.ownsRow_made W #[] 0 hB (by decide) rfl
theorem wpO_app_strs2 {o : Oper} {a : Act} {w : World} {K : Act → World → Prop} {Q : Exit → Act → World → Prop} (s x : Operand)
    (ho : o.op = .call { callee := .builtin .append, args := #[s, x], argTypes := #[67, 67] }) (B : Nat) (v : Value) (ls : List ByteArray) (hs : a.eval s = v) (hown : StrRow w B v ls)
    (g oo c : Nat) (ys : List ByteArray) (hx : a.eval x = .slice (some ⟨g, oo, none⟩) ys.length c) (hc : ∀ (k : Nat) z, ys[k]? = some z → w.cell? ⟨g, oo + k, none⟩ = some (.string z)) (hlen : ls.length + ys.length < 1000000000) (hB : B ≤ w.heap.size)
    (h : ∀ v' w', StrRow w' B v' (ls ++ ys) → w.grownBy w' v.ownBlock → K (a.put o.dst v') w') : o.wp Tryd.prog a w K Q := by
  obtain ⟨i0, hi, hz0, hz1, hz2⟩ := info_parts infoStr
  obtain ⟨v', w', hrun, r1, r2, r3⟩ := run_append_own (P := Tryd.prog) w B 67 o.type 9 i0 (.string ⟨#[]⟩) 1 16 Tryd.underlying67 hi hz0 hz1 hz2 rfl (by decide) v ls.length _ hown ⟨g, oo, none⟩ ys.length c (ys.map Value.string) (by simp)
    (fun j u hj => by
      rw [List.getElem?_map] at hj
      obtain ⟨z, hz, rfl⟩ := Option.map_eq_some_iff.1 hj
      rw [show (⟨g, oo, none⟩ : Addr).add j = ⟨g, oo + j, none⟩ by unfold Addr.add; split <;> simp_all]
      exact hc j z hz) (fun u hu => by
      obtain ⟨z, _, rfl⟩ := List.mem_map.1 hu
      rfl) (by unfold maxLen; omega) (by omega) hB
  unfold Oper.wp execOp
  simp only [ho, resolve, invoke, builtin, Sem.run_bind, Sem.run_pure, Result.andThen_ok, List.map_toArray, List.map_cons, List.map_nil, hs, hx, hrun]
  refine h v' w' ?_ r2
  unfold StrRow
  simpa using r1
set_option maxHeartbeats 16000000 in
theorem lawFound (bs : List Nat) (u : Value) (vq aq pq : Nat) (w : World) (hr : ReadsU w u bs) (hvq : vq < 256) (haq : aq < 256) (hpq : pq < 256) (L : LaidW w) :
    Calls Tryd.prog 8 #[.agg #[.int .u8 ((vq : Nat) : Int), .int .u8 ((aq : Nat) : Int), .int .u8 ((pq : Nat) : Int), u]] w fun e w' => e = .returned (.bool true) ∧ Below w.heap.size w w' := by
  obtain ⟨p, cc, rfl⟩ := hr.form
  obtain ⟨m, hm⟩ : ∃ m, bs.length = m := ⟨_, rfl⟩
  have hml : m ≤ 9223372036854775807 := by have := hr.2.1; unfold maxLen at this; omega
  rw [hm]
  have hx := heap_alloc_new w (.cells #[.int .u8 ((vq : Nat) : Int), .int .u8 ((aq : Nat) : Int), .int .u8 ((pq : Nat) : Int), .slice p m cc] 73)
  have hb : Below w.heap.size w (w.alloc (.cells #[.int .u8 ((vq : Nat) : Int), .int .u8 ((aq : Nat) : Int), .int .u8 ((pq : Nat) : Int), .slice p m cc] 73)) := (Below.refl _ _).alloc (Nat.le_refl _) _
  have hru := hr
  rw [hm] at hru
  have HRU := hid hru
  have HX := hid hx
  have HB := hid hb
  have HM := hid hm
  have HLL := hid L
  clear hx hb hr hru hm L
  go_enter Tryd.func8, Tryd.ntmps8
  go_upto_region 1 with fail
  generalize w.alloc (.cells #[.int .u8 ((vq : Nat) : Int), .int .u8 ((aq : Nat) : Int), .int .u8 ((pq : Nat) : Int), .slice p m cc] 73) = W0 at HX HB ⊢
  have k0 := cell_of_row _ _ 0 _ _ _ HX.out
  have k1 := cell_of_row _ _ 1 _ _ _ HX.out
  have k2 := cell_of_row _ _ 2 _ _ _ HX.out
  have k3 := cell_of_row _ _ 3 _ _ _ HX.out
  go_quiet (fail)
  have hb1 : Below w.heap.size w (W0.drewN nq) := HB.out.trans ((below_drewN (Below.refl _ _) nq : Below W0.heap.size W0 (W0.drewN nq)).mono HB.out.size)
  generalize W0.drewN nq = W1 at hb1 ⊢
  have HB1 := hid hb1
  clear k0 k1 k2 k3 HX HB hb1
  by_cases h15 : m < 1 ∨ 8 < m
  · have HK := hid (known_c _ (HLL.out.below HB1.out))
    rcases h15 with h | h
    · have d1 : decide (((m : Nat) : Int) < 1) = true := decide_eq_true (by omega)
      have d2 : decide (m < 1) = true := decide_eq_true h
      clear h
      go_wp2_with (go_at_call 9; refine HK.out.mono ?_; rintro e w2 ⟨rfl, hb2⟩; have HB2 := hid (HB1.out.trans (hb2.mono HB1.out.size)); clear hb2)
      go_ret
      exact ⟨rfl, HB2.out⟩
    · have d1 : decide (((m : Nat) : Int) < 1) = false := decide_eq_false (by omega)
      have d2 : decide (m < 1) = false := decide_eq_false (by omega)
      have d3 : decide ((8 : Int) < ((m : Nat) : Int)) = true := decide_eq_true (by omega)
      have d4 : decide (8 < m) = true := decide_eq_true h
      clear h
      go_wp2_with (go_at_call 9; refine HK.out.mono ?_; rintro e w2 ⟨rfl, hb2⟩; have HB2 := hid (HB1.out.trans (hb2.mono HB1.out.size)); clear hb2)
      go_ret
      exact ⟨rfl, HB2.out⟩
  · have hm18 : 1 ≤ m ∧ m ≤ 8 := by omega
    have d1 : decide (((m : Nat) : Int) < 1) = false := decide_eq_false (by omega)
    have d2 : decide (m < 1) = false := decide_eq_false (by omega)
    have d3 : decide ((8 : Int) < ((m : Nat) : Int)) = false := decide_eq_false (by omega)
    have d4 : decide (8 < m) = false := decide_eq_false (by omega)
    have hm0 := StrRow.made W1 W1.heap.size (Nat.le_refl _)
    have hal : Below W1.heap.size W1 (W1.alloc (.cells #[] 9)) := (Below.refl _ _).alloc (Nat.le_refl _) _
    have HM0 := hid (And.intro hm0 hal)
    clear hm0 hal h15
    go_upto_region 5 with fail
    obtain ⟨B, hB⟩ : ∃ B, W1.heap.size = B := ⟨_, rfl⟩
    rw [hB] at HM0 ⊢
    have HB0 := hid (And.intro hB HB1.out)
    generalize W1.alloc (.cells #[] 9) = W2 at HM0 ⊢
    have hBw : w.heap.size ≤ B := hB ▸ HB1.out.size
    clear hB HB1
    obtain ⟨SL, hSL⟩ : ∃ SL, bs.map sltB = SL := ⟨_, rfl⟩
    have HSL := hid hSL
    clear hSL
    have hWB : Below B W1 W2 ∧ B ≤ W2.heap.size := ⟨HM0.out.2, HB0.out.1 ▸ HM0.out.2.size⟩
    have HWB := hid hWB
    clear hWB
    go_wp2_with fail
    go_loopw [7, 8] (fun lx ix wr => ∃ i : Nat, i ≤ m ∧ ix = .int .i64 ((i : Nat) : Int) ∧ StrRow wr B lx ((bs.take i).map sltB) ∧ Below B W1 wr ∧ B ≤ wr.heap.size) (fun _ ix _ => m - (intOf ix).toNat)
    case atStart => exact ⟨0, by omega, rfl, HM0.out.1, HWB.out.1, HWB.out.2⟩
    case round =>
      clear HM0 HWB
      obtain ⟨i, hi, rfl, hI, hbl, hBl⟩ := hrel
      rcases Nat.lt_or_ge i m with hlti | hgei
      · have hini : decide (((i : Nat) : Int) < ((m : Nat) : Int)) = true := decide_eq_true (by omega)
        have hini' : ((i : Nat) : Int) < ((m : Nat) : Int) := by omega
        have hi0 : (0 : Int) ≤ ((i : Nat) : Int) := by omega
        have hiw : IntKind.i64.wrap (((i : Nat) : Int) + 1) = ((i + 1 : Nat) : Int) := (IntWalk.i64_in _ (by omega)).trans (by omega)
        have hiL : i < bs.length := by rw [HM.out]; exact hlti
        obtain ⟨bk, o, rfl, hbk, hcx0⟩ := HRU.out.at' hiL
        have hx256 : bs[i] < 256 := HRU.out.1 _ (List.getElem_mem hiL)
        have hst : (bs.take (i + 1)).map sltB = (bs.take i).map sltB ++ [sltB bs[i]] := by
          rw [List.take_add_one, List.getElem?_eq_getElem hiL, List.map_append]
          rfl
        obtain ⟨x, hx⟩ : ∃ x, bs[i] = x := ⟨_, rfl⟩
        rw [hx] at hcx0 hx256 hst
        have hcr : wr.cell? ⟨bk, o + i, none⟩ = some (.int .u8 ((x : Nat) : Int)) := ((HB0.out.2.trans (hbl.mono hBw)).cell (p := ⟨bk, o + i, none⟩) hbk).trans hcx0
        have HSA := hid (fun W => salted_c x hx256 W)
        have HI0 := hid hI
        have HBl0 := hid (And.intro hbl hBl)
        have HST := hid hst
        have HLN := hid (show ((bs.take i).map sltB).length < 1000000000 by rw [List.length_map, List.length_take]; omega)
        clear hI hbl hBl hcx0 hx256 hx hst
        go_wp2_with (first
          | (go_at_call 24; refine (HSA.out _).mono ?_; rintro e w1 ⟨rfl, hb1⟩; have hI1 := HI0.out.below hb1; have HI1 := hid hI1; have HBl1 := hid (show Below B W1 w1 ∧ B ≤ w1.heap.size from ⟨HBl0.out.1.trans (hb1.mono HBl0.out.2), Nat.le_trans HBl0.out.2 hb1.size⟩); clear hb1 hI1)
          | (refine wpList_plain rfl fun _ hK => wpO_app_str (.tmp 42) (.tmp 48) rfl B _ ((bs.take i).map sltB) rfl (HI1.out.below ((Below.refl _ _).alloc (Nat.le_refl _) _)) _ w1.heap.size 1 rfl (cell_of_row _ _ 0 _ _ _ (heap_alloc_new w1 _)) HLN.out (by rw [World.size_alloc]; have := HBl1.out.2; omega) fun v2 w2 hv2 hg2 => hK _ _ ?_; have HI2 := hid hv2; have HBl2 := hid (show Below B W1 w2 ∧ B ≤ w2.heap.size from ⟨(HBl1.out.1.alloc HBl1.out.2 _).grown hg2 (by rw [World.size_alloc]; have := HBl1.out.2; omega) (fun k hk => (HI1.out.own k hk).1), Nat.le_trans HBl1.out.2 (Nat.le_trans (by rw [World.size_alloc]; omega) hg2.size)⟩); clear hv2 hg2 hK))
        go_roundw
        case rel => exact ⟨i + 1, by omega, rfl, by rw [HST.out]; exact HI2.out, HBl2.out.1, HBl2.out.2⟩
        case measure => simp only [intOf, Int.toNat_natCast]; omega
      · obtain rfl : i = m := by omega
        have hini : ¬ ((i : Nat) : Int) < ((i : Nat) : Int) := by omega
        rw [List.take_of_length_le (by rw [HM.out]; exact Nat.le_refl _), HSL.out] at hI
        have hSLl : SL.length = i := by rw [← HSL.out, List.length_map, HM.out]
        have hSLs : ∀ s ∈ SL, isSaltL s.data.toList = true := fun s hs => by
          rw [← HSL.out] at hs
          obtain ⟨y, _, rfl⟩ := List.mem_map.1 hs
          exact sltB_salt y
        obtain ⟨ai, hai⟩ : ∃ a, aq % i = a := ⟨_, rfl⟩
        have hail : ai < i := hai ▸ Nat.mod_lt _ (by omega)
        obtain ⟨S, hS⟩ : ∃ S, SL[ai]? = some S := ⟨_, List.getElem?_eq_getElem (by rw [hSLl]; exact hail)⟩
        have hsalt := hSLs S (List.mem_of_getElem? hS)
        have hrt := hI.readsT
        obtain ⟨lp, lc, hlf⟩ := hrt.form
        rw [hSLl] at hlf
        subst hlf
        obtain ⟨gl, lo, hle, hgl, hcl⟩ := hrt.at' hS
        subst hle
        obtain ⟨P, hP⟩ : ∃ P, 1 + pq % 30 = P := ⟨_, rfl⟩
        have hPb : 1 ≤ P ∧ P ≤ 30 := by omega
        obtain ⟨V, hV⟩ : ∃ V, vq % 100 = V := ⟨_, rfl⟩
        have hVb : V < 100 := by omega
        have e1 : IntKind.i64.wrap ((pq : Nat) : Int) = ((pq : Nat) : Int) := IntWalk.i64_in _ (by omega)
        have e2 : Int.tmod ((pq : Nat) : Int) 30 = ((pq % 30 : Nat) : Int) := tmod_nat pq 30
        have e3 : IntKind.i64.wrap ((pq % 30 : Nat) : Int) = ((pq % 30 : Nat) : Int) := IntWalk.i64_in _ (by omega)
        have e4 : IntKind.i64.wrap (1 + ((pq : Nat) : Int) % 30) = ((P : Nat) : Int) := (IntWalk.i64_in _ (by omega)).trans (by omega)
        have e5 : IntKind.i64.wrap (1 + ((pq % 30 : Nat) : Int)) = ((P : Nat) : Int) := (IntWalk.i64_in _ (by omega)).trans (by omega)
        have e6 : IntKind.i64.wrap ((vq : Nat) : Int) = ((vq : Nat) : Int) := IntWalk.i64_in _ (by omega)
        have e7 : Int.tmod ((vq : Nat) : Int) 100 = ((V : Nat) : Int) := (tmod_nat vq 100).trans (by rw [hV])
        have e8 : IntKind.i64.wrap ((V : Nat) : Int) = ((V : Nat) : Int) := IntWalk.i64_in _ (by omega)
        have e9 : IntKind.i64.wrap ((aq : Nat) : Int) = ((aq : Nat) : Int) := IntWalk.i64_in _ (by omega)
        have e10 : Int.tmod ((aq : Nat) : Int) ((i : Nat) : Int) = ((ai : Nat) : Int) := by rw [tmod_nat, hai]
        have e11 : IntKind.i64.wrap ((ai : Nat) : Int) = ((ai : Nat) : Int) := IntWalk.i64_in _ (by omega)
        have e12 : (((i : Nat) : Int) == 0) = false := by simp; omega
        have e13 : ((i : Nat) : Int) ≠ 0 := by omega
        have e14 : (0 : Int) ≤ ((ai : Nat) : Int) := by omega
        have e15 : ((ai : Nat) : Int) < ((i : Nat) : Int) := by omega
        have HSE := hid (fun W (hW : Below w.heap.size w W) => box_hash P V hPb (by omega) S hsalt W (HLL.out.below hW))
        obtain ⟨hh, hhe⟩ : ∃ h, openH ((P : Nat) : Int) ((V : Nat) : Int) S = h := ⟨_, rfl⟩
        rw [hhe] at HSE
        have HHE := hid hhe
        have HRT := hid (And.intro hrt (And.intro hSLl (And.intro hSLs hS)))
        have hbW : Below w.heap.size w wr := HB0.out.2.trans (hbl.mono hBw)
        have HBW := hid hbW
        clear hI hbl hBl hSLl hSLs hS hsalt hrt hgl hP hV hai hhe
        have hnb := heap_alloc_new wr (.cells #[.int .i64 ((P : Nat) : Int), .int .i64 ((V : Nat) : Int), .string S] 23)
        have hab := hbW.alloc hbW.size (.cells #[.int .i64 ((P : Nat) : Int), .int .i64 ((V : Nat) : Int), .string S] 23)
        have hal9 : Below wr.heap.size wr (wr.alloc (.cells #[.int .i64 ((P : Nat) : Int), .int .i64 ((V : Nat) : Int), .string S] 23)) := (Below.refl _ _).alloc (Nat.le_refl _) _
        have HN9 := hid (And.intro hnb (And.intro hab hal9))
        clear hnb hab hal9 hbW
        go_upto_region 10 with fail
        obtain ⟨z9, hz9⟩ : ∃ z, wr.heap.size = z := ⟨_, rfl⟩
        rw [hz9] at HN9 ⊢
        have HZ9 := hid hz9
        generalize wr.alloc (.cells #[.int .i64 ((P : Nat) : Int), .int .i64 ((V : Nat) : Int), .string S] 23) = w9 at HN9 ⊢
        clear hz9 e1 e2 e3 e4 e5 e6 e7 e8 e9 e10 e11 hcl
        have f0 := cell_of_row _ _ 0 _ _ _ HN9.out.1
        have f1 := cell_of_row _ _ 1 _ _ _ HN9.out.1
        have f2 := cell_of_row _ _ 2 _ _ _ HN9.out.1
        go_upto_region 11 with (go_at_call 11; refine (HSE.out _ HN9.out.2.1).mono ?_; rintro e w10 ⟨rfl, hb10⟩; have HN10 := hid (And.intro (heap_below hb10 HN9.out.1 (heap_lt HN9.out.1)) (HN9.out.2.1.trans (hb10.mono HN9.out.2.1.size))); have HR10 := hid ((HRT.out.1.below (HZ9.out.symm ▸ HN9.out.2.2 : Below wr.heap.size wr w9)).below hb10); clear hb10)
        clear f0 f1 f2
        have HSLE := hid HRT.out.2.1
        have hgl10 := HR10.out
        have HGL := hid (show gl < w10.heap.size ∧ ∀ (k : Nat) z, SL[k]? = some z → w10.cell? ⟨gl, lo + k, none⟩ = some (.string z) from ⟨(hgl10.at' HRT.out.2.2.2).elim fun b h => h.elim fun o h => by
          obtain ⟨e, h2, _⟩ := h
          cases e
          exact h2, fun k z hk => (hgl10.at' hk).elim fun b h => h.elim fun o h => by
          obtain ⟨e, _, h2⟩ := h
          cases e
          exact h2⟩)
        have hHash : isHashL hh.data.toList = true := HHE.out ▸ isHash_openH _ _ _
        have hopen : ∀ (v : Nat) (s : ByteArray), hit P (hexV hh.data.toList) s v = true ↔ openH ((P : Nat) : Int) ((v : Nat) : Int) s = hh := fun v s => by
          have h1 := hash_num hh.data.toList hHash (sealN ((P : Nat) : Int) ((v : Nat) : Int) s.data.toList) (hashN_lt _ _ h0_lt)
          rw [hit, beq_iff_eq, ← h1]
          constructor
          · intro e
            apply ByteArray.ext
            show (hashL (boxL ((P : Nat) : Int) ((v : Nat) : Int) s.data.toList)).toArray = hh.data
            rw [show hashL (boxL ((P : Nat) : Int) ((v : Nat) : Int) s.data.toList) = hh.data.toList from e, Array.toArray_toList]
          · intro e
            rw [← e]
            show hex16 _ = (hashL (boxL ((P : Nat) : Int) ((v : Nat) : Int) s.data.toList)).toArray.toList
            rw [List.toList_toArray]
            rfl
        have HGU := hid (show ∀ (q : Value) W, ReadsT W q SL → Below w.heap.size w W → Calls Tryd.prog 32 #[.string hh, .int .i64 ((P : Nat) : Int), .int .i64 100, q] W fun e W' => (∃ j sx vx, SL[j]? = some sx ∧ vx < 100 ∧ openH ((P : Nat) : Int) ((vx : Nat) : Int) sx = hh ∧ e = .returned (.tuple #[.agg #[.int .i64 ((P : Nat) : Int), .int .i64 ((vx : Nat) : Int), .string sx], .int .i64 0])) ∧ Below W.heap.size W W' from fun q W hq hW => by
          refine (Guess_run hh hHash P 100 hPb (by omega) q SL W hq HRT.out.2.2.1 (by rw [HRT.out.2.1]; omega) (HLL.out.below hW)).mono ?_
          rintro e W' ⟨h, hb'⟩
          refine ⟨?_, hb'⟩
          rcases h with ⟨j, sx, vx, h1, h2, h3, _, _, h4⟩ | ⟨h1, _⟩
          · exact ⟨j, sx, vx, h1, h2, (hopen vx sx).1 h3, h4⟩
          · have := h1 S (List.mem_of_getElem? HRT.out.2.2.2) V hVb
            rw [(hopen V S).2 HHE.out] at this
            cases this)
        clear hopen hHash hgl10
        refine regD (fun Vw => Vw.heap[z9]? = some (.cells #[.int .i64 ((P : Nat) : Int), .int .i64 ((V : Nat) : Int), .string S] 23 (0, 0))) (fun _ => true) (by kernel_rfl) ?_
        have hbd : Below w10.heap.size w10 w10.drew := below_drewN (Below.refl _ _) 1
        have hsx0 := heap_below hbd HN10.out.1 (heap_lt HN10.out.1)
        have hzl := heap_lt HN10.out.1
        have HB10 := hid HN10.out.2
        obtain ⟨n10, hn10⟩ : ∃ n, w10.heap.size = n := ⟨_, rfl⟩
        rw [hn10] at hbd hzl
        have HN10t := hid (show n10 ≤ w10.heap.size from Nat.le_of_eq hn10.symm)
        have HN10s := hid (hn10 ▸ HN10.out.2.size : w.heap.size ≤ n10)
        have HZ10 := hid hzl
        have HGLn := hid (hn10 ▸ HGL.out.1 : gl < n10)
        have hbx0 : Below n10 w10 w10.drew ∧ n10 ≤ w10.drew.heap.size := ⟨hbd, by rw [← hn10]; exact Nat.le_refl _⟩
        generalize w10.drew = x0 at hsx0 hbx0 ⊢
        have hS := hsx0
        clear hbd hzl
        refine takeE (i := 0) (.string hh) (d := some 72) rfl (by kernel_rfl) (by kernel_rfl) (by kernel_rfl) (by kernel_rfl) (fun _ _ _ h => h) rfl (fun W hSw => by exact exec_mv rfl rfl) hS rfl ?_
        simp only [Act.put, List.setIfInBounds_toArray, List.set_cons_zero, List.set_cons_succ]
        refine takeE (i := 1) (.pointer (some ⟨z9, 0, none⟩)) (d := some 73) rfl (by kernel_rfl) (by kernel_rfl) (by kernel_rfl) (by kernel_rfl) (fun _ _ _ h => h) rfl (fun W hSw => by exact exec_fldB0 rfl rfl) hS rfl ?_
        simp only [Act.put, List.setIfInBounds_toArray, List.set_cons_zero, List.set_cons_succ]
        refine takeE (i := 2) (.int .i64 ((P : Nat) : Int)) (d := some 74) rfl (by kernel_rfl) (by kernel_rfl) (by kernel_rfl) (by kernel_rfl) (fun _ _ _ h => h) rfl (fun W hSw => by exact exec_ldcellB rfl rfl (cell_of_row _ _ 0 _ _ _ hSw)) hS rfl ?_
        simp only [Act.put, List.setIfInBounds_toArray, List.set_cons_zero, List.set_cons_succ]
        refine takeE (i := 4) (.slice (some ⟨gl, lo, none⟩) i lc) (d := some 76) rfl (by kernel_rfl) (by kernel_rfl) (by kernel_rfl) (by kernel_rfl) (fun _ _ _ h => h) rfl (fun W hSw => by exact exec_mv rfl rfl) hS rfl ?_
        simp only [Act.put, List.setIfInBounds_toArray, List.set_cons_zero, List.set_cons_succ]
        clear hS
        refine stepD2 3 10 (by kernel_rfl) rfl rfl rfl rfl (fun K hK => ?_) (fun K hK => ?_)
        · go_simp
          have hal : Below x0.heap.size x0 (x0.alloc (.cells #[] 9)) := (Below.refl _ _).alloc (Nat.le_refl _) _
          have hmd := StrRow.made x0 n10 hbx0.2
          have hkn := hbx0.2
          refine hK _ _ (fun _ => heap_below hal hsx0 (heap_lt hsx0)) ?_
          clear hK K
          obtain ⟨kk, hkk⟩ : ∃ k, x0.heap.size = k := ⟨_, rfl⟩
          rw [hkk] at hmd ⊢
          generalize x0.alloc (.cells #[] 9) = x1 at hal hmd ⊢
          have hsx1 := heap_below hal hsx0 (heap_lt hsx0)
          have hbx1 : Below n10 w10 x1 ∧ n10 ≤ x1.heap.size := ⟨hbx0.1.trans (hal.mono hbx0.2), Nat.le_trans hbx0.2 hal.size⟩
          clear hsx0 hbx0
          have hrowx1 := hmd
          have HKK := hid (And.intro hkk hkn)
          clear hal hmd hkk hkn
          refine stepD2 5 10 (by kernel_rfl) rfl rfl rfl rfl (fun K hK => ?_) (fun K hK => ?_)
          · refine wpO_app_strs2 (.tmp 75) (.tmp 76) rfl n10 (.slice (some ⟨kk, 0, none⟩) 0 0) [] rfl hrowx1 gl lo lc SL (by rw [HSLE.out]; rfl) (fun k z hk => ((hbx1.1.cell (p := ⟨gl, lo + k, none⟩) HGLn.out).trans (HGL.out.2 k z hk))) (by rw [HSLE.out]; simp; omega) hbx1.2 (fun vl x2 hv5 hg5 => hK _ _ (fun _ => (hg5.block z9 (heap_lt hsx1) (fun e => by have e' : z9 = kk := (by simpa [Value.ownBlock] using e); have := HKK.out; have := HZ10.out; omega)).trans hsx1) ?_)
            clear hK K
            rw [List.nil_append] at hv5
            have hsx2 := (hg5.block z9 (heap_lt hsx1) (fun e => by have e' : z9 = kk := (by simpa [Value.ownBlock] using e); have := HKK.out; have := HZ10.out; omega)).trans hsx1
            have hbx2 : Below n10 w10 x2 ∧ n10 ≤ x2.heap.size := ⟨hbx1.1.grown hg5 hbx1.2 (fun k hk => (hrowx1.own k hk).1), Nat.le_trans hbx1.2 hg5.size⟩
            have hrowx2 := hv5
            clear hg5 hv5 hsx1 hbx1 hrowx1
            refine stepD2 6 10 (by kernel_rfl) rfl rfl rfl rfl (fun K hK => ?_) (fun K hK => ?_)
            · go_simp
              go_at_call 32
              refine (HGU.out _ x2 hrowx2.readsT (HB10.out.trans (hbx2.1.mono HN10s.out))).mono ?_
              rintro e x3 ⟨⟨j', sx, vx, hj', hvx, hop, rfl⟩, hb6⟩
              go_simp
              refine hK _ _ (fun _ => heap_below hb6 hsx2 (heap_lt hsx2)) ?_
              clear hK K
              have HJX := hid (And.intro hj' (And.intro hvx hop))
              clear hj' hvx hop
              have hsx3 := heap_below hb6 hsx2 (heap_lt hsx2)
              have hbx3 : Below n10 w10 x3 ∧ n10 ≤ x3.heap.size := ⟨hbx2.1.trans (hb6.mono hbx2.2), Nat.le_trans hbx2.2 hb6.size⟩
              have hrowx3 := hrowx2.below hb6
              clear hsx2 hbx2 hrowx2
              clear hb6
              have hS := hsx3
              refine takeE (i := 7) (.tuple #[.agg #[.int .i64 ((P : Nat) : Int), .int .i64 ((vx : Nat) : Int), .string sx], .int .i64 0]) (d := some 71) rfl (by kernel_rfl) (by kernel_rfl) (by kernel_rfl) (by kernel_rfl) (fun _ _ _ h => h) rfl (fun W hSw => by exact exec_mv rfl rfl) hS rfl ?_
              simp only [Act.put, List.setIfInBounds_toArray, List.set_cons_zero, List.set_cons_succ]
              refine takeE (i := 8) (.agg #[.int .i64 ((P : Nat) : Int), .int .i64 ((vx : Nat) : Int), .string sx]) (d := some 79) rfl (by kernel_rfl) (by kernel_rfl) (by kernel_rfl) (by kernel_rfl) (fun _ _ _ h => h) rfl (fun W hSw => by exact exec_ext rfl rfl rfl) hS rfl ?_
              simp only [Act.put, List.setIfInBounds_toArray, List.set_cons_zero, List.set_cons_succ]
              refine takeE (i := 9) (.int .i64 0) (d := some 80) rfl (by kernel_rfl) (by kernel_rfl) (by kernel_rfl) (by kernel_rfl) (fun _ _ _ h => h) rfl (fun W hSw => by exact exec_ext rfl rfl rfl) hS rfl ?_
              simp only [Act.put, List.setIfInBounds_toArray, List.set_cons_zero, List.set_cons_succ]
              refine stepD 10 (by kernel_rfl) rfl rfl (fun K hK => ?_)
              go_simp
              have hal : Below x3.heap.size x3 (x3.alloc (.cells #[.int .i64 0, .int .i64 0, .string ⟨#[]⟩] 23)) := (Below.refl _ _).alloc (Nat.le_refl _) _
              have hnz := heap_alloc_new x3 (.cells #[.int .i64 0, .int .i64 0, .string ⟨#[]⟩] 23)
              have hkn := hbx3.2
              refine hK _ _ (fun _ => heap_below hal hsx3 (heap_lt hsx3)) ?_
              clear hK K
              obtain ⟨zq, hzq⟩ : ∃ k, x3.heap.size = k := ⟨_, rfl⟩
              rw [hzq] at hnz hkn ⊢
              have hz1 : zq < (x3.alloc (.cells #[.int .i64 0, .int .i64 0, .string ⟨#[]⟩] 23)).heap.size := heap_lt hnz
              generalize x3.alloc (.cells #[.int .i64 0, .int .i64 0, .string ⟨#[]⟩] 23) = x4 at hal hnz hz1 ⊢
              have hsx4 := heap_below hal hsx3 (heap_lt hsx3)
              have hbx4 : Below n10 w10 x4 ∧ n10 ≤ x4.heap.size := ⟨hbx3.1.trans (hal.mono hbx3.2), Nat.le_trans hbx3.2 hal.size⟩
              have hrowx4 := hrowx3.below hal
              clear hsx3 hbx3 hrowx3
              have hzx4 := hnz
              have HZQ := hid hkn
              have HZN := hid (show zq + 1 ≤ x4.heap.size from hz1)
              clear hal hnz hzq hkn hz1
              refine stepD 11 (by kernel_rfl) rfl rfl (fun K hK => ?_)
              refine wp_store_row 23 (.tmp 12) (.tmp 79) rfl zq #[.int .i64 ((P : Nat) : Int), .int .i64 ((vx : Nat) : Int), .string sx] rfl rfl 23 _ hzx4 (show (Tryd.prog.info? 23).map (·.size) = some 3 by kernel_rfl) rfl (by simp [Value.oneCell']) (hK _ _ (fun _ => (setRow_ne (show z9 ≠ zq from (by have := HZQ.out; have := HZ10.out; omega))).trans hsx4) ?_)
              clear hK K
              have hsF := (setRow_ne (cs := #[.int .i64 ((P : Nat) : Int), .int .i64 ((vx : Nat) : Int), .string sx]) (show z9 ≠ zq from (by have := HZQ.out; have := HZ10.out; omega))).trans hsx4
              have hzF : (x4.setRow zq #[.int .i64 ((P : Nat) : Int), .int .i64 ((vx : Nat) : Int), .string sx]).heap[zq]? = _ := setRow_at hzx4
              have hbF := hbx4.1.trans (setRow_below (cs := #[.int .i64 ((P : Nat) : Int), .int .i64 ((vx : Nat) : Int), .string sx]) (W := x4) HZQ.out)
              generalize x4.setRow zq #[.int .i64 ((P : Nat) : Int), .int .i64 ((vx : Nat) : Int), .string sx] = wF at hsF hzF hbF ⊢
              refine stepD 12 (by kernel_rfl) rfl rfl (fun K hK => ?_)
              go_simp
              refine hK _ _ (fun _ => hsF) ?_
              clear hK K
              refine doneD (by kernel_rfl) ?_ _
              refine OnlyNorm.normal ?_
              rename_i Q' K1 hK1 K hK
              change K _ _
              refine hK _ _ ?_
              clear hK K
              have HF := hid (And.intro hsF (And.intro hzF hbF))
              clear hsF hzF hbF hsx4 hbx4 hzx4 hrowx4
              have HBF := hid (HB10.out.trans (HF.out.2.2.mono HN10s.out))
              have g0 := cell_of_row _ _ 0 _ _ _ HF.out.2.1
              have g1 := cell_of_row _ _ 1 _ _ _ HF.out.2.1
              have g2 := cell_of_row _ _ 2 _ _ _ HF.out.2.1
              have HSX := hid (fun W (hW : Below w.heap.size w W) => box_hash P vx hPb (by have := HJX.out.2.1; omega) sx (HRT.out.2.2.1 sx (List.mem_of_getElem? HJX.out.1)) W (HLL.out.below hW))
              rw [HJX.out.2.2] at HSX
              have HKN := hid (fun W (hW : Below w.heap.size w W) => known_c W (HLL.out.below hW))
              have HGF := hid (show ∀ (k : Nat) z, SL[k]? = some z → wF.cell? ⟨gl, lo + k, none⟩ = some (.string z) from fun k z hk => (HF.out.2.2.cell (p := ⟨gl, lo + k, none⟩) HGLn.out).trans (HGL.out.2 k z hk))
              have HGB := hid (show gl < wF.heap.size from Nat.lt_of_lt_of_le HGLn.out (Nat.le_trans HN10t.out HF.out.2.2.size))
              have hvx0 : (0 : Int) ≤ ((vx : Nat) : Int) := by omega
              have hvx1 : ((vx : Nat) : Int) < 100 := by have := HJX.out.2.1; omega
              have y1 : decide (((vx : Nat) : Int) < 0) = false := decide_eq_false (by omega)
              have y2 : decide ((100 : Int) ≤ ((vx : Nat) : Int)) = false := decide_eq_false (by omega)
              have y3 : decide (100 ≤ vx) = false := decide_eq_false (by omega)
              have y4 : (((P : Nat) : Int) != ((P : Nat) : Int)) = false := by simp
              have y5 : (hh.toList == hh.toList) = true := by simp
              have y6 : sameB hh hh = true := sameB_self hh
              go_wp2_with (go_at_call 11; refine (HSX.out _ HBF.out).mono ?_; rintro e wG ⟨rfl, hbG⟩; have hzG := heap_below hbG HF.out.2.1 (heap_lt HF.out.2.1); have hsG := heap_below hbG HF.out.1 (heap_lt HF.out.1); have HG2 := hid (And.intro hzG hbG); have q0 := cell_of_row _ _ 0 _ _ _ hzG; have q1 := cell_of_row _ _ 1 _ _ _ hzG; have q2 := cell_of_row _ _ 2 _ _ _ hzG; have r0 := cell_of_row _ _ 0 _ _ _ hsG; have r1 := cell_of_row _ _ 1 _ _ _ hsG; have r2 := cell_of_row _ _ 2 _ _ _ hsG; clear hzG hsG hbG)
              have HSA := hid (show ∀ Vw, Below wG.heap.size wG Vw → (∀ (k : Nat) z, SL[k]? = some z → Vw.cell? ⟨gl, lo + k, none⟩ = some (.string z)) ∧ Vw.cell? ⟨zq, 2, none⟩ = some (.string sx) ∧ Below w.heap.size w Vw from fun Vw hV => ⟨fun k z hk => (hV.cell (p := ⟨gl, lo + k, none⟩) (Nat.lt_of_lt_of_le HGB.out HG2.out.2.size)).trans ((HG2.out.2.cell (p := ⟨gl, lo + k, none⟩) HGB.out).trans (HGF.out k z hk)), cell_of_row _ _ 2 _ _ _ (heap_below hV HG2.out.1 (heap_lt HG2.out.1)), (HBF.out.trans (HG2.out.2.mono HBF.out.size)).trans (hV.mono (Nat.le_trans HBF.out.size HG2.out.2.size))⟩)
              have hani := HRT.out.2.1
              have HAN := hid hani
              have hall : SL.any (fun s => sameB s sx) = true := List.any_eq_true.2 ⟨sx, List.mem_of_getElem? HJX.out.1, sameB_self sx⟩
              have HALL := hid hall
              clear q0 q1 q2 r0 r1 r2 g0 g1 g2 hani hall y1 y2 y3 y4 y5 y6 hvx0 hvx1
              go_loopw [16, 17] (fun tx ix wr => ∃ k : Nat, k ≤ i ∧ ix = .int .i64 ((k : Nat) : Int) ∧ tx = .bool ((SL.take k).any fun s => sameB s sx) ∧ Below wG.heap.size wG wr) (fun _ ix _ => i - (intOf ix).toNat)
              case atStart => exact ⟨0, by omega, rfl, rfl, Below.refl _ _⟩
              case round =>
                obtain ⟨k, hk, rfl, rfl, hbk⟩ := hrel
                rcases Nat.lt_or_ge k i with hltk | hgek
                · have hink : decide (((k : Nat) : Int) < ((i : Nat) : Int)) = true := decide_eq_true (by omega)
                  have hink' : ((k : Nat) : Int) < ((i : Nat) : Int) := by omega
                  have hk0 : (0 : Int) ≤ ((k : Nat) : Int) := by omega
                  have hkw : IntKind.i64.wrap (((k : Nat) : Int) + 1) = ((k + 1 : Nat) : Int) := (IntWalk.i64_in _ (by omega)).trans (by omega)
                  obtain ⟨x, hx⟩ : ∃ x, SL[k]? = some x := ⟨_, List.getElem?_eq_getElem (by rw [HAN.out]; exact hltk)⟩
                  have hcx := (HSA.out _ hbk).1 k x hx
                  have hcz := (HSA.out _ hbk).2.1
                  obtain ⟨bb, hbb⟩ : ∃ b, sameB x sx = b := ⟨_, rfl⟩
                  have hbt : (x.toList == sx.toList) = bb := (bytes_beq x sx).trans hbb
                  have hnx : (SL.take (k + 1)).any (fun s => sameB s sx) = ((SL.take k).any (fun s => sameB s sx) || bb) := by
                    rw [List.take_add_one, hx, List.any_append, ← hbb]
                    simp
                  have HNX := hid hnx
                  obtain ⟨tb, htb⟩ : ∃ t, (SL.take k).any (fun s => sameB s sx) = t := ⟨_, rfl⟩
                  rw [htb] at HNX ⊢
                  have HBK := hid hbk
                  clear hnx htb hx hbk
                  cases tb with
                  | true =>
                    go_wp2_with fail
                    go_quiet (fail)
                    have hbq := HBK.out.trans ((below_drewN (Below.refl _ _) nq : Below wr.heap.size wr (wr.drewN nq)).mono HBK.out.size)
                    generalize wr.drewN nq = wr2 at hbq ⊢
                    have HBQ := hid hbq
                    clear hbq
                    go_wp2_with fail
                    go_roundw
                    case rel => exact ⟨k + 1, by omega, rfl, by rw [HNX.out]; rfl, HBQ.out⟩
                    case measure => simp only [intOf, Int.toNat_natCast]; omega
                  | false =>
                    go_wp2_with fail
                    go_quiet (fail)
                    have hbq := HBK.out.trans ((below_drewN (Below.refl _ _) nq : Below wr.heap.size wr (wr.drewN nq)).mono HBK.out.size)
                    generalize wr.drewN nq = wr2 at hbq ⊢
                    have HBQ := hid hbq
                    clear hbq
                    go_wp2_with fail
                    go_roundw
                    case rel => exact ⟨k + 1, by omega, rfl, by rw [HNX.out]; rfl, HBQ.out⟩
                    case measure => simp only [intOf, Int.toNat_natCast]; omega
                · obtain rfl : k = i := by omega
                  have hink : ¬ ((k : Nat) : Int) < ((k : Nat) : Int) := by omega
                  rw [List.take_of_length_le (by rw [HAN.out]; exact Nat.le_refl _), HALL.out]
                  have HBE := hid (HSA.out _ hbk).2.2
                  have HKE := hid (HKN.out _ HBE.out)
                  clear hbk
                  go_wp2_with (go_at_call 9; refine HKE.out.mono ?_; rintro e wE ⟨rfl, hbE⟩; have HEE := hid (HBE.out.trans (hbE.mono HBE.out.size)); clear hbE)
                  go_ret
                  exact ⟨rfl, HEE.out⟩
            · go_simp
              have hal : Below x2.heap.size x2 (x2.alloc (.cells #[.int .i64 0, .int .i64 0, .string ⟨#[]⟩] 23)) := (Below.refl _ _).alloc (Nat.le_refl _) _
              have hnz := heap_alloc_new x2 (.cells #[.int .i64 0, .int .i64 0, .string ⟨#[]⟩] 23)
              have hkn := hbx2.2
              refine hK _ _ (fun _ => heap_below hal hsx2 (heap_lt hsx2)) ?_
              clear hK K
              obtain ⟨zq, hzq⟩ : ∃ k, x2.heap.size = k := ⟨_, rfl⟩
              rw [hzq] at hnz hkn ⊢
              have hz1 : zq < (x2.alloc (.cells #[.int .i64 0, .int .i64 0, .string ⟨#[]⟩] 23)).heap.size := heap_lt hnz
              generalize x2.alloc (.cells #[.int .i64 0, .int .i64 0, .string ⟨#[]⟩] 23) = x3 at hal hnz hz1 ⊢
              have hsx3 := heap_below hal hsx2 (heap_lt hsx2)
              have hbx3 : Below n10 w10 x3 ∧ n10 ≤ x3.heap.size := ⟨hbx2.1.trans (hal.mono hbx2.2), Nat.le_trans hbx2.2 hal.size⟩
              have hrowx3 := hrowx2.below hal
              clear hsx2 hbx2 hrowx2
              have hzx3 := hnz
              have HZQ := hid hkn
              have HZN := hid (show zq + 1 ≤ x3.heap.size from hz1)
              clear hal hnz hzq hkn hz1
              refine stepD 6 (by kernel_rfl) rfl rfl (fun K hK => ?_)
              go_simp
              go_at_call 32
              refine (HGU.out _ x3 hrowx3.readsT (HB10.out.trans (hbx3.1.mono HN10s.out))).mono ?_
              rintro e x4 ⟨⟨j', sx, vx, hj', hvx, hop, rfl⟩, hb6⟩
              go_simp
              refine hK _ _ (fun _ => heap_below hb6 hsx3 (heap_lt hsx3)) ?_
              clear hK K
              have HJX := hid (And.intro hj' (And.intro hvx hop))
              clear hj' hvx hop
              have hsx4 := heap_below hb6 hsx3 (heap_lt hsx3)
              have hbx4 : Below n10 w10 x4 ∧ n10 ≤ x4.heap.size := ⟨hbx3.1.trans (hb6.mono hbx3.2), Nat.le_trans hbx3.2 hb6.size⟩
              have hrowx4 := hrowx3.below hb6
              have hzx4 := heap_below hb6 hzx3 (heap_lt hzx3)
              clear hsx3 hbx3 hrowx3 hzx3
              clear hb6
              have hS := hsx4
              refine takeE (i := 7) (.tuple #[.agg #[.int .i64 ((P : Nat) : Int), .int .i64 ((vx : Nat) : Int), .string sx], .int .i64 0]) (d := some 71) rfl (by kernel_rfl) (by kernel_rfl) (by kernel_rfl) (by kernel_rfl) (fun _ _ _ h => h) rfl (fun W hSw => by exact exec_mv rfl rfl) hS rfl ?_
              simp only [Act.put, List.setIfInBounds_toArray, List.set_cons_zero, List.set_cons_succ]
              refine takeE (i := 8) (.agg #[.int .i64 ((P : Nat) : Int), .int .i64 ((vx : Nat) : Int), .string sx]) (d := some 79) rfl (by kernel_rfl) (by kernel_rfl) (by kernel_rfl) (by kernel_rfl) (fun _ _ _ h => h) rfl (fun W hSw => by exact exec_ext rfl rfl rfl) hS rfl ?_
              simp only [Act.put, List.setIfInBounds_toArray, List.set_cons_zero, List.set_cons_succ]
              refine takeE (i := 9) (.int .i64 0) (d := some 80) rfl (by kernel_rfl) (by kernel_rfl) (by kernel_rfl) (by kernel_rfl) (fun _ _ _ h => h) rfl (fun W hSw => by exact exec_ext rfl rfl rfl) hS rfl ?_
              simp only [Act.put, List.setIfInBounds_toArray, List.set_cons_zero, List.set_cons_succ]
              refine stepD 11 (by kernel_rfl) rfl rfl (fun K hK => ?_)
              refine wp_store_row 23 (.tmp 12) (.tmp 79) rfl zq #[.int .i64 ((P : Nat) : Int), .int .i64 ((vx : Nat) : Int), .string sx] rfl rfl 23 _ hzx4 (show (Tryd.prog.info? 23).map (·.size) = some 3 by kernel_rfl) rfl (by simp [Value.oneCell']) (hK _ _ (fun _ => (setRow_ne (show z9 ≠ zq from (by have := HZQ.out; have := HZ10.out; omega))).trans hsx4) ?_)
              clear hK K
              have hsF := (setRow_ne (cs := #[.int .i64 ((P : Nat) : Int), .int .i64 ((vx : Nat) : Int), .string sx]) (show z9 ≠ zq from (by have := HZQ.out; have := HZ10.out; omega))).trans hsx4
              have hzF : (x4.setRow zq #[.int .i64 ((P : Nat) : Int), .int .i64 ((vx : Nat) : Int), .string sx]).heap[zq]? = _ := setRow_at hzx4
              have hbF := hbx4.1.trans (setRow_below (cs := #[.int .i64 ((P : Nat) : Int), .int .i64 ((vx : Nat) : Int), .string sx]) (W := x4) HZQ.out)
              generalize x4.setRow zq #[.int .i64 ((P : Nat) : Int), .int .i64 ((vx : Nat) : Int), .string sx] = wF at hsF hzF hbF ⊢
              refine stepD 12 (by kernel_rfl) rfl rfl (fun K hK => ?_)
              go_simp
              refine hK _ _ (fun _ => hsF) ?_
              clear hK K
              refine doneD (by kernel_rfl) ?_ _
              refine OnlyNorm.normal ?_
              rename_i Q' K1 hK1 K hK
              change K _ _
              refine hK _ _ ?_
              clear hK K
              have HF := hid (And.intro hsF (And.intro hzF hbF))
              clear hsF hzF hbF hsx4 hbx4 hzx4 hrowx4
              have HBF := hid (HB10.out.trans (HF.out.2.2.mono HN10s.out))
              have g0 := cell_of_row _ _ 0 _ _ _ HF.out.2.1
              have g1 := cell_of_row _ _ 1 _ _ _ HF.out.2.1
              have g2 := cell_of_row _ _ 2 _ _ _ HF.out.2.1
              have HSX := hid (fun W (hW : Below w.heap.size w W) => box_hash P vx hPb (by have := HJX.out.2.1; omega) sx (HRT.out.2.2.1 sx (List.mem_of_getElem? HJX.out.1)) W (HLL.out.below hW))
              rw [HJX.out.2.2] at HSX
              have HKN := hid (fun W (hW : Below w.heap.size w W) => known_c W (HLL.out.below hW))
              have HGF := hid (show ∀ (k : Nat) z, SL[k]? = some z → wF.cell? ⟨gl, lo + k, none⟩ = some (.string z) from fun k z hk => (HF.out.2.2.cell (p := ⟨gl, lo + k, none⟩) HGLn.out).trans (HGL.out.2 k z hk))
              have HGB := hid (show gl < wF.heap.size from Nat.lt_of_lt_of_le HGLn.out (Nat.le_trans HN10t.out HF.out.2.2.size))
              have hvx0 : (0 : Int) ≤ ((vx : Nat) : Int) := by omega
              have hvx1 : ((vx : Nat) : Int) < 100 := by have := HJX.out.2.1; omega
              have y1 : decide (((vx : Nat) : Int) < 0) = false := decide_eq_false (by omega)
              have y2 : decide ((100 : Int) ≤ ((vx : Nat) : Int)) = false := decide_eq_false (by omega)
              have y3 : decide (100 ≤ vx) = false := decide_eq_false (by omega)
              have y4 : (((P : Nat) : Int) != ((P : Nat) : Int)) = false := by simp
              have y5 : (hh.toList == hh.toList) = true := by simp
              have y6 : sameB hh hh = true := sameB_self hh
              go_wp2_with (go_at_call 11; refine (HSX.out _ HBF.out).mono ?_; rintro e wG ⟨rfl, hbG⟩; have hzG := heap_below hbG HF.out.2.1 (heap_lt HF.out.2.1); have hsG := heap_below hbG HF.out.1 (heap_lt HF.out.1); have HG2 := hid (And.intro hzG hbG); have q0 := cell_of_row _ _ 0 _ _ _ hzG; have q1 := cell_of_row _ _ 1 _ _ _ hzG; have q2 := cell_of_row _ _ 2 _ _ _ hzG; have r0 := cell_of_row _ _ 0 _ _ _ hsG; have r1 := cell_of_row _ _ 1 _ _ _ hsG; have r2 := cell_of_row _ _ 2 _ _ _ hsG; clear hzG hsG hbG)
              have HSA := hid (show ∀ Vw, Below wG.heap.size wG Vw → (∀ (k : Nat) z, SL[k]? = some z → Vw.cell? ⟨gl, lo + k, none⟩ = some (.string z)) ∧ Vw.cell? ⟨zq, 2, none⟩ = some (.string sx) ∧ Below w.heap.size w Vw from fun Vw hV => ⟨fun k z hk => (hV.cell (p := ⟨gl, lo + k, none⟩) (Nat.lt_of_lt_of_le HGB.out HG2.out.2.size)).trans ((HG2.out.2.cell (p := ⟨gl, lo + k, none⟩) HGB.out).trans (HGF.out k z hk)), cell_of_row _ _ 2 _ _ _ (heap_below hV HG2.out.1 (heap_lt HG2.out.1)), (HBF.out.trans (HG2.out.2.mono HBF.out.size)).trans (hV.mono (Nat.le_trans HBF.out.size HG2.out.2.size))⟩)
              have hani := HRT.out.2.1
              have HAN := hid hani
              have hall : SL.any (fun s => sameB s sx) = true := List.any_eq_true.2 ⟨sx, List.mem_of_getElem? HJX.out.1, sameB_self sx⟩
              have HALL := hid hall
              clear q0 q1 q2 r0 r1 r2 g0 g1 g2 hani hall y1 y2 y3 y4 y5 y6 hvx0 hvx1
              go_loopw [16, 17] (fun tx ix wr => ∃ k : Nat, k ≤ i ∧ ix = .int .i64 ((k : Nat) : Int) ∧ tx = .bool ((SL.take k).any fun s => sameB s sx) ∧ Below wG.heap.size wG wr) (fun _ ix _ => i - (intOf ix).toNat)
              case atStart => exact ⟨0, by omega, rfl, rfl, Below.refl _ _⟩
              case round =>
                obtain ⟨k, hk, rfl, rfl, hbk⟩ := hrel
                rcases Nat.lt_or_ge k i with hltk | hgek
                · have hink : decide (((k : Nat) : Int) < ((i : Nat) : Int)) = true := decide_eq_true (by omega)
                  have hink' : ((k : Nat) : Int) < ((i : Nat) : Int) := by omega
                  have hk0 : (0 : Int) ≤ ((k : Nat) : Int) := by omega
                  have hkw : IntKind.i64.wrap (((k : Nat) : Int) + 1) = ((k + 1 : Nat) : Int) := (IntWalk.i64_in _ (by omega)).trans (by omega)
                  obtain ⟨x, hx⟩ : ∃ x, SL[k]? = some x := ⟨_, List.getElem?_eq_getElem (by rw [HAN.out]; exact hltk)⟩
                  have hcx := (HSA.out _ hbk).1 k x hx
                  have hcz := (HSA.out _ hbk).2.1
                  obtain ⟨bb, hbb⟩ : ∃ b, sameB x sx = b := ⟨_, rfl⟩
                  have hbt : (x.toList == sx.toList) = bb := (bytes_beq x sx).trans hbb
                  have hnx : (SL.take (k + 1)).any (fun s => sameB s sx) = ((SL.take k).any (fun s => sameB s sx) || bb) := by
                    rw [List.take_add_one, hx, List.any_append, ← hbb]
                    simp
                  have HNX := hid hnx
                  obtain ⟨tb, htb⟩ : ∃ t, (SL.take k).any (fun s => sameB s sx) = t := ⟨_, rfl⟩
                  rw [htb] at HNX ⊢
                  have HBK := hid hbk
                  clear hnx htb hx hbk
                  cases tb with
                  | true =>
                    go_wp2_with fail
                    go_quiet (fail)
                    have hbq := HBK.out.trans ((below_drewN (Below.refl _ _) nq : Below wr.heap.size wr (wr.drewN nq)).mono HBK.out.size)
                    generalize wr.drewN nq = wr2 at hbq ⊢
                    have HBQ := hid hbq
                    clear hbq
                    go_wp2_with fail
                    go_roundw
                    case rel => exact ⟨k + 1, by omega, rfl, by rw [HNX.out]; rfl, HBQ.out⟩
                    case measure => simp only [intOf, Int.toNat_natCast]; omega
                  | false =>
                    go_wp2_with fail
                    go_quiet (fail)
                    have hbq := HBK.out.trans ((below_drewN (Below.refl _ _) nq : Below wr.heap.size wr (wr.drewN nq)).mono HBK.out.size)
                    generalize wr.drewN nq = wr2 at hbq ⊢
                    have HBQ := hid hbq
                    clear hbq
                    go_wp2_with fail
                    go_roundw
                    case rel => exact ⟨k + 1, by omega, rfl, by rw [HNX.out]; rfl, HBQ.out⟩
                    case measure => simp only [intOf, Int.toNat_natCast]; omega
                · obtain rfl : k = i := by omega
                  have hink : ¬ ((k : Nat) : Int) < ((k : Nat) : Int) := by omega
                  rw [List.take_of_length_le (by rw [HAN.out]; exact Nat.le_refl _), HALL.out]
                  have HBE := hid (HSA.out _ hbk).2.2
                  have HKE := hid (HKN.out _ HBE.out)
                  clear hbk
                  go_wp2_with (go_at_call 9; refine HKE.out.mono ?_; rintro e wE ⟨rfl, hbE⟩; have HEE := hid (HBE.out.trans (hbE.mono HBE.out.size)); clear hbE)
                  go_ret
                  exact ⟨rfl, HEE.out⟩
          · go_simp
            have hal : Below x1.heap.size x1 (x1.alloc (.cells #[.int .i64 0, .int .i64 0, .string ⟨#[]⟩] 23)) := (Below.refl _ _).alloc (Nat.le_refl _) _
            have hnz := heap_alloc_new x1 (.cells #[.int .i64 0, .int .i64 0, .string ⟨#[]⟩] 23)
            have hkn := hbx1.2
            refine hK _ _ (fun _ => heap_below hal hsx1 (heap_lt hsx1)) ?_
            clear hK K
            obtain ⟨zq, hzq⟩ : ∃ k, x1.heap.size = k := ⟨_, rfl⟩
            rw [hzq] at hnz hkn ⊢
            have hz1 : zq < (x1.alloc (.cells #[.int .i64 0, .int .i64 0, .string ⟨#[]⟩] 23)).heap.size := heap_lt hnz
            have hkz : zq ≠ kk := by have := hrowx1.own kk rfl; obtain ⟨_, cs, hcs⟩ := this; have := heap_lt hcs; omega
            generalize x1.alloc (.cells #[.int .i64 0, .int .i64 0, .string ⟨#[]⟩] 23) = x2 at hal hnz hz1 ⊢
            have hsx2 := heap_below hal hsx1 (heap_lt hsx1)
            have hbx2 : Below n10 w10 x2 ∧ n10 ≤ x2.heap.size := ⟨hbx1.1.trans (hal.mono hbx1.2), Nat.le_trans hbx1.2 hal.size⟩
            have hrowx2 := hrowx1.below hal
            clear hsx1 hbx1 hrowx1
            have hzx2 := hnz
            have HZQ := hid hkn
            have HZN := hid (show zq + 1 ≤ x2.heap.size from hz1)
            clear hal hnz hzq hkn hz1
            refine stepD 5 (by kernel_rfl) rfl rfl (fun K hK => ?_)
            refine wpO_app_strs2 (.tmp 75) (.tmp 76) rfl n10 (.slice (some ⟨kk, 0, none⟩) 0 0) [] rfl hrowx2 gl lo lc SL (by rw [HSLE.out]; rfl) (fun k z hk => ((hbx2.1.cell (p := ⟨gl, lo + k, none⟩) HGLn.out).trans (HGL.out.2 k z hk))) (by rw [HSLE.out]; simp; omega) hbx2.2 (fun vl x3 hv5 hg5 => hK _ _ (fun _ => (hg5.block z9 (heap_lt hsx2) (fun e => by have e' : z9 = kk := (by simpa [Value.ownBlock] using e); have := HKK.out; have := HZ10.out; omega)).trans hsx2) ?_)
            clear hK K
            rw [List.nil_append] at hv5
            have hsx3 := (hg5.block z9 (heap_lt hsx2) (fun e => by have e' : z9 = kk := (by simpa [Value.ownBlock] using e); have := HKK.out; have := HZ10.out; omega)).trans hsx2
            have hbx3 : Below n10 w10 x3 ∧ n10 ≤ x3.heap.size := ⟨hbx2.1.grown hg5 hbx2.2 (fun k hk => (hrowx2.own k hk).1), Nat.le_trans hbx2.2 hg5.size⟩
            have hrowx3 := hv5
            have hzx3 := (hg5.block zq (heap_lt hzx2) (fun e => by have e' : zq = kk := (by simpa [Value.ownBlock] using e); exact hkz e')).trans hzx2
            clear hg5 hv5 hsx2 hbx2 hrowx2 hzx2
            refine stepD 6 (by kernel_rfl) rfl rfl (fun K hK => ?_)
            go_simp
            go_at_call 32
            refine (HGU.out _ x3 hrowx3.readsT (HB10.out.trans (hbx3.1.mono HN10s.out))).mono ?_
            rintro e x4 ⟨⟨j', sx, vx, hj', hvx, hop, rfl⟩, hb6⟩
            go_simp
            refine hK _ _ (fun _ => heap_below hb6 hsx3 (heap_lt hsx3)) ?_
            clear hK K
            have HJX := hid (And.intro hj' (And.intro hvx hop))
            clear hj' hvx hop
            have hsx4 := heap_below hb6 hsx3 (heap_lt hsx3)
            have hbx4 : Below n10 w10 x4 ∧ n10 ≤ x4.heap.size := ⟨hbx3.1.trans (hb6.mono hbx3.2), Nat.le_trans hbx3.2 hb6.size⟩
            have hrowx4 := hrowx3.below hb6
            have hzx4 := heap_below hb6 hzx3 (heap_lt hzx3)
            clear hsx3 hbx3 hrowx3 hzx3
            clear hb6
            have hS := hsx4
            refine takeE (i := 7) (.tuple #[.agg #[.int .i64 ((P : Nat) : Int), .int .i64 ((vx : Nat) : Int), .string sx], .int .i64 0]) (d := some 71) rfl (by kernel_rfl) (by kernel_rfl) (by kernel_rfl) (by kernel_rfl) (fun _ _ _ h => h) rfl (fun W hSw => by exact exec_mv rfl rfl) hS rfl ?_
            simp only [Act.put, List.setIfInBounds_toArray, List.set_cons_zero, List.set_cons_succ]
            refine takeE (i := 8) (.agg #[.int .i64 ((P : Nat) : Int), .int .i64 ((vx : Nat) : Int), .string sx]) (d := some 79) rfl (by kernel_rfl) (by kernel_rfl) (by kernel_rfl) (by kernel_rfl) (fun _ _ _ h => h) rfl (fun W hSw => by exact exec_ext rfl rfl rfl) hS rfl ?_
            simp only [Act.put, List.setIfInBounds_toArray, List.set_cons_zero, List.set_cons_succ]
            refine takeE (i := 9) (.int .i64 0) (d := some 80) rfl (by kernel_rfl) (by kernel_rfl) (by kernel_rfl) (by kernel_rfl) (fun _ _ _ h => h) rfl (fun W hSw => by exact exec_ext rfl rfl rfl) hS rfl ?_
            simp only [Act.put, List.setIfInBounds_toArray, List.set_cons_zero, List.set_cons_succ]
            refine stepD 11 (by kernel_rfl) rfl rfl (fun K hK => ?_)
            refine wp_store_row 23 (.tmp 12) (.tmp 79) rfl zq #[.int .i64 ((P : Nat) : Int), .int .i64 ((vx : Nat) : Int), .string sx] rfl rfl 23 _ hzx4 (show (Tryd.prog.info? 23).map (·.size) = some 3 by kernel_rfl) rfl (by simp [Value.oneCell']) (hK _ _ (fun _ => (setRow_ne (show z9 ≠ zq from (by have := HZQ.out; have := HZ10.out; omega))).trans hsx4) ?_)
            clear hK K
            have hsF := (setRow_ne (cs := #[.int .i64 ((P : Nat) : Int), .int .i64 ((vx : Nat) : Int), .string sx]) (show z9 ≠ zq from (by have := HZQ.out; have := HZ10.out; omega))).trans hsx4
            have hzF : (x4.setRow zq #[.int .i64 ((P : Nat) : Int), .int .i64 ((vx : Nat) : Int), .string sx]).heap[zq]? = _ := setRow_at hzx4
            have hbF := hbx4.1.trans (setRow_below (cs := #[.int .i64 ((P : Nat) : Int), .int .i64 ((vx : Nat) : Int), .string sx]) (W := x4) HZQ.out)
            generalize x4.setRow zq #[.int .i64 ((P : Nat) : Int), .int .i64 ((vx : Nat) : Int), .string sx] = wF at hsF hzF hbF ⊢
            refine stepD 12 (by kernel_rfl) rfl rfl (fun K hK => ?_)
            go_simp
            refine hK _ _ (fun _ => hsF) ?_
            clear hK K
            refine doneD (by kernel_rfl) ?_ _
            refine OnlyNorm.normal ?_
            rename_i Q' K1 hK1 K hK
            change K _ _
            refine hK _ _ ?_
            clear hK K
            have HF := hid (And.intro hsF (And.intro hzF hbF))
            clear hsF hzF hbF hsx4 hbx4 hzx4 hrowx4
            have HBF := hid (HB10.out.trans (HF.out.2.2.mono HN10s.out))
            have g0 := cell_of_row _ _ 0 _ _ _ HF.out.2.1
            have g1 := cell_of_row _ _ 1 _ _ _ HF.out.2.1
            have g2 := cell_of_row _ _ 2 _ _ _ HF.out.2.1
            have HSX := hid (fun W (hW : Below w.heap.size w W) => box_hash P vx hPb (by have := HJX.out.2.1; omega) sx (HRT.out.2.2.1 sx (List.mem_of_getElem? HJX.out.1)) W (HLL.out.below hW))
            rw [HJX.out.2.2] at HSX
            have HKN := hid (fun W (hW : Below w.heap.size w W) => known_c W (HLL.out.below hW))
            have HGF := hid (show ∀ (k : Nat) z, SL[k]? = some z → wF.cell? ⟨gl, lo + k, none⟩ = some (.string z) from fun k z hk => (HF.out.2.2.cell (p := ⟨gl, lo + k, none⟩) HGLn.out).trans (HGL.out.2 k z hk))
            have HGB := hid (show gl < wF.heap.size from Nat.lt_of_lt_of_le HGLn.out (Nat.le_trans HN10t.out HF.out.2.2.size))
            have hvx0 : (0 : Int) ≤ ((vx : Nat) : Int) := by omega
            have hvx1 : ((vx : Nat) : Int) < 100 := by have := HJX.out.2.1; omega
            have y1 : decide (((vx : Nat) : Int) < 0) = false := decide_eq_false (by omega)
            have y2 : decide ((100 : Int) ≤ ((vx : Nat) : Int)) = false := decide_eq_false (by omega)
            have y3 : decide (100 ≤ vx) = false := decide_eq_false (by omega)
            have y4 : (((P : Nat) : Int) != ((P : Nat) : Int)) = false := by simp
            have y5 : (hh.toList == hh.toList) = true := by simp
            have y6 : sameB hh hh = true := sameB_self hh
            go_wp2_with (go_at_call 11; refine (HSX.out _ HBF.out).mono ?_; rintro e wG ⟨rfl, hbG⟩; have hzG := heap_below hbG HF.out.2.1 (heap_lt HF.out.2.1); have hsG := heap_below hbG HF.out.1 (heap_lt HF.out.1); have HG2 := hid (And.intro hzG hbG); have q0 := cell_of_row _ _ 0 _ _ _ hzG; have q1 := cell_of_row _ _ 1 _ _ _ hzG; have q2 := cell_of_row _ _ 2 _ _ _ hzG; have r0 := cell_of_row _ _ 0 _ _ _ hsG; have r1 := cell_of_row _ _ 1 _ _ _ hsG; have r2 := cell_of_row _ _ 2 _ _ _ hsG; clear hzG hsG hbG)
            have HSA := hid (show ∀ Vw, Below wG.heap.size wG Vw → (∀ (k : Nat) z, SL[k]? = some z → Vw.cell? ⟨gl, lo + k, none⟩ = some (.string z)) ∧ Vw.cell? ⟨zq, 2, none⟩ = some (.string sx) ∧ Below w.heap.size w Vw from fun Vw hV => ⟨fun k z hk => (hV.cell (p := ⟨gl, lo + k, none⟩) (Nat.lt_of_lt_of_le HGB.out HG2.out.2.size)).trans ((HG2.out.2.cell (p := ⟨gl, lo + k, none⟩) HGB.out).trans (HGF.out k z hk)), cell_of_row _ _ 2 _ _ _ (heap_below hV HG2.out.1 (heap_lt HG2.out.1)), (HBF.out.trans (HG2.out.2.mono HBF.out.size)).trans (hV.mono (Nat.le_trans HBF.out.size HG2.out.2.size))⟩)
            have hani := HRT.out.2.1
            have HAN := hid hani
            have hall : SL.any (fun s => sameB s sx) = true := List.any_eq_true.2 ⟨sx, List.mem_of_getElem? HJX.out.1, sameB_self sx⟩
            have HALL := hid hall
            clear q0 q1 q2 r0 r1 r2 g0 g1 g2 hani hall y1 y2 y3 y4 y5 y6 hvx0 hvx1
            go_loopw [16, 17] (fun tx ix wr => ∃ k : Nat, k ≤ i ∧ ix = .int .i64 ((k : Nat) : Int) ∧ tx = .bool ((SL.take k).any fun s => sameB s sx) ∧ Below wG.heap.size wG wr) (fun _ ix _ => i - (intOf ix).toNat)
            case atStart => exact ⟨0, by omega, rfl, rfl, Below.refl _ _⟩
            case round =>
              obtain ⟨k, hk, rfl, rfl, hbk⟩ := hrel
              rcases Nat.lt_or_ge k i with hltk | hgek
              · have hink : decide (((k : Nat) : Int) < ((i : Nat) : Int)) = true := decide_eq_true (by omega)
                have hink' : ((k : Nat) : Int) < ((i : Nat) : Int) := by omega
                have hk0 : (0 : Int) ≤ ((k : Nat) : Int) := by omega
                have hkw : IntKind.i64.wrap (((k : Nat) : Int) + 1) = ((k + 1 : Nat) : Int) := (IntWalk.i64_in _ (by omega)).trans (by omega)
                obtain ⟨x, hx⟩ : ∃ x, SL[k]? = some x := ⟨_, List.getElem?_eq_getElem (by rw [HAN.out]; exact hltk)⟩
                have hcx := (HSA.out _ hbk).1 k x hx
                have hcz := (HSA.out _ hbk).2.1
                obtain ⟨bb, hbb⟩ : ∃ b, sameB x sx = b := ⟨_, rfl⟩
                have hbt : (x.toList == sx.toList) = bb := (bytes_beq x sx).trans hbb
                have hnx : (SL.take (k + 1)).any (fun s => sameB s sx) = ((SL.take k).any (fun s => sameB s sx) || bb) := by
                  rw [List.take_add_one, hx, List.any_append, ← hbb]
                  simp
                have HNX := hid hnx
                obtain ⟨tb, htb⟩ : ∃ t, (SL.take k).any (fun s => sameB s sx) = t := ⟨_, rfl⟩
                rw [htb] at HNX ⊢
                have HBK := hid hbk
                clear hnx htb hx hbk
                cases tb with
                | true =>
                  go_wp2_with fail
                  go_quiet (fail)
                  have hbq := HBK.out.trans ((below_drewN (Below.refl _ _) nq : Below wr.heap.size wr (wr.drewN nq)).mono HBK.out.size)
                  generalize wr.drewN nq = wr2 at hbq ⊢
                  have HBQ := hid hbq
                  clear hbq
                  go_wp2_with fail
                  go_roundw
                  case rel => exact ⟨k + 1, by omega, rfl, by rw [HNX.out]; rfl, HBQ.out⟩
                  case measure => simp only [intOf, Int.toNat_natCast]; omega
                | false =>
                  go_wp2_with fail
                  go_quiet (fail)
                  have hbq := HBK.out.trans ((below_drewN (Below.refl _ _) nq : Below wr.heap.size wr (wr.drewN nq)).mono HBK.out.size)
                  generalize wr.drewN nq = wr2 at hbq ⊢
                  have HBQ := hid hbq
                  clear hbq
                  go_wp2_with fail
                  go_roundw
                  case rel => exact ⟨k + 1, by omega, rfl, by rw [HNX.out]; rfl, HBQ.out⟩
                  case measure => simp only [intOf, Int.toNat_natCast]; omega
              · obtain rfl : k = i := by omega
                have hink : ¬ ((k : Nat) : Int) < ((k : Nat) : Int) := by omega
                rw [List.take_of_length_le (by rw [HAN.out]; exact Nat.le_refl _), HALL.out]
                have HBE := hid (HSA.out _ hbk).2.2
                have HKE := hid (HKN.out _ HBE.out)
                clear hbk
                go_wp2_with (go_at_call 9; refine HKE.out.mono ?_; rintro e wE ⟨rfl, hbE⟩; have HEE := hid (HBE.out.trans (hbE.mono HBE.out.size)); clear hbE)
                go_ret
                exact ⟨rfl, HEE.out⟩
        · go_simp
          have hal : Below x0.heap.size x0 (x0.alloc (.cells #[.int .i64 0, .int .i64 0, .string ⟨#[]⟩] 23)) := (Below.refl _ _).alloc (Nat.le_refl _) _
          have hnz := heap_alloc_new x0 (.cells #[.int .i64 0, .int .i64 0, .string ⟨#[]⟩] 23)
          have hkn := hbx0.2
          refine hK _ _ (fun _ => heap_below hal hsx0 (heap_lt hsx0)) ?_
          clear hK K
          obtain ⟨zq, hzq⟩ : ∃ k, x0.heap.size = k := ⟨_, rfl⟩
          rw [hzq] at hnz hkn ⊢
          have hz1 : zq < (x0.alloc (.cells #[.int .i64 0, .int .i64 0, .string ⟨#[]⟩] 23)).heap.size := heap_lt hnz
          generalize x0.alloc (.cells #[.int .i64 0, .int .i64 0, .string ⟨#[]⟩] 23) = x1 at hal hnz hz1 ⊢
          have hsx1 := heap_below hal hsx0 (heap_lt hsx0)
          have hbx1 : Below n10 w10 x1 ∧ n10 ≤ x1.heap.size := ⟨hbx0.1.trans (hal.mono hbx0.2), Nat.le_trans hbx0.2 hal.size⟩
          clear hsx0 hbx0
          have hzx1 := hnz
          have HZQ := hid hkn
          have HZN := hid (show zq + 1 ≤ x1.heap.size from hz1)
          clear hal hnz hzq hkn hz1
          refine stepD 3 (by kernel_rfl) rfl rfl (fun K hK => ?_)
          go_simp
          have hal : Below x1.heap.size x1 (x1.alloc (.cells #[] 9)) := (Below.refl _ _).alloc (Nat.le_refl _) _
          have hmd := StrRow.made x1 n10 hbx1.2
          have hkn := hbx1.2
          refine hK _ _ (fun _ => heap_below hal hsx1 (heap_lt hsx1)) ?_
          clear hK K
          obtain ⟨kk, hkk⟩ : ∃ k, x1.heap.size = k := ⟨_, rfl⟩
          rw [hkk] at hmd ⊢
          generalize x1.alloc (.cells #[] 9) = x2 at hal hmd ⊢
          have hsx2 := heap_below hal hsx1 (heap_lt hsx1)
          have hbx2 : Below n10 w10 x2 ∧ n10 ≤ x2.heap.size := ⟨hbx1.1.trans (hal.mono hbx1.2), Nat.le_trans hbx1.2 hal.size⟩
          have hzx2 := heap_below hal hzx1 (heap_lt hzx1)
          clear hsx1 hbx1 hzx1
          have hrowx2 := hmd
          have HKK := hid (And.intro hkk hkn)
          clear hal hmd hkk hkn
          have hkz : zq ≠ kk := by have := HKK.out.1; have := HZN.out; omega
          refine stepD 5 (by kernel_rfl) rfl rfl (fun K hK => ?_)
          refine wpO_app_strs2 (.tmp 75) (.tmp 76) rfl n10 (.slice (some ⟨kk, 0, none⟩) 0 0) [] rfl hrowx2 gl lo lc SL (by rw [HSLE.out]; rfl) (fun k z hk => ((hbx2.1.cell (p := ⟨gl, lo + k, none⟩) HGLn.out).trans (HGL.out.2 k z hk))) (by rw [HSLE.out]; simp; omega) hbx2.2 (fun vl x3 hv5 hg5 => hK _ _ (fun _ => (hg5.block z9 (heap_lt hsx2) (fun e => by have e' : z9 = kk := (by simpa [Value.ownBlock] using e); have := HKK.out; have := HZ10.out; omega)).trans hsx2) ?_)
          clear hK K
          rw [List.nil_append] at hv5
          have hsx3 := (hg5.block z9 (heap_lt hsx2) (fun e => by have e' : z9 = kk := (by simpa [Value.ownBlock] using e); have := HKK.out; have := HZ10.out; omega)).trans hsx2
          have hbx3 : Below n10 w10 x3 ∧ n10 ≤ x3.heap.size := ⟨hbx2.1.grown hg5 hbx2.2 (fun k hk => (hrowx2.own k hk).1), Nat.le_trans hbx2.2 hg5.size⟩
          have hrowx3 := hv5
          have hzx3 := (hg5.block zq (heap_lt hzx2) (fun e => by have e' : zq = kk := (by simpa [Value.ownBlock] using e); exact hkz e')).trans hzx2
          clear hg5 hv5 hsx2 hbx2 hrowx2 hzx2
          refine stepD 6 (by kernel_rfl) rfl rfl (fun K hK => ?_)
          go_simp
          go_at_call 32
          refine (HGU.out _ x3 hrowx3.readsT (HB10.out.trans (hbx3.1.mono HN10s.out))).mono ?_
          rintro e x4 ⟨⟨j', sx, vx, hj', hvx, hop, rfl⟩, hb6⟩
          go_simp
          refine hK _ _ (fun _ => heap_below hb6 hsx3 (heap_lt hsx3)) ?_
          clear hK K
          have HJX := hid (And.intro hj' (And.intro hvx hop))
          clear hj' hvx hop
          have hsx4 := heap_below hb6 hsx3 (heap_lt hsx3)
          have hbx4 : Below n10 w10 x4 ∧ n10 ≤ x4.heap.size := ⟨hbx3.1.trans (hb6.mono hbx3.2), Nat.le_trans hbx3.2 hb6.size⟩
          have hrowx4 := hrowx3.below hb6
          have hzx4 := heap_below hb6 hzx3 (heap_lt hzx3)
          clear hsx3 hbx3 hrowx3 hzx3
          clear hb6
          have hS := hsx4
          refine takeE (i := 7) (.tuple #[.agg #[.int .i64 ((P : Nat) : Int), .int .i64 ((vx : Nat) : Int), .string sx], .int .i64 0]) (d := some 71) rfl (by kernel_rfl) (by kernel_rfl) (by kernel_rfl) (by kernel_rfl) (fun _ _ _ h => h) rfl (fun W hSw => by exact exec_mv rfl rfl) hS rfl ?_
          simp only [Act.put, List.setIfInBounds_toArray, List.set_cons_zero, List.set_cons_succ]
          refine takeE (i := 8) (.agg #[.int .i64 ((P : Nat) : Int), .int .i64 ((vx : Nat) : Int), .string sx]) (d := some 79) rfl (by kernel_rfl) (by kernel_rfl) (by kernel_rfl) (by kernel_rfl) (fun _ _ _ h => h) rfl (fun W hSw => by exact exec_ext rfl rfl rfl) hS rfl ?_
          simp only [Act.put, List.setIfInBounds_toArray, List.set_cons_zero, List.set_cons_succ]
          refine takeE (i := 9) (.int .i64 0) (d := some 80) rfl (by kernel_rfl) (by kernel_rfl) (by kernel_rfl) (by kernel_rfl) (fun _ _ _ h => h) rfl (fun W hSw => by exact exec_ext rfl rfl rfl) hS rfl ?_
          simp only [Act.put, List.setIfInBounds_toArray, List.set_cons_zero, List.set_cons_succ]
          refine stepD 11 (by kernel_rfl) rfl rfl (fun K hK => ?_)
          refine wp_store_row 23 (.tmp 12) (.tmp 79) rfl zq #[.int .i64 ((P : Nat) : Int), .int .i64 ((vx : Nat) : Int), .string sx] rfl rfl 23 _ hzx4 (show (Tryd.prog.info? 23).map (·.size) = some 3 by kernel_rfl) rfl (by simp [Value.oneCell']) (hK _ _ (fun _ => (setRow_ne (show z9 ≠ zq from (by have := HZQ.out; have := HZ10.out; omega))).trans hsx4) ?_)
          clear hK K
          have hsF := (setRow_ne (cs := #[.int .i64 ((P : Nat) : Int), .int .i64 ((vx : Nat) : Int), .string sx]) (show z9 ≠ zq from (by have := HZQ.out; have := HZ10.out; omega))).trans hsx4
          have hzF : (x4.setRow zq #[.int .i64 ((P : Nat) : Int), .int .i64 ((vx : Nat) : Int), .string sx]).heap[zq]? = _ := setRow_at hzx4
          have hbF := hbx4.1.trans (setRow_below (cs := #[.int .i64 ((P : Nat) : Int), .int .i64 ((vx : Nat) : Int), .string sx]) (W := x4) HZQ.out)
          generalize x4.setRow zq #[.int .i64 ((P : Nat) : Int), .int .i64 ((vx : Nat) : Int), .string sx] = wF at hsF hzF hbF ⊢
          refine stepD 12 (by kernel_rfl) rfl rfl (fun K hK => ?_)
          go_simp
          refine hK _ _ (fun _ => hsF) ?_
          clear hK K
          refine doneD (by kernel_rfl) ?_ _
          refine OnlyNorm.normal ?_
          rename_i Q' K1 hK1 K hK
          change K _ _
          refine hK _ _ ?_
          clear hK K
          have HF := hid (And.intro hsF (And.intro hzF hbF))
          clear hsF hzF hbF hsx4 hbx4 hzx4 hrowx4
          have HBF := hid (HB10.out.trans (HF.out.2.2.mono HN10s.out))
          have g0 := cell_of_row _ _ 0 _ _ _ HF.out.2.1
          have g1 := cell_of_row _ _ 1 _ _ _ HF.out.2.1
          have g2 := cell_of_row _ _ 2 _ _ _ HF.out.2.1
          have HSX := hid (fun W (hW : Below w.heap.size w W) => box_hash P vx hPb (by have := HJX.out.2.1; omega) sx (HRT.out.2.2.1 sx (List.mem_of_getElem? HJX.out.1)) W (HLL.out.below hW))
          rw [HJX.out.2.2] at HSX
          have HKN := hid (fun W (hW : Below w.heap.size w W) => known_c W (HLL.out.below hW))
          have HGF := hid (show ∀ (k : Nat) z, SL[k]? = some z → wF.cell? ⟨gl, lo + k, none⟩ = some (.string z) from fun k z hk => (HF.out.2.2.cell (p := ⟨gl, lo + k, none⟩) HGLn.out).trans (HGL.out.2 k z hk))
          have HGB := hid (show gl < wF.heap.size from Nat.lt_of_lt_of_le HGLn.out (Nat.le_trans HN10t.out HF.out.2.2.size))
          have hvx0 : (0 : Int) ≤ ((vx : Nat) : Int) := by omega
          have hvx1 : ((vx : Nat) : Int) < 100 := by have := HJX.out.2.1; omega
          have y1 : decide (((vx : Nat) : Int) < 0) = false := decide_eq_false (by omega)
          have y2 : decide ((100 : Int) ≤ ((vx : Nat) : Int)) = false := decide_eq_false (by omega)
          have y3 : decide (100 ≤ vx) = false := decide_eq_false (by omega)
          have y4 : (((P : Nat) : Int) != ((P : Nat) : Int)) = false := by simp
          have y5 : (hh.toList == hh.toList) = true := by simp
          have y6 : sameB hh hh = true := sameB_self hh
          go_wp2_with (go_at_call 11; refine (HSX.out _ HBF.out).mono ?_; rintro e wG ⟨rfl, hbG⟩; have hzG := heap_below hbG HF.out.2.1 (heap_lt HF.out.2.1); have hsG := heap_below hbG HF.out.1 (heap_lt HF.out.1); have HG2 := hid (And.intro hzG hbG); have q0 := cell_of_row _ _ 0 _ _ _ hzG; have q1 := cell_of_row _ _ 1 _ _ _ hzG; have q2 := cell_of_row _ _ 2 _ _ _ hzG; have r0 := cell_of_row _ _ 0 _ _ _ hsG; have r1 := cell_of_row _ _ 1 _ _ _ hsG; have r2 := cell_of_row _ _ 2 _ _ _ hsG; clear hzG hsG hbG)
          have HSA := hid (show ∀ Vw, Below wG.heap.size wG Vw → (∀ (k : Nat) z, SL[k]? = some z → Vw.cell? ⟨gl, lo + k, none⟩ = some (.string z)) ∧ Vw.cell? ⟨zq, 2, none⟩ = some (.string sx) ∧ Below w.heap.size w Vw from fun Vw hV => ⟨fun k z hk => (hV.cell (p := ⟨gl, lo + k, none⟩) (Nat.lt_of_lt_of_le HGB.out HG2.out.2.size)).trans ((HG2.out.2.cell (p := ⟨gl, lo + k, none⟩) HGB.out).trans (HGF.out k z hk)), cell_of_row _ _ 2 _ _ _ (heap_below hV HG2.out.1 (heap_lt HG2.out.1)), (HBF.out.trans (HG2.out.2.mono HBF.out.size)).trans (hV.mono (Nat.le_trans HBF.out.size HG2.out.2.size))⟩)
          have hani := HRT.out.2.1
          have HAN := hid hani
          have hall : SL.any (fun s => sameB s sx) = true := List.any_eq_true.2 ⟨sx, List.mem_of_getElem? HJX.out.1, sameB_self sx⟩
          have HALL := hid hall
          clear q0 q1 q2 r0 r1 r2 g0 g1 g2 hani hall y1 y2 y3 y4 y5 y6 hvx0 hvx1
          go_loopw [16, 17] (fun tx ix wr => ∃ k : Nat, k ≤ i ∧ ix = .int .i64 ((k : Nat) : Int) ∧ tx = .bool ((SL.take k).any fun s => sameB s sx) ∧ Below wG.heap.size wG wr) (fun _ ix _ => i - (intOf ix).toNat)
          case atStart => exact ⟨0, by omega, rfl, rfl, Below.refl _ _⟩
          case round =>
            obtain ⟨k, hk, rfl, rfl, hbk⟩ := hrel
            rcases Nat.lt_or_ge k i with hltk | hgek
            · have hink : decide (((k : Nat) : Int) < ((i : Nat) : Int)) = true := decide_eq_true (by omega)
              have hink' : ((k : Nat) : Int) < ((i : Nat) : Int) := by omega
              have hk0 : (0 : Int) ≤ ((k : Nat) : Int) := by omega
              have hkw : IntKind.i64.wrap (((k : Nat) : Int) + 1) = ((k + 1 : Nat) : Int) := (IntWalk.i64_in _ (by omega)).trans (by omega)
              obtain ⟨x, hx⟩ : ∃ x, SL[k]? = some x := ⟨_, List.getElem?_eq_getElem (by rw [HAN.out]; exact hltk)⟩
              have hcx := (HSA.out _ hbk).1 k x hx
              have hcz := (HSA.out _ hbk).2.1
              obtain ⟨bb, hbb⟩ : ∃ b, sameB x sx = b := ⟨_, rfl⟩
              have hbt : (x.toList == sx.toList) = bb := (bytes_beq x sx).trans hbb
              have hnx : (SL.take (k + 1)).any (fun s => sameB s sx) = ((SL.take k).any (fun s => sameB s sx) || bb) := by
                rw [List.take_add_one, hx, List.any_append, ← hbb]
                simp
              have HNX := hid hnx
              obtain ⟨tb, htb⟩ : ∃ t, (SL.take k).any (fun s => sameB s sx) = t := ⟨_, rfl⟩
              rw [htb] at HNX ⊢
              have HBK := hid hbk
              clear hnx htb hx hbk
              cases tb with
              | true =>
                go_wp2_with fail
                go_quiet (fail)
                have hbq := HBK.out.trans ((below_drewN (Below.refl _ _) nq : Below wr.heap.size wr (wr.drewN nq)).mono HBK.out.size)
                generalize wr.drewN nq = wr2 at hbq ⊢
                have HBQ := hid hbq
                clear hbq
                go_wp2_with fail
                go_roundw
                case rel => exact ⟨k + 1, by omega, rfl, by rw [HNX.out]; rfl, HBQ.out⟩
                case measure => simp only [intOf, Int.toNat_natCast]; omega
              | false =>
                go_wp2_with fail
                go_quiet (fail)
                have hbq := HBK.out.trans ((below_drewN (Below.refl _ _) nq : Below wr.heap.size wr (wr.drewN nq)).mono HBK.out.size)
                generalize wr.drewN nq = wr2 at hbq ⊢
                have HBQ := hid hbq
                clear hbq
                go_wp2_with fail
                go_roundw
                case rel => exact ⟨k + 1, by omega, rfl, by rw [HNX.out]; rfl, HBQ.out⟩
                case measure => simp only [intOf, Int.toNat_natCast]; omega
            · obtain rfl : k = i := by omega
              have hink : ¬ ((k : Nat) : Int) < ((k : Nat) : Int) := by omega
              rw [List.take_of_length_le (by rw [HAN.out]; exact Nat.le_refl _), HALL.out]
              have HBE := hid (HSA.out _ hbk).2.2
              have HKE := hid (HKN.out _ HBE.out)
              clear hbk
              go_wp2_with (go_at_call 9; refine HKE.out.mono ?_; rintro e wE ⟨rfl, hbE⟩; have HEE := hid (HBE.out.trans (hbE.mono HBE.out.size)); clear hbE)
              go_ret
              exact ⟨rfl, HEE.out⟩
end Go.Proofs.YtbcileppebpamaaDoor
