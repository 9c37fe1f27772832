/- Lemmas for WitnessAudits: part 22. -/
import Derived.Great.BuildSlice
import Derived.Test.YtbcileppebpamaaGreatDoorKa07
import Derived.Test.YtbcileppebpamaaGreatDoorKa08
import Derived.Test.YtbcileppebpamaaGreatDoorKa16
import Derived.Test.YtbcileppebpamaaGreatDoorKa21
set_option linter.unusedSimpArgs false
set_option linter.unusedVariables false
namespace Go.Proofs.YtbcileppebpamaaGreatDoor
open Go Go.RowKit Go.Shelf
set_option maxRecDepth 100000
theorem ReadsL.setRow3 {V : World} {z : Nat} {v : Value} {ls : List RL} {row cs : Array Value} {T : TypeId} (h : ReadsL V v ls) (hg : V.heap[z]? = some (.cells row T (0, 0))) (hr : row.size ≤ 4) : ReadsL (V.setRow z cs) v ls := by
  cases ls with
  | nil => rcases h with h | ⟨g, o, c, h1, h2, h3⟩
           · exact .inl h
           · exact .inl ⟨rfl, _, _, h1⟩
  | cons x ls =>
    rcases h with ⟨h, _⟩ | ⟨g, o, c, h1, h2, h3⟩
    · cases h
    · have hne : g ≠ z := by
        rintro rfl
        have h4 := h3 0 x rfl 4 (by omega)
        rw [cell_of_row _ _ _ _ _ _ hg, Array.getElem?_eq_none (by omega)] at h4
        cases h4
      refine .inr ⟨g, o, c, h1, by simpa [World.setRow] using h2, fun i y hy k hk => ?_⟩
      have h5 := h3 i y hy k hk
      rw [← h5]
      simp only [World.cell?, setRow_ne hne]
theorem alloc_row {W : World} {o : Obj} {cs old : Array Value} {T : TypeId} (ho : o = .cells old T) : ((W.alloc o).setRow W.heap.size cs).heap[W.heap.size]? = some (.cells cs T (0, 0)) ∧ Below W.heap.size W ((W.alloc o).setRow W.heap.size cs) := by
  subst ho
  exact ⟨setRow_at (heap_alloc_new W _), ((Below.refl _ _).alloc (Nat.le_refl _) _).trans (setRow_below (Nat.le_refl _))⟩
theorem linR_some {l : List UInt8} {x : RL} (hx : lineOf l = some x) {e : Ending} (h : LinR l e) : e = .returned (.tuple #[.agg (lineC x), .bool true]) := by
  obtain ⟨y, b, h1, h2⟩ := h
  rcases h2 with ⟨rfl, h3⟩ | ⟨_, h3⟩
  · rw [hx] at h3; cases h3; exact h1
  · rw [hx] at h3; cases h3
theorem linR_none {l : List UInt8} (hx : lineOf l = none) {e : Ending} (h : LinR l e) : ∃ x : RL, e = .returned (.tuple #[.agg #[.int .i64 x.k, .string x.h, .int .i64 x.p, .int .i64 x.v, .string x.s], .bool false]) := by
  obtain ⟨y, b, h1, h2⟩ := h
  rcases h2 with ⟨_, h3⟩ | ⟨rfl, h3⟩
  · rw [hx] at h3; cases h3
  · exact ⟨y, h1⟩
theorem draw_one (a b : Int) (p : Option Addr) (m c : Nat) : (#[.int .i64 a, .int .i64 b, .slice p m c] : Array Value).all (·.oneCell') = true := by simp [Value.oneCell']
set_option maxHeartbeats 8000000 in
theorem raudit_c (l : List UInt8) (hl : l.length ≤ 20000) (w : World) :
    Calls Tryz.prog 14 #[.string ⟨l.toArray⟩] w fun e w' => AudR w' w.heap.size l e ∧ Below w.heap.size w w' := by
  have hsz : (⟨l.toArray⟩ : ByteArray).size = l.length := by show l.toArray.size = _; simp
  have hx1 := alloc2_first w (.cells #[.int .i64 0, .int .i64 0, .bool false, .int .i64 0, .slice none 0 0] 37) (.cells #[.int .i64 0, .int .i64 0, .slice none 0 0] 49)
  have hx2 := alloc2_second w (.cells #[.int .i64 0, .int .i64 0, .bool false, .int .i64 0, .slice none 0 0] 37) (.cells #[.int .i64 0, .int .i64 0, .slice none 0 0] 49)
  have hb0 := below2 w (.cells #[.int .i64 0, .int .i64 0, .bool false, .int .i64 0, .slice none 0 0] 37) (.cells #[.int .i64 0, .int .i64 0, .slice none 0 0] 49)
  obtain ⟨g, hg⟩ : ∃ g, w.heap.size = g := ⟨_, rfl⟩
  rw [hg] at hx1 hx2 hb0
  have hra : RAu w ((w.alloc (.cells #[.int .i64 0, .int .i64 0, .bool false, .int .i64 0, .slice none 0 0] 37)).alloc (.cells #[.int .i64 0, .int .i64 0, .slice none 0 0] 49)) g none (.slice none 0 0) := ⟨hx1, hx2, .inl ⟨rfl, none, 0, rfl⟩, hb0⟩
  obtain ⟨m, hml⟩ : ∃ m, l.length = m := ⟨_, rfl⟩
  rw [hml] at hsz
  have hl2 := hl
  rw [hml] at hl
  have d1 : decide ((20000 : Int) < ((m : Nat) : Int)) = false := decide_eq_false (by omega)
  have d2 : ¬ 20000 < m := by omega
  have hnl := linesL_len l
  rw [hml] at hnl
  have HNL := hid hnl
  have HL2 := hid hl2
  have HG := hid hg
  have HML := hid hml
  have HRA := hid hra
  rw [hg]
  clear hx1 hb0 hra hml hl2 hnl
  go_enter Tryz.func14, Tryz.ntmps14
  go_wp2_with (refine wpList_store_rowTo rfl 49 (.tmp 5) (.tmp 22) rfl rfl (g + 1) #[.int .i64 0, .int .i64 0, .slice none 0 0] rfl rfl 49 _ hx2 (by kernel_rfl) rfl (draw_one _ _ _ _ _) ?_; rw [setRow_self hx2])
  generalize (w.alloc (.cells #[.int .i64 0, .int .i64 0, .bool false, .int .i64 0, .slice none 0 0] 37)).alloc (.cells #[.int .i64 0, .int .i64 0, .slice none 0 0] 49) = W1 at HRA ⊢
  clear hx2
  go_loopw [0, 6] (fun sx lx wr => ∃ (cur : List UInt8) (pre : List (List UInt8)) (st : Option St) (v : Value), sx = .string ⟨cur.toArray⟩ ∧ lx = .int .i64 ((pre.length : Nat) : Int) ∧ Aside (cur.length ≤ m ∧ linesL l = pre ++ linesL cur ∧ goodT none pre = some st) ∧ RAu w wr g st v) (fun sx _ _ => match sx with | .string s => s.size | _ => 0)
  case atStart => exact ⟨l, [], none, _, rfl, rfl, ⟨by rw [HML.out]; exact Nat.le_refl _, rfl, rfl⟩, HRA.out⟩
  case round =>
    clear HRA
    obtain ⟨cur, pre, st, v, rfl, rfl, hA, hra⟩ := hrel
    have hpl : pre.length ≤ 20000 := by have h1 := congrArg List.length hA.2.1; rw [List.length_append] at h1; have := HNL.out; omega
    have hgs := goodT_good pre none st (by intro _ _ _ h; cases h) hA.2.2
    have hlen := goodT_len pre none st 0 (by intro _ _ _ h; cases h) hA.2.2
    have hcs : (⟨cur.toArray⟩ : ByteArray).size = cur.length := by show cur.toArray.size = _; simp
    have HRA := hid hra
    have HA := hid hA
    have HGS := hid hgs
    have HLEN := hid hlen
    clear hra hA hgs hlen
    by_cases hz : cur = []
    · subst hz
      have hcs0 : (⟨([] : List UInt8).toArray⟩ : ByteArray).size = 0 := rfl
      have hpe : linesL l = pre := by rw [HA.out.2.1]; simp [linesL]
      have hau := audT_good pre [] none st 0 HA.out.2.2
      rw [List.append_nil, Nat.zero_add] at hau
      change _ = (st, _, (0 : Int)) at hau
      rcases goodT_some pre none st HA.out.2.2 with ⟨hnil, hst⟩ | ⟨⟨bl, n', ls⟩, hst⟩
      · subst hst
        subst hnil
        have hRR : auditL l = (none, 1, 4) := by rw [auditL, if_neg (by rw [HML.out]; exact d2), hpe]; rfl
        have HRR := hid hRR
        clear hRR hau hpe hcs
        go_wp2_with (refine wpList_store_rowTo rfl 37 (.tmp 2) (.tmp 123) rfl rfl g repZ rfl rfl 37 _ HRA.out.r (by kernel_rfl) rfl repZ_one ?_; rw [setRow_self HRA.out.r])
        refine bodyPost_ret (results_aud4 Tryz.results14 rfl rfl rfl HRA.out.r rfl) rfl ⟨?_, HRA.out.b⟩
        unfold AudR
        rw [HRR.out]
        rfl
      · subst hst
        have hk0 : pre.length ≠ 0 := fun e => by
          have := HA.out.2.2
          rw [List.eq_nil_of_length_eq_zero e] at this
          cases this
        have hRR : auditL l = (some (bl, n', ls), 0, 0) := by rw [auditL, if_neg (by rw [HML.out]; exact d2), hpe, hau]; rfl
        obtain ⟨k, hk⟩ : ∃ k, pre.length = k := ⟨_, rfl⟩
        rw [hk] at hk0 ⊢
        have e1 : (((k : Nat) : Int) == 0) = false := by simp; omega
        have HRR := hid hRR
        have hG := HGS.out bl n' ls rfl
        have HREP := hid (rreport_c bl n' (by have := hG.1; omega) hG.1.1.2 (by have := hG.1; omega) v ls wr HRA.out.l (by have := HLEN.out bl n' ls rfl; omega) hG.okB)
        have k0 := cell_of_row _ _ 0 _ _ _ HRA.out.d
        have k1 := cell_of_row _ _ 1 _ _ _ HRA.out.d
        have k2 := cell_of_row _ _ 2 _ _ _ HRA.out.d
        simp only [drow] at k0 k1 k2
        clear hRR hau hpe hcs hk hG hk0
        go_wp2_with (first
          | (go_at_call 50; refine HREP.out.mono ?_; rintro e w2 ⟨u, rfl, hu, hb2⟩; obtain ⟨pu, cu, rfl⟩ := hu.form; obtain ⟨dl, hdl⟩ : ∃ dl, (devL ls n').length = dl := ⟨_, rfl⟩; rw [hdl] at hu ⊢; have hr2 := heap_below hb2 HRA.out.r (heap_lt HRA.out.r); have HR2 := hid hr2; have HU := hid hu; have HB2 := hid hb2; clear hu hb2 hr2 hdl)
          | (refine wpList_store_rowTo rfl 37 (.tmp 2) (.tmp 125) rfl rfl g (repV bl n' (overL n' ls) (repN bl n' ls) (.slice pu dl cu)) rfl rfl 37 _ HR2.out (by kernel_rfl) rfl (repV_one _ _ _ _ _ _ _) ?_))
        refine bodyPost_ret (results_aud4 Tryz.results14 rfl rfl rfl (setRow_at HR2.out) rfl) rfl ⟨?_, ?_⟩
        · unfold AudR
          rw [HRR.out]
          exact ⟨_, rfl, (HU.out.setRow HR2.out (by decide)).lower (Nat.le_of_lt (heap_lt HRA.out.r))⟩
        · exact (HRA.out.b.trans (HB2.out.mono (Nat.le_of_lt (heap_lt HRA.out.r)))).trans (setRow_below (Nat.le_refl g))
    · have hpos : 0 < cur.length := List.length_pos_iff.2 hz
      have hby := byte_at cur
      have hex := extract_take cur
      have han := fun x (hx : ∃ rest, linesL l = pre ++ x :: rest) => aud_next HA.out.2.2 hx
      have hcm := HA.out.1
      obtain ⟨S, hS⟩ : ∃ S : ByteArray, ⟨cur.toArray⟩ = S := ⟨_, rfl⟩
      obtain ⟨n0, hn0⟩ : ∃ n0, cur.length = n0 := ⟨_, rfl⟩
      obtain ⟨k, hk⟩ : ∃ k, pre.length = k := ⟨_, rfl⟩
      obtain ⟨k1, hk1⟩ : ∃ k1, k + 1 = k1 := ⟨_, rfl⟩
      rw [hk] at han hpl
      rw [hk1] at han
      rw [hS] at hby hex hcs
      rw [hn0] at hcs hpos hcm
      rw [hS, hk]
      have d0 : decide ((0 : Int) < ((n0 : Nat) : Int)) = true := decide_eq_true (by omega)
      have d0' : 0 < n0 := hpos
      have hw1 : IntKind.i64.wrap (((k : Nat) : Int) + 1) = ((k1 : Nat) : Int) := (IntWalk.i64_in _ (by omega)).trans (by omega)
      have HBY := hid hby
      have HEX := hid hex
      have HAN := hid han
      have HN0 := hid (And.intro hn0 (And.intro hS hcm))
      have HK := hid (And.intro hk hk1)
      clear hby hex han hcm hS hn0 hk hk1
      by_cases hm : (10 : UInt8) ∈ cur
      · obtain ⟨wl, r2, he, hw⟩ := List.eq_append_cons_of_mem hm
        have hll : linesL cur = (wl ++ [10]) :: linesL r2 := by rw [he]; exact linesL_app r2 wl hw
        have hlx : ∃ rest, linesL l = pre ++ (wl ++ [10]) :: rest := ⟨linesL r2, by rw [HA.out.2.1, hll]⟩
        have hlt : lineT st (wl ++ [10]) = readT st wl := by rw [lineT, if_pos (by simp), List.dropLast_concat]
        have hX := HAN.out _ hlx
        rw [hlt] at hX
        have hlen2 : wl.length + 1 + r2.length = n0 := by rw [← HN0.out.1, he]; simp; omega
        have h10 : cur[wl.length]? = some 10 := by rw [he]; simp
        have hno : ∀ j, j < wl.length → ∃ c, cur[j]? = some c ∧ c ≠ 10 := fun j hj => ⟨wl[j], by rw [he, List.getElem?_append_left hj, List.getElem?_eq_getElem hj], fun e => hw (e ▸ List.getElem_mem hj)⟩
        have hx1 : S.extract 0 wl.length = ⟨wl.toArray⟩ := by
          rw [HEX.out 0 wl.length (Nat.zero_le _), he]; simp
        have hx2 : S.extract (wl.length + 1) n0 = ⟨r2.toArray⟩ := by
          rw [HEX.out _ _ (by omega), he]
          simp
          exact List.take_of_length_le (by omega)
        have hrel : linesL l = (pre ++ [wl ++ [10]]) ++ linesL r2 := by rw [HA.out.2.1, hll]; simp
        have hpk : (pre ++ [wl ++ [10]]).length = k1 := by simp; have := HK.out; omega
        have HREL := hid (And.intro hrel (And.intro hpk hlen2))
        have HX := hid hX
        have HNO := hid hno
        have hwlen : wl.length ≤ 20000 := by have := HN0.out; omega
        obtain ⟨T, hT⟩ : ∃ T : ByteArray, ⟨wl.toArray⟩ = T := ⟨_, rfl⟩
        obtain ⟨R, hR⟩ : ∃ R : ByteArray, ⟨r2.toArray⟩ = R := ⟨_, rfl⟩
        obtain ⟨mm, hmm⟩ : ∃ mm, wl.length = mm := ⟨_, rfl⟩
        obtain ⟨m1, hm1⟩ : ∃ m1, mm + 1 = m1 := ⟨_, rfl⟩
        rw [hmm] at hx1 hx2 h10 HNO hwlen hlen2
        rw [hm1, hR] at hx2
        rw [hT] at hx1
        have hgm := HBY.out mm 10 h10
        have hmn : mm < n0 := by omega
        have hm1n : m1 ≤ n0 := by omega
        have hmw : IntKind.i64.wrap (((mm : Nat) : Int) + 1) = ((m1 : Nat) : Int) := (IntWalk.i64_in _ (by omega)).trans (by omega)
        have e9 : (((mm : Nat) : Int) == ((n0 : Nat) : Int)) = false := by simp; omega
        have HTR := hid (And.intro hT (And.intro hR (And.intro hmm hwlen)))
        clear hm he hw hll hlx hlt hX hlen2 h10 hno hrel hpk hT hR hmm hm1 hwlen hz
        go_wp2_with fail
        go_loopw [7] (fun ex wr2 => ∃ j : Nat, j ≤ mm ∧ ex = .int .i64 ((j : Nat) : Int) ∧ wr2 = wr) (fun ex _ => mm - (intOf ex).toNat)
        case atStart => exact ⟨0, by omega, rfl, rfl⟩
        case round =>
          obtain ⟨j, hj, rfl, hwr⟩ := hrel
          subst hwr
          rcases Nat.lt_or_ge j mm with hlt | hge
          · have hin : decide (((j : Nat) : Int) < ((n0 : Nat) : Int)) = true := decide_eq_true (by omega)
            have hin' : ((j : Nat) : Int) < ((n0 : Nat) : Int) := by omega
            have hi0 : (0 : Int) ≤ ((j : Nat) : Int) := by omega
            obtain ⟨j1, hj1⟩ : ∃ j1, j + 1 = j1 := ⟨_, rfl⟩
            have hjw : IntKind.i64.wrap (((j : Nat) : Int) + 1) = ((j1 : Nat) : Int) := (IntWalk.i64_in _ (by have := HTR.out.2.2.2; omega)).trans (by omega)
            obtain ⟨c, hc, hc10⟩ := HNO.out j hlt
            have hgj := HBY.out j c hc
            obtain ⟨kc, hkc⟩ : ∃ kc, c.toNat = kc := ⟨_, rfl⟩
            rw [hkc] at hgj
            have hk10 : ¬ kc = 10 := fun e => hc10 (UInt8.toNat_inj.1 (hkc.trans e))
            have ek : (((kc : Nat) : Int) != 10) = true := by simp; omega
            have ek2 : (((kc : Nat) : Int) == 10) = false := by simp; omega
            have HJ := hid (And.intro hj1 hlt)
            clear hc hkc hc10 hj1 hlt hgm hk10
            go_wp2_with fail
            go_roundw
            case rel => exact ⟨j1, by have := HJ.out; omega, rfl, trivial⟩
            case measure => have := HJ.out; simp only [intOf, Int.toNat_natCast]; omega
          · obtain rfl : j = mm := by omega
            have hin : decide (((j : Nat) : Int) < ((n0 : Nat) : Int)) = true := decide_eq_true (by omega)
            have hin' : ((j : Nat) : Int) < ((n0 : Nat) : Int) := by omega
            have hi0 : (0 : Int) ≤ ((j : Nat) : Int) := by omega
            have hgm2 : ∀ h : j < S.size, (S[j]'h).toNat = 10 := hgm
            clear hgm
            rcases goodT_some pre none st HA.out.2.2 with ⟨hnil, hst⟩ | ⟨⟨bl, n', ls⟩, hst⟩
            · subst hst
              subst hnil
              obtain rfl : k = 0 := HK.out.1.symm
              obtain rfl : k1 = 1 := HK.out.2.symm
              have hRW := fun V => rwords_c wl (by have := HTR.out; omega) V
              rw [HTR.out.1] at hRW
              have HRW := hid hRW
              have hF := readT_none wl
              obtain ⟨a0, r, hws⟩ := wordsL_form 32 wl
              rw [hws] at hF HRW
              have hwl := wordsL_mem 32 wl
              rw [hws] at hwl
              clear hRW
              by_cases h2 : r.length = 2
              · obtain ⟨x, y, hxy⟩ : ∃ x y, r = [x, y] := by
                  rcases r with _ | ⟨x, _ | ⟨y, _ | ⟨q, r⟩⟩⟩
                  · simp at h2
                  · simp at h2
                  · exact ⟨x, y, rfl⟩
                  · simp at h2
                subst hxy
                obtain ⟨A0, hA0⟩ : ∃ A : ByteArray, ⟨a0.toArray⟩ = A := ⟨_, rfl⟩
                have hA0l : A0.toList = a0 := by rw [← hA0, ByteArray.toList_eq]
                have HA0 := hid hA0
                clear hA0 h2 hws
                by_cases hd : a0 = wDr
                · have q1 : A0.toList = [100, 114, 97, 119] := by rw [hA0l, hd]; rfl
                  obtain ⟨X, hX0⟩ : ∃ A : ByteArray, ⟨x.toArray⟩ = A := ⟨_, rfl⟩
                  obtain ⟨Y, hY0⟩ : ∃ A : ByteArray, ⟨y.toArray⟩ = A := ⟨_, rfl⟩
                  have hnX := fun V => rnumber_c x (by have := hwl x (by simp); have := HTR.out; omega) V
                  have hnY := fun V => rnumber_c y (by have := hwl y (by simp); have := HTR.out; omega) V
                  rw [hX0] at hnX
                  rw [hY0] at hnY
                  have HXY := hid (And.intro hX0 hY0)
                  obtain ⟨vx, hvx⟩ : ∃ v : Int, (if numB x = true then ((numN x : Nat) : Int) else 0) = v := ⟨_, rfl⟩
                  obtain ⟨bx, hbx⟩ : ∃ b, numB x = b := ⟨_, rfl⟩
                  obtain ⟨vy, hvy⟩ : ∃ v : Int, (if numB y = true then ((numN y : Nat) : Int) else 0) = v := ⟨_, rfl⟩
                  obtain ⟨by2, hby⟩ : ∃ b, numB y = b := ⟨_, rfl⟩
                  rw [hvx, hbx] at hnX
                  rw [hvy, hby] at hnY
                  have HNX := hid hnX
                  have HNY := hid hnY
                  have HVX := hid (And.intro hvx hbx)
                  have HVY := hid (And.intro hvy hby)
                  have FL0 := hid trivial
                  clear hnX hnY hX0 hY0 hvx hbx hvy hby hwl hA0l
                  cases hbb : bx && by2 with
                  | false =>
                    have hE : readT none wl = (none, 4) := by
                      rw [hF, first_no1 _ _ (by rw [List.all_cons, List.all_cons, HVX.out.2, HVY.out.2, List.all_nil, Bool.and_true]; exact hbb)]
                    have HBAD := hid (HX.out.2 (by rw [hE]; exact (show ¬ (4 : Int) = 0 by decide)))
                    rw [hE] at HBAD
                    clear hE hF hd
                    cases bx with
                    | false =>
                      clear hbb
                      go_wp2_with (first
                        | (go_at_call 47; refine (HRW.out _).mono ?_; rintro e w2 ⟨⟨v2, rfl, hv2⟩, hb2⟩; obtain ⟨gw, cw, cur', rfl, hgw, hcur, hcs'⟩ := hv2.at' (by simp [bas]); rw [show (bas [a0, x, y]).length = 3 from by simp [bas]]; have HR2 := hid (HRA.out.below hb2); have hc0 : w2.cell? ⟨gw, 0, none⟩ = some (.string A0) := (cell_of_row _ _ 0 _ _ (0, 0) hcur).trans (hcs' 0 A0 (by simp [bas, HA0.out])); have hc1 : w2.cell? ⟨gw, 1, none⟩ = some (.string X) := (cell_of_row _ _ 1 _ _ (0, 0) hcur).trans (hcs' 1 X (by simp [bas, HXY.out.1])); have hc2 : w2.cell? ⟨gw, 2, none⟩ = some (.string Y) := (cell_of_row _ _ 2 _ _ (0, 0) hcur).trans (hcs' 2 Y (by simp [bas, HXY.out.2])); clear hv2 hb2 hgw hcur hcs')
                        | (go_at_call 48; have hq := FL0; clear hq FL0; refine (HNX.out _).mono ?_; rintro e w3 ⟨rfl, rfl⟩)
                          | (go_at_call 48; refine (HNY.out _).mono ?_; rintro e w3 ⟨rfl, rfl⟩)
                        | (refine wpList_store_rowTo rfl 37 (.tmp 2) (.tmp 87) rfl rfl g repZ rfl rfl 37 _ HR2.out.r (by kernel_rfl) rfl repZ_one ?_; rw [setRow_self HR2.out.r]))
                      refine bodyPost_ret (results_aud4 Tryz.results14 rfl rfl rfl HR2.out.r rfl) rfl ⟨audR_bad HL2.out (by decide) HBAD.out, HR2.out.b⟩
                    | true =>
                      simp only [Bool.true_and] at hbb
                      subst hbb
                      go_wp2_with (first
                        | (go_at_call 47; refine (HRW.out _).mono ?_; rintro e w2 ⟨⟨v2, rfl, hv2⟩, hb2⟩; obtain ⟨gw, cw, cur', rfl, hgw, hcur, hcs'⟩ := hv2.at' (by simp [bas]); rw [show (bas [a0, x, y]).length = 3 from by simp [bas]]; have HR2 := hid (HRA.out.below hb2); have hc0 : w2.cell? ⟨gw, 0, none⟩ = some (.string A0) := (cell_of_row _ _ 0 _ _ (0, 0) hcur).trans (hcs' 0 A0 (by simp [bas, HA0.out])); have hc1 : w2.cell? ⟨gw, 1, none⟩ = some (.string X) := (cell_of_row _ _ 1 _ _ (0, 0) hcur).trans (hcs' 1 X (by simp [bas, HXY.out.1])); have hc2 : w2.cell? ⟨gw, 2, none⟩ = some (.string Y) := (cell_of_row _ _ 2 _ _ (0, 0) hcur).trans (hcs' 2 Y (by simp [bas, HXY.out.2])); clear hv2 hb2 hgw hcur hcs')
                        | (go_at_call 48; have hq := FL0; clear hq FL0; refine (HNX.out _).mono ?_; rintro e w3 ⟨rfl, rfl⟩)
                          | (go_at_call 48; refine (HNY.out _).mono ?_; rintro e w3 ⟨rfl, rfl⟩)
                        | (refine wpList_store_rowTo rfl 37 (.tmp 2) (.tmp 87) rfl rfl g repZ rfl rfl 37 _ HR2.out.r (by kernel_rfl) rfl repZ_one ?_; rw [setRow_self HR2.out.r]))
                      refine bodyPost_ret (results_aud4 Tryz.results14 rfl rfl rfl HR2.out.r rfl) rfl ⟨audR_bad HL2.out (by decide) HBAD.out, HR2.out.b⟩
                  | true =>
                    rw [Bool.and_eq_true] at hbb
                    obtain ⟨rfl, rfl⟩ := hbb
                    have hf : firstW [a0, x, y] = some (numN x, numN y) := by rw [firstW, if_pos ⟨hd, HVX.out.2, HVY.out.2⟩]
                    rw [hf] at hF
                    simp only at hF
                    have hx3 := HVX.out.1
                    have hy3 := HVY.out.1
                    rw [if_pos HVX.out.2] at hx3
                    rw [if_pos HVY.out.2] at hy3
                    obtain ⟨nx, hnx⟩ : ∃ nx, numN x = nx := ⟨_, rfl⟩
                    obtain ⟨ny, hny⟩ : ∃ ny, numN y = ny := ⟨_, rfl⟩
                    rw [hnx] at hF hx3
                    rw [hny] at hF hy3
                    subst hx3 hy3
                    have hI1 := fun V => rin_c ((nx : Nat) : Int) 1 1000000000 V
                    have hI2 := fun V => rin_c ((ny : Nat) : Int) 1 30 V
                    clear hf hnx hny hd
                    by_cases hr1 : 1 ≤ nx ∧ nx ≤ 1000000000
                    · rw [decide_eq_true (show (1 : Int) ≤ ((nx : Nat) : Int) by omega), decide_eq_true (show ((nx : Nat) : Int) ≤ 1000000000 by omega)] at hI1
                      have HI1 := hid hI1
                      have FL1 := hid trivial
                      by_cases hr2 : 1 ≤ ny ∧ ny ≤ 30
                      · rw [decide_eq_true (show (1 : Int) ≤ ((ny : Nat) : Int) by omega), decide_eq_true (show ((ny : Nat) : Int) ≤ 30 by omega)] at hI2
                        have HI2 := hid hI2
                        rw [if_pos ⟨hr1.1, hr1.2, hr2.1, hr2.2⟩] at hF
                        have HGD := hid (HX.out.1 (by rw [hF]))
                        rw [hF] at HGD
                        clear hI1 hI2 hF hr1 hr2
                        go_wp2_with (first
                          | (go_at_call 47; refine (HRW.out _).mono ?_; rintro e w2 ⟨⟨v2, rfl, hv2⟩, hb2⟩; obtain ⟨gw, cw, cur', rfl, hgw, hcur, hcs'⟩ := hv2.at' (by simp [bas]); rw [show (bas [a0, x, y]).length = 3 from by simp [bas]]; have HR2 := hid (HRA.out.below hb2); have hc0 : w2.cell? ⟨gw, 0, none⟩ = some (.string A0) := (cell_of_row _ _ 0 _ _ (0, 0) hcur).trans (hcs' 0 A0 (by simp [bas, HA0.out])); have hc1 : w2.cell? ⟨gw, 1, none⟩ = some (.string X) := (cell_of_row _ _ 1 _ _ (0, 0) hcur).trans (hcs' 1 X (by simp [bas, HXY.out.1])); have hc2 : w2.cell? ⟨gw, 2, none⟩ = some (.string Y) := (cell_of_row _ _ 2 _ _ (0, 0) hcur).trans (hcs' 2 Y (by simp [bas, HXY.out.2])); clear hv2 hb2 hgw hcur hcs')
                          | (go_at_call 48; have hq := FL0; clear hq FL0; refine (HNX.out _).mono ?_; rintro e w3 ⟨rfl, rfl⟩)
                          | (go_at_call 48; refine (HNY.out _).mono ?_; rintro e w3 ⟨rfl, rfl⟩)
                          | (go_at_call 32; have hq := FL1; clear hq FL1; refine (HI1.out _).mono ?_; rintro e w3 ⟨rfl, rfl⟩)
                          | (go_at_call 32; refine (HI2.out _).mono ?_; rintro e w3 ⟨rfl, rfl⟩)
                          | (refine wpList_store_rowTo rfl 49 (.tmp 5) (.tmp 99) rfl rfl (g + 1) #[.int .i64 ((nx : Nat) : Int), .int .i64 ((ny : Nat) : Int), .slice none 0 0] rfl rfl 49 _ HR2.out.d (by kernel_rfl) rfl (draw_one _ _ _ _ _) ?_; have hr3 : RAu w (w2.setRow (g + 1) #[.int .i64 ((nx : Nat) : Int), .int .i64 ((ny : Nat) : Int), .slice none 0 0]) g (some (nx, ny, [])) (.slice none 0 0) := ⟨(setRow_ne (by omega)).trans HR2.out.r, setRow_at HR2.out.d, .inl ⟨rfl, none, 0, rfl⟩, HR2.out.b.trans (setRow_below (by omega))⟩; generalize w2.setRow (g + 1) #[.int .i64 ((nx : Nat) : Int), .int .i64 ((ny : Nat) : Int), .slice none 0 0] = w5 at hr3 ⊢; have HR5 := hid hr3; clear hr3))
                        go_roundw
                        case rel => exact ⟨r2, _, some (nx, ny, []), _, by rw [HTR.out.2.1], by rw [HREL.out.2.1]; rfl, ⟨by have := HREL.out; have := HN0.out; omega, HREL.out.1, HGD.out⟩, HR5.out⟩
                        case measure => rw [← HTR.out.2.1]; show r2.toArray.size < S.size; have := HREL.out; simp; omega
                      · have hff : (decide ((1 : Int) ≤ ((ny : Nat) : Int)) && decide (((ny : Nat) : Int) ≤ 30)) = false := by
                          rw [Bool.eq_false_iff]; simp; omega
                        simp only [hff] at hI2
                        have HI2 := hid hI2
                        rw [if_neg fun h => hr2 h.2.2] at hF
                        have HBAD := hid (HX.out.2 (by rw [hF]; exact (show ¬ (3 : Int) = 0 by decide)))
                        rw [hF] at HBAD
                        clear hI1 hI2 hF hr1 hr2 hff
                        go_wp2_with (first
                          | (go_at_call 47; refine (HRW.out _).mono ?_; rintro e w2 ⟨⟨v2, rfl, hv2⟩, hb2⟩; obtain ⟨gw, cw, cur', rfl, hgw, hcur, hcs'⟩ := hv2.at' (by simp [bas]); rw [show (bas [a0, x, y]).length = 3 from by simp [bas]]; have HR2 := hid (HRA.out.below hb2); have hc0 : w2.cell? ⟨gw, 0, none⟩ = some (.string A0) := (cell_of_row _ _ 0 _ _ (0, 0) hcur).trans (hcs' 0 A0 (by simp [bas, HA0.out])); have hc1 : w2.cell? ⟨gw, 1, none⟩ = some (.string X) := (cell_of_row _ _ 1 _ _ (0, 0) hcur).trans (hcs' 1 X (by simp [bas, HXY.out.1])); have hc2 : w2.cell? ⟨gw, 2, none⟩ = some (.string Y) := (cell_of_row _ _ 2 _ _ (0, 0) hcur).trans (hcs' 2 Y (by simp [bas, HXY.out.2])); clear hv2 hb2 hgw hcur hcs')
                          | (go_at_call 48; have hq := FL0; clear hq FL0; refine (HNX.out _).mono ?_; rintro e w3 ⟨rfl, rfl⟩)
                          | (go_at_call 48; refine (HNY.out _).mono ?_; rintro e w3 ⟨rfl, rfl⟩)
                          | (go_at_call 32; have hq := FL1; clear hq FL1; refine (HI1.out _).mono ?_; rintro e w3 ⟨rfl, rfl⟩)
                          | (go_at_call 32; refine (HI2.out _).mono ?_; rintro e w3 ⟨rfl, rfl⟩)
                          | (refine wpList_store_rowTo rfl 37 (.tmp 2) (.tmp 96) rfl rfl g repZ rfl rfl 37 _ HR2.out.r (by kernel_rfl) rfl repZ_one ?_; rw [setRow_self HR2.out.r]))
                        refine bodyPost_ret (results_aud4 Tryz.results14 rfl rfl rfl HR2.out.r rfl) rfl ⟨audR_bad HL2.out (by decide) HBAD.out, HR2.out.b⟩
                    · have hff : (decide ((1 : Int) ≤ ((nx : Nat) : Int)) && decide (((nx : Nat) : Int) ≤ 1000000000)) = false := by
                        rw [Bool.eq_false_iff]; simp; omega
                      simp only [hff] at hI1
                      have HI1 := hid hI1
                      rw [if_neg fun h => hr1 ⟨h.1, h.2.1⟩] at hF
                      have HBAD := hid (HX.out.2 (by rw [hF]; exact (show ¬ (3 : Int) = 0 by decide)))
                      rw [hF] at HBAD
                      clear hI1 hI2 hF hr1 hff
                      go_wp2_with (first
                        | (go_at_call 47; refine (HRW.out _).mono ?_; rintro e w2 ⟨⟨v2, rfl, hv2⟩, hb2⟩; obtain ⟨gw, cw, cur', rfl, hgw, hcur, hcs'⟩ := hv2.at' (by simp [bas]); rw [show (bas [a0, x, y]).length = 3 from by simp [bas]]; have HR2 := hid (HRA.out.below hb2); have hc0 : w2.cell? ⟨gw, 0, none⟩ = some (.string A0) := (cell_of_row _ _ 0 _ _ (0, 0) hcur).trans (hcs' 0 A0 (by simp [bas, HA0.out])); have hc1 : w2.cell? ⟨gw, 1, none⟩ = some (.string X) := (cell_of_row _ _ 1 _ _ (0, 0) hcur).trans (hcs' 1 X (by simp [bas, HXY.out.1])); have hc2 : w2.cell? ⟨gw, 2, none⟩ = some (.string Y) := (cell_of_row _ _ 2 _ _ (0, 0) hcur).trans (hcs' 2 Y (by simp [bas, HXY.out.2])); clear hv2 hb2 hgw hcur hcs')
                        | (go_at_call 48; have hq := FL0; clear hq FL0; refine (HNX.out _).mono ?_; rintro e w3 ⟨rfl, rfl⟩)
                          | (go_at_call 48; refine (HNY.out _).mono ?_; rintro e w3 ⟨rfl, rfl⟩)
                        | (go_at_call 32; refine (HI1.out _).mono ?_; rintro e w3 ⟨rfl, rfl⟩)
                        | (refine wpList_store_rowTo rfl 37 (.tmp 2) (.tmp 96) rfl rfl g repZ rfl rfl 37 _ HR2.out.r (by kernel_rfl) rfl repZ_one ?_; rw [setRow_self HR2.out.r]))
                      refine bodyPost_ret (results_aud4 Tryz.results14 rfl rfl rfl HR2.out.r rfl) rfl ⟨audR_bad HL2.out (by decide) HBAD.out, HR2.out.b⟩
                · have q1 : (A0.toList == [100, 114, 97, 119]) = false := by rw [hA0l]; exact beq_eq_false_iff_ne.2 hd
                  have hE : readT none wl = (none, 4) := by rw [hF, first_no3 _ _ hd]
                  have HBAD := hid (HX.out.2 (by rw [hE]; exact (show ¬ (4 : Int) = 0 by decide)))
                  rw [hE] at HBAD
                  clear hE hF hwl hd hA0l
                  go_wp2_with (first
                    | (go_at_call 47; refine (HRW.out _).mono ?_; rintro e w2 ⟨⟨v2, rfl, hv2⟩, hb2⟩; obtain ⟨gw, cw, cur', rfl, hgw, hcur, hcs'⟩ := hv2.at' (by simp [bas]); rw [show (bas [a0, x, y]).length = 3 from by simp [bas]]; have HR2 := hid (HRA.out.below hb2); have hc0 : w2.cell? ⟨gw, 0, none⟩ = some (.string A0) := (cell_of_row _ _ 0 _ _ (0, 0) hcur).trans (hcs' 0 A0 (by simp [bas, HA0.out])); clear hv2 hb2 hgw hcur hcs')
                    | (refine wpList_store_rowTo rfl 37 (.tmp 2) (.tmp 66) rfl rfl g repZ rfl rfl 37 _ HR2.out.r (by kernel_rfl) rfl repZ_one ?_; rw [setRow_self HR2.out.r]))
                  refine bodyPost_ret (results_aud4 Tryz.results14 rfl rfl rfl HR2.out.r rfl) rfl ⟨audR_bad HL2.out (by decide) HBAD.out, HR2.out.b⟩
              · have hE : readT none wl = (none, 4) := by rw [hF, first_no2 _ _ h2]
                have HBAD := hid (HX.out.2 (by rw [hE]; exact (show ¬ (4 : Int) = 0 by decide)))
                rw [hE] at HBAD
                obtain ⟨kr, hkr⟩ : ∃ kr, r.length + 1 = kr := ⟨_, rfl⟩
                have HKR := hid hkr
                have e58 : (((kr : Nat) : Int) != 3) = true := by simp; omega
                have e58' : ¬ kr = 3 := by omega
                have e58'' : (((kr : Nat) : Int) == 3) = false := by simp; omega
                clear hE hF hwl h2 hws hkr
                go_wp2_with (first
                  | (go_at_call 47; refine (HRW.out _).mono ?_; rintro e w2 ⟨⟨v2, rfl, hv2⟩, hb2⟩; obtain ⟨gw, cw, cur', rfl, hgw, hcur, hcs'⟩ := hv2.at' (by simp [bas]); rw [show (bas (a0 :: r)).length = kr from by simp [bas, HKR.out]]; have HR2 := hid (HRA.out.below hb2); clear hv2 hb2 hgw hcur hcs')
                  | (refine wpList_store_rowTo rfl 37 (.tmp 2) (.tmp 66) rfl rfl g repZ rfl rfl 37 _ HR2.out.r (by kernel_rfl) rfl repZ_one ?_; rw [setRow_self HR2.out.r]))
                refine bodyPost_ret (results_aud4 Tryz.results14 rfl rfl rfl HR2.out.r rfl) rfl ⟨audR_bad HL2.out (by decide) HBAD.out, HR2.out.b⟩
            · subst hst
              have hk0 : k1 ≠ 1 := fun e => by
                have h1 := HK.out
                have : pre.length = 0 := by omega
                have h2 := HA.out.2.2
                rw [List.eq_nil_of_length_eq_zero this] at h2
                cases h2
              have e13 : (((k1 : Nat) : Int) == 1) = false := by simp; omega
              have hRD := fun V => rread_c wl (by have := HTR.out; omega) V
              rw [HTR.out.1] at hRD
              have hF := readT_some bl n' ls wl
              rw [← line_w] at hF
              have hG := HGS.out bl n' ls rfl
              obtain ⟨pv, cv, hv0⟩ := HRA.out.l.form
              have hlsl : ls.length ≤ 100000 := by have := HLEN.out bl n' ls rfl; have := HK.out; omega
              obtain ⟨lv, hlv⟩ : ∃ lv, ls.length = lv := ⟨_, rfl⟩
              change v = .slice pv ls.length cv at hv0
              rw [hlv] at hv0
              subst hv0
              clear hlv hk0
              cases hln : lineOf wl with
              | none =>
                have hE : readT (some (bl, n', ls)) wl = (some (bl, n', ls), 4) := by rw [hF, hln]
                have HBAD := hid (HX.out.2 (by rw [hE]; exact (show ¬ (4 : Int) = 0 by decide)))
                rw [hE] at HBAD
                have HRD := hid (fun V => (hRD V).mono fun e w' h => And.intro (linR_none hln h.1) h.2)
                clear hE hF hRD hG hln hlsl
                go_wp2_with (first
                  | (go_at_call 49; refine (HRD.out _).mono ?_; rintro e w2 ⟨⟨⟨xk, xh, xp, xv, xs⟩, rfl⟩, hb2⟩; simp only; have HR2 := hid (HRA.out.below hb2); clear hb2)
                  | (refine wpList_store_rowTo rfl 56 (.tmp 14) (.tmp 103) rfl rfl w2.heap.size #[.int .i64 xk, .string xh, .int .i64 xp, .int .i64 xv, .string xs] rfl rfl 56 _ (heap_alloc_new w2 _) (by kernel_rfl) rfl (line_one _ _ _ _ _) ?_; obtain ⟨hq3, hb3⟩ := alloc_row (W := w2) (cs := #[.int .i64 xk, .string xh, .int .i64 xp, .int .i64 xv, .string xs]) (T := 56) (old := #[.int .i64 0, .string ⟨#[]⟩, .int .i64 0, .int .i64 0, .string ⟨#[]⟩]) rfl; have hr3 := HR2.out.below hb3; generalize (w2.alloc (.cells #[.int .i64 0, .string ⟨#[]⟩, .int .i64 0, .int .i64 0, .string ⟨#[]⟩] 56)).setRow w2.heap.size #[.int .i64 xk, .string xh, .int .i64 xp, .int .i64 xv, .string xs] = w3 at hq3 hr3 ⊢; obtain ⟨q, hq⟩ : ∃ q, w2.heap.size = q := ⟨_, rfl⟩; rw [hq] at hq3 ⊢; have HR3 := hid hr3; have y0 := cell_of_row _ _ 0 _ _ _ hq3; have y1 := cell_of_row _ _ 1 _ _ _ hq3; have y2 := cell_of_row _ _ 2 _ _ _ hq3; have y3 := cell_of_row _ _ 3 _ _ _ hq3; have y4 := cell_of_row _ _ 4 _ _ _ hq3; have k0 := cell_of_row _ _ 0 _ _ _ hr3.d; have k1' := cell_of_row _ _ 1 _ _ _ hr3.d; have k2 := cell_of_row _ _ 2 _ _ _ hr3.d; simp only [drow] at k0 k1' k2; clear hb3 hq hq3 hr3)
                  | (refine wpList_store_rowTo rfl 37 (.tmp 2) (.tmp 107) rfl rfl g repZ rfl rfl 37 _ HR3.out.r (by kernel_rfl) rfl repZ_one ?_; rw [setRow_self HR3.out.r]))
                refine bodyPost_ret (results_aud4 Tryz.results14 rfl rfl rfl HR3.out.r rfl) rfl ⟨audR_bad HL2.out (by decide) HBAD.out, HR3.out.b⟩
              | some x =>
                have hkd := lineW_kind (show lineW (wordsL 32 wl) = some x from hln)
                have hxz := lineW_size (m := 20000) (show lineW (wordsL 32 wl) = some x from hln) (fun w hw => Nat.le_trans (wordsL_mem 32 wl w hw) (by have := HTR.out; omega))
                rw [hln] at hF
                simp only at hF
                have hadd := fun V (hr : ReadsL V (.slice pv lv cv) ls) => radd_c bl n' hG.1.1.2 (by have := hG.1; omega) (.slice pv lv cv) ls x (hkd.imp (fun h => h.1) id) V hr hlsl (by omega) (by omega)
                have HRD := hid (fun V => (hRD V).mono fun e w' h => And.intro (linR_some hln h.1) h.2)
                obtain ⟨E, hE⟩ : ∃ E, addE bl n' ls x = E := ⟨_, rfl⟩
                obtain ⟨ls2, hls2⟩ : ∃ q, addL bl n' ls x = q := ⟨_, rfl⟩
                rw [hE, hls2] at hF hadd
                obtain ⟨xk, xh, xp, xv, xs⟩ := x
                simp only [lineC] at hadd HRD
                have HADD := hid hadd
                have hX2 := HX.out
                rw [hF] at hX2
                clear hF hRD hG hln hkd hxz hadd hlsl hE hls2
                by_cases hE0 : E = 0
                · subst hE0
                  have HGD := hid (hX2.1 rfl)
                  clear hX2
                  go_wp2_with (first
                    | (go_at_call 49; refine (HRD.out _).mono ?_; rintro e w2 ⟨rfl, hb2⟩; have HR2 := hid (HRA.out.below hb2); clear hb2)
                    | (refine wpList_store_rowTo rfl 56 (.tmp 14) (.tmp 103) rfl rfl w2.heap.size #[.int .i64 xk, .string xh, .int .i64 xp, .int .i64 xv, .string xs] rfl rfl 56 _ (heap_alloc_new w2 _) (by kernel_rfl) rfl (line_one _ _ _ _ _) ?_; obtain ⟨hq3, hb3⟩ := alloc_row (W := w2) (cs := #[.int .i64 xk, .string xh, .int .i64 xp, .int .i64 xv, .string xs]) (T := 56) (old := #[.int .i64 0, .string ⟨#[]⟩, .int .i64 0, .int .i64 0, .string ⟨#[]⟩]) rfl; have hr3 := HR2.out.below hb3; generalize (w2.alloc (.cells #[.int .i64 0, .string ⟨#[]⟩, .int .i64 0, .int .i64 0, .string ⟨#[]⟩] 56)).setRow w2.heap.size #[.int .i64 xk, .string xh, .int .i64 xp, .int .i64 xv, .string xs] = w3 at hq3 hr3 ⊢; obtain ⟨q, hq⟩ : ∃ q, w2.heap.size = q := ⟨_, rfl⟩; rw [hq] at hq3 ⊢; have HR3 := hid hr3; have y0 := cell_of_row _ _ 0 _ _ _ hq3; have y1 := cell_of_row _ _ 1 _ _ _ hq3; have y2 := cell_of_row _ _ 2 _ _ _ hq3; have y3 := cell_of_row _ _ 3 _ _ _ hq3; have y4 := cell_of_row _ _ 4 _ _ _ hq3; have k0 := cell_of_row _ _ 0 _ _ _ hr3.d; have k1' := cell_of_row _ _ 1 _ _ _ hr3.d; have k2 := cell_of_row _ _ 2 _ _ _ hr3.d; simp only [drow] at k0 k1' k2; clear hb3 hq hq3 hr3)
                    | (go_at_call 19; refine (HADD.out w3 HR3.out.l).mono ?_; rintro e w4 ⟨v', rfl, hl4, hb4⟩; obtain ⟨p', c', rfl⟩ := hl4.form; obtain ⟨dl, hdl⟩ : ∃ dl, ls2.length = dl := ⟨_, rfl⟩; rw [hdl] at hl4 ⊢; have HR4 := hid (HR3.out.below hb4); have HLS4 := hid hl4; clear hl4 hb4 hdl)
                    | (refine wpList_store_rowTo rfl 49 (.tmp 16) (.tmp 113) rfl rfl w4.heap.size #[.int .i64 ((bl : Nat) : Int), .int .i64 ((n' : Nat) : Int), .slice p' dl c'] rfl rfl 49 _ (heap_alloc_new w4 _) (by kernel_rfl) rfl (draw_one _ _ _ _ _) ?_; obtain ⟨hq5, hb5⟩ := alloc_row (W := w4) (cs := #[.int .i64 ((bl : Nat) : Int), .int .i64 ((n' : Nat) : Int), .slice p' dl c']) (T := 49) (old := #[.int .i64 0, .int .i64 0, .slice none 0 0]) rfl; have hr5 := HR4.out.below hb5; have hl5 := HLS4.out.below hb5; generalize (w4.alloc (.cells #[.int .i64 0, .int .i64 0, .slice none 0 0] 49)).setRow w4.heap.size #[.int .i64 ((bl : Nat) : Int), .int .i64 ((n' : Nat) : Int), .slice p' dl c'] = w5 at hq5 hr5 hl5 ⊢; obtain ⟨q2, hq2⟩ : ∃ q, w4.heap.size = q := ⟨_, rfl⟩; rw [hq2] at hq5 ⊢; have HR5 := hid hr5; have HLS5 := hid hl5; have z0 := cell_of_row _ _ 0 _ _ _ hq5; have z1 := cell_of_row _ _ 1 _ _ _ hq5; have z2 := cell_of_row _ _ 2 _ _ _ hq5; clear hb5 hq2 hq5 hr5 hl5)
                    | (refine wpList_store_rowTo rfl 49 (.tmp 5) (.tmp 120) rfl rfl (g + 1) #[.int .i64 ((bl : Nat) : Int), .int .i64 ((n' : Nat) : Int), .slice p' dl c'] rfl rfl 49 _ HR5.out.d (by kernel_rfl) rfl (draw_one _ _ _ _ _) ?_; have hr6 : RAu w (w5.setRow (g + 1) #[.int .i64 ((bl : Nat) : Int), .int .i64 ((n' : Nat) : Int), .slice p' dl c']) g (some (bl, n', ls2)) (.slice p' dl c') := ⟨(setRow_ne (by omega)).trans HR5.out.r, setRow_at HR5.out.d, HLS5.out.setRow3 HR5.out.d (by simp [drow]), HR5.out.b.trans (setRow_below (by omega))⟩; generalize w5.setRow (g + 1) #[.int .i64 ((bl : Nat) : Int), .int .i64 ((n' : Nat) : Int), .slice p' dl c'] = w6 at hr6 ⊢; have HR6 := hid hr6; clear hr6))
                  go_roundw
                  case rel => exact ⟨r2, _, some (bl, n', ls2), _, by rw [HTR.out.2.1], by rw [HREL.out.2.1], ⟨by have := HREL.out; have := HN0.out; omega, HREL.out.1, HGD.out⟩, HR6.out⟩
                  case measure => rw [← HTR.out.2.1]; show r2.toArray.size < S.size; have := HREL.out; simp; omega
                · have HBAD := hid (hX2.2 hE0)
                  have HE0 := hid hE0
                  have eE : (E != 0) = true := by simp [hE0]
                  have eE2 : (E == 0) = false := by simp [hE0]
                  clear hX2 hE0
                  go_wp2_with (first
                    | (go_at_call 49; refine (HRD.out _).mono ?_; rintro e w2 ⟨rfl, hb2⟩; have HR2 := hid (HRA.out.below hb2); clear hb2)
                    | (refine wpList_store_rowTo rfl 56 (.tmp 14) (.tmp 103) rfl rfl w2.heap.size #[.int .i64 xk, .string xh, .int .i64 xp, .int .i64 xv, .string xs] rfl rfl 56 _ (heap_alloc_new w2 _) (by kernel_rfl) rfl (line_one _ _ _ _ _) ?_; obtain ⟨hq3, hb3⟩ := alloc_row (W := w2) (cs := #[.int .i64 xk, .string xh, .int .i64 xp, .int .i64 xv, .string xs]) (T := 56) (old := #[.int .i64 0, .string ⟨#[]⟩, .int .i64 0, .int .i64 0, .string ⟨#[]⟩]) rfl; have hr3 := HR2.out.below hb3; generalize (w2.alloc (.cells #[.int .i64 0, .string ⟨#[]⟩, .int .i64 0, .int .i64 0, .string ⟨#[]⟩] 56)).setRow w2.heap.size #[.int .i64 xk, .string xh, .int .i64 xp, .int .i64 xv, .string xs] = w3 at hq3 hr3 ⊢; obtain ⟨q, hq⟩ : ∃ q, w2.heap.size = q := ⟨_, rfl⟩; rw [hq] at hq3 ⊢; have HR3 := hid hr3; have y0 := cell_of_row _ _ 0 _ _ _ hq3; have y1 := cell_of_row _ _ 1 _ _ _ hq3; have y2 := cell_of_row _ _ 2 _ _ _ hq3; have y3 := cell_of_row _ _ 3 _ _ _ hq3; have y4 := cell_of_row _ _ 4 _ _ _ hq3; have k0 := cell_of_row _ _ 0 _ _ _ hr3.d; have k1' := cell_of_row _ _ 1 _ _ _ hr3.d; have k2 := cell_of_row _ _ 2 _ _ _ hr3.d; simp only [drow] at k0 k1' k2; clear hb3 hq hq3 hr3)
                    | (go_at_call 19; refine (HADD.out w3 HR3.out.l).mono ?_; rintro e w4 ⟨v', rfl, hl4, hb4⟩; obtain ⟨p', c', rfl⟩ := hl4.form; obtain ⟨dl, hdl⟩ : ∃ dl, ls2.length = dl := ⟨_, rfl⟩; rw [hdl] at hl4 ⊢; have HR4 := hid (HR3.out.below hb4); have HLS4 := hid hl4; clear hl4 hb4 hdl)
                    | (refine wpList_store_rowTo rfl 49 (.tmp 16) (.tmp 113) rfl rfl w4.heap.size #[.int .i64 ((bl : Nat) : Int), .int .i64 ((n' : Nat) : Int), .slice p' dl c'] rfl rfl 49 _ (heap_alloc_new w4 _) (by kernel_rfl) rfl (draw_one _ _ _ _ _) ?_; obtain ⟨hq5, hb5⟩ := alloc_row (W := w4) (cs := #[.int .i64 ((bl : Nat) : Int), .int .i64 ((n' : Nat) : Int), .slice p' dl c']) (T := 49) (old := #[.int .i64 0, .int .i64 0, .slice none 0 0]) rfl; have hr5 := HR4.out.below hb5; have hl5 := HLS4.out.below hb5; generalize (w4.alloc (.cells #[.int .i64 0, .int .i64 0, .slice none 0 0] 49)).setRow w4.heap.size #[.int .i64 ((bl : Nat) : Int), .int .i64 ((n' : Nat) : Int), .slice p' dl c'] = w5 at hq5 hr5 hl5 ⊢; obtain ⟨q2, hq2⟩ : ∃ q, w4.heap.size = q := ⟨_, rfl⟩; rw [hq2] at hq5 ⊢; have HR5 := hid hr5; have HLS5 := hid hl5; have z0 := cell_of_row _ _ 0 _ _ _ hq5; have z1 := cell_of_row _ _ 1 _ _ _ hq5; have z2 := cell_of_row _ _ 2 _ _ _ hq5; clear hb5 hq2 hq5 hr5 hl5)
                    | (refine wpList_store_rowTo rfl 37 (.tmp 2) (.tmp 117) rfl rfl g repZ rfl rfl 37 _ HR5.out.r (by kernel_rfl) rfl repZ_one ?_; rw [setRow_self HR5.out.r]))
                  refine bodyPost_ret (results_aud4 Tryz.results14 rfl rfl rfl HR5.out.r rfl) rfl ⟨audR_bad HL2.out HE0.out HBAD.out, HR5.out.b⟩
      · have hll : linesL cur = [cur] := linesL_last cur hm hz
        have hX := HAN.out cur ⟨[], by rw [HA.out.2.1, hll]⟩
        have hlt : lineT st cur = (st, 4) := by
          rw [lineT, if_neg]
          intro e
          obtain ⟨y, hy⟩ := List.getLast?_eq_some_iff.1 e
          exact hm (by rw [hy]; simp)
        rw [hlt] at hX
        have HAU := hid (hX.2 (show ¬ (4 : Int) = 0 by decide))
        have HNO := hid (show ∀ (j : Nat) c, cur[j]? = some c → c ≠ 10 from fun j c hc e => hm (e ▸ List.mem_of_getElem? hc))
        clear hm hz hll hX hlt
        go_wp2_with fail
        go_loopw [7] (fun ex wr2 => ∃ j : Nat, j ≤ n0 ∧ ex = .int .i64 ((j : Nat) : Int) ∧ wr2 = wr) (fun ex _ => n0 - (intOf ex).toNat)
        case atStart => exact ⟨0, by omega, rfl, rfl⟩
        case round =>
          obtain ⟨j, hj, rfl, hwr⟩ := hrel
          subst hwr
          rcases Nat.lt_or_ge j n0 with hlt | hge
          · have hin : decide (((j : Nat) : Int) < ((n0 : Nat) : Int)) = true := decide_eq_true (by omega)
            have hin' : ((j : Nat) : Int) < ((n0 : Nat) : Int) := by omega
            have hi0 : (0 : Int) ≤ ((j : Nat) : Int) := by omega
            obtain ⟨j1, hj1⟩ : ∃ j1, j + 1 = j1 := ⟨_, rfl⟩
            have hjw : IntKind.i64.wrap (((j : Nat) : Int) + 1) = ((j1 : Nat) : Int) := (IntWalk.i64_in _ (by have := HN0.out; omega)).trans (by omega)
            obtain ⟨c, hc⟩ : ∃ c, cur[j]? = some c := ⟨_, List.getElem?_eq_getElem (by rw [HN0.out.1]; exact hlt)⟩
            have hc10 := HNO.out j c hc
            have hgj := HBY.out j c hc
            obtain ⟨kc, hkc⟩ : ∃ kc, c.toNat = kc := ⟨_, rfl⟩
            rw [hkc] at hgj
            have hk10 : ¬ kc = 10 := fun e => hc10 (UInt8.toNat_inj.1 (hkc.trans e))
            have ek : (((kc : Nat) : Int) != 10) = true := by simp; omega
            have ek2 : (((kc : Nat) : Int) == 10) = false := by simp; omega
            have HJ := hid (And.intro hj1 hlt)
            clear hc hkc hc10 hj1 hlt hk10
            go_wp2_with fail
            go_roundw
            case rel => exact ⟨j1, by have := HJ.out; omega, rfl, trivial⟩
            case measure => have := HJ.out; simp only [intOf, Int.toNat_natCast]; omega
          · obtain rfl : j = n0 := by omega
            have hin : decide (((j : Nat) : Int) < ((j : Nat) : Int)) = false := decide_eq_false (by omega)
            have hin2 : ¬ ((j : Nat) : Int) < ((j : Nat) : Int) := by omega
            go_wp2_with (refine wpList_store_rowTo rfl 37 (.tmp 2) (.tmp 44) rfl rfl g repZ rfl rfl 37 _ HRA.out.r (by kernel_rfl) rfl repZ_one ?_; rw [setRow_self HRA.out.r])
            refine bodyPost_ret (results_aud4 Tryz.results14 rfl rfl rfl HRA.out.r rfl) rfl ⟨audR_bad HL2.out (by decide) HAU.out, HRA.out.b⟩
set_option maxHeartbeats 4000000 in
theorem raudit_long (l : List UInt8) (hl : 20000 < l.length) (hl2 : l.length ≤ 1000000000) (w : World) :
    Calls Tryz.prog 14 #[.string ⟨l.toArray⟩] w fun e w' => AudR w' w.heap.size l e ∧ Below w.heap.size w w' := by
  have hRR : auditL l = (none, 0, 5) := by rw [auditL, if_pos hl]
  have hsz : (⟨l.toArray⟩ : ByteArray).size = l.length := by show l.toArray.size = _; simp
  have hx : (w.alloc (.cells #[.int .i64 0, .int .i64 0, .bool false, .int .i64 0, .slice none 0 0] 37)).heap[w.heap.size]? = some (.cells repZ 37 (0, 0)) := heap_alloc_new w _
  have hb : Below w.heap.size w (w.alloc (.cells #[.int .i64 0, .int .i64 0, .bool false, .int .i64 0, .slice none 0 0] 37)) := (Below.refl _ _).alloc (Nat.le_refl _) _
  obtain ⟨g, hg⟩ : ∃ g, w.heap.size = g := ⟨_, rfl⟩
  obtain ⟨S, hS⟩ : ∃ S : ByteArray, ⟨l.toArray⟩ = S := ⟨_, rfl⟩
  obtain ⟨m, hml⟩ : ∃ m, l.length = m := ⟨_, rfl⟩
  rw [hS, hml] at hsz
  rw [hml] at hl hl2
  rw [hg] at hx hb
  rw [hS, hg]
  have d1 : decide ((20000 : Int) < ((m : Nat) : Int)) = true := decide_eq_true (by omega)
  have d2 : 20000 < m := hl
  have HX := hid (And.intro hx hb)
  have HRR := hid hRR
  have HG := hid hg
  clear hRR hS hml hx hb hl hl2
  go_enter Tryz.func14, Tryz.ntmps14
  go_upto_region 1 with fail
  try rw [HG.out]
  generalize w.alloc (.cells #[.int .i64 0, .int .i64 0, .bool false, .int .i64 0, .slice none 0 0] 37) = V at HX ⊢
  go_wp2_with (refine wpList_store_rowTo rfl 37 (.tmp 2) (.tmp 21) rfl rfl g repZ rfl rfl 37 _ HX.out.1 (by kernel_rfl) rfl repZ_one ?_; rw [setRow_self HX.out.1])
  refine bodyPost_ret (results_aud4 Tryz.results14 rfl rfl rfl HX.out.1 rfl) rfl ⟨?_, HX.out.2⟩
  unfold AudR
  rw [HRR.out]
  rfl
/-- Audit of the reference, of any text. -/
theorem rAudit_c (l : List UInt8) (hl : l.length ≤ 1000000000) (w : World) :
    Calls Tryz.prog 14 #[.string ⟨l.toArray⟩] w fun e w' => AudR w' w.heap.size l e ∧ Below w.heap.size w w' := by
  by_cases h : 20000 < l.length
  · exact raudit_long l h hl w
  · exact raudit_c l (by omega) w
end Go.Proofs.YtbcileppebpamaaGreatDoor
set_option linter.unusedSimpArgs false
set_option linter.unusedVariables false
namespace Go.Proofs.YtbcileppebpamaaGreatDoor
open Go Go.RowKit Go.Shelf
set_option maxRecDepth 100000
theorem audT_zero : ∀ (l : List (List UInt8)) (st : Option St) (k : Nat), (audT st k l).2.2 = 0 → goodT st l = some (audT st k l).1
  | [], st, k, _ => rfl
  | x :: l, st, k, h => by
    rw [audT] at h ⊢
    rw [goodT]
    by_cases e : (lineT st x).2 = 0
    · rw [if_pos e] at h ⊢
      rw [if_pos e]
      exact audT_zero l _ _ h
    · rw [if_neg e] at h
      exact absurd h e
theorem auditL_good {l : List UInt8} {b n : Nat} {ls : List RL} {k : Nat} {er : Int} (h : auditL l = (some (b, n, ls), k, er)) : GoodS b n ls := by
  rw [auditL] at h
  split at h
  · cases h
  · split at h
    · rename_i h0
      have hg := audT_zero _ _ _ h0
      split at h
      · cases h
      · rename_i s hs
        cases h
        exact goodT_good (linesL l) none _ (by intro _ _ _ h; cases h) hg _ _ _ hs
    · cases h
theorem GoodS.devs {b n : Nat} {ls : List RL} (h : GoodS b n ls) : (devL ls n).length ≤ 30 := by
  obtain ⟨h0, D, hR⟩ := h
  rw [← hR.devs]
  have := devFrom_len D.cl D.ps 0
  have h1 := hR.len
  show (devFrom D.cl 0 D.ps).length ≤ 30
  omega
/-- What both audits answer. -/
theorem audR_form (l : List UInt8) : ∃ (b n : Nat) (o : Bool) (v : Int) (ds : List Dv) (k : Nat) (er : Int), ds.length ≤ 100000 ∧ ∀ w' B e, AudR w' B l e → ∃ u, e = .returned (.tuple #[.agg #[.int .i64 ((b : Nat) : Int), .int .i64 ((n : Nat) : Int), .bool o, .int .i64 v, u], .int .i64 ((k : Nat) : Int), .int .i64 er]) ∧ ReadsD w' u ds := by
  rcases hq : auditL l with ⟨_ | ⟨b, n, ls⟩, k, er⟩
  · refine ⟨0, 0, false, 0, [], k, er, by simp, fun w' B e h => ?_⟩
    unfold AudR at h
    rw [hq] at h
    exact ⟨.slice none 0 0, h, .inl ⟨rfl, _, _, rfl⟩⟩
  · refine ⟨b, n, overL n ls, repN b n ls, devL ls n, 0, 0, by have := (auditL_good hq).devs; omega, fun w' B e h => ?_⟩
    unfold AudR at h
    rw [hq] at h
    obtain ⟨u, h1, h2⟩ := h
    exact ⟨u, h1, h2.readsD⟩
set_option maxHeartbeats 8000000 in
theorem lawAudits (s : ByteArray) (hs : s.size ≤ maxLen) (w : World) (L : LaidW w) (hML : ∃ k, w.cell? ⟨2, 0, none⟩ = some (.int .i64 k)) :
    Calls Tryz.prog 4 #[.string s] w fun e w' => e = .returned (.bool true) ∧ Below w.heap.size w w' := by
  obtain ⟨l, rfl⟩ : ∃ l : List UInt8, s = ⟨l.toArray⟩ := ⟨s.data.toList, by simp⟩
  have hsz : (⟨l.toArray⟩ : ByteArray).size = l.length := by show l.toArray.size = _; simp
  have hm64 : l.length ≤ 9223372036854775807 := by rw [hsz] at hs; unfold maxLen at hs; omega
  have HLL := hid L
  have HML := hid hML
  obtain ⟨b, n, o, v, ds, k, er, hdl, hform⟩ := audR_form l
  obtain ⟨S, hS⟩ : ∃ S : ByteArray, ⟨l.toArray⟩ = S := ⟨_, rfl⟩
  obtain ⟨m, hm⟩ : ∃ m, l.length = m := ⟨_, rfl⟩
  rw [hS, hm] at hsz
  rw [hm] at hm64
  rw [hS]
  have HKN := hid (fun V (hV : Below w.heap.size w V) => known_c V (L.below hV))
  obtain ⟨dl, hdl2⟩ : ∃ dl, ds.length = dl := ⟨_, rfl⟩
  have HDL := hid (And.intro hdl2 hdl)
  have HSM := hid (And.intro hS hm)
  clear L hML hs hS hm hdl hdl2
  by_cases h1 : 4000 < m ∧ m ≤ 20000 ∨ 21000 < m
  · have HK0 := hid (HKN.out w (Below.refl _ _))
    rcases h1 with ⟨h1, h2⟩ | h1
    · have d1 : decide ((4000 : Int) < ((m : Nat) : Int)) = true := decide_eq_true (by omega)
      have d2 : decide (((m : Nat) : Int) ≤ 20000) = true := decide_eq_true (by omega)
      clear h1 h2
      go_enter Tryz.func4, Tryz.ntmps4
      go_wp2_with (go_at_call 7; refine HK0.out.mono ?_; rintro e w1 ⟨rfl, hb1⟩)
      go_ret
      exact ⟨rfl, hb1⟩
    · have d1 : decide ((4000 : Int) < ((m : Nat) : Int)) = true := decide_eq_true (by omega)
      have d2 : decide (((m : Nat) : Int) ≤ 20000) = false := decide_eq_false (by omega)
      have d3 : decide ((21000 : Int) < ((m : Nat) : Int)) = true := decide_eq_true (by omega)
      clear h1
      go_enter Tryz.func4, Tryz.ntmps4
      go_wp2_with (go_at_call 7; refine HK0.out.mono ?_; rintro e w1 ⟨rfl, hb1⟩)
      go_ret
      exact ⟨rfl, hb1⟩
  · have hA := fun V (hV : Below w.heap.size w V) => (Audit_c l (by have := HSM.out; omega) V (HLL.out.below hV) (max_below HML.out hV)).mono fun e w' h => And.intro (hform w' V.heap.size e h.1) h.2
    have hB := fun V => (rAudit_c l (by have := HSM.out; omega) V).mono fun e w' h => And.intro (hform w' V.heap.size e h.1) h.2
    rw [HSM.out.1] at hA hB
    have HA := hid hA
    have HB := hid hB
    have e1 : (((k : Nat) : Int) == ((k : Nat) : Int)) = true := by simp
    have e2 : (er == er) = true := by simp
    clear hA hB hform
    by_cases h4 : 4000 < m
    · have d1 : decide ((4000 : Int) < ((m : Nat) : Int)) = true := decide_eq_true (by omega)
      have d2 : decide (((m : Nat) : Int) ≤ 20000) = false := decide_eq_false (by omega)
      have d3 : decide ((21000 : Int) < ((m : Nat) : Int)) = false := decide_eq_false (by omega)
      clear h1 h4
      go_enter Tryz.func4, Tryz.ntmps4
      go_wp2_with (first
        | (go_at_call 13; refine (HA.out w (Below.refl _ _)).mono ?_; rintro e w2 ⟨⟨u1, rfl, hu1⟩, hb2⟩; obtain ⟨p1, c1, rfl⟩ := hu1.form; rw [HDL.out.1] at hu1 ⊢; have HU2 := hid hu1; have HB2 := hid hb2; clear hu1 hb2)
        | (refine wpList_store_rowTo rfl 37 (.tmp 3) (.tmp 26) rfl rfl w2.heap.size #[.int .i64 ((b : Nat) : Int), .int .i64 ((n : Nat) : Int), .bool o, .int .i64 v, .slice p1 dl c1] rfl rfl 37 _ (heap_alloc_new w2 _) (by kernel_rfl) rfl (repV_one _ _ _ _ _ _ _) ?_; obtain ⟨hqw3, hbw3⟩ := alloc_row (W := w2) (cs := #[.int .i64 ((b : Nat) : Int), .int .i64 ((n : Nat) : Int), .bool o, .int .i64 v, .slice p1 dl c1]) (T := 37) (old := #[.int .i64 0, .int .i64 0, .bool false, .int .i64 0, .slice none 0 0]) rfl; generalize (w2.alloc (.cells #[.int .i64 0, .int .i64 0, .bool false, .int .i64 0, .slice none 0 0] 37)).setRow w2.heap.size #[.int .i64 ((b : Nat) : Int), .int .i64 ((n : Nat) : Int), .bool o, .int .i64 v, .slice p1 dl c1] = w3 at hqw3 hbw3 ⊢; obtain ⟨g3, hg3⟩ : ∃ g, w2.heap.size = g := ⟨_, rfl⟩; rw [hg3] at hqw3 ⊢; have HQ3 := hid hqw3; have HB3 := hid (HB2.out.trans (hbw3.mono HB2.out.size)); have HU3 := hid (HU2.out.below hbw3); clear hg3; clear hqw3 hbw3)
        | (go_at_call 14; refine (HB.out w3).mono ?_; rintro e w4 ⟨⟨u2, rfl, hu2⟩, hb4⟩; obtain ⟨p2, c2, rfl⟩ := hu2.form; rw [HDL.out.1] at hu2 ⊢; have HV4 := hid hu2; have HU4 := hid (HU3.out.below hb4); have HQ4 := hid (heap_below hb4 HQ3.out (heap_lt HQ3.out)); have HB4 := hid (HB3.out.trans (hb4.mono HB3.out.size)); clear hu2 hb4)
        | (refine wpList_store_rowTo rfl 37 (.tmp 6) (.tmp 32) rfl rfl w4.heap.size #[.int .i64 ((b : Nat) : Int), .int .i64 ((n : Nat) : Int), .bool o, .int .i64 v, .slice p2 dl c2] rfl rfl 37 _ (heap_alloc_new w4 _) (by kernel_rfl) rfl (repV_one _ _ _ _ _ _ _) ?_; obtain ⟨hqw5, hbw5⟩ := alloc_row (W := w4) (cs := #[.int .i64 ((b : Nat) : Int), .int .i64 ((n : Nat) : Int), .bool o, .int .i64 v, .slice p2 dl c2]) (T := 37) (old := #[.int .i64 0, .int .i64 0, .bool false, .int .i64 0, .slice none 0 0]) rfl; generalize (w4.alloc (.cells #[.int .i64 0, .int .i64 0, .bool false, .int .i64 0, .slice none 0 0] 37)).setRow w4.heap.size #[.int .i64 ((b : Nat) : Int), .int .i64 ((n : Nat) : Int), .bool o, .int .i64 v, .slice p2 dl c2] = w5 at hqw5 hbw5 ⊢; obtain ⟨g5, hg5⟩ : ∃ g, w4.heap.size = g := ⟨_, rfl⟩; rw [hg5] at hqw5 ⊢; have hq3' := heap_below hbw5 HQ4.out (heap_lt HQ4.out); have HB5 := hid (HB4.out.trans (hbw5.mono HB4.out.size)); have HS5 := hid (samerep_c b n o v (.slice p1 dl c1) (.slice p2 dl c2) ds w5 (HU4.out.below hbw5) (HV4.out.below hbw5) HDL.out.2); have a0 := cell_of_row _ _ 0 _ _ _ hq3'; have a1 := cell_of_row _ _ 1 _ _ _ hq3'; have a2 := cell_of_row _ _ 2 _ _ _ hq3'; have a3 := cell_of_row _ _ 3 _ _ _ hq3'; have a4 := cell_of_row _ _ 4 _ _ _ hq3'; have b0 := cell_of_row _ _ 0 _ _ _ hqw5; have b1 := cell_of_row _ _ 1 _ _ _ hqw5; have b2 := cell_of_row _ _ 2 _ _ _ hqw5; have b3 := cell_of_row _ _ 3 _ _ _ hqw5; have b4 := cell_of_row _ _ 4 _ _ _ hqw5; simp only [repV] at HS5; clear hg5 hq3'; clear hqw5 hbw5)
        | (go_at_call 15; refine HS5.out.mono ?_; rintro e w6 ⟨rfl, hb6⟩; have HB6 := hid (HB5.out.trans (hb6.mono HB5.out.size)); clear hb6)
        | (go_at_call 7; refine (HKN.out w6 HB6.out).mono ?_; rintro e w7 ⟨rfl, hb7⟩; have HB7 := hid (HB6.out.trans (hb7.mono HB6.out.size)); clear hb7))
      go_ret
      exact ⟨rfl, HB7.out⟩
    · have d1 : decide ((4000 : Int) < ((m : Nat) : Int)) = false := decide_eq_false (by omega)
      have d3 : decide ((21000 : Int) < ((m : Nat) : Int)) = false := decide_eq_false (by omega)
      clear h1 h4
      go_enter Tryz.func4, Tryz.ntmps4
      go_wp2_with (first
        | (go_at_call 13; refine (HA.out w (Below.refl _ _)).mono ?_; rintro e w2 ⟨⟨u1, rfl, hu1⟩, hb2⟩; obtain ⟨p1, c1, rfl⟩ := hu1.form; rw [HDL.out.1] at hu1 ⊢; have HU2 := hid hu1; have HB2 := hid hb2; clear hu1 hb2)
        | (refine wpList_store_rowTo rfl 37 (.tmp 3) (.tmp 26) rfl rfl w2.heap.size #[.int .i64 ((b : Nat) : Int), .int .i64 ((n : Nat) : Int), .bool o, .int .i64 v, .slice p1 dl c1] rfl rfl 37 _ (heap_alloc_new w2 _) (by kernel_rfl) rfl (repV_one _ _ _ _ _ _ _) ?_; obtain ⟨hqw3, hbw3⟩ := alloc_row (W := w2) (cs := #[.int .i64 ((b : Nat) : Int), .int .i64 ((n : Nat) : Int), .bool o, .int .i64 v, .slice p1 dl c1]) (T := 37) (old := #[.int .i64 0, .int .i64 0, .bool false, .int .i64 0, .slice none 0 0]) rfl; generalize (w2.alloc (.cells #[.int .i64 0, .int .i64 0, .bool false, .int .i64 0, .slice none 0 0] 37)).setRow w2.heap.size #[.int .i64 ((b : Nat) : Int), .int .i64 ((n : Nat) : Int), .bool o, .int .i64 v, .slice p1 dl c1] = w3 at hqw3 hbw3 ⊢; obtain ⟨g3, hg3⟩ : ∃ g, w2.heap.size = g := ⟨_, rfl⟩; rw [hg3] at hqw3 ⊢; have HQ3 := hid hqw3; have HB3 := hid (HB2.out.trans (hbw3.mono HB2.out.size)); have HU3 := hid (HU2.out.below hbw3); clear hg3; clear hqw3 hbw3)
        | (go_at_call 14; refine (HB.out w3).mono ?_; rintro e w4 ⟨⟨u2, rfl, hu2⟩, hb4⟩; obtain ⟨p2, c2, rfl⟩ := hu2.form; rw [HDL.out.1] at hu2 ⊢; have HV4 := hid hu2; have HU4 := hid (HU3.out.below hb4); have HQ4 := hid (heap_below hb4 HQ3.out (heap_lt HQ3.out)); have HB4 := hid (HB3.out.trans (hb4.mono HB3.out.size)); clear hu2 hb4)
        | (refine wpList_store_rowTo rfl 37 (.tmp 6) (.tmp 32) rfl rfl w4.heap.size #[.int .i64 ((b : Nat) : Int), .int .i64 ((n : Nat) : Int), .bool o, .int .i64 v, .slice p2 dl c2] rfl rfl 37 _ (heap_alloc_new w4 _) (by kernel_rfl) rfl (repV_one _ _ _ _ _ _ _) ?_; obtain ⟨hqw5, hbw5⟩ := alloc_row (W := w4) (cs := #[.int .i64 ((b : Nat) : Int), .int .i64 ((n : Nat) : Int), .bool o, .int .i64 v, .slice p2 dl c2]) (T := 37) (old := #[.int .i64 0, .int .i64 0, .bool false, .int .i64 0, .slice none 0 0]) rfl; generalize (w4.alloc (.cells #[.int .i64 0, .int .i64 0, .bool false, .int .i64 0, .slice none 0 0] 37)).setRow w4.heap.size #[.int .i64 ((b : Nat) : Int), .int .i64 ((n : Nat) : Int), .bool o, .int .i64 v, .slice p2 dl c2] = w5 at hqw5 hbw5 ⊢; obtain ⟨g5, hg5⟩ : ∃ g, w4.heap.size = g := ⟨_, rfl⟩; rw [hg5] at hqw5 ⊢; have hq3' := heap_below hbw5 HQ4.out (heap_lt HQ4.out); have HB5 := hid (HB4.out.trans (hbw5.mono HB4.out.size)); have HS5 := hid (samerep_c b n o v (.slice p1 dl c1) (.slice p2 dl c2) ds w5 (HU4.out.below hbw5) (HV4.out.below hbw5) HDL.out.2); have a0 := cell_of_row _ _ 0 _ _ _ hq3'; have a1 := cell_of_row _ _ 1 _ _ _ hq3'; have a2 := cell_of_row _ _ 2 _ _ _ hq3'; have a3 := cell_of_row _ _ 3 _ _ _ hq3'; have a4 := cell_of_row _ _ 4 _ _ _ hq3'; have b0 := cell_of_row _ _ 0 _ _ _ hqw5; have b1 := cell_of_row _ _ 1 _ _ _ hqw5; have b2 := cell_of_row _ _ 2 _ _ _ hqw5; have b3 := cell_of_row _ _ 3 _ _ _ hqw5; have b4 := cell_of_row _ _ 4 _ _ _ hqw5; simp only [repV] at HS5; clear hg5 hq3'; clear hqw5 hbw5)
        | (go_at_call 15; refine HS5.out.mono ?_; rintro e w6 ⟨rfl, hb6⟩; have HB6 := hid (HB5.out.trans (hb6.mono HB5.out.size)); clear hb6)
        | (go_at_call 7; refine (HKN.out w6 HB6.out).mono ?_; rintro e w7 ⟨rfl, hb7⟩; have HB7 := hid (HB6.out.trans (hb7.mono HB6.out.size)); clear hb7))
      go_ret
      exact ⟨rfl, HB7.out⟩
end Go.Proofs.YtbcileppebpamaaGreatDoor
