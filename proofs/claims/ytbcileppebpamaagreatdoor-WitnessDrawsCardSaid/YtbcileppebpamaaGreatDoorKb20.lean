/- Lemmas for WitnessDraws: part 20. -/
import Derived.ProofKit
import Derived.LaidMore
import Derived.OpenShut
import Derived.Carry
import Derived.Stop.Joined
import Derived.ChangeSlices
import Derived.ChangeMaps5
import Derived.Lay
import Derived.Lib.LaidTab
import Derived.Test.YtbcileppebpamaaGreatDoorRows
import Derived.Test.YtbcileppebpamaaGreatDoorTie
import Derived.Test.YtbcileppebpamaaGreatDoorKb01
import Derived.Test.YtbcileppebpamaaGreatDoorKb03
import Derived.Test.YtbcileppebpamaaGreatDoorKb06
import Derived.Test.YtbcileppebpamaaGreatDoorKb08
import Derived.Test.YtbcileppebpamaaGreatDoorKb10
import Derived.Test.YtbcileppebpamaaGreatDoorKb19
set_option linter.unusedSimpArgs false
set_option linter.unusedVariables false
namespace Go.Proofs.YtbcileppebpamaaGreatDoor
open Go Go.RowKit Go.Shelf
set_option maxRecDepth 100000
set_option maxHeartbeats 8000000 in
theorem numbers_c (v : Value) (ws : List ByteArray) (w : World) (hr : ReadsT w v ws) (hl : ws.length ≤ 1000000) (hss : ∀ x ∈ ws, x.size ≤ 1000000) :
    Calls Tryz.prog 78 #[v] w fun e w' => (∃ u, e = .returned (.tuple #[u, .bool (ws.all numBb)]) ∧ if ws.all numBb = true then Ints w' w.heap.size u (ws.map numBn) else u = .slice none 0 0) ∧ Below w.heap.size w w' := by
  have HT := hid (fun (x : ByteArray) (hx : x.size ≤ 1000000) (V : World) => trimD_c x hx V)
  obtain ⟨p, c, rfl⟩ := hr.form
  obtain ⟨m, hm⟩ : ∃ m, ws.length = m := ⟨_, rfl⟩
  obtain ⟨B, hB⟩ : ∃ B, w.heap.size = B := ⟨_, rfl⟩
  rw [hm] at hr hl ⊢
  obtain ⟨ba, hba⟩ : ∃ ba, ws.all numBb = ba := ⟨_, rfl⟩
  rw [hba]
  have HBA := hid hba
  have HR := hid hr
  have HM := hid hm
  have HS := hid hss
  have HBB := hid hB
  have h0 := hid (Below.refl w.heap.size w)
  rw [hB] at h0 ⊢
  clear hr hm hss hB hba
  go_enter Tryz.func78, Tryz.ntmps78
  go_wp2_with fail
  go_loopw [2, 10] (fun lx ix wr => ∃ i : Nat, i ≤ m ∧ ix = .int .i64 ((i : Nat) : Int) ∧ Ints wr B lx ((ws.take i).map numBn) ∧ Below B w wr ∧ Aside ((ws.take i).all numBb = true)) (fun _ ix _ => m - (intOf ix).toNat)
  case atStart => exact ⟨0, by omega, rfl, Ints.nil _ _, h0.out, rfl⟩
  case round =>
    obtain ⟨i, hi, rfl, hI, hb, A⟩ := hrel
    have HI := hid hI
    have HB := hid hb
    have HA := hid A
    have hBw : B ≤ wr.heap.size := by have := hb.size; rw [HBB.out] at this; exact this
    have HBW := hid hBw
    clear hI hb A hBw h0
    rcases Nat.lt_or_ge i m with hlt | hge
    · have hin : decide (((i : Nat) : Int) < ((m : Nat) : Int)) = true := decide_eq_true (by omega)
      have hin' : ((i : Nat) : Int) < ((m : Nat) : Int) := by omega
      have hi0 : (0 : Int) ≤ ((i : Nat) : Int) := by omega
      obtain ⟨i1, hi1⟩ : ∃ i1, i + 1 = i1 := ⟨_, rfl⟩
      have hiw : IntKind.i64.wrap (((i : Nat) : Int) + 1) = ((i1 : Nat) : Int) := (IntWalk.i64_in _ (by omega)).trans (by omega)
      have HI1 := hid hi1
      obtain ⟨x, hx⟩ : ∃ x, ws[i]? = some x := ⟨_, List.getElem?_eq_getElem (by rw [HM.out]; exact hlt)⟩
      obtain ⟨g, o, rfl, hg, hc⟩ := HR.out.at' hx
      have hcr : wr.cell? ⟨g, o + i, none⟩ = some (.string x) := (HB.out.cell (p := ⟨g, o + i, none⟩) (HBB.out ▸ hg)).trans hc
      have hxs := HS.out x (List.mem_of_getElem? hx)
      have HX := hid hx
      have HXT := hid (HT.out x hxs)
      have hsl : x.size = x.data.toList.length := by rw [Array.length_toList]; rfl
      have htk : ws.take i1 = ws.take i ++ [x] := by rw [← hi1, List.take_add_one, hx]; rfl
      have HTK := hid htk
      have hcase := numB_cases x
      obtain ⟨n, hn⟩ : ∃ n, x.size = n := ⟨_, rfl⟩
      rw [hn] at hxs hsl
      rw [← hsl] at hcase
      have HSL := hid hsl
      clear hx hg hc hi1 hsl htk
      have bad : numBb x = false → ws.all numBb = false := fun h => List.all_eq_false.2 ⟨x, List.mem_of_getElem? HX.out, by rw [h]; simp⟩
      have HBAD := hid bad
      clear bad
      rcases hcase with ⟨h1, h2⟩ | ⟨h1, h2⟩ | ⟨h1, h2, h3, h4⟩ | ⟨h1, h2, h3, ch, l, h4, h5⟩
      · have q1 : decide ((16 : Int) < ((n : Nat) : Int)) = true := decide_eq_true (by omega)
        obtain rfl : ba = false := HBA.out.symm.trans (HBAD.out h2)
        clear h1 h2
        go_wp2_with fail
        go_ret2
        exact ⟨rfl, HB.out⟩
      · obtain rfl : ba = false := HBA.out.symm.trans (HBAD.out h2)
        have q1 : decide ((16 : Int) < ((n : Nat) : Int)) = false := decide_eq_false (by rw [HSL.out, h1]; simp)
        have q2 : x.toList = [] := by rw [ByteArray.toList_eq]; exact h1
        clear h1 h2
        go_wp2_with fail
        go_ret2
        exact ⟨rfl, HB.out⟩
      · obtain rfl : ba = false := HBA.out.symm.trans (HBAD.out h4)
        have q1 : decide ((16 : Int) < ((n : Nat) : Int)) = false := decide_eq_false (by omega)
        have q2 : x.toList.isEmpty = false := by rw [bytes_empty, ← HSL.out]; exact decide_eq_false (by omega)
        have HD := hid h3
        clear h1 h2 h3 h4
        go_wp2_with (go_at_call 71; refine (HXT.out _).mono ?_; rintro e w1 ⟨⟨r, rfl, hr1⟩, hb1⟩; rw [HD.out] at hr1; have HB1 := hid (HB.out.trans (hb1.mono HBW.out)); clear hb1)
        go_ret2
        exact ⟨rfl, HB1.out⟩
      · have q1 : decide ((16 : Int) < ((n : Nat) : Int)) = false := decide_eq_false (by omega)
        have q2 : x.toList.isEmpty = false := by rw [bytes_empty, ← HSL.out]; exact decide_eq_false (by omega)
        have hpos : 0 < n := by omega
        have HAT := hid (fun V => atoi_c x (by rw [← HSL.out]; exact h1) (by rw [← HSL.out]; exact h2) h3 V)
        have HD := hid h3
        obtain ⟨k0, hk0⟩ : ∃ k, ch.toNat = k := ⟨_, rfl⟩
        have hg0 : ∀ h : 0 < x.size, (x[0]'h).toNat = k0 := fun h => by
          have h6 : (x.data.toList)[0]? = some ch := by rw [h4]; rfl
          obtain ⟨h7, h8⟩ := List.getElem?_eq_some_iff.1 h6
          rw [← hk0, ← h8]
          rfl
        have hch : (ch = 48) ↔ k0 = 48 := by
          rw [← hk0]
          exact ⟨fun e => by rw [e]; rfl, fun e => UInt8.toNat_inj.1 e⟩
        have hLN : ((ws.take i).map numBn).length < 1000000000 := by rw [List.length_map, List.length_take]; have := HM.out; omega
        have HLN := hid hLN
        clear hLN
        obtain ⟨nx, hnx⟩ : ∃ nx, ((numN x.data.toList : Nat) : Int) = nx := ⟨_, rfl⟩
        rw [hnx] at HAT
        have HNX := hid hnx
        clear hk0 hnx h1 h2 h3
        rcases h5 with ⟨h5, h6, h7⟩ | ⟨h5, h6, h7⟩ | ⟨h5, h7⟩
        · obtain rfl : ba = false := HBA.out.symm.trans (HBAD.out h7)
          obtain rfl := hch.1 h5
          have q3 : (x.toList == [48]) = false := by rw [ByteArray.toList_eq, h4]; cases l with | nil => exact absurd rfl h6 | cons d l => simp
          clear h4 h5 h6 h7 hch
          go_wp2_with (go_at_call 71; refine (HXT.out _).mono ?_; rintro e w1 ⟨⟨r, rfl, hr1⟩, hb1⟩; rw [HD.out] at hr1; have HB1 := hid (HB.out.trans (hb1.mono HBW.out)); clear hb1)
          go_ret2
          exact ⟨rfl, HB1.out⟩
        · have HGD := hid h7
          obtain rfl := hch.1 h5
          have q3 : x.toList = [48] := by rw [ByteArray.toList_eq, h4, h6, h5]
          clear h4 h5 h6 h7 hch
          go_wp2_with (first
            | (go_at_call 71; refine (HXT.out _).mono ?_; rintro e w1 ⟨⟨r, rfl, hr1⟩, hb1⟩; rw [HD.out] at hr1; have HB1 := hid (HB.out.trans (hb1.mono HBW.out)); have HBW1 := hid (Nat.le_trans HBW.out hb1.size); have HI2 := hid (HI.out.below hb1); clear hb1)
            | (go_at_call 104; refine (HAT.out _).mono ?_; rintro e w2 ⟨rfl, hb2⟩; have HB2 := hid (HB1.out.trans (hb2.mono HBW1.out)); have HBW2 := hid (Nat.le_trans HBW1.out hb2.size); have HI3 := hid (HI2.out.below hb2); clear hb2)
            | (refine wp_append_int rfl (.tmp 40) (.tmp 42) rfl B _ _ rfl (HI3.out.below ((Below.refl _ _).alloc (Nat.le_refl _) _)) _ w2.heap.size 1 rfl (cell_of_row _ _ 0 _ _ _ (heap_alloc_new w2 _)) HLN.out (by rw [World.size_alloc]; have := HBW2.out; omega) ?_; intro v3 w3 hv3 hg3; have HI4 := hid hv3; have HB3 := hid (grown_below (HB2.out.alloc HBW2.out _) hg3 (HI3.out.below ((Below.refl _ _).alloc (Nat.le_refl _) _)) (Nat.le_refl _) (by rw [World.size_alloc]; have := HBW2.out; omega)); clear hv3 hg3))
          go_roundw
          case rel => exact ⟨i1, by have := HI1.out; omega, rfl, by rw [HTK.out, List.map_append, show List.map numBn [x] = [nx] from congrArg (fun t => [t]) HNX.out]; exact HI4.out, HB3.out, by rw [HTK.out, List.all_append, HA.out, List.all_cons, HGD.out]; rfl⟩
          case measure => have := HI1.out; simp only [intOf, Int.toNat_natCast]; omega
        · have HGD := hid h7
          have q3 : (((k0 : Nat) : Int) == 48) = false := by simp; intro e; exact h5 (hch.2 (by omega))
          have q4 : ¬ k0 = 48 := fun e => h5 (hch.2 e)
          clear h4 h5 h7 hch
          go_wp2_with (first
            | (go_at_call 71; refine (HXT.out _).mono ?_; rintro e w1 ⟨⟨r, rfl, hr1⟩, hb1⟩; rw [HD.out] at hr1; have HB1 := hid (HB.out.trans (hb1.mono HBW.out)); have HBW1 := hid (Nat.le_trans HBW.out hb1.size); have HI2 := hid (HI.out.below hb1); clear hb1)
            | (go_at_call 104; refine (HAT.out _).mono ?_; rintro e w2 ⟨rfl, hb2⟩; have HB2 := hid (HB1.out.trans (hb2.mono HBW1.out)); have HBW2 := hid (Nat.le_trans HBW1.out hb2.size); have HI3 := hid (HI2.out.below hb2); clear hb2)
            | (refine wp_append_int rfl (.tmp 40) (.tmp 42) rfl B _ _ rfl (HI3.out.below ((Below.refl _ _).alloc (Nat.le_refl _) _)) _ w2.heap.size 1 rfl (cell_of_row _ _ 0 _ _ _ (heap_alloc_new w2 _)) HLN.out (by rw [World.size_alloc]; have := HBW2.out; omega) ?_; intro v3 w3 hv3 hg3; have HI4 := hid hv3; have HB3 := hid (grown_below (HB2.out.alloc HBW2.out _) hg3 (HI3.out.below ((Below.refl _ _).alloc (Nat.le_refl _) _)) (Nat.le_refl _) (by rw [World.size_alloc]; have := HBW2.out; omega)); clear hv3 hg3))
          go_roundw
          case rel => exact ⟨i1, by have := HI1.out; omega, rfl, by rw [HTK.out, List.map_append, show List.map numBn [x] = [nx] from congrArg (fun t => [t]) HNX.out]; exact HI4.out, HB3.out, by rw [HTK.out, List.all_append, HA.out, List.all_cons, HGD.out]; rfl⟩
          case measure => have := HI1.out; simp only [intOf, Int.toNat_natCast]; omega
    · obtain rfl : i = m := by omega
      have hin : ¬ ((i : Nat) : Int) < ((i : Nat) : Int) := by omega
      have hin2 : decide (((i : Nat) : Int) < ((i : Nat) : Int)) = false := decide_eq_false hin
      have htk : ws.take i = ws := List.take_of_length_le (by have := HM.out; omega)
      rw [htk] at HI HA
      obtain rfl : ba = true := HBA.out.symm.trans HA.out
      go_wp2_with fail
      go_ret2
      exact ⟨⟨_, rfl, by simpa using HI.out⟩, HB.out⟩
end Go.Proofs.YtbcileppebpamaaGreatDoor
set_option linter.unusedSimpArgs false
set_option linter.unusedVariables false
namespace Go.Proofs.YtbcileppebpamaaGreatDoor
open Go Go.RowKit Go.Shelf
set_option maxRecDepth 100000
theorem index_lf : ∀ (w r : List UInt8), (10 : UInt8) ∉ w → Lib.indexByte (w ++ 10 :: r) 10 = ((w.length : Nat) : Int)
  | [], r, _ => by simp [Lib.indexByte]
  | b :: w, r, h => by
    have hb : (b == 10) = false := by simp at h ⊢; exact fun e => h.1 e.symm
    rw [List.cons_append, Lib.indexByte, hb, index_lf w r fun hm => h (List.mem_cons_of_mem _ hm)]
    rw [if_neg (by simp), if_neg (by simp <;> omega), List.length_cons]
    omega
theorem index_nolf : ∀ (w : List UInt8), (10 : UInt8) ∉ w → Lib.indexByte w 10 = -1
  | [], _ => rfl
  | b :: w, h => by
    have hb : (b == 10) = false := by simp at h ⊢; exact fun e => h.1 e.symm
    rw [Lib.indexByte, hb, index_nolf w fun hm => h (List.mem_cons_of_mem _ hm)]
    rfl
/-- The next line of a text. -/
theorem lines_next (r : List UInt8) (h : r ≠ []) : (∃ w r2, (10 : UInt8) ∉ w ∧ r = w ++ 10 :: r2 ∧ linesL r = (w ++ [10]) :: linesL r2 ∧ Lib.indexByte r 10 = ((w.length : Nat) : Int)) ∨ (linesL r = [r] ∧ Lib.indexByte r 10 = -1) := by
  by_cases hm : (10 : UInt8) ∈ r
  · obtain ⟨w, r2, e, hw⟩ := List.eq_append_cons_of_mem hm
    subst e
    exact .inl ⟨w, r2, hw, rfl, linesL_app r2 w hw, index_lf w r2 hw⟩
  · exact .inr ⟨linesL_last r hm h, index_nolf r hm⟩
theorem exec_slTo {ev : Operand → Value} {o : Oper} {x y : Operand} {s c : ByteArray} {n : Nat} {W : World} (ho : o.op = .slice 9 x none (some y) none) (hx : ev x = .string s) (hy : ev y = .int .i64 ((n : Nat) : Int)) (h1 : n ≤ s.size) (hc : s.extract 0 n = c) : (execOp ev o).run Tryz.prog W = .ok (.value (.string c)) W := by
  subst hc
  have h2 : ¬ (((s.size : Nat) : Int) < ((n : Nat) : Int)) := by omega
  have h3 : ¬ (s.size < n) := by omega
  have h4 : ¬ (((n : Nat) : Int) < 0) := by omega
  simp [execOp, ho, hx, hy]
  go_simp
theorem exec_slFrom {ev : Operand → Value} {o : Oper} {x y : Operand} {s c : ByteArray} {n : Nat} {W : World} (ho : o.op = .slice 9 x (some y) none none) (hx : ev x = .string s) (hy : ev y = .int .i64 ((n : Nat) : Int)) (h1 : n ≤ s.size) (hc : s.extract n s.size = c) : (execOp ev o).run Tryz.prog W = .ok (.value (.string c)) W := by
  subst hc
  have h2 : ¬ (((s.size : Nat) : Int) < ((n : Nat) : Int)) := by omega
  have h3 : ¬ (s.size < n) := by omega
  have h4 : ¬ (((n : Nat) : Int) < 0) := by omega
  simp [execOp, ho, hx, hy]
  go_simp
theorem Lines_c (s : ByteArray) (w : World) : Calls Tryz.prog 43 #[.string s] w fun e w' => e = .returned (.func (.func 75) #[] #[.pointer (some ⟨w.heap.size, 0, none⟩)]) ∧ w' = w.alloc (.cells #[.string s] 9) := by
  go_enter Tryz.func43, Tryz.ntmps43
  go_wp2
  go_ret
  exact ⟨rfl, rfl⟩
/-- What the box holds. -/
def boxLen (b : Nat) (w : World) : Nat := match w.cell? ⟨b, 0, none⟩ with
  | some (.string s) => s.size
  | _ => 0
theorem boxLen_eq {b : Nat} {w : World} {t : TypeId} {s : ByteArray} (h : Boxed w b t (.string s)) : boxLen b w = s.size := by
  unfold boxLen
  rw [h.cell]
attribute [local go_sem] Oper.semAt_some
set_option maxHeartbeats 2000000 in
theorem lines_seq (n : Nat) (hn : 1 ≤ n) (b : Nat) (s : List UInt8) (hs : s.length ≤ 1000000) (w : World) (hb : Boxed w b 9 (.string ⟨s.toArray⟩)) :
    SeqW Fence.wide n Tryz.prog 75 #[.pointer (some ⟨b, 0, none⟩)] (fun x : List UInt8 => #[.string ⟨x.toArray⟩]) (fun _ k => k = b) b (Nxt (linesL s)) (fun xs => xs = linesL s) w := by
  intro l J Jx W hW hJ hJs hA hY h0
  have hbW : Boxed W b 9 (.string ⟨s.toArray⟩) := (hW.block b hb.lt).trans hb
  obtain ⟨Lst, hq⟩ : ∃ Lst, linesL s = Lst := ⟨_, rfl⟩
  rw [hq] at hY ⊢
  have HQ := hid hq
  have HY := hid hY
  have HJ := hid hJ
  have HJS := hid hJs
  clear hq hY hJ hJs hA
  clear hb hW
  refine callsIn_of_wp Tryz.func75 rfl trivial ?_ rfl
  simp only [Tryz.ntmps75, List.size_toArray, List.length_cons, List.length_nil, Nat.reduceAdd, Nat.reduceSub, Array.replicate_succ, Array.replicate_zero, List.push_toArray, List.append_toArray, List.nil_append, List.cons_append]
  gi_wp2
  gi_loopw [] (fun wr => ∃ (cur : List UInt8) (pre : List (List UInt8)), Boxed wr b 9 (.string ⟨cur.toArray⟩) ∧ cur.length ≤ 1000000 ∧ Lst = pre ++ linesL cur ∧ J pre wr) (fun wr => boxLen b wr)
  case atStart => exact ⟨s, [], hbW, hs, HQ.out.symm, h0⟩
  case round =>
    obtain ⟨cur, pre, hbx, hlt, hl, hJ⟩ := hrel
    clear hbW HQ h0
    have hc := hbx.cell
    have hfz := hbx.frozen
    have hsz : (⟨cur.toArray⟩ : ByteArray).size = cur.length := by show cur.toArray.size = _; simp
    have hix := strings_IndexByte ⟨cur.toArray⟩ 10 wr
    rw [show (⟨cur.toArray⟩ : ByteArray).data.toList = cur from rfl, show (10 : Int).toNat.toUInt8 = 10 from rfl] at hix
    by_cases hz : cur = []
    · subst hz
      have HJ2 := hid (show J Lst wr by rw [hl]; simpa [linesL] using hJ)
      have hs0 : (⟨([] : List UInt8).toArray⟩ : ByteArray).size = 0 := rfl
      clear hl hJ hbx hsz HJ HJS HY hix
      gi_wp2_with fail
      go_end0
      exact ⟨⟨_, rfl⟩, .inl ⟨_, rfl, HJ2.out⟩⟩
    · have hpos : 0 < cur.length := List.length_pos_iff.2 hz
      rcases lines_next cur hz with ⟨w, r2, hw, he, hll, hi⟩ | ⟨hll, hi⟩
      · rw [hi] at hix
        have hx1 : (⟨cur.toArray⟩ : ByteArray).extract 0 (w.length + 1) = ⟨(w ++ [10]).toArray⟩ := by
          rw [ByteArray.ext_iff, ByteArray.data_extract, he]
          simp [List.take_append]
          exact List.take_of_length_le (by omega)
        have hx2 : (⟨cur.toArray⟩ : ByteArray).extract (w.length + 1) cur.length = ⟨r2.toArray⟩ := by
          rw [ByteArray.ext_iff, ByteArray.data_extract, he]
          simp
          exact List.take_of_length_le (by omega)
        have hlen : cur.length = w.length + 1 + r2.length := by rw [he]; simp; omega
        rw [hll] at hl
        have hl2 : Lst = (pre ++ [w ++ [10]]) ++ linesL r2 := by rw [hl]; simp
        have HL2 := hid (And.intro hl2 (And.intro hlen hlt))
        have HMU := hid ((boxLen_eq hbx).trans hsz)
        have HNX := hid (show ∀ V, Nxt Lst pre (w ++ [10]) V from fun V => ⟨_, hl⟩)
        have HJJ := hid hJ
        obtain ⟨S, hS⟩ : ∃ S : ByteArray, ⟨cur.toArray⟩ = S := ⟨_, rfl⟩
        obtain ⟨X, hX⟩ : ∃ X : ByteArray, ⟨(w ++ [10]).toArray⟩ = X := ⟨_, rfl⟩
        obtain ⟨R, hR⟩ : ∃ R : ByteArray, ⟨r2.toArray⟩ = R := ⟨_, rfl⟩
        obtain ⟨n0, hn0⟩ : ∃ n0, cur.length = n0 := ⟨_, rfl⟩
        obtain ⟨m, hm⟩ : ∃ m, w.length = m := ⟨_, rfl⟩
        obtain ⟨m1, hm1⟩ : ∃ m1, m + 1 = m1 := ⟨_, rfl⟩
        rw [hS, hm, hm1, hX] at hx1
        rw [hS, hm, hm1, hn0, hR] at hx2
        rw [hS, hm] at hix
        rw [hS] at hc hbx
        have HB := hid hbx
        rw [hS, hn0] at hsz
        have HLT := hid (And.intro hS (And.intro hX (And.intro hR (And.intro hn0 (And.intro hm hm1)))))
        have hw1 : IntKind.i64.wrap (((m : Nat) : Int) + 1) = ((m1 : Nat) : Int) := (IntWalk.i64_in _ (by omega)).trans (by omega)
        have d0 : decide ((0 : Int) < ((n0 : Nat) : Int)) = true := decide_eq_true (by omega)
        have d1 : decide ((0 : Int) ≤ ((m : Nat) : Int)) = true := decide_eq_true (by omega)
        have d2 : m1 ≤ n0 := by omega
        have d0' : 0 < n0 := by omega
        have hm1e : m + 1 = m1 := hm1
        have hml : m < 1000000000 := by omega
        have HIX := hid hix
        clear hix hS hX hR hn0 hm hll hi hw he hlen hl hl2 hz hlt hpos hbx hJ
        gi_wp2_with (gi_at_call 76; refine (callsIn_wide.2 HIX.out).mono ?_; rintro e wq ⟨rfl, rfl⟩)
        refine regD_in (lets_wide) (fun V => V.cell? ⟨b, 0, none⟩ = some (.string S)) (fun j => decide (j < 9)) (by kernel_rfl) (by kernel_rfl) ?_
        have hS : wq.drew.cell? ⟨b, 0, none⟩ = some (.string S) := hc
        have hfd : wq.drew.frozen? ⟨b, 0, none⟩ = false := hfz
        have HBD := hid (show Boxed wq.drew b 9 (.string S) from HB.out)
        have HJD := hid (HJ.out _ _ _ HJJ.out (show Below wq.heap.size wq wq.drew from below_drewN (Below.refl _ _) 1))
        clear hc hfz
        generalize wq.drew = V at hS hfd HBD HJD ⊢
        refine takeE (i := 0) (.string S) (d := some 12) rfl (by kernel_rfl) (by kernel_rfl) (by kernel_rfl) (by kernel_rfl) (fun _ _ _ h => h) rfl (fun W hSw => by exact exec_ldstrB rfl rfl hSw) (hS) rfl ?_
        simp only [Act.put, List.setIfInBounds_toArray, List.set_cons_zero, List.set_cons_succ]
        refine takeE (i := 1) (.int .i64 ((m : Nat) : Int)) (d := some 13) rfl (by kernel_rfl) (by kernel_rfl) (by kernel_rfl) (by kernel_rfl) (fun _ _ _ h => h) rfl (fun W hSw => by exact exec_mv rfl rfl) (hS) rfl ?_
        simp only [Act.put, List.setIfInBounds_toArray, List.set_cons_zero, List.set_cons_succ]
        refine takeE (i := 2) (.int .i64 ((m1 : Nat) : Int)) (d := some 14) rfl (by kernel_rfl) (by kernel_rfl) (by kernel_rfl) (by kernel_rfl) (fun _ _ _ h => h) rfl (fun W hSw => by exact exec_addD rfl rfl rfl hm1e hml) (hS) rfl ?_
        simp only [Act.put, List.setIfInBounds_toArray, List.set_cons_zero, List.set_cons_succ]
        refine takeE (i := 3) (.string X) (d := some 15) rfl (by kernel_rfl) (by kernel_rfl) (by kernel_rfl) (by kernel_rfl) (fun _ _ _ h => h) rfl (fun W hSw => by exact exec_slTo rfl rfl rfl (by rw [hsz]; exact d2) hx1) (hS) rfl ?_
        simp only [Act.put, List.setIfInBounds_toArray, List.set_cons_zero, List.set_cons_succ]
        refine takeE (i := 4) (.string S) (d := some 16) rfl (by kernel_rfl) (by kernel_rfl) (by kernel_rfl) (by kernel_rfl) (fun _ _ _ h => h) rfl (fun W hSw => by exact exec_ldstrB rfl rfl hSw) (hS) rfl ?_
        simp only [Act.put, List.setIfInBounds_toArray, List.set_cons_zero, List.set_cons_succ]
        refine takeE (i := 5) (.int .i64 ((m : Nat) : Int)) (d := some 17) rfl (by kernel_rfl) (by kernel_rfl) (by kernel_rfl) (by kernel_rfl) (fun _ _ _ h => h) rfl (fun W hSw => by exact exec_mv rfl rfl) (hS) rfl ?_
        simp only [Act.put, List.setIfInBounds_toArray, List.set_cons_zero, List.set_cons_succ]
        refine takeE (i := 6) (.int .i64 ((m1 : Nat) : Int)) (d := some 18) rfl (by kernel_rfl) (by kernel_rfl) (by kernel_rfl) (by kernel_rfl) (fun _ _ _ h => h) rfl (fun W hSw => by exact exec_addD rfl rfl rfl hm1e hml) (hS) rfl ?_
        simp only [Act.put, List.setIfInBounds_toArray, List.set_cons_zero, List.set_cons_succ]
        refine takeE (i := 7) (.string R) (d := some 19) rfl (by kernel_rfl) (by kernel_rfl) (by kernel_rfl) (by kernel_rfl) (fun _ _ _ h => h) rfl (fun W hSw => by exact exec_slFrom rfl rfl rfl (by rw [hsz]; exact d2) (by rw [hsz]; exact hx2)) (hS) rfl ?_
        simp only [Act.put, List.setIfInBounds_toArray, List.set_cons_zero, List.set_cons_succ]
        refine takeE (i := 8) (.string X) (d := some 3) rfl (by kernel_rfl) (by kernel_rfl) (by kernel_rfl) (by kernel_rfl) (fun _ _ _ h => h) rfl (fun W hSw => by exact exec_asg rfl rfl) (hS) rfl ?_
        simp only [Act.put, List.setIfInBounds_toArray, List.set_cons_zero, List.set_cons_succ]
        refine stepD 9 (by kernel_rfl) rfl rfl (fun K hK => ?_)
        go_simp
        refine hK _ _ (fun h => absurd h (by simp)) ?_
        clear hK K
        refine doneD (by kernel_rfl) ?_ _
        refine OnlyNorm.normal ?_
        rename_i K1 Q1 hK
        change K1 _ _
        refine hK _ _ ?_
        clear hK K1
        have HB2 := hid (HBD.out.set (.string R))
        have HJ2 := hid (HJS.out _ _ (.string R) HJD.out)
        generalize V.setCell ⟨b, 0, none⟩ (.string R) = V2 at HB2 HJ2 ⊢
        clear hS hfd HBD HJD
        obtain ⟨fn, tmps, assign, body, hy, hR⟩ := HY.out pre (w ++ [10]) V2 HJ2.out (HNX.out V2)
        rw [HLT.out.2.1] at hy
        have HR := hid hR
        clear hR HY HJ HJS HNX
        gi_wp2_with fail
        refine HR.out.mono ?_
        clear HR hy
        rintro e w3 (⟨rfl, hJ3, hk3, -⟩ | ⟨rfl, hJ3, -⟩)
        · have HB3 := hid (hk3 b rfl _ HB2.out rfl)
          have HJ3 := hid hJ3
          clear hJ3 hk3
          gi_wp2_with fail
          go_roundw
          case rel => exact ⟨r2, pre ++ [w ++ [10]], by rw [HLT.out.2.2.1]; exact HB3.out, by have := HL2.out; omega, HL2.out.1, HJ3.out⟩
          case measure => rw [boxLen_eq HB3.out, HMU.out, ← HLT.out.2.2.1, show (⟨r2.toArray⟩ : ByteArray).size = r2.length from by show r2.toArray.size = _; simp]; have := HL2.out; omega
        · have HJ3 := hid hJ3
          clear hJ3
          gi_wp2_with fail
          refine bodyPost_ret (results_none rfl _ _ _) rfl ?_
          exact ⟨⟨_, rfl⟩, .stop _ HJ3.out⟩
      · rw [hi] at hix
        rw [hll] at hl
        have hl2 : Lst = pre ++ [cur] := hl
        have HL2 := hid hl2
        have HMU := hid ((boxLen_eq hbx).trans hsz)
        have HPO := hid hpos
        have HNX := hid (show ∀ V, Nxt Lst pre cur V from fun V => ⟨[], hl⟩)
        have HJJ := hid hJ
        obtain ⟨S, hS⟩ : ∃ S : ByteArray, ⟨cur.toArray⟩ = S := ⟨_, rfl⟩
        obtain ⟨n0, hn0⟩ : ∃ n0, cur.length = n0 := ⟨_, rfl⟩
        rw [hS] at hix hc hbx
        rw [hS, hn0] at hsz
        rw [hn0] at HMU hpos HPO
        have HB := hid hbx
        have HLT := hid hS
        have d0 : decide ((0 : Int) < ((n0 : Nat) : Int)) = true := decide_eq_true (by omega)
        have d1 : decide ((0 : Int) ≤ (-1)) = false := by decide
        have HIX := hid hix
        clear hix hS hn0 hll hi hl hl2 hz hlt hbx hJ
        gi_upto_region 6 with (gi_at_call 76; refine (callsIn_wide.2 HIX.out).mono ?_; rintro e wq ⟨rfl, rfl⟩)
        have HB2 := hid (HB.out.set (.string ⟨#[]⟩))
        have HJ2 := hid (HJS.out _ _ (.string ⟨#[]⟩) HJJ.out)
        generalize wq.setCell ⟨b, 0, none⟩ (.string ⟨#[]⟩) = V2 at HB2 HJ2 ⊢
        clear hc hfz
        obtain ⟨fn, tmps, assign, body, hy, hR⟩ := HY.out pre cur V2 HJ2.out (HNX.out V2)
        rw [HLT.out] at hy
        have HR := hid hR
        clear hR HY HJ HJS HNX
        gi_wp2_with fail
        refine HR.out.mono ?_
        clear HR hy
        rintro e w3 (⟨rfl, hJ3, hk3, -⟩ | ⟨rfl, hJ3, -⟩)
        · have HB3 := hid (hk3 b rfl _ HB2.out rfl)
          have HJ3 := hid hJ3
          clear hJ3 hk3
          gi_wp2_with fail
          go_roundw
          case rel => exact ⟨[], pre ++ [cur], HB3.out, by simp, by rw [HL2.out]; simp [linesL], HJ3.out⟩
          case measure => rw [boxLen_eq HB3.out, HMU.out]; exact HPO.out
        · have HJ3 := hid hJ3
          clear hJ3
          gi_wp2_with fail
          refine bodyPost_ret (results_none rfl _ _ _) rfl ?_
          exact ⟨⟨_, rfl⟩, .stop _ HJ3.out⟩
end Go.Proofs.YtbcileppebpamaaGreatDoor
set_option linter.unusedSimpArgs false
set_option linter.unusedVariables false
namespace Go.Proofs.YtbcileppebpamaaGreatDoor
open Go Go.RowKit Go.ChangeShapes Go.WideShapes
set_option maxRecDepth 100000
section
variable {H : Type} {enc : TypeId × Value → H} {P : Program}
theorem trodAll_below (hl : laidOutB P = true) {W W' : World} (hb : Below W.heap.size W W') : ∀ {ts : List TypeId} {vs : List Value} {ds : List (DataW H)} {ps : List MemPlace},
    (∀ t ∈ ts, P.readableRec t = true ∧ t < P.types.size) → DataW.TrodAll enc P W 0 (fun _ => true) true ts vs ds ps → (∀ x ∈ ps, x.block < W.heap.size) → DataW.TrodAll enc P W' 0 (fun b => decide (b < W.heap.size)) true ts vs ds ps
  | [], [], [], _, _, h, _ => h
  | t :: ts, v :: vs, d :: ds, ps, ht, h, hp => by
    obtain ⟨p, q, h1, h2, rfl⟩ := h
    have := ht t (by simp)
    exact ⟨p, q, Below.trod hl this.1 this.2 h1 hb (fun x hx => hp x (by simp [hx])), trodAll_below hl hb (fun t' h' => ht t' (by simp [h'])) h2 (fun x hx => hp x (by simp [hx])), rfl⟩
  | [], _ :: _, _, _, _, h, _ => by cases h
  | [], [], _ :: _, _, _, h, _ => by cases h
  | _ :: _, [], _, _, _, h, _ => by cases h
  | _ :: _, _ :: _, [], _, _, h, _ => by cases h
/-- A law's post: true, and what came in as it was. -/
theorem law_post {f : Func} {s : ChangeSpec} (hl : laidOutB P = true) {W W' : World} (hb : Below W.heap.size W W') {args : Array Value} {ds : List (DataW H)} {before : List MemPlace} (hr : f.resultTypes = #[4]) (hbool : P.underlying 4 = some .bool) (hs : s.vars = [])
    (hts : ∀ t ∈ f.params.toList, P.readableRec t = true ∧ t < P.types.size)
    (hW : DataW.Whole enc P f.params.toList s.vars false W args.toList ds [] before)
    (hfn : s.fn H (ds ++ []) = { results := [.lit (.bool true)], args := ds }) : s.post enc P f false true false false W args (.bool true) W' := by
  have hlt : ∀ x ∈ before, x.block < W.heap.size := fun x hx => by simpa using hW.lt x hx
  have hW' := hW
  obtain ⟨p, q, hA, hV, rfl, hfz, _⟩ := hW
  rw [hs] at hV
  obtain ⟨_, rfl⟩ := trodVars_none hV
  rw [List.append_nil] at hlt
  refine ⟨ds, [], p ++ [], [], p, [], hW', ?_, ?_, ?_, hb.frame _, fun h => by cases h⟩
  · rw [hfn, hr]; exact trodAll_mk1 (shut_bool hbool true)
  · rw [hfn]; exact trodAll_below hl hb hts hA hlt
  · rw [hfn, hs]; rfl
/-- One cell of a list. -/
theorem one_at {cs : List Value} {i : Nat} {v : Value} (h : (cs.drop i).take 1 = [v]) : cs[i]? = some v := by
  have : ((cs.drop i).take 1)[0]? = some v := by rw [h]; rfl
  rw [List.getElem?_take, if_pos (by omega), List.getElem?_drop] at this
  simpa using this
variable {w : World} {base : Nat} {spare : Nat → Bool} {held : Bool} {fuel : Nat} {t e e2 n : Nat} {cs : List Value} {ds : List (DataW H)} {p : List MemPlace}
end
end Go.Proofs.YtbcileppebpamaaGreatDoor
namespace Go.Proofs.YtbcileppebpamaaGreatDoor
open Go Go.RowKit Go.ChangeShapes Go.WideShapes
set_option maxRecDepth 100000
/-- A table of bytes. -/
theorem bytes_of {H : Type} {enc : TypeId × Value → H} {P : Program} {w : World} {base : Nat} {spare : Nat → Bool} {held : Bool} {fuel : Nat} {t e n : Nat} {cs : List Value} {ds : List (DataW H)} {p : List MemPlace} (hu : P.underlying t = some (.array n e)) (hue : P.underlying e = some (.int .u8)) (ce : P.cellsOf e = 1) (h : DataW.trod enc P w base spare held fuel t cs = some (.agg ds, p)) :
    ∀ i, i < n → ∃ z, cs[i]? = some (.int .u8 z) ∧ ds[i]? = some (.lit (.int .u8 z)) := by
  obtain ⟨xs, m, rfl, hx, hlen, hn, hel⟩ := DataW.trod_array hu h
  simp only [Prod.mk.injEq, DataW.agg.injEq] at hx
  obtain ⟨rfl, rfl⟩ := hx
  intro i hi
  have h1 := hel i hi
  rw [ce, Nat.mul_one] at h1
  have hix : i < xs.length := by omega
  rw [List.getElem?_eq_getElem hix] at h1
  obtain ⟨z, hz, hx, hw⟩ := DataW.trod_int hue h1
  exact ⟨z, one_at hz, by rw [List.getElem?_map, List.getElem?_eq_getElem hix, hx]; rfl⟩
theorem g64 : Tryz.prog.globalNamed "math/bits.deBruijn64tab" = some 7 := by kernel_rfl
theorem t64 : (Tryz.prog.globals[7]?).map (·.type) = some 210 := by kernel_rfl
theorem tPow : (Tryz.prog.globals[3]?).map (·.type) = some 198 := by kernel_rfl
theorem pow_lit : (Rows.laid_internal_strconv_uint64pow10 : DataW Unit) = Lib.tabData .u64 Lib.pow10Tab := by kernel_rfl
theorem size_of_cell {W : World} (g o : Nat) (v : Value) (h : W.cell? ⟨g, o, none⟩ = some v) : g < W.heap.size := by
  rcases Nat.lt_or_ge g W.heap.size with hg | hg
  · exact hg
  · simp [World.cell?, Array.getElem?_eq_none hg] at h
theorem of_laidM {W : World} {rest : List (String × DataW Unit)} (h : laidMet Tryz.prog (("math/bits.deBruijn32tab", Rows.laid_math_bits_deBruijn32tab) :: ("math/bits.deBruijn64tab", Rows.laid_math_bits_deBruijn64tab) :: ("internal/strconv.uint64pow10", Rows.laid_internal_strconv_uint64pow10) :: rest) W) : LaidW W := by
  obtain ⟨ps, ⟨g2, t2, cs2, f2, p2, q2, hg2, ht2, hv2, hd2, ⟨g3, t3, cs3, f3, p3, q3, hg3, ht3, hv3, hd3, ⟨g0, t0, cs0, f0, p0, q0, hg0, ht0, hv0, hd0, _, _⟩, _⟩, _⟩, _, _⟩ := h
  obtain rfl := Option.some.inj (gPow.symm.trans hg0)
  obtain rfl := Option.some.inj (tPow.symm.trans ht0)
  obtain rfl := Option.some.inj (g64.symm.trans hg3)
  obtain rfl := Option.some.inj (t64.symm.trans ht3)
  have hb := bytes_of Tryz.underlying210 Tryz.underlying5 (by kernel_rfl) hd3
  have h15 : W.cell? ⟨7, 15, none⟩ = some (.int .u8 4) := by
    rw [World.var?_cell g64 hv3 15, ← Array.getElem?_toList]
    obtain ⟨z, e1, e2⟩ := hb 15 (by omega)
    rw [e1]
    have e3 : z = 4 := by
      have := e2
      simp at this
      omega
    rw [e3]
  refine ⟨size_of_cell _ _ _ h15, h15, ?_⟩
  rw [pow_lit] at hd0
  unfold Lib.TabIs
  rw [hv0, ← Lib.cells_of_tab Tryz.underlying198 Tryz.underlying81 (by kernel_rfl) (by kernel_rfl) hd0]
theorem own : ownKnob Tryz.prog.godebug = none := by kernel_rfl
theorem laidB : laidOutB Tryz.prog = true := by kernel_rfl
theorem of_intx {a : Int} (h : (Lit.int .i64 a).wf = true) : -9223372036854775808 ≤ a ∧ a ≤ 9223372036854775807 := by
  have := bounds_i64 h
  omega
end Go.Proofs.YtbcileppebpamaaGreatDoor
set_option linter.unusedSimpArgs false
set_option linter.unusedVariables false
namespace Go.Proofs.YtbcileppebpamaaGreatDoor
open Go Go.RowKit Go.Shelf
set_option maxRecDepth 100000
section
variable {w V V' : World} {B b q B2 : Nat} {D D' : DS} {vb vd : Value} {xs : List Bx} {ds : List Bool}
end
theorem own_setCell {W : World} {B z k : Nat} {T T' : TypeId} {sz n : Nat} {v u : Value} {cs : List Value} {row : Array Value} (h : W.ownsRow B T sz v n cs) (hz : W.heap[z]? = some (.cells row T' (0, 0))) (hT : T' ≠ T) : (W.setCell ⟨z, k, none⟩ u).ownsRow B T sz v n cs :=
  ⟨h.1, h.2.imp id fun ⟨g, cap, cur, h3, h4, h5, h6⟩ => ⟨g, cap, cur, h3, h4, (heap_setCell_other W ⟨z, k, none⟩ g u (by
    show g ≠ z
    rintro rfl
    rw [h5] at hz
    cases hz
    exact hT rfl)).trans h5, h6⟩⟩
theorem DrawAt.setOther {W : World} {B b q z k : Nat} {D : DS} {u : Value} {row : Array Value} {T' : TypeId} (h : DrawAt W B b q D) (hz : W.heap[z]? = some (.cells row T' (0, 0))) (h1 : T' ≠ 9) (h2 : T' ≠ 100) (h3 : T' ≠ 114) : DrawAt (W.setCell ⟨z, k, none⟩ u) B b q D := by
  have hne : ∀ (g : Nat) (cur : Array Value) (T : TypeId), W.heap[g]? = some (.cells cur T (0, 0)) → T' ≠ T → (W.setCell ⟨z, k, none⟩ u).heap[g]? = some (.cells cur T (0, 0)) := fun g cur T h5 hT => (heap_setCell_other W ⟨z, k, none⟩ g u (by
    show g ≠ z
    rintro rfl
    rw [h5] at hz
    cases hz
    exact hT rfl)).trans h5
  obtain ⟨vl, k1, k2⟩ := h.box
  exact ⟨⟨vl, hne _ _ _ k1 h2, own_setCell k2 hz h1⟩, hne _ _ _ h.row h3⟩
theorem OnlyD.keep {W W' : World} {B b q k B2 : Nat} {cs : Array Value} {T : TypeId} (hO : OnlyD B b q W W') (h : W.heap[k]? = some (.cells cs T (0, 0))) (hT : (T == 9) = false) (hk : B2 ≤ k) (hb : b < B2) (hq : q < B2) : W'.heap[k]? = some (.cells cs T (0, 0)) :=
  hO.block _ _ h (by omega) (by omega) (.inr hT)
theorem max_below {W W' : World} (h : ∃ m, W.cell? ⟨2, 0, none⟩ = some (.int .i64 m)) (hb : Below W.heap.size W W') : ∃ m, W'.cell? ⟨2, 0, none⟩ = some (.int .i64 m) := by
  obtain ⟨m, hm⟩ := h
  exact ⟨m, (hb.cell (p := ⟨2, 0, none⟩) (size_of_cell _ _ _ hm)).trans hm⟩
theorem DvO.at {W : World} {B : Nat} {v : Value} {ds : List Dv} (h : DvO W B v ds) {i : Nat} {x : Dv} (hx : ds[i]? = some x) : ∃ g c, v = .slice (some ⟨g, 0, none⟩) ds.length c ∧ W.cell? ⟨g, i * 4, none⟩ = some (.int .i64 ((x.p : Nat) : Int)) ∧ W.cell? ⟨g, i * 4 + 1, none⟩ = some (.int .i64 x.k) ∧ W.cell? ⟨g, i * 4 + 2, none⟩ = some (.int .i64 ((x.s : Nat) : Int)) ∧ W.cell? ⟨g, i * 4 + 3, none⟩ = some (.int .i64 ((x.l : Nat) : Int)) := by
  obtain ⟨p, c, rfl⟩ := h.form
  have hi := (List.getElem?_eq_some_iff.1 hx).1
  obtain ⟨g, h1, _, _, h4⟩ := own_at h hi
  subst h1
  refine ⟨g, c, rfl, ?_, ?_, ?_, ?_⟩
  · rw [← Nat.add_zero (i * 4), h4 0 (by omega), flat_get Dv.cells 4 (fun _ => rfl) ds i x 0 hx (by omega)]; rfl
  · rw [h4 1 (by omega), flat_get Dv.cells 4 (fun _ => rfl) ds i x 1 hx (by omega)]; rfl
  · rw [h4 2 (by omega), flat_get Dv.cells 4 (fun _ => rfl) ds i x 2 hx (by omega)]; rfl
  · rw [h4 3 (by omega), flat_get Dv.cells 4 (fun _ => rfl) ds i x 3 hx (by omega)]; rfl
end Go.Proofs.YtbcileppebpamaaGreatDoor
set_option linter.unusedSimpArgs false
set_option linter.unusedVariables false
namespace Go.Proofs.YtbcileppebpamaaGreatDoor
open Go Go.RowKit Go.Shelf
set_option maxRecDepth 100000
/-- What a drawing's calls may change. -/
def isDr : Obj → Bool
  | .cells _ t _ => (t == 9) || (t == 100) || (t == 114)
  | _ => false
theorem isDr_strs {o : Obj} (h : isDr o = false) : isStrs o = false := by
  cases o <;> simp_all [isDr, isStrs]
theorem isDr_book {o : Obj} (h : isBook o = true) : isDr o = false := by
  cases o <;> simp_all [isDr, isBook]
/-- Only the reader's box at z, a drawing's blocks from B1 on, and new blocks have changed. -/
structure OnlyR (B1 z : Nat) (W W' : World) : Prop where
  os : W'.os = W.os
  tape : W'.tape = W.tape
  output : W'.output = W.output
  size : W.heap.size ≤ W'.heap.size
  block : ∀ k o, W.heap[k]? = some o → k ≠ z → (k < B1 ∨ isDr o = false) → W'.heap[k]? = some o
theorem OnlyR.refl (B1 z : Nat) (W : World) : OnlyR B1 z W W := ⟨rfl, rfl, rfl, Nat.le_refl _, fun _ _ h _ _ => h⟩
theorem OnlyR.trans {B1 z : Nat} {X Y Z : World} (h : OnlyR B1 z X Y) (k : OnlyR B1 z Y Z) : OnlyR B1 z X Z :=
  ⟨k.os.trans h.os, k.tape.trans h.tape, k.output.trans h.output, Nat.le_trans h.size k.size, fun j o ho h1 h2 => k.block j o (h.block j o ho h1 h2) h1 h2⟩
theorem OnlyR.below {B1 z : Nat} {W W' : World} (h : Below W.heap.size W W') : OnlyR B1 z W W' := ⟨h.os, h.tape, h.output, h.size, fun k o ho _ _ => heap_below h ho (heap_lt ho)⟩
theorem OnlyR.only {B1 z B b q : Nat} {W W' : World} {D : DS} (h : OnlyD B b q W W') (hd : DrawAt W B b q D) (hB : B1 ≤ B) (hb : B ≤ b) (hq : B ≤ q) : OnlyR B1 z W W' :=
  ⟨h.os, h.tape, h.output, h.size, fun k o ho _ hk => by
    refine h.block k o ho (fun e => ?_) (fun e => ?_) (hk.imp (fun h => Nat.lt_of_lt_of_le h hB) isDr_strs)
    · subst e
      obtain ⟨vl, h1, _⟩ := hd.box
      rw [h1] at ho
      cases ho
      rcases hk with hk | hk
      · omega
      · exact absurd hk (by simp [isDr])
    · subst e
      rw [hd.row] at ho
      cases ho
      rcases hk with hk | hk
      · omega
      · exact absurd hk (by simp [isDr])⟩
theorem OnlyR.set {B1 z : Nat} {W V : World} (h : OnlyR B1 z W V) (i : Nat) (v : Value) : OnlyR B1 z W (V.setCell ⟨z, i, none⟩ v) :=
  ⟨by show V.os = W.os; exact h.os, h.tape, by show V.output = W.output; exact h.output, by simpa using h.size, fun j o ho h1 h2 => (heap_setCell_other V ⟨z, i, none⟩ j _ h1).trans (h.block j o ho h1 h2)⟩
theorem OnlyR.toB {B1 z B0 : Nat} {W W' : World} (h : OnlyR B1 z W W') (hz : B0 ≤ z) (h1 : B0 ≤ B1) (hB : B0 ≤ W.heap.size) : Below B0 W W' :=
  ⟨h.os, h.tape, h.output, h.size, fun k hk => by
    have hlt : k < W.heap.size := by omega
    exact (h.block k _ (Array.getElem?_eq_getElem hlt) (by omega) (.inl (by omega))).trans (Array.getElem?_eq_getElem hlt).symm⟩
theorem OnlyR.keepsL {B1 z : Nat} {W W' : World} (h : OnlyR B1 z W W') {cs : Array Value} {t : TypeId} {f : Nat × Nat} (hz : W.heap[z]? = some (.cells cs t f)) : KeepsL W W' :=
  ⟨h.size, fun k o ho hb => h.block k o ho (fun e => by subst e; rw [hz] at ho; cases ho; cases hb) (.inr (isDr_book hb))⟩
theorem OnlyR.keptS {B1 z k0 : Nat} {W W' : World} (h : OnlyR B1 z W W') (hk : k0 ≠ z) (hk1 : k0 < B1) {cs : Array Value} {t : TypeId} {f : Nat × Nat} (hz : W.heap[z]? = some (.cells cs t f)) : KeptS (fun k => k = k0) W W' :=
  ⟨h.size, fun b hb o ho _ => by subst hb; exact h.block b o ho hk (.inl hk1), fun b x hx => (h.keepsL hz).same b _ hx rfl⟩
/-- The reader at z. -/
def RdAt (V : World) (B1 z : Nat) : Option St → Prop
  | none => V.heap[z]? = some (.cells #[.pointer none] 89 (0, 0))
  | some (bl, n, ls) => ((1 ≤ bl ∧ bl ≤ 1000000000) ∧ (1 ≤ n ∧ n ≤ 30)) ∧ ∃ B b q D, V.heap[z]? = some (.cells #[.pointer (some ⟨b, 0, none⟩)] 89 (0, 0)) ∧ DrawAt V B b q D ∧ Rel bl n D ls ∧ B1 ≤ B ∧ B ≤ b ∧ B ≤ q ∧ B ≤ V.heap.size
theorem RdAt.box {V : World} {B1 z : Nat} {st : Option St} (h : RdAt V B1 z st) : ∃ pv, V.heap[z]? = some (.cells #[.pointer pv] 89 (0, 0)) := by
  rcases st with _ | ⟨bl, n, ls⟩
  · exact ⟨_, h⟩
  · obtain ⟨_, B, b, q, D, h1, _⟩ := h
    exact ⟨_, h1⟩
theorem RdAt.below {V V' : World} {B1 z : Nat} {st : Option St} (h : RdAt V B1 z st) (hb : Below V.heap.size V V') : RdAt V' B1 z st := by
  rcases st with _ | ⟨bl, n, ls⟩
  · exact heap_below hb h (heap_lt h)
  · obtain ⟨h0, B, b, q, D, h1, h2, h3, h4, h5, h6, h7⟩ := h
    exact ⟨h0, B, b, q, D, heap_below hb h1 (heap_lt h1), h2.below hb, h3, h4, h5, h6, Nat.le_trans h7 hb.size⟩
theorem StrRow.keepL {W W' : World} {B : Nat} {v : Value} {ss : List ByteArray} (h : StrRow W B v ss) (hk : ∀ (b : Nat) (o : Obj), W.heap[b]? = some o → isBook o = false → W'.heap[b]? = some o) : StrRow W' B v ss :=
  ⟨h.1, h.2.imp id fun ⟨g, cap, cur, h3, h4, h5, h6⟩ => ⟨g, cap, cur, h3, h4, hk _ _ h5 rfl, h6⟩⟩
theorem RdAt.keepL {V V' : World} {B1 z : Nat} {st : Option St} (h : RdAt V B1 z st) (hs : V.heap.size ≤ V'.heap.size) (hk : ∀ (b : Nat) (o : Obj), V.heap[b]? = some o → isBook o = false → V'.heap[b]? = some o) : RdAt V' B1 z st := by
  rcases st with _ | ⟨bl, n, ls⟩
  · exact hk _ _ h rfl
  · obtain ⟨h0, B, b, q, D, h1, h2, h3, h4, h5, h6, h7⟩ := h
    obtain ⟨vl, k1, k2⟩ := h2.box
    exact ⟨h0, B, b, q, D, hk _ _ h1 rfl, ⟨⟨vl, hk _ _ k1 rfl, k2.keepL hk⟩, hk _ _ h2.row rfl⟩, h3, h4, h5, h6, Nat.le_trans h7 hs⟩
theorem RdAt.abd (B B1 z : Nat) (st : Option St) : Abd B fun V => RdAt V B1 z st :=
  ⟨fun W W' h hb => h.below hb,
   fun W l r r' hl h hr => h.keepL (by simp [World.putObj]) fun b o ho hk => (World.putObj_heap_other fun e => by subst e; rw [hr] at ho; cases ho; cases hk).trans ho,
   fun W D hl h hr => h.keepL (by simp [World.putObj]) fun b o ho hk => (World.putObj_heap_other fun e => by subst e; rw [hr] at ho; cases ho; cases hk).trans ho⟩
theorem RdAt.setLow {V : World} {B1 z k i : Nat} {st : Option St} {v : Value} (h : RdAt V B1 z st) (hk : k ≠ z) (hk1 : k < B1) : RdAt (V.setCell ⟨k, i, none⟩ v) B1 z st := by
  have hne : ∀ j, j ≠ k → (V.setCell ⟨k, i, none⟩ v).heap[j]? = V.heap[j]? := fun j hj => heap_setCell_other V ⟨k, i, none⟩ j v hj
  rcases st with _ | ⟨bl, n, ls⟩
  · exact (hne z (Ne.symm hk)).trans h
  · obtain ⟨h0, B, b, q, D, h1, h2, h3, h4, h5, h6, h7⟩ := h
    obtain ⟨vl, k1, k2⟩ := h2.box
    refine ⟨h0, B, b, q, D, (hne z (Ne.symm hk)).trans h1, ⟨⟨vl, (hne b (by omega)).trans k1, ⟨k2.1, k2.2.imp id fun ⟨g, cap, cur, h3, h4, h5, h6⟩ => ⟨g, cap, cur, h3, h4, (hne g (by omega)).trans h5, h6⟩⟩⟩, (hne q (by omega)).trans h2.row⟩, h3, h4, h5, h6, by simpa using h7⟩
/-- The words of a line. -/
theorem split_l (l : List UInt8) (hl : l.length ≤ 1000000) (W : World) (hm : ∃ m, W.cell? ⟨2, 0, none⟩ = some (.int .i64 m)) :
    Calls Tryz.prog 26 #[.string ⟨l.toArray⟩, .string ⟨#[32]⟩] W fun e W' => e = .returned (.slice (some ⟨W.heap.size, 0, none⟩) (wordsL 32 l).length (wordsL 32 l).length) ∧ W' = W.alloc (.cells ((bas (wordsL 32 l)).map Value.string).toArray 9) := by
  obtain ⟨m, hm⟩ := hm
  have h1 : 1 ≤ (wordsL 32 l).length := by
    obtain ⟨w, r, e⟩ := wordsL_form 32 l
    rw [e]; simp
  have := Cut_all 32 (wordsL 32 l) h1 (wordsL_no 32 l) W m hm (by rw [wordsL_join]; omega)
  rw [wordsL_join] at this
  exact this
theorem wordsL_mem (c : UInt8) : ∀ l, ∀ w ∈ wordsL c l, w.length ≤ l.length
  | [], w, hw => by simp [wordsL] at hw; rw [hw]; simp
  | x :: l, w, hw => by
    obtain ⟨w0, r, h⟩ := wordsL_form c l
    have ih := wordsL_mem c l
    rw [wordsL, h] at hw
    rw [h] at ih
    split at hw
    · rcases List.mem_cons.1 hw with rfl | hw
      · simp
      · have := ih w hw; simp; omega
    · rcases List.mem_cons.1 hw with rfl | hw
      · have := ih w0 (List.mem_cons_self ..); simp; omega
      · have := ih w (List.mem_cons_of_mem _ hw); simp; omega
theorem wordsL_len (c : UInt8) : ∀ l, (wordsL c l).length ≤ l.length + 1
  | [] => by simp [wordsL]
  | x :: l => by
    obtain ⟨w0, r, h⟩ := wordsL_form c l
    have ih := wordsL_len c l
    rw [h] at ih
    rw [wordsL, h]
    split
    · simp at ih ⊢; omega
    · simp at ih ⊢; omega
theorem reads_bas {W : World} {g o c : Nat} (ws : List (List UInt8)) (r : List (List UInt8)) (hg : W.heap[g]? = some (.cells ((bas ws).map Value.string).toArray 9 (0, 0))) (hr : ∀ k x, r[k]? = some x → ws[o + k]? = some x) : ReadsT W (.slice (some ⟨g, o, none⟩) r.length c) (bas r) := by
  refine .inr ⟨g, o, c, by simp [bas], heap_lt hg, fun k x hx => ?_⟩
  rw [cell_of_row _ _ (o + k) _ _ (0, 0) hg]
  have h1 : r[k]? = some x.data.toList := by
    simp only [bas, List.getElem?_map] at hx
    cases hk : r[k]? with
    | none => rw [hk] at hx; cases hx
    | some y => rw [hk] at hx; cases hx; rfl
  have h2 := hr k _ h1
  simp [bas, h2]
end Go.Proofs.YtbcileppebpamaaGreatDoor
