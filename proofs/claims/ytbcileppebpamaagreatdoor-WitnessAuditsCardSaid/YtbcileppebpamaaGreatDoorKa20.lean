/- Lemmas for WitnessAudits: part 20. -/
import Derived.Test.YtbcileppebpamaaGreatDoorKa19
set_option linter.unusedSimpArgs false
set_option linter.unusedVariables false
namespace Go.Proofs.YtbcileppebpamaaGreatDoor
open Go Go.RowKit Go.Shelf
set_option maxRecDepth 100000
set_option maxHeartbeats 4000000 in
theorem rnumber_c (l : List UInt8) (hl : l.length ≤ 100000) (w : World) :
    Calls Tryz.prog 48 #[.string ⟨l.toArray⟩] w fun e w' => e = .returned (.tuple #[.int .i64 (if numB l = true then ((numN l : Nat) : Int) else 0), .bool (numB l)]) ∧ w = w' := by
  have hsz : (⟨l.toArray⟩ : ByteArray).size = l.length := by show l.toArray.size = _; simp
  have hby := byte_at l
  obtain ⟨S, hS⟩ : ∃ S : ByteArray, ⟨l.toArray⟩ = S := ⟨_, rfl⟩
  obtain ⟨n, hn⟩ : ∃ n, l.length = n := ⟨_, rfl⟩
  obtain ⟨nb, hnb⟩ : ∃ nb, numB l = nb := ⟨_, rfl⟩
  rw [hS, hn] at hsz
  rw [hS] at hby
  rw [hS, hnb]
  have hnb2 := hnb
  rw [numB, hn] at hnb2
  rw [hn] at hl
  have HBY := hid hby
  have HN := hid hn
  have HNB := hid hnb
  clear hby hS hn hnb
  by_cases h0 : n = 0
  · subst h0
    obtain rfl : nb = false := by rw [← hnb2]; simp
    clear hnb2
    go_enter Tryz.func48, Tryz.ntmps48
    go_wp2_with fail
    go_ret2
    exact ⟨rfl, rfl⟩
  · have d1 : decide (((n : Nat) : Int) < 1) = false := decide_eq_false (by omega)
    have d1' : ¬ ((n : Nat) : Int) < 1 := by omega
    have d1n : decide (n < 1) = false := decide_eq_false (by omega)
    have hpos : 0 < n := by omega
    by_cases h16 : 16 < n
    · obtain rfl : nb = false := by rw [← hnb2, decide_eq_false (show ¬ n ≤ 16 by omega)]; simp
      have d2 : decide ((16 : Int) < ((n : Nat) : Int)) = true := decide_eq_true (by omega)
      clear hnb2
      go_enter Tryz.func48, Tryz.ntmps48
      go_wp2_with fail
      go_ret2
      exact ⟨rfl, rfl⟩
    · have d2 : decide ((16 : Int) < ((n : Nat) : Int)) = false := decide_eq_false (by omega)
      obtain ⟨c, hc⟩ : ∃ c, l[0]? = some c := ⟨_, List.getElem?_eq_getElem (by rw [HN.out]; exact hpos)⟩
      have hg0 := HBY.out 0 c hc
      obtain ⟨k0, hk0⟩ : ∃ k, c.toNat = k := ⟨_, rfl⟩
      rw [hk0] at hg0
      have hc48 : c = 48 ↔ k0 = 48 := by
        rw [← hk0]
        exact ⟨fun e => by rw [e]; rfl, fun e => UInt8.toNat_inj.1 e⟩
      have hhd : l.head? = some c := by rw [List.head?_eq_getElem?, hc]
      clear hk0 hc
      rw [decide_eq_true (show 1 ≤ n by omega), decide_eq_true (show n ≤ 16 by omega), lead0, hhd, HN.out] at hnb2
      simp only [Bool.true_and] at hnb2
      by_cases hld : k0 = 48 ∧ 1 < n
      · obtain rfl : nb = false := by rw [← hnb2, hc48.2 hld.1, decide_eq_true hld.2]; simp
        obtain ⟨rfl, h1⟩ := hld
        have d3 : decide ((1 : Int) < ((n : Nat) : Int)) = true := decide_eq_true (by omega)
        clear hnb2 hc48 hhd
        go_enter Tryz.func48, Tryz.ntmps48
        go_wp2_with fail
        go_ret2
        exact ⟨rfl, rfl⟩
      · have hnl : ((some c == some (48 : UInt8)) && decide (1 < n)) = false := by
          by_cases e : c = 48
          · rw [decide_eq_false (fun h => hld ⟨hc48.1 e, h⟩)]; simp
          · simp [e]
        rw [hnl, Bool.not_false, Bool.and_true] at hnb2
        have HALL := hid hnb2
        have HLOOP : ∀ w', w' = w → True := fun _ _ => trivial
        have d3 : (((k0 : Nat) : Int) == 48) = true → decide ((1 : Int) < ((n : Nat) : Int)) = false := fun h => decide_eq_false (fun h1 => hld ⟨by simp at h; omega, by omega⟩)
        have HH : Hid True := hid trivial
        clear hnl hnb2 hhd HLOOP
        by_cases e48 : k0 = 48
        · have d4 := d3 (by simp [e48])
          subst e48
          clear hld hc48 d3
          go_enter Tryz.func48, Tryz.ntmps48
          go_wp2_with fail
          go_loopw [4, 5] (fun nx ix wr => ∃ i : Nat, i ≤ n ∧ nx = .int .i64 ((numN (l.take i) : Nat) : Int) ∧ ix = .int .i64 ((i : Nat) : Int) ∧ wr = w ∧ Aside ((l.take i).all digB = true)) (fun _ ix _ => n - (intOf ix).toNat)
          case atStart => exact ⟨0, by omega, rfl, rfl, rfl, rfl⟩
          case round =>
            obtain ⟨i, hi, rfl, rfl, hwr, hA⟩ := hrel
            subst hwr
            have HA := hid hA
            clear hA
            rcases Nat.lt_or_ge i n with hlt | hge
            · have hin : decide (((i : Nat) : Int) < ((n : Nat) : Int)) = true := decide_eq_true (by omega)
              have hin' : ((i : Nat) : Int) < ((n : Nat) : Int) := by omega
              have hi0 : (0 : Int) ≤ ((i : Nat) : Int) := by omega
              obtain ⟨i1, hi1⟩ : ∃ i1, i + 1 = i1 := ⟨_, rfl⟩
              have hiw : IntKind.i64.wrap (((i : Nat) : Int) + 1) = ((i1 : Nat) : Int) := (IntWalk.i64_in _ (by omega)).trans (by omega)
              have HI1 := hid hi1
              have HLT := hid hlt
              obtain ⟨c2, hc2⟩ : ∃ c, l[i]? = some c := ⟨_, List.getElem?_eq_getElem (by rw [HN.out]; exact hlt)⟩
              have hgi := HBY.out i c2 hc2
              have htk : l.take i1 = l.take i ++ [c2] := by rw [← hi1, List.take_add_one, hc2]; rfl
              have hnx : numN (l.take i1) = 10 * numN (l.take i) + (c2.toNat - 48) := by rw [htk]; exact numN_snoc _ _
              have hbt := numA_lt (l.take i) 0 HA.out
              change numN (l.take i) < _ at hbt
              rw [List.length_take] at hbt
              obtain ⟨k2, hk2⟩ : ∃ k, c2.toNat = k := ⟨_, rfl⟩
              have hk256 : k2 < 256 := by rw [← hk2]; exact c2.toNat_lt
              rw [hk2] at hgi hnx
              obtain ⟨x, hx⟩ : ∃ x, numN (l.take i) = x := ⟨_, rfl⟩
              rw [hx] at hbt hnx
              rw [hx]
              have hx60 : x < 10000000000000000 := Nat.lt_of_lt_of_le hbt (by
                have : 10 ^ (min i l.length) ≤ 10 ^ 16 := Nat.pow_le_pow_right (by decide) (by omega)
                omega)
              have hdg : digB c2 = (decide (48 ≤ k2) && decide (k2 ≤ 57)) := by rw [digB, hk2]
              have HDG := hid hdg
              have HC2 := hid hc2
              have HTK := hid htk
              have HNX := hid hnx
              have HXX := hid hx
              clear hbt hdg hc2 htk hi1 hk2 hnx hx
              have bad : (decide (48 ≤ k2) && decide (k2 ≤ 57)) = false → nb = false := fun h => by
                rw [← HALL.out]
                exact List.all_eq_false.2 ⟨c2, List.mem_of_getElem? HC2.out, by rw [HDG.out, h]; simp⟩
              have HBAD := hid bad
              clear bad
              by_cases hlo : k2 < 48
              · obtain rfl : nb = false := HBAD.out (by rw [decide_eq_false (by omega)]; rfl)
                have q1 : decide (((k2 : Nat) : Int) < 48) = true := decide_eq_true (by omega)
                go_wp2_with fail
                go_ret2
                exact ⟨rfl, rfl⟩
              · have q1 : decide (((k2 : Nat) : Int) < 48) = false := decide_eq_false (by omega)
                by_cases hhi : 57 < k2
                · obtain rfl : nb = false := HBAD.out (by rw [decide_eq_false (show ¬ k2 ≤ 57 by omega)]; simp)
                  have q2 : decide ((57 : Int) < ((k2 : Nat) : Int)) = true := decide_eq_true (by omega)
                  go_wp2_with fail
                  go_ret2
                  exact ⟨rfl, rfl⟩
                · have q2 : decide ((57 : Int) < ((k2 : Nat) : Int)) = false := decide_eq_false (by omega)
                  have hwd := wrap_i8 k2 ⟨by omega, by omega⟩
                  obtain ⟨d, hd⟩ : ∃ d, k2 - 48 = d := ⟨_, rfl⟩
                  have hd9 : d ≤ 9 := by omega
                  rw [hd] at hwd HNX
                  obtain ⟨y, hy⟩ : ∃ y, 10 * x = y := ⟨_, rfl⟩
                  obtain ⟨z, hz⟩ : ∃ z, y + d = z := ⟨_, rfl⟩
                  rw [hy, hz] at HNX
                  have hwy : IntKind.i64.wrap (10 * ((x : Nat) : Int)) = ((y : Nat) : Int) := (IntWalk.i64_in _ (by omega)).trans (by omega)
                  have hwz : IntKind.i64.wrap (((y : Nat) : Int) + ((d : Nat) : Int)) = ((z : Nat) : Int) := (IntWalk.i64_in _ (by omega)).trans (by omega)
                  have hwd2 : IntKind.i64.wrap ((d : Nat) : Int) = ((d : Nat) : Int) := IntWalk.i64_in _ (by omega)
                  have HDT := hid (show digB c2 = true by rw [HDG.out, decide_eq_true (show 48 ≤ k2 by omega), decide_eq_true (show k2 ≤ 57 by omega)]; rfl)
                  clear hhi hlo hy hz hd
                  go_wp2_with fail
                  go_roundw
                  case rel => exact ⟨i1, by have := HI1.out; have := HLT.out; omega, by rw [HNX.out], rfl, trivial, by rw [HTK.out, List.all_append, HA.out, List.all_cons, HDT.out]; rfl⟩
                  case measure => have := HI1.out; have := HLT.out; simp only [intOf, Int.toNat_natCast]; omega
            · obtain rfl : i = n := by omega
              have hin : decide (((i : Nat) : Int) < ((i : Nat) : Int)) = false := decide_eq_false (by omega)
              have hin2 : ¬ ((i : Nat) : Int) < ((i : Nat) : Int) := by omega
              have htk : l.take i = l := List.take_of_length_le (by have := HN.out; omega)
              rw [htk] at HA
              rw [htk]
              obtain rfl : nb = true := HALL.out.symm.trans HA.out
              go_wp2_with fail
              go_ret2
              exact ⟨rfl, rfl⟩
        · have d4 : (((k0 : Nat) : Int) == 48) = false := by simp; omega
          clear hld hc48 d3
          go_enter Tryz.func48, Tryz.ntmps48
          go_wp2_with fail
          go_loopw [4, 5] (fun nx ix wr => ∃ i : Nat, i ≤ n ∧ nx = .int .i64 ((numN (l.take i) : Nat) : Int) ∧ ix = .int .i64 ((i : Nat) : Int) ∧ wr = w ∧ Aside ((l.take i).all digB = true)) (fun _ ix _ => n - (intOf ix).toNat)
          case atStart => exact ⟨0, by omega, rfl, rfl, rfl, rfl⟩
          case round =>
            obtain ⟨i, hi, rfl, rfl, hwr, hA⟩ := hrel
            subst hwr
            have HA := hid hA
            clear hA
            rcases Nat.lt_or_ge i n with hlt | hge
            · have hin : decide (((i : Nat) : Int) < ((n : Nat) : Int)) = true := decide_eq_true (by omega)
              have hin' : ((i : Nat) : Int) < ((n : Nat) : Int) := by omega
              have hi0 : (0 : Int) ≤ ((i : Nat) : Int) := by omega
              obtain ⟨i1, hi1⟩ : ∃ i1, i + 1 = i1 := ⟨_, rfl⟩
              have hiw : IntKind.i64.wrap (((i : Nat) : Int) + 1) = ((i1 : Nat) : Int) := (IntWalk.i64_in _ (by omega)).trans (by omega)
              have HI1 := hid hi1
              have HLT := hid hlt
              obtain ⟨c2, hc2⟩ : ∃ c, l[i]? = some c := ⟨_, List.getElem?_eq_getElem (by rw [HN.out]; exact hlt)⟩
              have hgi := HBY.out i c2 hc2
              have htk : l.take i1 = l.take i ++ [c2] := by rw [← hi1, List.take_add_one, hc2]; rfl
              have hnx : numN (l.take i1) = 10 * numN (l.take i) + (c2.toNat - 48) := by rw [htk]; exact numN_snoc _ _
              have hbt := numA_lt (l.take i) 0 HA.out
              change numN (l.take i) < _ at hbt
              rw [List.length_take] at hbt
              obtain ⟨k2, hk2⟩ : ∃ k, c2.toNat = k := ⟨_, rfl⟩
              have hk256 : k2 < 256 := by rw [← hk2]; exact c2.toNat_lt
              rw [hk2] at hgi hnx
              obtain ⟨x, hx⟩ : ∃ x, numN (l.take i) = x := ⟨_, rfl⟩
              rw [hx] at hbt hnx
              rw [hx]
              have hx60 : x < 10000000000000000 := Nat.lt_of_lt_of_le hbt (by
                have : 10 ^ (min i l.length) ≤ 10 ^ 16 := Nat.pow_le_pow_right (by decide) (by omega)
                omega)
              have hdg : digB c2 = (decide (48 ≤ k2) && decide (k2 ≤ 57)) := by rw [digB, hk2]
              have HDG := hid hdg
              have HC2 := hid hc2
              have HTK := hid htk
              have HNX := hid hnx
              have HXX := hid hx
              clear hbt hdg hc2 htk hi1 hk2 hnx hx
              have bad : (decide (48 ≤ k2) && decide (k2 ≤ 57)) = false → nb = false := fun h => by
                rw [← HALL.out]
                exact List.all_eq_false.2 ⟨c2, List.mem_of_getElem? HC2.out, by rw [HDG.out, h]; simp⟩
              have HBAD := hid bad
              clear bad
              by_cases hlo : k2 < 48
              · obtain rfl : nb = false := HBAD.out (by rw [decide_eq_false (by omega)]; rfl)
                have q1 : decide (((k2 : Nat) : Int) < 48) = true := decide_eq_true (by omega)
                go_wp2_with fail
                go_ret2
                exact ⟨rfl, rfl⟩
              · have q1 : decide (((k2 : Nat) : Int) < 48) = false := decide_eq_false (by omega)
                by_cases hhi : 57 < k2
                · obtain rfl : nb = false := HBAD.out (by rw [decide_eq_false (show ¬ k2 ≤ 57 by omega)]; simp)
                  have q2 : decide ((57 : Int) < ((k2 : Nat) : Int)) = true := decide_eq_true (by omega)
                  go_wp2_with fail
                  go_ret2
                  exact ⟨rfl, rfl⟩
                · have q2 : decide ((57 : Int) < ((k2 : Nat) : Int)) = false := decide_eq_false (by omega)
                  have hwd := wrap_i8 k2 ⟨by omega, by omega⟩
                  obtain ⟨d, hd⟩ : ∃ d, k2 - 48 = d := ⟨_, rfl⟩
                  have hd9 : d ≤ 9 := by omega
                  rw [hd] at hwd HNX
                  obtain ⟨y, hy⟩ : ∃ y, 10 * x = y := ⟨_, rfl⟩
                  obtain ⟨z, hz⟩ : ∃ z, y + d = z := ⟨_, rfl⟩
                  rw [hy, hz] at HNX
                  have hwy : IntKind.i64.wrap (10 * ((x : Nat) : Int)) = ((y : Nat) : Int) := (IntWalk.i64_in _ (by omega)).trans (by omega)
                  have hwz : IntKind.i64.wrap (((y : Nat) : Int) + ((d : Nat) : Int)) = ((z : Nat) : Int) := (IntWalk.i64_in _ (by omega)).trans (by omega)
                  have hwd2 : IntKind.i64.wrap ((d : Nat) : Int) = ((d : Nat) : Int) := IntWalk.i64_in _ (by omega)
                  have HDT := hid (show digB c2 = true by rw [HDG.out, decide_eq_true (show 48 ≤ k2 by omega), decide_eq_true (show k2 ≤ 57 by omega)]; rfl)
                  clear hhi hlo hy hz hd
                  go_wp2_with fail
                  go_roundw
                  case rel => exact ⟨i1, by have := HI1.out; have := HLT.out; omega, by rw [HNX.out], rfl, trivial, by rw [HTK.out, List.all_append, HA.out, List.all_cons, HDT.out]; rfl⟩
                  case measure => have := HI1.out; have := HLT.out; simp only [intOf, Int.toNat_natCast]; omega
            · obtain rfl : i = n := by omega
              have hin : decide (((i : Nat) : Int) < ((i : Nat) : Int)) = false := decide_eq_false (by omega)
              have hin2 : ¬ ((i : Nat) : Int) < ((i : Nat) : Int) := by omega
              have htk : l.take i = l := List.take_of_length_le (by have := HN.out; omega)
              rw [htk] at HA
              rw [htk]
              obtain rfl : nb = true := HALL.out.symm.trans HA.out
              go_wp2_with fail
              go_ret2
              exact ⟨rfl, rfl⟩
end Go.Proofs.YtbcileppebpamaaGreatDoor
set_option linter.unusedSimpArgs false
set_option linter.unusedVariables false
namespace Go.Proofs.YtbcileppebpamaaGreatDoor
open Go Go.RowKit Go.Shelf
set_option maxRecDepth 100000
theorem StrRow.at' {W : World} {B : Nat} {v : Value} {ls : List ByteArray} (h : StrRow W B v ls) (hn : 1 ≤ ls.length) : ∃ gw c cur, v = .slice (some ⟨gw, 0, none⟩) ls.length c ∧ B ≤ gw ∧ W.heap[gw]? = some (.cells cur 9 (0, 0)) ∧ ∀ (i : Nat) x, ls[i]? = some x → cur[i]? = some (.string x) := by
  rcases h.2 with ⟨_, h0⟩ | ⟨g, cap, cur, h3, h4, h5, h6, h7, h8, h9⟩
  · omega
  · refine ⟨g, cap, cur, h3, h4, h5, fun i x hx => ?_⟩
    have h10 : (cur.toList.take (ls.length * 1))[i]? = (ls.map Value.string)[i]? := by rw [h9]
    have hi := (List.getElem?_eq_some_iff.1 hx).1
    rw [List.getElem?_take, if_pos (by omega)] at h10
    rw [← Array.getElem?_toList, h10, List.getElem?_map, hx]
    rfl
theorem results_lin {fn : Func} {r q : Tmp} (h : fn.results = #[.cell r 56, .tmp q]) {tmps : Array Value} {W : World} {g : Nat} {cs : Array Value} {e : Value} (hr : tmps.getD r undef = .pointer (some ⟨g, 0, none⟩)) (hq : tmps.getD q undef = e) (hg : W.heap[g]? = some (.cells cs 56 (0, 0))) (hc : cs.size = 5) : (results fn tmps).run Tryz.prog W = .ok (.tuple #[.agg cs, e]) W := by
  have hl := run_loadVar_row (P := Tryz.prog) W g 56 56 cs (0, 0) _ hg Tryz.underlying56 rfl (by rw [hc]; kernel_rfl)
  have hr' : tmps[r]?.getD undef = .pointer (some ⟨g, 0, none⟩) := by simpa using hr
  have hq' : tmps[q]?.getD undef = e := by simpa using hq
  simp [results, h, hr', hq', asAddr, hl]
theorem exec_buildB1 {ev : Operand → Value} {o : Oper} {x : Operand} {a : Int} {W : World} (ho : o.op = .build 27 #[(0, x)]) (hx : ev x = .int .i64 a) : (execOp ev o).run Tryz.prog W = .ok (.value (.agg #[.int .i64 a, .int .i64 0, .string ⟨#[]⟩])) W := by
  simp [execOp, ho, hx]
  go_simp
theorem exec_buildL1 {ev : Operand → Value} {o : Oper} {x y : Operand} {p v : Int} {h s : ByteArray} {W : World} (ho : o.op = .build 56 #[(0, .const (.int .i64 1)), (1, x), (2, y)]) (hk : ev (.const (.int .i64 1)) = .int .i64 1) (hx : ev x = .string h) (hy : ev y = .agg #[.int .i64 p, .int .i64 v, .string s]) : (execOp ev o).run Tryz.prog W = .ok (.value (.agg #[.int .i64 1, .string h, .int .i64 p, .int .i64 v, .string s])) W := by
  simp [execOp, ho, hk, hx, hy]
  go_simp
theorem exec_buildL2 {ev : Operand → Value} {o : Oper} {y : Operand} {p v : Int} {s : ByteArray} {W : World} (ho : o.op = .build 56 #[(0, .const (.int .i64 2)), (2, y)]) (hk : ev (.const (.int .i64 2)) = .int .i64 2) (hy : ev y = .agg #[.int .i64 p, .int .i64 v, .string s]) : (execOp ev o).run Tryz.prog W = .ok (.value (.agg #[.int .i64 2, .string ⟨#[]⟩, .int .i64 p, .int .i64 v, .string s])) W := by
  simp [execOp, ho, hk, hy]
  go_simp
def lineC (x : RL) : Array Value := #[.int .i64 x.k, .string x.h, .int .i64 x.p, .int .i64 x.v, .string x.s]
theorem line_one (a b c : Int) (s t : ByteArray) : (#[.int .i64 a, .string s, .int .i64 b, .int .i64 c, .string t] : Array Value).all (·.oneCell') = true := by simp [Value.oneCell']
/-- What is read. -/
def LinR (l : List UInt8) (e : Ending) : Prop := ∃ (x : RL) (b : Bool), e = .returned (.tuple #[.agg (lineC x), .bool b]) ∧ ((b = true ∧ lineOf l = some x) ∨ (b = false ∧ lineOf l = none))
theorem wcl_iff (l : List UInt8) : wordsL 32 l = [wCl] ↔ l = wCl := by
  constructor
  · intro h
    have := wordsL_join 32 l
    rw [h, Lib.join_one] at this
    exact this.symm
  · rintro rfl
    rfl
def lin0 : Array Value := #[.int .i64 0, .string ⟨#[]⟩, .int .i64 0, .int .i64 0, .string ⟨#[]⟩]
set_option maxHeartbeats 4000000 in
theorem rread_close (w : World) :
    Calls Tryz.prog 49 #[.string ⟨wCl.toArray⟩] w fun e w' => LinR wCl e ∧ Below w.heap.size w w' := by
  have hRW := fun V => rwords_c wCl (by decide) V
  have hx := heap_alloc_new w (.cells lin0 56)
  have hal : Below w.heap.size w (w.alloc (.cells lin0 56)) := (Below.refl _ _).alloc (Nat.le_refl _) _
  obtain ⟨g, hg⟩ : ∃ g, w.heap.size = g := ⟨_, rfl⟩
  rw [hg] at hx hal
  obtain ⟨S, hS⟩ : ∃ S : ByteArray, ⟨wCl.toArray⟩ = S := ⟨_, rfl⟩
  have hSl : S.toList = [99, 108, 111, 115, 101] := by rw [← hS, ByteArray.toList_eq]; rfl
  rw [hS] at hRW
  rw [hS, hg]
  have HX := hid (And.intro hx hal)
  have HRW := hid hRW
  have HG := hid hg
  clear hRW hx hal hS hg
  unfold lin0 at HX
  go_enter Tryz.func49, Tryz.ntmps49
  go_upto_region 1 with fail
  try rw [HG.out]
  generalize w.alloc (.cells #[.int .i64 0, .string ⟨#[]⟩, .int .i64 0, .int .i64 0, .string ⟨#[]⟩] 56) = W1 at HX ⊢
  go_wp2_with (first
    | (go_at_call 47; refine (HRW.out _).mono ?_; rintro e w2 ⟨⟨v2, rfl, hv2⟩, hb2⟩; have hg2 := heap_below hb2 HX.out.1 (heap_lt HX.out.1); have HG2 := hid hg2; have HB2 := hid hb2; clear hv2 hb2 hg2)
    | (refine wpList_store_row rfl 56 (.tmp 2) (.tmp 13) rfl g #[.int .i64 3, .string ⟨#[]⟩, .int .i64 0, .int .i64 0, .string ⟨#[]⟩] rfl rfl 56 _ HG2.out (by kernel_rfl) rfl (line_one _ _ _ _ _) ?_))
  refine bodyPost_ret (results_lin Tryz.results49 rfl rfl (setRow_at HG2.out) rfl) rfl ⟨⟨⟨3, ⟨#[]⟩, 0, 0, ⟨#[]⟩⟩, true, rfl, .inl ⟨rfl, rfl⟩⟩, ?_⟩
  exact (HX.out.2.trans (HB2.out.mono (by have := heap_lt HX.out.1; omega))).trans (setRow_below (Nat.le_refl g))
set_option maxHeartbeats 4000000 in
theorem rread_1 (l : List UInt8) (hl : l.length ≤ 100000) (hcl : l ≠ wCl) (w : World) (a0 : List UInt8) (hws : wordsL 32 l = [a0]) :
    Calls Tryz.prog 49 #[.string ⟨l.toArray⟩] w fun e w' => LinR l e ∧ Below w.heap.size w w' := by
  have hwl := wordsL_mem 32 l
  have hRW := fun V => rwords_c l hl V
  have hln := line_w l
  rw [hws] at hwl hRW hln
  have hx := heap_alloc_new w (.cells #[.int .i64 0, .string ⟨#[]⟩, .int .i64 0, .int .i64 0, .string ⟨#[]⟩] 56)
  have hal : Below w.heap.size w (w.alloc (.cells #[.int .i64 0, .string ⟨#[]⟩, .int .i64 0, .int .i64 0, .string ⟨#[]⟩] 56)) := (Below.refl _ _).alloc (Nat.le_refl _) _
  obtain ⟨g, hg⟩ : ∃ g, w.heap.size = g := ⟨_, rfl⟩
  rw [hg] at hx hal
  have q0 : ((⟨l.toArray⟩ : ByteArray).toList == [99, 108, 111, 115, 101]) = false := by rw [ByteArray.toList_eq]; exact beq_eq_false_iff_ne.2 hcl
  obtain ⟨S, hS⟩ : ∃ S : ByteArray, ⟨l.toArray⟩ = S := ⟨_, rfl⟩
  rw [hS] at hRW q0
  rw [hS, hg]
  have HX := hid (And.intro hx hal)
  have HRW := hid hRW
  have HG := hid hg
  have HLN := hid hln
  obtain ⟨A0, hA0⟩ : ∃ A : ByteArray, ⟨(a0).toArray⟩ = A := ⟨_, rfl⟩
  have hA0l : A0.toList = a0 := by rw [← hA0, ByteArray.toList_eq]
  have hA0d : A0.data.toList = a0 := by rw [← hA0]
  have HA0 := hid hA0
  have hnone : lineOf l = none := by rw [HLN.out]; exact by rw [lineW, if_neg]; rintro rfl; exact hcl ((wcl_iff l).1 hws)
  have HNO := hid hnone
  clear hnone
  clear hRW hx hal hS hg hln hwl hws hcl hA0 hA0d
  clear hA0l
  go_enter Tryz.func49, Tryz.ntmps49
  go_upto_region 1 with fail
  try rw [HG.out]
  generalize w.alloc (.cells #[.int .i64 0, .string ⟨#[]⟩, .int .i64 0, .int .i64 0, .string ⟨#[]⟩] 56) = W1 at HX ⊢
  go_wp2_with (first
    | (go_at_call 47; refine (HRW.out _).mono ?_; rintro e w2 ⟨⟨v2, rfl, hv2⟩, hb2⟩; obtain ⟨gw, cw, cur, rfl, hgw, hcur, hcs⟩ := hv2.at' (by simp [bas]); rw [show (bas ([a0])).length = 1 from by simp [bas]]; have hg2 := heap_below hb2 HX.out.1 (heap_lt HX.out.1); have HG2 := hid hg2; have HB2 := hid hb2; have HGW := hid hgw; have HCU := hid hcur; have hc0 : w2.cell? ⟨gw, 0, none⟩ = some (.string A0) := (cell_of_row _ _ 0 _ _ (0, 0) hcur).trans (hcs 0 A0 (by simp [bas, HA0.out])); clear hv2 hb2 hgw hcur hcs hg2)
    | (refine wpList_store_row rfl 56 (.tmp 2) (.tmp 17) rfl g #[.int .i64 0, .string ⟨#[]⟩, .int .i64 0, .int .i64 0, .string ⟨#[]⟩] rfl rfl 56 _ HG2.out (by kernel_rfl) rfl (line_one _ _ _ _ _) ?_))
  refine bodyPost_ret (results_lin Tryz.results49 rfl rfl (setRow_at HG2.out) rfl) rfl ⟨⟨⟨0, ⟨#[]⟩, 0, 0, ⟨#[]⟩⟩, false, rfl, .inr ⟨rfl, HNO.out⟩⟩, ?_⟩
  exact (HX.out.2.trans (HB2.out.mono (by have := heap_lt HX.out.1; omega))).trans (setRow_below (Nat.le_refl g))
set_option maxHeartbeats 4000000 in
theorem rread_2 (l : List UInt8) (hl : l.length ≤ 100000) (hcl : l ≠ wCl) (w : World) (a0 x : List UInt8) (hws : wordsL 32 l = [a0, x]) :
    Calls Tryz.prog 49 #[.string ⟨l.toArray⟩] w fun e w' => LinR l e ∧ Below w.heap.size w w' := by
  have hwl := wordsL_mem 32 l
  have hRW := fun V => rwords_c l hl V
  have hln := line_w l
  rw [hws] at hwl hRW hln
  have hx := heap_alloc_new w (.cells #[.int .i64 0, .string ⟨#[]⟩, .int .i64 0, .int .i64 0, .string ⟨#[]⟩] 56)
  have hal : Below w.heap.size w (w.alloc (.cells #[.int .i64 0, .string ⟨#[]⟩, .int .i64 0, .int .i64 0, .string ⟨#[]⟩] 56)) := (Below.refl _ _).alloc (Nat.le_refl _) _
  obtain ⟨g, hg⟩ : ∃ g, w.heap.size = g := ⟨_, rfl⟩
  rw [hg] at hx hal
  have q0 : ((⟨l.toArray⟩ : ByteArray).toList == [99, 108, 111, 115, 101]) = false := by rw [ByteArray.toList_eq]; exact beq_eq_false_iff_ne.2 hcl
  obtain ⟨S, hS⟩ : ∃ S : ByteArray, ⟨l.toArray⟩ = S := ⟨_, rfl⟩
  rw [hS] at hRW q0
  rw [hS, hg]
  have HX := hid (And.intro hx hal)
  have HRW := hid hRW
  have HG := hid hg
  have HLN := hid hln
  obtain ⟨A0, hA0⟩ : ∃ A : ByteArray, ⟨(a0).toArray⟩ = A := ⟨_, rfl⟩
  have hA0l : A0.toList = a0 := by rw [← hA0, ByteArray.toList_eq]
  have hA0d : A0.data.toList = a0 := by rw [← hA0]
  have HA0 := hid hA0
  have hnone : lineOf l = none := by rw [HLN.out]; exact rfl
  have HNO := hid hnone
  clear hnone
  clear hRW hx hal hS hg hln hwl hws hcl hA0 hA0d
  clear hA0l
  go_enter Tryz.func49, Tryz.ntmps49
  go_upto_region 1 with fail
  try rw [HG.out]
  generalize w.alloc (.cells #[.int .i64 0, .string ⟨#[]⟩, .int .i64 0, .int .i64 0, .string ⟨#[]⟩] 56) = W1 at HX ⊢
  go_wp2_with (first
    | (go_at_call 47; refine (HRW.out _).mono ?_; rintro e w2 ⟨⟨v2, rfl, hv2⟩, hb2⟩; obtain ⟨gw, cw, cur, rfl, hgw, hcur, hcs⟩ := hv2.at' (by simp [bas]); rw [show (bas ([a0, x])).length = 2 from by simp [bas]]; have hg2 := heap_below hb2 HX.out.1 (heap_lt HX.out.1); have HG2 := hid hg2; have HB2 := hid hb2; have HGW := hid hgw; have HCU := hid hcur; have hc0 : w2.cell? ⟨gw, 0, none⟩ = some (.string A0) := (cell_of_row _ _ 0 _ _ (0, 0) hcur).trans (hcs 0 A0 (by simp [bas, HA0.out])); clear hv2 hb2 hgw hcur hcs hg2)
    | (refine wpList_store_row rfl 56 (.tmp 2) (.tmp 17) rfl g #[.int .i64 0, .string ⟨#[]⟩, .int .i64 0, .int .i64 0, .string ⟨#[]⟩] rfl rfl 56 _ HG2.out (by kernel_rfl) rfl (line_one _ _ _ _ _) ?_))
  refine bodyPost_ret (results_lin Tryz.results49 rfl rfl (setRow_at HG2.out) rfl) rfl ⟨⟨⟨0, ⟨#[]⟩, 0, 0, ⟨#[]⟩⟩, false, rfl, .inr ⟨rfl, HNO.out⟩⟩, ?_⟩
  exact (HX.out.2.trans (HB2.out.mono (by have := heap_lt HX.out.1; omega))).trans (setRow_below (Nat.le_refl g))
set_option maxHeartbeats 4000000 in
theorem rread_3 (l : List UInt8) (hl : l.length ≤ 100000) (hcl : l ≠ wCl) (w : World) (a0 x h : List UInt8) (hws : wordsL 32 l = [a0, x, h]) (h0 : a0 ≠ wSe) :
    Calls Tryz.prog 49 #[.string ⟨l.toArray⟩] w fun e w' => LinR l e ∧ Below w.heap.size w w' := by
  have hwl := wordsL_mem 32 l
  have hRW := fun V => rwords_c l hl V
  have hln := line_w l
  rw [hws] at hwl hRW hln
  have hx := heap_alloc_new w (.cells #[.int .i64 0, .string ⟨#[]⟩, .int .i64 0, .int .i64 0, .string ⟨#[]⟩] 56)
  have hal : Below w.heap.size w (w.alloc (.cells #[.int .i64 0, .string ⟨#[]⟩, .int .i64 0, .int .i64 0, .string ⟨#[]⟩] 56)) := (Below.refl _ _).alloc (Nat.le_refl _) _
  obtain ⟨g, hg⟩ : ∃ g, w.heap.size = g := ⟨_, rfl⟩
  rw [hg] at hx hal
  have q0 : ((⟨l.toArray⟩ : ByteArray).toList == [99, 108, 111, 115, 101]) = false := by rw [ByteArray.toList_eq]; exact beq_eq_false_iff_ne.2 hcl
  obtain ⟨S, hS⟩ : ∃ S : ByteArray, ⟨l.toArray⟩ = S := ⟨_, rfl⟩
  rw [hS] at hRW q0
  rw [hS, hg]
  have HX := hid (And.intro hx hal)
  have HRW := hid hRW
  have HG := hid hg
  have HLN := hid hln
  obtain ⟨A0, hA0⟩ : ∃ A : ByteArray, ⟨(a0).toArray⟩ = A := ⟨_, rfl⟩
  have hA0l : A0.toList = a0 := by rw [← hA0, ByteArray.toList_eq]
  have hA0d : A0.data.toList = a0 := by rw [← hA0]
  have HA0 := hid hA0
  obtain ⟨Xb, hXb⟩ : ∃ A : ByteArray, ⟨(x).toArray⟩ = A := ⟨_, rfl⟩
  have hXbl : Xb.toList = x := by rw [← hXb, ByteArray.toList_eq]
  have hXbd : Xb.data.toList = x := by rw [← hXb]
  have HXb := hid hXb
  have hnXb := fun V => rnumber_c x (by have := hwl x (by simp); omega) V
  obtain ⟨nx, hnx⟩ : ∃ v : Int, (if numB x = true then ((numN x : Nat) : Int) else 0) = v := ⟨_, rfl⟩
  obtain ⟨bx, hbx⟩ : ∃ b, numB x = b := ⟨_, rfl⟩
  rw [hnx, hbx, HXb.out] at hnXb
  have HNXb := hid hnXb
  have HVXb := hid (And.intro hnx hbx)
  clear hnXb
  have q1 : (A0.toList == [115, 101, 97, 108]) = false := by rw [hA0l]; exact beq_eq_false_iff_ne.2 h0
  have hnone : lineOf l = none := by rw [HLN.out]; exact by rw [lineW, if_neg fun e => h0 e.1]
  have HNO := hid hnone
  clear hnone
  clear hRW hx hal hS hg hln hwl hws hcl hA0 hA0d hXb hXbd
  clear hnx hbx
  clear hA0l
  clear hXbl
  go_enter Tryz.func49, Tryz.ntmps49
  go_upto_region 1 with fail
  try rw [HG.out]
  generalize w.alloc (.cells #[.int .i64 0, .string ⟨#[]⟩, .int .i64 0, .int .i64 0, .string ⟨#[]⟩] 56) = W1 at HX ⊢
  go_wp2_with (first
    | (go_at_call 47; refine (HRW.out _).mono ?_; rintro e w2 ⟨⟨v2, rfl, hv2⟩, hb2⟩; obtain ⟨gw, cw, cur, rfl, hgw, hcur, hcs⟩ := hv2.at' (by simp [bas]); rw [show (bas ([a0, x, h])).length = 3 from by simp [bas]]; have hg2 := heap_below hb2 HX.out.1 (heap_lt HX.out.1); have HG2 := hid hg2; have HB2 := hid hb2; have HGW := hid hgw; have HCU := hid hcur; have hc0 : w2.cell? ⟨gw, 0, none⟩ = some (.string A0) := (cell_of_row _ _ 0 _ _ (0, 0) hcur).trans (hcs 0 A0 (by simp [bas, HA0.out])); have hc1 : w2.cell? ⟨gw, 1, none⟩ = some (.string Xb) := (cell_of_row _ _ 1 _ _ (0, 0) hcur).trans (hcs 1 Xb (by simp [bas, HXb.out])); clear hv2 hb2 hgw hcur hcs hg2)
    | (go_at_call 48; refine (HNXb.out _).mono ?_; rintro e w3 ⟨rfl, rfl⟩)
    | (refine wpList_store_row rfl 56 (.tmp 2) (.tmp 56) rfl g #[.int .i64 0, .string ⟨#[]⟩, .int .i64 0, .int .i64 0, .string ⟨#[]⟩] rfl rfl 56 _ HG2.out (by kernel_rfl) rfl (line_one _ _ _ _ _) ?_))
  refine bodyPost_ret (results_lin Tryz.results49 rfl rfl (setRow_at HG2.out) rfl) rfl ⟨⟨⟨0, ⟨#[]⟩, 0, 0, ⟨#[]⟩⟩, false, rfl, .inr ⟨rfl, HNO.out⟩⟩, ?_⟩
  exact (HX.out.2.trans (HB2.out.mono (by have := heap_lt HX.out.1; omega))).trans (setRow_below (Nat.le_refl g))
set_option maxHeartbeats 4000000 in
theorem rread_4 (l : List UInt8) (hl : l.length ≤ 100000) (hcl : l ≠ wCl) (w : World) (a0 x y t : List UInt8) (hws : wordsL 32 l = [a0, x, y, t]) (h0 : a0 ≠ wOp) :
    Calls Tryz.prog 49 #[.string ⟨l.toArray⟩] w fun e w' => LinR l e ∧ Below w.heap.size w w' := by
  have hwl := wordsL_mem 32 l
  have hRW := fun V => rwords_c l hl V
  have hln := line_w l
  rw [hws] at hwl hRW hln
  have hx := heap_alloc_new w (.cells #[.int .i64 0, .string ⟨#[]⟩, .int .i64 0, .int .i64 0, .string ⟨#[]⟩] 56)
  have hal : Below w.heap.size w (w.alloc (.cells #[.int .i64 0, .string ⟨#[]⟩, .int .i64 0, .int .i64 0, .string ⟨#[]⟩] 56)) := (Below.refl _ _).alloc (Nat.le_refl _) _
  obtain ⟨g, hg⟩ : ∃ g, w.heap.size = g := ⟨_, rfl⟩
  rw [hg] at hx hal
  have q0 : ((⟨l.toArray⟩ : ByteArray).toList == [99, 108, 111, 115, 101]) = false := by rw [ByteArray.toList_eq]; exact beq_eq_false_iff_ne.2 hcl
  obtain ⟨S, hS⟩ : ∃ S : ByteArray, ⟨l.toArray⟩ = S := ⟨_, rfl⟩
  rw [hS] at hRW q0
  rw [hS, hg]
  have HX := hid (And.intro hx hal)
  have HRW := hid hRW
  have HG := hid hg
  have HLN := hid hln
  obtain ⟨A0, hA0⟩ : ∃ A : ByteArray, ⟨(a0).toArray⟩ = A := ⟨_, rfl⟩
  have hA0l : A0.toList = a0 := by rw [← hA0, ByteArray.toList_eq]
  have hA0d : A0.data.toList = a0 := by rw [← hA0]
  have HA0 := hid hA0
  obtain ⟨Xb, hXb⟩ : ∃ A : ByteArray, ⟨(x).toArray⟩ = A := ⟨_, rfl⟩
  have hXbl : Xb.toList = x := by rw [← hXb, ByteArray.toList_eq]
  have hXbd : Xb.data.toList = x := by rw [← hXb]
  have HXb := hid hXb
  have hnXb := fun V => rnumber_c x (by have := hwl x (by simp); omega) V
  obtain ⟨nx, hnx⟩ : ∃ v : Int, (if numB x = true then ((numN x : Nat) : Int) else 0) = v := ⟨_, rfl⟩
  obtain ⟨bx, hbx⟩ : ∃ b, numB x = b := ⟨_, rfl⟩
  rw [hnx, hbx, HXb.out] at hnXb
  have HNXb := hid hnXb
  have HVXb := hid (And.intro hnx hbx)
  clear hnXb
  have q1 : (A0.toList == [111, 112, 101, 110]) = false := by rw [hA0l]; exact beq_eq_false_iff_ne.2 h0
  have hnone : lineOf l = none := by rw [HLN.out]; exact by rw [lineW, if_neg fun e => h0 e.1]
  have HNO := hid hnone
  clear hnone
  clear hRW hx hal hS hg hln hwl hws hcl hA0 hA0d hXb hXbd
  clear hnx hbx
  clear hA0l
  clear hXbl
  go_enter Tryz.func49, Tryz.ntmps49
  go_upto_region 1 with fail
  try rw [HG.out]
  generalize w.alloc (.cells #[.int .i64 0, .string ⟨#[]⟩, .int .i64 0, .int .i64 0, .string ⟨#[]⟩] 56) = W1 at HX ⊢
  go_wp2_with (first
    | (go_at_call 47; refine (HRW.out _).mono ?_; rintro e w2 ⟨⟨v2, rfl, hv2⟩, hb2⟩; obtain ⟨gw, cw, cur, rfl, hgw, hcur, hcs⟩ := hv2.at' (by simp [bas]); rw [show (bas ([a0, x, y, t])).length = 4 from by simp [bas]]; have hg2 := heap_below hb2 HX.out.1 (heap_lt HX.out.1); have HG2 := hid hg2; have HB2 := hid hb2; have HGW := hid hgw; have HCU := hid hcur; have hc0 : w2.cell? ⟨gw, 0, none⟩ = some (.string A0) := (cell_of_row _ _ 0 _ _ (0, 0) hcur).trans (hcs 0 A0 (by simp [bas, HA0.out])); have hc1 : w2.cell? ⟨gw, 1, none⟩ = some (.string Xb) := (cell_of_row _ _ 1 _ _ (0, 0) hcur).trans (hcs 1 Xb (by simp [bas, HXb.out])); clear hv2 hb2 hgw hcur hcs hg2)
    | (go_at_call 48; refine (HNXb.out _).mono ?_; rintro e w3 ⟨rfl, rfl⟩)
    | (refine wpList_store_row rfl 56 (.tmp 2) (.tmp 56) rfl g #[.int .i64 0, .string ⟨#[]⟩, .int .i64 0, .int .i64 0, .string ⟨#[]⟩] rfl rfl 56 _ HG2.out (by kernel_rfl) rfl (line_one _ _ _ _ _) ?_))
  refine bodyPost_ret (results_lin Tryz.results49 rfl rfl (setRow_at HG2.out) rfl) rfl ⟨⟨⟨0, ⟨#[]⟩, 0, 0, ⟨#[]⟩⟩, false, rfl, .inr ⟨rfl, HNO.out⟩⟩, ?_⟩
  exact (HX.out.2.trans (HB2.out.mono (by have := heap_lt HX.out.1; omega))).trans (setRow_below (Nat.le_refl g))
set_option maxHeartbeats 4000000 in
theorem rread_5 (l : List UInt8) (hl : l.length ≤ 100000) (hcl : l ≠ wCl) (w : World) (a0 x y t u : List UInt8) (r : List (List UInt8)) (hws : wordsL 32 l = a0 :: x :: y :: t :: u :: r) :
    Calls Tryz.prog 49 #[.string ⟨l.toArray⟩] w fun e w' => LinR l e ∧ Below w.heap.size w w' := by
  have hwl := wordsL_mem 32 l
  have hRW := fun V => rwords_c l hl V
  have hln := line_w l
  rw [hws] at hwl hRW hln
  have hx := heap_alloc_new w (.cells #[.int .i64 0, .string ⟨#[]⟩, .int .i64 0, .int .i64 0, .string ⟨#[]⟩] 56)
  have hal : Below w.heap.size w (w.alloc (.cells #[.int .i64 0, .string ⟨#[]⟩, .int .i64 0, .int .i64 0, .string ⟨#[]⟩] 56)) := (Below.refl _ _).alloc (Nat.le_refl _) _
  obtain ⟨g, hg⟩ : ∃ g, w.heap.size = g := ⟨_, rfl⟩
  rw [hg] at hx hal
  have q0 : ((⟨l.toArray⟩ : ByteArray).toList == [99, 108, 111, 115, 101]) = false := by rw [ByteArray.toList_eq]; exact beq_eq_false_iff_ne.2 hcl
  obtain ⟨S, hS⟩ : ∃ S : ByteArray, ⟨l.toArray⟩ = S := ⟨_, rfl⟩
  rw [hS] at hRW q0
  rw [hS, hg]
  have HX := hid (And.intro hx hal)
  have HRW := hid hRW
  have HG := hid hg
  have HLN := hid hln
  obtain ⟨A0, hA0⟩ : ∃ A : ByteArray, ⟨(a0).toArray⟩ = A := ⟨_, rfl⟩
  have hA0l : A0.toList = a0 := by rw [← hA0, ByteArray.toList_eq]
  have hA0d : A0.data.toList = a0 := by rw [← hA0]
  have HA0 := hid hA0
  obtain ⟨Xb, hXb⟩ : ∃ A : ByteArray, ⟨(x).toArray⟩ = A := ⟨_, rfl⟩
  have hXbl : Xb.toList = x := by rw [← hXb, ByteArray.toList_eq]
  have hXbd : Xb.data.toList = x := by rw [← hXb]
  have HXb := hid hXb
  have hnXb := fun V => rnumber_c x (by have := hwl x (by simp); omega) V
  obtain ⟨nx, hnx⟩ : ∃ v : Int, (if numB x = true then ((numN x : Nat) : Int) else 0) = v := ⟨_, rfl⟩
  obtain ⟨bx, hbx⟩ : ∃ b, numB x = b := ⟨_, rfl⟩
  rw [hnx, hbx, HXb.out] at hnXb
  have HNXb := hid hnXb
  have HVXb := hid (And.intro hnx hbx)
  clear hnXb
  obtain ⟨k, hk⟩ : ∃ k, r.length + 1 + 1 + 1 + 1 + 1 = k := ⟨_, rfl⟩
  have HK := hid hk
  have d1 : decide (((k : Nat) : Int) < 3) = false := decide_eq_false (by omega)
  have d2 : (((k : Nat) : Int) == 3) = false := by simp; omega
  have d3 : (((k : Nat) : Int) == 4) = false := by simp; omega
  have d4 : 1 < k := by omega
  have d5 : (((k : Nat) : Int) != 4) = true := by simp; omega
  have d6 : ¬ k = 4 := by omega
  clear hk
  have hnone : lineOf l = none := by rw [HLN.out]; exact rfl
  have HNO := hid hnone
  clear hnone
  clear hRW hx hal hS hg hln hwl hws hcl hA0 hA0d hXb hXbd
  clear hnx hbx
  clear hA0l
  clear hXbl
  go_enter Tryz.func49, Tryz.ntmps49
  go_upto_region 1 with fail
  try rw [HG.out]
  generalize w.alloc (.cells #[.int .i64 0, .string ⟨#[]⟩, .int .i64 0, .int .i64 0, .string ⟨#[]⟩] 56) = W1 at HX ⊢
  go_wp2_with (first
    | (go_at_call 47; refine (HRW.out _).mono ?_; rintro e w2 ⟨⟨v2, rfl, hv2⟩, hb2⟩; obtain ⟨gw, cw, cur, rfl, hgw, hcur, hcs⟩ := hv2.at' (by simp [bas]); rw [show (bas (a0 :: x :: y :: t :: u :: r)).length = k from by simp [bas, HK.out]]; have hg2 := heap_below hb2 HX.out.1 (heap_lt HX.out.1); have HG2 := hid hg2; have HB2 := hid hb2; have HGW := hid hgw; have HCU := hid hcur; have hc0 : w2.cell? ⟨gw, 0, none⟩ = some (.string A0) := (cell_of_row _ _ 0 _ _ (0, 0) hcur).trans (hcs 0 A0 (by simp [bas, HA0.out])); have hc1 : w2.cell? ⟨gw, 1, none⟩ = some (.string Xb) := (cell_of_row _ _ 1 _ _ (0, 0) hcur).trans (hcs 1 Xb (by simp [bas, HXb.out])); clear hv2 hb2 hgw hcur hcs hg2)
    | (go_at_call 48; refine (HNXb.out _).mono ?_; rintro e w3 ⟨rfl, rfl⟩)
    | (refine wpList_store_row rfl 56 (.tmp 2) (.tmp 56) rfl g #[.int .i64 0, .string ⟨#[]⟩, .int .i64 0, .int .i64 0, .string ⟨#[]⟩] rfl rfl 56 _ HG2.out (by kernel_rfl) rfl (line_one _ _ _ _ _) ?_))
  refine bodyPost_ret (results_lin Tryz.results49 rfl rfl (setRow_at HG2.out) rfl) rfl ⟨⟨⟨0, ⟨#[]⟩, 0, 0, ⟨#[]⟩⟩, false, rfl, .inr ⟨rfl, HNO.out⟩⟩, ?_⟩
  exact (HX.out.2.trans (HB2.out.mono (by have := heap_lt HX.out.1; omega))).trans (setRow_below (Nat.le_refl g))
set_option maxHeartbeats 4000000 in
theorem rread_seal (l : List UInt8) (hl : l.length ≤ 100000) (hcl : l ≠ wCl) (w : World) (x h : List UInt8) (hws : wordsL 32 l = [wSe, x, h]) :
    Calls Tryz.prog 49 #[.string ⟨l.toArray⟩] w fun e w' => LinR l e ∧ Below w.heap.size w w' := by
  have hwl := wordsL_mem 32 l
  have hRW := fun V => rwords_c l hl V
  have hln := line_w l
  rw [hws] at hwl hRW hln
  have hx := heap_alloc_new w (.cells #[.int .i64 0, .string ⟨#[]⟩, .int .i64 0, .int .i64 0, .string ⟨#[]⟩] 56)
  have hal : Below w.heap.size w (w.alloc (.cells #[.int .i64 0, .string ⟨#[]⟩, .int .i64 0, .int .i64 0, .string ⟨#[]⟩] 56)) := (Below.refl _ _).alloc (Nat.le_refl _) _
  obtain ⟨g, hg⟩ : ∃ g, w.heap.size = g := ⟨_, rfl⟩
  rw [hg] at hx hal
  have q0 : ((⟨l.toArray⟩ : ByteArray).toList == [99, 108, 111, 115, 101]) = false := by rw [ByteArray.toList_eq]; exact beq_eq_false_iff_ne.2 hcl
  obtain ⟨S, hS⟩ : ∃ S : ByteArray, ⟨l.toArray⟩ = S := ⟨_, rfl⟩
  rw [hS] at hRW q0
  rw [hS, hg]
  have HX := hid (And.intro hx hal)
  have HRW := hid hRW
  have HG := hid hg
  have HLN := hid hln
  obtain ⟨A0, hA0⟩ : ∃ A : ByteArray, ⟨(wSe).toArray⟩ = A := ⟨_, rfl⟩
  have hA0l : A0.toList = wSe := by rw [← hA0, ByteArray.toList_eq]
  have hA0d : A0.data.toList = wSe := by rw [← hA0]
  have HA0 := hid hA0
  obtain ⟨Xb, hXb⟩ : ∃ A : ByteArray, ⟨(x).toArray⟩ = A := ⟨_, rfl⟩
  have hXbl : Xb.toList = x := by rw [← hXb, ByteArray.toList_eq]
  have hXbd : Xb.data.toList = x := by rw [← hXb]
  have HXb := hid hXb
  obtain ⟨Hb, hHb⟩ : ∃ A : ByteArray, ⟨(h).toArray⟩ = A := ⟨_, rfl⟩
  have hHbl : Hb.toList = h := by rw [← hHb, ByteArray.toList_eq]
  have hHbd : Hb.data.toList = h := by rw [← hHb]
  have HHb := hid hHb
  have hnXb := fun V => rnumber_c x (by have := hwl x (by simp); omega) V
  obtain ⟨nx, hnx⟩ : ∃ v : Int, (if numB x = true then ((numN x : Nat) : Int) else 0) = v := ⟨_, rfl⟩
  obtain ⟨bx, hbx⟩ : ∃ b, numB x = b := ⟨_, rfl⟩
  rw [hnx, hbx, HXb.out] at hnXb
  have HNXb := hid hnXb
  have HVXb := hid (And.intro hnx hbx)
  clear hnXb
  have q1 : A0.toList = [115, 101, 97, 108] := hA0l
  have hHs : Hb.size ≤ 1000000 := by rw [size_data, hHbd]; have := hwl h (by simp); omega
  have hhx := fun V => (rhex_c Hb hHs V).mono fun e w' h => (show e = .returned (.bool (isHashL Hb.data.toList)) ∧ V = w' from ⟨h.1, h.2.symm⟩)
  rw [hHbd] at hhx
  have HHX := hid hhx
  clear hhx
  clear hHs
  clear hRW hx hal hS hg hln hwl hws hcl hA0 hA0d hXb hXbd hHb hHbd hA0l hXbl hHbl hnx hbx
  cases bx with
  | false =>
    obtain ⟨hb, hhb⟩ : ∃ hb, isHashL h = hb := ⟨_, rfl⟩
    rw [hhb] at HHX
    have HHB := hid hhb
    clear hhb
    go_enter Tryz.func49, Tryz.ntmps49
    go_upto_region 1 with fail
    try rw [HG.out]
    generalize w.alloc (.cells #[.int .i64 0, .string ⟨#[]⟩, .int .i64 0, .int .i64 0, .string ⟨#[]⟩] 56) = W1 at HX ⊢
    go_upto_region 8 with (first
      | (go_at_call 47; refine (HRW.out _).mono ?_; rintro e w2 ⟨⟨v2, rfl, hv2⟩, hb2⟩; obtain ⟨gw, cw, cur, rfl, hgw, hcur, hcs⟩ := hv2.at' (by simp [bas]); rw [show (bas ([wSe, x, h])).length = 3 from by simp [bas]]; have hg2 := heap_below hb2 HX.out.1 (heap_lt HX.out.1); have HG2 := hid hg2; have HB2 := hid hb2; have HGW := hid hgw; have HCU := hid hcur; have hc0 : w2.cell? ⟨gw, 0, none⟩ = some (.string A0) := (cell_of_row _ _ 0 _ _ (0, 0) hcur).trans (hcs 0 A0 (by simp [bas, HA0.out])); have hc1 : w2.cell? ⟨gw, 1, none⟩ = some (.string Xb) := (cell_of_row _ _ 1 _ _ (0, 0) hcur).trans (hcs 1 Xb (by simp [bas, HXb.out])); have hc2 : w2.cell? ⟨gw, 2, none⟩ = some (.string Hb) := (cell_of_row _ _ 2 _ _ (0, 0) hcur).trans (hcs 2 Hb (by simp [bas, HHb.out])); clear hv2 hb2 hgw hcur hcs hg2)
      | (go_at_call 48; refine (HNXb.out _).mono ?_; rintro e w3 ⟨rfl, rfl⟩))
    refine regD (fun V => V.heap[gw]? = some (.cells cur 9 (0, 0)) ∧ V.cell? ⟨gw, 2, none⟩ = some (.string Hb)) (fun _ => true) (by kernel_rfl) ?_
    have hS : w2.drew.heap[gw]? = some (.cells cur 9 (0, 0)) ∧ w2.drew.cell? ⟨gw, 2, none⟩ = some (.string Hb) := ⟨HCU.out, hc2⟩
    have hg3 : w2.drew.heap[g]? = _ := HG2.out
    have hb3 := HB2.out.trans ((show Below w2.heap.size w2 w2.drew from below_drewN (Below.refl _ _) 1).mono HB2.out.size)
    have hgw := HGW.out
    have hW1g := heap_lt HX.out.1
    clear hc0 hc1 hc2
    generalize w2.drew = w3 at hS hg3 hb3 ⊢
    refine takeE (i := 0) (.slice (some ⟨gw, 0, none⟩) 3 cw) (d := some 34) rfl (by kernel_rfl) (by kernel_rfl) (by kernel_rfl) (by kernel_rfl) (fun _ _ _ h => h) rfl (fun W hSw => by exact exec_mv rfl rfl) (hS) rfl ?_
    simp only [Act.put, List.setIfInBounds_toArray, List.set_cons_zero, List.set_cons_succ]
    refine takeE (i := 1) (.pointer (some ⟨gw, 2, none⟩)) (d := some 35) rfl (by kernel_rfl) (by kernel_rfl) (by kernel_rfl) (by kernel_rfl) (fun _ _ _ h => h) rfl (fun W hSw => by exact exec_ixW (oo := 0) (i := 2) rfl rfl rfl (by omega)) (hS) rfl ?_
    simp only [Act.put, List.setIfInBounds_toArray, List.set_cons_zero, List.set_cons_succ]
    refine takeE (i := 2) (.string Hb) (d := some 36) rfl (by kernel_rfl) (by kernel_rfl) (by kernel_rfl) (by kernel_rfl) (fun _ _ _ h => h) rfl (fun W hSw => by exact exec_ldstrB rfl rfl hSw.2) (hS) rfl ?_
    simp only [Act.put, List.setIfInBounds_toArray, List.set_cons_zero, List.set_cons_succ]
    refine takeE (i := 3) (.int .i64 nx) (d := some 37) rfl (by kernel_rfl) (by kernel_rfl) (by kernel_rfl) (by kernel_rfl) (fun _ _ _ h => h) rfl (fun W hSw => by exact exec_mv rfl rfl) (hS) rfl ?_
    simp only [Act.put, List.setIfInBounds_toArray, List.set_cons_zero, List.set_cons_succ]
    refine takeE (i := 4) (.agg #[.int .i64 nx, .int .i64 0, .string ⟨#[]⟩]) (d := some 38) rfl (by kernel_rfl) (by kernel_rfl) (by kernel_rfl) (by kernel_rfl) (fun _ _ _ h => h) rfl (fun W hSw => by exact exec_buildB1 rfl rfl) (hS) rfl ?_
    simp only [Act.put, List.setIfInBounds_toArray, List.set_cons_zero, List.set_cons_succ]
    refine takeE (i := 5) (.agg #[.int .i64 1, .string Hb, .int .i64 nx, .int .i64 0, .string ⟨#[]⟩]) (d := some 39) rfl (by kernel_rfl) (by kernel_rfl) (by kernel_rfl) (by kernel_rfl) (fun _ _ _ h => h) rfl (fun W hSw => by exact exec_buildL1 rfl rfl rfl rfl) (hS) rfl ?_
    simp only [Act.put, List.setIfInBounds_toArray, List.set_cons_zero, List.set_cons_succ]
    refine takeE (i := 6) (.bool false) (d := some 40) rfl (by kernel_rfl) (by kernel_rfl) (by kernel_rfl) (by kernel_rfl) (fun _ _ _ h => h) rfl (fun W hSw => by exact exec_mv rfl rfl) (hS) rfl ?_
    simp only [Act.put, List.setIfInBounds_toArray, List.set_cons_zero, List.set_cons_succ]
    refine takeE (i := 7) (.bool false) (d := some 41) rfl (by kernel_rfl) (by kernel_rfl) (by kernel_rfl) (by kernel_rfl) (fun _ _ _ h => h) rfl (fun W hSw => by exact exec_mv rfl rfl) (hS) rfl ?_
    simp only [Act.put, List.setIfInBounds_toArray, List.set_cons_zero, List.set_cons_succ]
    refine takeN (i := 8) (d := some 42) rfl (by kernel_rfl) (by kernel_rfl) (by kernel_rfl) (by kernel_rfl) (fun _ _ _ h => h) (by kernel_rfl) (hS) rfl ?_
    simp only [Act.put, List.setIfInBounds_toArray, List.set_cons_zero, List.set_cons_succ]
    refine takeN (i := 9) (d := some 43) rfl (by kernel_rfl) (by kernel_rfl) (by kernel_rfl) (by kernel_rfl) (fun _ _ _ h => h) (by kernel_rfl) (hS) rfl ?_
    simp only [Act.put, List.setIfInBounds_toArray, List.set_cons_zero, List.set_cons_succ]
    refine takeN (i := 10) (d := some 44) rfl (by kernel_rfl) (by kernel_rfl) (by kernel_rfl) (by kernel_rfl) (fun _ _ _ h => h) (by kernel_rfl) (hS) rfl ?_
    simp only [Act.put, List.setIfInBounds_toArray, List.set_cons_zero, List.set_cons_succ]
    refine stepN 11 (by kernel_rfl) rfl (by kernel_rfl) (fun _ => hS) ?_
    simp only [Act.put, List.setIfInBounds_toArray, List.set_cons_zero, List.set_cons_succ]
    refine takeE (i := 12) (.bool false) (d := some 46) rfl (by kernel_rfl) (by kernel_rfl) (by kernel_rfl) (by kernel_rfl) (fun _ _ _ h => h) rfl (fun W hSw => by exact exec_pick rfl rfl rfl) (hS) rfl ?_
    simp only [Act.put, List.setIfInBounds_toArray, List.set_cons_zero, List.set_cons_succ]
    refine stepD 13 (by kernel_rfl) rfl rfl (fun K hK => ?_)
    refine wp_store_row 56 (.tmp 2) (.tmp 39) rfl g #[.int .i64 1, .string Hb, .int .i64 nx, .int .i64 0, .string ⟨#[]⟩] rfl rfl _ #[.int .i64 0, .string ⟨#[]⟩, .int .i64 0, .int .i64 0, .string ⟨#[]⟩] hg3 (by kernel_rfl) rfl (line_one _ _ _ _ _) ?_
    have hS4 : (w3.setRow g #[.int .i64 1, .string Hb, .int .i64 nx, .int .i64 0, .string ⟨#[]⟩]).heap[gw]? = some (.cells cur 9 (0, 0)) ∧ (w3.setRow g #[.int .i64 1, .string Hb, .int .i64 nx, .int .i64 0, .string ⟨#[]⟩]).cell? ⟨gw, 2, none⟩ = some (.string Hb) := by
      have h1 := (setRow_ne (W := w3) (cs := #[.int .i64 1, .string Hb, .int .i64 nx, .int .i64 0, .string ⟨#[]⟩]) (show gw ≠ g by omega)).trans hS.1
      exact ⟨h1, (cell_of_row _ _ 2 _ _ _ h1).trans ((cell_of_row _ _ 2 _ _ _ hS.1).symm.trans hS.2)⟩
    have hg4 := setRow_at (cs := #[.int .i64 1, .string Hb, .int .i64 nx, .int .i64 0, .string ⟨#[]⟩]) hg3
    have hb4 := (HX.out.2.trans (hb3.mono (by omega))).trans (setRow_below (W := w3) (cs := #[.int .i64 1, .string Hb, .int .i64 nx, .int .i64 0, .string ⟨#[]⟩]) (Nat.le_refl g))
    refine hK _ _ (fun _ => hS4) ?_
    clear hK K hg3 hb3 hS
    generalize w3.setRow g #[.int .i64 1, .string Hb, .int .i64 nx, .int .i64 0, .string ⟨#[]⟩] = w5 at hS4 hg4 hb4 ⊢
    refine stepD 14 (by kernel_rfl) rfl rfl (fun K hK => ?_)
    go_simp
    refine hK _ _ (fun _ => hS4) ?_
    clear hK K hS4
    refine doneD (by kernel_rfl) ?_ _
    refine OnlyNorm.normal ?_
    rename_i K hK
    change K _ _
    refine hK _ _ ?_
    clear hK K
    go_wp2_with fail
    refine bodyPost_ret (results_lin Tryz.results49 rfl rfl hg4 rfl) rfl ⟨⟨⟨1, Hb, nx, 0, ⟨#[]⟩⟩, false, rfl, .inr ⟨rfl, ?_⟩⟩, hb4⟩
    rw [HLN.out, lineW, if_neg]
    rintro ⟨_, h3, _⟩
    rw [HVXb.out.2] at h3
    cases h3
  | true =>
    obtain ⟨hb, hhb⟩ : ∃ hb, isHashL h = hb := ⟨_, rfl⟩
    rw [hhb] at HHX
    have HHB := hid hhb
    clear hhb
    go_enter Tryz.func49, Tryz.ntmps49
    go_upto_region 1 with fail
    try rw [HG.out]
    generalize w.alloc (.cells #[.int .i64 0, .string ⟨#[]⟩, .int .i64 0, .int .i64 0, .string ⟨#[]⟩] 56) = W1 at HX ⊢
    go_upto_region 8 with (first
      | (go_at_call 47; refine (HRW.out _).mono ?_; rintro e w2 ⟨⟨v2, rfl, hv2⟩, hb2⟩; obtain ⟨gw, cw, cur, rfl, hgw, hcur, hcs⟩ := hv2.at' (by simp [bas]); rw [show (bas ([wSe, x, h])).length = 3 from by simp [bas]]; have hg2 := heap_below hb2 HX.out.1 (heap_lt HX.out.1); have HG2 := hid hg2; have HB2 := hid hb2; have HGW := hid hgw; have HCU := hid hcur; have hc0 : w2.cell? ⟨gw, 0, none⟩ = some (.string A0) := (cell_of_row _ _ 0 _ _ (0, 0) hcur).trans (hcs 0 A0 (by simp [bas, HA0.out])); have hc1 : w2.cell? ⟨gw, 1, none⟩ = some (.string Xb) := (cell_of_row _ _ 1 _ _ (0, 0) hcur).trans (hcs 1 Xb (by simp [bas, HXb.out])); have hc2 : w2.cell? ⟨gw, 2, none⟩ = some (.string Hb) := (cell_of_row _ _ 2 _ _ (0, 0) hcur).trans (hcs 2 Hb (by simp [bas, HHb.out])); clear hv2 hb2 hgw hcur hcs hg2)
      | (go_at_call 48; refine (HNXb.out _).mono ?_; rintro e w3 ⟨rfl, rfl⟩))
    refine regD (fun V => V.heap[gw]? = some (.cells cur 9 (0, 0)) ∧ V.cell? ⟨gw, 2, none⟩ = some (.string Hb)) (fun _ => true) (by kernel_rfl) ?_
    have hS : w2.drew.heap[gw]? = some (.cells cur 9 (0, 0)) ∧ w2.drew.cell? ⟨gw, 2, none⟩ = some (.string Hb) := ⟨HCU.out, hc2⟩
    have hg3 : w2.drew.heap[g]? = _ := HG2.out
    have hb3 := HB2.out.trans ((show Below w2.heap.size w2 w2.drew from below_drewN (Below.refl _ _) 1).mono HB2.out.size)
    have hgw := HGW.out
    have hW1g := heap_lt HX.out.1
    clear hc0 hc1 hc2
    generalize w2.drew = w3 at hS hg3 hb3 ⊢
    refine takeE (i := 0) (.slice (some ⟨gw, 0, none⟩) 3 cw) (d := some 34) rfl (by kernel_rfl) (by kernel_rfl) (by kernel_rfl) (by kernel_rfl) (fun _ _ _ h => h) rfl (fun W hSw => by exact exec_mv rfl rfl) (hS) rfl ?_
    simp only [Act.put, List.setIfInBounds_toArray, List.set_cons_zero, List.set_cons_succ]
    refine takeE (i := 1) (.pointer (some ⟨gw, 2, none⟩)) (d := some 35) rfl (by kernel_rfl) (by kernel_rfl) (by kernel_rfl) (by kernel_rfl) (fun _ _ _ h => h) rfl (fun W hSw => by exact exec_ixW (oo := 0) (i := 2) rfl rfl rfl (by omega)) (hS) rfl ?_
    simp only [Act.put, List.setIfInBounds_toArray, List.set_cons_zero, List.set_cons_succ]
    refine takeE (i := 2) (.string Hb) (d := some 36) rfl (by kernel_rfl) (by kernel_rfl) (by kernel_rfl) (by kernel_rfl) (fun _ _ _ h => h) rfl (fun W hSw => by exact exec_ldstrB rfl rfl hSw.2) (hS) rfl ?_
    simp only [Act.put, List.setIfInBounds_toArray, List.set_cons_zero, List.set_cons_succ]
    refine takeE (i := 3) (.int .i64 nx) (d := some 37) rfl (by kernel_rfl) (by kernel_rfl) (by kernel_rfl) (by kernel_rfl) (fun _ _ _ h => h) rfl (fun W hSw => by exact exec_mv rfl rfl) (hS) rfl ?_
    simp only [Act.put, List.setIfInBounds_toArray, List.set_cons_zero, List.set_cons_succ]
    refine takeE (i := 4) (.agg #[.int .i64 nx, .int .i64 0, .string ⟨#[]⟩]) (d := some 38) rfl (by kernel_rfl) (by kernel_rfl) (by kernel_rfl) (by kernel_rfl) (fun _ _ _ h => h) rfl (fun W hSw => by exact exec_buildB1 rfl rfl) (hS) rfl ?_
    simp only [Act.put, List.setIfInBounds_toArray, List.set_cons_zero, List.set_cons_succ]
    refine takeE (i := 5) (.agg #[.int .i64 1, .string Hb, .int .i64 nx, .int .i64 0, .string ⟨#[]⟩]) (d := some 39) rfl (by kernel_rfl) (by kernel_rfl) (by kernel_rfl) (by kernel_rfl) (fun _ _ _ h => h) rfl (fun W hSw => by exact exec_buildL1 rfl rfl rfl rfl) (hS) rfl ?_
    simp only [Act.put, List.setIfInBounds_toArray, List.set_cons_zero, List.set_cons_succ]
    refine takeE (i := 6) (.bool true) (d := some 40) rfl (by kernel_rfl) (by kernel_rfl) (by kernel_rfl) (by kernel_rfl) (fun _ _ _ h => h) rfl (fun W hSw => by exact exec_mv rfl rfl) (hS) rfl ?_
    simp only [Act.put, List.setIfInBounds_toArray, List.set_cons_zero, List.set_cons_succ]
    refine takeE (i := 7) (.bool true) (d := some 41) rfl (by kernel_rfl) (by kernel_rfl) (by kernel_rfl) (by kernel_rfl) (fun _ _ _ h => h) rfl (fun W hSw => by exact exec_mv rfl rfl) (hS) rfl ?_
    simp only [Act.put, List.setIfInBounds_toArray, List.set_cons_zero, List.set_cons_succ]
    refine takeY (i := 8) (.slice (some ⟨gw, 0, none⟩) 3 cw) (d := some 42) rfl (by kernel_rfl) (by kernel_rfl) (by kernel_rfl) (by kernel_rfl) (fun _ _ _ h => h) (by kernel_rfl) (fun W hSw => by exact exec_mv rfl rfl) (hS) rfl ?_
    simp only [Act.put, List.setIfInBounds_toArray, List.set_cons_zero, List.set_cons_succ]
    refine takeY (i := 9) (.pointer (some ⟨gw, 2, none⟩)) (d := some 43) rfl (by kernel_rfl) (by kernel_rfl) (by kernel_rfl) (by kernel_rfl) (fun _ _ _ h => h) (by kernel_rfl) (fun W hSw => by exact exec_ixW (oo := 0) (i := 2) rfl rfl rfl (by omega)) (hS) rfl ?_
    simp only [Act.put, List.setIfInBounds_toArray, List.set_cons_zero, List.set_cons_succ]
    refine takeY (i := 10) (.string Hb) (d := some 44) rfl (by kernel_rfl) (by kernel_rfl) (by kernel_rfl) (by kernel_rfl) (fun _ _ _ h => h) (by kernel_rfl) (fun W hSw => by exact exec_ldstrB rfl rfl hSw.2) (hS) rfl ?_
    simp only [Act.put, List.setIfInBounds_toArray, List.set_cons_zero, List.set_cons_succ]
    refine stepY 11 (by kernel_rfl) rfl (by kernel_rfl) (fun K hK => ?_)
    refine wpO_call 42 #[.string Hb] (exec_call1 rfl rfl rfl (by go_simp)) ((HHX.out w3).mono ?_)
    rintro e w4 ⟨he, hw4⟩
    subst hw4
    refine ⟨_, he, ?_⟩
    refine hK _ _ (fun _ => hS) ?_
    clear hK K he
    simp only [Act.put, List.setIfInBounds_toArray, List.set_cons_zero, List.set_cons_succ]
    refine takeE (i := 12) (.bool hb) (d := some 46) rfl (by kernel_rfl) (by kernel_rfl) (by kernel_rfl) (by kernel_rfl) (fun _ _ _ h => h) rfl (fun W hSw => by exact exec_pick rfl rfl rfl) (hS) rfl ?_
    simp only [Act.put, List.setIfInBounds_toArray, List.set_cons_zero, List.set_cons_succ]
    refine stepD 13 (by kernel_rfl) rfl rfl (fun K hK => ?_)
    refine wp_store_row 56 (.tmp 2) (.tmp 39) rfl g #[.int .i64 1, .string Hb, .int .i64 nx, .int .i64 0, .string ⟨#[]⟩] rfl rfl _ #[.int .i64 0, .string ⟨#[]⟩, .int .i64 0, .int .i64 0, .string ⟨#[]⟩] hg3 (by kernel_rfl) rfl (line_one _ _ _ _ _) ?_
    have hS4 : (w3.setRow g #[.int .i64 1, .string Hb, .int .i64 nx, .int .i64 0, .string ⟨#[]⟩]).heap[gw]? = some (.cells cur 9 (0, 0)) ∧ (w3.setRow g #[.int .i64 1, .string Hb, .int .i64 nx, .int .i64 0, .string ⟨#[]⟩]).cell? ⟨gw, 2, none⟩ = some (.string Hb) := by
      have h1 := (setRow_ne (W := w3) (cs := #[.int .i64 1, .string Hb, .int .i64 nx, .int .i64 0, .string ⟨#[]⟩]) (show gw ≠ g by omega)).trans hS.1
      exact ⟨h1, (cell_of_row _ _ 2 _ _ _ h1).trans ((cell_of_row _ _ 2 _ _ _ hS.1).symm.trans hS.2)⟩
    have hg4 := setRow_at (cs := #[.int .i64 1, .string Hb, .int .i64 nx, .int .i64 0, .string ⟨#[]⟩]) hg3
    have hb4 := (HX.out.2.trans (hb3.mono (by omega))).trans (setRow_below (W := w3) (cs := #[.int .i64 1, .string Hb, .int .i64 nx, .int .i64 0, .string ⟨#[]⟩]) (Nat.le_refl g))
    refine hK _ _ (fun _ => hS4) ?_
    clear hK K hg3 hb3 hS
    generalize w3.setRow g #[.int .i64 1, .string Hb, .int .i64 nx, .int .i64 0, .string ⟨#[]⟩] = w5 at hS4 hg4 hb4 ⊢
    refine stepD 14 (by kernel_rfl) rfl rfl (fun K hK => ?_)
    go_simp
    refine hK _ _ (fun _ => hS4) ?_
    clear hK K hS4
    refine doneD (by kernel_rfl) ?_ _
    refine OnlyNorm.normal ?_
    rename_i K hK
    change K _ _
    refine hK _ _ ?_
    clear hK K
    go_wp2_with fail
    refine bodyPost_ret (results_lin Tryz.results49 rfl rfl hg4 rfl) rfl ⟨⟨⟨1, Hb, nx, 0, ⟨#[]⟩⟩, hb, rfl, ?_⟩, hb4⟩
    cases hb with
    | false => exact .inr ⟨rfl, by rw [HLN.out, lineW, if_neg]; rintro ⟨_, _, h3⟩; rw [HHB.out] at h3; cases h3⟩
    | true => exact .inl ⟨rfl, by rw [HLN.out, lineW, if_pos ⟨rfl, HVXb.out.2, HHB.out⟩, HHb.out, ← HVXb.out.1, if_pos HVXb.out.2]⟩
end Go.Proofs.YtbcileppebpamaaGreatDoor
