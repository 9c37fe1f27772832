/- Walks of package hand: Audit. -/
import Derived.Test.YtmjnelkeiogdcaaJB
namespace Go.Proofs.Ytmjnelkeiogdcaa
open Go Go.RowKit Go.Shelf
set_option maxRecDepth 100000

/-- A record lies below block N. -/
structure RecAt (W : World) (N : Nat) (v : Value) (Rs : List (List Int × Int)) : Prop where
  le : N ≤ W.heap.size
  at' : ∃ p c, v = .slice p Rs.length c ∧ ∀ i (h : i < Rs.length), ∃ b o q m, p = some ⟨b, o, none⟩ ∧ b < N ∧ W.cell? ⟨b, o + i * 2, none⟩ = some (.slice q Rs[i].1.length m) ∧ W.cell? ⟨b, o + i * 2 + 1, none⟩ = some (.int .i64 Rs[i].2) ∧ CrsAt W N (.slice q Rs[i].1.length m) Rs[i].1
theorem RecAt.below {W W' : World} {N : Nat} {v : Value} {Rs : List (List Int × Int)} (h : RecAt W N v Rs) (hb : Below N W W') : RecAt W' N v Rs := by
  obtain ⟨p, c, hv, hf⟩ := h.at'
  refine ⟨Nat.le_trans h.le hb.size, p, c, hv, fun i hi => ?_⟩
  obtain ⟨b, o, q, m, e, hbN, h1, h2, h3⟩ := hf i hi
  exact ⟨b, o, q, m, e, hbN, (hb.cell (p := ⟨b, o + i * 2, none⟩) hbN).trans h1, (hb.cell (p := ⟨b, o + i * 2 + 1, none⟩) hbN).trans h2, h3.below hb⟩
/-- The first cast that can not be. -/
def audN (H : HV) : List (List Int × Int) → Nat → Int × Int × Int
  | [], _ => (-1, 0, 0)
  | x :: L, i => match fulN H (beginS H) x.1 with
    | .bad j e => (((i : Nat) : Int), ((j : Nat) : Int), ((e : Nat) : Int))
    | .ok t => if outN H t = x.2 then audN H L (i + 1) else (((i : Nat) : Int), outN H t, 9)
def audV (z : Int × Int × Int) : Array Value := #[.int .i64 z.1, .int .i64 z.2.1, .int .i64 z.2.2]
set_option maxHeartbeats 2000000 in
theorem Audit_yes (N Nc : Nat) (H : HV) (hV : Val H) (fv cv : Value) (v : Value) (Rs : List (List Int × Int)) (hn : Rs.length ≤ 200) (hc1 : ∀ x ∈ Rs, x.1.length ≤ 1000000 ∧ ∀ c ∈ x.1, c ≤ 9223372036854775807) (w : World) (hR : RawAt w N (rawOf H) fv cv) (hC : RecAt w Nc v Rs) :
    Calls Try.prog 30 #[.agg (handA H fv cv), v] w fun e w' => e = .returned (.tuple (audV (audN H Rs 0))) ∧ Below w.heap.size w w' := by
  have hx := heap_alloc_new w (.cells (handA H fv cv) 26)
  have hb : Below w.heap.size w (w.alloc (.cells (handA H fv cv) 26)) := (Below.refl _ _).alloc (Nat.le_refl _) _
  have HX := hid hx
  have HB := hid hb
  have hR1 := hR.below (hb.mono hR.le)
  have HCK := hid (check_yes H hV fv cv N _ hR1)
  have HR := hid hR
  have HC := hid hC
  have HRU := hid (fun v Cs hn hi W hW hCW => Run_yes N Nc H hV fv cv v Cs hn hi W hW hCW)
  have HBD := hid (fun Cs i e (ht : fulN H (beginS H) Cs = .bad i e) => (ful_bad H Cs _ i e ht).1)
  obtain ⟨n, hnn⟩ : ∃ n, Rs.length = n := ⟨_, rfl⟩
  obtain ⟨p, cp, rfl, -⟩ := hC.at'
  have HNN := hid hnn
  have HC1 := hid hc1
  rw [hnn] at hn ⊢
  have hn' : decide ((200 : Int) < ((n : Nat) : Int)) = false := decide_eq_false (by omega)
  have hn'' : ¬ (200 : Int) < ((n : Nat) : Int) := by omega
  clear hx hb hR hR1 hC hc1 hnn
  go_enter Try.func30, Try.ntmps30
  go_wp2_with (first
    | (refine wpList_value rfl (by intro c hc; cases hc) (.agg (handA H fv cv)) (exec_ldhand rfl rfl HX.out) ?_)
    | (go_at_call 26; refine HCK.out.mono ?_; rintro e w2 ⟨rfl, hb2⟩; have HX := hid (heap_below hb2 HX.out (heap_lt HX.out)); have HB := hid (HB.out.trans (hb2.mono HB.out.size))))
  clear hb2 HCK
  go_loopw [23] (fun ix wr => ∃ i : Nat, i ≤ n ∧ ix = .int .i64 i ∧ audN H Rs 0 = audN H (Rs.drop i) i ∧ Below w.heap.size w wr ∧ wr.heap[w.heap.size]? = some (.cells (handA H fv cv) 26 (0, 0))) (fun ix _ => n - (intOf ix).toNat)
  case atStart => exact ⟨0, by omega, rfl, rfl, HB.out, HX.out⟩
  case round =>
    clear HX HB
    obtain ⟨i, hi, rfl, haud, hB, hx⟩ := hrel
    by_cases hlt : i < n
    · have hlt' : ((i : Nat) : Int) < n := by omega
      have hi0 : (0 : Int) ≤ i := by omega
      have hil : i < Rs.length := by rw [HNN.out]; exact hlt
      have hdrop : Rs.drop i = Rs[i] :: Rs.drop (i + 1) := List.drop_eq_getElem_cons hil
      rw [hdrop] at haud
      have hCr := HC.out.below (hB.mono HC.out.le)
      obtain ⟨p', c', hv', hcs⟩ := hCr.at'
      injection hv' with ep _ ec
      subst ep
      subst ec
      obtain ⟨b, o, q, m, rfl, hbN, h0, h1, h2⟩ := hcs i hil
      have hcc := HC1.out _ (List.getElem_mem hil)
      generalize Rs[i] = x at *
      obtain ⟨Cs, oc⟩ := x
      simp only at h0 h1 h2 hcc haud
      have hba : Below wr.heap.size wr (wr.alloc (.cells #[.slice q Cs.length m, .int .i64 oc] 57)) := (Below.refl _ _).alloc (Nat.le_refl _) _
      have hnew := heap_alloc_new wr (.cells #[.slice q Cs.length m, .int .i64 oc] 57)
      have hHR := HR.out.below (hB.mono HR.out.le)
      have HRX := hid (HRU.out _ Cs hcc.1 hcc.2 _ (hHR.below (hba.mono hHR.le)) (h2.below (hba.mono h2.le)))
      have HX := hid (heap_below hba hx (heap_lt hx))
      have HNEW := hid hnew
      have HBA := hid (hB.trans (hba.mono hB.size))
      have HAU := hid haud
      have HBE := hid (HBD.out Cs)
      clear hcs hdrop h2 hcc hx hB hHR hCr haud hba hnew
      cases hf : fulN H (beginS H) Cs with
      | bad j e =>
        have he := HBE.out j e hf
        have he0 : (((e : Nat) : Int) != 0) = true := by simp; omega
        have HAU2 := hid (show audN H Rs 0 = (((i : Nat) : Int), ((j : Nat) : Int), ((e : Nat) : Int)) from by rw [HAU.out, audN]; simp only [hf])
        rw [hf] at HRX
        simp only [runV] at HRX
        clear he HAU hf
        go_wp2_with (first
          | (refine wpList_value rfl (by intro c hc; cases hc) (.agg (handA H fv cv)) (exec_ldhand rfl rfl HX.out) ?_)
          | (go_at_call 29; refine HRX.out.mono ?_; rintro e w5 ⟨rfl, hb5⟩))
        go_ret3
        exact ⟨by rw [HAU2.out]; rfl, HBA.out.trans (hb5.mono HBA.out.size)⟩
      | ok t =>
        rw [hf] at HRX
        simp only [runV] at HRX
        by_cases ho : outN H t = oc
        · have HAU2 := hid (show audN H Rs 0 = audN H (Rs.drop (i + 1)) (i + 1) from by rw [HAU.out, audN]; simp only [hf]; rw [if_pos ho])
          have ho' : (outN H t != oc) = false := by simp [ho]
          clear HAU hf ho
          generalize outN H t = z at *
          go_wp2_with (first
            | (refine wpList_value rfl (by intro c hc; cases hc) (.agg (handA H fv cv)) (exec_ldhand rfl rfl HX.out) ?_)
            | (go_at_call 29; refine HRX.out.mono ?_; rintro e w5 ⟨rfl, hb5⟩; have hn5 := heap_below hb5 HNEW.out (heap_lt HNEW.out); have d0 := cell_of_row _ _ 0 _ _ (0, 0) hn5; have d1 := cell_of_row _ _ 1 _ _ (0, 0) hn5))
          go_roundw
          case rel => exact ⟨i + 1, by omega, by go_num, HAU2.out, HBA.out.trans (hb5.mono HBA.out.size), heap_below hb5 HX.out (heap_lt HX.out)⟩
          case measure => simp [intOf]; omega
        · have HAU2 := hid (show audN H Rs 0 = (((i : Nat) : Int), outN H t, 9) from by rw [HAU.out, audN]; simp only [hf]; rw [if_neg ho])
          have ho' : (outN H t != oc) = true := by simp [ho]
          clear HAU hf ho
          generalize outN H t = z at *
          go_wp2_with (first
            | (refine wpList_value rfl (by intro c hc; cases hc) (.agg (handA H fv cv)) (exec_ldhand rfl rfl HX.out) ?_)
            | (go_at_call 29; refine HRX.out.mono ?_; rintro e w5 ⟨rfl, hb5⟩; have hn5 := heap_below hb5 HNEW.out (heap_lt HNEW.out); have d0 := cell_of_row _ _ 0 _ _ (0, 0) hn5; have d1 := cell_of_row _ _ 1 _ _ (0, 0) hn5))
          go_ret3
          exact ⟨by rw [HAU2.out]; rfl, HBA.out.trans (hb5.mono HBA.out.size)⟩
    · have hge : ¬ ((i : Nat) : Int) < n := by omega
      have hd : Rs.drop i = [] := List.drop_eq_nil_of_le (by rw [HNN.out]; omega)
      rw [hd] at haud
      have HAU := hid haud
      have HBA := hid hB
      clear hd haud hB hx
      go_wp2_with fail
      go_ret3
      exact ⟨by rw [HAU.out]; rfl, HBA.out⟩
theorem Audit_long (N : Nat) (H : HV) (hV : Val H) (fv cv : Value) (p : Option Addr) (n m : Nat) (hn : 200 < n) (w : World) (hR : RawAt w N (rawOf H) fv cv) :
    Calls Try.prog 30 #[.agg (handA H fv cv), .slice p n m] w fun e w' => e = .returned (.tuple #[.int .i64 0, .int .i64 0, .int .i64 5]) ∧ Below w.heap.size w w' := by
  have hx := heap_alloc_new w (.cells (handA H fv cv) 26)
  have hb : Below w.heap.size w (w.alloc (.cells (handA H fv cv) 26)) := (Below.refl _ _).alloc (Nat.le_refl _) _
  have HX := hid hx
  have HB := hid hb
  have HCK := hid (check_yes H hV fv cv N _ (hR.below (hb.mono hR.le)))
  have hn' : decide ((200 : Int) < ((n : Nat) : Int)) = true := decide_eq_true (by omega)
  have hn'' : (200 : Int) < ((n : Nat) : Int) := by omega
  clear hx hb hR hn
  go_enter Try.func30, Try.ntmps30
  go_wp2_with (first
    | (refine wpList_value rfl (by intro c hc; cases hc) (.agg (handA H fv cv)) (exec_ldhand rfl rfl HX.out) ?_)
    | (go_at_call 26; refine HCK.out.mono ?_; rintro e w2 ⟨rfl, hb2⟩))
  go_ret3
  exact ⟨rfl, HB.out.trans (hb2.mono HB.out.size)⟩
theorem Audit_no (R : RH) (h0 : okR R = false) (fv cv : Value) (N : Nat) (p : Option Addr) (n m : Nat) (w : World) (hR : RawAt w N R fv cv) (hf : R.faces.length ≤ 1000) (hc : R.cards.length ≤ 1000) :
    Calls Try.prog 30 #[.agg (handR R fv cv), .slice p n m] w fun e w' => e = .returned (.tuple #[.int .i64 0, .int .i64 0, .int .i64 2]) ∧ Below w.heap.size w w' := by
  have hx := heap_alloc_new w (.cells (handR R fv cv) 26)
  have hb : Below w.heap.size w (w.alloc (.cells (handR R fv cv) 26)) := (Below.refl _ _).alloc (Nat.le_refl _) _
  have HX := hid hx
  have HB := hid hb
  have HC := hid (check_no R h0 fv cv N _ (hR.below (hb.mono hR.le)) hf hc)
  clear hx hb hR hf hc h0
  go_enter Try.func30, Try.ntmps30
  go_wp2_with (first
    | (refine wpList_value rfl (by intro c hc; cases hc) (.agg (handR R fv cv)) (exec_ldR rfl rfl HX.out) ?_)
    | (go_at_call 26; refine HC.out.mono ?_; rintro e w2 ⟨rfl, hb2⟩))
  go_ret3
  exact ⟨rfl, HB.out.trans (hb2.mono HB.out.size)⟩
end Go.Proofs.Ytmjnelkeiogdcaa
