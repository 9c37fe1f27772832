/- The law HousePartners. -/
import Derived.Test.YtcdbkgpgjjeoiaaDoorHY
import Derived.Test.YtcdbkgpgjjeoiaaDoorHX
import Derived.Test.YtcdbkgpgjjeoiaaDoorHLE
namespace Go.Proofs.YtcdbkgpgjjeoiaaDoor
open Go Go.RowKit
set_option maxRecDepth 100000
set_option linter.unusedSimpArgs false
set_option linter.unusedVariables false

theorem ldsk {ops : Array Oper} {rest : List Oper} {o : Oper} {a : Act} {w : World} {Q : Exit → Act → World → Prop} (x : Operand) (hgd : o.guard = none) (ho : o.op = .load 42 x)
    (g : Nat) (hx : a.eval x = .pointer (some ⟨g, 0, none⟩)) (S : Nat → Nat) (A B : Nat) (t : TypeId) (hg : w.heap[g]? = some (.cells (u8row S A B) t (0, 0)))
    (hK : wpList Tryd.prog ops Q rest (a.put o.dst (.agg (u8row S A B))) w) : wpList Tryd.prog ops Q (o :: rest) a w :=
  wpList_load_row hgd 42 x ho g hx t _ (0, 0) _ hg Tryd.underlying42 rfl (by rw [u8row_size]; kernel_rfl) hK
def inL (L : List Int) (z : Int) (j : Nat) : Bool := (L.take j).any fun t => t == z
theorem inL_step (L : List Int) (z : Int) (j : Nat) (hj : j < L.length) : inL L z (j + 1) = (inL L z j || L[j] == z) := by
  unfold inL
  rw [List.take_add_one, List.any_append, List.getElem?_eq_getElem hj]
  simp
theorem inL_all (L : List Int) (z : Int) (n : Nat) (hn : L.length = n) : inL L z n = decide (z ∈ L) := by
  unfold inL
  rw [← hn, List.take_length, Bool.eq_iff_iff, List.any_eq_true, decide_eq_true_iff]
  constructor
  · rintro ⟨t, ht, h⟩
    rw [beq_iff_eq] at h
    rwa [← h]
  · intro h
    exact ⟨z, h, by simp⟩
theorem reads_some' {W : World} {v : Value} {xs : List Int} (h : Reads W v xs) (h1 : 1 ≤ xs.length) : ∃ G o c, v = .slice (some ⟨G, o, none⟩) xs.length c ∧ G < W.heap.size ∧ ∀ k (h : k < xs.length), W.cell? ⟨G, o + k, none⟩ = some (.int .i64 xs[k]) := by
  rcases h with ⟨h0, _⟩ | h
  · rw [h0] at h1; simp at h1
  · exact h
set_option maxHeartbeats 8000000 in
theorem lawPartners (S : Nat → Nat) (A B : Nat) (hS : ∀ i, i < 12 → S i < 256) (hA : A < 256) (hB0 : B < 256) (w : World) (LH : LaidH w) :
    Calls Tryd.prog 8 #[.agg (u8row S A B)] w fun e w' => e = .returned (.bool true) ∧ Below w.heap.size w w' := by
  have HK := LH.known
  have HHo := hid (fun W => houses_c S A B hS hA hB0 W)
  have hh := skyH_lt S
  obtain ⟨ha12, hb12, hab⟩ := sky_ab A B
  generalize skyH S = h at *
  generalize skyA A = a at *
  generalize skyB A B = b at *
  obtain ⟨ai, hai⟩ : ∃ ai : Int, ((a : Nat) : Int) + 1 = ai := ⟨_, rfl⟩
  obtain ⟨bi, hbi⟩ : ∃ bi : Int, ((b : Nat) : Int) + 1 = bi := ⟨_, rfl⟩
  rw [hai, hbi] at HHo
  have ea : ai - 1 = ((a : Nat) : Int) := by omega
  have hwa := wrap_nat a (by omega)
  have ha0 : (0 : Int) ≤ a := by omega
  have ha1 : ((a : Nat) : Int) < 12 := by omega
  have hp12 := (parN_bd a ha12).1
  have hpp := (parN_bd a ha12).2.1
  have hpn := (parN_bd a ha12).2.2.1
  have HPa1 := hid (fun W (hW : Below w.heap.size w W) => partner_c h hh a ha12 ai hai.symm W (LH.R.below hW))
  have HPa2 := hid (fun W (hW : Below w.heap.size w W) => partner_c h hh (parN a) hp12 ((parN a + 1 : Nat) : Int) (by push_cast; rfl) W (LH.R.below hW))
  rw [hpp, comp_comm] at HPa2
  have HJ := hid (fun W (hW : Below w.heap.size w W) => Judge_h_ok h hh a b ha12 hb12 hab ai bi hai.symm hbi.symm W (LH.B.below hW))
  have HLe := hid (fun W (hW : Below w.heap.size w W) => Least_h_ok h hh a b ha12 hb12 hab ai bi hai.symm hbi.symm W (LH.B.below hW))
  have hlr := least_range h a b 48
  obtain ⟨lo, hlo⟩ : ∃ z, lowN h a b 48 = z := ⟨_, rfl⟩
  obtain ⟨hi', hhi⟩ : ∃ z, highN h a b 48 = z := ⟨_, rfl⟩
  obtain ⟨jj, hjj⟩ : ∃ z, judgeN h a b = z := ⟨_, rfl⟩
  obtain ⟨cc, hcc⟩ : ∃ z, compN (h a) (h (parN a)) = z := ⟨_, rfl⟩
  rw [hlo, hhi] at HLe hlr
  rw [hjj] at HJ hlr
  rw [hcc] at HPa1 HPa2
  obtain ⟨f, hf⟩ : ∃ f, h a = f := ⟨_, rfl⟩
  have hf16 : f < 16 := by rw [← hf]; exact hh a ha12
  have HRu := hid (fun W (hW : Below w.heap.size w W) => ruler_c f hf16 W (LH.R.below hW))
  have HRd := hid (fun (q : Nat) (hq : q ≤ 8) W (hW : Below w.heap.size w W) => ruled_c ((q : Nat) : Int) (by omega) (by omega) W (LH.R.below hW))
  have HMem := hid (fun (q : Nat) => mem_ruled ((q : Nat) : Int) f 16)
  have HSome := hid ruled_some
  have HLen := hid (fun p => ruledL_len p 16)
  obtain ⟨p, hp⟩ : ∃ p, rulN f = p := ⟨_, rfl⟩
  rw [hp] at HRu HMem
  obtain ⟨ni, hni⟩ : ∃ ni : Nat, parN a + 1 = ni := ⟨_, rfl⟩
  rw [hni] at HPa1 HPa2
  have en1 : (((a + 1 : Nat) : Int) != ai) = false := by rw [← hai]; simp
  have en2 : (((ni : Nat) : Int) == ai) = false := by rw [← hai, ← hni]; simp; omega
  have en3 : (((cc : Nat) : Int) != ((cc : Nat) : Int)) = false := by simp
  have eai : ((a : Nat) : Int) + 1 = ai := hai
  have d1 : decide (((lo : Nat) : Int) ≤ ((jj : Nat) : Int)) = true := by simp; omega
  have d2 : decide (((jj : Nat) : Int) ≤ ((hi' : Nat) : Int)) = true := by simp; omega
  have d3 : decide ((1 : Int) ≤ ((lo : Nat) : Int)) = true := by simp; omega
  have d4 : decide (((hi' : Nat) : Int) ≤ 4) = true := by simp; omega
  have d5 : decide (0 < lo) = true := by simp; omega
  have d6 : decide ((0 : Int) < ((lo : Nat) : Int)) = true := by simp; omega
  have d7 : decide (1 ≤ lo) = true := by simp; omega
  have q1 : ((lo : Nat) : Int) ≤ ((jj : Nat) : Int) := by omega
  have q2 : ((jj : Nat) : Int) ≤ ((hi' : Nat) : Int) := by omega
  have q3 : (1 : Int) ≤ ((lo : Nat) : Int) := by omega
  have q4 : ((hi' : Nat) : Int) ≤ 4 := by omega
  have q5 : 0 < lo := by omega
  have epush : ((a + 1 : Nat) : Int) = ai := by rw [← hai]; push_cast; rfl
  rw [epush] at HPa2
  have en1 : (ai != ai) = false := by simp
  have HF := hid hf
  have h0 := heap_alloc_new w (.cells (u8row S A B) 42)
  have H0 := hid h0
  have hB : Below w.heap.size w (w.alloc (.cells (u8row S A B) 42)) := (Below.refl _ _).alloc (Nat.le_refl _) _
  clear LH hh hab hai hbi hpp hpn hp12 hlo hhi hjj hcc hf hp hni hlr eai epush h0 hA hB0 hb12 hS
  obtain ⟨g, hg⟩ : ∃ g, w.heap.size = g := ⟨_, rfl⟩
  go_enter Tryd.func8, Tryd.ntmps8
  go_upto_region 1 with fail
  generalize w.alloc (.cells (u8row S A B) 42) = w1 at *
  rw [hg] at H0 hB HK HPa1 HPa2 HJ HLe HRu HRd
  go_wp2_with (first
    | (refine ldsk _ rfl rfl _ rfl S A B _ H0.out ?_)
    | (go_at_call 20; refine (HHo.out _).mono ?_; rintro e w2 ⟨rfl, hb⟩; have hsz := hB.size; have hB := hB.trans (hb.mono (by omega)); have hsz2 := hB.size; have h2 := heap_alloc_new w2 (.cells (irow 12 fun _ => 0) 24); have hB3 := hB.alloc (show g ≤ w2.heap.size by omega) (.cells (irow 12 fun _ => 0) 24))
    | (simp only [zeros12]; refine strow arrHouses _ _ rfl rfl _ (cst h) rfl rfl _ _ h2 ?_; have hB := below_setRow hB3 (show g ≤ w2.heap.size by omega) (irow 12 (cst h)); have HX := hid (setRow_heap _ _ _ (irow 12 (cst h)) _ _ h2); clear h2 hB3; generalize w2.heap.size = kx at *; generalize World.setRow _ _ _ = ws at *;
        have cF := cell_irow HX.out a ha12; rw [cst_app, HF.out] at cF)
    | (go_at_call 34; refine (HRu.out _ hB).mono ?_; rintro e w3 ⟨rfl, hb⟩; have hsz := hB.size; have HX := hid (heap_below hb HX.out (heap_lt HX.out)); have hB := hB.trans (hb.mono (by omega))))
  clear H0 cF
  have HB0 := hid hB
  clear hB
  go_loopw [9] (fun q wr => ∃ k : Nat, k ≤ 9 ∧ q = .int .i64 k ∧ wr.heap[kx]? = some (.cells (irow 12 (cst h)) 24 (0, 0)) ∧ Below g w wr) (fun q _ => 9 - (intOf q).toNat)
  case atStart => exact ⟨0, by omega, rfl, HX.out, HB0.out⟩
  case round =>
    clear HX HB0
    obtain ⟨q, hq, rfl, hx0, hB⟩ := hrel
    have HX := hid hx0
    clear hx0
    by_cases hlt : q ≤ 8
    · have hlt' : ((q : Nat) : Int) ≤ 8 := by omega
      have hq0 : (0 : Int) ≤ q := by omega
      have HRq := hid (HRd.out q hlt)
      have hn1 := HSome.out q hlt
      have hn2 := HLen.out ((q : Nat) : Int)
      have HMq := hid (HMem.out q)
      generalize ruledL ((q : Nat) : Int) 16 = L at *
      obtain ⟨n, hn⟩ : ∃ n, L.length = n := ⟨_, rfl⟩
      have HN := hid hn
      rw [hn] at hn1 hn2
      have hlt1 : ¬ ((n : Nat) : Int) < 1 := by omega
      have hlt1' : decide (((n : Nat) : Int) < 1) = false := by simp; omega
      clear hn
      go_wp2_with (go_at_call 35; refine (HRq.out _ hB).mono ?_; rintro e w4 ⟨v, rfl, hR, hb⟩; obtain ⟨G, o, c, rfl, -, hcl⟩ := reads_some' hR (by rw [HN.out]; exact hn1); rw [HN.out]; have HCL := hid hcl; have hsz := hB.size; have HX := hid (heap_below hb HX.out (heap_lt HX.out)); have hB := hB.trans (hb.mono (by omega)); clear hR hcl hb)
      go_loop [12, 13] (fun v i => ∃ j : Nat, j ≤ n ∧ i = .int .i64 j ∧ v = .bool (inL L ((f : Nat) : Int) j)) (fun _ i => n - (intOf i).toNat)
      case atStart => exact ⟨0, by omega, rfl, rfl⟩
      case round =>
        obtain ⟨j, hj, rfl, rfl⟩ := hrel
        by_cases hjt : j < n
        · have hjt' : ((j : Nat) : Int) < n := by omega
          have hj0 : (0 : Int) ≤ j := by omega
          have hjl : j < L.length := by rw [HN.out]; exact hjt
          have cz := HCL.out j hjl
          have HST := hid (inL_step L ((f : Nat) : Int) j hjl)
          generalize L[j] = z at *
          cases hin : inL L ((f : Nat) : Int) j with
          | true =>
            rw [hin, Bool.true_or] at HST
            clear hin
            go_wp2_with fail
            go_round
            case rel => exact ⟨j + 1, by omega, by go_num, by rw [HST.out]⟩
            case measure => simp [intOf]; omega
          | false =>
            rw [hin, Bool.false_or] at HST
            clear hin
            cases hzf : (z == ((f : Nat) : Int)) with
            | true =>
              rw [hzf] at HST
              go_wp2_with fail
              go_round
              case rel => exact ⟨j + 1, by omega, by go_num, by rw [HST.out]⟩
              case measure => simp [intOf]; omega
            | false =>
              rw [hzf] at HST
              go_wp2_with fail
              go_round
              case rel => exact ⟨j + 1, by omega, by go_num, by rw [HST.out]⟩
              case measure => simp [intOf]; omega
        · have hge : ¬ ((j : Nat) : Int) < n := by omega
          obtain rfl : j = n := by omega
          have hfin : inL L ((f : Nat) : Int) j = decide (q = p) := by
            rw [inL_all L _ j HN.out, decide_eq_decide, HMq.out]
            constructor
            · rintro ⟨_, h⟩; omega
            · intro h; exact ⟨hf16, by omega⟩
          have hqp : (((q : Nat) : Int) == ((p : Nat) : Int)) = decide (q = p) := by
            by_cases h : q = p
            · subst h; simp
            · rw [decide_eq_false h]; simp; omega
          rw [hfin]
          have hne : (decide (q = p) != decide (q = p)) = false := by simp
          generalize decide (q = p) = bb at *
          clear hfin
          go_wp2_with fail
          go_roundw
          case rel => exact ⟨q + 1, by omega, by go_num, HX.out, hB⟩
          case measure => simp [intOf]; omega
    · have hge : ¬ ((q : Nat) : Int) ≤ 8 := by omega
      go_wp2_with (first
        | (refine ldrow arrHouses _ rfl rfl _ rfl _ _ HX.out ?_)
        | (go_at_call_of 12 (Value.int .i64 ai); go_must (refine (HPa1.out _ hB).mono ?_); rintro e w5 ⟨rfl, hb⟩; have hsz := hB.size; have HX := hid (heap_below hb HX.out (heap_lt HX.out)); have hB := hB.trans (hb.mono (by omega)))
        | (go_at_call 12; refine (HPa2.out _ hB).mono ?_; rintro e w6 ⟨rfl, hb⟩; have hsz := hB.size; have HX := hid (heap_below hb HX.out (heap_lt HX.out)); have hB := hB.trans (hb.mono (by omega)))
        | (go_at_call 24; refine (HJ.out _ hB).mono ?_; rintro e w7 ⟨rfl, hb⟩; have hsz := hB.size; have HX := hid (heap_below hb HX.out (heap_lt HX.out)); have hB := hB.trans (hb.mono (by omega)))
        | (go_at_call 27; refine (HLe.out _ hB).mono ?_; rintro e w8 ⟨rfl, hb⟩; have hsz := hB.size; have hB := hB.trans (hb.mono (by omega)))
        | (go_at_call 15; refine (HK.out _ hB).mono ?_; rintro e w9 ⟨rfl, hb⟩; have hsz := hB.size; have hB := hB.trans (hb.mono (by omega))))
      go_ret
      exact ⟨rfl, hg ▸ hB⟩
end Go.Proofs.YtcdbkgpgjjeoiaaDoor
