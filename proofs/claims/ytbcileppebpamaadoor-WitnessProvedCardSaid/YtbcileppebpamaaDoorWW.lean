/- Walk of law 11: WitnessMissing. -/
import Derived.Test.YtbcileppebpamaaDoorWV
set_option linter.unusedSimpArgs false
set_option linter.unusedVariables false
namespace Go.Proofs.YtbcileppebpamaaDoor
open Go Go.RowKit Go.Shelf
set_option maxRecDepth 100000

theorem cell_lt {W : World} {g k : Nat} {v : Value} (h : W.cell? ⟨g, k, none⟩ = some v) : g < W.heap.size := by
  rcases Nat.lt_or_ge g W.heap.size with hg | hg
  · exact hg
  · simp [World.cell?, Array.getElem?_eq_none hg] at h
theorem exec_bs0 {ev : Operand → Value} {o : Oper} {W : World} (ho : o.op = .buildSlice 33 0 #[]) : (execOp ev o).run Tryd.prog W = .ok (.value (.slice (some ⟨W.heap.size, 0, none⟩) 0 0)) (W.alloc (.cells #[] 3)) := by
  simp [execOp, ho]
  go_simp
theorem exec_ms {ev : Operand → Value} {o : Oper} {x : Operand} {n : Nat} {W : World} (ho : o.op = .makeSlice 33 x x) (hx : ev x = .int .i64 ((n : Nat) : Int)) (hn : n ≤ 100000) : (execOp ev o).run Tryd.prog W = .ok (.value (.slice (some ⟨W.heap.size, 0, none⟩) n n)) (W.alloc (.cells (irow n fun _ => 0) 3)) := by
  simp [execOp, ho, hx, mk_ints W n hn]
def D4M (n B : Nat) : Nat → Value → World → Prop
  | 0, v, _ => ∃ k, v = .slice (some ⟨k, 0, none⟩) 0 0
  | 1, v, _ => v = .int .i64 ((n : Nat) : Int)
  | 2, v, W => ∃ s, B ≤ s ∧ v = .slice (some ⟨s, 0, none⟩) n n ∧ W.heap[s]? = some (.cells (irow n fun _ => 0) 3 (0, 0))
  | 3, v, _ => ∃ k, v = .slice (some ⟨k, 0, none⟩) 0 0
  | _, _, _ => True
theorem D4M.mono {n B : Nat} : ∀ j v w w', Below w.heap.size w w' → D4M n B j v w → D4M n B j v w'
  | 0, _, _, _, _, h => h
  | 1, _, _, _, _, h => h
  | 2, _, _, _, hb, ⟨s, h1, h2, h3⟩ => ⟨s, h1, h2, heap_below hb h3 (heap_lt h3)⟩
  | 3, _, _, _, _, h => h
  | _ + 4, _, _, _, _, _ => trivial
set_option maxHeartbeats 8000000 in
theorem lawMissing (bs : List Nat) (u : Value) (b : Nat) (w : World) (hr : ReadsU w u bs) (hb : b < 256) (L : LaidW w) :
    Calls Tryd.prog 5 #[u, .int .u8 ((b : Nat) : Int)] w fun e w' => e = .returned (.bool true) ∧ Below w.heap.size w w' := by
  obtain ⟨p, cc, rfl⟩ := hr.form
  obtain ⟨m, hm⟩ : ∃ m, bs.length = m := ⟨_, rfl⟩
  have hml : m ≤ 9223372036854775807 := by have := hr.2.1; unfold maxLen at this; omega
  by_cases h5 : 5 < m
  · have d1 : decide ((5 : Int) < ((m : Nat) : Int)) = true := decide_eq_true (by omega)
    have d2 : (5 : Int) < ((m : Nat) : Int) := by omega
    have HK := hid (known_c w L)
    rw [hm]
    clear hr hm
    go_enter Tryd.func5, Tryd.ntmps5
    go_wp2_with (go_at_call 9; refine HK.out.mono ?_; rintro e w1 ⟨rfl, hb1⟩)
    go_ret
    exact ⟨rfl, hb1⟩
  · have d1 : decide ((5 : Int) < ((m : Nat) : Int)) = false := decide_eq_false (by omega)
    have d2 : ¬ (5 : Int) < ((m : Nat) : Int) := by omega
    have hm5 : m ≤ 5 := by omega
    obtain ⟨n, hn⟩ : ∃ n, 1 + b % 20 = n := ⟨_, rfl⟩
    have hn1 : 1 ≤ n := by omega
    have hn20 : n ≤ 20 := by omega
    have hcv : IntKind.i64.wrap ((b : Nat) : Int) = ((b : Nat) : Int) := IntWalk.i64_in _ (by omega)
    have htm : Int.tmod ((b : Nat) : Int) 20 = ((b % 20 : Nat) : Int) := tmod_nat b 20
    have hrw : IntKind.i64.wrap ((b % 20 : Nat) : Int) = ((b % 20 : Nat) : Int) := IntWalk.i64_in _ (by omega)
    have had : IntKind.i64.wrap (1 + ((b : Nat) : Int) % 20) = ((n : Nat) : Int) := (IntWalk.i64_in _ (by omega)).trans (by omega)
    have had2 : IntKind.i64.wrap (1 + ((b % 20 : Nat) : Int)) = ((n : Nat) : Int) := (IntWalk.i64_in _ (by omega)).trans (by omega)
    have HRU := hid hr
    rw [hm] at HRU ⊢
    have HM := hid hm
    have HN := hid hn
    have HLL := hid L
    have HMK := hid (fun W => mk_ints W n (by omega))
    clear hr hm hn h5 L
    go_enter Tryd.func5, Tryd.ntmps5
    go_upto_region 4 with fail
    refine grow_region 4 [27, 28, 29, 6] (by kernel_rfl) (by kernel_rfl) (D4M n w.heap.size) (fun _ _ _ => False) D4M.mono (fun _ _ _ _ _ h => h.elim) ?_ ?_
    · intro j oj hj hoj a' w' hb' he hdep K hK
      have h5 : a'.eval (.tmp 5) = .int .i64 ((n : Nat) : Int) := (he 5 (by decide)).trans rfl
      rcases (show j = 0 ∨ j = 1 ∨ j = 2 ∨ j = 3 by omega) with rfl | rfl | rfl | rfl
      · obtain rfl := Option.some.inj hoj
        exact wpO_val _ (exec_bs0 rfl) (hK _ _ ((Below.refl _ _).alloc (Nat.le_refl _) _) ⟨_, rfl⟩ (fun b h => h.elim))
      · obtain rfl := Option.some.inj hoj
        exact wpO_val _ (exec_mv rfl h5) (hK _ _ (Below.refl _ _) rfl (fun b h => h.elim))
      · obtain rfl := Option.some.inj hoj
        exact wpO_val _ (exec_ms rfl (hdep ⟨1, .data⟩ (by simp) rfl) (by omega)) (hK _ _ ((Below.refl _ _).alloc (Nat.le_refl _) _) ⟨_, hb'.size, rfl, heap_alloc_new w' _⟩ (fun b h => h.elim))
      · obtain rfl := Option.some.inj hoj
        obtain ⟨k, hk⟩ := (hdep ⟨0, .data⟩ (by simp) rfl : ∃ k, a'.eval (.tmp 27) = .slice (some ⟨k, 0, none⟩) 0 0)
        exact wpO_val _ (exec_asg rfl hk) (hK _ _ (Below.refl _ _) ⟨k, rfl⟩ (fun b h => h.elim))
    intro vs W1 hB1 hD _ _
    obtain ⟨k0, hk0⟩ : ∃ k, vs 0 = .slice (some ⟨k, 0, none⟩) 0 0 := hD 0 (by omega)
    have hv1 : vs 1 = .int .i64 ((n : Nat) : Int) := hD 1 (by omega)
    obtain ⟨s, hsB, hv2, hse⟩ : ∃ s, w.heap.size ≤ s ∧ vs 2 = .slice (some ⟨s, 0, none⟩) n n ∧ W1.heap[s]? = some (.cells (irow n fun _ => 0) 3 (0, 0)) := hD 2 (by omega)
    obtain ⟨k3, hv3⟩ : ∃ k, vs 3 = .slice (some ⟨k, 0, none⟩) 0 0 := hD 3 (by omega)
    simp only [puts, Act.put, List.setIfInBounds_toArray, List.set_cons_zero, List.set_cons_succ, hk0, hv1, hv2, hv3, Nat.zero_add, Nat.reduceAdd]
    have HSE := hid hse
    have HB1 := hid hB1
    clear hD hk0 hv1 hv2 hv3 hB1 hse
    obtain ⟨gv0, hgv0⟩ : ∃ v, Value.slice (some ⟨k3, 0, none⟩) 0 0 = v := ⟨_, rfl⟩
    rw [hgv0]
    have HG0 := hid (show Giv W1 s gv0 [] from .inl ⟨rfl, k3, hgv0.symm⟩)
    clear hgv0
    go_wp2_with fail
    have hGL : ∀ x ∈ bs.map (fun x => x % n), x < n := fun x hx => by
      obtain ⟨y, _, rfl⟩ := List.mem_map.1 hx
      exact Nat.mod_lt _ (by omega)
    have hnI : ((n : Nat) : Int) ≠ 0 := by omega
    have hnB : (((n : Nat) : Int) == 0) = false := by simp; omega
    go_loopw [6, 8] (fun gx ix wr => ∃ i : Nat, i ≤ m ∧ ix = .int .i64 ((i : Nat) : Int) ∧ Giv wr s gx (((bs.take i).map fun x => x % n).map fun x => ((x : Nat) : Int)) ∧ wr.heap[s]? = some (.cells (irow n fun _ => 0) 3 (0, 0)) ∧ Below w.heap.size w wr) (fun _ ix _ => m - (intOf ix).toNat)
    case atStart => exact ⟨0, by omega, rfl, HG0.out, HSE.out, HB1.out⟩
    case round =>
      obtain ⟨i, hi, rfl, hg, hse, hb1⟩ := hrel
      rcases Nat.lt_or_ge i m with hlt | hge
      · have hin : decide (((i : Nat) : Int) < ((m : Nat) : Int)) = true := decide_eq_true (by omega)
        have hin' : ((i : Nat) : Int) < ((m : Nat) : Int) := by omega
        have hi0 : (0 : Int) ≤ ((i : Nat) : Int) := by omega
        have hiw : IntKind.i64.wrap (((i : Nat) : Int) + 1) = ((i + 1 : Nat) : Int) := (IntWalk.i64_in _ (by omega)).trans (by omega)
        have hiL : i < bs.length := by rw [HM.out]; exact hlt
        obtain ⟨bk, o, rfl, hbk, hc⟩ := HRU.out.at' hiL
        have hcr : wr.cell? ⟨bk, o + i, none⟩ = some (.int .u8 ((bs[i] : Nat) : Int)) := (hb1.cell (p := ⟨bk, o + i, none⟩) hbk).trans hc
        have hx256 : bs[i] < 256 := HRU.out.1 _ (List.getElem_mem hiL)
        have htk : ((bs.take (i + 1)).map fun x => x % n).map (fun x => ((x : Nat) : Int)) = (((bs.take i).map fun x => x % n).map fun x => ((x : Nat) : Int)) ++ [((bs[i] % n : Nat) : Int)] := by
          rw [List.take_add_one, List.getElem?_eq_getElem hiL, List.map_append, List.map_append]
          rfl
        obtain ⟨x, hx⟩ : ∃ x, bs[i] = x := ⟨_, rfl⟩
        rw [hx] at hcr hx256 htk
        have hcx : IntKind.i64.wrap ((x : Nat) : Int) = ((x : Nat) : Int) := IntWalk.i64_in _ (by omega)
        have htx := tmod_nat x n
        have hxn : x % n < n := Nat.mod_lt _ (by omega)
        have hrx : IntKind.i64.wrap ((x % n : Nat) : Int) = ((x % n : Nat) : Int) := IntWalk.i64_in _ (by omega)
        have HGA := hid (fun o => hg.below ((Below.refl _ wr).alloc (Nat.le_refl _) o))
        have HBA := hid (fun o => hb1.alloc (Nat.le_trans hsB (Nat.le_of_lt (heap_lt hse))) o)
        have HSA := hid (fun o => heap_alloc_old wr o (heap_lt hse))
        have HSL := hid (fun (o : Obj) => (by rw [World.size_alloc]; have := heap_lt hse; omega : s < (wr.alloc o).heap.size))
        have HTK := hid htk
        have HS1 := hid hse
        have HLN := hid (show (((bs.take i).map fun x => x % n).map fun x => ((x : Nat) : Int)).length < 1000000000 by simp; omega)
        clear hg hse hb1 hc hbk hx htk hx256 hxn
        go_wp2_with (refine wp_append_giv rfl (.tmp 36) (.tmp 44) rfl s _ _ rfl (HGA.out _) (HSL.out _) _ wr.heap.size 1 rfl (cell_of_row _ _ 0 _ _ _ (heap_alloc_new wr _)) HLN.out w.heap.size w (HBA.out _) hsB ?_; intro v1 w1 hv1 hs1 hb1; have HV1 := hid hv1; have HSS := hid (hs1.trans ((HSA.out _).trans HS1.out)); have HB2 := hid hb1; clear hv1 hs1 hb1)
        go_roundw
        case rel =>
          refine ⟨i + 1, by omega, rfl, ?_, HSS.out, HB2.out⟩
          rw [HTK.out, Int.natCast_emod]
          exact HV1.out
        case measure => simp only [intOf, Int.toNat_natCast]; omega
      · obtain rfl : i = m := by omega
        have hin : ¬ ((i : Nat) : Int) < ((i : Nat) : Int) := by omega
        rw [show bs.take i = bs by rw [← HM.out]; exact List.take_length] at hg
        obtain ⟨GL, hGLe⟩ : ∃ GL, bs.map (fun x => x % n) = GL := ⟨_, rfl⟩
        have hGLl : GL.length = i := by rw [← hGLe, List.length_map, HM.out]
        rw [hGLe] at hg hGL
        obtain ⟨m, rfl⟩ : ∃ m', m' = i := ⟨_, rfl⟩
        have hgf := hg.readsA.form
        rw [List.length_map, hGLl] at hgf
        obtain ⟨gp, gc, rfl⟩ := hgf
        obtain ⟨c, hc⟩ : ∃ c, n - GL.sum % n = c := ⟨_, rfl⟩
        have HSP := hid (fun (v : Nat) (hv : v < n) (z : Value) V (hz : ReadsA V z (GL.map fun x => ((x : Nat) : Int))) => by
          have h := Split_c ((v : Nat) : Int) ((n : Nat) : Int) (GL.map fun x => ((x : Nat) : Int)) z V hz (by rw [List.length_map]; omega) (by omega)
          rw [splitR_all v n (by omega) hv GL hGL (by omega), hc] at h
          exact h)
        have HCO := hid (fun (xs : List Nat) (hxs : ∀ x ∈ xs, x < n) (hl : xs.length ≤ 30) (z : Value) V (hz : ReadsA V z (xs.map fun x => ((x : Nat) : Int))) => by
          have h := Combine_c ((n : Nat) : Int) (xs.map fun x => ((x : Nat) : Int)) z V hz (by rw [List.length_map]; omega)
          rw [combR_all n (by omega) xs hxs hl] at h
          exact h)
        obtain ⟨m1, hm1⟩ : ∃ m1, m + 1 = m1 := ⟨_, rfl⟩
        have hw1 : IntKind.i64.wrap (((m : Nat) : Int) + 1) = ((m1 : Nat) : Int) := (IntWalk.i64_in _ (by omega)).trans (by omega)
        have hw2 : IntKind.i64.wrap (((m1 : Nat) : Int) - 1) = ((m : Nat) : Int) := (IntWalk.i64_in _ (by omega)).trans (by omega)
        have HG1 := hid hg
        have HS1 := hid hse
        have HB3 := hid hb1
        have HGL := hid hGL
        have HGLl := hid hGLl
        have HC := hid hc
        have HM1 := hid hm1
        have HCT := hid (show irow n (cst (cntM n c 0)) = irow n (fun _ => 0) from rfl)
        clear hg hse hb1 hGL hGLl hc hm1 hGLe
        go_wp2_with fail
        rename_i wr0 hbx0
        go_loopw [9] (fun ix wr => ∃ v : Nat, v ≤ n ∧ ix = .int .i64 ((v : Nat) : Int) ∧ Giv wr s (.slice gp m gc) (GL.map fun x => ((x : Nat) : Int)) ∧ wr.heap[s]? = some (.cells (irow n (cst (cntM n c v))) 3 (0, 0)) ∧ Below w.heap.size w wr) (fun ix _ => n - (intOf ix).toNat)
        case atStart => exact ⟨0, by omega, rfl, HG1.out, HCT.out ▸ HS1.out, HB3.out⟩
        case round =>
          clear HG1 HS1 HB3 HCT
          obtain ⟨v, hv, rfl, hg, hse, hb1⟩ := hrel
          rcases Nat.lt_or_ge v n with hlt | hge
          · have hin : decide (((v : Nat) : Int) < ((n : Nat) : Int)) = true := decide_eq_true (by omega)
            have hin' : ((v : Nat) : Int) < ((n : Nat) : Int) := by omega
            have hvw : IntKind.i64.wrap (((v : Nat) : Int) + 1) = ((v + 1 : Nat) : Int) := (IntWalk.i64_in _ (by omega)).trans (by omega)
            have hslt := heap_lt hse
            obtain ⟨la, hla⟩ : ∃ la, (v + c) % n = la := ⟨_, rfl⟩
            have hlan : la < n := hla ▸ Nat.mod_lt _ (by omega)
            obtain ⟨LL, hLL⟩ : ∃ LL, GL ++ [la] = LL := ⟨_, rfl⟩
            have hLLn : ∀ x ∈ LL, x < n := by
              rw [← hLL]
              intro x hx
              rcases List.mem_append.1 hx with h | h
              · exact HGL.out x h
              · rw [List.mem_singleton.1 h]; exact hlan
            have hLLl : LL.length = m1 := by rw [← hLL, List.length_append, HGLl.out, ← HM1.out]; rfl
            have hLLs : LL.sum % n = v := by
              rw [← hLL, List.sum_append, List.sum_singleton, ← hla, ← HC.out]
              exact last_sum v n GL.sum hlt
            have hLLr : LL.reverse.sum % n = v := by rw [List.sum_reverse, hLLs]
            have hLLm : LL[m]? = some la := by rw [← hLL, List.getElem?_append_right (by rw [HGLl.out]; exact Nat.le_refl _), HGLl.out]; simp
            have hS := HSP.out v hlt
            rw [hla, hLL] at hS
            have HSP2 := hid (show ∀ (z : Value) V, ReadsA V z (GL.map fun x => ((x : Nat) : Int)) → Calls Tryd.prog 15 #[.int .i64 ((v : Nat) : Int), .int .i64 ((n : Nat) : Int), z] V fun e w' => ∃ gl cl, e = .returned (.tuple #[.slice (some ⟨gl, 0, none⟩) m1 cl, .int .i64 0]) ∧ w'.cell? ⟨gl, m, none⟩ = some (.int .i64 ((la : Nat) : Int)) ∧ Ints w' V.heap.size (.slice (some ⟨gl, 0, none⟩) m1 cl) (LL.map fun x => ((x : Nat) : Int)) ∧ (∀ k y, LL[k]? = some y → w'.cell? ⟨gl, k, none⟩ = some (.int .i64 ((y : Nat) : Int))) ∧ Below V.heap.size V w' from fun z V hz => by
              refine (hS z V hz).mono ?_
              rintro e w' ⟨l, rfl, hl, hb2⟩
              replace hl : Ints w' V.heap.size l (LL.map fun x => ((x : Nat) : Int)) := hl
              obtain ⟨gl, cl, rfl, hlc⟩ := hl.at4 (by
                intro h
                have := congrArg List.length h
                rw [List.length_map, hLLl, List.length_nil] at this
                have := HM1.out
                omega)
              rw [List.length_map, hLLl] at hl ⊢
              have hlc2 : ∀ k y, LL[k]? = some y → w'.cell? ⟨gl, k, none⟩ = some (.int .i64 ((y : Nat) : Int)) := fun k y hk => by
                obtain ⟨hk1, hk2⟩ := List.getElem?_eq_some_iff.1 hk
                have := hlc k (by rw [List.length_map]; exact hk1)
                rwa [List.getElem_map, hk2] at this
              exact ⟨gl, cl, rfl, hlc2 m la hLLm, hl, hlc2, hb2⟩)
            have hal : Below wr.heap.size wr (wr.alloc (.cells #[] 3)) := (Below.refl _ _).alloc (Nat.le_refl _) _
            have HMD := hid (Ints.made wr wr.heap.size (Nat.le_refl _))
            have HAL := hid hal
            have HRW := hid (hg.readsA.below hal)
            have HGV := hid hg
            have HSE2 := hid hse
            have HBB := hid hb1
            have HLLn := hid hLLn
            have HLLl := hid hLLl
            have HLLs := hid (And.intro hLLs hLLr)
            have HLLm := hid hLLm
            have HGLen := hid (show ([] : List Int).length + (GL.map fun x => ((x : Nat) : Int)).length < 1000000000 by rw [List.length_map, HGLl.out]; simp; omega)
            obtain ⟨z, hz⟩ : ∃ z, cntM n c v la = z := ⟨_, rfl⟩
            have hzv : z ≤ v := hz ▸ cntM_le n c v la
            obtain ⟨z1, hz1⟩ : ∃ z1, z + 1 = z1 := ⟨_, rfl⟩
            have hzw : IntKind.i64.wrap (((z : Nat) : Int) + 1) = ((z1 : Nat) : Int) := (IntWalk.i64_in _ (by omega)).trans (by omega)
            have hupd : upd (cst (cntM n c v)) la (((z1 : Nat) : Int)) = cst (cntM n c (v + 1)) := by
              funext j
              simp only [upd, cst, cntM, hla]
              by_cases e : j = la
              · subst e
                simp [hz, hz1]
              · rw [if_neg e, if_neg (fun h => e h.symm), Nat.add_zero]
            have HUP := hid (And.intro hz hupd)
            have hla0 : (0 : Int) ≤ ((la : Nat) : Int) := by omega
            have hla1 : ((la : Nat) : Int) < ((n : Nat) : Int) := by omega
            have hd0 : decide (((la : Nat) : Int) < 0) = false := decide_eq_false (by omega)
            have hd1 : decide (((n : Nat) : Int) ≤ ((la : Nat) : Int)) = false := decide_eq_false (by omega)
            have hd2 : decide (n ≤ la) = false := decide_eq_false (by omega)
            have hm0 : (0 : Int) ≤ ((m : Nat) : Int) := by omega
            have hm1' : ((m : Nat) : Int) < ((m1 : Nat) : Int) := by have := HM1.out; omega
            have hne1 : (((m1 : Nat) : Int) != ((m1 : Nat) : Int)) = false := by simp
            clear hS hal hg hse hb1 hLLn hLLl hLLs hLLr hLLm hla hLL hz hz1 hupd
            go_upto_region 18 with (first
              | (refine wp_append_reads rfl (.tmp 54) (.tmp 55) rfl wr.heap.size _ [] rfl HMD.out _ (GL.map fun x => ((x : Nat) : Int)) rfl HRW.out HGLen.out HAL.out.size ?_; intro v1 w1 hv1 hg1; rw [List.nil_append] at hv1; have hb1 := HAL.out.grown hg1 HAL.out.size (fun k hk => HMD.out.own k hk); have HV1 := hid hv1; have HB1 := hid hb1; clear hv1 hg1 hb1)
              | (go_at_call 15; refine (HSP2.out _ _ HV1.out.readsA).mono ?_; rintro e w2 ⟨gl, cl, rfl, hcm, hl, hlc, hb2⟩; have HLI := hid hl; have HLC := hid hlc; have HB2 := hid (HB1.out.trans (hb2.mono HB1.out.size)); have hsk := heap_below HB2.out HSE2.out (heap_lt HSE2.out); have hcs := cell_irow hsk la hlan; rw [show cst (cntM n c v) la = ((z : Nat) : Int) from (by rw [← HUP.out.1]; rfl)] at hcs; have hfz := frozen_of_row _ _ la _ _ hsk; have HSK := hid hsk; have HWS := hid HB1.out.size; clear hl hlc hb2 hsk))
            go_upto_region 20 with fail
            have hs3 : (w2.setCell ⟨s, la, none⟩ (.int .i64 ((z1 : Nat) : Int))).heap[s]? = some (.cells (irow n (cst (cntM n c (v + 1)))) 3 (0, 0)) := by
              rw [heap_setCell_same w2 s la _ _ _ HSK.out, irow_set, HUP.out.2]
            have hsz3 : (w2.setCell ⟨s, la, none⟩ (.int .i64 ((z1 : Nat) : Int))).heap.size = w2.heap.size := by simp
            have hg3 := (HGV.out.below HB2.out).set (i := la) (u := .int .i64 ((z1 : Nat) : Int))
            have hl3 := HLI.out.setOther (g := s) (i := la) (Nat.lt_of_lt_of_le hslt HWS.out) (.int .i64 ((z1 : Nat) : Int))
            have hb3 : Below w.heap.size w (w2.setCell ⟨s, la, none⟩ (.int .i64 ((z1 : Nat) : Int))) := (HBB.out.trans (HB2.out.mono HBB.out.size)).setCell (p := ⟨s, la, none⟩) hsB _
            have hc3 : ∀ k y, LL[k]? = some y → (w2.setCell ⟨s, la, none⟩ (.int .i64 ((z1 : Nat) : Int))).cell? ⟨gl, k, none⟩ = some (.int .i64 ((y : Nat) : Int)) := fun k y hk => by
              rw [cell_same (heap_setCell_other w2 ⟨s, la, none⟩ gl _ (show gl ≠ s from fun e => by
                have := HLI.out.own gl (by simp [Value.ownBlock])
                have := HWS.out
                omega))]
              exact HLC.out k y hk
            generalize w2.setCell ⟨s, la, none⟩ (.int .i64 ((z1 : Nat) : Int)) = W3 at hs3 hsz3 hg3 hl3 hb3 hc3 ⊢
            rw [← hsz3]
            have hm3 := Ints.made W3 W3.heap.size (Nat.le_refl _)
            have hal3 : Below W3.heap.size W3 (W3.alloc (.cells #[] 3)) := (Below.refl _ _).alloc (Nat.le_refl _) _
            have hs4 := heap_below hal3 hs3 (heap_lt hs3)
            have hg4 := hg3.below hal3
            have hl4 := (hl3.below hal3).readsA
            have hb4 := hb3.trans (hal3.mono hb3.size)
            have hc4 : ∀ k y, LL[k]? = some y → (W3.alloc (.cells #[] 3)).cell? ⟨gl, k, none⟩ = some (.int .i64 ((y : Nat) : Int)) := fun k y hk => by
              have h := hc3 k y hk
              exact (hal3.cell (p := ⟨gl, k, none⟩) (cell_lt h)).trans h
            obtain ⟨B3, hB3⟩ : ∃ B3, W3.heap.size = B3 := ⟨_, rfl⟩
            have hglB : gl < B3 := hB3 ▸ cell_lt (hc3 m la HLLm.out)
            rw [hB3] at hm3 ⊢
            have hB4 : B3 ≤ (W3.alloc (.cells #[] 3)).heap.size := by rw [← hB3]; exact hal3.size
            have hwB3 : w.heap.size ≤ B3 := hB3 ▸ hb3.size
            have hal3' : Below B3 W3 (W3.alloc (.cells #[] 3)) := hB3 ▸ hal3
            generalize W3.alloc (.cells #[] 3) = W4 at hm3 hs4 hg4 hl4 hb4 hc4 hB4 hal3 hal3' ⊢
            have HV4 := hid (show ∀ V, Below B3 W4 V → ReadsA V (.slice (some ⟨gl, 0, none⟩) m1 cl) (LL.map fun x => ((x : Nat) : Int)) ∧ Giv V s (.slice gp m gc) (GL.map fun x => ((x : Nat) : Int)) ∧ V.heap[s]? = some (.cells (irow n (cst (cntM n c (v + 1)))) 3 (0, 0)) from fun V hV => by
              have hW : Below W3.heap.size W3 V := hB3 ▸ (hal3'.trans hV)
              exact ⟨hl3.readsA.below hW, hg3.below hW, heap_below hW hs3 (heap_lt hs3)⟩)
            have HC1 := hid (show ∀ (z : Value) V, ReadsA V z (LL.map fun x => ((x : Nat) : Int)) → Calls Tryd.prog 16 #[.int .i64 ((n : Nat) : Int), z] V fun e w' => e = .returned (.tuple #[.int .i64 ((v : Nat) : Int), .int .i64 0]) ∧ Below V.heap.size V w' from fun z V hz => by
              have h := HCO.out LL HLLn.out (by rw [HLLl.out]; have := HM1.out; omega) z V hz
              rw [HLLs.out.1] at h
              exact h)
            have HC2 := hid (show ∀ (z : Value) V, ReadsA V z (LL.reverse.map fun x => ((x : Nat) : Int)) → Calls Tryd.prog 16 #[.int .i64 ((n : Nat) : Int), z] V fun e w' => e = .returned (.tuple #[.int .i64 ((v : Nat) : Int), .int .i64 0]) ∧ Below V.heap.size V w' from fun z V hz => by
              have h := HCO.out LL.reverse (fun x hx => HLLn.out x (List.mem_reverse.1 hx)) (by rw [List.length_reverse, HLLl.out]; have := HM1.out; omega) z V hz
              rw [HLLs.out.2] at h
              exact h)
            have HM3 := hid hm3
            have HS4 := hid hs4
            have HG4 := hid hg4
            have HL4 := hid hl4
            have HB4 := hid hb4
            have HC4 := hid hc4
            have HBL := hid hB4
            clear hm3 hal3 hs4 hg4 hl4 hb4 hc4 hB3 hs3 hg3 hl3 hb3 hc3 hsz3 hfz hcs hcm HMD HAL HRW HGV HSE2 HBB HGLen HV1 HB1 HB2 HLI HLC HSK HWS HUP
            go_wp2_with fail
            go_loopw [13, 14] (fun tx ix wr => ∃ k : Nat, k ≤ m1 ∧ ix = .int .i64 (((m1 - k : Nat) : Int) - 1) ∧ Ints wr B3 tx ((LL.reverse.take k).map fun x => ((x : Nat) : Int)) ∧ Below B3 W4 wr) (fun _ ix _ => (intOf ix + 1).toNat)
            case atStart => exact ⟨0, by omega, by congr 1; have := HM1.out; omega, HM3.out, Below.refl _ _⟩
            case round =>
              obtain ⟨k, hk, rfl, ht, hbw⟩ := hrel
              rcases Nat.lt_or_ge k m1 with hlt3 | hge3
              · obtain ⟨j, hj⟩ : ∃ j, m1 - k - 1 = j := ⟨_, rfl⟩
                have hji : ((m1 - k : Nat) : Int) - 1 = ((j : Nat) : Int) := by omega
                rw [hji]
                have hj0 : (0 : Int) ≤ ((j : Nat) : Int) := by omega
                have hjd : decide ((0 : Int) ≤ ((j : Nat) : Int)) = true := decide_eq_true hj0
                have hjm : ((j : Nat) : Int) < ((m1 : Nat) : Int) := by omega
                have hjw : IntKind.i64.wrap (((j : Nat) : Int) - 1) = ((j : Nat) : Int) - 1 := IntWalk.i64_in _ (by have := HM1.out; omega)
                obtain ⟨y, hy⟩ : ∃ y, LL[j]? = some y := ⟨_, List.getElem?_eq_getElem (by rw [HLLl.out]; omega)⟩
                have hcj : wr.cell? ⟨gl, j, none⟩ = some (.int .i64 ((y : Nat) : Int)) := by
                  exact (hbw.cell (p := ⟨gl, j, none⟩) hglB).trans (HC4.out j y hy)
                have htk : ((LL.reverse.take (k + 1)).map fun x => ((x : Nat) : Int)) = ((LL.reverse.take k).map fun x => ((x : Nat) : Int)) ++ [((y : Nat) : Int)] := by
                  rw [List.take_add_one, List.getElem?_reverse (by rw [HLLl.out]; exact hlt3), HLLl.out, show m1 - 1 - k = j by omega, hy, List.map_append]
                  rfl
                have hszw : B3 ≤ wr.heap.size := Nat.le_trans HBL.out hbw.size
                have HTA := hid (fun o => ht.below ((Below.refl _ wr).alloc (Nat.le_refl _) o))
                have HBA := hid (fun o => hbw.alloc hszw o)
                have HSL := hid (fun (o : Obj) => (by rw [World.size_alloc]; omega : B3 ≤ (wr.alloc o).heap.size))
                have HTK := hid htk
                have HOW := hid ht.own
                have HLN := hid (show ((LL.reverse.take k).map fun x => ((x : Nat) : Int)).length < 1000000000 by rw [List.length_map, List.length_take, List.length_reverse, HLLl.out]; have := HM1.out; omega)
                have HJI := hid (And.intro hji hj)
                clear ht hbw hy htk hji hj hszw
                go_wp2_with (refine wp_append_int rfl (.tmp 97) (.tmp 102) rfl B3 _ _ rfl (HTA.out _) _ wr.heap.size 1 rfl (cell_of_row _ _ 0 _ _ _ (heap_alloc_new wr _)) HLN.out (HSL.out _) ?_; intro v3 w3 hv3 hg3; have HV3 := hid hv3; have HB5 := hid ((HBA.out _).grown hg3 (HSL.out _) HOW.out); clear hv3 hg3)
                go_roundw
                case rel =>
                  refine ⟨k + 1, by omega, ?_, ?_, HB5.out⟩
                  · have := HJI.out
                    congr 1
                    omega
                  · rw [HTK.out]
                    exact HV3.out
                case measure =>
                  have := HJI.out
                  simp only [intOf]
                  omega
              · obtain rfl : k = m1 := by omega
                have hji : ((k - k : Nat) : Int) - 1 = -1 := by omega
                rw [hji]
                have hjd : ¬ (0 : Int) ≤ -1 := by omega
                have hjd2 : decide ((0 : Int) ≤ -1) = false := by decide
                have hb6 : Below w.heap.size w wr := HB4.out.trans (hbw.mono hwB3)
                rw [List.take_of_length_le (by rw [List.length_reverse, HLLl.out]; exact Nat.le_refl _)] at ht
                have HT6 := hid ht
                have HB6 := hid hb6
                have HV6 := hid (HV4.out wr hbw)
                have hvv : (((v : Nat) : Int) != ((v : Nat) : Int)) = false := by simp
                have FL := hid trivial
                clear hb6 ht hbw
                go_wp2_with (first
                  | (go_at_call 16; have hq := FL; clear hq FL; refine (HC1.out _ _ HV6.out.1).mono ?_; rintro e w5 ⟨rfl, hb5⟩; have HB7 := hid hb5; clear hb5)
                  | (go_at_call 16; refine (HC2.out _ _ (HT6.out.below HB7.out).readsA).mono ?_; rintro e w6 ⟨rfl, hb6⟩; have HB8 := hid (HB7.out.trans (hb6.mono HB7.out.size)); clear hb6))
                have hfin := HV6.out.2.1.below HB8.out
                go_roundw
                case rel => exact ⟨v + 1, by omega, rfl, hfin, heap_below HB8.out HV6.out.2.2 (heap_lt HV6.out.2.2), HB6.out.trans (HB8.out.mono HB6.out.size)⟩
                case measure => simp only [intOf, Int.toNat_natCast]; omega
          · obtain rfl : v = n := by omega
            have hin : ¬ ((v : Nat) : Int) < ((v : Nat) : Int) := by omega
            have HSE2 := hid hse
            have HBB := hid hb1
            clear hse hb1 hg
            go_wp2_with fail
            go_loopw [18] (fun ix wl => ∃ i : Nat, i ≤ v ∧ ix = .int .i64 ((i : Nat) : Int) ∧ wl.heap[s]? = some (.cells (irow v (cst (cntM v c v))) 3 (0, 0)) ∧ Below w.heap.size w wl) (fun ix _ => v - (intOf ix).toNat)
            case atStart => exact ⟨0, by omega, rfl, HSE2.out, HBB.out⟩
            case round =>
              obtain ⟨i, hi, rfl, hse, hb1⟩ := hrel
              rcases Nat.lt_or_ge i v with hlt | hge
              · have hin : decide (((i : Nat) : Int) < ((v : Nat) : Int)) = true := decide_eq_true (by omega)
                have hin' : ((i : Nat) : Int) < ((v : Nat) : Int) := by omega
                have hi0 : (0 : Int) ≤ ((i : Nat) : Int) := by omega
                have hiw : IntKind.i64.wrap (((i : Nat) : Int) + 1) = ((i + 1 : Nat) : Int) := (IntWalk.i64_in _ (by omega)).trans (by omega)
                have hcs := cell_irow hse i hlt
                rw [show cst (cntM v c v) i = 1 from (by show ((cntM v c v i : Nat) : Int) = 1; rw [cntM_one v c i hlt]; rfl)] at hcs
                have HSE3 := hid hse
                have HB3 := hid hb1
                clear hse hb1
                go_wp2_with fail
                go_roundw
                case rel => exact ⟨i + 1, by omega, rfl, HSE3.out, HB3.out⟩
                case measure => simp only [intOf, Int.toNat_natCast]; omega
              · obtain rfl : i = v := by omega
                have hin : ¬ ((i : Nat) : Int) < ((i : Nat) : Int) := by omega
                have HK := hid (known_c _ (HLL.out.below hb1))
                have HB3 := hid hb1
                clear hse hb1
                go_wp2_with (go_at_call 9; refine HK.out.mono ?_; rintro e w8 ⟨rfl, hb8⟩; have HB8 := hid (HB3.out.trans (hb8.mono HB3.out.size)); clear hb8)
                go_ret
                exact ⟨rfl, HB8.out⟩
end Go.Proofs.YtbcileppebpamaaDoor
