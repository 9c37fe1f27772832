/- Walks of package hand: the common denominator of a layer. -/
import Derived.Test.YtmjnelkeiogdcaaJC
namespace Go.Proofs.Ytmjnelkeiogdcaa
open Go Go.RowKit Go.Shelf
set_option maxRecDepth 100000

theorem RangeS.mem {W : World} {r b : Nat} {L vis : SL} (h : RangeS W r b L vis) : ∀ p ∈ vis, p ∈ L := by
  obtain ⟨_, seen, _, hv⟩ := h
  intro p hp
  rw [hv.eq] at hp
  obtain ⟨j, hj, rfl⟩ := List.mem_map.1 hp
  have hl := hv.lt j hj
  rw [List.getD_eq_getElem?_getD, List.getElem?_eq_getElem hl]
  exact List.getElem_mem hl
/-- The numbers of choices of a layer. -/
def chsL (L : SL) : List Nat := L.map fun p => p.2.toNat
set_option maxHeartbeats 2000000 in
theorem common_c (b : Nat) (L : SL) (hL : ∀ p ∈ L, ∃ c : Nat, p.2 = ((c : Nat) : Int) ∧ c ≤ 20000) (w : World) (hm : MapAt w b L) :
    Calls Try.prog 43 #[.map (some b)] w fun e w' => e = .returned (.int .i64 ((satN (lcmL (chsL L)) : Nat) : Int)) ∧ Below w.heap.size w w' := by
  have hT : MapT 75 := Try.underlying75
  have hrng := run_rangeS hT hm
  have hr5 := rangeS_new hm
  have hb5 : Below w.heap.size w (w.alloc (.mapIter (some b) L.length #[] L.length)) := (Below.refl _ _).alloc (Nat.le_refl _) _
  have hit5 := World.alloc_heap_new w (.mapIter (some b) L.length #[] L.length)
  have HR5 := hid hr5
  have HIT := hid hit5
  have HB5 := hid hb5
  have HL := hid hL
  clear hr5 hb5 hit5 hm hL
  go_enter Try.func43, Try.ntmps43
  go_wp2_with fail
  obtain ⟨r, hrr⟩ : ∃ r, w.heap.size = r := ⟨_, rfl⟩
  rw [hrr] at HR5 HIT HB5 ⊢
  obtain ⟨V1, hV1⟩ : ∃ V1, w.alloc (.mapIter (some b) L.length #[] L.length) = V1 := ⟨_, rfl⟩
  rw [hV1] at HR5 HIT HB5 ⊢
  clear hV1 hrng
  go_loopw [3] (fun nv X => ∃ vis, RangeS X r b L vis ∧ V1.grownBy X (some r) ∧ nv = .int .i64 ((satN (lcmL (chsL vis)) : Nat) : Int) ∧ lcmL (chsL vis) ≤ 1000000000000000) (fun _ X => L.length - seenOf X r)
  case atStart => exact ⟨[], HR5.out, World.grownBy.refl _ _, rfl, by decide⟩
  case round =>
    obtain ⟨vis, hrg, hgr, rfl, hle⟩ := hrel
    rcases next_S hrg 0 with ⟨hperm, hrun⟩ | ⟨p, V3, hpL, hr3, hgr3, hsz3, hrun, hent⟩
    · have he : lcmL (chsL vis) = lcmL (chsL L) := lcmL_congr _ _ fun c _ => by
        unfold chsL
        rw [(hperm.map _).mem_iff]
      rw [he]
      have HBW := hid (HB5.out.trans (grownB hgr (by have := HB5.out.size; omega) (by omega)))
      obtain ⟨z, hz⟩ : ∃ z, satN (lcmL (chsL L)) = z := ⟨_, rfl⟩
      rw [hz]
      have HZ := hid hz
      clear hperm hrg hgr he hle hz
      go_wp2_with fail
      go_ret
      exact ⟨by rw [HZ.out]; rfl, by rw [hrr]; exact HBW.out⟩
    · obtain ⟨ps, pm⟩ := p
      obtain ⟨c, hc, hc2⟩ := HL.out _ hpL
      simp only at hc
      subst hc
      have hgr4 := grown_trans hgr hgr3
      have HSN := hid (show seenOf wr r = vis.length ∧ (vis ++ [((ps, ((c : Nat) : Int)) : St × Int)]).length ≤ L.length from ⟨hrg.seen, hr3.len⟩)
      have HR3 := hid hr3
      have HG4 := hid hgr4
      have hch : chsL (vis ++ [(ps, ((c : Nat) : Int))]) = chsL vis ++ [c] := by simp [chsL]
      have hsub : lcmL (chsL vis ++ [c]) ≤ lcmL (chsL L) := by
        rw [← hch]
        exact lcmL_le _ _ fun x hx => by
          unfold chsL at hx ⊢
          obtain ⟨y, hy, rfl⟩ := List.mem_map.1 hx
          exact List.mem_map.2 ⟨y, hr3.mem y hy, rfl⟩
      obtain ⟨m, hm⟩ : ∃ m, satN (lcmL (chsL vis)) = m := ⟨_, rfl⟩
      have hm1 : m ≤ 1000000000000001 := by rw [← hm]; exact satN_le _
      have HM := hid hm
      have HCH := hid hch
      have HSUB := hid hsub
      have HLE := hid hle
      rw [hm]
      clear hrg hgr hgr3 hr3 hgr4 hch hsub hle hm hpL hsz3
      by_cases h0 : 0 < c
      · have hd0 : decide ((0 : Int) < ((c : Nat) : Int)) = true := decide_eq_true (by omega)
        have hd0' : (0 : Int) < ((c : Nat) : Int) := by omega
        have HDV := hid (fun W => divisor_c m c (by omega) (by omega) W)
        obtain ⟨g, hg⟩ : ∃ g, Nat.gcd c m = g := ⟨_, rfl⟩
        have hg0 : 0 < g := by rw [← hg]; exact Nat.gcd_pos_of_pos_left _ h0
        have hgne : (((g : Nat) : Int) == 0) = false := by simp; omega
        have hgne' : ((g : Nat) : Int) ≠ 0 := by omega
        have hq := tdivN c g
        have hql : c / g ≤ c := Nat.div_le_self _ _
        obtain ⟨q, hqq⟩ : ∃ q, c / g = q := ⟨_, rfl⟩
        rw [hqq] at hq hql
        have wq := wrap_nat q (by omega)
        have HTI := hid (fun W => times_c m q (by omega) (by omega) W)
        have hnew : timesN m q = satN (lcmL (chsL vis ++ [c])) := by
          have := lcm_step (chsL vis) c h0 HLE.out
          rw [HM.out, Nat.gcd_comm, hg, hqq] at this
          exact this
        rw [hnew] at HTI
        rw [hg] at HDV
        obtain ⟨z, hz⟩ : ∃ z, satN (lcmL (chsL vis ++ [c])) = z := ⟨_, rfl⟩
        have HZ := hid hz
        rw [hz] at HTI
        clear hnew hg hqq hz hg0
        by_cases hzl : z ≤ 1000000000000000
        · have hz1 : decide ((1000000000000000 : Int) < ((z : Nat) : Int)) = false := decide_eq_false (by omega)
          have hz1' : ¬ (1000000000000000 : Int) < ((z : Nat) : Int) := by omega
          have HZL := hid (show lcmL (chsL vis ++ [c]) ≤ 1000000000000000 from (satN_small _).1 (by rw [HZ.out]; exact hzl))
          clear hzl
          go_wp2_with (first
            | (go_at_call 45; refine (HDV.out _).mono ?_; rintro e X1 ⟨rfl, dz, rfl⟩)
            | (go_at_call 44; refine (HTI.out _).mono ?_; rintro e X2 ⟨rfl, rfl⟩))
          go_roundw
          case rel => exact ⟨_, HR3.out.below (below_drewN (Below.refl _ _) dz), grown_trans HG4.out (below_grown (below_drewN (Below.refl _ _) dz)), by rw [HCH.out, HZ.out], by rw [HCH.out]; exact HZL.out⟩
          case measure =>
            have h1 := (HR3.out.below (below_drewN (Below.refl _ _) dz)).seen
            have h2 := HSN.out
            rw [h1, h2.1]
            have := h2.2
            simp only [List.length_append, List.length_cons, List.length_nil] at this ⊢
            omega
        · have hz1 : decide ((1000000000000000 : Int) < ((z : Nat) : Int)) = true := decide_eq_true (by omega)
          have hz1' : (1000000000000000 : Int) < ((z : Nat) : Int) := by omega
          have HZL := hid (show satN (lcmL (chsL L)) = z from by
            have h1 : ¬ lcmL (chsL vis ++ [c]) ≤ 1000000000000000 := fun h => hzl (by rw [← HZ.out]; exact (satN_small _).2 h)
            have h2 := HSUB.out
            rw [← HZ.out]
            unfold satN
            rw [if_neg h1, if_neg (by omega)])
          have HBW := hid (HB5.out.trans (grownB HG4.out (by have := HB5.out.size; omega) (by omega)))
          clear hzl
          go_wp2_with (first
            | (go_at_call 45; refine (HDV.out _).mono ?_; rintro e X1 ⟨rfl, dz, rfl⟩)
            | (go_at_call 44; refine (HTI.out _).mono ?_; rintro e X2 ⟨rfl, rfl⟩))
          go_ret
          exact ⟨by rw [HZL.out]; rfl, by rw [hrr]; exact below_drewN HBW.out dz⟩
      · have hc0 : c = 0 := by omega
        subst hc0
        have hm2 : m ≤ 1000000000000000 := by rw [← HM.out]; exact (satN_small _).2 HLE.out
        have hz1 : decide ((1000000000000000 : Int) < ((m : Nat) : Int)) = false := decide_eq_false (by omega)
        have hz1' : ¬ (1000000000000000 : Int) < ((m : Nat) : Int) := by omega
        have HEQ := hid (lcmL_snoc0 (chsL vis))
        clear hm2 h0
        go_wp2_with fail
        go_roundw
        case rel => exact ⟨_, HR3.out, HG4.out, by rw [HCH.out, HEQ.out, HM.out], by rw [HCH.out, HEQ.out]; exact HLE.out⟩
        case measure =>
          have h1 := HR3.out.seen
          have h2 := HSN.out
          rw [h1, h2.1]
          have := h2.2
          simp only [List.length_append, List.length_cons, List.length_nil] at this ⊢
          omega
end Go.Proofs.Ytmjnelkeiogdcaa
