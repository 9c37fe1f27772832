/- Walks of package house: the places of a figure; houses prepared. -/
import Derived.Test.YtcdbkgpgjjeoiaaDoorHW3
import Derived.Test.YtcdbkgpgjjeoiaaDoorH6
import Derived.StillTailTactics
import Derived.Great.BuildSlice
namespace Go.Proofs.YtcdbkgpgjjeoiaaDoor
open Go Go.RowKit
set_option maxRecDepth 100000

theorem below_drew {B : Nat} {a w : World} (h : Below B a w) : Below B a w.drew := ⟨h.os, h.tape, h.output, h.size, h.block⟩
theorem SkyM.drewN {w : World} {b n : Nat} {F : Nat → Nat} (h : SkyM w b n F) (k : Nat) : SkyM (w.drewN k) b n F := h.block rfl

set_option maxHeartbeats 400000 in
theorem of_c (h : Nat → Nat) (hh : ∀ i, i < 12 → h i < 16) (m n : Nat) (F : Nat → Nat) (s : Nat) (hs : s < 12) (w : World) (hM : SkyM w m n F) :
    Calls Tryd.prog 49 #[.agg (sky h m), .int .i64 ((s : Nat) : Int)] w fun e w' => e = .returned (.int .u64 ((F (h s) : Nat) : Int)) ∧ Below w.heap.size w w' := by
  have h0 := heap_alloc_new w (.cells (sky h m) 109)
  have hb0 : Below w.heap.size w (w.alloc (.cells (sky h m) 109)) := (Below.refl _ _).alloc (Nat.le_refl _) _
  have hM1 := hM.below hb0 hM.lt
  have hf := hh s hs
  have hcs := cell_sky h0 s hs
  have hcm := cell_skym h0
  have hs' : ((s : Nat) : Int) < 12 := by omega
  have hlk := fun k => (hM1.drewN k).look (h s) hf
  generalize F (h s) = v at *
  generalize h s = f at *
  clear hM hM1 hh h0
  go_enter Tryd.func49, Tryd.ntmps49
  go_wp2_with fail
  generalize w.alloc (.cells (sky h m) 109) = w1 at *
  generalize hg : w.heap.size = g at *
  go_quiet (fail)
  go_wp2_with fail
  go_ret
  exact ⟨rfl, hg ▸ below_drewN hb0 _⟩
theorem arrHouses : ArrT Tryd.prog 24 12 := ⟨⟨_, _, Tryd.underlying24⟩, by kernel_rfl⟩
theorem idxHouses (S : Nat → Int) (k : Nat) (hk : k < 12) (w : World) : (Instr.index 24 (.agg (irow 12 S)) (.int .i64 (k : Nat))).run Tryd.prog w = .ok (.int .i64 (S k)) w := run_index_irow Tryd.underlying24 (by kernel_rfl) (fun _ => by kernel_rfl) S k hk w
theorem sky_all (h : Nat → Nat) (b : Nat) : (sky h b).all Value.oneCell' = true := by
  unfold sky
  rw [Array.all_push, irow_all]
  rfl
/-- A sky is loaded, stored. -/
theorem ldsky {ops : Array Oper} {rest : List Oper} {o : Oper} {a : Act} {w : World} {Q : Exit → Act → World → Prop} (x : Operand) (hgd : o.guard = none) (ho : o.op = .load 109 x)
    (g : Nat) (hx : a.eval x = .pointer (some ⟨g, 0, none⟩)) (h : Nat → Nat) (m : Nat) (t : TypeId) (hg : w.heap[g]? = some (.cells (sky h m) t (0, 0)))
    (hK : wpList Tryd.prog ops Q rest (a.put o.dst (.agg (sky h m))) w) : wpList Tryd.prog ops Q (o :: rest) a w :=
  wpList_load_row hgd 109 x ho g hx t _ (0, 0) _ hg Tryd.underlying109 rfl (by rw [sky_size]; kernel_rfl) hK
theorem stsky {ops : Array Oper} {rest : List Oper} {o : Oper} {a : Act} {w : World} {Q : Exit → Act → World → Prop} (x y : Operand) (hgd : o.guard = none) (ho : o.op = .store 109 x y)
    (g : Nat) (h : Nat → Nat) (m : Nat) (hx : a.eval x = .pointer (some ⟨g, 0, none⟩)) (hy : a.eval y = .agg (sky h m)) (cs : Array Value) (hcs : cs.size = 13) (t : TypeId) (hg : w.heap[g]? = some (.cells cs t (0, 0)))
    (hK : wpList Tryd.prog ops Q rest (a.put o.dst undef) (w.setRow g (sky h m))) : wpList Tryd.prog ops Q (o :: rest) a w :=
  wpList_store_row hgd 109 x y ho g _ hx hy t _ hg (by rw [sky_size]; kernel_rfl) (by rw [sky_size, hcs]) (sky_all _ _) hK
/-- One result, a sky. -/
theorem retsky {fn : Func} {p : Tmp} (hf : fn.results = #[.cell p 109]) {a : Act} {w : World} {R : Ending → World → Prop} (g : Nat) (h : Nat → Nat) (m : Nat) (t : TypeId)
    (hp : a.tmps.getD p undef = .pointer (some ⟨g, 0, none⟩)) (hg : w.heap[g]? = some (.cells (sky h m) t (0, 0))) (hd : a.defers = []) (hR : R (.returned (.agg (sky h m))) w) : bodyPost Tryd.prog fn R .ret a w :=
  bodyPost_ret (results_cell_row hf _ _ g t _ (0, 0) _ hp hg Tryd.underlying109 rfl (by rw [sky_size]; kernel_rfl)) hd hR
def sky0 : Array Value := #[.int .i64 0, .int .i64 0, .int .i64 0, .int .i64 0, .int .i64 0, .int .i64 0, .int .i64 0, .int .i64 0, .int .i64 0, .int .i64 0, .int .i64 0, .int .i64 0, .map none]
theorem zeros13 : (#[.int .i64 0, .int .i64 0, .int .i64 0, .int .i64 0, .int .i64 0, .int .i64 0, .int .i64 0, .int .i64 0, .int .i64 0, .int .i64 0, .int .i64 0, .int .i64 0, .map none] : Array Value) = sky0 := rfl
theorem sky0_size : sky0.size = 13 := rfl
theorem lit12 (h : Nat → Nat) : (#[.int .i64 ((h 0 : Nat) : Int), .int .i64 ((h 1 : Nat) : Int), .int .i64 ((h 2 : Nat) : Int), .int .i64 ((h 3 : Nat) : Int), .int .i64 ((h 4 : Nat) : Int), .int .i64 ((h 5 : Nat) : Int), .int .i64 ((h 6 : Nat) : Int), .int .i64 ((h 7 : Nat) : Int), .int .i64 ((h 8 : Nat) : Int), .int .i64 ((h 9 : Nat) : Int), .int .i64 ((h 10 : Nat) : Int), .int .i64 ((h 11 : Nat) : Int)] : Array Value) = irow 12 (cst h) := rfl
theorem lit13 (h : Nat → Nat) (m : Nat) : (#[.int .i64 ((h 0 : Nat) : Int), .int .i64 ((h 1 : Nat) : Int), .int .i64 ((h 2 : Nat) : Int), .int .i64 ((h 3 : Nat) : Int), .int .i64 ((h 4 : Nat) : Int), .int .i64 ((h 5 : Nat) : Int), .int .i64 ((h 6 : Nat) : Int), .int .i64 ((h 7 : Nat) : Int), .int .i64 ((h 8 : Nat) : Int), .int .i64 ((h 9 : Nat) : Int), .int .i64 ((h 10 : Nat) : Int), .int .i64 ((h 11 : Nat) : Int), .map (some m)] : Array Value) = sky h m := rfl
theorem onF_step' (h : Nat → Nat) (k g : Nat) : (if g = h k then onF h k (h k) ||| 2 ^ k else onF h k g) = onF h (k + 1) g := by
  rw [← onF_step]
  by_cases e : g = h k
  · rw [if_pos e, if_pos e, e]
  · rw [if_neg e, if_neg e]
set_option maxHeartbeats 1000000 in
theorem look_c (h : Nat → Nat) (hh : ∀ i, i < 12 → h i < 16) (w : World) :
    Calls Tryd.prog 47 #[.agg (irow 12 (cst h))] w fun e w' => ∃ m, e = .returned (.agg (sky h m)) ∧ SkyM w' m 12 (onF h 12) ∧ w.heap.size ≤ m ∧ Below w.heap.size w w' := by
  have hmm := @run_makeMap Tryd.prog
  go_enter Tryd.func47, Tryd.ntmps47
  go_wp2_with fail
  simp only [lit12, lit13, zeros13]
  have h1 : ((((w.alloc (.cells (irow 12 (cst h)) 24)).alloc (.cells sky0 109)).alloc (.map #[] 0)).alloc (.cells (sky h (w.heap.size + 1 + 1)) 109)).heap[w.heap.size + 1 + 1 + 1]? = some (.cells (sky h (w.heap.size + 1 + 1)) 109 (0, 0)) := by
    have := heap_alloc_new (((w.alloc (.cells (irow 12 (cst h)) 24)).alloc (.cells sky0 109)).alloc (.map #[] 0)) (.cells (sky h (w.heap.size + 1 + 1)) 109)
    simpa using this
  have h2 : ((((w.alloc (.cells (irow 12 (cst h)) 24)).alloc (.cells sky0 109)).alloc (.map #[] 0)).alloc (.cells (sky h (w.heap.size + 1 + 1)) 109)).heap[w.heap.size + 1]? = some (.cells sky0 109 (0, 0)) := by
    rw [heap_alloc_old _ _ (by simp), heap_alloc_old _ _ (by simp)]
    exact heap_alloc2_new w _ _
  have h3 : SkyM ((((w.alloc (.cells (irow 12 (cst h)) 24)).alloc (.cells sky0 109)).alloc (.map #[] 0)).alloc (.cells (sky h (w.heap.size + 1 + 1)) 109)) (w.heap.size + 1 + 1) 0 (onF h 0) := by
    have := SkyM.made ((w.alloc (.cells (irow 12 (cst h)) 24)).alloc (.cells sky0 109))
    have e : ((w.alloc (.cells (irow 12 (cst h)) 24)).alloc (.cells sky0 109)).heap.size = w.heap.size + 1 + 1 := by simp
    rw [e] at this
    exact (this.kept (World.grownBy_alloc _ _ none) (by simp)).congr fun f _ => rfl
  have hb : Below w.heap.size w ((((w.alloc (.cells (irow 12 (cst h)) 24)).alloc (.cells sky0 109)).alloc (.map #[] 0)).alloc (.cells (sky h (w.heap.size + 1 + 1)) 109)) := ((((Below.refl _ w).alloc (Nat.le_refl _) _).alloc (by simp) _).alloc (by simp; omega) _).alloc (by simp; omega) _
  generalize (((w.alloc (.cells (irow 12 (cst h)) 24)).alloc (.cells sky0 109)).alloc (.map #[] 0)).alloc (.cells (sky h (w.heap.size + 1 + 1)) 109) = w1 at *
  generalize hg : w.heap.size = g at *
  have HH := hid hh
  clear hh hmm
  go_loopw [10] (fun i wr => ∃ k : Nat, k ≤ 12 ∧ i = .int .i64 k ∧ SkyM wr (g + 1 + 1) k (onF h k) ∧ wr.heap[g + 1 + 1 + 1]? = some (.cells (sky h (g + 1 + 1)) 109 (0, 0)) ∧ wr.heap[g + 1]? = some (.cells sky0 109 (0, 0)) ∧ Below g w wr) (fun i _ => 12 - (intOf i).toNat)
  case atStart => exact ⟨0, by omega, rfl, h3, h1, h2, hb⟩
  case round =>
    clear h1 h2 h3 hb
    obtain ⟨k, hk, rfl, hM, hc3, hc1, hb⟩ := hrel
    by_cases hlt : k < 12
    · have hlt' : ((k : Nat) : Int) < 12 := by omega
      have hidx := idxHouses (cst h) k hlt
      rw [cst_app] at hidx
      have hf := HH.out k hlt
      have hst := hid (fun g => onF_step' h k g)
      have hcm := cell_skym hc3
      have hMd : SkyM wr.drew (g + 1 + 1) k (onF h k) := hM.block rfl
      have hlk := hMd.look (h k) hf
      have hp : 2 ^ k ≤ 2 ^ 11 := Nat.pow_le_pow_right (by omega) (by omega)
      have hs : onF h k (h k) < 2 ^ k := setN_lt _ _
      have hor := u64_or (onF h k (h k)) (2 ^ k) (by omega) (by omega)
      have hlo : onF h k (h k) ||| 2 ^ k < 2 ^ (k + 1) := Nat.or_lt_two_pow (by omega) (by omega)
      have hp2 : 2 ^ (k + 1) ≤ 2 ^ 12 := Nat.pow_le_pow_right (by omega) (by omega)
      have f1 : (2 : Int) ^ k = ((2 ^ k : Nat) : Int) := by push_cast; rfl
      have w1 := wrap_natU (2 ^ k) (by omega)
      have Hc3 := hid hc3
      have Hc1 := hid hc1
      have Hb := hid hb
      clear hM hc3 hc1 hb
      have HF := hid f1
      have HN := hid (show onF h (k + 1) = onF h (k + 1) from rfl)
      clear f1
      generalize h k = f at *
      generalize onF h k = F at *
      generalize hs0 : F f = s0 at *
      generalize 2 ^ k = p at *
      generalize hv : s0 ||| p = v at *
      have hv64 : v < 18446744073709551616 := by omega
      have f1 := HF.out
      go_wp2_with fail
      go_still_tail 7, (by kernel_rfl)
      refine wp_store_sky rfl _ _ _ rfl (g + 1 + 1) k F rfl hMd (by omega) f v hf hv64 rfl rfl ?_
      intro w2 hM2 hg2
      have hM3 := hid (hM2.congr fun x _ => hst.out x)
      have hc33 := hid ((hg2.block (g + 1 + 1 + 1) (heap_lt Hc3.out) (by simp)).trans Hc3.out)
      have hc13 := hid ((hg2.block (g + 1) (heap_lt Hc1.out) (by simp)).trans Hc1.out)
      have hb3 := hid ((below_drew Hb.out).grown hg2 (show g ≤ wr.heap.size by rw [← hg]; exact Hb.out.size) (fun j e => by cases e; omega))
      clear hM2 hg2 hst Hc3 Hc1 Hb hMd hlk hcm
      go_wp2_with fail
      go_roundw
      case rel => exact ⟨k + 1, by omega, by go_num, hM3.out, hc33.out, hc13.out, hb3.out⟩
      case measure => simp [intOf]; omega
    · have hge : ¬ ((k : Nat) : Int) < 12 := by omega
      obtain rfl : k = 12 := by omega
      have HM := hid hM
      clear hM
      go_wp2_with (first
        | (refine ldsky _ rfl rfl _ rfl _ _ _ hc3 ?_)
        | (refine stsky _ _ rfl rfl _ _ _ rfl rfl _ sky0_size _ hc1 ?_))
      have hr := setRow_heap wr (g + 1) _ (sky h (g + 1 + 1)) _ _ hc1
      refine retsky rfl _ _ _ _ rfl hr rfl ?_
      refine ⟨g + 1 + 1, rfl, ?_, by omega, hg ▸ below_setRow hb (by omega) _⟩
      exact HM.out.block (setRow_other _ _ _ _ (by omega))
end Go.Proofs.YtcdbkgpgjjeoiaaDoor
/- Walks of package house: seats; a tie is added; the comparison of ties. -/
namespace Go.Proofs.YtcdbkgpgjjeoiaaDoor
open Go Go.RowKit
set_option maxRecDepth 100000

theorem box_new (w : World) (u : Value) (t : TypeId) : (w.alloc (.cells #[u] t)).cell? ⟨w.heap.size, 0, none⟩ = some u := by
  rw [cell_of_row _ _ 0 _ _ (0, 0) (heap_alloc_new w (.cells #[u] t))]
  rfl
theorem infoSeat : (Tryd.prog.info? 115).map (fun i => (i.zero, i.size, i.bytes)) = some (some (.int .i64 0), 1, 8) := by kernel_rfl
/-- A number of a house. -/
def Hou (n : Int) : Prop := 1 ≤ n ∧ n ≤ 12
/-- The places that were found so far. -/
def Sts (w : World) (base : Nat) (v : Value) (k : Nat) (S : Nat → Int) : Prop := w.ownsRow base 115 1 v k ((List.range k).map fun i => Value.int .i64 (S i - 1))
theorem wp_append_seat {ops : Array Oper} {rest : List Oper} {o : Oper} {a : Act} {w : World} {Q : Exit → Act → World → Prop} (hgd : o.guard = none) (s x : Operand)
    (ho : o.op = .call { callee := .builtin .append, args := #[s, x], argTypes := #[104, 104] }) (B : Nat) (v : Value) (k : Nat) (S : Nat → Int) (hs : a.eval s = v) (hown : Sts w B v k S)
    (g c : Nat) (hx : a.eval x = .slice (some ⟨g, 0, none⟩) 1 c) (hc : w.cell? ⟨g, 0, none⟩ = some (.int .i64 (S k - 1))) (hlen : k < 1000000000) (hB : B ≤ w.heap.size)
    (h : ∀ v' w', Sts w' B v' (k + 1) S → w.grownBy w' v.ownBlock → wpList Tryd.prog ops Q rest (a.put o.dst v') w') : wpList Tryd.prog ops Q (o :: rest) a w := by
  obtain ⟨i0, hi, hz0, hz1, hz2⟩ := info_parts infoSeat
  refine wpList_append_own w hgd s x 104 ho B 115 i0 (.int .i64 0) 1 8 Tryd.underlying104 hi hz0 hz1 hz2 rfl (by decide) v k _ hs hown ⟨g, 0, none⟩ 1 c [.int .i64 (S k - 1)] hx rfl
    (fun j u hj => by
      obtain rfl : j = 0 := by
        cases j with
        | zero => rfl
        | succ j => simp at hj
      simp at hj; subst hj; exact hc) (fun u hu => by simp at hu; subst hu; rfl) (by unfold maxLen; omega) (by omega) hB ?_
  intro v' w' h1 h2 _
  refine h v' w' ?_ h2
  unfold Sts
  rw [List.range_succ, List.map_append]
  exact h1
theorem Sts.reads {w : World} {B : Nat} {v : Value} {k : Nat} {S : Nat → Int} (h : Sts w B v k S) (hk : 0 < k) : ∃ g c, v = .slice (some ⟨g, 0, none⟩) k c ∧ B ≤ g ∧ g < w.heap.size ∧ ∀ i, i < k → w.cell? ⟨g, i, none⟩ = some (.int .i64 (S i - 1)) := by
  rcases h.2 with ⟨h2, h3⟩ | ⟨g, cap, cur, h3, h4, h5, _, _, _, h7⟩
  · omega
  · refine ⟨g, cap, h3, h4, heap_lt h5, fun i hi => ?_⟩
    rw [cell_of_row _ _ i _ _ (0, 0) h5]
    have : (cur.toList.take (k * 1))[i]? = ((List.range k).map fun i => Value.int .i64 (S i - 1))[i]? := by rw [h7]
    rw [List.getElem?_take, if_pos (by omega)] at this
    rw [← Array.getElem?_toList, this]
    simp [hi]
set_option maxHeartbeats 800000 in
theorem seats_yes (S : Nat → Int) (b n c : Nat) (w : World) (hn : n ≤ 2) (hc : ∀ i, i < n → w.cell? ⟨b, i, none⟩ = some (.int .i64 (S i))) (hbs : b < w.heap.size) (hS : ∀ i, i < n → Hou (S i)) :
    Calls Tryd.prog 46 #[.slice (some ⟨b, 0, none⟩) n c] w fun e w' => ∃ v, e = .returned (.tuple #[v, .bool true]) ∧ Sts w' w.heap.size v n S ∧ Below w.heap.size w w' := by
  have HC := hid hc
  have HS := hid hS
  clear hc hS
  go_enter Tryd.func46, Tryd.ntmps46
  go_wp2
  go_loopw [2, 8] (fun v i wr => ∃ k : Nat, k ≤ n ∧ i = .int .i64 k ∧ Sts wr w.heap.size v k S ∧ Below w.heap.size w wr) (fun _ i _ => n - (intOf i).toNat)
  case atStart => exact ⟨0, Nat.zero_le _, rfl, World.ownsRow_nil _ _ _ _, Below.refl _ _⟩
  case round =>
    obtain ⟨k, hk, rfl, hown, hb⟩ := hrel
    by_cases hlt : k < n
    · have hlt' : (k : Int) < n := by omega
      have hcell : wr.cell? ⟨b, k, none⟩ = some (.int .i64 (S k)) := (hb.cell (p := ⟨b, k, none⟩) hbs).trans (HC.out k hlt)
      obtain ⟨hf0, hf1⟩ := HS.out k hlt
      have a1 : decide (S k < 1) = false := by simp; omega
      have a2 : decide (12 < S k) = false := by simp; omega
      have hw : IntKind.i64.wrap (S k - 1) = S k - 1 := IntWalk.i64_in _ (by omega)
      have hsz := hb.size
      have hown1 : Sts (wr.alloc (.cells #[.int .i64 (S k - 1)] 115)) w.heap.size _ k S := World.ownsRow.alloc hown _
      have hcn : (wr.alloc (.cells #[.int .i64 (S k - 1)] 115)).cell? ⟨wr.heap.size, 0, none⟩ = some (.int .i64 (S k - 1)) := box_new wr _ _
      have hb1 := hid (hb.alloc hsz (.cells #[.int .i64 (S k - 1)] 115))
      have HC1 := hid hcn
      have HO1 := hid hown1
      have hl1 := hid (fun j (e : Value.ownBlock _ = some j) => (World.ownsRow.lt hown1 j e).1)
      clear hb hown hown1 hcn
      go_wp2_with (at_builtin; (refine wp_append_seat rfl _ _ rfl w.heap.size _ k S rfl HO1.out wr.heap.size 1 rfl HC1.out (by omega) (by simp; omega) ?_); intro v2 w2 hS2 hg2; have Hb2 := hid (hb1.out.grown hg2 (by simp; omega) hl1.out); clear HO1 HC1 hg2 hb1 hl1)
      go_roundw
      case rel => exact ⟨k + 1, by omega, by go_num, hS2, Hb2.out⟩
      case measure => simp [intOf]; omega
    · have hge : ¬ (k : Int) < n := by omega
      obtain rfl : k = n := by omega
      go_wp2_with fail
      go_ret2
      exact ⟨_, rfl, hown, hb⟩
set_option maxHeartbeats 800000 in
theorem seats_no (S : Nat → Int) (b n c : Nat) (w : World) (hn : n ≤ 2) (hc : ∀ i, i < n → w.cell? ⟨b, i, none⟩ = some (.int .i64 (S i))) (hbs : b < w.heap.size) (hS : ¬ ∀ i, i < n → Hou (S i)) :
    Calls Tryd.prog 46 #[.slice (some ⟨b, 0, none⟩) n c] w fun e w' => e = .returned (.tuple #[.slice none 0 0, .bool false]) ∧ Below w.heap.size w w' := by
  have hex : ∃ j, j < n ∧ ¬ Hou (S j) := by
    apply Classical.byContradiction
    intro h
    exact hS fun i hi => Classical.byContradiction fun hb => h ⟨i, hi, hb⟩
  obtain ⟨j, ⟨hj, hbad⟩, hl⟩ := exists_least hex
  have HS := hid (fun i (hi : i < j) => Classical.byContradiction fun (hb : ¬ Hou (S i)) => absurd (hl i ⟨by omega, hb⟩) (by omega))
  have HC := hid hc
  clear hc hS hex hl
  go_enter Tryd.func46, Tryd.ntmps46
  go_wp2
  go_loopw [2, 8] (fun v i wr => ∃ k : Nat, k ≤ j ∧ i = .int .i64 k ∧ Sts wr w.heap.size v k S ∧ Below w.heap.size w wr) (fun _ i _ => n - (intOf i).toNat)
  case atStart => exact ⟨0, Nat.zero_le _, rfl, World.ownsRow_nil _ _ _ _, Below.refl _ _⟩
  case round =>
    obtain ⟨k, hk, rfl, hown, hb⟩ := hrel
    have hlt' : (k : Int) < n := by omega
    have hcell : wr.cell? ⟨b, k, none⟩ = some (.int .i64 (S k)) := (hb.cell (p := ⟨b, k, none⟩) hbs).trans (HC.out k (by omega))
    by_cases hlt : k < j
    · obtain ⟨hf0, hf1⟩ := HS.out k hlt
      have a1 : decide (S k < 1) = false := by simp; omega
      have a2 : decide (12 < S k) = false := by simp; omega
      have hw : IntKind.i64.wrap (S k - 1) = S k - 1 := IntWalk.i64_in _ (by omega)
      have hsz := hb.size
      have hown1 : Sts (wr.alloc (.cells #[.int .i64 (S k - 1)] 115)) w.heap.size _ k S := World.ownsRow.alloc hown _
      have hcn : (wr.alloc (.cells #[.int .i64 (S k - 1)] 115)).cell? ⟨wr.heap.size, 0, none⟩ = some (.int .i64 (S k - 1)) := box_new wr _ _
      have hb1 := hid (hb.alloc hsz (.cells #[.int .i64 (S k - 1)] 115))
      have HC1 := hid hcn
      have HO1 := hid hown1
      have hl1 := hid (fun j (e : Value.ownBlock _ = some j) => (World.ownsRow.lt hown1 j e).1)
      clear hb hown hown1 hcn
      go_wp2_with (at_builtin; (refine wp_append_seat rfl _ _ rfl w.heap.size _ k S rfl HO1.out wr.heap.size 1 rfl HC1.out (by omega) (by simp; omega) ?_); intro v2 w2 hS2 hg2; have Hb2 := hid (hb1.out.grown hg2 (by simp; omega) hl1.out); clear HO1 HC1 hg2 hb1 hl1)
      go_roundw
      case rel => exact ⟨k + 1, by omega, by go_num, hS2, Hb2.out⟩
      case measure => simp [intOf]; omega
    · obtain rfl : k = j := by omega
      clear hown
      by_cases h1 : S k < 1
      · have a1 : decide (S k < 1) = true := by simp; omega
        go_wp2_with fail
        go_ret2
        exact ⟨rfl, hb⟩
      · have a1 : decide (S k < 1) = false := by simp; omega
        have a2 : decide (12 < S k) = true := by unfold Hou at hbad; simp; omega
        go_wp2_with fail
        go_ret2
        exact ⟨rfl, hb⟩
end Go.Proofs.YtcdbkgpgjjeoiaaDoor
