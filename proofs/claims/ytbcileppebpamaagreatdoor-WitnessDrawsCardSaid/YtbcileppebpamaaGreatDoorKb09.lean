/- Lemmas for WitnessDraws: part 9. -/
import Derived.Test.YtbcileppebpamaaGreatDoorKb08
set_option linter.unusedSimpArgs false
set_option linter.unusedVariables false
namespace Go.Proofs.YtbcileppebpamaaGreatDoor
open Go Go.RowKit Go.Shelf
set_option maxRecDepth 100000
theorem exec_ixS {ev : Operand → Value} {o : Oper} {x y : Operand} {s : ByteArray} {i c : Nat} {W : World} (ho : o.op = .index 9 x y) (hx : ev x = .string s) (hy : ev y = .int .i64 ((i : Nat) : Int)) (hc : (s.data.toList.map UInt8.toNat)[i]? = some c) : (execOp ev o).run Tryz.prog W = .ok (.value (.int .u8 ((c : Nat) : Int))) W := by
  obtain ⟨hi, hv⟩ := List.getElem?_eq_some_iff.1 hc
  rw [List.length_map, Array.length_toList] at hi
  have h0 : (0 : Int) ≤ ((i : Nat) : Int) ∧ ((i : Nat) : Int) < ((s.size : Nat) : Int) := ⟨by omega, by have : i < s.size := hi; omega⟩
  have h1 := run_index_string (P := Tryz.prog) W 9 s .i64 ((i : Nat) : Int) Tryz.underlying9
  rw [dif_pos h0] at h1
  have e : (s[((i : Nat) : Int).toNat]'(by omega)).toNat = c := by
    rw [List.getElem_map] at hv
    rw [← hv]
    rfl
  rw [e] at h1
  simp [execOp, ho, hx, hy, h1]
theorem exec_cv8 {ev : Operand → Value} {o : Oper} {x : Operand} {c : Nat} {W : World} (ho : o.op = .convert 5 3 x) (hx : ev x = .int .u8 ((c : Nat) : Int)) (hc : c < 256) : (execOp ev o).run Tryz.prog W = .ok (.value (.int .i64 ((c : Nat) : Int))) W := by
  have hw : IntKind.i64.wrap ((c : Nat) : Int) = ((c : Nat) : Int) := IntWalk.i64_in _ (by omega)
  simp [execOp, ho, hx]
  go_simp
theorem exec_xor {ev : Operand → Value} {o : Oper} {x y : Operand} {a b : Nat} {W : World} (ho : o.op = .binOp .xor 3 x y 3) (hx : ev x = .int .i64 ((a : Nat) : Int)) (hy : ev y = .int .i64 ((b : Nat) : Int)) (ha : a < 256) (hb : b < 256) : (execOp ev o).run Tryz.prog W = .ok (.value (.int .i64 ((a ^^^ b : Nat) : Int))) W := by
  have hw := i64_xor a b (by omega) (by omega)
  simp [execOp, ho, hx, hy]
  go_simp
theorem exec_addN {ev : Operand → Value} {o : Oper} {x y : Operand} {a b c : Nat} {W : World} (ho : o.op = .binOp .add 3 x y 3) (hx : ev x = .int .i64 ((a : Nat) : Int)) (hy : ev y = .int .i64 ((b : Nat) : Int)) (hc : a + b = c) (hl : c ≤ 1000000000) : (execOp ev o).run Tryz.prog W = .ok (.value (.int .i64 ((c : Nat) : Int))) W := by
  have hw : IntKind.i64.wrap (((a : Nat) : Int) + ((b : Nat) : Int)) = ((c : Nat) : Int) := (IntWalk.i64_in _ (by omega)).trans (by omega)
  simp [execOp, ho, hx, hy]
  go_simp
theorem exec_mulN {ev : Operand → Value} {o : Oper} {x y : Operand} {a b c : Nat} {W : World} (ho : o.op = .binOp .mul 3 x y 3) (hx : ev x = .int .i64 ((a : Nat) : Int)) (hy : ev y = .int .i64 ((b : Nat) : Int)) (hc : a * b = c) (hl : c ≤ 1000000000) : (execOp ev o).run Tryz.prog W = .ok (.value (.int .i64 ((c : Nat) : Int))) W := by
  have hw : IntKind.i64.wrap (((a : Nat) : Int) * ((b : Nat) : Int)) = ((c : Nat) : Int) := by
    rw [← Int.natCast_mul, hc]
    exact IntWalk.i64_in _ (by omega)
  simp [execOp, ho, hx, hy]
  go_simp
theorem exec_ixA {ev : Operand → Value} {o : Oper} {x y : Operand} {g k : Nat} {W : World} (ho : o.op = .indexAddr 77 x y) (hx : ev x = .pointer (some ⟨g, 0, none⟩)) (hy : ev y = .int .i64 ((k : Nat) : Int)) (hk : k < 8) : (execOp ev o).run Tryz.prog W = .ok (.value (.pointer (some ⟨g, k, none⟩))) W := by
  have h0 : (0 : Int) ≤ ((k : Nat) : Int) := by omega
  have h1 : ((k : Nat) : Int) < 8 := by omega
  simp [execOp, ho, hx, hy]
  go_simp
theorem exec_ixA0 {ev : Operand → Value} {o : Oper} {x y : Operand} {g : Nat} {W : World} (ho : o.op = .indexAddr 77 x y) (hx : ev x = .pointer (some ⟨g, 0, none⟩)) (hy : ev y = .int .i64 0) : (execOp ev o).run Tryz.prog W = .ok (.value (.pointer (some ⟨g, 0, none⟩))) W := exec_ixA (k := 0) ho hx hy (by omega)
theorem setRow_at {W : World} {g : Nat} {cs old : Array Value} {t : TypeId} {fr : Nat × Nat} (h : W.heap[g]? = some (.cells old t fr)) : (W.setRow g cs).heap[g]? = some (.cells cs t fr) := by
  unfold World.setRow
  simp [Array.getElem?_modify, h]
theorem setRow_ne {W : World} {g k : Nat} {cs : Array Value} (h : k ≠ g) : (W.setRow g cs).heap[k]? = W.heap[k]? := by
  unfold World.setRow
  simp [Array.getElem?_modify, Ne.symm h]
theorem setRow_below {W : World} {g n : Nat} {cs : Array Value} (h : n ≤ g) : Below n W (W.setRow g cs) := ⟨rfl, rfl, rfl, by simp [World.setRow], fun k hk => setRow_ne (by omega)⟩
/-- Bytes that are gathered. -/
def BytO (W : World) (B : Nat) (v : Value) (bs : List UInt8) : Prop := W.ownsRow B 5 1 v bs.length (bs.map fun x => Value.int .u8 ((x.toNat : Nat) : Int))
theorem BytO.own {W : World} {B : Nat} {v : Value} {bs : List UInt8} (h : BytO W B v bs) : ∀ k, v.ownBlock = some k → B ≤ k := fun k hk => (World.ownsRow.lt h k hk).1
theorem BytO.below {W W' : World} {B : Nat} {v : Value} {bs : List UInt8} (h : BytO W B v bs) (hb : Below W.heap.size W W') : BytO W' B v bs :=
  ⟨h.1, h.2.imp id fun ⟨g, cap, cur, h3, h4, h5, h6⟩ => ⟨g, cap, cur, h3, h4, heap_below hb h5 (heap_lt h5), h6⟩⟩
theorem infoU8 : (Tryz.prog.info? 5).map (fun i => (i.zero, i.size, i.bytes)) = some (some (.int .u8 0), 1, 1) := by kernel_rfl
theorem wp_app_two {ops : Array Oper} {rest : List Oper} {o : Oper} {a : Act} {w : World} {Q : Exit → Act → World → Prop} (hgd : o.guard = none) (s x : Operand)
    (ho : o.op = .call { callee := .builtin .append, args := #[s, x], argTypes := #[78, 78] }) (B : Nat) (v : Value) (bs : List UInt8) (hs : a.eval s = v) (hown : BytO w B v bs)
    (c d : UInt8) (g : Nat) (hx : a.eval x = .slice (some ⟨g, 0, none⟩) 2 2) (hc : w.heap[g]? = some (.cells #[.int .u8 ((c.toNat : Nat) : Int), .int .u8 ((d.toNat : Nat) : Int)] 5 (0, 0))) (hlen : bs.length < 1000000000) (hB : B ≤ w.heap.size)
    (h : ∀ v' w', BytO w' B v' (bs ++ [c, d]) → w.grownBy w' v.ownBlock → wpList Tryz.prog ops Q rest (a.put o.dst v') w') : wpList Tryz.prog ops Q (o :: rest) a w := by
  obtain ⟨i0, hi, hz0, hz1, hz2⟩ := info_parts infoU8
  refine wpList_append_own w hgd s x 78 ho B 5 i0 (.int .u8 0) 1 1 Tryz.underlying78 hi hz0 hz1 hz2 rfl (by decide) v bs.length _ hs hown ⟨g, 0, none⟩ 2 2 [.int .u8 ((c.toNat : Nat) : Int), .int .u8 ((d.toNat : Nat) : Int)] hx rfl
    (fun j u hj => by
      rw [show (⟨g, 0, none⟩ : Addr).add j = ⟨g, j, none⟩ by unfold Addr.add; split <;> simp_all, cell_of_row _ _ j _ _ (0, 0) hc]
      simpa using hj) (fun u hu => by
      simp at hu
      rcases hu with rfl | rfl <;> rfl) (by unfold maxLen; omega) (by omega) hB ?_
  intro v' w' h1 h2 _
  refine h v' w' ?_ h2
  unfold BytO
  simpa using h1
theorem exec_quo16 {ev : Operand → Value} {o : Oper} {x y : Operand} {c : Nat} {W : World} (ho : o.op = .binOp .quo 3 x y 3) (hx : ev x = .int .i64 ((c : Nat) : Int)) (hy : ev y = .int .i64 16) (hc : c < 256) : (execOp ev o).run Tryz.prog W = .ok (.value (.int .i64 ((c / 16 : Nat) : Int))) W := by
  have htq : Int.tdiv ((c : Nat) : Int) 16 = ((c / 16 : Nat) : Int) := by rw [Int.tdiv_eq_ediv_of_nonneg (by omega)]; rfl
  obtain ⟨r, hr⟩ : ∃ r, c / 16 = r := ⟨_, rfl⟩
  rw [hr] at htq ⊢
  have htr : IntKind.i64.wrap ((r : Nat) : Int) = ((r : Nat) : Int) := IntWalk.i64_in _ (by omega)
  clear hr
  simp [execOp, ho, hx, hy]
  go_simp
theorem exec_rem16 {ev : Operand → Value} {o : Oper} {x y : Operand} {c : Nat} {W : World} (ho : o.op = .binOp .rem 3 x y 3) (hx : ev x = .int .i64 ((c : Nat) : Int)) (hy : ev y = .int .i64 16) (hc : c < 256) : (execOp ev o).run Tryz.prog W = .ok (.value (.int .i64 ((c % 16 : Nat) : Int))) W := by
  have htq : Int.tmod ((c : Nat) : Int) 16 = ((c % 16 : Nat) : Int) := tmod_nat c 16
  obtain ⟨r, hr⟩ : ∃ r, c % 16 = r := ⟨_, rfl⟩
  rw [hr] at htq ⊢
  have htr : IntKind.i64.wrap ((r : Nat) : Int) = ((r : Nat) : Int) := IntWalk.i64_in _ (by omega)
  clear hr
  simp [execOp, ho, hx, hy]
  go_simp
theorem dig16 (d : Nat) (h : d < 16) : (((⟨#[48, 49, 50, 51, 52, 53, 54, 55, 56, 57, 97, 98, 99, 100, 101, 102]⟩ : ByteArray).data.toList).map UInt8.toNat)[d]? = some (hexD d).toNat := by
  have : ∀ d : Fin 16, (((⟨#[48, 49, 50, 51, 52, 53, 54, 55, 56, 57, 97, 98, 99, 100, 101, 102]⟩ : ByteArray).data.toList).map UInt8.toNat)[d.1]? = some (hexD d.1).toNat := by decide
  exact this ⟨d, h⟩
theorem exec_bs2 {ev : Operand → Value} {o : Oper} {x y : Operand} {c d : Int} {W : World} (ho : o.op = .buildSlice 78 2 #[(0, x), (1, y)]) (hx : ev x = .int .u8 c) (hy : ev y = .int .u8 d) : (execOp ev o).run Tryz.prog W = .ok (.value (.slice (some ⟨W.heap.size, 0, none⟩) 2 2)) (W.alloc (.cells #[.int .u8 c, .int .u8 d] 5)) := by
  simp [execOp, ho, hx, hy]
  go_simp
def DR (vals : List Value) (c d : Value) (j : Nat) (v : Value) (W : World) : Prop := if j = 11 then ∃ q, v = .slice (some ⟨q, 0, none⟩) 2 2 ∧ W.heap[q]? = some (.cells #[c, d] 5 (0, 0)) else v = vals.getD j undef
theorem DR.mono {vals : List Value} {c d : Value} : ∀ j v w w', Below w.heap.size w w' → DR vals c d j v w → DR vals c d j v w' := fun j v w w' hb h => by
  unfold DR at h ⊢
  split
  · rename_i e
    rw [if_pos e] at h
    obtain ⟨q, h1, h2⟩ := h
    exact ⟨q, h1, heap_below hb h2 (heap_lt h2)⟩
  · rename_i e
    rw [if_neg e] at h
    exact h
theorem A8 : ArrT Tryz.prog 77 8 := ⟨⟨8, 3, Tryz.underlying77⟩, by kernel_rfl⟩
/-- The bytes and the prime. -/
structure HH (V : World) (g : Nat) (f : Nat → Nat) : Prop where
  h : V.heap[g]? = some (.cells (irow 8 (cst f)) 77 (0, 0))
  p : V.heap[g + 1]? = some (.cells (irow 8 (cst P8)) 77 (0, 0))
theorem HH.below {V V' : World} {g : Nat} {f : Nat → Nat} (h : HH V g f) (hb : Below V.heap.size V V') : HH V' g f := ⟨heap_below hb h.h (heap_lt h.h), heap_below hb h.p (heap_lt h.p)⟩
theorem HH.set {V : World} {g : Nat} {f : Nat → Nat} (h : HH V g f) (x : Nat) : HH (V.setCell ⟨g, 0, none⟩ (.int .i64 ((x : Nat) : Int))) g (upN f 0 x) :=
  ⟨by rw [← upd_cst]; exact set_irow h.h 0 _, (heap_setCell_other _ ⟨g, 0, none⟩ (g + 1) _ (show g + 1 ≠ g by omega)).trans h.p⟩
theorem HH.other {V : World} {g k i : Nat} {f : Nat → Nat} {u : Value} (h : HH V g f) (hk : g + 1 < k) : HH (V.setCell ⟨k, i, none⟩ u) g f :=
  ⟨(heap_setCell_other _ ⟨k, i, none⟩ g _ (show g ≠ k by omega)).trans h.h, (heap_setCell_other _ ⟨k, i, none⟩ (g + 1) _ (show g + 1 ≠ k by omega)).trans h.p⟩
set_option maxHeartbeats 8000000 in
theorem rhash_c (s : ByteArray) (hs : s.size ≤ 1000000) (w : World) :
    Calls Tryz.prog 9 #[.string s] w fun e w' => e = .returned (.string ⟨(hashL s.data.toList).toArray⟩) ∧ Below w.heap.size w w' := by
  obtain ⟨l, hl⟩ : ∃ l, s.data.toList = l := ⟨_, rfl⟩
  obtain ⟨m, hm⟩ : ∃ m, s.size = m := ⟨_, rfl⟩
  have hlm : l.length = m := by rw [← hl, Array.length_toList, ← hm]; rfl
  have hm63 : m ≤ 1000000 := by omega
  rw [hl]
  have HL := hid hl
  have HLM := hid hlm
  obtain ⟨bs, hbs⟩ : ∃ bs, hashL l = bs := ⟨_, rfl⟩
  rw [hbs]
  have HBS := hid hbs
  clear hbs
  have HM := hid hm
  clear hl hlm hs
  have e1 : (#[.int .i64 37, .int .i64 35, .int .i64 34, .int .i64 132, .int .i64 228, .int .i64 156, .int .i64 242, .int .i64 203] : Array Value) = irow 8 (cst h8) := by kernel_rfl
  have e2 : (#[.int .i64 179, .int .i64 1, .int .i64 0, .int .i64 0, .int .i64 0, .int .i64 1, .int .i64 0, .int .i64 0] : Array Value) = irow 8 (cst P8) := by kernel_rfl
  have h1 : ((w.alloc (.cells (irow 8 (cst h8)) 77)).alloc (.cells (irow 8 (cst P8)) 77)).heap[w.heap.size]? = _ := alloc2_first w _ _
  have h2 := alloc2_second w (.cells (irow 8 (cst h8)) 77) (.cells (irow 8 (cst P8)) 77)
  have hb := below2 w (.cells (irow 8 (cst h8)) 77) (.cells (irow 8 (cst P8)) 77)
  have HX := hid (And.intro (HH.mk h1 h2) hb)
  have HE := hid (And.intro e1 e2)
  clear h1 h2 hb e1 e2
  go_enter Tryz.func9, Tryz.ntmps9
  go_upto_region 3 with fail
  rw [HE.out.1, HE.out.2]
  generalize (w.alloc (.cells (irow 8 (cst h8)) 77)).alloc (.cells (irow 8 (cst P8)) 77) = W1 at HX ⊢
  obtain ⟨g, hg⟩ : ∃ g, w.heap.size = g := ⟨_, rfl⟩
  rw [hg] at HX ⊢
  have HG := hid hg
  clear hg HE
  go_wp2_with fail
  go_loopw [5] (fun ix wr => ∃ i : Nat, i ≤ m ∧ ix = .int .i64 ((i : Nat) : Int) ∧ HH wr g (rndL h8 (l.take i)) ∧ Below g w wr) (fun ix _ => m - (intOf ix).toNat)
  case atStart => exact ⟨0, by omega, rfl, HX.out.1, HX.out.2⟩
  case round =>
    clear HX
    obtain ⟨i, hi, rfl, hh, hb⟩ := hrel
    have hgs : g + 1 < wr.heap.size := heap_lt hh.p
    rcases Nat.lt_or_ge i m with hlt | hge
    · have hin : decide (((i : Nat) : Int) < ((m : Nat) : Int)) = true := decide_eq_true (by omega)
      have hin' : ((i : Nat) : Int) < ((m : Nat) : Int) := by omega
      have hiw : IntKind.i64.wrap (((i : Nat) : Int) + 1) = ((i + 1 : Nat) : Int) := (IntWalk.i64_in _ (by omega)).trans (by omega)
      obtain ⟨cb, hcb⟩ : ∃ c, l[i]? = some c := ⟨_, List.getElem?_eq_getElem (by rw [HLM.out]; exact hlt)⟩
      obtain ⟨c, hc⟩ : ∃ c, cb.toNat = c := ⟨_, rfl⟩
      have hsi : (s.data.toList.map UInt8.toNat)[i]? = some c := by rw [HL.out, List.getElem?_map, hcb, ← hc]; rfl
      have hc256 : c < 256 := hc ▸ cb.toNat_lt
      obtain ⟨f, hf⟩ : ∃ f, rndL h8 (l.take i) = f := ⟨_, rfl⟩
      have hnext : rndL h8 (l.take (i + 1)) = rnd f c := by
        rw [List.take_add_one, hcb, rndL_app, hf, ← hc]
        rfl
      have hlt8 : ∀ j, j < 8 → f j < 256 := hf ▸ (rndL_val (l.take i) h8 fun j _ => h8_lt j).2
      rw [hf] at hh
      obtain ⟨f0, hf0⟩ : ∃ x, f 0 = x := ⟨_, rfl⟩
      have hf256 : f0 < 256 := hf0 ▸ hlt8 0 (by omega)
      have hid0 : ∀ w', Below wr.heap.size wr w' → w'.cell? ⟨g, 0, none⟩ = some (.int .i64 ((f0 : Nat) : Int)) := fun w' hb' => by
        have := cell_irow (heap_below hb' hh.h (heap_lt hh.h)) 0 (by omega)
        rw [this]
        show some (Value.int .i64 ((f 0 : Nat) : Int)) = _
        rw [hf0]
      have hid1 : ∀ w', Below wr.heap.size wr w' → HH w' g f := fun w' hb' => hh.below hb'
      have HNX := hid hnext
      have HF8 := hid hlt8
      have HF0 := hid hf0
      have HBR := hid hb
      clear hh hb hcb hc hf hnext hlt8
      go_wp2_with fail
      refine grow_vals 8 [21, 22, 23, 24, 25, 26, 27, 28] [(.pointer (some ⟨g, 0, none⟩)), (.int .i64 ((f0 : Nat) : Int)), (.string s), (.int .i64 ((i : Nat) : Int)), (.int .u8 ((c : Nat) : Int)), (.int .i64 ((c : Nat) : Int)), (.int .i64 (((f0 ^^^ c) : Nat) : Int)), (.pointer (some ⟨g, 0, none⟩))] (by kernel_rfl) (by kernel_rfl) ?_ ?_
      · intro jq oj hjq hoj a' w' hb' he hdep Kq hKq
        have c0 := hid0 w' hb'
        have hjq' : jq = 0 ∨ jq = 1 ∨ jq = 2 ∨ jq = 3 ∨ jq = 4 ∨ jq = 5 ∨ jq = 6 ∨ jq = 7 := by omega
        rcases hjq' with rfl | rfl | rfl | rfl | rfl | rfl | rfl | rfl
        · obtain rfl := Option.some.inj hoj
          exact wpO_val _ (exec_ixA0 rfl ((he 3 (by decide)).trans rfl : a'.eval (.tmp 3) = (.pointer (some ⟨g, 0, none⟩))) rfl) (hKq _ (Below.refl _ _))
        · obtain rfl := Option.some.inj hoj
          exact wpO_val _ (exec_ldcellB rfl (hdep ⟨0, .data⟩ (by simp) rfl : a'.eval (.tmp 21) = (.pointer (some ⟨g, 0, none⟩))) c0) (hKq _ (Below.refl _ _))
        · obtain rfl := Option.some.inj hoj
          exact wpO_val _ (exec_mv rfl ((he 0 (by decide)).trans rfl : a'.eval (.tmp 0) = (.string s))) (hKq _ (Below.refl _ _))
        · obtain rfl := Option.some.inj hoj
          exact wpO_val _ (exec_mv rfl ((he 5 (by decide)).trans rfl : a'.eval (.tmp 5) = (.int .i64 ((i : Nat) : Int)))) (hKq _ (Below.refl _ _))
        · obtain rfl := Option.some.inj hoj
          exact wpO_val _ (exec_ixS rfl (hdep ⟨2, .data⟩ (by simp) rfl : a'.eval (.tmp 23) = (.string s)) (hdep ⟨3, .data⟩ (by simp) rfl : a'.eval (.tmp 24) = (.int .i64 ((i : Nat) : Int))) hsi) (hKq _ (Below.refl _ _))
        · obtain rfl := Option.some.inj hoj
          exact wpO_val _ (exec_cv8 rfl (hdep ⟨4, .data⟩ (by simp) rfl : a'.eval (.tmp 25) = (.int .u8 ((c : Nat) : Int))) hc256) (hKq _ (Below.refl _ _))
        · obtain rfl := Option.some.inj hoj
          exact wpO_val _ (exec_xor rfl (hdep ⟨1, .data⟩ (by simp) rfl : a'.eval (.tmp 22) = (.int .i64 ((f0 : Nat) : Int))) (hdep ⟨5, .data⟩ (by simp) rfl : a'.eval (.tmp 26) = (.int .i64 ((c : Nat) : Int))) hf256 hc256) (hKq _ (Below.refl _ _))
        · obtain rfl := Option.some.inj hoj
          exact wpO_val _ (exec_ixA0 rfl ((he 3 (by decide)).trans rfl : a'.eval (.tmp 3) = (.pointer (some ⟨g, 0, none⟩))) rfl) (hKq _ (Below.refl _ _))
      · intro w6 hb6
        simp only [puts, Act.put, List.setIfInBounds_toArray, List.set_cons_zero, List.set_cons_succ, List.drop_succ_cons, List.drop_zero, Nat.zero_add, Nat.reduceAdd, List.getD_cons_zero, List.getD_cons_succ]
        have hst := hid1 w6 hb6
        have hcs := cell_irow hst.h 0 (by omega)
        have hfz := frozen_of_row _ _ 0 _ _ hst.h
        have HST := hid hst
        have HB6 := hid hb6
        clear hst hb6
        have HB7 := hid (HBR.out.trans (HB6.out.mono (by omega)))
        have hs7 := HST.out.set (f0 ^^^ c)
        have hb7 : Below g w (w6.setCell ⟨g, 0, none⟩ (.int .i64 ((f0 ^^^ c : Nat) : Int))) := HB7.out.setCell (p := ⟨g, 0, none⟩) (Nat.le_refl g) _
        rw [show upN f 0 (f0 ^^^ c) = upN f 0 (f 0 ^^^ c) by rw [HF0.out]] at hs7
        obtain ⟨f1, hf1⟩ : ∃ f1, upN f 0 (f 0 ^^^ c) = f1 := ⟨_, rfl⟩
        rw [hf1] at hs7
        have hf8 : ∀ j, j < 8 → f1 j < 256 := fun j hj => by
          rw [← hf1]
          unfold upN
          split
          · rw [HF0.out]; exact Nat.xor_lt_two_pow (n := 8) hf256 hc256
          · exact HF8.out j hj
        have hrn : rnd f c = nxtN (mulO f1 8) 8 := by rw [← hf1]; rfl
        go_upto_region 7 with fail
        generalize w6.setCell ⟨g, 0, none⟩ (.int .i64 ((f0 ^^^ c : Nat) : Int)) = w7 at hs7 hb7 ⊢
        have HS7 := hid hs7
        have HB8 := hid hb7
        have HF9 := hid hf8
        have HRN := hid (And.intro hrn HNX.out)
        clear hs7 hb7 hf8 hrn hf1 HF8 HF0 HNX HST HB6 HB7 HBR hcs hfz hid0 hid1 hsi
        have hkg : g + 1 < w7.heap.size := heap_lt HS7.out.p
        go_upto_region 8 with fail
        rw [show (#[.int .i64 0, .int .i64 0, .int .i64 0, .int .i64 0, .int .i64 0, .int .i64 0, .int .i64 0, .int .i64 0] : Array Value) = irow 8 (cst (mulO f1 0)) from rfl]
        have hk := heap_alloc_new w7 (.cells (irow 8 (cst (mulO f1 0))) 77)
        have hal : Below w7.heap.size w7 (w7.alloc (.cells (irow 8 (cst (mulO f1 0))) 77)) := (Below.refl _ _).alloc (Nat.le_refl _) _
        have hs8 := HS7.out.below hal
        have hb8 := HB8.out.trans (hal.mono (by omega))
        obtain ⟨k, hk'⟩ : ∃ k, w7.heap.size = k := ⟨_, rfl⟩
        rw [hk'] at hk hkg ⊢
        generalize w7.alloc (.cells (irow 8 (cst (mulO f1 0))) 77) = W8 at hk hs8 hb8 ⊢
        have HK := hid hk
        have HS8 := hid hs8
        have HB9 := hid hb8
        clear hk hk' hal hs8 hb8 HS7 HB8
        go_wp2_with fail
        go_loopw [7] (fun ax wr => ∃ a : Nat, a ≤ 8 ∧ ax = .int .i64 ((a : Nat) : Int) ∧ HH wr g f1 ∧ wr.heap[k]? = some (.cells (irow 8 (cst (mulO f1 a))) 77 (0, 0)) ∧ Below g w wr) (fun ax _ => 8 - (intOf ax).toNat)
        case atStart => exact ⟨0, by omega, rfl, HS8.out, HK.out, HB9.out⟩
        case round =>
          clear HK HS8 HB9
          obtain ⟨a, ha, rfl, hh, hn, hb⟩ := hrel
          rcases Nat.lt_or_ge a 8 with hlta | hgea
          · have hina : decide (((a : Nat) : Int) < 8) = true := decide_eq_true (by omega)
            have hina' : ((a : Nat) : Int) < 8 := by omega
            have haw : IntKind.i64.wrap (((a : Nat) : Int) + 1) = ((a + 1 : Nat) : Int) := (IntWalk.i64_in _ (by omega)).trans (by omega)
            have HH0 := hid (And.intro hh (And.intro hn hb))
            clear hh hn hb
            go_wp2_with fail
            go_loopw [8] (fun bx wr => ∃ b : Nat, a + b ≤ 8 ∧ bx = .int .i64 ((b : Nat) : Int) ∧ HH wr g f1 ∧ wr.heap[k]? = some (.cells (irow 8 (cst (mulI f1 a (mulO f1 a) b))) 77 (0, 0)) ∧ Below g w wr) (fun bx _ => 8 - (intOf bx).toNat)
            case atStart => exact ⟨0, by omega, rfl, HH0.out.1, HH0.out.2.1, HH0.out.2.2⟩
            case round =>
              clear HH0
              obtain ⟨b, hab8, rfl, hh, hn, hb⟩ := hrel
              have hgs2 : g + 1 < wr.heap.size := heap_lt hh.p
              obtain ⟨ab, hab⟩ : ∃ ab, a + b = ab := ⟨_, rfl⟩
              have habw : IntKind.i64.wrap (((a : Nat) : Int) + ((b : Nat) : Int)) = ((ab : Nat) : Int) := (IntWalk.i64_in _ (by omega)).trans (by omega)
              have hbw1 : IntKind.i64.wrap (((b : Nat) : Int) + 1) = ((b + 1 : Nat) : Int) := (IntWalk.i64_in _ (by omega)).trans (by omega)
              rcases Nat.lt_or_ge ab 8 with hltb | hgeb
              · have hinb : decide (((ab : Nat) : Int) < 8) = true := decide_eq_true (by omega)
                have hinb' : ((ab : Nat) : Int) < 8 := by omega
                obtain ⟨x, hx⟩ : ∃ x, mulI f1 a (mulO f1 a) b ab = x := ⟨_, rfl⟩
                obtain ⟨y, hy⟩ : ∃ y, f1 a = y := ⟨_, rfl⟩
                obtain ⟨p, hp⟩ : ∃ p, P8 b = p := ⟨_, rfl⟩
                obtain ⟨yp, hyp⟩ : ∃ yp, y * p = yp := ⟨_, rfl⟩
                obtain ⟨z, hz⟩ : ∃ z, x + yp = z := ⟨_, rfl⟩
                have hxb : x ≤ 8 * 365160 + 8 * 45645 := by
                  have h1 := mulI_le f1 a (mulO f1 a) (a * 365160) (HF9.out a (by omega)) (mulO_le f1 HF9.out a (by omega)) b ab
                  rw [hx] at h1
                  have h2 : a * 365160 ≤ 8 * 365160 := Nat.mul_le_mul_right _ (by omega)
                  have h3 : b * 45645 ≤ 8 * 45645 := Nat.mul_le_mul_right _ (by omega)
                  exact Nat.le_trans h1 (Nat.add_le_add h2 h3)
                have hypb : yp ≤ 255 * 179 := by
                  rw [← hyp]
                  exact Nat.mul_le_mul (by have := HF9.out a (by omega); omega) (hp ▸ P8_le b)
                have hnext : mulI f1 a (mulO f1 a) (b + 1) = upN (mulI f1 a (mulO f1 a) b) ab z := by
                  rw [mulI, hab, hx, hy, hp, hyp, hz]
                have hid0 : ∀ w', Below wr.heap.size wr w' → w'.cell? ⟨k, ab, none⟩ = some (.int .i64 ((x : Nat) : Int)) ∧ w'.cell? ⟨g, a, none⟩ = some (.int .i64 ((y : Nat) : Int)) ∧ w'.cell? ⟨g + 1, b, none⟩ = some (.int .i64 ((p : Nat) : Int)) := fun w' hb' => by
                  rw [cell_irow (heap_below hb' hn (heap_lt hn)) ab hltb, cell_irow (heap_below hb' hh.h (heap_lt hh.h)) a hlta, cell_irow (heap_below hb' hh.p (heap_lt hh.p)) b (by omega), ← hx, ← hy, ← hp]
                  exact ⟨rfl, rfl, rfl⟩
                have hid1 : ∀ w', Below wr.heap.size wr w' → HH w' g f1 ∧ w'.heap[k]? = some (.cells (irow 8 (cst (mulI f1 a (mulO f1 a) b))) 77 (0, 0)) := fun w' hb' => ⟨hh.below hb', heap_below hb' hn (heap_lt hn)⟩
                have HNX := hid hnext
                have HBR := hid hb
                have hxy : x + yp ≤ 1000000000 := by omega
                clear hh hn hb hx hy hp hnext
                go_wp2_with fail
                refine grow_vals 14 [40, 41, 42, 43, 44, 45, 46, 47, 48, 49, 50, 51, 52, 53] [(.int .i64 ((a : Nat) : Int)), (.int .i64 ((b : Nat) : Int)), (.int .i64 ((ab : Nat) : Int)), (.pointer (some ⟨k, ab, none⟩)), (.int .i64 ((x : Nat) : Int)), (.int .i64 ((a : Nat) : Int)), (.pointer (some ⟨g, a, none⟩)), (.int .i64 ((y : Nat) : Int)), (.int .i64 ((b : Nat) : Int)), (.pointer (some ⟨(g + 1), b, none⟩)), (.int .i64 ((p : Nat) : Int)), (.int .i64 ((yp : Nat) : Int)), (.int .i64 ((z : Nat) : Int)), (.pointer (some ⟨k, ab, none⟩))] (by kernel_rfl) (by kernel_rfl) ?_ ?_
                · intro jq oj hjq hoj a' w' hb' he hdep Kq hKq
                  obtain ⟨c0, c1, c2⟩ := hid0 w' hb'
                  have hjq' : jq = 0 ∨ jq = 1 ∨ jq = 2 ∨ jq = 3 ∨ jq = 4 ∨ jq = 5 ∨ jq = 6 ∨ jq = 7 ∨ jq = 8 ∨ jq = 9 ∨ jq = 10 ∨ jq = 11 ∨ jq = 12 ∨ jq = 13 := by omega
                  rcases hjq' with rfl | rfl | rfl | rfl | rfl | rfl | rfl | rfl | rfl | rfl | rfl | rfl | rfl | rfl
                  · obtain rfl := Option.some.inj hoj
                    exact wpO_val _ (exec_mv rfl ((he 7 (by decide)).trans rfl : a'.eval (.tmp 7) = (.int .i64 ((a : Nat) : Int)))) (hKq _ (Below.refl _ _))
                  · obtain rfl := Option.some.inj hoj
                    exact wpO_val _ (exec_mv rfl ((he 8 (by decide)).trans rfl : a'.eval (.tmp 8) = (.int .i64 ((b : Nat) : Int)))) (hKq _ (Below.refl _ _))
                  · obtain rfl := Option.some.inj hoj
                    exact wpO_val _ (exec_addN rfl (hdep ⟨0, .data⟩ (by simp) rfl : a'.eval (.tmp 40) = (.int .i64 ((a : Nat) : Int))) (hdep ⟨1, .data⟩ (by simp) rfl : a'.eval (.tmp 41) = (.int .i64 ((b : Nat) : Int))) hab (by omega)) (hKq _ (Below.refl _ _))
                  · obtain rfl := Option.some.inj hoj
                    exact wpO_val _ (exec_ixA rfl ((he 6 (by decide)).trans rfl : a'.eval (.tmp 6) = (.pointer (some ⟨k, 0, none⟩))) (hdep ⟨2, .data⟩ (by simp) rfl : a'.eval (.tmp 42) = (.int .i64 ((ab : Nat) : Int))) (by omega)) (hKq _ (Below.refl _ _))
                  · obtain rfl := Option.some.inj hoj
                    exact wpO_val _ (exec_ldcellB rfl (hdep ⟨3, .data⟩ (by simp) rfl : a'.eval (.tmp 43) = (.pointer (some ⟨k, ab, none⟩))) c0) (hKq _ (Below.refl _ _))
                  · obtain rfl := Option.some.inj hoj
                    exact wpO_val _ (exec_mv rfl ((he 7 (by decide)).trans rfl : a'.eval (.tmp 7) = (.int .i64 ((a : Nat) : Int)))) (hKq _ (Below.refl _ _))
                  · obtain rfl := Option.some.inj hoj
                    exact wpO_val _ (exec_ixA rfl ((he 3 (by decide)).trans rfl : a'.eval (.tmp 3) = (.pointer (some ⟨g, 0, none⟩))) (hdep ⟨5, .data⟩ (by simp) rfl : a'.eval (.tmp 45) = (.int .i64 ((a : Nat) : Int))) (by omega)) (hKq _ (Below.refl _ _))
                  · obtain rfl := Option.some.inj hoj
                    exact wpO_val _ (exec_ldcellB rfl (hdep ⟨6, .data⟩ (by simp) rfl : a'.eval (.tmp 46) = (.pointer (some ⟨g, a, none⟩))) c1) (hKq _ (Below.refl _ _))
                  · obtain rfl := Option.some.inj hoj
                    exact wpO_val _ (exec_mv rfl ((he 8 (by decide)).trans rfl : a'.eval (.tmp 8) = (.int .i64 ((b : Nat) : Int)))) (hKq _ (Below.refl _ _))
                  · obtain rfl := Option.some.inj hoj
                    exact wpO_val _ (exec_ixA rfl ((he 4 (by decide)).trans rfl : a'.eval (.tmp 4) = (.pointer (some ⟨(g + 1), 0, none⟩))) (hdep ⟨8, .data⟩ (by simp) rfl : a'.eval (.tmp 48) = (.int .i64 ((b : Nat) : Int))) (by omega)) (hKq _ (Below.refl _ _))
                  · obtain rfl := Option.some.inj hoj
                    exact wpO_val _ (exec_ldcellB rfl (hdep ⟨9, .data⟩ (by simp) rfl : a'.eval (.tmp 49) = (.pointer (some ⟨(g + 1), b, none⟩))) c2) (hKq _ (Below.refl _ _))
                  · obtain rfl := Option.some.inj hoj
                    exact wpO_val _ (exec_mulN rfl (hdep ⟨7, .data⟩ (by simp) rfl : a'.eval (.tmp 47) = (.int .i64 ((y : Nat) : Int))) (hdep ⟨10, .data⟩ (by simp) rfl : a'.eval (.tmp 50) = (.int .i64 ((p : Nat) : Int))) hyp (by omega)) (hKq _ (Below.refl _ _))
                  · obtain rfl := Option.some.inj hoj
                    exact wpO_val _ (exec_addN rfl (hdep ⟨4, .data⟩ (by simp) rfl : a'.eval (.tmp 44) = (.int .i64 ((x : Nat) : Int))) (hdep ⟨11, .data⟩ (by simp) rfl : a'.eval (.tmp 51) = (.int .i64 ((yp : Nat) : Int))) hz (by omega)) (hKq _ (Below.refl _ _))
                  · obtain rfl := Option.some.inj hoj
                    exact wpO_val _ (exec_ixA rfl ((he 6 (by decide)).trans rfl : a'.eval (.tmp 6) = (.pointer (some ⟨k, 0, none⟩))) (hdep ⟨2, .data⟩ (by simp) rfl : a'.eval (.tmp 42) = (.int .i64 ((ab : Nat) : Int))) (by omega)) (hKq _ (Below.refl _ _))
                · intro w6 hb6
                  simp only [puts, Act.put, List.setIfInBounds_toArray, List.set_cons_zero, List.set_cons_succ, List.drop_succ_cons, List.drop_zero, Nat.zero_add, Nat.reduceAdd, List.getD_cons_zero, List.getD_cons_succ]
                  have hst := hid1 w6 hb6
                  have hcs := cell_irow hst.2 ab (by omega)
                  have hfz := frozen_of_row _ _ ab _ _ hst.2
                  have HST := hid hst
                  have HB6 := hid hb6
                  clear hst hb6
                  have hs7 : HH (w6.setCell ⟨k, ab, none⟩ (.int .i64 ((z : Nat) : Int))) g f1 := HST.out.1.other hkg
                  have hk7 : (w6.setCell ⟨k, ab, none⟩ (.int .i64 ((z : Nat) : Int))).heap[k]? = some (.cells (irow 8 (cst (mulI f1 a (mulO f1 a) (b + 1)))) 77 (0, 0)) := by
                    rw [set_irow HST.out.2 ab, upd_cst, HNX.out]
                  have hb7 : Below g w (w6.setCell ⟨k, ab, none⟩ (.int .i64 ((z : Nat) : Int))) := (HBR.out.trans (HB6.out.mono (by omega))).setCell (p := ⟨k, ab, none⟩) (show g ≤ k by omega) _
                  have HS9 := hid (And.intro hs7 (And.intro hk7 hb7))
                  clear hs7 hk7 hb7
                  go_wp2_with fail
                  go_roundw
                  case rel => exact ⟨b + 1, by omega, rfl, HS9.out.1, HS9.out.2.1, HS9.out.2.2⟩
                  case measure => simp only [intOf, Int.toNat_natCast]; omega
              · have hinb : ¬ ((ab : Nat) : Int) < 8 := by omega
                have hbe : b = 8 - a := by omega
                have hn2 : wr.heap[k]? = some (.cells (irow 8 (cst (mulO f1 (a + 1)))) 77 (0, 0)) := by rw [hn, hbe]; rfl
                have HH1 := hid (And.intro hh (And.intro hn2 hb))
                clear hh hn hb hn2
                go_wp2_with fail
                go_roundw
                case rel => exact ⟨a + 1, by omega, rfl, HH1.out.1, HH1.out.2.1, HH1.out.2.2⟩
                case measure => simp only [intOf, Int.toNat_natCast]; omega
          · obtain rfl : a = 8 := by omega
            have hina : ¬ ((8 : Nat) : Int) < 8 := by omega
            obtain ⟨N, hN⟩ : ∃ N, mulO f1 8 = N := ⟨_, rfl⟩
            have hNb : ∀ j, N j ≤ 3000000 := fun j => by
              have := mulO_le f1 HF9.out 8 (Nat.le_refl _) j
              rw [hN] at this
              exact Nat.le_trans this (by decide)
            rw [hN] at hn
            have HN := hid hN
            have HNB := hid hNb
            have HH2 := hid (And.intro hh (And.intro hn hb))
            clear hh hn hb hN hNb
            go_wp2_with fail
            go_loopw [9, 10] (fun cx ax wr => ∃ a : Nat, a ≤ 8 ∧ ax = .int .i64 ((a : Nat) : Int) ∧ cx = .int .i64 ((carN N a : Nat) : Int) ∧ HH wr g f1 ∧ wr.heap[k]? = some (.cells (irow 8 (cst (nxtN N a))) 77 (0, 0)) ∧ Below g w wr) (fun _ ax _ => 8 - (intOf ax).toNat)
            case atStart => exact ⟨0, by omega, rfl, rfl, HH2.out.1, by rw [nxtN_zero]; exact HH2.out.2.1, HH2.out.2.2⟩
            case round =>
              clear HH2
              obtain ⟨a, ha, rfl, rfl, hh, hn, hb⟩ := hrel
              rcases Nat.lt_or_ge a 8 with hlta | hgea
              · have hinc : decide (((a : Nat) : Int) < 8) = true := decide_eq_true (by omega)
                have hinc' : ((a : Nat) : Int) < 8 := by omega
                have ha0 : (0 : Int) ≤ ((a : Nat) : Int) := by omega
                have haw : IntKind.i64.wrap (((a : Nat) : Int) + 1) = ((a + 1 : Nat) : Int) := (IntWalk.i64_in _ (by omega)).trans (by omega)
                obtain ⟨q, hq⟩ : ∃ q, carN N a = q := ⟨_, rfl⟩
                obtain ⟨x, hx⟩ : ∃ x, N a = x := ⟨_, rfl⟩
                obtain ⟨t, ht⟩ : ∃ t, q + x = t := ⟨_, rfl⟩
                have hqb : q ≤ 3000000 := hq ▸ carN_le N 3000000 HNB.out a
                have hxb : x ≤ 3000000 := hx ▸ HNB.out a
                have htw : IntKind.i64.wrap (((q : Nat) : Int) + ((x : Nat) : Int)) = ((t : Nat) : Int) := (IntWalk.i64_in _ (by omega)).trans (by omega)
                have htm : Int.tmod ((t : Nat) : Int) 256 = ((t % 256 : Nat) : Int) := tmod_nat t 256
                have htq : Int.tdiv ((t : Nat) : Int) 256 = ((t / 256 : Nat) : Int) := by rw [Int.tdiv_eq_ediv_of_nonneg (by omega)]; rfl
                obtain ⟨r1, hr1⟩ : ∃ r, t % 256 = r := ⟨_, rfl⟩
                obtain ⟨r2, hr2⟩ : ∃ r, t / 256 = r := ⟨_, rfl⟩
                rw [hr1] at htm
                rw [hr2] at htq
                have htr : IntKind.i64.wrap ((r1 : Nat) : Int) = ((r1 : Nat) : Int) := IntWalk.i64_in _ (by omega)
                have htr2 : IntKind.i64.wrap ((r2 : Nat) : Int) = ((r2 : Nat) : Int) := IntWalk.i64_in _ (by omega)
                have hce := cell_irow hn a hlta
                rw [show cst (nxtN N a) a = ((x : Nat) : Int) from (by show ((nxtN N a a : Nat) : Int) = _; rw [← hx]; simp [nxtN])] at hce
                have hfz := frozen_of_row _ _ a _ _ hn
                have hup : upN (nxtN N a) a r1 = nxtN N (a + 1) := by rw [← nxtN_succ, hq, hx, ht, hr1]
                have hcq : carN N (a + 1) = r2 := by rw [carN, hq, hx, ht, hr2]
                have HUP := hid (And.intro hup hcq)
                have HH3 := hid (And.intro hh (And.intro hn hb))
                clear hh hn hb hup hcq hx hr1 hr2
                rw [hq]
                clear hq ht
                go_wp2_with fail
                have hs9 : HH (wr.setCell ⟨k, a, none⟩ (.int .i64 ((r1 : Nat) : Int))) g f1 := HH3.out.1.other hkg
                have hk9 : (wr.setCell ⟨k, a, none⟩ (.int .i64 ((r1 : Nat) : Int))).heap[k]? = some (.cells (irow 8 (cst (nxtN N (a + 1)))) 77 (0, 0)) := by
                  rw [set_irow HH3.out.2.1 a, upd_cst, HUP.out.1]
                have hb9 : Below g w (wr.setCell ⟨k, a, none⟩ (.int .i64 ((r1 : Nat) : Int))) := HH3.out.2.2.setCell (p := ⟨k, a, none⟩) (show g ≤ k by omega) _
                go_roundw
                case rel => exact ⟨a + 1, by omega, rfl, by rw [HUP.out.2], hs9, hk9, hb9⟩
                case measure => simp only [intOf, Int.toNat_natCast]; omega
              · obtain rfl : a = 8 := by omega
                have hinc : ¬ ((8 : Nat) : Int) < 8 := by omega
                have HH4 := hid (And.intro hh (And.intro hn hb))
                clear hh hn hb
                go_wp2_with (first
                  | (refine ldrow A8 (.tmp 6) rfl rfl k rfl _ _ HH4.out.2.1 ?_)
                  | (refine strow A8 (.tmp 3) (.tmp 69) rfl rfl g _ rfl rfl _ _ HH4.out.1.h ?_))
                have hrnd : nxtN N 8 = rndL h8 (l.take (i + 1)) := by rw [HRN.out.2, HRN.out.1, HN.out]
                have hsA : HH (wr.setRow g (irow 8 (cst (nxtN N 8)))) g (rndL h8 (l.take (i + 1))) := ⟨by rw [← hrnd]; exact setRow_at HH4.out.1.h, (setRow_ne (by omega)).trans HH4.out.1.p⟩
                have hbA : Below g w (wr.setRow g (irow 8 (cst (nxtN N 8)))) := HH4.out.2.2.trans (setRow_below (Nat.le_refl g))
                go_roundw
                case rel => exact ⟨i + 1, by omega, rfl, hsA, hbA⟩
                case measure => simp only [intOf, Int.toNat_natCast]; omega
    · obtain rfl : i = m := by omega
      have hin : ¬ ((i : Nat) : Int) < ((i : Nat) : Int) := by omega
      rw [List.take_of_length_le (by rw [HLM.out]; exact Nat.le_refl _)] at hh
      obtain ⟨f, hf⟩ : ∃ f, rndL h8 l = f := ⟨_, rfl⟩
      rw [hf] at hh
      have hlt8 : ∀ j, j < 8 → f j < 256 := hf ▸ (rndL_val l h8 fun j _ => h8_lt j).2
      have hout : outF f 8 = bs := by rw [← hf, rndL_hash, HBS.out]
      have hm0 : BytO (wr.alloc (.cells #[] 5)) wr.heap.size (.slice (some ⟨wr.heap.size, 0, none⟩) 0 0) [] := World.ownsRow_made wr #[] 0 (Nat.le_refl _) (by decide) rfl
      have hal : Below wr.heap.size wr (wr.alloc (.cells #[] 5)) := (Below.refl _ _).alloc (Nat.le_refl _) _
      have hs8 := hh.below hal
      have hb8 := hb.trans (hal.mono (by omega))
      have HM0 := hid (And.intro hm0 hal.size)
      have HS8 := hid (And.intro hs8 hb8)
      have HF8 := hid hlt8
      have HO := hid hout
      clear hh hb hf hlt8 hout hm0 hs8 hb8 hal
      go_upto_region 24 with fail
      obtain ⟨B, hB⟩ : ∃ B, wr.heap.size = B := ⟨_, rfl⟩
      rw [hB] at HM0 hgs ⊢
      generalize wr.alloc (.cells #[] 5) = W8 at HM0 HS8 ⊢
      go_wp2_with fail
      go_loopw [11, 12] (fun vx ax wr => ∃ j : Nat, j ≤ 8 ∧ ax = .int .i64 (((8 - j : Nat) : Int) - 1) ∧ BytO wr B vx (outF f j) ∧ HH wr g f ∧ Below g w wr ∧ B ≤ wr.heap.size) (fun _ ax _ => (intOf ax + 1).toNat)
      case atStart => exact ⟨0, by omega, rfl, HM0.out.1, HS8.out.1, HS8.out.2, HM0.out.2⟩
      case round =>
        clear HM0 HS8
        obtain ⟨j, hj, rfl, ho, hh, hb, hBw⟩ := hrel
        rcases Nat.lt_or_ge j 8 with hltj | hgej
        · obtain ⟨a, ha⟩ : ∃ a, 7 - j = a := ⟨_, rfl⟩
          have hai : ((8 - j : Nat) : Int) - 1 = ((a : Nat) : Int) := by omega
          rw [hai]
          have ha0 : (0 : Int) ≤ ((a : Nat) : Int) := by omega
          have had : decide ((0 : Int) ≤ ((a : Nat) : Int)) = true := decide_eq_true ha0
          have haw : IntKind.i64.wrap (((a : Nat) : Int) - 1) = ((a : Nat) : Int) - 1 := IntWalk.i64_in _ (by omega)
          have ha8 : a < 8 := by omega
          obtain ⟨y, hy⟩ : ∃ y, f a = y := ⟨_, rfl⟩
          have hy256 : y < 256 := hy ▸ HF8.out a (by omega)
          have hnx : outF f (j + 1) = outF f j ++ [hexD (y / 16), hexD (y % 16)] := by rw [outF, ha, hy]
          have hid0 : ∀ w', Below wr.heap.size wr w' → w'.cell? ⟨g, a, none⟩ = some (.int .i64 ((y : Nat) : Int)) := fun w' hb' => by
            rw [cell_irow (heap_below hb' hh.h (heap_lt hh.h)) a (by omega), ← hy]
            rfl
          have hollen : (outF f j).length < 1000000000 := by
            have := ho.1
            have h2 : ∀ j, (outF f j).length = 2 * j := fun j => by
              induction j with
              | zero => rfl
              | succ j ih => rw [outF, List.length_append, ih]; simp; omega
            rw [h2]; omega
          have HNX := hid hnx
          have HAI := hid (And.intro hai ha)
          have HSS := hid (And.intro ho (And.intro hh (And.intro hb hBw)))
          have HLN := hid hollen
          clear hy hnx hai ha ho hh hb hollen
          go_upto_region 27 with fail
          refine grow_region 12 [75, 76, 77, 78, 79, 80, 81, 82, 83, 84, 85, 86] (by kernel_rfl) (by kernel_rfl) (DR [u11, (.int .i64 ((a : Nat) : Int)), (.pointer (some ⟨g, a, none⟩)), (.int .i64 ((y : Nat) : Int)), (.int .i64 ((y / 16 : Nat) : Int)), (.int .u8 (((hexD (y / 16)).toNat : Nat) : Int)), (.int .i64 ((a : Nat) : Int)), (.pointer (some ⟨g, a, none⟩)), (.int .i64 ((y : Nat) : Int)), (.int .i64 ((y % 16 : Nat) : Int)), (.int .u8 (((hexD (y % 16)).toNat : Nat) : Int))] (.int .u8 (((hexD (y / 16)).toNat : Nat) : Int)) (.int .u8 (((hexD (y % 16)).toNat : Nat) : Int))) (fun _ _ _ => False) DR.mono (fun _ _ _ _ _ h => h.elim) ?_ ?_
          · intro jq oj hjq hoj a' w' hb' he hdep K hK
            have c0 := hid0 w' hb'
            rcases (show jq = 0 ∨ jq = 1 ∨ jq = 2 ∨ jq = 3 ∨ jq = 4 ∨ jq = 5 ∨ jq = 6 ∨ jq = 7 ∨ jq = 8 ∨ jq = 9 ∨ jq = 10 ∨ jq = 11 by omega) with rfl | rfl | rfl | rfl | rfl | rfl | rfl | rfl | rfl | rfl | rfl | rfl
            · obtain rfl := Option.some.inj hoj
              exact wpO_val _ (exec_mv rfl ((he 11 (by decide)).trans rfl : a'.eval (.tmp 11) = u11)) (hK _ _ (Below.refl _ _) rfl (fun b h => h.elim))
            · obtain rfl := Option.some.inj hoj
              exact wpO_val _ (exec_mv rfl ((he 12 (by decide)).trans rfl : a'.eval (.tmp 12) = (.int .i64 ((a : Nat) : Int)))) (hK _ _ (Below.refl _ _) rfl (fun b h => h.elim))
            · obtain rfl := Option.some.inj hoj
              exact wpO_val _ (exec_ixA rfl ((he 3 (by decide)).trans rfl : a'.eval (.tmp 3) = .pointer (some ⟨g, 0, none⟩)) ((hdep ⟨1, .data⟩ (by simp) rfl : DR _ _ _ 1 _ _) : a'.eval (.tmp 76) = (.int .i64 ((a : Nat) : Int))) (by omega)) (hK _ _ (Below.refl _ _) rfl (fun b h => h.elim))
            · obtain rfl := Option.some.inj hoj
              exact wpO_val _ (exec_ldcellB rfl ((hdep ⟨2, .data⟩ (by simp) rfl : DR _ _ _ 2 _ _) : a'.eval (.tmp 77) = (.pointer (some ⟨g, a, none⟩))) c0) (hK _ _ (Below.refl _ _) rfl (fun b h => h.elim))
            · obtain rfl := Option.some.inj hoj
              exact wpO_val _ (exec_quo16 rfl ((hdep ⟨3, .data⟩ (by simp) rfl : DR _ _ _ 3 _ _) : a'.eval (.tmp 78) = (.int .i64 ((y : Nat) : Int))) rfl hy256) (hK _ _ (Below.refl _ _) rfl (fun b h => h.elim))
            · obtain rfl := Option.some.inj hoj
              exact wpO_val _ (exec_ixS rfl rfl ((hdep ⟨4, .data⟩ (by simp) rfl : DR _ _ _ 4 _ _) : a'.eval (.tmp 79) = (.int .i64 ((y / 16 : Nat) : Int))) (dig16 _ (by omega))) (hK _ _ (Below.refl _ _) rfl (fun b h => h.elim))
            · obtain rfl := Option.some.inj hoj
              exact wpO_val _ (exec_mv rfl ((he 12 (by decide)).trans rfl : a'.eval (.tmp 12) = (.int .i64 ((a : Nat) : Int)))) (hK _ _ (Below.refl _ _) rfl (fun b h => h.elim))
            · obtain rfl := Option.some.inj hoj
              exact wpO_val _ (exec_ixA rfl ((he 3 (by decide)).trans rfl : a'.eval (.tmp 3) = .pointer (some ⟨g, 0, none⟩)) ((hdep ⟨6, .data⟩ (by simp) rfl : DR _ _ _ 6 _ _) : a'.eval (.tmp 81) = (.int .i64 ((a : Nat) : Int))) (by omega)) (hK _ _ (Below.refl _ _) rfl (fun b h => h.elim))
            · obtain rfl := Option.some.inj hoj
              exact wpO_val _ (exec_ldcellB rfl ((hdep ⟨7, .data⟩ (by simp) rfl : DR _ _ _ 7 _ _) : a'.eval (.tmp 82) = (.pointer (some ⟨g, a, none⟩))) c0) (hK _ _ (Below.refl _ _) rfl (fun b h => h.elim))
            · obtain rfl := Option.some.inj hoj
              exact wpO_val _ (exec_rem16 rfl ((hdep ⟨8, .data⟩ (by simp) rfl : DR _ _ _ 8 _ _) : a'.eval (.tmp 83) = (.int .i64 ((y : Nat) : Int))) rfl hy256) (hK _ _ (Below.refl _ _) rfl (fun b h => h.elim))
            · obtain rfl := Option.some.inj hoj
              exact wpO_val _ (exec_ixS rfl rfl ((hdep ⟨9, .data⟩ (by simp) rfl : DR _ _ _ 9 _ _) : a'.eval (.tmp 84) = (.int .i64 ((y % 16 : Nat) : Int))) (dig16 _ (by omega))) (hK _ _ (Below.refl _ _) rfl (fun b h => h.elim))
            · obtain rfl := Option.some.inj hoj
              exact wpO_val _ (exec_bs2 rfl ((hdep ⟨5, .data⟩ (by simp) rfl : DR _ _ _ 5 _ _) : a'.eval (.tmp 80) = (.int .u8 (((hexD (y / 16)).toNat : Nat) : Int))) ((hdep ⟨10, .data⟩ (by simp) rfl : DR _ _ _ 10 _ _) : a'.eval (.tmp 85) = (.int .u8 (((hexD (y % 16)).toNat : Nat) : Int)))) (hK _ _ ((Below.refl _ _).alloc (Nat.le_refl _) _) ⟨_, rfl, heap_alloc_new w' _⟩ (fun b h => h.elim))
          intro vs w6 hb6 hD _ _
          have hv0 : vs 0 = u11 := hD 0 (by omega)
          have hv1 : vs 1 = (.int .i64 ((a : Nat) : Int)) := hD 1 (by omega)
          have hv2 : vs 2 = (.pointer (some ⟨g, a, none⟩)) := hD 2 (by omega)
          have hv3 : vs 3 = (.int .i64 ((y : Nat) : Int)) := hD 3 (by omega)
          have hv4 : vs 4 = (.int .i64 ((y / 16 : Nat) : Int)) := hD 4 (by omega)
          have hv5 : vs 5 = (.int .u8 (((hexD (y / 16)).toNat : Nat) : Int)) := hD 5 (by omega)
          have hv6 : vs 6 = (.int .i64 ((a : Nat) : Int)) := hD 6 (by omega)
          have hv7 : vs 7 = (.pointer (some ⟨g, a, none⟩)) := hD 7 (by omega)
          have hv8 : vs 8 = (.int .i64 ((y : Nat) : Int)) := hD 8 (by omega)
          have hv9 : vs 9 = (.int .i64 ((y % 16 : Nat) : Int)) := hD 9 (by omega)
          have hv10 : vs 10 = (.int .u8 (((hexD (y % 16)).toNat : Nat) : Int)) := hD 10 (by omega)
          obtain ⟨q, hv11, hq⟩ : ∃ q, vs 11 = .slice (some ⟨q, 0, none⟩) 2 2 ∧ w6.heap[q]? = some (.cells #[.int .u8 (((hexD (y / 16)).toNat : Nat) : Int), .int .u8 (((hexD (y % 16)).toNat : Nat) : Int)] 5 (0, 0)) := hD 11 (by omega)
          simp only [puts, Act.put, List.setIfInBounds_toArray, List.set_cons_zero, List.set_cons_succ, hv0, hv1, hv2, hv3, hv4, hv5, hv6, hv7, hv8, hv9, hv10, hv11, List.drop_succ_cons, List.drop_zero, Nat.zero_add, Nat.reduceAdd]
          have HQ := hid hq
          have ho6 := HSS.out.1.below hb6
          have HO6 := hid ho6
          have hbw6 : B ≤ w6.heap.size := Nat.le_trans HSS.out.2.2.2 hb6.size
          have hkeep := hid (And.intro (HSS.out.2.1.below hb6) (HSS.out.2.2.1.trans (hb6.mono (heap_lt HSS.out.2.1.p |> fun h => by omega))))
          clear hD hq ho6 hb6 hid0 hv0 hv1 hv2 hv3 hv4 hv5 hv6 hv7 hv8 hv9 hv10 hv11
          go_wp2_with (refine wp_app_two rfl (.tmp 75) (.tmp 86) rfl B u11 (outF f j) rfl HO6.out (hexD (y / 16)) (hexD (y % 16)) q rfl HQ.out HLN.out hbw6 ?_; intro v9 w9 hv9 hg9; have HV9 := hid hv9; have HB9 := hid ((Below.refl B w6).grown hg9 hbw6 (fun k hk => HO6.out.own k hk)); clear hv9 hg9)
          have hsF : HH w9 g f := ⟨heap_below HB9.out hkeep.out.1.h (by omega), heap_below HB9.out hkeep.out.1.p hgs⟩
          have hbF : Below g w w9 := hkeep.out.2.trans (HB9.out.mono (by omega))
          have hBF : B ≤ w9.heap.size := Nat.le_trans hbw6 HB9.out.size
          go_roundw
          case rel =>
            refine ⟨j + 1, by omega, ?_, by rw [HNX.out]; exact HV9.out, hsF, hbF, hBF⟩
            have := HAI.out
            congr 1
            omega
          case measure => have := HAI.out; simp only [intOf]; omega
        · obtain rfl : j = 8 := by omega
          rw [HO.out] at ho
          have hai : ((8 - 8 : Nat) : Int) - 1 = -1 := by omega
          rw [hai]
          have had : ¬ (0 : Int) ≤ -1 := by omega
          have hcells := fun q (hq : u11.ownBlock = some q) => World.ownsRow.cells ho hq
          have HBB := hid hb
          have hbl : bs.length = 16 := by rw [← HBS.out, hashL, hex16, hexK_len]
          rcases ho.2 with ⟨_, h0⟩ | ⟨q, cap, cur, rfl, _⟩
          · omega
          · have hcv := run_convert_bytes_back (P := Tryz.prog) wr 78 9 5 ⟨q, 0, none⟩ cap bs Tryz.underlying78 Tryz.underlying5 Tryz.underlying9 (fun j hj => hcells q rfl j _ (by rw [List.getElem?_map, List.getElem?_eq_getElem hj]; rfl))
            clear hcells ho hh hb hbl
            go_wp2_with fail
            go_ret
            exact ⟨rfl, by rw [HG.out]; exact HBB.out⟩
end Go.Proofs.YtbcileppebpamaaGreatDoor
