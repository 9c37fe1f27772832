/- For law WitnessProved: boxes and Booleans of the persons; operations. -/
import Derived.Test.YtbcileppebpamaaDoorZD
import Derived.Test.YtbcileppebpamaaDoorYC
import Derived.Test.YtbcileppebpamaaDoorFM
set_option linter.unusedSimpArgs false
set_option linter.unusedVariables false
namespace Go.Proofs.YtbcileppebpamaaDoor
open Go Go.RowKit Go.Shelf
set_option maxRecDepth 100000

def bxF (vs : List Nat) (sn j : Nat) : Bx := ⟨j + 1, vsF vs j, slF sn j⟩
def dvF (wr si j : Nat) : Bool := wr.testBit j || si.testBit j
def bxsF (vs : List Nat) (sn i : Nat) : List Bx := (List.range i).map (bxF vs sn)
def dvsF (wr si i : Nat) : List Bool := (List.range i).map (dvF wr si)
theorem bxsF_succ (vs : List Nat) (sn i : Nat) : bxsF vs sn (i + 1) = bxsF vs sn i ++ [bxF vs sn i] := by simp [bxsF, List.range_succ]
theorem dvsF_succ (wr si i : Nat) : dvsF wr si (i + 1) = dvsF wr si i ++ [dvF wr si i] := by simp [dvsF, List.range_succ]
theorem bxsF_len (vs : List Nat) (sn i : Nat) : (bxsF vs sn i).length = i := by simp [bxsF]
theorem dvsF_len (wr si i : Nat) : (dvsF wr si i).length = i := by simp [dvsF]
theorem bxsF_get (vs : List Nat) (sn m i : Nat) (h : i < m) : (bxsF vs sn m)[i]? = some (bxF vs sn i) := by
  rw [bxsF, List.getElem?_map, List.getElem?_range h]
  rfl
theorem dvsF_get (wr si m i : Nat) (h : i < m) : (dvsF wr si m)[i]? = some (dvF wr si i) := by
  rw [dvsF, List.getElem?_map, List.getElem?_range h]
  rfl
section
variable {w V V' : World} {B b q B2 : Nat} {D D' : DS} {vb vd : Value} {xs : List Bx} {ds : List Bool}
theorem own_new (W : World) (T : TypeId) (sz B : Nat) (hB : B ≤ W.heap.size) : (W.alloc (.cells #[] T)).ownsRow B T sz (.slice (some ⟨W.heap.size, 0, none⟩) 0 0) 0 [] :=
  ⟨by simp, .inr ⟨W.heap.size, 0, #[], rfl, hB, heap_alloc_new W _, Nat.le_refl _, by unfold maxLen; omega, by simp, by simp⟩⟩
theorem PB.start (h : DA w V B b q D) (hb : b < V.heap.size) (hq : q < V.heap.size) :
    PB w ((V.alloc (.cells #[] 23)).alloc (.cells #[] 4)) B b q V.heap.size D (.slice (some ⟨V.heap.size, 0, none⟩) 0 0) (.slice (some ⟨V.heap.size + 1, 0, none⟩) 0 0) [] [] := by
  have h1 : Below V.heap.size V (V.alloc (.cells #[] 23)) := (Below.refl _ _).alloc (Nat.le_refl _) _
  have h2 : Below (V.alloc (.cells #[] 23)).heap.size (V.alloc (.cells #[] 23)) ((V.alloc (.cells #[] 23)).alloc (.cells #[] 4)) := (Below.refl _ _).alloc (Nat.le_refl _) _
  have e : (V.alloc (.cells #[] 23)).heap.size = V.heap.size + 1 := by simp
  refine ⟨(h.below h1).below h2, own_below (own_new V _ 3 _ (Nat.le_refl _)) h2, ?_, by simp; omega, hb, hq⟩
  have := own_new (V.alloc (.cells #[] 23)) 4 1 V.heap.size (by simp)
  rw [e] at this
  exact this
theorem PB.formB (h : PB w V B b q B2 D vb vd xs ds) : ∃ p c, vb = .slice p xs.length c := own_form h.bx
theorem PB.formD (h : PB w V B b q B2 D vb vd xs ds) : ∃ p c, vd = .slice p ds.length c := own_form h.bl
theorem PB.boxP {p : Option Addr} {n c i : Nat} {x : Bx} (h : PB w V B b q B2 D (.slice p n c) vd xs ds) (hx : xs[i]? = some x) : ∃ g, p = some ⟨g, 0, none⟩ := by
  obtain ⟨g, h1, _⟩ := own_at h.bx (List.getElem?_eq_some_iff.1 hx).1
  exact ⟨g, h1⟩
theorem PB.boxC {g n c i : Nat} {x : Bx} (h : PB w V B b q B2 D (.slice (some ⟨g, 0, none⟩) n c) vd xs ds) (hx : xs[i]? = some x) :
    V.cell? ⟨g, i * 3, none⟩ = some (.int .i64 ((x.p : Nat) : Int)) ∧ V.cell? ⟨g, i * 3 + 1, none⟩ = some (.int .i64 ((x.v : Nat) : Int)) ∧ V.cell? ⟨g, i * 3 + 2, none⟩ = some (.string x.s) := by
  obtain ⟨g', h1, _, _, h4⟩ := own_at h.bx (List.getElem?_eq_some_iff.1 hx).1
  cases h1
  refine ⟨?_, ?_, ?_⟩
  · rw [← Nat.add_zero (i * 3), h4 0 (by omega), flat_get Bx.cells 3 (fun _ => rfl) xs i x 0 hx (by omega)]; rfl
  · rw [h4 1 (by omega), flat_get Bx.cells 3 (fun _ => rfl) xs i x 1 hx (by omega)]; rfl
  · rw [h4 2 (by omega), flat_get Bx.cells 3 (fun _ => rfl) xs i x 2 hx (by omega)]; rfl
theorem PB.boolP {p : Option Addr} {n c i : Nat} {d : Bool} (h : PB w V B b q B2 D vb (.slice p n c) xs ds) (hx : ds[i]? = some d) : ∃ g, p = some ⟨g, 0, none⟩ := by
  obtain ⟨g, h1, _⟩ := own_at h.bl (List.getElem?_eq_some_iff.1 hx).1
  exact ⟨g, h1⟩
theorem PB.boolC {g n c i : Nat} {d : Bool} (h : PB w V B b q B2 D vb (.slice (some ⟨g, 0, none⟩) n c) xs ds) (hx : ds[i]? = some d) :
    V.cell? ⟨g, i, none⟩ = some (.bool d) := by
  obtain ⟨g', h1, _, _, h4⟩ := own_at h.bl (List.getElem?_eq_some_iff.1 hx).1
  cases h1
  have := h4 0 (by omega)
  rw [Nat.mul_one, Nat.add_zero, List.getElem?_map, hx] at this
  exact this
end
theorem exec_ix8 {ev : Operand → Value} {o : Oper} {x y : Operand} {p : Option Addr} {m cc b oo i : Nat} {W : World} (ho : o.op = .indexAddr 40 x y) (hx : ev x = .slice p m cc) (hy : ev y = .int .i64 ((i : Nat) : Int)) (hp : p = some ⟨b, oo, none⟩) (hi : i < m) : (execOp ev o).run Tryd.prog W = .ok (.value (.pointer (some ⟨b, oo + i, none⟩))) W := by
  subst hp
  have h0 : (0 : Int) ≤ ((i : Nat) : Int) := by omega
  have h1 : ((i : Nat) : Int) < ((m : Nat) : Int) := by omega
  simp [execOp, ho, hx, hy]
  go_simp
/-- A Boolean of the shift. -/
theorem exec_shr {ev : Operand → Value} {o : Oper} {x y : Operand} {a i : Nat} {W : World} (ho : o.op = .binOp .shr 5 x y 59) (hx : ev x = .int .u8 ((a : Nat) : Int)) (hy : ev y = .int .u64 ((i : Nat) : Int)) (hi : i ≤ 8) : (execOp ev o).run Tryd.prog W = .ok (.value (.int .u8 ((a / 2 ^ i : Nat) : Int))) W := by
  have h0 : ¬ ((i : Nat) : Int) < 0 := by omega
  have h1 : min i 8 = i := by omega
  have h2 := shr_nat a i
  simp [execOp, ho, hx, hy]
  go_simp
theorem exec_ldu8 {ev : Operand → Value} {o : Oper} {x : Operand} {p : Addr} {W : World} {v : Value} (ho : o.op = .load 5 x) (hx : ev x = .pointer (some p)) (hg : W.cell? p = some v) : (execOp ev o).run Tryd.prog W = .ok (.value v) W := by
  simp [execOp, ho, hx]
  go_simp
theorem exec_slS {ev : Operand → Value} {o : Oper} {x y : Operand} {s c : ByteArray} {W : World} (ho : o.op = .slice 9 x none (some y) none) (hx : ev x = .string s) (hy : ev y = .int .i64 1) (h1 : 1 ≤ s.size) (hc : s.extract 0 1 = c) : (execOp ev o).run Tryd.prog W = .ok (.value (.string c)) W := by
  subst hc
  have h2 : ¬ (((s.size : Nat) : Int) < 1) := by omega
  have h3 : ¬ (s.size < 1) := by omega
  simp [execOp, ho, hx, hy]
  go_simp
theorem exec_xorU {ev : Operand → Value} {o : Oper} {x y : Operand} {a c : Nat} {W : World} (ho : o.op = .binOp .xor 5 x y 5) (hx : ev x = .int .u8 ((a : Nat) : Int)) (hy : ev y = .int .u8 1) (ha : a < 256) (hc : a ^^^ 1 = c) : (execOp ev o).run Tryd.prog W = .ok (.value (.int .u8 ((c : Nat) : Int))) W := by
  have h := u8_xor a 1 ha (by omega)
  rw [hc] at h
  have h2 : bits .xor .u8 ((a : Nat) : Int) 1 = ((c : Nat) : Int) := h
  simp [execOp, ho, hx, hy]
  go_simp
theorem exec_bs1 {ev : Operand → Value} {o : Oper} {x : Operand} {c : Int} {W : World} (ho : o.op = .buildSlice 40 1 #[(0, x)]) (hx : ev x = .int .u8 c) : (execOp ev o).run Tryd.prog W = .ok (.value (.slice (some ⟨W.heap.size, 0, none⟩) 1 1)) (W.alloc (.cells #[.int .u8 c] 5)) := by
  simp [execOp, ho, hx]
  go_simp
theorem exec_cvS {ev : Operand → Value} {o : Oper} {x : Operand} {q c : Nat} {W : World} (ho : o.op = .convert 40 9 x) (hx : ev x = .slice (some ⟨q, 0, none⟩) 1 1) (hq : W.heap[q]? = some (.cells #[.int .u8 ((c : Nat) : Int)] 5 (0, 0))) (hc : c < 256) : (execOp ev o).run Tryd.prog W = .ok (.value (.string ⟨[UInt8.ofNat c].toArray⟩)) W := by
  have hc2 : (UInt8.ofNat c).toNat = c := by simp; omega
  have hcv := run_convert_bytes_back (P := Tryd.prog) W 40 9 5 ⟨q, 0, none⟩ 1 [UInt8.ofNat c] Tryd.underlying40 Tryd.underlying5 Tryd.underlying9 (fun j hj => by
    obtain rfl : j = 0 := by have : j < 1 := hj; omega
    have := cell_of_row _ _ 0 _ _ _ hq
    rw [show (⟨q, 0, none⟩ : Addr).add 0 = ⟨q, 0, none⟩ from rfl, this]
    simp [hc2])
  rw [show [UInt8.ofNat c].length = 1 from rfl] at hcv
  simp [execOp, ho, hx]
  go_simp
theorem slt_parts (n : Nat) : ∃ hd d, (sltB n).extract 0 1 = hd ∧ 1 ≤ (sltB n).size ∧ ((sltB n).data.toList.map UInt8.toNat)[1]? = some d ∧ d < 256 ∧ d ^^^ 1 < 256 ∧ hd ++ ⟨[UInt8.ofNat (d ^^^ 1)].toArray⟩ = wrB n ∧ ¬ 9223372036854775807 < hd.size + (⟨[UInt8.ofNat (d ^^^ 1)].toArray⟩ : ByteArray).size := by
  refine ⟨⟨[UInt8.ofNat (97 + n % 26)].toArray⟩, 48 + n % 10, ?_, ?_, ?_, by omega, (dig_x (n % 10) (Nat.mod_lt _ (by decide))).1, ?_, ?_⟩
  · apply ByteArray.ext
    simp [sltB, ByteArray.data_extract]
  · show 1 ≤ ([_, _] : List UInt8).toArray.size
    simp
  · simp [sltB]
    omega
  · apply ByteArray.ext
    simp [wrB, ByteArray.data_append]
  · show ¬ 9223372036854775807 < ([_] : List UInt8).toArray.size + ([_] : List UInt8).toArray.size
    simp
theorem SL.congr {D : DS} {b m : Nat} {H : Nat → ByteArray} {v : Nat → Nat} {t : Nat → ByteArray} {i : Nat} {O O' : Nat → Prop} {c : Nat} (h : SL D b m H v t i O c) (hO : ∀ j, j < m → (O j ↔ O' j)) : SL D b m H v t i O' c := ⟨h.1.congr hO, h.2⟩
def BytNew (n : Nat) (c : Int) (v : Value) (W : World) : Prop := ∃ z, n ≤ z ∧ v = .slice (some ⟨z, 0, none⟩) 1 1 ∧ W.heap[z]? = some (.cells #[.int .u8 c] 5 (0, 0))
theorem BytNew.mono (n : Nat) (c : Int) : ∀ v w w', Below w.heap.size w w' → BytNew n c v w → BytNew n c v w' := fun _ _ _ hb ⟨z, h1, h2, h3⟩ => ⟨z, h1, h2, heap_below hb h3 (heap_lt h3)⟩
theorem own_setCell {W : World} {B z k : Nat} {T T' : TypeId} {sz n : Nat} {v u : Value} {cs : List Value} {row : Array Value} (h : W.ownsRow B T sz v n cs) (hz : W.heap[z]? = some (.cells row T' (0, 0))) (hT : T' ≠ T) : (W.setCell ⟨z, k, none⟩ u).ownsRow B T sz v n cs :=
  ⟨h.1, h.2.imp id fun ⟨g, cap, cur, h3, h4, h5, h6⟩ => ⟨g, cap, cur, h3, h4, (heap_setCell_other W ⟨z, k, none⟩ g u (by
    show g ≠ z
    rintro rfl
    rw [h5] at hz
    cases hz
    exact hT rfl)).trans h5, h6⟩⟩
theorem DrawAt.setOther {W : World} {B b q z k : Nat} {D : DS} {u : Value} {row : Array Value} {T' : TypeId} (h : DrawAt W B b q D) (hz : W.heap[z]? = some (.cells row T' (0, 0))) (h1 : T' ≠ 9) (h2 : T' ≠ 94) (h3 : T' ≠ 96) : DrawAt (W.setCell ⟨z, k, none⟩ u) B b q D := by
  have hne : ∀ (g : Nat) (cur : Array Value) (T : TypeId), W.heap[g]? = some (.cells cur T (0, 0)) → T' ≠ T → (W.setCell ⟨z, k, none⟩ u).heap[g]? = some (.cells cur T (0, 0)) := fun g cur T h5 hT => (heap_setCell_other W ⟨z, k, none⟩ g u (by
    show g ≠ z
    rintro rfl
    rw [h5] at hz
    cases hz
    exact hT rfl)).trans h5
  obtain ⟨vl, k1, k2⟩ := h.box
  exact ⟨⟨vl, hne _ _ _ k1 h2, own_setCell k2 hz h1⟩, hne _ _ _ h.row h3⟩
theorem PB.setCell {w V : World} {B b q B2 z : Nat} {D : DS} {vb vd : Value} {xs : List Bx} {ds : List Bool} {row : Array Value} {T' : TypeId} (h : PB w V B b q B2 D vb vd xs ds) (hz : V.heap[z]? = some (.cells row T' (0, 0))) (h1 : T' ≠ 9) (h2 : T' ≠ 94) (h3 : T' ≠ 96) (h4 : T' ≠ 4) (h5 : z ≥ B2) (h6 : ∀ g n c, vb = .slice (some ⟨g, 0, none⟩) n c → g ≠ z) (k : Nat) (u : Value) : PB w (V.setCell ⟨z, k, none⟩ u) B b q B2 D vb vd xs ds := by
  have hw : w.heap.size ≤ z := by
    have := h.da.wB
    have := h.da.hb
    have := h.hb
    omega
  refine ⟨⟨h.da.d.setOther hz h1 h2 h3, h.da.bw.setCell (p := ⟨z, k, none⟩) hw u, h.da.wB, Nat.le_trans h.da.le (by simp), h.da.hb, h.da.hq⟩, ?_, own_setCell h.bl hz h4, Nat.le_trans h.le (by simp), h.hb, h.hq⟩
  refine ⟨h.bx.1, h.bx.2.imp id fun ⟨g, cap, cur, h3, h4, h5, h6'⟩ => ⟨g, cap, cur, h3, h4, (heap_setCell_other V ⟨z, k, none⟩ g u ?_).trans h5, h6'⟩⟩
  exact h6 _ _ _ h3
/-- What the walk meets where a bit is read. -/
theorem bit_facts (a i : Nat) (ha : a < 256) : ∃ s1 s2 : Nat, ((a : Nat) : Int) / 2 ^ i = ((s1 : Nat) : Int) ∧ bits .and .u8 ((s1 : Nat) : Int) 1 = ((s2 : Nat) : Int) ∧ (((s2 : Nat) : Int) == 1) = a.testBit i ∧ decide (s2 = 1) = a.testBit i ∧ (s2 == 1) = a.testBit i := by
  have h := bit_eq a i
  refine ⟨a / 2 ^ i, a / 2 ^ i % 2, by rw [Int.natCast_ediv, Int.natCast_pow]; rfl, u8_and1 _ (Nat.lt_of_le_of_lt (Nat.div_le_self _ _) ha), h, ?_, ?_⟩
  · rw [← h]
    generalize a / 2 ^ i % 2 = x
    by_cases e : x = 1
    · subst e; rfl
    · rw [decide_eq_false e]; symm; simp; omega
  · rw [← h]
    generalize a / 2 ^ i % 2 = x
    by_cases e : x = 1
    · subst e; rfl
    · rw [beq_eq_false_iff_ne.2 e]; symm; simp; omega
theorem bit_true (a i : Nat) (ha : a < 256) (h : a.testBit i = true) : ∃ s1 : Nat, ((a : Nat) : Int) / 2 ^ i = ((s1 : Nat) : Int) ∧ bits .and .u8 ((s1 : Nat) : Int) 1 = 1 := by
  obtain ⟨s1, s2, h1, h2, _, h4, _⟩ := bit_facts a i ha
  rw [h, decide_eq_true_eq] at h4
  subst h4
  exact ⟨s1, h1, h2⟩
theorem bit_false (a i : Nat) (ha : a < 256) (h : a.testBit i = false) : ∃ s1 : Nat, ((a : Nat) : Int) / 2 ^ i = ((s1 : Nat) : Int) ∧ bits .and .u8 ((s1 : Nat) : Int) 1 = 0 := by
  have e := bit_eq a i
  rw [h] at e
  have h2 := Nat.mod_two_eq_zero_or_one (a / 2 ^ i)
  have h0 : a / 2 ^ i % 2 = 0 := by
    rcases h2 with h2 | h2
    · exact h2
    · rw [h2] at e
      exact absurd e (by decide)
  refine ⟨a / 2 ^ i, by rw [Int.natCast_ediv, Int.natCast_pow]; rfl, ?_⟩
  rw [u8_and1 _ (Nat.lt_of_le_of_lt (Nat.div_le_self _ _) ha), h0]
  rfl
theorem dvF_bits (a b i : Nat) : (a ||| b).testBit i = dvF a b i := by rw [Nat.testBit_or, dvF]
theorem OnlyD.keep {W W' : World} {B b q k B2 : Nat} {cs : Array Value} {T : TypeId} (hO : OnlyD B b q W W') (h : W.heap[k]? = some (.cells cs T (0, 0))) (hT : (T == 9) = false) (hk : B2 ≤ k) (hb : b < B2) (hq : q < B2) : W'.heap[k]? = some (.cells cs T (0, 0)) :=
  hO.block _ _ h (by omega) (by omega) (.inr hT)
/-- A slice of texts in memory. -/
def StrsAt (ws : List ByteArray) (v : Value) (W : World) : Prop := ∃ g, v = .slice (some ⟨g, 0, none⟩) ws.length ws.length ∧ W.heap[g]? = some (.cells (ws.map Value.string).toArray 9 (0, 0))
theorem StrsAt.mono (ws : List ByteArray) : ∀ v w w', Below w.heap.size w w' → StrsAt ws v w → StrsAt ws v w' := fun _ _ _ hb ⟨z, h1, h2⟩ => ⟨z, h1, heap_below hb h2 (heap_lt h2)⟩
theorem bas_map (ws : List ByteArray) : bas (ws.map (·.data.toList)) = ws := by
  rw [bas, List.map_map]
  exact (List.map_congr_left fun _ _ => rfl).trans (List.map_id _)
theorem split_w (ws : List ByteArray) (h0 : 1 ≤ ws.length) (hno : ∀ x ∈ ws.map (·.data.toList), (32 : UInt8) ∉ x) (hl : (Lib.join (ws.map (·.data.toList)) [32]).length ≤ 1000) (W : World) (hm : ∃ m, W.cell? ⟨0, 0, none⟩ = some (.int .i64 m)) :
    Calls Tryd.prog 29 #[.string ⟨(Lib.join (ws.map (·.data.toList)) [32]).toArray⟩, .string ⟨#[32]⟩] W fun e W' => ∃ v, e = .returned v ∧ StrsAt ws v W' ∧ Below W.heap.size W W' := by
  obtain ⟨m, hm⟩ := hm
  have h1 : 1 ≤ (ws.map (·.data.toList)).length := by rw [List.length_map]; exact h0
  have hl2 : (Lib.join (ws.map (·.data.toList)) [32]).length ≤ 1000000000 := Nat.le_trans hl (by decide)
  have h := Cut_all 32 (ws.map (·.data.toList)) h1 hno W m hm hl2
  rw [List.length_map, bas_map] at h
  refine h.mono ?_
  rintro e W' ⟨rfl, rfl⟩
  exact ⟨_, rfl, ⟨_, rfl, heap_alloc_new W _⟩, (Below.refl _ _).alloc (Nat.le_refl _) _⟩
theorem max_below {W W' : World} (h : ∃ m, W.cell? ⟨0, 0, none⟩ = some (.int .i64 m)) (hb : Below W.heap.size W W') : ∃ m, W'.cell? ⟨0, 0, none⟩ = some (.int .i64 m) := by
  obtain ⟨m, hm⟩ := h
  exact ⟨m, (hb.cell (p := ⟨0, 0, none⟩) (size_of_cell _ _ _ hm)).trans hm⟩
theorem line_f {D : DS} {m : Nat} {vs : List Nat} {sn wr si : Nat} {bs : List (List UInt8)} (h : Fin6 D m vs sn wr si bs) {n : Nat} {b : List UInt8} (hb : bs[n]? = some b) (W : World) (hm : ∃ m, W.cell? ⟨0, 0, none⟩ = some (.int .i64 m)) :
    Calls Tryd.prog 30 #[.string ⟨D.text.toArray⟩, .int .i64 ((n + 1 : Nat) : Int)] W fun e W' => e = .returned (.string ⟨b.toArray⟩) ∧ Below W.heap.size W W' := by
  obtain ⟨mm, hm⟩ := hm
  have hlen : bs.length ≤ 14 := by
    have := h.l14
    rw [h.ls.ls, List.length_map] at this
    exact this
  have := line_c (bs ++ [[]]) (fun x hx => (List.mem_append.1 hx).elim (h.ls.no x) fun hx => by rw [List.mem_singleton.1 hx]; simp) (by simp; omega) n b (by rw [List.getElem?_append_left (List.getElem?_eq_some_iff.1 hb).1]; exact hb) (Nat.le_trans h.size (by omega)) W mm hm
  rw [← text_join h.ls] at this
  exact this
theorem DvO.at {W : World} {B : Nat} {v : Value} {ds : List Dv} (h : DvO W B v ds) {i : Nat} {x : Dv} (hx : ds[i]? = some x) : ∃ g c, v = .slice (some ⟨g, 0, none⟩) ds.length c ∧ W.cell? ⟨g, i * 4, none⟩ = some (.int .i64 ((x.p : Nat) : Int)) ∧ W.cell? ⟨g, i * 4 + 1, none⟩ = some (.int .i64 x.k) ∧ W.cell? ⟨g, i * 4 + 2, none⟩ = some (.int .i64 ((x.s : Nat) : Int)) ∧ W.cell? ⟨g, i * 4 + 3, none⟩ = some (.int .i64 ((x.l : Nat) : Int)) := by
  obtain ⟨p, c, rfl⟩ := h.form
  have hi := (List.getElem?_eq_some_iff.1 hx).1
  obtain ⟨g, h1, _, _, h4⟩ := own_at h hi
  subst h1
  refine ⟨g, c, rfl, ?_, ?_, ?_, ?_⟩
  · rw [← Nat.add_zero (i * 4), h4 0 (by omega), flat_get Dv.cells 4 (fun _ => rfl) ds i x 0 hx (by omega)]; rfl
  · rw [h4 1 (by omega), flat_get Dv.cells 4 (fun _ => rfl) ds i x 1 hx (by omega)]; rfl
  · rw [h4 2 (by omega), flat_get Dv.cells 4 (fun _ => rfl) ds i x 2 hx (by omega)]; rfl
  · rw [h4 3 (by omega), flat_get Dv.cells 4 (fun _ => rfl) ds i x 3 hx (by omega)]; rfl
theorem devs_at (D : DS) (i : Nat) (x : PS) (d : Dv) (hx : D.ps[i]? = some x) (hd : devOf D.cl i x = some d) : D.devs[(devFrom D.cl 0 (D.ps.take i)).length]? = some d := by
  rw [DS.devs, devFrom_split D.cl D.ps i x hx, hd, List.getElem?_append_right (Nat.le_refl _), Nat.sub_self]
  rfl
theorem devs_next (D : DS) (i : Nat) (x : PS) (d : Dv) (hx : D.ps[i]? = some x) (hd : devOf D.cl i x = some d) : (devFrom D.cl 0 (D.ps.take (i + 1))).length = (devFrom D.cl 0 (D.ps.take i)).length + 1 := by
  rw [devFrom_take D.cl D.ps i x hx, hd]
  simp
theorem devs_same (D : DS) (i : Nat) (x : PS) (hx : D.ps[i]? = some x) (hd : devOf D.cl i x = none) : (devFrom D.cl 0 (D.ps.take (i + 1))).length = (devFrom D.cl 0 (D.ps.take i)).length := by
  rw [devFrom_take D.cl D.ps i x hx, hd]
  simp
/-- The hash of what was opened, by the words of its line. -/
theorem hash_words (p v : Nat) (hp : p ≤ 30) (hv : v ≤ 1000000000) (t : ByteArray) (ht : isSaltL t.data.toList = true) (g o c : Nat) (W : World) (L : LaidW W) (hcells : ∀ (j : Nat) x, [(⟨(Lib.itoa ((p : Nat) : Int)).toArray⟩ : ByteArray), ⟨(Lib.itoa ((v : Nat) : Int)).toArray⟩, t][j]? = some x → W.cell? ⟨g, o + j, none⟩ = some (.string x)) (hg : g < W.heap.size) (hc : 3 ≤ c) :
    ∃ s : ByteArray, (Calls Tryd.prog 31 #[.slice (some ⟨g, o, none⟩) 3 c, .string ⟨#[58]⟩] W fun e W' => e = .returned (.string s) ∧ Below W.heap.size W W') ∧ ∀ W', Below W.heap.size W W' → Calls Tryd.prog 10 #[.string s] W' fun e W'' => e = .returned (.tuple #[.string (openH ((p : Nat) : Int) ((v : Nat) : Int) t), .int .i64 0]) ∧ Below W'.heap.size W' W'' := by
  have e : Lib.join ([(⟨(Lib.itoa ((p : Nat) : Int)).toArray⟩ : ByteArray), ⟨(Lib.itoa ((v : Nat) : Int)).toArray⟩, t].map (·.data.toList)) [58] = boxL ((p : Nat) : Int) ((v : Nat) : Int) t.data.toList := by
    simp only [List.map_cons, List.map_nil, join_cons2, Lib.join_one, boxL]
  have h1 := itoa_len p (by omega)
  have h2 := itoa_len v hv
  have hsz : (boxL ((p : Nat) : Int) ((v : Nat) : Int) t.data.toList).length ≤ 1000 := by
    rw [isSaltL, Bool.and_eq_true, Bool.and_eq_true, decide_eq_true_eq, decide_eq_true_eq] at ht
    simp only [boxL, List.length_append, List.length_singleton]
    omega
  refine ⟨⟨(boxL ((p : Nat) : Int) ((v : Nat) : Int) t.data.toList).toArray⟩, ?_, fun W' hW => ?_⟩
  · have h := strings_Join g o c [⟨(Lib.itoa ((p : Nat) : Int)).toArray⟩, ⟨(Lib.itoa ((v : Nat) : Int)).toArray⟩, t] ⟨#[58]⟩ W hcells hg (by simp) hc (by
      rw [show (⟨#[58]⟩ : ByteArray).data.toList = [58] from rfl, e]
      omega)
    rw [show (⟨#[58]⟩ : ByteArray).data.toList = [58] from rfl, e] at h
    exact h
  · have h := Hash_c ⟨(boxL ((p : Nat) : Int) ((v : Nat) : Int) t.data.toList).toArray⟩ (by rw [size_list]; omega) W' (L.below hW)
    rw [if_pos (by rw [size_list]; exact hsz)] at h
    exact h
theorem hash_none (W : World) (L : LaidW W) : Calls Tryd.prog 10 #[.string ⟨#[]⟩] W fun e W'' => (∃ s, e = .returned (.tuple #[.string s, .int .i64 0])) ∧ Below W.heap.size W W'' := by
  have h := Hash_c ⟨#[]⟩ (by decide) W L
  rw [if_pos (by decide)] at h
  exact h.mono fun e W' h => ⟨⟨_, h.1⟩, h.2⟩
/-- Known values, but for two. -/
def D44 (vals : List Value) (ws1 ws2 : List ByteArray) (j : Nat) (v : Value) (W : World) : Prop := if j = 4 then StrsAt ws1 v W else if j = 9 then StrsAt ws2 v W else v = vals.getD j undef
theorem D44.mono (vals : List Value) (ws1 ws2 : List ByteArray) : ∀ j v w w', Below w.heap.size w w' → D44 vals ws1 ws2 j v w → D44 vals ws1 ws2 j v w' := fun j v w w' hb h => by
  unfold D44 at h ⊢
  split
  · rename_i e
    rw [if_pos e] at h
    exact StrsAt.mono _ _ _ _ hb h
  · rename_i e
    rw [if_neg e] at h
    split
    · rename_i e
      rw [if_pos e] at h
      exact StrsAt.mono _ _ _ _ hb h
    · rename_i e
      rw [if_neg e] at h
      exact h
end Go.Proofs.YtbcileppebpamaaDoor
