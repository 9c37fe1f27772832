/- Walks of law 11: salted, drawn. -/
import Derived.Test.YtbcileppebpamaaGreatDoorWZ
set_option linter.unusedSimpArgs false
set_option linter.unusedVariables false
namespace Go.Proofs.YtbcileppebpamaaGreatDoor
open Go Go.RowKit Go.Shelf
set_option maxRecDepth 100000

def sltB (n : Nat) : ByteArray := ⟨[UInt8.ofNat (97 + n % 26), UInt8.ofNat (48 + n % 10)].toArray⟩
theorem sltB_salt (n : Nat) : isSaltL (sltB n).data.toList = true := by
  have h1 : n % 26 < 26 := Nat.mod_lt _ (by decide)
  have h2 : n % 10 < 10 := Nat.mod_lt _ (by decide)
  have e1 : ∀ a : Fin 26, saltB (UInt8.ofNat (97 + a.1)) = true := by decide
  have e2 : ∀ a : Fin 10, saltB (UInt8.ofNat (48 + a.1)) = true := by decide
  have q1 := e1 ⟨n % 26, h1⟩
  have q2 := e2 ⟨n % 10, h2⟩
  simp only [sltB, isSaltL, List.toList_toArray, List.all_cons, List.all_nil, q1, q2]
  rfl
theorem exec_addC {ev : Operand → Value} {o : Oper} {x y : Operand} {a : Nat} {W : World} (ho : o.op = .binOp .add 3 x y 3) (hx : ev x = .int .i64 ((a : Nat) : Int)) (hy : ev y = .int .i64 1) (hl : a < 1000000000) : (execOp ev o).run Tryz.prog W = .ok (.value (.int .i64 ((a + 1 : Nat) : Int))) W :=
  exec_addN (b := 1) (c := a + 1) ho hx hy rfl (by omega)
theorem exec_ixI {ev : Operand → Value} {o : Oper} {x y : Operand} {p : Option Addr} {m cc b oo i : Nat} {W : World} (ho : o.op = .indexAddr 72 x y) (hx : ev x = .slice p m cc) (hy : ev y = .int .i64 ((i : Nat) : Int)) (hp : p = some ⟨b, oo, none⟩) (hi : i < m) : (execOp ev o).run Tryz.prog W = .ok (.value (.pointer (some ⟨b, oo + i, none⟩))) W := by
  subst hp
  have h0 : (0 : Int) ≤ ((i : Nat) : Int) := by omega
  have h1 : ((i : Nat) : Int) < ((m : Nat) : Int) := by omega
  simp [execOp, ho, hx, hy]
  go_simp
theorem exec_cvU {ev : Operand → Value} {o : Oper} {x : Operand} {c : Nat} {W : World} (ho : o.op = .convert 3 5 x) (hx : ev x = .int .i64 ((c : Nat) : Int)) (hc : c < 256) : (execOp ev o).run Tryz.prog W = .ok (.value (.int .u8 ((c : Nat) : Int))) W := by
  have hw : IntKind.u8.wrap ((c : Nat) : Int) = ((c : Nat) : Int) := by show ((c : Nat) : Int) % 256 = _; omega
  simp [execOp, ho, hx]
  go_simp
theorem exec_addU {ev : Operand → Value} {o : Oper} {x y : Operand} {a b c : Nat} {W : World} (ho : o.op = .binOp .add 5 x y 5) (hx : ev x = .int .u8 ((a : Nat) : Int)) (hy : ev y = .int .u8 ((b : Nat) : Int)) (hc : (a + b) % 256 = c) : (execOp ev o).run Tryz.prog W = .ok (.value (.int .u8 ((c : Nat) : Int))) W := by
  have hw : IntKind.u8.wrap (((a : Nat) : Int) + ((b : Nat) : Int)) = ((c : Nat) : Int) := by show (((a : Nat) : Int) + ((b : Nat) : Int)) % 256 = _; omega
  simp [execOp, ho, hx, hy]
  go_simp
theorem exec_build {ev : Operand → Value} {o : Oper} {x y z : Operand} {a b : Int} {s : ByteArray} {W : World} (ho : o.op = .build 27 #[(0, x), (1, y), (2, z)]) (hx : ev x = .int .i64 a) (hy : ev y = .int .i64 b) (hz : ev z = .string s) : (execOp ev o).run Tryz.prog W = .ok (.value (.agg #[.int .i64 a, .int .i64 b, .string s])) W := by
  simp [execOp, ho, hx, hy, hz]
  go_simp
theorem Stt.congr {D : DS} {b m : Nat} {H : Nat → ByteArray} {v : Nat → Nat} {t : Nat → ByteArray} {i : Nat} {O O' : Nat → Prop} {c : Nat} (h : Stt D b m H v t i O c) (hO : ∀ j, j < m → (O j ↔ O' j)) : Stt D b m H v t i O' c :=
  have hj : ∀ j p, D.ps[j]? = some p → j < m := fun j p hp => by rw [← h.len]; exact (List.getElem?_eq_some_iff.1 hp).1
  ⟨h.below, h.len, h.sl, h.op, h.cl, h.ls, h.un, h.sd, fun j p hp hn => h.op0 j p hp fun ho => hn ((hO j (hj j p hp)).1 ho), fun j p hp ho => h.op1 j p hp ((hO j (hj j p hp)).2 ho)⟩
/-- The value, the salt, the hash of a person. -/
def vsF (vs : List Nat) (j : Nat) : Nat := vs.getD j 0
def slF (n : Nat) (j : Nat) : ByteArray := sltB ((n + j) % 256)
def hsF (vs : List Nat) (n : Nat) (j : Nat) : ByteArray := openH ((j + 1 : Nat) : Int) ((vsF vs j : Nat) : Int) (slF n j)
theorem exec_addD {ev : Operand → Value} {o : Oper} {x y : Operand} {a c : Nat} {W : World} (ho : o.op = .binOp .add 3 x y 3) (hx : ev x = .int .i64 ((a : Nat) : Int)) (hy : ev y = .int .i64 1) (hc : a + 1 = c) (hl : a < 1000000000) : (execOp ev o).run Tryz.prog W = .ok (.value (.int .i64 ((c : Nat) : Int))) W :=
  exec_addN (b := 1) (c := c) ho hx hy hc (by omega)
theorem box_one (a b : Int) (s : ByteArray) : (#[.int .i64 a, .int .i64 b, .string s] : Array Value).all (·.oneCell') = true := by
  simp [Value.oneCell']
theorem exec_allocBox {ev : Operand → Value} {o : Oper} {W : World} (ho : o.op = .alloc 27) : (execOp ev o).run Tryz.prog W = .ok (.value (.pointer (some ⟨W.heap.size, 0, none⟩))) (W.alloc (.cells #[.int .i64 0, .int .i64 0, .string ⟨#[]⟩] 27)) := by
  simp [execOp, ho]
  go_simp
/-- Known values, but for one. -/
def DK (k : Nat) (vals : List Value) (P : Value → World → Prop) (j : Nat) (v : Value) (W : World) : Prop := if j = k then P v W else v = vals.getD j undef
theorem DK.mono {k : Nat} {vals : List Value} {P : Value → World → Prop} (hP : ∀ v w w', Below w.heap.size w w' → P v w → P v w') : ∀ j v w w', Below w.heap.size w w' → DK k vals P j v w → DK k vals P j v w' := fun j v w w' hb h => by
  unfold DK at h ⊢
  split
  · rename_i e
    rw [if_pos e] at h
    exact hP v w w' hb h
  · rename_i e
    rw [if_neg e] at h
    exact h
def BoxNew (n : Nat) (v : Value) (W : World) : Prop := ∃ z, n ≤ z ∧ v = .pointer (some ⟨z, 0, none⟩) ∧ W.heap[z]? = some (.cells #[.int .i64 0, .int .i64 0, .string ⟨#[]⟩] 27 (0, 0))
theorem BoxNew.mono (n : Nat) : ∀ v w w', Below w.heap.size w w' → BoxNew n v w → BoxNew n v w' := fun _ _ _ hb ⟨z, h1, h2, h3⟩ => ⟨z, h1, h2, heap_below hb h3 (heap_lt h3)⟩
end Go.Proofs.YtbcileppebpamaaGreatDoor
