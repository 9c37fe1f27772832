/- Calls of a drawing, by where it stands. -/
import Derived.Test.YtbcileppebpamaaGreatDoorWQ
set_option linter.unusedSimpArgs false
set_option linter.unusedVariables false
namespace Go.Proofs.YtbcileppebpamaaGreatDoor
open Go Go.RowKit Go.Shelf
set_option maxRecDepth 100000

/-- A drawing that lies in a world that has grown out of w. -/
structure DA (w V : World) (B b q : Nat) (D : DS) : Prop where
  d : DrawAt V B b q D
  bw : Below w.heap.size w V
  wB : w.heap.size ≤ B
  le : B ≤ V.heap.size
  hb : B ≤ b
  hq : B ≤ q
theorem DA.below {w V V' : World} {B b q : Nat} {D : DS} (h : DA w V B b q D) (hb : Below V.heap.size V V') : DA w V' B b q D :=
  ⟨h.d.below hb, h.bw.trans (hb.mono h.bw.size), h.wB, Nat.le_trans h.le hb.size, h.hb, h.hq⟩
theorem DA.only {w V V' : World} {B b q : Nat} {D D' : DS} (h : DA w V B b q D) (hd : DrawAt V' B b q D') (ho : OnlyD B b q V V') : DA w V' B b q D' :=
  ⟨hd, h.bw.trans ((ho.toB h.hb h.hq h.le).mono h.wB), h.wB, Nat.le_trans h.le ho.size, h.hb, h.hq⟩
theorem DA.laid {w V : World} {B b q : Nat} {D : DS} (L : LaidW w) (h : DA w V B b q D) : ∀ W', Below B V W' → LaidW W' := fun _ hW => L.below (h.bw.trans (hW.mono h.wB))
theorem size_hash (h : ByteArray) (hH : isHashL h.data.toList = true) : h.size ≤ 1000000 := by
  rw [isHashL, Bool.and_eq_true, decide_eq_true_eq, Array.length_toList] at hH
  show h.data.size ≤ _
  omega
theorem da_seal {w V : World} {B b q : Nat} {D : DS} (L : LaidW w) (k : DA w V B b q D) {bb m i c : Nat} {H : Nat → ByteArray} {v : Nat → Nat} {t : Nat → ByteArray} {O : Nat → Prop} (s : Stt D bb m H v t i O c) (hm : m ≤ 30) (hc : c ≤ m) (hi : i < m) (hH : isHashL (H i).data.toList = true) :
    Calls Tryz.prog 18 #[.pointer (some ⟨b, 0, none⟩), .int .i64 ((i + 1 : Nat) : Int), .string (H i)] V fun e W' => e = .returned (.int .i64 0) ∧ ∃ D', Stt D' bb m H v t (i + 1) O c ∧ DA w W' B b q D' ∧ OnlyD B b q V W' := by
  obtain ⟨hE, s'⟩ := s.seal hi hH
  refine (SealD_c k.d ((i + 1 : Nat) : Int) (H i) k.le k.hb k.hq (k.laid L) (by rw [s.len]; exact hm) (size_hash _ hH) (by rw [s.ls]; omega) (by rw [s.sl]; omega)).mono ?_
  rintro e W' ⟨he, hd, ho⟩
  rw [hE] at he
  exact ⟨he, _, s', k.only hd ho, ho⟩
theorem size_salt (t : ByteArray) (h : isSaltL t.data.toList = true) : t.size ≤ 1000000 := by
  rw [isSaltL, Bool.and_eq_true, Bool.and_eq_true, decide_eq_true_eq, decide_eq_true_eq, Array.length_toList] at h
  show t.data.size ≤ _
  omega
theorem da_open {w V : World} {B b q : Nat} {D : DS} (L : LaidW w) (k : DA w V B b q D) {bb m c : Nat} {H : Nat → ByteArray} {v : Nat → Nat} {t : Nat → ByteArray} {O : Nat → Prop} (s : Stt D bb m H v t m O c) (hm : m ≤ 30) (hbb : bb ≤ 1000000000) (hc : c < m) (j : Nat) (hj : j < m) (hO : ¬ O j) (hv : v j < bb) (ht : isSaltL (t j).data.toList = true) :
    Calls Tryz.prog 20 #[.pointer (some ⟨b, 0, none⟩), .agg #[.int .i64 ((j + 1 : Nat) : Int), .int .i64 ((v j : Nat) : Int), .string (t j)]] V fun e W' => e = .returned (.tuple #[.bool (sameB (openH ((j + 1 : Nat) : Int) ((v j : Nat) : Int) (t j)) (H j)), .int .i64 0]) ∧ ∃ D', Stt D' bb m H v t m (fun k => O k ∨ k = j) (c + 1) ∧ DA w W' B b q D' ∧ OnlyD B b q V W' := by
  obtain ⟨hE, hR, s'⟩ := s.open hc j hj hO hv ht
  refine (OpenD_c k.d ((j + 1 : Nat) : Int) ((v j : Nat) : Int) (t j) k.le k.hb k.hq (k.laid L) (by rw [s.len]; exact hm) (by rw [s.below]; exact hbb) (size_salt _ ht) (by rw [s.ls]; omega) (by rw [s.op]; omega)).mono ?_
  rintro e W' ⟨he, hd, ho⟩
  rw [if_pos hE, hE, hR] at he
  exact ⟨he, _, s', k.only hd ho, ho⟩
theorem da_value {w V : World} {B b q : Nat} {D : DS} (k : DA w V B b q D) {bb m : Nat} {H : Nat → ByteArray} {v : Nat → Nat} {t : Nat → ByteArray} {O : Nat → Prop} (s : Stt D bb m H v t m O m) (hm : m ≤ 30) (hbb : 1 ≤ bb ∧ bb ≤ 1000000000) (hO : ∀ j, j < m → O j) (hv : ∀ j, j < m → v j < bb) (hH : ∀ j, j < m → H j = openH ((j + 1 : Nat) : Int) ((v j : Nat) : Int) (t j)) :
    Calls Tryz.prog 23 #[.pointer (some ⟨b, 0, none⟩)] V fun e W' => e = .returned (.tuple #[.int .i64 ((sumV v m % bb : Nat) : Int), .int .i64 0]) ∧ Below V.heap.size V W' := by
  obtain ⟨_, _, hE, hV⟩ := s.done (by omega) hO hv hH
  refine (Value_c k.d (by rw [s.len]; exact hm) (by rw [s.below]; exact hbb)).mono ?_
  rintro e W' ⟨he, hb⟩
  rw [hE, hV] at he
  exact ⟨he, hb⟩
/-- The hash of a valid box. -/
theorem box_hash (p v : Nat) (hp : 1 ≤ p ∧ p ≤ 30) (hv : v ≤ 999999999) (s : ByteArray) (hs : isSaltL s.data.toList = true) (w : World) (L : LaidW w) :
    Calls Tryz.prog 31 #[.agg #[.int .i64 ((p : Nat) : Int), .int .i64 ((v : Nat) : Int), .string s]] w fun e w' => e = .returned (.tuple #[.string (openH ((p : Nat) : Int) ((v : Nat) : Int) s), .int .i64 0]) ∧ Below w.heap.size w w' := by
  refine (Seal_c ((p : Nat) : Int) ((v : Nat) : Int) (by omega) (by omega) s (size_salt _ hs) w L).mono ?_
  rintro e w' ⟨he, hb⟩
  rw [if_pos (by rw [isBoxL, hs, decide_eq_true (by omega), decide_eq_true (by omega), decide_eq_true (by omega), decide_eq_true (by omega)]; rfl)] at he
  exact ⟨he, hb⟩
end Go.Proofs.YtbcileppebpamaaGreatDoor
