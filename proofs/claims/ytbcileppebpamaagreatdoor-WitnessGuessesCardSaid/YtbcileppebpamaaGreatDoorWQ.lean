/- The plain law of drawings: what is sealed and opened, one after another. -/
import Derived.Test.YtbcileppebpamaaGreatDoorWP
set_option linter.unusedSimpArgs false
set_option linter.unusedVariables false
namespace Go.Proofs.YtbcileppebpamaaGreatDoor
open Go Go.RowKit Go.Shelf

theorem hexB_hexD (d : Nat) (h : d < 16) : hexB (hexD d) = true := by
  have : ∀ d : Fin 16, hexB (hexD d.1) = true := by decide
  exact this ⟨d, h⟩
theorem hexK_all : ∀ k n, (hexK k n).all hexB = true
  | 0, _ => rfl
  | k + 1, n => by rw [hexK, List.all_append, hexK_all k, List.all_cons, hexB_hexD _ (Nat.mod_lt _ (by decide))]; rfl
theorem isHash_hash (l : List UInt8) : isHashL (hashL l) = true := by
  rw [isHashL, hashL, hex16, hexK_len, hexK_all]
  rfl
theorem isHash_openH (p v : Int) (s : ByteArray) : isHashL (openH p v s).data.toList = true := by
  rw [openH, List.toList_toArray]
  exact isHash_hash _
theorem sameB_self (a : ByteArray) : sameB a a = true := by simp [sameB]
/-- Where a drawing stands: the first i persons have sealed, c persons have opened, those of O. -/
structure Stt (D : DS) (b m : Nat) (H : Nat → ByteArray) (v : Nat → Nat) (t : Nat → ByteArray) (i : Nat) (O : Nat → Prop) (c : Nat) : Prop where
  below : D.below = b
  len : D.ps.length = m
  sl : D.sl = i
  op : D.op = c
  cl : D.cl = 0
  ls : D.ls.length = 1 + i + c
  un : ∀ j p, D.ps[j]? = some p → i ≤ j → p.s = 0
  sd : ∀ j p, D.ps[j]? = some p → j < i → p.h = H j ∧ ∃ k, p.s = k + 1 ∧ D.ls[k]? = some ⟨(lineL (sealW ((j + 1 : Nat) : Int) (H j))).toArray⟩
  op0 : ∀ j p, D.ps[j]? = some p → ¬ O j → p.o = 0
  op1 : ∀ j p, D.ps[j]? = some p → O j → (∃ k, p.o = k + 1 ∧ D.ls[k]? = some ⟨(lineL (openW ((j + 1 : Nat) : Int) ((v j : Nat) : Int) (t j))).toArray⟩) ∧ p.r = sameB (openH ((j + 1 : Nat) : Int) ((v j : Nat) : Int) (t j)) (H j) ∧ p.v = ((v j : Nat) : Int)
theorem Stt.start (b m : Nat) (H : Nat → ByteArray) (v : Nat → Nat) (t : Nat → ByteArray) : Stt (DS.start b m) b m H v t 0 (fun _ => False) 0 := by
  have hz : ∀ j p, (List.replicate m PS.zero)[j]? = some p → p = PS.zero := fun j p h => by
    have := List.mem_of_getElem? h
    exact (List.mem_replicate.1 this).2
  exact ⟨rfl, by simp [DS.start], rfl, rfl, rfl, rfl, fun j p h _ => by rw [hz j p h]; rfl, fun j p h hj => absurd hj (by omega), fun j p h _ => by rw [hz j p h]; rfl, fun j p h hj => hj.elim⟩
theorem inR_one (j m : Nat) (h : j < m) : inR ((j + 1 : Nat) : Int) 1 ((m : Nat) : Int) = true := (inR_iff _ _ _).2 ⟨by omega, by omega⟩
theorem toNat_one (j : Nat) : ((j + 1 : Nat) : Int).toNat - 1 = j := by omega
theorem Stt.seal {D : DS} {b m : Nat} {H : Nat → ByteArray} {v : Nat → Nat} {t : Nat → ByteArray} {i : Nat} {O : Nat → Prop} {c : Nat} (h : Stt D b m H v t i O c) (hi : i < m) (hH : isHashL (H i).data.toList = true) :
    D.sealE ((i + 1 : Nat) : Int) (H i) = 0 ∧ Stt (D.seal ((i + 1 : Nat) : Int) (H i)) b m H v t (i + 1) O c := by
  obtain ⟨x, hx⟩ : ∃ x, D.ps[i]? = some x := ⟨_, List.getElem?_eq_getElem (by rw [h.len]; exact hi)⟩
  have hE : D.sealE ((i + 1 : Nat) : Int) (H i) = 0 := by
    unfold DS.sealE
    rw [h.len, inR_one i m hi, hH, toNat_one, hx]
    simp [h.un i x hx (Nat.le_refl _)]
  refine ⟨hE, ?_⟩
  rw [DS.seal, if_pos hE, DS.sealT, toNat_one, hx]
  have hil : i < D.ps.length := by rw [h.len]; exact hi
  have hset : ∀ j p, (D.ps.set i { x with h := H i, s := D.ls.length + 1 })[j]? = some p → (j = i ∧ p = { x with h := H i, s := D.ls.length + 1 }) ∨ (j ≠ i ∧ D.ps[j]? = some p) := fun j p hp => by
    by_cases e : j = i
    · subst e
      rw [List.getElem?_set_self hil] at hp
      exact .inl ⟨rfl, (Option.some.inj hp).symm⟩
    · rw [List.getElem?_set_ne (Ne.symm e)] at hp
      exact .inr ⟨e, hp⟩
  have hls : ∀ (k : Nat) (l y : ByteArray), D.ls[k]? = some y → (D.ls ++ [l])[k]? = some y := fun k l y hk => by
    rw [List.getElem?_append_left (List.getElem?_eq_some_iff.1 hk).1]
    exact hk
  refine ⟨h.below, by simp [h.len], by simp [h.sl], h.op, h.cl, by simp [h.ls]; omega, fun j p hp hj => ?_, fun j p hp hj => ?_, fun j p hp hj => ?_, fun j p hp hj => ?_⟩
  · rcases hset j p hp with ⟨rfl, rfl⟩ | ⟨e, hp'⟩
    · omega
    · exact h.un j p hp' (by omega)
  · rcases hset j p hp with ⟨rfl, rfl⟩ | ⟨e, hp'⟩
    · exact ⟨rfl, D.ls.length, rfl, by simp⟩
    · obtain ⟨h1, k, h2, h3⟩ := h.sd j p hp' (by omega)
      exact ⟨h1, k, h2, hls k _ _ h3⟩
  · rcases hset j p hp with ⟨rfl, rfl⟩ | ⟨e, hp'⟩
    · exact h.op0 j x hx hj
    · exact h.op0 j p hp' hj
  · rcases hset j p hp with ⟨rfl, rfl⟩ | ⟨e, hp'⟩
    · obtain ⟨⟨k, h2, h3⟩, h4⟩ := h.op1 j x hx hj
      exact ⟨⟨k, h2, hls k _ _ h3⟩, h4⟩
    · obtain ⟨⟨k, h2, h3⟩, h4⟩ := h.op1 j p hp' hj
      exact ⟨⟨k, h2, hls k _ _ h3⟩, h4⟩
theorem Stt.open {D : DS} {b m : Nat} {H : Nat → ByteArray} {v : Nat → Nat} {t : Nat → ByteArray} {O : Nat → Prop} {c : Nat} (h : Stt D b m H v t m O c) (hc : c < m) (j : Nat) (hj : j < m) (hO : ¬ O j) (hv : v j < b) (ht : isSaltL (t j).data.toList = true) :
    D.openE ((j + 1 : Nat) : Int) ((v j : Nat) : Int) (t j) = 0 ∧ D.openR ((j + 1 : Nat) : Int) ((v j : Nat) : Int) (t j) = sameB (openH ((j + 1 : Nat) : Int) ((v j : Nat) : Int) (t j)) (H j) ∧ Stt (D.open ((j + 1 : Nat) : Int) ((v j : Nat) : Int) (t j)) b m H v t m (fun k => O k ∨ k = j) (c + 1) := by
  obtain ⟨x, hx⟩ : ∃ x, D.ps[j]? = some x := ⟨_, List.getElem?_eq_getElem (by rw [h.len]; exact hj)⟩
  have hrun : D.running = true := by
    have : (c == m) = false := by simp; omega
    simp [DS.running, DS.over, h.sl, h.len, h.op, h.cl, this]
  have hE : D.openE ((j + 1 : Nat) : Int) ((v j : Nat) : Int) (t j) = 0 := by
    unfold DS.openE
    rw [h.len, h.below, inR_one j m hj, ht, hrun, toNat_one, hx, show inR ((v j : Nat) : Int) 0 (((b : Nat) : Int) - 1) = true from (inR_iff _ _ _).2 ⟨by omega, by omega⟩]
    simp [h.op0 j x hx hO]
  have hh : x.h = H j := (h.sd j x hx hj).1
  refine ⟨hE, by rw [DS.openR, toNat_one, hx]; simp only [hh], ?_⟩
  rw [DS.open, if_pos hE, DS.openT, toNat_one, hx]
  have hil : j < D.ps.length := by rw [h.len]; exact hj
  have hset : ∀ i p, (D.ps.set j { x with v := ((v j : Nat) : Int), r := sameB (openH ((j + 1 : Nat) : Int) ((v j : Nat) : Int) (t j)) x.h, o := D.ls.length + 1 })[i]? = some p → (i = j ∧ p = { x with v := ((v j : Nat) : Int), r := sameB (openH ((j + 1 : Nat) : Int) ((v j : Nat) : Int) (t j)) x.h, o := D.ls.length + 1 }) ∨ (i ≠ j ∧ D.ps[i]? = some p) := fun i p hp => by
    by_cases e : i = j
    · subst e
      rw [List.getElem?_set_self hil] at hp
      exact .inl ⟨rfl, (Option.some.inj hp).symm⟩
    · rw [List.getElem?_set_ne (Ne.symm e)] at hp
      exact .inr ⟨e, hp⟩
  have hls : ∀ (k : Nat) (l y : ByteArray), D.ls[k]? = some y → (D.ls ++ [l])[k]? = some y := fun k l y hk => by
    rw [List.getElem?_append_left (List.getElem?_eq_some_iff.1 hk).1]
    exact hk
  refine ⟨h.below, by simp [h.len], h.sl, by simp [h.op], h.cl, by simp [h.ls]; omega, fun i p hp hi => ?_, fun i p hp hi => ?_, fun i p hp hi => ?_, fun i p hp hi => ?_⟩
  · rcases hset i p hp with ⟨rfl, rfl⟩ | ⟨e, hp'⟩
    · omega
    · exact h.un i p hp' hi
  · rcases hset i p hp with ⟨rfl, rfl⟩ | ⟨e, hp'⟩
    · obtain ⟨h1, k, h2, h3⟩ := h.sd i x hx hj
      exact ⟨h1, k, h2, hls k _ _ h3⟩
    · obtain ⟨h1, k, h2, h3⟩ := h.sd i p hp' hi
      exact ⟨h1, k, h2, hls k _ _ h3⟩
  · rcases hset i p hp with ⟨rfl, rfl⟩ | ⟨e, hp'⟩
    · exact absurd (.inr rfl) hi
    · exact h.op0 i p hp' fun ho => hi (.inl ho)
  · rcases hset i p hp with ⟨rfl, rfl⟩ | ⟨e, hp'⟩
    · exact ⟨⟨D.ls.length, rfl, by simp⟩, by simp only [hh], rfl⟩
    · obtain ⟨⟨k, h2, h3⟩, h4⟩ := h.op1 i p hp' (hi.elim id fun e' => absurd e' e)
      exact ⟨⟨k, h2, hls k _ _ h3⟩, h4⟩
theorem devFrom_nil (cl : Nat) : ∀ (l : List PS) (i : Nat), (∀ x ∈ l, 0 < x.o ∧ x.r = true) → devFrom cl i l = []
  | [], _, _ => rfl
  | x :: l, i, h => by
    obtain ⟨h1, h2⟩ := h x (List.mem_cons_self)
    rw [devFrom, devFrom_nil cl l _ fun y hy => h y (List.mem_cons_of_mem _ hy)]
    simp [devOf, h2]
    omega
def sumV (v : Nat → Nat) : Nat → Nat
  | 0 => 0
  | m + 1 => sumV v m + v m
theorem valN_take (b : Nat) (hb : 0 < b) (v : Nat → Nat) (l : List PS) (hv : ∀ j p, l[j]? = some p → p.v = ((v j : Nat) : Int) ∧ v j < b) : ∀ i, i ≤ l.length → valN b (l.take i) 0 = sumV v i % b
  | 0, _ => by simp [valN, sumV]
  | i + 1, hi => by
    obtain ⟨x, hx⟩ : ∃ x, l[i]? = some x := ⟨_, List.getElem?_eq_getElem hi⟩
    obtain ⟨h1, h2⟩ := hv i x hx
    rw [List.take_add_one, hx, valN_app, valN_take b hb v l hv i (by omega)]
    have hm : sumV v i % b < b := Nat.mod_lt _ hb
    simp only [Option.toList_some, valN, h1, addO]
    rw [if_pos ⟨by omega, by omega⟩, if_pos ⟨by omega, by omega⟩]
    simp only [Int.toNat_natCast, Option.getD_some, sumV]
    rw [Nat.zero_add, Nat.mod_mod, Nat.mod_add_mod]
/-- All have opened what they sealed. -/
theorem Stt.done {D : DS} {b m : Nat} {H : Nat → ByteArray} {v : Nat → Nat} {t : Nat → ByteArray} {O : Nat → Prop} (h : Stt D b m H v t m O m) (hb : 0 < b) (hO : ∀ j, j < m → O j) (hv : ∀ j, j < m → v j < b) (hH : ∀ j, j < m → H j = openH ((j + 1 : Nat) : Int) ((v j : Nat) : Int) (t j)) :
    D.over = true ∧ D.devs = [] ∧ D.valE = 0 ∧ D.val = ((sumV v m % b : Nat) : Int) := by
  have hov : D.over = true := by simp [DS.over, h.op, h.len]
  have hj : ∀ j p, D.ps[j]? = some p → j < m := fun j p hp => by rw [← h.len]; exact (List.getElem?_eq_some_iff.1 hp).1
  have hde : D.devs = [] := by
    refine devFrom_nil _ _ _ fun x hx => ?_
    obtain ⟨j, hjx⟩ := List.mem_iff_getElem?.1 hx
    obtain ⟨⟨k, h1, _⟩, h2, _⟩ := h.op1 j x hjx (hO j (hj j x hjx))
    rw [hH j (hj j x hjx), sameB_self] at h2
    exact ⟨by omega, h2⟩
  have hE : D.valE = 0 := by simp [DS.valE, hov, hde]
  refine ⟨hov, hde, hE, ?_⟩
  rw [DS.val, if_pos hE, h.below]
  have := valN_take b hb v D.ps (fun j p hp => ⟨(h.op1 j p hp (hO j (hj j p hp))).2.2, hv j (hj j p hp)⟩) D.ps.length (Nat.le_refl _)
  rw [List.take_length, h.len] at this
  rw [this]
end Go.Proofs.YtbcileppebpamaaGreatDoor
