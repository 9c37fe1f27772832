/- An array of short words by value opened. -/
import Derived.Test.YtphnibllfpkkkaaDoorF8
import Derived.Test.YtphnibllfpkkkaaDoorV13
import Derived.Test.YtphnibllfpkkkaaDoorV15
import Derived.Deep.Slices
namespace Go.Proofs.YtphnibllfpkkkaaDoor
open Go Go.RowKit Go.ChangeShapes Go.WideShapes
set_option maxRecDepth 100000

theorem u16_of {H : Type} {enc : TypeId × Value → H} {P : Program} {w : World} {base : Nat} {spare : Nat → Bool} {held : Bool} {fuel : Nat} {t e n : Nat} {cs : List Value} {ds : List (DataW H)} {p : List MemPlace} (hu : P.underlying t = some (.array n e)) (hue : P.underlying e = some (.int .u16)) (ce : P.cellsOf e = 1) (h : DataW.trod enc P w base spare held fuel t cs = some (.agg ds, p)) :
    p = [] ∧ ∀ i, i < n → ∃ z : Int, cs[i]? = some (.int .u16 z) ∧ 0 ≤ z ∧ z ≤ 65535 := by
  obtain ⟨xs, m, rfl, hx, hlen, hn, hel⟩ := DataW.trod_array hu h
  simp only [Prod.mk.injEq, DataW.agg.injEq] at hx
  obtain ⟨rfl, rfl⟩ := hx
  have key : ∀ i, i < n → ∃ z, cs[i]? = some (.int .u16 z) ∧ xs[i]? = some (.lit (.int .u16 z), []) ∧ (Lit.int .u16 z).wf = true := fun i hi => by
    have h1 := hel i hi
    rw [ce, Nat.mul_one] at h1
    have hix : i < xs.length := by omega
    rw [List.getElem?_eq_getElem hix] at h1 ⊢
    obtain ⟨z, hz, hx, hw⟩ := DataW.trod_int hue h1
    exact ⟨z, one_at hz, by rw [hx], hw⟩
  refine ⟨?_, fun i hi => ?_⟩
  · rw [List.flatMap_eq_nil_iff]
    intro x hx
    obtain ⟨i, hi, rfl⟩ := List.getElem_of_mem hx
    obtain ⟨z, _, h2, _⟩ := key i (by omega)
    rw [List.getElem?_eq_getElem hi] at h2
    rw [Option.some.inj h2]
  · obtain ⟨z, h1, h2, h3⟩ := key i hi
    exact ⟨z, h1, bounds_u16 h3⟩
/-- An array of short words by value. -/
theorem open_hrow {H : Type} {enc : TypeId × Value → H} {P : Program} {W : World} {base n : Nat} {t e : TypeId} {v : Value} {d : DataW H} {p : List MemPlace} (hu : P.underlying t = some (.array n e)) (hue : P.underlying e = some (.int .u16)) (ce : P.cellsOf e = 1) (ct : P.cellsOf t = n)
    (hv : Value.okWide P W .any base t v) (h : DataW.Trod enc P W 0 (fun _ => true) true t v d p) : ∃ S : Nat → Nat, (∀ i, i < n → S i < 65536) ∧ v = .agg (hrow n S) ∧ p = [] := by
  obtain ⟨cs, rfl, hsz, _⟩ : ∃ cs, v = .agg cs ∧ cs.size = P.cellsOf t ∧ Row.okWide P W .any base t cs := by
    simpa [Value.okWide, hu] using hv
  obtain ⟨fuel, hf⟩ := h
  have hf' : DataW.trod enc P W 0 (fun _ => true) true fuel t cs.toList = some (d, p) := hf
  obtain ⟨xs, m, hm, hx, _⟩ := DataW.trod_array hu hf'
  simp only [Prod.mk.injEq] at hx
  obtain ⟨rfl, _⟩ := hx
  obtain ⟨hp, hel⟩ := u16_of hu hue ce hf'
  refine ⟨fun i => match cs[i]? with | some (.int .u16 z) => z.toNat | _ => 0, fun i hi => ?_, ?_, hp⟩
  · obtain ⟨z, h1, h2, h3⟩ := hel i hi
    rw [Array.getElem?_toList] at h1
    simp only [h1]; omega
  · congr 1
    apply Array.ext_getElem?
    intro i
    by_cases hi : i < n
    · obtain ⟨z, h1, h2, h3⟩ := hel i hi
      rw [Array.getElem?_toList] at h1
      rw [hrow_get _ _ _ hi, h1]
      show some (Value.int .u16 z) = some (.int .u16 ((((match (some (Value.int .u16 z) : Option Value) with | some (.int .u16 z) => z.toNat | _ => 0) : Nat)) : Int))
      congr 2
      show z = ((z.toNat : Nat) : Int)
      omega
    · rw [Array.getElem?_eq_none (by omega), Array.getElem?_eq_none (by rw [hrow_size]; omega)]
end Go.Proofs.YtphnibllfpkkkaaDoor
/- A slice of pairs of bytes opened. -/
namespace Go.Proofs.YtphnibllfpkkkaaDoor
open Go Go.RowKit Go.ChangeShapes Go.WideShapes
set_option maxRecDepth 100000

theorem bounds_u8' {z : Int} (h : (Lit.int .u8 z).wf = true) : 0 ≤ z ∧ z ≤ 255 := by
  have := bounds_u8 h
  omega
theorem u8_of {H : Type} {enc : TypeId × Value → H} {P : Program} {w : World} {base : Nat} {spare : Nat → Bool} {held : Bool} {fuel : Nat} {t e n : Nat} {cs : List Value} {x : DataW H × List MemPlace} (hu : P.underlying t = some (.array n e)) (hue : P.underlying e = some (.int .u8)) (ce : P.cellsOf e = 1) (h : DataW.trod enc P w base spare held fuel t cs = some x) :
    ∀ i, i < n → ∃ z : Int, cs[i]? = some (.int .u8 z) ∧ 0 ≤ z ∧ z ≤ 255 := by
  obtain ⟨xs, m, rfl, hx, hlen, hn, hel⟩ := DataW.trod_array hu h
  intro i hi
  have h1 := hel i hi
  rw [ce, Nat.mul_one] at h1
  have hix : i < xs.length := by omega
  rw [List.getElem?_eq_getElem hix] at h1
  obtain ⟨z, hz, hx, hw⟩ := DataW.trod_int hue h1
  exact ⟨z, one_at hz, bounds_u8' hw⟩
/-- A slice of pairs of bytes. -/
theorem open_readsP {H : Type} {enc : TypeId × Value → H} {P : Program} {W : World} {b0 : Nat} {t e e2 : TypeId} {v : Value} {d : DataW H} {ps : List MemPlace} (hu : P.underlying t = some (.slice e)) (hue : P.underlying e = some (.array 2 e2)) (hu2 : P.underlying e2 = some (.int .u8)) (ce : P.cellsOf e = 2) (ce2 : P.cellsOf e2 = 1)
    (hv : Value.okWide P W .any b0 t v) (h : DataW.Trod enc P W 0 (fun _ => true) true t v d ps) : ∃ n A C, ReadsP W v n A C := by
  obtain ⟨a0, len, cap, rfl⟩ := okWide_slice hu hv
  obtain ⟨fuel, hf⟩ := h
  rcases Go.Deep.open_slice hu hf with ⟨hcs, hx⟩ | ⟨a, len', cap', m, n, D, Pl, hcs, _, hl, hm, hmm, hx, hel⟩
  · have hcs' : Value.slice a0 len cap = .slice none 0 0 := by simpa [Value.cells] using hcs
    rw [hcs']
    exact ⟨0, fun _ => 0, fun _ => 0, .inl ⟨rfl, _, _, rfl⟩⟩
  · have hcs' : Value.slice a0 len cap = .slice (some a) len' cap' := by simpa [Value.cells] using hcs
    rw [hcs']
    by_cases h0 : len' = 0
    · subst h0; exact ⟨0, fun _ => 0, fun _ => 0, .inl ⟨rfl, _, _, rfl⟩⟩
    · have hml : len' ≤ m := by rw [hmm]; split <;> omega
      have key : ∀ i, i < len' → ∀ j, j < 2 → ∃ z : Int, W.cell? (a.add (i * 2 + j)) = some (.int .u8 z) ∧ 0 ≤ z ∧ z ≤ 255 := fun i hi j hj => by
        obtain ⟨cs', h1, h2⟩ := hel i (by omega)
        rw [ce] at h1
        obtain ⟨_, _, hc⟩ := World.cells?_some h1
        obtain ⟨z, hz, hb⟩ := u8_of hue hu2 ce2 h2 j hj
        have := hc j hj
        rw [Go.Deep.add_add, hz] at this
        exact ⟨z, this, hb⟩
      obtain ⟨b, off, spot⟩ := a
      obtain ⟨z0, hz0, _⟩ := key 0 (by omega) 0 (by omega)
      have hspot : spot = none := by simpa [Addr.add] using World.cell?_spot hz0
      subst hspot
      have key2 : ∀ i, i < len' → ∀ j, j < 2 → ∃ z : Nat, W.cell? ⟨b, off + i * 2 + j, none⟩ = some (.int .u8 ((z : Nat) : Int)) ∧ z < 256 := fun i hi j hj => by
        obtain ⟨z, hz, hb⟩ := key i hi j hj
        have hadd : (⟨b, off, none⟩ : Addr).add (i * 2 + j) = ⟨b, off + i * 2 + j, none⟩ := by unfold Addr.add; split <;> simp_all <;> omega
        rw [hadd] at hz
        obtain ⟨y, rfl⟩ : ∃ y : Nat, z = y := ⟨z.toNat, by omega⟩
        exact ⟨y, hz, by omega⟩
      have hb : b < W.heap.size := by
        rcases Nat.lt_or_ge b W.heap.size with hg | hg
        · exact hg
        · obtain ⟨z, hz, _⟩ := key2 0 (by omega) 0 (by omega)
          simp [World.cell?, Array.getElem?_eq_none hg] at hz
      obtain ⟨A, hA⟩ := Go.Deep.choose_lt (α := Nat) (p := fun i z => W.cell? ⟨b, off + i * 2 + 0, none⟩ = some (.int .u8 ((z : Nat) : Int)) ∧ z < 256) (fun i hi => key2 i hi 0 (by omega))
      obtain ⟨C, hC⟩ := Go.Deep.choose_lt (α := Nat) (p := fun i z => W.cell? ⟨b, off + i * 2 + 1, none⟩ = some (.int .u8 ((z : Nat) : Int)) ∧ z < 256) (fun i hi => key2 i hi 1 (by omega))
      exact ⟨len', A, C, .inr ⟨b, off, cap', rfl, hb, fun k hk => ⟨(hA k hk).2, (hC k hk).2, (hA k hk).1, (hC k hk).1⟩⟩⟩
end Go.Proofs.YtphnibllfpkkkaaDoor
