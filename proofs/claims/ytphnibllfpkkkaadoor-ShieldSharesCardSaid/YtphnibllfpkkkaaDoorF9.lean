/- An array of short words by value opened. -/
import Derived.Test.YtphnibllfpkkkaaDoorF8
import Derived.Test.YtphnibllfpkkkaaDoorV13
namespace Go.Proofs.YtphnibllfpkkkaaDoor
open Go Go.RowKit Go.ChangeShapes Go.WideShapes
set_option maxRecDepth 100000

theorem u16_of {H : Type} {enc : TypeId × Value → H} {P : Program} {w : World} {base : Nat} {spare : Nat → Bool} {held : Bool} {fuel : Nat} {t e n : Nat} {cs : List Value} {ds : List (DataW H)} {p : List MemPlace} (hu : P.underlying t = some (.array n e)) (hue : P.underlying e = some (.int .u16)) (ce : P.cellsOf e = 1) (h : DataW.trod enc P w base spare held fuel t cs = some (.agg ds, p)) :
    p = [] ∧ ∀ i, i < n → ∃ z : Int, cs[i]? = some (.int .u16 z) ∧ 0 ≤ z ∧ z ≤ 65535 := by
  obtain ⟨xs, m, rfl, hx, hlen, hn, hel⟩ := DataW.trod_array hu h
  simp only [Prod.mk.injEq, DataW.agg.injEq] at hx
  obtain ⟨rfl, rfl⟩ := hx
  have key : ∀ i, i < n → ∃ z, cs[i]? = some (.int .u16 z) ∧ xs[i]? = some (.lit (.int .u16 z), []) ∧ (Lit.int .u16 z).wf = true := fun i hi => by
    have h1 := hel i hi
    rw [ce, Nat.mul_one] at h1
    have hix : i < xs.length := by omega
    rw [List.getElem?_eq_getElem hix] at h1 ⊢
    obtain ⟨z, hz, hx, hw⟩ := DataW.trod_int hue h1
    exact ⟨z, one_at hz, by rw [hx], hw⟩
  refine ⟨?_, fun i hi => ?_⟩
  · rw [List.flatMap_eq_nil_iff]
    intro x hx
    obtain ⟨i, hi, rfl⟩ := List.getElem_of_mem hx
    obtain ⟨z, _, h2, _⟩ := key i (by omega)
    rw [List.getElem?_eq_getElem hi] at h2
    rw [Option.some.inj h2]
  · obtain ⟨z, h1, h2, h3⟩ := key i hi
    exact ⟨z, h1, bounds_u16 h3⟩
/-- An array of short words by value. -/
theorem open_hrow {H : Type} {enc : TypeId × Value → H} {P : Program} {W : World} {base n : Nat} {t e : TypeId} {v : Value} {d : DataW H} {p : List MemPlace} (hu : P.underlying t = some (.array n e)) (hue : P.underlying e = some (.int .u16)) (ce : P.cellsOf e = 1) (ct : P.cellsOf t = n)
    (hv : Value.okWide P W .any base t v) (h : DataW.Trod enc P W 0 (fun _ => true) true t v d p) : ∃ S : Nat → Nat, (∀ i, i < n → S i < 65536) ∧ v = .agg (hrow n S) ∧ p = [] := by
  obtain ⟨cs, rfl, hsz, _⟩ : ∃ cs, v = .agg cs ∧ cs.size = P.cellsOf t ∧ Row.okWide P W .any base t cs := by
    simpa [Value.okWide, hu] using hv
  obtain ⟨fuel, hf⟩ := h
  have hf' : DataW.trod enc P W 0 (fun _ => true) true fuel t cs.toList = some (d, p) := hf
  obtain ⟨xs, m, hm, hx, _⟩ := DataW.trod_array hu hf'
  simp only [Prod.mk.injEq] at hx
  obtain ⟨rfl, _⟩ := hx
  obtain ⟨hp, hel⟩ := u16_of hu hue ce hf'
  refine ⟨fun i => match cs[i]? with | some (.int .u16 z) => z.toNat | _ => 0, fun i hi => ?_, ?_, hp⟩
  · obtain ⟨z, h1, h2, h3⟩ := hel i hi
    rw [Array.getElem?_toList] at h1
    simp only [h1]; omega
  · congr 1
    apply Array.ext_getElem?
    intro i
    by_cases hi : i < n
    · obtain ⟨z, h1, h2, h3⟩ := hel i hi
      rw [Array.getElem?_toList] at h1
      rw [hrow_get _ _ _ hi, h1]
      show some (Value.int .u16 z) = some (.int .u16 ((((match (some (Value.int .u16 z) : Option Value) with | some (.int .u16 z) => z.toNat | _ => 0) : Nat)) : Int))
      congr 2
      show z = ((z.toNat : Nat) : Int)
      omega
    · rw [Array.getElem?_eq_none (by omega), Array.getElem?_eq_none (by rw [hrow_size]; omega)]
end Go.Proofs.YtphnibllfpkkkaaDoor
