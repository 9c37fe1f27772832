/- The frame of the House laws about a sky: the argument opened. -/
import Derived.Test.YtcdbkgpgjjeoiaaDoorHFM
import Derived.Test.YtcdbkgpgjjeoiaaDoorHY
namespace Go.Proofs.YtcdbkgpgjjeoiaaDoor
open Go Go.RowKit Go.ChangeShapes Go.WideShapes
set_option maxRecDepth 100000
set_option linter.unusedSimpArgs false
set_option linter.unusedVariables false

theorem u8_ofP {H : Type} {enc : TypeId × Value → H} {P : Program} {w : World} {base : Nat} {spare : Nat → Bool} {held : Bool} {fuel : Nat} {t e n : Nat} {cs : List Value} {ds : List (DataW H)} {p : List MemPlace} (hu : P.underlying t = some (.array n e)) (hue : P.underlying e = some (.int .u8)) (ce : P.cellsOf e = 1) (h : DataW.trod enc P w base spare held fuel t cs = some (.agg ds, p)) :
    p = [] ∧ ∀ i, i < n → ∃ z : Int, cs[i]? = some (.int .u8 z) ∧ 0 ≤ z ∧ z ≤ 255 := by
  obtain ⟨xs, m, rfl, hx, hlen, hn, hel⟩ := DataW.trod_array hu h
  simp only [Prod.mk.injEq, DataW.agg.injEq] at hx
  obtain ⟨rfl, rfl⟩ := hx
  have key : ∀ i, i < n → ∃ z, cs[i]? = some (.int .u8 z) ∧ xs[i]? = some (.lit (.int .u8 z), []) ∧ (Lit.int .u8 z).wf = true := fun i hi => by
    have h1 := hel i hi
    rw [ce, Nat.mul_one] at h1
    have hix : i < xs.length := by omega
    rw [List.getElem?_eq_getElem hix] at h1 ⊢
    obtain ⟨z, hz, hx, hw⟩ := DataW.trod_int hue h1
    exact ⟨z, one_at hz, by rw [hx], hw⟩
  refine ⟨?_, fun i hi => ?_⟩
  · rw [List.flatMap_eq_nil_iff]
    intro x hx
    obtain ⟨i, hi, rfl⟩ := List.getElem_of_mem hx
    obtain ⟨z, _, h2, _⟩ := key i (by omega)
    rw [List.getElem?_eq_getElem hi] at h2
    rw [Option.some.inj h2]
  · obtain ⟨z, h1, h2, h3⟩ := key i hi
    exact ⟨z, h1, bounds_u8 h3⟩
theorem open_sky {H : Type} {enc : TypeId × Value → H} {W : World} {base : Nat} {v : Value} {d : DataW H} {p : List MemPlace}
    (hv : Value.okWide Tryd.prog W .any base 42 v) (h : DataW.Trod enc Tryd.prog W 0 (fun _ => true) true 42 v d p) :
    ∃ (S : Nat → Nat) (A B : Nat), (∀ i, i < 12 → S i < 256) ∧ A < 256 ∧ B < 256 ∧ v = .agg (u8row S A B) ∧ p = [] := by
  obtain ⟨cs, rfl, hsz, _⟩ : ∃ cs, v = .agg cs ∧ cs.size = Tryd.prog.cellsOf 42 ∧ Row.okWide Tryd.prog W .any base 42 cs := by
    simpa [Value.okWide, Tryd.underlying42] using hv
  have hs14 : cs.size = 14 := by rw [hsz]; kernel_rfl
  obtain ⟨fuel, hf⟩ := h
  have hf' : DataW.trod enc Tryd.prog W 0 (fun _ => true) true fuel 42 cs.toList = some (d, p) := hf
  obtain ⟨xs, m, rfl, hx, hl, hn, hel⟩ := DataW.trod_struct Tryd.underlying42 hf'
  simp only [Prod.mk.injEq] at hx
  obtain ⟨rfl, rfl⟩ := hx
  have e0 := hel 0 _ rfl
  have e1 := hel 1 _ rfl
  have e2 := hel 2 _ rfl
  have hn3 : xs.length = 3 := hn
  clear hel hn
  match xs, hn3 with
  | [y0, y1, y2], _ =>
    have e0' : DataW.trod enc Tryd.prog W 0 (fun _ => true) true m 40 ((cs.toList.drop 0).take (Tryd.prog.cellsOf 40)) = some y0 := e0
    have e1' : DataW.trod enc Tryd.prog W 0 (fun _ => true) true m 5 ((cs.toList.drop 12).take (Tryd.prog.cellsOf 5)) = some y1 := e1
    have e2' : DataW.trod enc Tryd.prog W 0 (fun _ => true) true m 5 ((cs.toList.drop 13).take (Tryd.prog.cellsOf 5)) = some y2 := e2
    rw [show Tryd.prog.cellsOf 40 = 12 by kernel_rfl] at e0'
    rw [show Tryd.prog.cellsOf 5 = 1 by kernel_rfl] at e1' e2'
    obtain ⟨z1, hz1, hy1, hw1⟩ := DataW.trod_int Tryd.underlying5 e1'
    obtain ⟨z2, hz2, hy2, hw2⟩ := DataW.trod_int Tryd.underlying5 e2'
    obtain ⟨ds0, hy0⟩ : ∃ ds, y0.1 = .agg ds := by
      obtain ⟨xs0, _, _, hx0, _⟩ := DataW.trod_array Tryd.underlying40 e0'
      exact ⟨_, by rw [hx0]⟩
    have e0'' : DataW.trod enc Tryd.prog W 0 (fun _ => true) true m 40 ((cs.toList.drop 0).take 12) = some (.agg ds0, y0.2) := by rw [e0', ← hy0]
    obtain ⟨hp0, hel⟩ := u8_ofP Tryd.underlying40 Tryd.underlying5 (by kernel_rfl) e0''
    have b1 := bounds_u8 hw1
    have b2 := bounds_u8 hw2
    have c1 := one_at hz1
    have c2 := one_at hz2
    refine ⟨fun i => match cs[i]? with | some (.int .u8 z) => z.toNat | _ => 0, z1.toNat, z2.toNat, fun i hi => ?_, by omega, by omega, ?_, by simp [hp0, hy1, hy2]⟩
    · obtain ⟨z, h1, h2, h3⟩ := hel i hi
      rw [List.drop_zero, List.getElem?_take, if_pos hi, Array.getElem?_toList] at h1
      simp only [h1]
      omega
    · congr 1
      apply Array.ext_getElem?
      intro i
      have hi : i < 12 ∨ i = 12 ∨ i = 13 ∨ 14 ≤ i := by omega
      rcases hi with hi | rfl | rfl | hi
      · obtain ⟨z, h1, h2, h3⟩ := hel i hi
        rw [List.drop_zero, List.getElem?_take, if_pos hi, Array.getElem?_toList] at h1
        rw [u8row_get _ _ _ _ hi, h1]
        show some (Value.int .u8 z) = some (.int .u8 ((((match (some (Value.int .u8 z) : Option Value) with | some (.int .u8 z) => z.toNat | _ => 0) : Nat)) : Int))
        congr 2
        show z = ((z.toNat : Nat) : Int)
        omega
      · rw [Array.getElem?_toList] at c1
        rw [u8row_a, c1]
        congr 2
        omega
      · rw [Array.getElem?_toList] at c2
        rw [u8row_b, c2]
        congr 2
        omega
      · rw [Array.getElem?_eq_none (by omega), Array.getElem?_eq_none (by rw [u8row_size]; omega)]
end Go.Proofs.YtcdbkgpgjjeoiaaDoor
