/- The frame of the Witness laws: a box among the arguments. -/
import Derived.Test.YtbcileppebpamaaDoorFN
set_option linter.unusedSimpArgs false
set_option linter.unusedVariables false
namespace Go.Proofs.YtbcileppebpamaaDoor
open Go Go.RowKit Go.ChangeShapes Go.WideShapes
set_option maxRecDepth 100000

theorem open_box {H : Type} {enc : TypeId × Value → H} {W : World} {base : Nat} {v : Value} {d : DataW H} {p : List MemPlace}
    (hv : Value.okWide Tryd.prog W .any base 23 v) (h : DataW.Trod enc Tryd.prog W 0 (fun _ => true) true 23 v d p) :
    ∃ a b s, v = .agg #[.int .i64 a, .int .i64 b, .string s] ∧ (-9223372036854775808 ≤ a ∧ a ≤ 9223372036854775807) ∧ (-9223372036854775808 ≤ b ∧ b ≤ 9223372036854775807) ∧ s.size ≤ maxLen := by
  obtain ⟨cs, rfl, hsz, _⟩ : ∃ cs, v = .agg cs ∧ cs.size = Tryd.prog.cellsOf 23 ∧ Row.okWide Tryd.prog W .any base 23 cs := by
    simpa [Value.okWide, Tryd.underlying23] using hv
  have hs3 : cs.size = 3 := by rw [hsz]; kernel_rfl
  obtain ⟨fuel, hf⟩ := h
  have hf' : DataW.trod enc Tryd.prog W 0 (fun _ => true) true fuel 23 cs.toList = some (d, p) := hf
  obtain ⟨xs, m, rfl, hx, hl, hn, hel⟩ := DataW.trod_struct Tryd.underlying23 hf'
  obtain ⟨v0, v1, v2, hc⟩ : ∃ v0 v1 v2, cs = #[v0, v1, v2] := by
    obtain ⟨l⟩ := cs
    match l, hs3 with
    | [a, b, c], _ => exact ⟨a, b, c, rfl⟩
  subst hc
  have e0 := hel 0 _ rfl
  have e1 := hel 1 _ rfl
  have e2 := hel 2 _ rfl
  have hn3 : xs.length = 3 := hn
  clear hel hn hx
  match xs, hn3 with
  | [y0, y1, y2], _ =>
    have f0 : DataW.trod enc Tryd.prog W 0 (fun _ => true) true m 3 [v0] = some y0 := e0
    have f1 : DataW.trod enc Tryd.prog W 0 (fun _ => true) true m 3 [v1] = some y1 := e1
    have f2 : DataW.trod enc Tryd.prog W 0 (fun _ => true) true m 9 [v2] = some y2 := e2
    obtain ⟨z0, h0, _, w0⟩ := DataW.trod_int (k := .i64) Tryd.underlying3 f0
    obtain ⟨z1, h1, _, w1⟩ := DataW.trod_int (k := .i64) Tryd.underlying3 f1
    obtain ⟨s, h2, _, w2⟩ := DataW.trod_string Tryd.underlying9 f2
    injection h0 with h0
    injection h1 with h1
    injection h2 with h2
    subst h0 h1 h2
    exact ⟨z0, z1, s, rfl, of_intx w0, of_intx w1, w2⟩
end Go.Proofs.YtbcileppebpamaaDoor
