/- The frame of WitnessFound: seven laid tables; its argument. -/
import Derived.Test.YtbcileppebpamaaDoorFO
set_option linter.unusedSimpArgs false
set_option linter.unusedVariables false
namespace Go.Proofs.YtbcileppebpamaaDoor
open Go Go.RowKit Go.ChangeShapes Go.WideShapes
set_option maxRecDepth 100000

theorem open_found {H : Type} {enc : TypeId × Value → H} {W : World} {base : Nat} {v : Value} {d : DataW H} {p : List MemPlace}
    (hv : Value.okWide Tryd.prog W .any base 73 v) (h : DataW.Trod enc Tryd.prog W 0 (fun _ => true) true 73 v d p) :
    ∃ bs u a b c, v = .agg #[.int .u8 ((a : Nat) : Int), .int .u8 ((b : Nat) : Int), .int .u8 ((c : Nat) : Int), u] ∧ ReadsU W u bs ∧ a < 256 ∧ b < 256 ∧ c < 256 := by
  obtain ⟨cs, rfl, hsz, _⟩ : ∃ cs, v = .agg cs ∧ cs.size = Tryd.prog.cellsOf 73 ∧ Row.okWide Tryd.prog W .any base 73 cs := by
    simpa [Value.okWide, Tryd.underlying73] using hv
  have hs4 : cs.size = 4 := by rw [hsz]; kernel_rfl
  obtain ⟨fuel, hf⟩ := h
  have hf' : DataW.trod enc Tryd.prog W 0 (fun _ => true) true fuel 73 cs.toList = some (d, p) := hf
  obtain ⟨xs, m, rfl, hx, hl, hn, hel⟩ := DataW.trod_struct Tryd.underlying73 hf'
  obtain ⟨v0, v1, v2, v3, hc⟩ : ∃ v0 v1 v2 v3, cs = #[v0, v1, v2, v3] := by
    obtain ⟨l⟩ := cs
    match l, hs4 with
    | [a, b, c, d], _ => exact ⟨a, b, c, d, rfl⟩
  subst hc
  have e0 := hel 0 _ rfl
  have e1 := hel 1 _ rfl
  have e2 := hel 2 _ rfl
  have e3 := hel 3 _ rfl
  have hn4 : xs.length = 4 := hn
  clear hel hn hx
  match xs, hn4 with
  | [y0, y1, y2, y3], _ =>
    have f0 : DataW.trod enc Tryd.prog W 0 (fun _ => true) true m 40 [v3] = some y3 := e3
    have f1 : DataW.trod enc Tryd.prog W 0 (fun _ => true) true m 5 [v0] = some y0 := e0
    have f2 : DataW.trod enc Tryd.prog W 0 (fun _ => true) true m 5 [v1] = some y1 := e1
    have f3 : DataW.trod enc Tryd.prog W 0 (fun _ => true) true m 5 [v2] = some y2 := e2
    obtain ⟨u, bs, h0, hu⟩ := u8_rd Tryd.underlying40 Tryd.underlying5 (by kernel_rfl) f0
    obtain ⟨z1, h1, _, w1⟩ := DataW.trod_int (k := .u8) Tryd.underlying5 f1
    obtain ⟨z2, h2, _, w2⟩ := DataW.trod_int (k := .u8) Tryd.underlying5 f2
    obtain ⟨z3, h3, _, w3⟩ := DataW.trod_int (k := .u8) Tryd.underlying5 f3
    injection h0 with h0
    injection h1 with h1
    injection h2 with h2
    injection h3 with h3
    subst h0 h1 h2 h3
    have b1 := bounds_u8 w1
    have b2 := bounds_u8 w2
    have b3 := bounds_u8 w3
    obtain ⟨n1, rfl⟩ : ∃ n : Nat, z1 = n := ⟨z1.toNat, by omega⟩
    obtain ⟨n2, rfl⟩ : ∃ n : Nat, z2 = n := ⟨z2.toNat, by omega⟩
    obtain ⟨n3, rfl⟩ : ∃ n : Nat, z3 = n := ⟨z3.toNat, by omega⟩
    exact ⟨bs, v3, n1, n2, n3, rfl, hu, by omega, by omega, by omega⟩
def laidW7 : List (String × DataW Unit) := [("math/bits.deBruijn32tab", Rows.laid_math_bits_deBruijn32tab), ("math/bits.deBruijn64tab", Rows.laid_math_bits_deBruijn64tab), ("internal/strconv.uint64pow10", Rows.laid_internal_strconv_uint64pow10), ("unicode/utf8.acceptRanges", Rows.laid_unicode_utf8_acceptRanges), ("strconv.ErrRange", Rows.laid_strconv_ErrRange), ("strconv.ErrSyntax", Rows.laid_strconv_ErrSyntax), ("unicode/utf8.first", Rows.laid_unicode_utf8_first)]
theorem of_laidW7 {W : World} (h : laidMetH Tryd.prog laidW7 W) : LaidW W := by
  rw [MakeChecks.laidMetH_plain _ _ _ (by kernel_rfl)] at h
  exact of_laidM h
theorem layW7 (os : Os) (args : Array Value) : laidMetH Tryd.prog laidW7 ((World.laidAll Tryd.prog os laidW7).forCall (fun _ _ => 0) ⟨#[], args, []⟩).memory := by
  rw [MakeChecks.laidMetH_plain _ _ _ (by kernel_rfl)]
  exact laidMet_laidAll _ (by kernel_rfl) (by kernel_rfl)
end Go.Proofs.YtbcileppebpamaaDoor
