/- The frame of the Witness laws: a struct with a list of bytes and three bytes among the arguments. -/
import Derived.Test.YtbcileppebpamaaDoorFN
set_option linter.unusedSimpArgs false
set_option linter.unusedVariables false
namespace Go.Proofs.YtbcileppebpamaaDoor
open Go Go.RowKit Go.ChangeShapes Go.WideShapes
set_option maxRecDepth 100000

theorem u8_rd {H : Type} {enc : TypeId × Value → H} {P : Program} {W : World} {t e : TypeId} {fuel : Nat} {cs : List Value} {x : DataW H × List MemPlace} (hu : P.underlying t = some (.slice e)) (hue : P.underlying e = some (.int .u8)) (ce : P.cellsOf e = 1)
    (hf : DataW.trod enc P W 0 (fun _ => true) true fuel t cs = some x) : ∃ v bs, cs = [v] ∧ ReadsU W v bs := by
  rcases open_ints hu hue ce hf with ⟨rfl, hx⟩ | ⟨a, len', cap', zs, rfl, _, hl, hm, hz, hx, hcell, hwf⟩
  · exact ⟨_, [], rfl, fun x hx => by simp at hx, by simp, .inl ⟨rfl, rfl⟩⟩
  · have hz' : zs.length = cap' := by simpa using hz
    obtain ⟨h1, h2⟩ := lits_u8 (zs := zs.take len') fun z hz => hwf z (List.mem_of_mem_take hz)
    have hl0 : ((zs.take len').map Int.toNat).length = len' := by simp; omega
    refine ⟨_, (zs.take len').map Int.toNat, rfl, h1, by rw [hl0]; omega, .inr ⟨a, cap', by rw [hl0], fun h0 => ?_, fun k hk => ?_⟩⟩
    · rw [hl0] at h0
      rcases Nat.lt_or_ge a.block W.heap.size with hg | hg
      · exact hg
      · have := hcell 0 (by omega)
        have hg' : W.heap.size ≤ (a.add 0).block := by
          have : (a.add 0).block = a.block := by unfold Addr.add; split <;> simp_all
          omega
        simp [World.cell?, Array.getElem?_eq_none hg'] at this
    · rw [hl0] at hk
      have hkz : k < zs.length := by omega
      rw [hcell k hkz, List.getElem_map, List.getElem_take, h2 zs[k] (by rw [List.mem_take_iff_getElem]; exact ⟨k, by omega, rfl⟩)]
      simp [List.getD_eq_getElem?_getD, List.getElem?_eq_getElem hkz]
theorem open_one {H : Type} {enc : TypeId × Value → H} {W : World} {base : Nat} {v : Value} {d : DataW H} {p : List MemPlace}
    (hv : Value.okWide Tryd.prog W .any base 43 v) (h : DataW.Trod enc Tryd.prog W 0 (fun _ => true) true 43 v d p) :
    ∃ bs u a b c, v = .agg #[u, .int .u8 ((a : Nat) : Int), .int .u8 ((b : Nat) : Int), .int .u8 ((c : Nat) : Int)] ∧ ReadsU W u bs ∧ a < 256 ∧ b < 256 ∧ c < 256 := by
  obtain ⟨cs, rfl, hsz, _⟩ : ∃ cs, v = .agg cs ∧ cs.size = Tryd.prog.cellsOf 43 ∧ Row.okWide Tryd.prog W .any base 43 cs := by
    simpa [Value.okWide, Tryd.underlying43] using hv
  have hs4 : cs.size = 4 := by rw [hsz]; kernel_rfl
  obtain ⟨fuel, hf⟩ := h
  have hf' : DataW.trod enc Tryd.prog W 0 (fun _ => true) true fuel 43 cs.toList = some (d, p) := hf
  obtain ⟨xs, m, rfl, hx, hl, hn, hel⟩ := DataW.trod_struct Tryd.underlying43 hf'
  obtain ⟨v0, v1, v2, v3, hc⟩ : ∃ v0 v1 v2 v3, cs = #[v0, v1, v2, v3] := by
    obtain ⟨l⟩ := cs
    match l, hs4 with
    | [a, b, c, d], _ => exact ⟨a, b, c, d, rfl⟩
  subst hc
  have e0 := hel 0 _ rfl
  have e1 := hel 1 _ rfl
  have e2 := hel 2 _ rfl
  have e3 := hel 3 _ rfl
  have hn4 : xs.length = 4 := hn
  clear hel hn hx
  match xs, hn4 with
  | [y0, y1, y2, y3], _ =>
    have f0 : DataW.trod enc Tryd.prog W 0 (fun _ => true) true m 40 [v0] = some y0 := e0
    have f1 : DataW.trod enc Tryd.prog W 0 (fun _ => true) true m 5 [v1] = some y1 := e1
    have f2 : DataW.trod enc Tryd.prog W 0 (fun _ => true) true m 5 [v2] = some y2 := e2
    have f3 : DataW.trod enc Tryd.prog W 0 (fun _ => true) true m 5 [v3] = some y3 := e3
    obtain ⟨u, bs, h0, hu⟩ := u8_rd Tryd.underlying40 Tryd.underlying5 (by kernel_rfl) f0
    obtain ⟨z1, h1, _, w1⟩ := DataW.trod_int (k := .u8) Tryd.underlying5 f1
    obtain ⟨z2, h2, _, w2⟩ := DataW.trod_int (k := .u8) Tryd.underlying5 f2
    obtain ⟨z3, h3, _, w3⟩ := DataW.trod_int (k := .u8) Tryd.underlying5 f3
    injection h0 with h0
    injection h1 with h1
    injection h2 with h2
    injection h3 with h3
    subst h0 h1 h2 h3
    have b1 := bounds_u8 w1
    have b2 := bounds_u8 w2
    have b3 := bounds_u8 w3
    obtain ⟨n1, rfl⟩ : ∃ n : Nat, z1 = n := ⟨z1.toNat, by omega⟩
    obtain ⟨n2, rfl⟩ : ∃ n : Nat, z2 = n := ⟨z2.toNat, by omega⟩
    obtain ⟨n3, rfl⟩ : ∃ n : Nat, z3 = n := ⟨z3.toNat, by omega⟩
    exact ⟨bs, v0, n1, n2, n3, rfl, hu, by omega, by omega, by omega⟩
theorem open_proved {H : Type} {enc : TypeId × Value → H} {W : World} {base : Nat} {v : Value} {d : DataW H} {p : List MemPlace}
    (hv : Value.okWide Tryd.prog W .any base 52 v) (h : DataW.Trod enc Tryd.prog W 0 (fun _ => true) true 52 v d p) :
    ∃ bs u a b c, v = .agg #[u, .int .u8 ((a : Nat) : Int), .int .u8 ((b : Nat) : Int), .int .u8 ((c : Nat) : Int)] ∧ ReadsU W u bs ∧ a < 256 ∧ b < 256 ∧ c < 256 := by
  obtain ⟨cs, rfl, hsz, _⟩ : ∃ cs, v = .agg cs ∧ cs.size = Tryd.prog.cellsOf 52 ∧ Row.okWide Tryd.prog W .any base 52 cs := by
    simpa [Value.okWide, Tryd.underlying52] using hv
  have hs4 : cs.size = 4 := by rw [hsz]; kernel_rfl
  obtain ⟨fuel, hf⟩ := h
  have hf' : DataW.trod enc Tryd.prog W 0 (fun _ => true) true fuel 52 cs.toList = some (d, p) := hf
  obtain ⟨xs, m, rfl, hx, hl, hn, hel⟩ := DataW.trod_struct Tryd.underlying52 hf'
  obtain ⟨v0, v1, v2, v3, hc⟩ : ∃ v0 v1 v2 v3, cs = #[v0, v1, v2, v3] := by
    obtain ⟨l⟩ := cs
    match l, hs4 with
    | [a, b, c, d], _ => exact ⟨a, b, c, d, rfl⟩
  subst hc
  have e0 := hel 0 _ rfl
  have e1 := hel 1 _ rfl
  have e2 := hel 2 _ rfl
  have e3 := hel 3 _ rfl
  have hn4 : xs.length = 4 := hn
  clear hel hn hx
  match xs, hn4 with
  | [y0, y1, y2, y3], _ =>
    have f0 : DataW.trod enc Tryd.prog W 0 (fun _ => true) true m 40 [v0] = some y0 := e0
    have f1 : DataW.trod enc Tryd.prog W 0 (fun _ => true) true m 5 [v1] = some y1 := e1
    have f2 : DataW.trod enc Tryd.prog W 0 (fun _ => true) true m 5 [v2] = some y2 := e2
    have f3 : DataW.trod enc Tryd.prog W 0 (fun _ => true) true m 5 [v3] = some y3 := e3
    obtain ⟨u, bs, h0, hu⟩ := u8_rd Tryd.underlying40 Tryd.underlying5 (by kernel_rfl) f0
    obtain ⟨z1, h1, _, w1⟩ := DataW.trod_int (k := .u8) Tryd.underlying5 f1
    obtain ⟨z2, h2, _, w2⟩ := DataW.trod_int (k := .u8) Tryd.underlying5 f2
    obtain ⟨z3, h3, _, w3⟩ := DataW.trod_int (k := .u8) Tryd.underlying5 f3
    injection h0 with h0
    injection h1 with h1
    injection h2 with h2
    injection h3 with h3
    subst h0 h1 h2 h3
    have b1 := bounds_u8 w1
    have b2 := bounds_u8 w2
    have b3 := bounds_u8 w3
    obtain ⟨n1, rfl⟩ : ∃ n : Nat, z1 = n := ⟨z1.toNat, by omega⟩
    obtain ⟨n2, rfl⟩ : ∃ n : Nat, z2 = n := ⟨z2.toNat, by omega⟩
    obtain ⟨n3, rfl⟩ : ∃ n : Nat, z3 = n := ⟨z3.toNat, by omega⟩
    exact ⟨bs, v0, n1, n2, n3, rfl, hu, by omega, by omega, by omega⟩
end Go.Proofs.YtbcileppebpamaaDoor
