/- The frame of WitnessGuesses: its argument. -/
import Derived.Test.YtbcileppebpamaaGreatDoorFF
import Derived.Test.YtbcileppebpamaaGreatDoorYE
import Derived.SliceStrings
set_option linter.unusedSimpArgs false
set_option linter.unusedVariables false
namespace Go.Proofs.YtbcileppebpamaaGreatDoor
open Go Go.RowKit Go.ChangeShapes Go.WideShapes
set_option maxRecDepth 100000

theorem str_rd {H : Type} {enc : TypeId × Value → H} {P : Program} {W : World} {t e : TypeId} {fuel : Nat} {cs : List Value} {x : DataW H × List MemPlace} (hu : P.underlying t = some (.slice e)) (hue : P.underlying e = some .string) (ce : P.cellsOf e = 1)
    (hf : DataW.trod enc P W 0 (fun _ => true) true fuel t cs = some x) : ∃ v ss, cs = [v] ∧ ReadsT W v ss ∧ (∀ s ∈ ss, s.size ≤ maxLen) ∧ ss.length ≤ maxLen := by
  rcases open_strings hu hue ce hf with ⟨rfl, hx⟩ | ⟨a, len, cap, ss, rfl, _, hl, hm, hss, hx, hcell, hsz⟩
  · exact ⟨_, [], rfl, .inl ⟨rfl, none, 0, rfl⟩, fun s hs => by simp at hs, by simp⟩
  · have hz : ss.length = cap := by simpa using hss
    have hl0 : (ss.take len).length = len := by simp; omega
    refine ⟨_, ss.take len, rfl, ?_, fun s hs => hsz s (List.mem_of_mem_take hs), by rw [hl0]; omega⟩
    rcases Nat.eq_zero_or_pos len with h0 | h0
    · subst h0
      exact .inl ⟨by simp, some a, cap, rfl⟩
    · obtain ⟨g, o, sp⟩ := a
      have hspot : sp = none := by simpa [Addr.add] using World.cell?_spot (hcell 0 (by omega))
      subst hspot
      have hc : ∀ i, i < ss.length → W.cell? ⟨g, o + i, none⟩ = some (.string (ss.getD i ByteArray.empty)) := fun i hi => by
        have := hcell i hi
        rw [show (⟨g, o, none⟩ : Addr).add i = ⟨g, o + i, none⟩ by unfold Addr.add; split <;> simp_all] at this
        exact this
      refine .inr ⟨g, o, cap, by rw [hl0], ?_, fun k x hk => ?_⟩
      · rcases Nat.lt_or_ge g W.heap.size with hg | hg
        · exact hg
        · have := hc 0 (by omega)
          simp [World.cell?, Array.getElem?_eq_none hg] at this
      · have hk2 := (List.getElem?_eq_some_iff.1 hk).1
        rw [hl0] at hk2
        rw [List.getElem?_take, if_pos hk2] at hk
        rw [hc k (by omega), List.getD_eq_getElem?_getD, hk]
        rfl
theorem open_secret {H : Type} {enc : TypeId × Value → H} {W : World} {base : Nat} {v : Value} {d : DataW H} {p : List MemPlace}
    (hv : Value.okWide Tryz.prog W .any base 24 v) (h : DataW.Trod enc Tryz.prog W 0 (fun _ => true) true 24 v d p) :
    ∃ hs ps bl ss u own vl a, v = .agg #[.string hs, .int .i64 ps, .int .i64 bl, u, .bool own, .int .i64 vl, .int .u8 ((a : Nat) : Int)] ∧ ReadsT W u ss ∧ ss.length ≤ maxLen ∧ (∀ s ∈ ss, s.size ≤ maxLen) ∧ hs.size ≤ maxLen ∧ (-9223372036854775808 ≤ ps ∧ ps ≤ 9223372036854775807) ∧ (-9223372036854775808 ≤ bl ∧ bl ≤ 9223372036854775807) ∧ (-9223372036854775808 ≤ vl ∧ vl ≤ 9223372036854775807) ∧ a < 256 := by
  obtain ⟨cs, rfl, hsz, _⟩ : ∃ cs, v = .agg cs ∧ cs.size = Tryz.prog.cellsOf 24 ∧ Row.okWide Tryz.prog W .any base 24 cs := by
    simpa [Value.okWide, Tryz.underlying24] using hv
  have hs7 : cs.size = 7 := by rw [hsz]; kernel_rfl
  obtain ⟨fuel, hf⟩ := h
  have hf' : DataW.trod enc Tryz.prog W 0 (fun _ => true) true fuel 24 cs.toList = some (d, p) := hf
  obtain ⟨xs, m, rfl, hx, hl, hn, hel⟩ := DataW.trod_struct Tryz.underlying24 hf'
  obtain ⟨v0, v1, v2, v3, v4, v5, v6, hc⟩ : ∃ v0 v1 v2 v3 v4 v5 v6, cs = #[v0, v1, v2, v3, v4, v5, v6] := by
    obtain ⟨l⟩ := cs
    match l, hs7 with
    | [a, b, c, d, e, f, g], _ => exact ⟨a, b, c, d, e, f, g, rfl⟩
  subst hc
  have e0 := hel 0 _ rfl
  have e1 := hel 1 _ rfl
  have e2 := hel 2 _ rfl
  have e3 := hel 3 _ rfl
  have e4 := hel 4 _ rfl
  have e5 := hel 5 _ rfl
  have e6 := hel 6 _ rfl
  have hn7 : xs.length = 7 := hn
  clear hel hn hx
  match xs, hn7 with
  | [y0, y1, y2, y3, y4, y5, y6], _ =>
    have f0 : DataW.trod enc Tryz.prog W 0 (fun _ => true) true m 9 [v0] = some y0 := e0
    have f1 : DataW.trod enc Tryz.prog W 0 (fun _ => true) true m 3 [v1] = some y1 := e1
    have f2 : DataW.trod enc Tryz.prog W 0 (fun _ => true) true m 3 [v2] = some y2 := e2
    have f3 : DataW.trod enc Tryz.prog W 0 (fun _ => true) true m 22 [v3] = some y3 := e3
    have f4 : DataW.trod enc Tryz.prog W 0 (fun _ => true) true m 4 [v4] = some y4 := e4
    have f5 : DataW.trod enc Tryz.prog W 0 (fun _ => true) true m 3 [v5] = some y5 := e5
    have f6 : DataW.trod enc Tryz.prog W 0 (fun _ => true) true m 5 [v6] = some y6 := e6
    obtain ⟨z0, h0, _, w0⟩ := DataW.trod_string Tryz.underlying9 f0
    obtain ⟨z1, h1, _, w1⟩ := DataW.trod_int (k := .i64) Tryz.underlying3 f1
    obtain ⟨z2, h2, _, w2⟩ := DataW.trod_int (k := .i64) Tryz.underlying3 f2
    obtain ⟨u, ss, h3, hu, hus, hul⟩ := str_rd Tryz.underlying22 Tryz.underlying9 (by kernel_rfl) f3
    obtain ⟨z4, h4, _⟩ := DataW.trod_bool Tryz.underlying4 f4
    obtain ⟨z5, h5, _, w5⟩ := DataW.trod_int (k := .i64) Tryz.underlying3 f5
    obtain ⟨z6, h6, _, w6⟩ := DataW.trod_int (k := .u8) Tryz.underlying5 f6
    injection h0 with h0
    injection h1 with h1
    injection h2 with h2
    injection h3 with h3
    injection h4 with h4
    injection h5 with h5
    injection h6 with h6
    subst h0 h1 h2 h3 h4 h5 h6
    have b6 := bounds_u8 w6
    obtain ⟨n6, rfl⟩ : ∃ n : Nat, z6 = n := ⟨z6.toNat, by omega⟩
    exact ⟨z0, z1, z2, ss, v3, z4, z5, n6, rfl, hu, hul, hus, w0, of_intx w1, of_intx w2, of_intx w5, by omega⟩
end Go.Proofs.YtbcileppebpamaaGreatDoor
