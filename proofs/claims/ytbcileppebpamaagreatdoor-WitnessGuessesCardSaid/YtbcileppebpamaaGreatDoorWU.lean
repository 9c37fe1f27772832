/- Walk of law 11: WitnessShares. -/
import Derived.Test.YtbcileppebpamaaGreatDoorWS
import Derived.Test.YtbcileppebpamaaGreatDoorWT
set_option linter.unusedSimpArgs false
set_option linter.unusedVariables false
namespace Go.Proofs.YtbcileppebpamaaGreatDoor
open Go Go.RowKit Go.Shelf
set_option maxRecDepth 100000

theorem Ints.readsA {w : World} {B : Nat} {v : Value} {xs : List Int} (h : Ints w B v xs) : ReadsA w v xs := by
  rcases h.2 with ⟨h2, h3⟩ | ⟨g, cap, cur, h3, h4, h5, h6⟩
  · exact .inl ⟨List.eq_nil_of_length_eq_zero h3, h2⟩
  · rcases h.reads with ⟨rfl, _⟩ | ⟨g', o', c', e1, e2, e3⟩
    · exact .inr ⟨⟨g, 0, none⟩, cap, h3, fun h => by simp at h, fun k hk => by simp at hk⟩
    · exact .inr ⟨⟨g', o', none⟩, c', e1, fun _ => e2, fun k hk => by rw [show (⟨g', o', none⟩ : Addr).add k = ⟨g', o' + k, none⟩ by unfold Addr.add; split <;> simp_all]; exact e3 k hk⟩
theorem ReadsA.toReads {w : World} {v : Value} {xs : List Int} (h : ReadsA w v xs) : Reads w v xs := by
  rcases h with ⟨e, rfl⟩ | ⟨a, c, rfl, ha, hc⟩
  · exact .inl ⟨e, none, 0, rfl⟩
  · by_cases h0 : xs.length = 0
    · have e := List.eq_nil_of_length_eq_zero h0
      subst e
      exact .inl ⟨rfl, some a, c, rfl⟩
    · obtain ⟨g, o, rfl, h4⟩ := ReadsA.plain (n := xs.length) (by omega) hc rfl
      exact .inr ⟨g, o, c, rfl, ha (by omega), h4⟩
end Go.Proofs.YtbcileppebpamaaGreatDoor
