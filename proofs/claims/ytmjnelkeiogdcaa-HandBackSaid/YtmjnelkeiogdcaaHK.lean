/- Walks of package hand: where courses begin, and how many outcomes there are. -/
import Derived.Test.YtmjnelkeiogdcaaHJ
namespace Go.Proofs.Ytmjnelkeiogdcaa
open Go Go.RowKit Go.Shelf
set_option maxRecDepth 100000

def beginS (H : HV) : St :=
  if H.kind = 1 then .thrown H.count 0 else if H.kind = 2 then .marked 0 else if H.kind = 3 then .divided H.changes H.count else if H.kind = 4 then .drawn H.count 0 0 else .cut (-1)
def outsN (H : HV) : Nat :=
  if H.kind = 1 then H.count * topN H.faces H.faces.length + 1 else if H.kind = 2 then 2 else if H.kind = 3 then H.count / H.group + 1 else if H.kind = 4 then 8 ^ H.count else 8
/-- A valid hand, but for its stalks lasting. -/
def Okh (H : HV) : Prop :=
  (H.kind = 1 ∧ 1 ≤ H.count ∧ H.count ≤ 8 ∧ 1 ≤ H.faces.length ∧ H.faces.length ≤ 20 ∧ (∀ f ∈ H.faces, f.1 ≤ 40 ∧ 1 ≤ f.2 ∧ f.2 ≤ 1000)) ∨
  (H.kind = 2 ∧ 1 ≤ H.low ∧ H.low ≤ H.high ∧ H.high ≤ 1000) ∨
  (H.kind = 3 ∧ 2 ≤ H.group ∧ H.group ≤ 8 ∧ 2 * H.group + 1 ≤ H.count ∧ H.count ≤ 64 ∧ 1 ≤ H.changes ∧ H.changes ≤ 5) ∨
  (H.kind = 4 ∧ 1 ≤ H.count ∧ H.count ≤ 4 ∧ H.count ≤ H.cards.length ∧ H.cards.length ≤ 20 ∧ ∀ c ∈ H.cards, c < 8) ∨
  (H.kind = 5 ∧ 1 ≤ H.cards.length ∧ H.cards.length ≤ 20 ∧ ∀ c ∈ H.cards, c < 8)
theorem begin_fit (H : HV) (h : Okh H) : Fit H (beginS H) := by
  rcases h with ⟨hk, h1, h2, h3, h4, h5⟩ | ⟨hk, h1, h2, h3⟩ | ⟨hk, h1, h2, h3, h4, h5, h6⟩ | ⟨hk, h1, h2, h3, h4, h5⟩ | ⟨hk, h1, h2, h3⟩
  · simp only [beginS, hk]; exact ⟨⟨h2, by omega, h4, fun f hf => ⟨(h5 f hf).1, (h5 f hf).2.2⟩⟩, hk⟩
  · simp only [beginS, hk]; exact ⟨⟨by omega, h1, h3⟩, by unfold HV.low at *; omega, by unfold HV.high HV.low at *; omega⟩
  · simp only [beginS, hk]; exact ⟨⟨h6, h4, h1, h2⟩, trivial⟩
  · simp only [beginS, hk]; exact ⟨⟨h2, by decide, Nat.pow_pos (by omega), h4, h5⟩, hk⟩
  · simp only [beginS, hk]; exact ⟨⟨by decide, by decide, h2, h3⟩, hk⟩
set_option maxHeartbeats 1000000 in
theorem begin_c (N : Nat) (H : HV) (fv cv : Value) (h : Okh H) (w : World) (hH : HandAt w N H fv cv) :
    Calls Try.prog 41 #[.agg (handA H fv cv)] w fun e w' => e = .returned (.tuple #[encS (beginS H), .int .i64 ((outsN H : Nat) : Int)]) ∧ Below w.heap.size w w' := by
  have hb : Below w.heap.size w (w.alloc (.cells (handA H fv cv) 26)) := (Below.refl _ _).alloc (Nat.le_refl _) _
  have HB := hid hb
  rcases h with ⟨hk, h1, h2, h3, h4, h5⟩ | ⟨hk, h1, h2, h3⟩ | ⟨hk, h1, h2, h3, h4, h5, h6⟩ | ⟨hk, h1, h2, h3, h4, h5⟩ | ⟨hk, h1, h2, h3⟩
  · have hH1 : HandAt (w.alloc (.cells (handA H fv cv) 26)) N H fv cv := hH.below (hb.mono hH.le)
    have HMF := hid (maxFunc_c N H fv cv hk (by omega) h4 (fun f hf => ⟨(h5 f hf).1, (h5 f hf).2.2⟩) _ hH1)
    have htop := topN_le H.faces 40 (fun f hf => (h5 f hf).1) H.faces.length
    simp only [beginS, outsN, hk, handA] at HB HMF ⊢
    obtain ⟨tp, htp⟩ : ∃ tp, topN H.faces H.faces.length = tp := ⟨_, rfl⟩
    rw [htp] at HMF htop ⊢
    obtain ⟨ct, hct⟩ : ∃ ct, H.count = ct := ⟨_, rfl⟩
    rw [hct] at HMF HB h1 h2 ⊢
    obtain ⟨z, hz⟩ : ∃ z, ct * tp = z := ⟨_, rfl⟩
    have hm : ((ct : Nat) : Int) * ((tp : Nat) : Int) = ((z : Nat) : Int) := by rw [← hz]; push_cast; rfl
    have hzl : z ≤ 320 := by rw [← hz]; exact Nat.mul_le_mul h2 htop
    rw [hz]
    have hp : ((z : Nat) : Int) + 1 = ((z + 1 : Nat) : Int) := by omega
    have w1 := wrap_nat z (by omega)
    have w2 := wrap_nat (z + 1) (by omega)
    generalize z + 1 = z1 at *
    have C1 := hid (show (w.alloc (.cells #[.int .i64 1, .int .i64 ((ct : Nat) : Int), fv, .int .i64 H.lowI, .int .i64 H.highI, .int .i64 ((H.group : Nat) : Int), .int .i64 ((H.changes : Nat) : Int), cv] 26)).cell? ⟨w.heap.size, 1, none⟩ = some (.int .i64 ((ct : Nat) : Int)) by rw [cell_of_row _ _ 1 _ _ (0, 0) (heap_alloc_new w _)]; rfl)
    clear hb hH hH1 h4 h5 htp hct hz hk
    go_enter Try.func41, Try.ntmps41
    go_wp2_with (go_at_call 65; refine HMF.out.mono ?_; rintro e w3 ⟨⟨u, rfl⟩, hb3⟩; have c1 : w3.cell? ⟨w.heap.size, 1, none⟩ = some (.int .i64 ((ct : Nat) : Int)) := (cell_same (hb3.block w.heap.size (by simp))).trans C1.out; have hlt3 : w.heap.size < w3.heap.size := by (have := hb3.size; simp at this; omega))
    go_quiet (fail)
    have HBA := hid (below_drewN ((HB.out.trans (hb3.mono (by simp))).alloc (by omega) (.cells #[.int .i64 ((tp : Nat) : Int), .int .i64 ((u : Nat) : Int)] 50)) nq)
    clear hb3 c1
    go_wp2_with fail
    go_ret2
    exact ⟨rfl, HBA.out⟩
  · simp only [beginS, outsN, hk, handA] at HB ⊢
    clear hb hH
    go_enter Try.func41, Try.ntmps41
    go_wp2_with fail
    go_ret2
    exact ⟨rfl, HB.out⟩
  · have hq := tdivN H.count H.group
    have hql : H.count / H.group ≤ H.count := Nat.div_le_self _ _
    simp only [beginS, outsN, hk, handA] at HB ⊢
    generalize H.count / H.group = q at *
    generalize H.count = ct at *
    generalize H.group = gr at *
    generalize H.changes = ch at *
    have hne : (((gr : Nat) : Int) == 0) = false := by simp; omega
    have hne' : ((gr : Nat) : Int) ≠ 0 := by omega
    have hp : ((q : Nat) : Int) + 1 = ((q + 1 : Nat) : Int) := by omega
    have w1 := wrap_nat q (by omega)
    have w2 := wrap_nat (q + 1) (by omega)
    generalize q + 1 = q1 at *
    clear hb hH
    go_enter Try.func41, Try.ntmps41
    go_wp2_with fail
    go_quiet (fail)
    go_wp2_with fail
    go_ret2
    exact ⟨rfl, below_drewN HB.out _⟩
  · simp only [beginS, outsN, hk, handA] at HB ⊢
    generalize H.count = ct at *
    obtain ⟨tot, htot⟩ : ∃ tot, 8 ^ ct = tot := ⟨_, rfl⟩
    rw [htot]
    have HTOT := hid htot
    clear hb hH htot
    go_enter Try.func41, Try.ntmps41
    go_wp2_with fail
    go_loop [5, 45] (fun n i => ∃ k : Nat, k ≤ ct ∧ i = .int .i64 k ∧ n = .int .i64 ((8 ^ k : Nat) : Int)) (fun _ i => ct - (intOf i).toNat)
    case atStart => exact ⟨0, by omega, rfl, rfl⟩
    case round =>
      obtain ⟨k, hk', rfl, rfl⟩ := hrel
      have h8 : 8 ^ k ≤ 8 ^ 4 := Nat.pow_le_pow_right (by omega) (by omega)
      have h9 : 8 ^ (k + 1) = 8 ^ k * 8 := Nat.pow_succ 8 k
      by_cases hlt : k < ct
      · have hlt' : ((k : Nat) : Int) < ct := by omega
        have H9 := hid h9
        have hp : 8 ^ k * 8 ≤ 32768 := by omega
        clear h9
        generalize 8 ^ k = p at *
        have w1 := wrap_nat (p * 8) (by omega)
        have hm : ((p : Nat) : Int) * 8 = ((p * 8 : Nat) : Int) := by omega
        generalize p * 8 = p8 at *
        go_wp2_with fail
        go_round
        case rel => exact ⟨k + 1, by omega, by go_num, by rw [H9.out]⟩
        case measure => simp [intOf]; omega
      · have hge : ¬ ((k : Nat) : Int) < ct := by omega
        obtain rfl : k = ct := by omega
        clear h9
        have hpt := HTOT.out
        clear HTOT
        generalize 8 ^ k = p at *
        subst hpt
        go_wp2_with fail
        go_ret2
        exact ⟨rfl, HB.out⟩
  · simp only [beginS, outsN, hk, handA] at HB ⊢
    clear hb hH
    go_enter Try.func41, Try.ntmps41
    go_wp2_with fail
    go_ret2
    exact ⟨rfl, HB.out⟩
end Go.Proofs.Ytmjnelkeiogdcaa
