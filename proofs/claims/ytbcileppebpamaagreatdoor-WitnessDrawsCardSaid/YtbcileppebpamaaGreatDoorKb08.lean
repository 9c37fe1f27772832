/- Lemmas for WitnessDraws: part 8. -/
import Derived.Test.YtbcileppebpamaaGreatDoorKb02
import Derived.Test.YtbcileppebpamaaGreatDoorKb03
import Derived.Test.YtbcileppebpamaaGreatDoorKb04
import Derived.Test.YtbcileppebpamaaGreatDoorKb07
set_option linter.unusedSimpArgs false
set_option linter.unusedVariables false
namespace Go.Proofs.YtbcileppebpamaaGreatDoor
open Go Go.RowKit Go.Shelf
set_option maxRecDepth 100000
theorem Ints.at4 {w : World} {B : Nat} {v : Value} {xs : List Int} (h : Ints w B v xs) (hne : xs ≠ []) : ∃ g c, v = .slice (some ⟨g, 0, none⟩) xs.length c ∧ ∀ k (hk : k < xs.length), w.cell? ⟨g, k, none⟩ = some (.int .i64 xs[k]) := by
  rcases h.2 with ⟨h2, h3⟩ | ⟨g, cap, cur, h3, h4, h5, _, _, _, h7⟩
  · exact absurd (List.eq_nil_of_length_eq_zero h3) hne
  · refine ⟨g, cap, h3, fun k hk => ?_⟩
    rw [cell_of_row _ _ k _ _ (0, 0) h5]
    have : (cur.toList.take (xs.length * 1))[k]? = (xs.map (Value.int .i64))[k]? := by rw [h7]
    rw [List.getElem?_take, if_pos (by omega)] at this
    rw [← Array.getElem?_toList, this]
    simp [hk]
def sOak : ByteArray := ⟨#[111, 97, 107]⟩
def sElm : ByteArray := ⟨#[101, 108, 109]⟩
theorem foobar_c (w : World) (L : LaidW w) : Calls Tryz.prog 29 #[.string ⟨#[102, 111, 111, 98, 97, 114]⟩] w fun e w' => e = .returned (.tuple #[.string ⟨#[56, 53, 57, 52, 52, 49, 55, 49, 102, 55, 51, 57, 54, 55, 101, 56]⟩, .int .i64 0]) ∧ Below w.heap.size w w' := by
  refine (Hash_c ⟨#[102, 111, 111, 98, 97, 114]⟩ (by decide) w L).mono ?_
  rintro e w' ⟨he, hb⟩
  rw [if_pos (by decide), show (⟨(hashL ((⟨#[102, 111, 111, 98, 97, 114]⟩ : ByteArray).data.toList)).toArray⟩ : ByteArray) = ⟨#[56, 53, 57, 52, 52, 49, 55, 49, 102, 55, 51, 57, 54, 55, 101, 56]⟩ by kernel_rfl] at he
  exact ⟨he, hb⟩
theorem split_c3 (W : World) (g : Nat) (hg : W.heap[g]? = some (.cells #[.int .i64 4, .int .i64 8] 3 (0, 0))) :
    Calls Tryz.prog 30 #[.int .i64 3, .int .i64 10, .slice (some ⟨g, 0, none⟩) 2 2] W fun e W' => ∃ k c, e = .returned (.tuple #[.slice (some ⟨k, 0, none⟩) 3 c, .int .i64 0]) ∧ W'.cell? ⟨k, 2, none⟩ = some (.int .i64 1) ∧ k < W'.heap.size ∧ Below W.heap.size W W' := by
  refine (Split_c 3 10 [4, 8] (.slice (some ⟨g, 0, none⟩) 2 2) W (.inr ⟨⟨g, 0, none⟩, 2, rfl, fun _ => heap_lt hg, fun k hk => by
    rcases k with _ | _ | k
    · exact cell_of_row W g 0 _ _ _ hg
    · exact cell_of_row W g 1 _ _ _ hg
    · exact absurd hk (by simp)⟩) (by simp) (by omega)).mono ?_
  rintro e W' ⟨l, he, hi, hb⟩
  rw [show splitR 3 10 [4, 8] = ([4, 8, 1], 0) by decide] at he hi
  obtain ⟨k, c, rfl, hc⟩ := hi.at4 (by simp)
  have h2 := hc 2 (by simp)
  refine ⟨k, c, he, h2, ?_, hb⟩
  rcases Nat.lt_or_ge k W'.heap.size with h | h
  · exact h
  · rw [World.cell?, Array.getElem?_eq_none h] at h2
    simp at h2
def bxV (j : Nat) : Nat := if j = 0 then 7 else 9
def bxT (j : Nat) : ByteArray := if j = 0 then sOak else sElm
/-- The two boxes. -/
structure Kx (V : World) (g : Nat) : Prop where
  x1 : V.heap[g]? = some (.cells #[.int .i64 1, .int .i64 7, .string ⟨#[111, 97, 107]⟩] 27 (0, 0))
  x2 : V.heap[g + 1]? = some (.cells #[.int .i64 2, .int .i64 9, .string ⟨#[101, 108, 109]⟩] 27 (0, 0))
theorem Kx.below {V V' : World} {g : Nat} (h : Kx V g) (hb : Below V.heap.size V V') : Kx V' g := ⟨heap_below hb h.x1 (heap_lt h.x1), heap_below hb h.x2 (heap_lt h.x2)⟩
theorem Kx.only {V V' : World} {g B b q : Nat} (h : Kx V g) (ho : OnlyD B b q V V') (h1 : b < g) (h2 : q < g) : Kx V' g := ⟨ho.heap h.x1 (by omega) (by omega) rfl, ho.heap h.x2 (by omega) (by omega) rfl⟩
theorem Kx.c0 {V : World} {g : Nat} (h : Kx V g) : V.cell? ⟨g, 0, none⟩ = some (.int .i64 1) := cell_of_row _ _ 0 _ _ _ h.x1
theorem Kx.c1 {V : World} {g : Nat} (h : Kx V g) : V.cell? ⟨g, 1, none⟩ = some (.int .i64 7) := cell_of_row _ _ 1 _ _ _ h.x1
theorem Kx.c2 {V : World} {g : Nat} (h : Kx V g) : V.cell? ⟨g, 2, none⟩ = some (.string ⟨#[111, 97, 107]⟩) := cell_of_row _ _ 2 _ _ _ h.x1
theorem Kx.d0 {V : World} {g : Nat} (h : Kx V g) : V.cell? ⟨g + 1, 0, none⟩ = some (.int .i64 2) := cell_of_row _ _ 0 _ _ _ h.x2
theorem Kx.d1 {V : World} {g : Nat} (h : Kx V g) : V.cell? ⟨g + 1, 1, none⟩ = some (.int .i64 9) := cell_of_row _ _ 1 _ _ _ h.x2
theorem Kx.d2 {V : World} {g : Nat} (h : Kx V g) : V.cell? ⟨g + 1, 2, none⟩ = some (.string ⟨#[101, 108, 109]⟩) := cell_of_row _ _ 2 _ _ _ h.x2
set_option maxHeartbeats 4000000 in
theorem known_c (w : World) (L : LaidW w) : Calls Tryz.prog 7 #[] w fun e w' => e = .returned (.bool true) ∧ Below w.heap.size w w' := by
  have HF := hid (foobar_c w L)
  have HSP := hid split_c3
  have HL := hid L
  have HN := hid (fun V (hV : LaidW V) => New_c 12 2 (by omega) (by omega) V hV)
  obtain ⟨h1, hh1⟩ : ∃ h, openH ((1 : Nat) : Int) ((7 : Nat) : Int) sOak = h := ⟨_, rfl⟩
  obtain ⟨h2, hh2⟩ : ∃ h, openH ((2 : Nat) : Int) ((9 : Nat) : Int) sElm = h := ⟨_, rfl⟩
  have HB1 := hid (fun V (hV : LaidW V) => hh1 ▸ box_hash 1 7 (by omega) (by omega) sOak (by decide) V hV)
  have HB2 := hid (fun V (hV : LaidW V) => hh2 ▸ box_hash 2 9 (by omega) (by omega) sElm (by decide) V hV)
  have HH := hid (And.intro hh1 hh2)
  clear hh1 hh2 L
  go_enter Tryz.func7, Tryz.ntmps7
  go_upto_region 7 with (first
    | (go_at_call 29; refine HF.out.mono ?_; rintro e w1 ⟨rfl, hb1⟩; have HB3 := hid hb1)
    | (go_at_call 30; refine (HSP.out _ _ (heap_alloc_new w1 _)).mono ?_; rintro e w2 ⟨k, c, rfl, hk, hklt, hb2⟩; have hb22 := HB3.out.trans ((((Below.refl _ w1).alloc (Nat.le_refl _) (.cells #[.int .i64 4, .int .i64 8] 3)).trans (hb2.mono (by simp))).mono HB3.out.size); have HB4 := hid hb22; have HK := hid (And.intro hk hklt); clear hb2 hb22 hk hklt)
    | (go_at_call 16; refine (HN.out w2 (HL.out.below HB4.out)).mono ?_; rintro e w3 ⟨rfl, hd3, hb3⟩; have hcell := (hb3.cell (p := ⟨k, 2, none⟩) HK.out.2).trans HK.out.1; have HD3 := hid (And.intro hd3 hb3); clear hd3 hb3))
  have hx1 : ((w3.alloc (.cells #[.int .i64 1, .int .i64 7, .string ⟨#[111, 97, 107]⟩] 27)).alloc (.cells #[.int .i64 2, .int .i64 9, .string ⟨#[101, 108, 109]⟩] 27)).heap[w3.heap.size]? = _ := alloc2_first w3 _ _
  have hx2 := alloc2_second w3 (.cells #[.int .i64 1, .int .i64 7, .string ⟨#[111, 97, 107]⟩] 27) (.cells #[.int .i64 2, .int .i64 9, .string ⟨#[101, 108, 109]⟩] 27)
  have hb4 := below2 w3 (.cells #[.int .i64 1, .int .i64 7, .string ⟨#[111, 97, 107]⟩] 27) (.cells #[.int .i64 2, .int .i64 9, .string ⟨#[101, 108, 109]⟩] 27)
  have hkx : Kx ((w3.alloc (.cells #[.int .i64 1, .int .i64 7, .string ⟨#[111, 97, 107]⟩] 27)).alloc (.cells #[.int .i64 2, .int .i64 9, .string ⟨#[101, 108, 109]⟩] 27)) w3.heap.size := ⟨hx1, hx2⟩
  have hda : DA w ((w3.alloc (.cells #[.int .i64 1, .int .i64 7, .string ⟨#[111, 97, 107]⟩] 27)).alloc (.cells #[.int .i64 2, .int .i64 9, .string ⟨#[101, 108, 109]⟩] 27)) w2.heap.size (w2.heap.size + 1) w2.heap.size (DS.start 12 2) :=
    DA.below ⟨HD3.out.1, HB4.out.trans (HD3.out.2.mono HB4.out.size), HB4.out.size, HD3.out.2.size, by omega, by omega⟩ hb4
  generalize (w3.alloc (.cells #[.int .i64 1, .int .i64 7, .string ⟨#[111, 97, 107]⟩] 27)).alloc (.cells #[.int .i64 2, .int .i64 9, .string ⟨#[101, 108, 109]⟩] 27) = w4 at hkx hda ⊢
  have hbg : w2.heap.size + 1 < w3.heap.size := by
    obtain ⟨vl, h, _⟩ := HD3.out.1.box
    exact heap_lt h
  clear hx1 hx2 hb4 hcell HF HSP HN HB3 HB4 HK HD3
  obtain ⟨g, hg⟩ : ∃ g, w3.heap.size = g := ⟨_, rfl⟩
  obtain ⟨B, hB⟩ : ∃ B, w2.heap.size = B := ⟨_, rfl⟩
  obtain ⟨b, hb⟩ : ∃ b, B + 1 = b := ⟨_, rfl⟩
  rw [hB, hb] at hda hbg
  rw [hg] at hkx hbg
  rw [hg, hB, hb]
  have hBg : B < g := by omega
  have HG := hid (And.intro hbg hBg)
  clear hg hB hb
  obtain ⟨D0, hD0⟩ : ∃ D, DS.start 12 2 = D := ⟨_, rfl⟩
  rw [hD0] at hda
  obtain ⟨H, hH⟩ : ∃ H : Nat → ByteArray, H = fun j => if j = 0 then h1 else h2 := ⟨_, rfl⟩
  have hH0 : H 0 = h1 := by rw [hH]; rfl
  have hH1 : H 1 = h2 := by rw [hH]; rfl
  have HS0 := hid (show Stt D0 12 2 H bxV bxT 0 (fun _ => False) 0 from hD0 ▸ Stt.start 12 2 H bxV bxT)
  have KXw4 := hid hkx
  have DAw4 := hid hda
  have w4c0 := hkx.c0
  have w4c1 := hkx.c1
  have w4c2 := hkx.c2
  have w4d0 := hkx.d0
  have w4d1 := hkx.d1
  have w4d2 := hkx.d2
  have hI1 : isHashL (H 0).data.toList = true := by rw [hH0, ← HH.out.1]; exact isHash_openH _ _ _
  have hI2 : isHashL (H 1).data.toList = true := by rw [hH1, ← HH.out.2]; exact isHash_openH _ _ _
  have HQ1 := hid (fun V D (k : DA w V B b B D) (s : Stt D 12 2 H bxV bxT 0 (fun _ => False) 0) => by
    have h := da_seal (i := 0) HL.out k s (by omega) (by omega) (by omega) hI1
    rw [hH0, show ((0 + 1 : Nat) : Int) = 1 from rfl] at h
    exact h)
  have HQ2 := hid (fun V D (k : DA w V B b B D) (s : Stt D 12 2 H bxV bxT 1 (fun _ => False) 0) => by
    have h := da_seal (i := 1) HL.out k s (by omega) (by omega) (by omega) hI2
    rw [hH1, show ((1 + 1 : Nat) : Int) = 2 from rfl] at h
    exact h)
  have HQ3 := hid (fun V D (k : DA w V B b B D) (s : Stt D 12 2 H bxV bxT 2 (fun _ => False) 0) => by
    have h := da_open HL.out k s (by omega) (by omega) (by omega) 0 (by omega) (fun h => h) (by decide) (by decide)
    rw [hH0, show bxV 0 = 7 from rfl, show ((0 + 1 : Nat) : Int) = ((1 : Nat) : Int) from rfl, show bxT 0 = sOak from rfl, HH.out.1, sameB_self, show ((1 : Nat) : Int) = 1 from rfl, show ((7 : Nat) : Int) = 7 from rfl, show sOak = ⟨#[111, 97, 107]⟩ from rfl] at h
    exact h)
  have HQ4 := hid (fun V D (k : DA w V B b B D) (s : Stt D 12 2 H bxV bxT 2 (fun k => False ∨ k = 0) (0 + 1)) => by
    have h := da_open HL.out k s (by omega) (by omega) (by omega) 1 (by omega) (fun h => h.elim id (fun e => by cases e)) (by decide) (by decide)
    rw [hH1, show bxV 1 = 9 from rfl, show ((1 + 1 : Nat) : Int) = ((2 : Nat) : Int) from rfl, show bxT 1 = sElm from rfl, HH.out.2, sameB_self, show ((2 : Nat) : Int) = 2 from rfl, show ((9 : Nat) : Int) = 9 from rfl, show sElm = ⟨#[101, 108, 109]⟩ from rfl] at h
    exact h)
  have HQ5 := hid (fun V D (k : DA w V B b B D) (s : Stt D 12 2 H bxV bxT 2 (fun k => (False ∨ k = 0) ∨ k = 1) 2) => by
    have h := da_value k s (by omega) (by omega) (fun j hj => by omega) (fun j hj => by unfold bxV; split <;> omega) (fun j hj => by
      rcases (show j = 0 ∨ j = 1 by omega) with rfl | rfl
      · rw [hH0]; exact HH.out.1.symm
      · rw [hH1]; exact HH.out.2.symm)
    rw [show ((sumV bxV 2 % 12 : Nat) : Int) = 4 from rfl] at h
    exact h)
  have FL1 := hid trivial
  have FL2 := hid trivial
  have FL3 := hid trivial
  have FL4 := hid trivial
  clear hkx hda hD0 hH hH0 hH1 hI1 hI2 hbg hBg HH
  go_wp2_with (first
    | (go_at_call 31; have hq := FL1; clear hq FL1; refine (HB1.out _ (HL.out.below DAw4.out.bw)).mono ?_; rintro e w5 ⟨rfl, hbw5⟩; have kw5 := KXw4.out.below hbw5; have KXw5 := hid kw5; have DAw5 := hid (DAw4.out.below hbw5); have w5c0 := kw5.c0; have w5c1 := kw5.c1; have w5c2 := kw5.c2; have w5d0 := kw5.d0; have w5d1 := kw5.d1; have w5d2 := kw5.d2; clear kw5 hbw5)
    | (go_at_call 31; have hq := FL2; clear hq FL2; refine (HB2.out _ (HL.out.below DAw5.out.bw)).mono ?_; rintro e w6 ⟨rfl, hbw6⟩; have kw6 := KXw5.out.below hbw6; have KXw6 := hid kw6; have DAw6 := hid (DAw5.out.below hbw6); have w6c0 := kw6.c0; have w6c1 := kw6.c1; have w6c2 := kw6.c2; have w6d0 := kw6.d0; have w6d1 := kw6.d1; have w6d2 := kw6.d2; clear kw6 hbw6)
    | (go_at_call 18; have hq := FL3; clear hq FL3; refine (HQ1.out _ _ DAw6.out HS0.out).mono ?_; rintro e w7 ⟨rfl, D1, hs1, hda1, ho1⟩; have KXw7 := hid (KXw6.out.only ho1 HG.out.1 HG.out.2); have DAw7 := hid hda1; have HS1 := hid hs1; clear hs1 hda1 ho1)
    | (go_at_call 18; refine (HQ2.out _ _ DAw7.out HS1.out).mono ?_; rintro e w8 ⟨rfl, D2, hs1, hda1, ho1⟩; have kw8 := KXw7.out.only ho1 HG.out.1 HG.out.2; have KXw8 := hid kw8; have DAw8 := hid hda1; have HS2 := hid hs1; have w8c0 := kw8.c0; have w8c1 := kw8.c1; have w8c2 := kw8.c2; have w8d0 := kw8.d0; have w8d1 := kw8.d1; have w8d2 := kw8.d2; clear hs1 hda1 ho1 kw8)
    | (go_at_call 20; have hq := FL4; clear hq FL4; refine (HQ3.out _ _ DAw8.out HS2.out).mono ?_; rintro e w9 ⟨rfl, D3, hs1, hda1, ho1⟩; have kw9 := KXw8.out.only ho1 HG.out.1 HG.out.2; have KXw9 := hid kw9; have DAw9 := hid hda1; have HS3 := hid hs1; have w9c0 := kw9.c0; have w9c1 := kw9.c1; have w9c2 := kw9.c2; have w9d0 := kw9.d0; have w9d1 := kw9.d1; have w9d2 := kw9.d2; clear hs1 hda1 ho1 kw9)
    | (go_at_call 20; refine (HQ4.out _ _ DAw9.out HS3.out).mono ?_; rintro e w10 ⟨rfl, D4, hs1, hda1, ho1⟩; have DAw10 := hid hda1; have HS4 := hid hs1; clear hs1 hda1 ho1)
    | (go_at_call 23; refine (HQ5.out _ _ DAw10.out HS4.out).mono ?_; rintro e w11 ⟨rfl, hb11⟩; have HB11 := hid (DAw10.out.bw.trans (hb11.mono DAw10.out.bw.size)); clear hb11))
  go_ret
  exact ⟨rfl, HB11.out⟩
end Go.Proofs.YtbcileppebpamaaGreatDoor
set_option linter.unusedSimpArgs false
set_option linter.unusedVariables false
namespace Go.Proofs.YtbcileppebpamaaGreatDoor
open Go Go.RowKit Go.Shelf
set_option maxRecDepth 100000
theorem Ints.own {W : World} {B : Nat} {v : Value} {xs : List Int} (h : Ints W B v xs) : ∀ k, v.ownBlock = some k → B ≤ k := fun k hk => by
  rcases h.2 with ⟨h3, _⟩ | ⟨g, cap, cur, h3, h4, h5, _⟩
  · rw [h3] at hk; cases hk
  · rw [h3] at hk
    have : g = k := by simpa [Value.ownBlock] using hk
    subst this
    exact h4
theorem exec_rem {ev : Operand → Value} {o : Oper} {x y : Operand} {a b z : Int} {W : World} (ho : o.op = .binOp .rem 3 x y 3) (hx : ev x = .int .i64 a) (hy : ev y = .int .i64 b) (hb : b ≠ 0) (hz : Int.tmod a b = z) (hc : IntKind.i64.wrap z = z) : (execOp ev o).run Tryz.prog W = .ok (.value (.int .i64 z)) W := by
  simp [execOp, ho, hx, hy]
  go_simp
end Go.Proofs.YtbcileppebpamaaGreatDoor
set_option linter.unusedSimpArgs false
set_option linter.unusedVariables false
namespace Go.Proofs.YtbcileppebpamaaGreatDoor
open Go Go.RowKit Go.Shelf
set_option maxRecDepth 100000
theorem Ints.setOther {w : World} {B : Nat} {v : Value} {xs : List Int} (h : Ints w B v xs) {g i : Nat} (hg : g < B) (u : Value) : Ints (w.setCell ⟨g, i, none⟩ u) B v xs := by
  refine ⟨h.1, ?_⟩
  rcases h.2 with h2 | ⟨g', cap, cur, h3, h4, h5, h6⟩
  · exact .inl h2
  · exact .inr ⟨g', cap, cur, h3, h4, (heap_setCell_other w ⟨g, i, none⟩ g' u (by show g' ≠ g; omega)).trans h5, h6⟩
end Go.Proofs.YtbcileppebpamaaGreatDoor
set_option linter.unusedSimpArgs false
set_option linter.unusedVariables false
namespace Go.Proofs.YtbcileppebpamaaGreatDoor
open Go Go.RowKit
/-- The number that is kept in eight bytes. -/
def valF (f : Nat → Nat) : Nat := f 0 + 256 * (f 1 + 256 * (f 2 + 256 * (f 3 + 256 * (f 4 + 256 * (f 5 + 256 * (f 6 + 256 * f 7))))))
def P8 (i : Nat) : Nat := if i = 0 then 179 else if i = 1 then 1 else if i = 5 then 1 else 0
/-- The product: a bytes whole, of the next one b places. -/
def mulI (f : Nat → Nat) (a : Nat) (N : Nat → Nat) : Nat → (Nat → Nat)
  | 0 => N
  | b + 1 => upN (mulI f a N b) (a + b) (mulI f a N b (a + b) + f a * P8 b)
def mulO (f : Nat → Nat) : Nat → (Nat → Nat)
  | 0 => fun _ => 0
  | a + 1 => mulI f a (mulO f a) (8 - a)
theorem P8_le (i : Nat) : P8 i ≤ 179 := by unfold P8; split <;> (try split) <;> (try split) <;> omega
theorem mulI_le (f : Nat → Nat) (a : Nat) (N : Nat → Nat) (M : Nat) (hf : f a < 256) (hN : ∀ k, N k ≤ M) : ∀ b k, mulI f a N b k ≤ M + b * 45645
  | 0, k => by have := hN k; simp [mulI]; omega
  | b + 1, k => by
    have h1 := mulI_le f a N M hf hN b k
    have h2 := mulI_le f a N M hf hN b (a + b)
    have h3 : f a * P8 b ≤ 255 * 179 := Nat.mul_le_mul (by omega) (P8_le b)
    rw [mulI, upN]
    rw [Nat.add_mul, Nat.one_mul]
    generalize mulI f a N b k = x at h1 ⊢
    generalize mulI f a N b (a + b) = y at h2 ⊢
    generalize f a * P8 b = z at h3 ⊢
    generalize b * 45645 = u at h1 h2 ⊢
    split
    · omega
    · omega
theorem mulI_eq (f : Nat → Nat) (a : Nat) (N : Nat → Nat) : ∀ b k, mulI f a N b k = N k + if a ≤ k ∧ k < a + b then f a * P8 (k - a) else 0
  | 0, k => by rw [mulI, if_neg (by omega), Nat.add_zero]
  | b + 1, k => by
    rw [mulI, upN]
    split
    · rename_i h
      subst h
      rw [mulI_eq f a N b, if_neg (by omega), if_pos (by omega), Nat.add_sub_cancel_left, Nat.add_zero]
    · rename_i h
      rw [mulI_eq f a N b]
      by_cases hk : a ≤ k ∧ k < a + b
      · rw [if_pos hk, if_pos (by omega)]
      · rw [if_neg hk, if_neg (by omega)]
theorem mulO_le (f : Nat → Nat) (hf : ∀ i, i < 8 → f i < 256) : ∀ a, a ≤ 8 → ∀ k, mulO f a k ≤ a * 365160
  | 0, _, k => Nat.zero_le _
  | a + 1, h, k => by
    have h1 := mulI_le f a (mulO f a) (a * 365160) (hf a (by omega)) (mulO_le f hf a (by omega)) (8 - a) k
    have h2 : (8 - a) * 45645 ≤ 8 * 45645 := Nat.mul_le_mul_right _ (by omega)
    simp only [mulO]
    omega
/-- The bytes behind the carrying. -/
def carN (N : Nat → Nat) : Nat → Nat
  | 0 => 0
  | a + 1 => (carN N a + N a) / 256
def nxtN (N : Nat → Nat) (a : Nat) : Nat → Nat := fun k => if k < a then (carN N k + N k) % 256 else N k
theorem nxtN_zero (N : Nat → Nat) : nxtN N 0 = N := by funext k; simp [nxtN]
theorem nxtN_succ (N : Nat → Nat) (a : Nat) : upN (nxtN N a) a ((carN N a + N a) % 256) = nxtN N (a + 1) := by
  funext k
  simp only [upN, nxtN]
  by_cases h : k = a
  · subst h; simp
  · by_cases h2 : k < a
    · simp [h, h2, show k < a + 1 by omega]
    · simp [h, h2, show ¬ k < a + 1 by omega]
theorem carN_le (N : Nat → Nat) (M : Nat) (h : ∀ k, N k ≤ M) : ∀ a, carN N a ≤ M
  | 0 => by simp [carN]
  | a + 1 => by have h1 := carN_le N M h a; have h2 := h a; simp only [carN]; omega
/-- One byte more. -/
def rnd (f : Nat → Nat) (c : Nat) : Nat → Nat := nxtN (mulO (upN f 0 (f 0 ^^^ c)) 8) 8
theorem rnd_lt (f : Nat → Nat) (c i : Nat) (h : i < 8) : rnd f c i < 256 := by
  simp only [rnd, nxtN, h, if_true]
  omega
set_option maxHeartbeats 1000000 in
theorem val_mul (f : Nat → Nat) : valF (nxtN (mulO f 8) 8) = valF f * 1099511628211 % 18446744073709551616 := by
  have e0 : mulO f 8 0 = 179 * f 0 := by simp [mulO, mulI_eq, P8]; try omega
  have e1 : mulO f 8 1 = 179 * f 1 + f 0 := by simp [mulO, mulI_eq, P8]; try omega
  have e2 : mulO f 8 2 = 179 * f 2 + f 1 := by simp [mulO, mulI_eq, P8]; try omega
  have e3 : mulO f 8 3 = 179 * f 3 + f 2 := by simp [mulO, mulI_eq, P8]; try omega
  have e4 : mulO f 8 4 = 179 * f 4 + f 3 := by simp [mulO, mulI_eq, P8]; try omega
  have e5 : mulO f 8 5 = 179 * f 5 + f 4 + f 0 := by simp [mulO, mulI_eq, P8]; try omega
  have e6 : mulO f 8 6 = 179 * f 6 + f 5 + f 1 := by simp [mulO, mulI_eq, P8]; try omega
  have e7 : mulO f 8 7 = 179 * f 7 + f 6 + f 2 := by simp [mulO, mulI_eq, P8]; try omega
  obtain ⟨N, hN⟩ : ∃ N, mulO f 8 = N := ⟨_, rfl⟩
  rw [hN] at e0 e1 e2 e3 e4 e5 e6 e7 ⊢
  have hst : ∀ k, 256 * carN N (k + 1) + (carN N k + N k) % 256 = carN N k + N k := fun k => by simp only [carN]; omega
  have hr : ∀ k, k < 8 → nxtN N 8 k = (carN N k + N k) % 256 := fun k hk => by simp [nxtN, hk]
  have hlt : ∀ k, (carN N k + N k) % 256 < 256 := fun k => Nat.mod_lt _ (by decide)
  have c0 : carN N 0 = 0 := rfl
  simp only [valF]
  rw [hr 0 (by omega), hr 1 (by omega), hr 2 (by omega), hr 3 (by omega), hr 4 (by omega), hr 5 (by omega), hr 6 (by omega), hr 7 (by omega)]
  have s0 := hst 0
  have s1 := hst 1
  have s2 := hst 2
  have s3 := hst 3
  have s4 := hst 4
  have s5 := hst 5
  have s6 := hst 6
  have s7 := hst 7
  have l0 := hlt 0
  have l1 := hlt 1
  have l2 := hlt 2
  have l3 := hlt 3
  have l4 := hlt 4
  have l5 := hlt 5
  have l6 := hlt 6
  have l7 := hlt 7
  clear hst hr hlt hN
  simp only [Nat.zero_add, Nat.reduceAdd] at s0 s1 s2 s3 s4 s5 s6 s7
  rw [c0] at s0 l0
  simp only [Nat.zero_add] at s0 l0
  generalize (carN N 1 + N 1) % 256 = r1 at *
  generalize (carN N 2 + N 2) % 256 = r2 at *
  generalize (carN N 3 + N 3) % 256 = r3 at *
  generalize (carN N 4 + N 4) % 256 = r4 at *
  generalize (carN N 5 + N 5) % 256 = r5 at *
  generalize (carN N 6 + N 6) % 256 = r6 at *
  generalize (carN N 7 + N 7) % 256 = r7 at *
  rw [c0, Nat.zero_add]
  generalize N 0 % 256 = r0 at *
  rw [e0] at s0
  rw [e1] at s1
  rw [e2] at s2
  rw [e3] at s3
  rw [e4] at s4
  rw [e5] at s5
  rw [e6] at s6
  rw [e7] at s7
  clear e0 e1 e2 e3 e4 e5 e6 e7 c0
  have hT : r0 + 256 * (r1 + 256 * (r2 + 256 * (r3 + 256 * (r4 + 256 * (r5 + 256 * (r6 + 256 * r7)))))) < 18446744073709551616 := by
    clear s0 s1 s2 s3 s4 s5 s6 s7
    omega
  clear l0 l1 l2 l3 l4 l5 l6 l7
  generalize f 0 = f0 at *
  generalize f 1 = f1 at *
  generalize f 2 = f2 at *
  generalize f 3 = f3 at *
  generalize f 4 = f4 at *
  generalize f 5 = f5 at *
  generalize f 6 = f6 at *
  generalize f 7 = f7 at *
  generalize carN N 1 = q1 at *
  generalize carN N 2 = q2 at *
  generalize carN N 3 = q3 at *
  generalize carN N 4 = q4 at *
  generalize carN N 5 = q5 at *
  generalize carN N 6 = q6 at *
  generalize carN N 7 = q7 at *
  generalize carN N 8 = q8 at *
  generalize hTT : r0 + 256 * (r1 + 256 * (r2 + 256 * (r3 + 256 * (r4 + 256 * (r5 + 256 * (r6 + 256 * r7)))))) = T at *
  have hE : T + 18446744073709551616 * (q8 + (f7 + (f3 + 256 * (f4 + 256 * (f5 + 256 * (f6 + 256 * f7)))))) = (f0 + 256 * (f1 + 256 * (f2 + 256 * (f3 + 256 * (f4 + 256 * (f5 + 256 * (f6 + 256 * f7))))))) * 1099511628211 := by
    clear hT
    subst hTT
    omega
  rw [← hE, Nat.add_mul_mod_self_left, Nat.mod_eq_of_lt hT]
theorem hexK_two (m x y : Nat) (h : x < 256) : hexK (m + 2) (x + 256 * y) = hexK m y ++ [hexD (x / 16), hexD (x % 16)] := by
  rw [hexK, hexK, List.append_assoc, show (x + 256 * y) / 16 / 16 = y by omega, show (x + 256 * y) / 16 % 16 = x / 16 by omega, show (x + 256 * y) % 16 = x % 16 by omega]
  rfl
/-- What is written: the highest byte first. -/
def outF (f : Nat → Nat) : Nat → List UInt8
  | 0 => []
  | j + 1 => outF f j ++ [hexD (f (7 - j) / 16), hexD (f (7 - j) % 16)]
theorem outF_val (f : Nat → Nat) (hf : ∀ i, i < 8 → f i < 256) : outF f 8 = hex16 (valF f) := by
  simp only [outF, hex16, valF]
  rw [hexK_two 14 _ _ (hf 0 (by omega)), hexK_two 12 _ _ (hf 1 (by omega)), hexK_two 10 _ _ (hf 2 (by omega)), hexK_two 8 _ _ (hf 3 (by omega)), hexK_two 6 _ _ (hf 4 (by omega)), hexK_two 4 _ _ (hf 5 (by omega)), hexK_two 2 _ _ (hf 6 (by omega)), show f 7 = f 7 + 256 * 0 from rfl, hexK_two 0 _ _ (hf 7 (by omega))]
  rfl
theorem xor_low (x y c : Nat) (hx : x < 256) (hc : c < 256) : (x + 256 * y) ^^^ c = (x ^^^ c) + 256 * y := by
  have h1 : ((x + 256 * y) ^^^ c) / 2 ^ 8 = y := by
    rw [Nat.xor_div_two_pow, show (x + 256 * y) / 2 ^ 8 = y by omega, show c / 2 ^ 8 = 0 by omega, Nat.xor_zero]
  have h2 : ((x + 256 * y) ^^^ c) % 2 ^ 8 = x ^^^ c := by
    rw [Nat.xor_mod_two_pow, show (x + 256 * y) % 2 ^ 8 = x by omega, show c % 2 ^ 8 = c by omega]
  omega
theorem val_xor (f : Nat → Nat) (c : Nat) (hf : f 0 < 256) (hc : c < 256) : valF (upN f 0 (f 0 ^^^ c)) = valF f ^^^ c := by
  simp only [valF, upN]
  simp
  exact (xor_low _ _ _ hf hc).symm
theorem val_rnd (f : Nat → Nat) (c : Nat) (hf : f 0 < 256) (hc : c < 256) : valF (rnd f c) = (valF f ^^^ c) * 1099511628211 % 18446744073709551616 := by
  rw [rnd, val_mul, val_xor f c hf hc]
/-- The bytes behind a text. -/
def rndL : (Nat → Nat) → List UInt8 → (Nat → Nat)
  | f, [] => f
  | f, c :: l => rndL (rnd f c.toNat) l
def h8 (i : Nat) : Nat := if i = 0 then 0x25 else if i = 1 then 0x23 else if i = 2 then 0x22 else if i = 3 then 0x84 else if i = 4 then 0xe4 else if i = 5 then 0x9c else if i = 6 then 0xf2 else if i = 7 then 0xcb else 0
theorem val_h8 : valF h8 = h0N := by decide
theorem rndL_app : ∀ (a b : List UInt8) (f : Nat → Nat), rndL f (a ++ b) = rndL (rndL f a) b
  | [], _, _ => rfl
  | _ :: a, b, _ => rndL_app a b _
theorem rndL_val : ∀ (l : List UInt8) (f : Nat → Nat), (∀ i, i < 8 → f i < 256) → valF (rndL f l) = hashN (valF f) l ∧ ∀ i, i < 8 → rndL f l i < 256
  | [], f, h => ⟨rfl, h⟩
  | c :: l, f, h => by
    have h1 := rndL_val l (rnd f c.toNat) fun i hi => rnd_lt f _ i hi
    rw [val_rnd f c.toNat (h 0 (by omega)) c.toNat_lt] at h1
    exact h1
theorem h8_lt (i : Nat) : h8 i < 256 := by unfold h8; repeat (split; · omega)
                                           omega
theorem rndL_hash (l : List UInt8) : outF (rndL h8 l) 8 = hashL l := by
  obtain ⟨h1, h2⟩ := rndL_val l h8 fun i _ => h8_lt i
  rw [outF_val _ h2, h1, val_h8]
  rfl
end Go.Proofs.YtbcileppebpamaaGreatDoor
