/- Walks of package hand: the branches of a state. -/
import Derived.Test.YtmjnelkeiogdcaaHN
import Derived.Test.YtmjnelkeiogdcaaHM
import Derived.Test.YtmjnelkeiogdcaaSm
import Derived.Shelf.Abstract
import Derived.TacticsInMore
import Derived.LoopNIn
import Derived.LoopIn
import Derived.OwnWalkIn
import Derived.BigFrameIn
import Derived.Test.YtmjnelkeiogdcaaQD
set_option linter.unusedSimpArgs false
set_option linter.unusedVariables false
namespace Go.Proofs.Ytmjnelkeiogdcaa
open Go Go.RowKit Go.Shelf
set_option maxRecDepth 100000

def handA (H : HV) (fv cv : Value) : Array Value := #[.int .i64 ((H.kind : Nat) : Int), .int .i64 ((H.count : Nat) : Int), fv, .int .i64 H.lowI, .int .i64 H.highI, .int .i64 ((H.group : Nat) : Int), .int .i64 ((H.changes : Nat) : Int), cv]
/-- The lists of a hand lie below block N. -/
structure HandAt (W : World) (N : Nat) (H : HV) (fv cv : Value) : Prop where
  le : N ≤ W.heap.size
  faces : H.kind = 1 → ∃ p c, fv = .slice p H.faces.length c ∧ ∀ i (h : i < H.faces.length), ∃ b o, p = some ⟨b, o, none⟩ ∧ b < N ∧ W.cell? ⟨b, o + i * 2, none⟩ = some (.int .i64 ((H.faces[i].1 : Nat) : Int)) ∧ W.cell? ⟨b, o + i * 2 + 1, none⟩ = some (.int .i64 ((H.faces[i].2 : Nat) : Int))
  cards : H.kind = 4 ∨ H.kind = 5 → ∃ p c, cv = .slice p H.cards.length c ∧ ∀ i (h : i < H.cards.length), ∃ b o, p = some ⟨b, o, none⟩ ∧ b < N ∧ W.cell? ⟨b, o + i, none⟩ = some (.int .i64 ((H.cards[i] : Nat) : Int))
theorem cell_same {W W' : World} {b i : Nat} (h : W'.heap[b]? = W.heap[b]?) : W'.cell? ⟨b, i, none⟩ = W.cell? ⟨b, i, none⟩ := by
  simp [World.cell?, h]
theorem cell_book {W : World} {b i : Nat} {v : Value} (h : W.cell? ⟨b, i, none⟩ = some v) : ∃ o, W.heap[b]? = some o ∧ isBook o = false := by
  cases ho : W.heap[b]? with
  | none => simp [World.cell?, ho] at h
  | some o => refine ⟨o, rfl, ?_⟩; cases o <;> first | rfl | simp [World.cell?, ho] at h
theorem HandAt.keptF {W W' : World} {N : Nat} {H : HV} {fv cv : Value} (h : HandAt W N H fv cv) {S : Nat → Prop} (hS : ∀ b, b < N → S b) (hk : ∀ (b : Nat), S b → ∀ (o : Obj), W.heap[b]? = some o → isBook o = false → W'.heap[b]? = some o) (hs : N ≤ W'.heap.size) : HandAt W' N H fv cv := by
  have key : ∀ b i v, b < N → W.cell? ⟨b, i, none⟩ = some v → W'.cell? ⟨b, i, none⟩ = some v := fun b i v hb hc => by
    obtain ⟨o, ho, hbk⟩ := cell_book hc
    rw [cell_same ((hk b (hS b hb) o ho hbk).trans ho.symm)]
    exact hc
  refine ⟨hs, fun hk1 => ?_, fun hk1 => ?_⟩
  · obtain ⟨p, c, hv, hf⟩ := h.faces hk1
    refine ⟨p, c, hv, fun i hi => ?_⟩
    obtain ⟨b, o, e, hb, h1, h2⟩ := hf i hi
    exact ⟨b, o, e, hb, key _ _ _ hb h1, key _ _ _ hb h2⟩
  · obtain ⟨p', c', hv', hf'⟩ := h.cards hk1
    refine ⟨p', c', hv', fun i hi => ?_⟩
    obtain ⟨b, o, e, hb, h1⟩ := hf' i hi
    exact ⟨b, o, e, hb, key _ _ _ hb h1⟩
theorem HandAt.kept {W W' : World} {N : Nat} {H : HV} {fv cv : Value} (h : HandAt W N H fv cv) {S : Nat → Prop} (hS : ∀ b, b < N → S b) (hk : KeptS S W W') (hs : N ≤ W'.heap.size) : HandAt W' N H fv cv := h.keptF hS hk.app hs
theorem HandAt.below {W W' : World} {N : Nat} {H : HV} {fv cv : Value} (h : HandAt W N H fv cv) (hb : Below N W W') : HandAt W' N H fv cv :=
  h.keptF (S := fun b => b < N) (fun _ h => h) (fun b hlt o ho _ => (hb.block b hlt).trans ho) (Nat.le_trans h.le hb.size)
/-- A closure's boxes: the state, the hand. -/
structure BrAt (W : World) (N bs bh : Nat) (H : HV) (fv cv : Value) (s : St) : Prop where
  sb : W.heap[bs]? = some (.cells (encA s) (encT s) (0, 0))
  hb : W.heap[bh]? = some (.cells (handA H fv cv) 26 (0, 0))
  hand : HandAt W N H fv cv
  nb : N ≤ bs
theorem BrAt.kept {W W' : World} {N bs bh : Nat} {H : HV} {fv cv : Value} {s : St} (h : BrAt W N bs bh H fv cv s) {S : Nat → Prop} (hS : ∀ b, b < N → S b) (h1 : S bs) (h2 : S bh) (hk : KeptS S W W') : BrAt W' N bs bh H fv cv s :=
  have hx := hk bs h1 _ h.sb rfl
  ⟨hx, hk bh h2 _ h.hb rfl, h.hand.kept hS hk (Nat.le_trans h.nb (Nat.le_of_lt (heap_lt hx))), h.nb⟩
theorem BrAt.below {W W' : World} {N bs bh : Nat} {H : HV} {fv cv : Value} {s : St} (h : BrAt W N bs bh H fv cv s) (hb : Below W.heap.size W W') : BrAt W' N bs bh H fv cv s :=
  h.kept (S := fun _ => True) (fun _ _ => trivial) trivial trivial (KeptS.below hb)
theorem BrAt.hcell {W : World} {N bs bh : Nat} {H : HV} {fv cv : Value} {s : St} (h : BrAt W N bs bh H fv cv s) (i : Nat) {v : Value} (hv : (handA H fv cv)[i]? = some v) : W.cell? ⟨bh, i, none⟩ = some v := by
  rw [cell_of_row _ _ i _ _ (0, 0) h.hb, hv]
theorem BrAt.scell {W : World} {N bs bh : Nat} {H : HV} {fv cv : Value} {s : St} (h : BrAt W N bs bh H fv cv s) (i : Nat) {v : Value} (hv : (encA s)[i]? = some v) : W.cell? ⟨bs, i, none⟩ = some v := by
  rw [cell_of_row _ _ i _ _ (0, 0) h.sb, hv]
def SBr (N B0 B1 : Nat) : Nat → Prop := fun b => b < N ∨ B0 ≤ b ∧ b < B1
def brEnc (x : Nat × St) : Array Value := #[.int .i64 ((x.1 : Nat) : Int), encS x.2]
/-- x comes behind pre in the list. -/
def Nxt {α : Type} (L : List α) (pre : List α) (x : α) (_ : World) : Prop := ∃ rest, L = pre ++ x :: rest

attribute [local go_sem] Oper.semAt_some
set_option maxHeartbeats 1000000 in
theorem thrown1_seq (n : Nat) (hn : 1 ≤ n) (N bs bh B0 B1 : Nat) (hs0 : B0 ≤ bs ∧ bs < B1) (hs1 : B0 ≤ bh ∧ bh < B1) (H : HV) (fv cv : Value) (l0 s0 : Nat) (hF : Fit H (.thrown l0 s0)) (w : World) (hw : BrAt w N bs bh H fv cv (.thrown l0 s0)) :
    SeqG Fence.wide n Try.prog 96 #[.pointer (some ⟨bs, 0, none⟩), .pointer (some ⟨bh, 0, none⟩)] brEnc (fun _ => SBr N B0 B1) (Nxt (brs H (.thrown l0 s0))) (fun xs => xs = brs H (.thrown l0 s0)) w := by
  intro l J Jx W hW hJ hJx hY h0
  have hA := hw.below hW
  obtain ⟨Lst, hq⟩ : ∃ Lst, brs H (.thrown l0 s0) = Lst := ⟨_, rfl⟩
  rw [hq] at hY ⊢
  have HY := hid hY
  have HJ := hid hJ
  have HKD := hid hF.2
  obtain ⟨hl8, hs1000, hm20, hfs⟩ := hF.1
  refine callsIn_of_wp Try.func96 rfl trivial ?_ rfl
  simp only [Try.ntmps96, List.size_toArray, List.length_cons, List.length_nil, Nat.reduceAdd, Nat.reduceSub, Array.replicate_succ, Array.replicate_zero, List.push_toArray, List.append_toArray, List.nil_append, List.cons_append]
  obtain ⟨p, c, rfl, -⟩ := hA.hand.faces HKD.out
  have c0 : W.cell? ⟨bs, 0, none⟩ = some (.int .i64 ((l0 : Nat) : Int)) := hA.scell 0 rfl
  have c2 : W.cell? ⟨bh, 2, none⟩ = some (.slice p H.faces.length c) := hA.hcell 2 rfl
  obtain ⟨m, hm⟩ : ∃ m, H.faces.length = m := ⟨_, rfl⟩
  by_cases hz : l0 = 0
  · subst hz
    have : Lst = [] := by rw [← hq]; simp [brs]
    subst this
    clear hY hJ hw
    gi_wp2_with fail
    refine bodyPost_ret (results_none rfl _ _ _) rfl ?_
    exact ⟨⟨_, rfl⟩, .all [] rfl h0⟩
  · have hz' : (((l0 : Nat) : Int) == 0) = false := by simp; exact hz
    rw [hm] at hm20
    have hlen : Lst.length = m := by rw [← hq, ← hm]; simp [brs, hz]
    have hel : ∀ i (hi : i < Lst.length) (hi' : i < H.faces.length), Lst[i] = (H.faces[i].2, .thrown (l0 - 1) (s0 + H.faces[i].1)) := fun i hi hi' => by subst hq; simp [brs, hz]
    have HA := hid hA
    have HM := hid hm
    have HEL := hid hel
    have HLEN := hid hlen
    have HFS := hid hfs
    rw [hm] at c2
    clear hY hJ hw hA hm hel hlen hfs hq
    gi_wp2_with fail
    gi_loopw [12] (fun ix wr => ∃ i : Nat, i ≤ m ∧ ix = .int .i64 i ∧ BrAt wr N bs bh H (.slice p H.faces.length c) cv (.thrown l0 s0) ∧ J (Lst.take i) wr) (fun ix _ => m - (intOf ix).toNat)
    case atStart => exact ⟨0, by omega, rfl, HA.out, by simpa using h0⟩
    case round =>
      clear h0 HA c0 c2
      obtain ⟨i, hi, rfl, hA, hj⟩ := hrel
      by_cases hlt : i < m
      · have hlt' : ((i : Nat) : Int) < m := by omega
        have hi0 : (0 : Int) ≤ i := by omega
        have hif : i < H.faces.length := by rw [HM.out]; exact hlt
        have hil : i < Lst.length := by rw [HLEN.out]; exact hlt
        obtain ⟨p', c', hv', hc'⟩ := hA.hand.faces HKD.out
        injection hv' with ep _ ec
        subst ep
        subst ec
        obtain ⟨b, o, rfl, hbN, f0, f1⟩ := hc' i hif
        have hx := HEL.out i hil hif
        have hb1 := HFS.out _ (List.getElem_mem hif)
        have c0 : wr.cell? ⟨bs, 0, none⟩ = some (.int .i64 ((l0 : Nat) : Int)) := hA.scell 0 rfl
        have c1 : wr.cell? ⟨bs, 1, none⟩ = some (.int .i64 ((s0 : Nat) : Int)) := hA.scell 1 rfl
        have hN := hA.hand.le
        have hbsl := heap_lt hA.sb
        generalize H.faces[i].1 = v at *
        generalize H.faces[i].2 = wt at *
        have hnx : Nxt Lst (Lst.take i) Lst[i] wr := ⟨Lst.drop (i + 1), by rw [List.getElem_cons_drop, List.take_append_drop]⟩
        have hst : Lst.take i ++ [Lst[i]] = Lst.take (i + 1) := by rw [List.take_add_one, List.getElem?_eq_getElem hil]; rfl
        have HA := hid hA
        obtain ⟨sv, hsv⟩ : ∃ sv, s0 + v = sv := ⟨_, rfl⟩
        obtain ⟨l1, hl1⟩ : ∃ l1, l0 - 1 = l1 := ⟨_, rfl⟩
        rw [hsv, hl1] at hx
        have wv := wrap_nat sv (by omega)
        have wl := wrap_nat l1 (by omega)
        have el : ((l0 : Nat) : Int) - 1 = ((l1 : Nat) : Int) := by omega
        have es : ((s0 : Nat) : Int) + ((v : Nat) : Int) = ((sv : Nat) : Int) := by omega
        have HX := hid hx
        have hba : Below wr.heap.size wr (wr.alloc (.cells #[.int .i64 ((v : Nat) : Int), .int .i64 ((wt : Nat) : Int)] 50)) := (Below.refl _ _).alloc (Nat.le_refl _) _
        obtain ⟨fn, tmps, assign, body, hy, hR⟩ := HY.out _ _ _ (HJ.out _ _ _ hj hba) hnx
        rw [hst] at hR
        rw [hx] at hy
        simp only [brEnc, encS, encT, encA] at hy
        have HA := hid (HA.out.below hba)
        have HR := hid hR
        clear hsv hl1 hR
        clear hA hx hnx hst hj hc' hi
        gi_wp2_with fail
        refine HR.out.mono ?_
        clear HR HY HJ hy
        rintro e w3 (⟨rfl, hJ3, hk3, -⟩ | ⟨rfl, hJ3, -⟩)
        · have HA3 := hid (HA.out.kept (fun b h => .inl h) (.inr hs0) (.inr hs1) hk3)
          have HJ3 := hid hJ3
          clear hJ3 hk3 HA c0 c1 f0 f1
          gi_wp2_with fail
          go_roundw
          case rel => exact ⟨i + 1, by omega, by go_num, HA3.out, HJ3.out⟩
          case measure => simp [intOf]; omega
        · have HJ3 := hid hJ3
          clear hJ3 HA c0 c1 f0 f1
          gi_wp2_with fail
          refine bodyPost_ret (results_none rfl _ _ _) rfl ?_
          exact ⟨⟨_, rfl⟩, .stop _ HJ3.out⟩
      · have hge : ¬ ((i : Nat) : Int) < m := by omega
        obtain rfl : i = m := by omega
        have hfin : Lst.take i = Lst := by rw [← HLEN.out]; exact List.take_length
        rw [hfin] at hj
        have HJ0 := hid hj
        clear hj
        gi_wp2_with fail
        go_end0
        exact ⟨⟨_, rfl⟩, .all Lst rfl HJ0.out⟩
set_option maxHeartbeats 1000000 in
theorem marked1_seq (n : Nat) (hn : 1 ≤ n) (N bs bh B0 B1 : Nat) (hs0 : B0 ≤ bs ∧ bs < B1) (hs1 : B0 ≤ bh ∧ bh < B1) (H : HV) (fv cv : Value) (m0 : Nat) (hF : Fit H (.marked m0)) (w : World) (hw : BrAt w N bs bh H fv cv (.marked m0)) :
    SeqG Fence.wide n Try.prog 99 #[.pointer (some ⟨bh, 0, none⟩), .pointer (some ⟨bs, 0, none⟩)] brEnc (fun _ => SBr N B0 B1) (Nxt (brs H (.marked m0))) (fun xs => xs = brs H (.marked m0)) w := by
  intro l J Jx W hW hJ hJx hY h0
  have hA := hw.below hW
  obtain ⟨Lst, hq⟩ : ∃ Lst, brs H (.marked m0) = Lst := ⟨_, rfl⟩
  rw [hq] at hY ⊢
  have HY := hid hY
  have HJ := hid hJ
  have HKD := hid hF.2
  obtain ⟨hm1000, hlow, hhigh⟩ := hF.1
  refine callsIn_of_wp Try.func99 rfl trivial ?_ rfl
  simp only [Try.ntmps99, List.size_toArray, List.length_cons, List.length_nil, Nat.reduceAdd, Nat.reduceSub, Array.replicate_succ, Array.replicate_zero, List.push_toArray, List.append_toArray, List.nil_append, List.cons_append]
  have c0 : W.cell? ⟨bs, 0, none⟩ = some (.int .i64 ((m0 : Nat) : Int)) := hA.scell 0 rfl
  have c3 : W.cell? ⟨bh, 3, none⟩ = some (.int .i64 ((H.low : Nat) : Int)) := (hA.hcell 3 (v := .int .i64 H.lowI) rfl).trans (by rw [HKD.out.1])
  have HA := hid hA
  obtain ⟨lo, hlo⟩ : ∃ lo, H.low = lo := ⟨_, rfl⟩
  obtain ⟨hi', hhi⟩ : ∃ hi', H.high = hi' := ⟨_, rfl⟩
  have HLO := hid hlo
  have HHI := hid hhi
  rw [hlo] at c3 hlow
  rw [hhi] at hhigh
  by_cases hz : m0 = 0
  · subst hz
    obtain ⟨m, hm⟩ : ∃ m, hi' + 1 - lo = m := ⟨_, rfl⟩
    have hlen : Lst.length = m := by rw [← hq, ← hm, ← hlo, ← hhi]; simp [brs]
    have hel : ∀ i (hi : i < Lst.length), Lst[i] = (1, .marked (lo + i)) := fun i hi => by subst hq; subst hlo; simp [brs]
    have HEL := hid hel
    have HLEN := hid hlen
    clear hY hJ hw hA hel hlen hq hlo hhi
    gi_wp2_with fail
    gi_loopw [4] (fun ix wr => ∃ i : Nat, i ≤ m ∧ ix = .int .i64 ((lo + i : Nat) : Int) ∧ BrAt wr N bs bh H fv cv (.marked 0) ∧ J (Lst.take i) wr) (fun ix _ => lo + m - (intOf ix).toNat)
    case atStart => exact ⟨0, by omega, rfl, HA.out, by simpa using h0⟩
    case round =>
      clear h0 HA c0 c3
      obtain ⟨i, hi, rfl, hA, hj⟩ := hrel
      have c0 : wr.cell? ⟨bs, 0, none⟩ = some (.int .i64 (((0 : Nat)) : Int)) := hA.scell 0 rfl
      have c4 : wr.cell? ⟨bh, 4, none⟩ = some (.int .i64 ((H.high : Nat) : Int)) := (hA.hcell 4 (v := .int .i64 H.highI) rfl).trans (by rw [HKD.out.2])
      rw [HHI.out] at c4
      by_cases hlt : i < m
      · have hil : i < Lst.length := by rw [HLEN.out]; exact hlt
        have hx := HEL.out i hil
        have hnx : Nxt Lst (Lst.take i) Lst[i] wr := ⟨Lst.drop (i + 1), by rw [List.getElem_cons_drop, List.take_append_drop]⟩
        have hst : Lst.take i ++ [Lst[i]] = Lst.take (i + 1) := by rw [List.take_add_one, List.getElem?_eq_getElem hil]; rfl
        obtain ⟨v, hv⟩ : ∃ v, lo + i = v := ⟨_, rfl⟩
        rw [hv] at hx ⊢
        have hle : decide (((v : Nat) : Int) ≤ ((hi' : Nat) : Int)) = true := by simp; omega
        have hle' : ((v : Nat) : Int) ≤ ((hi' : Nat) : Int) := by omega
        have ev : ((v : Nat) : Int) + 1 = ((v + 1 : Nat) : Int) := by push_cast; rfl
        have ev2 : v + 1 = lo + (i + 1) := by omega
        have wv := wrap_nat (v + 1) (by omega)
        have HEV := hid ev2
        obtain ⟨fn, tmps, assign, body, hy, hR⟩ := HY.out _ _ _ hj hnx
        rw [hst] at hR
        rw [hx] at hy
        simp only [brEnc, encS, encT, encA] at hy
        rw [show (((1 : Nat) : Int)) = 1 from rfl] at hy
        have HA := hid hA
        have HR := hid hR
        clear hR hA hx hnx hst hj hi ev2
        generalize v + 1 = v1 at *
        gi_wp2_with fail
        refine HR.out.mono ?_
        clear HR HY HJ hy
        rintro e w3 (⟨rfl, hJ3, hk3, -⟩ | ⟨rfl, hJ3, -⟩)
        · have HA3 := hid (HA.out.kept (fun b h => .inl h) (.inr hs0) (.inr hs1) hk3)
          have HJ3 := hid hJ3
          clear hJ3 hk3 HA c0 c4
          gi_wp2_with fail
          go_roundw
          case rel => exact ⟨i + 1, by omega, by rw [HEV.out], HA3.out, HJ3.out⟩
          case measure => simp [intOf]; omega
        · have HJ3 := hid hJ3
          clear hJ3 HA c0 c4
          gi_wp2_with fail
          refine bodyPost_ret (results_none rfl _ _ _) rfl ?_
          exact ⟨⟨_, rfl⟩, .stop _ HJ3.out⟩
      · have hi2 : i = m := by omega
        subst hi2
        obtain ⟨v, hv⟩ : ∃ v, lo + i = v := ⟨_, rfl⟩
        rw [hv]
        have hle : decide (((v : Nat) : Int) ≤ ((hi' : Nat) : Int)) = false := by simp; omega
        have hle' : ¬ ((v : Nat) : Int) ≤ ((hi' : Nat) : Int) := by omega
        have hfin : Lst.take i = Lst := by rw [← HLEN.out]; exact List.take_length
        rw [hfin] at hj
        have HJ0 := hid hj
        clear hj hA
        gi_wp2_with fail
        go_end0
        exact ⟨⟨_, rfl⟩, .all Lst rfl HJ0.out⟩
  · have hz' : (((m0 : Nat) : Int) == 0) = false := by simp; exact hz
    have : Lst = [] := by rw [← hq]; simp [brs, hz]
    subst this
    clear hY hJ hw hq hA
    gi_wp2_with fail
    gi_loopw [4] (fun ix wr => W = wr) (fun ix _ => 0)
    case atStart => rfl
    case round =>
      subst hrel
      gi_wp2_with fail
      go_end0
      exact ⟨⟨_, rfl⟩, .all [] rfl h0⟩
end Go.Proofs.Ytmjnelkeiogdcaa
/- Walks of package hand: the branches of stalks, of cards that are drawn, of a deck that is cut. -/
namespace Go.Proofs.Ytmjnelkeiogdcaa
open Go Go.RowKit Go.Shelf
set_option maxRecDepth 100000

theorem aside_c (heap group : Nat) (hh : 1 ≤ heap ∧ heap ≤ 64) (hg : 2 ≤ group ∧ group ≤ 8) (W : World) : Calls Try.prog 103 #[.int .i64 ((heap : Nat) : Int), .int .i64 ((group : Nat) : Int)] W fun e w' => e = .returned (.int .i64 ((asideN heap group : Nat) : Int)) ∧ W = w' := by
  have e1 : ((heap : Nat) : Int) - 1 = ((heap - 1 : Nat) : Int) := by omega
  obtain ⟨h1, hh1⟩ : ∃ h1, heap - 1 = h1 := ⟨_, rfl⟩
  rw [hh1] at e1
  have e2 : Int.tmod ((h1 : Nat) : Int) ((group : Nat) : Int) = ((h1 % group : Nat) : Int) := by rw [Int.tmod_eq_emod_of_nonneg (by omega)]; push_cast; try rfl
  have hr : h1 % group < group := Nat.mod_lt _ (by omega)
  have ea : asideN heap group = h1 % group + 1 := by unfold asideN; rw [hh1]
  rw [ea]
  generalize h1 % group = r at *
  have e3 : ((r : Nat) : Int) + 1 = ((r + 1 : Nat) : Int) := by omega
  have w1 := wrap_nat h1 (by omega)
  have w2 := wrap_nat r (by omega)
  have w3 := wrap_nat (r + 1) (by omega)
  have hne : ((group : Nat) : Int) ≠ 0 := by omega
  have hne' : (((group : Nat) : Int) == 0) = false := by simp; omega
  have hm1 : (((group : Nat) : Int) == -1) = false := by simp <;> omega
  generalize r + 1 = r1 at *
  clear ea hr hh1
  go_enter Try.func103, Try.ntmps103
  go_wp2_with fail
  go_ret
  exact ⟨rfl, rfl⟩

attribute [local go_sem] Oper.semAt_some
set_option maxHeartbeats 1000000 in
theorem cut1_seq (n : Nat) (hn : 1 ≤ n) (N bs bh B0 B1 : Nat) (hs0 : B0 ≤ bs ∧ bs < B1) (hs1 : B0 ≤ bh ∧ bh < B1) (H : HV) (fv cv : Value) (k0 : Int) (hF : Fit H (.cut k0)) (w : World) (hw : BrAt w N bs bh H fv cv (.cut k0)) :
    SeqG Fence.wide n Try.prog 109 #[.pointer (some ⟨bh, 0, none⟩), .pointer (some ⟨bs, 0, none⟩)] brEnc (fun _ => SBr N B0 B1) (Nxt (brs H (.cut k0))) (fun xs => xs = brs H (.cut k0)) w := by
  intro l J Jx W hW hJ hJx hY h0
  have hA := hw.below hW
  obtain ⟨Lst, hq⟩ : ∃ Lst, brs H (.cut k0) = Lst := ⟨_, rfl⟩
  rw [hq] at hY ⊢
  have HY := hid hY
  have HJ := hid hJ
  have HKD := hid hF.2
  obtain ⟨hk1, hk8, hm20, hcs⟩ := hF.1
  refine callsIn_of_wp Try.func109 rfl trivial ?_ rfl
  simp only [Try.ntmps109, List.size_toArray, List.length_cons, List.length_nil, Nat.reduceAdd, Nat.reduceSub, Array.replicate_succ, Array.replicate_zero, List.push_toArray, List.append_toArray, List.nil_append, List.cons_append]
  obtain ⟨p, c, rfl, -⟩ := hA.hand.cards (.inr HKD.out)
  have c7 : W.cell? ⟨bh, 7, none⟩ = some (.slice p H.cards.length c) := hA.hcell 7 rfl
  obtain ⟨m, hm⟩ : ∃ m, H.cards.length = m := ⟨_, rfl⟩
  have HM := hid hm
  have HCS := hid hcs
  have HA := hid hA
  rw [hm] at c7 hm20
  have hLst : (0 ≤ k0 → Lst = []) ∧ (k0 < 0 → Lst.length = m ∧ ∀ i (hi : i < Lst.length) (hi' : i < H.cards.length), Lst[i] = (1, .cut ((H.cards[i] : Nat) : Int))) := by
    subst hq hm
    refine ⟨fun h => by simp [brs, h], fun h => ⟨by simp [brs, show ¬ 0 ≤ k0 by omega], fun i hi hi' => by simp [brs, show ¬ 0 ≤ k0 by omega]⟩⟩
  have HLST := hid hLst
  clear hY hJ hw hA hm hq hcs hLst
  gi_wp2_with fail
  gi_loopw [9] (fun ix wr => ∃ i : Nat, i ≤ m ∧ ix = .int .i64 i ∧ BrAt wr N bs bh H fv (.slice p H.cards.length c) (.cut k0) ∧ J (Lst.take i) wr ∧ (0 ≤ k0 → i = 0)) (fun ix _ => m - (intOf ix).toNat)
  case atStart => exact ⟨0, by omega, rfl, HA.out, by simpa using h0, fun _ => rfl⟩
  case round =>
    clear h0 HA c7
    obtain ⟨i, hi, rfl, hA, hj, hk0⟩ := hrel
    by_cases hlt : i < m
    · have hlt' : ((i : Nat) : Int) < m := by omega
      have hi0 : (0 : Int) ≤ i := by omega
      have hif : i < H.cards.length := by rw [HM.out]; exact hlt
      obtain ⟨p', c', hv', hc'⟩ := hA.hand.cards (.inr HKD.out)
      injection hv' with ep _ ec
      subst ep
      subst ec
      obtain ⟨b, o, rfl, hbN, f0⟩ := hc' i hif
      have hb1 := HCS.out _ (List.getElem_mem hif)
      have c0 : wr.cell? ⟨bs, 0, none⟩ = some (.int .i64 k0) := hA.scell 0 rfl
      by_cases hk : 0 ≤ k0
      · obtain rfl : i = 0 := hk0 hk
        have hl := HLST.out.1 hk
        subst hl
        have HJ0 := hid hj
        have hd : decide (0 ≤ k0) = true := by simp [hk]
        clear hA hc' hi hk0 HY HJ HLST hj
        rw [Nat.add_zero] at f0
        generalize H.cards[0] = v at *
        gi_wp2_with fail
        refine ⟨fun _ h => (by cases h), ?_⟩
        gi_wp2_with fail
        refine bodyPost_ret (results_none rfl _ _ _) rfl ?_
        exact ⟨⟨_, rfl⟩, .all [] rfl HJ0.out⟩
      · have hk : k0 < 0 := by omega
        have hd : decide (0 ≤ k0) = false := by simp; omega
        obtain ⟨hlen, hel⟩ := HLST.out.2 hk
        have hil : i < Lst.length := by rw [hlen]; exact hlt
        have hx := hel i hil hif
        have hnx : Nxt Lst (Lst.take i) Lst[i] wr := ⟨Lst.drop (i + 1), by rw [List.getElem_cons_drop, List.take_append_drop]⟩
        have hst : Lst.take i ++ [Lst[i]] = Lst.take (i + 1) := by rw [List.take_add_one, List.getElem?_eq_getElem hil]; rfl
        generalize H.cards[i] = v at *
        obtain ⟨fn, tmps, assign, body, hy, hR⟩ := HY.out _ _ _ hj hnx
        rw [hst] at hR
        rw [hx] at hy
        simp only [brEnc, encS, encT, encA] at hy
        rw [show (((1 : Nat) : Int)) = 1 from rfl] at hy
        have HA := hid hA
        have HR := hid hR
        have HK := hid hk
        clear hR hA hx hnx hst hj hi hc' hel hk0 hlen hk HLST
        gi_wp2_with fail
        refine HR.out.mono ?_
        clear HR HY HJ hy
        rintro e w3 (⟨rfl, hJ3, hk3, -⟩ | ⟨rfl, hJ3, -⟩)
        · have HA3 := hid (HA.out.kept (fun b h => .inl h) (.inr hs0) (.inr hs1) hk3)
          have HJ3 := hid hJ3
          clear hJ3 hk3 HA c0 f0
          gi_wp2_with fail
          go_roundw
          case rel => exact ⟨i + 1, by omega, by go_num, HA3.out, HJ3.out, fun h => absurd HK.out (by omega)⟩
          case measure => simp [intOf]; omega
        · have HJ3 := hid hJ3
          clear hJ3 HA c0 f0
          gi_wp2_with fail
          refine bodyPost_ret (results_none rfl _ _ _) rfl ?_
          exact ⟨⟨_, rfl⟩, .stop _ HJ3.out⟩
    · have hge : ¬ ((i : Nat) : Int) < m := by omega
      have hi2 : i = m := by omega
      have hfin : Lst.take i = Lst := by
        by_cases hk : 0 ≤ k0
        · rw [HLST.out.1 hk]; simp
        · rw [hi2, ← (HLST.out.2 (by omega)).1]; exact List.take_length
      rw [hfin] at hj
      have HJ0 := hid hj
      clear hj hfin hi2
      gi_wp2_with fail
      go_end0
      exact ⟨⟨_, rfl⟩, .all Lst rfl HJ0.out⟩
theorem asideN_le (h g : Nat) (hh : 1 ≤ h) : asideN h g ≤ h := by
  unfold asideN
  have := Nat.mod_le (h - 1) g
  omega
set_option maxHeartbeats 2000000 in
theorem divided1_seq (n : Nat) (hn : 1 ≤ n) (N bs bh B0 B1 : Nat) (hs0 : B0 ≤ bs ∧ bs < B1) (hs1 : B0 ≤ bh ∧ bh < B1) (H : HV) (fv cv : Value) (l0 n0 : Nat) (hF : Fit H (.divided l0 n0)) (w : World) (hw : BrAt w N bs bh H fv cv (.divided l0 n0)) :
    SeqG Fence.wide n Try.prog 102 #[.pointer (some ⟨bs, 0, none⟩), .pointer (some ⟨bh, 0, none⟩)] brEnc (fun _ => SBr N B0 B1) (Nxt (brs H (.divided l0 n0))) (fun xs => xs = brs H (.divided l0 n0)) w := by
  intro l J Jx W hW hJ hJx hY h0
  have hA := hw.below hW
  obtain ⟨Lst, hq⟩ : ∃ Lst, brs H (.divided l0 n0) = Lst := ⟨_, rfl⟩
  rw [hq] at hY ⊢
  have HY := hid hY
  have HJ := hid hJ
  obtain ⟨hl5, hn64, hg2, hg8⟩ := hF.1
  refine callsIn_of_wp Try.func102 rfl trivial ?_ rfl
  simp only [Try.ntmps102, List.size_toArray, List.length_cons, List.length_nil, Nat.reduceAdd, Nat.reduceSub, Array.replicate_succ, Array.replicate_zero, List.push_toArray, List.append_toArray, List.nil_append, List.cons_append]
  obtain ⟨gr, hgr⟩ : ∃ gr, H.group = gr := ⟨_, rfl⟩
  rw [hgr] at hg2 hg8
  have HG := hid hgr
  have HA := hid hA
  obtain ⟨z, hz2⟩ : ∃ z : Int, ((n0 : Nat) : Int) - 2 = z := ⟨_, rfl⟩
  have wz : IntKind.i64.wrap z = z := IntWalk.i64_in _ (by omega)
  by_cases hz : l0 = 0
  · subst hz
    have : Lst = [] := by rw [← hq]; simp [brs]
    subst this
    clear hY hJ hw hq hA
    gi_wp2_with fail
    gi_loopw [4] (fun ix wr => W = wr) (fun ix _ => 0)
    case atStart => rfl
    case round =>
      subst hrel
      have c0 : W.cell? ⟨bs, 0, none⟩ = some (.int .i64 ((0 : Nat) : Int)) := HA.out.scell 0 rfl
      gi_wp2_with fail
      go_end0
      exact ⟨⟨_, rfl⟩, .all [] rfl h0⟩
  · obtain ⟨m, hm⟩ : ∃ m, n0 - 2 = m := ⟨_, rfl⟩
    have hlen : Lst.length = m := by rw [← hq, ← hm]; simp [brs, hz]
    have hel : ∀ i (hi : i < Lst.length), Lst[i] = (1, .divided (l0 - 1) (leftN gr n0 (i + 1))) := fun i hi => by subst hq; subst hgr; simp [brs, hz]
    have HEL := hid hel
    have HLEN := hid hlen
    have HZ := hid hz2
    have hpos : decide (0 < ((l0 : Nat) : Int)) = true := by simp; omega
    have hpos' : (0 : Int) < ((l0 : Nat) : Int) := by omega
    clear hY hJ hw hA hel hlen hq hgr
    gi_wp2_with fail
    gi_loopw [4] (fun ix wr => ∃ i : Nat, i ≤ m ∧ ix = .int .i64 ((i + 1 : Nat) : Int) ∧ BrAt wr N bs bh H fv cv (.divided l0 n0) ∧ J (Lst.take i) wr) (fun ix _ => m + 1 - (intOf ix).toNat)
    case atStart => exact ⟨0, by omega, rfl, HA.out, by simpa using h0⟩
    case round =>
      clear h0 HA
      obtain ⟨i, hi, rfl, hA, hj⟩ := hrel
      have c0 : wr.cell? ⟨bs, 0, none⟩ = some (.int .i64 ((l0 : Nat) : Int)) := hA.scell 0 rfl
      have c1 : wr.cell? ⟨bs, 1, none⟩ = some (.int .i64 ((n0 : Nat) : Int)) := hA.scell 1 rfl
      have c5 : wr.cell? ⟨bh, 5, none⟩ = some (.int .i64 ((H.group : Nat) : Int)) := hA.hcell 5 rfl
      rw [HG.out] at c5
      obtain ⟨h1, hh1⟩ : ∃ h1, i + 1 = h1 := ⟨_, rfl⟩
      by_cases hlt : i < m
      · have hil : i < Lst.length := by rw [HLEN.out]; exact hlt
        have hx := HEL.out i hil
        have hnx : Nxt Lst (Lst.take i) Lst[i] wr := ⟨Lst.drop (i + 1), by rw [List.getElem_cons_drop, List.take_append_drop]⟩
        have hst : Lst.take i ++ [Lst[i]] = Lst.take (i + 1) := by rw [List.take_add_one, List.getElem?_eq_getElem hil]; rfl
        rw [hh1] at hx ⊢
        have hle : decide (((h1 : Nat) : Int) ≤ z) = true := by simp; omega
        have hle' : ((h1 : Nat) : Int) ≤ z := by omega
        have ev : ((h1 : Nat) : Int) + 1 = ((h1 + 1 : Nat) : Int) := by omega
        have wv := wrap_nat (h1 + 1) (by omega)
        have HEV := hid (show h1 + 1 = i + 1 + 1 by omega)
        obtain ⟨l1, hl1⟩ : ∃ l1, l0 - 1 = l1 := ⟨_, rfl⟩
        obtain ⟨n1, hn1⟩ : ∃ n1, n0 - 1 = n1 := ⟨_, rfl⟩
        obtain ⟨r1, hr1⟩ : ∃ r1, n0 - h1 = r1 := ⟨_, rfl⟩
        obtain ⟨rs, hrs⟩ : ∃ rs, r1 - 1 = rs := ⟨_, rfl⟩
        have ha1 := asideN_le h1 gr (by omega)
        have ha2 := asideN_le rs gr (by omega)
        have HA1 := hid (fun W => aside_c h1 gr (by omega) (by omega) W)
        have HA2 := hid (fun W => aside_c rs gr (by omega) (by omega) W)
        have hlf : leftN gr n0 h1 = n1 - asideN h1 gr - asideN rs gr := by unfold leftN; rw [hn1, hr1, hrs]
        rw [hlf, hl1] at hx
        generalize asideN h1 gr = a1 at *
        generalize asideN rs gr = a2 at *
        obtain ⟨b1, hb1⟩ : ∃ b1, n1 - a1 = b1 := ⟨_, rfl⟩
        obtain ⟨b2, hb2⟩ : ∃ b2, b1 - a2 = b2 := ⟨_, rfl⟩
        rw [hb1, hb2] at hx
        have e1 : ((n0 : Nat) : Int) - ((h1 : Nat) : Int) = ((r1 : Nat) : Int) := by omega
        have e2 : ((r1 : Nat) : Int) - 1 = ((rs : Nat) : Int) := by omega
        have w1 := wrap_nat r1 (by omega)
        have w2 := wrap_nat rs (by omega)
        have HL1 := hid (show IntKind.i64.wrap (((l0 : Nat) : Int) - 1) = ((l1 : Nat) : Int) by rw [show ((l0 : Nat) : Int) - 1 = ((l1 : Nat) : Int) by omega]; exact wrap_nat l1 (by omega))
        have HN1 := hid (show IntKind.i64.wrap (((n0 : Nat) : Int) - 1) = ((n1 : Nat) : Int) by rw [show ((n0 : Nat) : Int) - 1 = ((n1 : Nat) : Int) by omega]; exact wrap_nat n1 (by omega))
        have HB1 := hid (show IntKind.i64.wrap (((n1 : Nat) : Int) - ((a1 : Nat) : Int)) = ((b1 : Nat) : Int) by rw [show ((n1 : Nat) : Int) - ((a1 : Nat) : Int) = ((b1 : Nat) : Int) by omega]; exact wrap_nat b1 (by omega))
        have HB2 := hid (show IntKind.i64.wrap (((b1 : Nat) : Int) - ((a2 : Nat) : Int)) = ((b2 : Nat) : Int) by rw [show ((b1 : Nat) : Int) - ((a2 : Nat) : Int) = ((b2 : Nat) : Int) by omega]; exact wrap_nat b2 (by omega))
        have hdr : Below wr.heap.size wr wr.drew := ⟨rfl, rfl, rfl, Nat.le_refl _, fun _ _ => rfl⟩
        obtain ⟨fn, tmps, assign, body, hy, hR⟩ := HY.out _ _ _ (HJ.out _ _ _ hj hdr) hnx
        rw [hst] at hR
        rw [hx] at hy
        simp only [brEnc, encS, encT, encA] at hy
        rw [show (((1 : Nat) : Int)) = 1 from rfl] at hy
        have HA := hid (hA.below hdr)
        have HR := hid hR
        clear hR hA hx hnx hst hj hi hlf hb1 hb2 hn1 hr1 hrs hl1 ha1 ha2 hz hh1 hm
        generalize h1 + 1 = h2 at *
        gi_wp2_with fail
        refine wpIn_quiet_tail (lets_wide) 19 (by kernel_rfl) (by kernel_rfl) (by kernel_rfl) (fun V => V = wr.drew) (rfl) ?_
        simp only [List.take_succ_cons, List.take_zero, List.drop_succ_cons, List.drop_zero]
        refine qvalK (.func (.yield l) #[] #[]) rfl (fun W hW => by rfl) (fun K hK => ?_)
        go_simp
        refine hK _ ?_
        clear hK K
        refine qvalK (.pointer (some ⟨bs, 0, none⟩)) rfl (fun W hW => by go_simp) (fun K hK => ?_)
        go_simp
        refine hK _ ?_
        clear hK K
        refine qvalK (.int .i64 ((l0 : Nat) : Int)) rfl (fun W hW => by subst hW; have hc := c0; go_simp) (fun K hK => ?_)
        go_simp
        refine hK _ ?_
        clear hK K
        refine qvalK (.int .i64 ((l1 : Nat) : Int)) rfl (fun W hW => by go_simp; exact HL1.out) (fun K hK => ?_)
        go_simp
        refine hK _ ?_
        clear hK K
        refine qvalK (.pointer (some ⟨bs, 1, none⟩)) rfl (fun W hW => by go_simp) (fun K hK => ?_)
        go_simp
        refine hK _ ?_
        clear hK K
        refine qvalK (.int .i64 ((n0 : Nat) : Int)) rfl (fun W hW => by subst hW; have hc := c1; go_simp) (fun K hK => ?_)
        go_simp
        refine hK _ ?_
        clear hK K
        refine qvalK (.int .i64 ((n1 : Nat) : Int)) rfl (fun W hW => by go_simp; exact HN1.out) (fun K hK => ?_)
        go_simp
        refine hK _ ?_
        clear hK K
        refine qvalK (.int .i64 ((h1 : Nat) : Int)) rfl (fun W hW => by rfl) (fun K hK => ?_)
        go_simp
        refine hK _ ?_
        clear hK K
        refine qvalK (.pointer (some ⟨bh, 5, none⟩)) rfl (fun W hW => by go_simp) (fun K hK => ?_)
        go_simp
        refine hK _ ?_
        clear hK K
        refine qvalK (.int .i64 ((gr : Nat) : Int)) rfl (fun W hW => by subst hW; have hc := c5; go_simp) (fun K hK => ?_)
        go_simp
        refine hK _ ?_
        clear hK K
        refine qcallK (.int .i64 ((a1 : Nat) : Int)) 103 #[.int .i64 ((h1 : Nat) : Int), .int .i64 ((gr : Nat) : Int)] rfl (fun W => by kernel_rfl) (fun W hW => by subst hW; exact (HA1.out _).mono fun _ _ h => ⟨h.1, h.2.symm⟩) (fun K hK => ?_)
        go_simp
        refine hK _ ?_
        clear hK K
        refine qvalK (.int .i64 ((b1 : Nat) : Int)) rfl (fun W hW => by go_simp; exact HB1.out) (fun K hK => ?_)
        go_simp
        refine hK _ ?_
        clear hK K
        refine qvalK (.int .i64 ((rs : Nat) : Int)) rfl (fun W hW => by rfl) (fun K hK => ?_)
        go_simp
        refine hK _ ?_
        clear hK K
        refine qvalK (.pointer (some ⟨bh, 5, none⟩)) rfl (fun W hW => by go_simp) (fun K hK => ?_)
        go_simp
        refine hK _ ?_
        clear hK K
        refine qvalK (.int .i64 ((gr : Nat) : Int)) rfl (fun W hW => by subst hW; have hc := c5; go_simp) (fun K hK => ?_)
        go_simp
        refine hK _ ?_
        clear hK K
        refine qcallK (.int .i64 ((a2 : Nat) : Int)) 103 #[.int .i64 ((rs : Nat) : Int), .int .i64 ((gr : Nat) : Int)] rfl (fun W => by kernel_rfl) (fun W hW => by subst hW; exact (HA2.out _).mono fun _ _ h => ⟨h.1, h.2.symm⟩) (fun K hK => ?_)
        go_simp
        refine hK _ ?_
        clear hK K
        refine qvalK (.int .i64 ((b2 : Nat) : Int)) rfl (fun W hW => by go_simp; exact HB2.out) (fun K hK => ?_)
        go_simp
        refine hK _ ?_
        clear hK K
        refine qvalK (.agg #[.int .i64 ((l1 : Nat) : Int), .int .i64 ((b2 : Nat) : Int)]) rfl (fun W hW => by go_simp) (fun K hK => ?_)
        go_simp
        refine hK _ ?_
        clear hK K
        refine qvalK (.iface 102 (.agg #[.int .i64 ((l1 : Nat) : Int), .int .i64 ((b2 : Nat) : Int)])) rfl (fun W hW => by go_simp) (fun K hK => ?_)
        go_simp
        refine hK _ ?_
        clear hK K
        refine wpQuiet_nil ?_
        intro V hW
        subst hW
        clear HL1 HN1 HB1 HB2 HA1 HA2
        gi_wp2_with fail
        refine HR.out.mono ?_
        clear HR HY HJ hy
        rintro e w3 (⟨rfl, hJ3, hk3, -⟩ | ⟨rfl, hJ3, -⟩)
        · have HA3 := hid (HA.out.kept (fun b h => .inl h) (.inr hs0) (.inr hs1) hk3)
          have HJ3 := hid hJ3
          clear hJ3 hk3 HA c0 c1 c5
          gi_wp2_with fail
          go_roundw
          case rel => exact ⟨i + 1, by omega, by rw [HEV.out], HA3.out, HJ3.out⟩
          case measure => have := HEV.out; simp [intOf]; omega
        · have HJ3 := hid hJ3
          clear hJ3 HA c0 c1 c5
          gi_wp2_with fail
          refine bodyPost_ret (results_none rfl _ _ _) rfl ?_
          exact ⟨⟨_, rfl⟩, .stop _ HJ3.out⟩
      · have hi2 : i = m := by omega
        rw [hh1]
        have hle : decide (((h1 : Nat) : Int) ≤ z) = false := by simp; omega
        have hle' : ¬ ((h1 : Nat) : Int) ≤ z := by omega
        have hfin : Lst.take i = Lst := by rw [hi2, ← HLEN.out]; exact List.take_length
        rw [hfin] at hj
        have HJ0 := hid hj
        clear hj hA hfin hi2 hh1 hm
        gi_wp2_with fail
        go_end0
        exact ⟨⟨_, rfl⟩, .all Lst rfl HJ0.out⟩
end Go.Proofs.Ytmjnelkeiogdcaa
/- Walks of package hand: the branches of cards that are drawn. -/
namespace Go.Proofs.Ytmjnelkeiogdcaa
open Go Go.RowKit Go.Shelf
set_option maxRecDepth 100000

theorem range_split (m i : Nat) (h : i < m) : ∃ rest, List.range m = List.range i ++ i :: rest := by
  refine ⟨(List.range m).drop (i + 1), ?_⟩
  have h1 : (List.range m).take i = List.range i := by rw [List.take_range]; congr 1; omega
  have h2 : (List.range m).drop i = i :: (List.range m).drop (i + 1) := by
    rw [List.drop_eq_getElem_cons (by simpa using h)]
    simp
  rw [← h1, ← h2, List.take_append_drop]
theorem bits_nat32 (a : Nat) (ha : a < 4294967296) : (BitVec.ofInt 32 ((a : Nat) : Int)).toNat = a := by
  rw [BitVec.ofInt_natCast, BitVec.toNat_ofNat]
  exact Nat.mod_eq_of_lt ha
theorem wrap_nat32 (a : Nat) (h : a < 4294967296) : IntKind.u32.wrap (a : Int) = a := by
  show ((a : Int) % 4294967296) = a
  omega
theorem u32_and (a b : Nat) (ha : a < 4294967296) (hb : b < 4294967296) : bits .and .u32 (a : Int) (b : Int) = ((a &&& b : Nat) : Int) := by
  show IntKind.u32.wrap (((BitVec.ofInt 32 (a : Int) &&& BitVec.ofInt 32 (b : Int)).toNat : Nat) : Int) = _
  rw [BitVec.toNat_and, bits_nat32 a ha, bits_nat32 b hb]
  exact wrap_nat32 _ (Nat.lt_of_le_of_lt Nat.and_le_left ha)
theorem u32_or (a b : Nat) (ha : a < 4294967296) (hb : b < 4294967296) : bits .or .u32 (a : Int) (b : Int) = ((a ||| b : Nat) : Int) := by
  show IntKind.u32.wrap (((BitVec.ofInt 32 (a : Int) ||| BitVec.ofInt 32 (b : Int)).toNat : Nat) : Int) = _
  rw [BitVec.toNat_or, bits_nat32 a ha, bits_nat32 b hb]
  exact wrap_nat32 _ (Nat.or_lt_two_pow (n := 32) ha hb)
theorem gone_bit (g i : Nat) (hg : g < 4294967296) : (bits .and .u32 (((g : Nat) : Int) / 2 ^ i) 1 == 1) = g.testBit i := by
  have e1 : ((g : Nat) : Int) / 2 ^ i = ((g / 2 ^ i : Nat) : Int) := by push_cast; rfl
  have hlt : g / 2 ^ i < 4294967296 := Nat.lt_of_le_of_lt (Nat.div_le_self _ _) hg
  rw [e1, show (1 : Int) = ((1 : Nat) : Int) from rfl, u32_and _ 1 hlt (by omega), Nat.and_one_is_mod, Nat.testBit_eq_decide_div_mod_eq]
  have := Nat.mod_lt (g / 2 ^ i) (show 0 < 2 by omega)
  rw [Bool.eq_iff_iff]
  simp
  omega
theorem shr_bit (g i : Nat) : g / 2 ^ i % 2 = if g.testBit i then 1 else 0 := by
  rw [Nat.testBit_eq_decide_div_mod_eq]
  have : g / 2 ^ i % 2 < 2 := Nat.mod_lt _ (by omega)
  split
  · rename_i h; simpa using h
  · rename_i h
    have : ¬ g / 2 ^ i % 2 = 1 := by simpa using h
    omega
attribute [local go_sem] Oper.semAt_some
set_option maxHeartbeats 2000000 in
theorem drawn1_seq (n : Nat) (hn : 1 ≤ n) (N bs bh B0 B1 : Nat) (hs0 : B0 ≤ bs ∧ bs < B1) (hs1 : B0 ≤ bh ∧ bh < B1) (H : HV) (fv cv : Value) (l0 g0 k0 : Nat) (hF : Fit H (.drawn l0 g0 k0)) (w : World) (hw : BrAt w N bs bh H fv cv (.drawn l0 g0 k0)) :
    SeqG Fence.wide n Try.prog 106 #[.pointer (some ⟨bh, 0, none⟩), .pointer (some ⟨bs, 0, none⟩)] brEnc (fun _ => SBr N B0 B1) (Nxt (brs H (.drawn l0 g0 k0))) (fun xs => xs = brs H (.drawn l0 g0 k0)) w := by
  intro l J Jx W hW hJ hJx hY h0
  have hA := hw.below hW
  obtain ⟨Lst, hq⟩ : ∃ Lst, brs H (.drawn l0 g0 k0) = Lst := ⟨_, rfl⟩
  rw [hq] at hY ⊢
  have HY := hid hY
  have HJ := hid hJ
  have HKD := hid hF.2
  obtain ⟨hl4, hg20, hk, hm20, hcs⟩ := hF.1
  refine callsIn_of_wp Try.func106 rfl trivial ?_ rfl
  simp only [Try.ntmps106, List.size_toArray, List.length_cons, List.length_nil, Nat.reduceAdd, Nat.reduceSub, Array.replicate_succ, Array.replicate_zero, List.push_toArray, List.append_toArray, List.nil_append, List.cons_append]
  obtain ⟨p, c, rfl, -⟩ := hA.hand.cards (.inl HKD.out)
  have c7 : W.cell? ⟨bh, 7, none⟩ = some (.slice p H.cards.length c) := hA.hcell 7 rfl
  obtain ⟨m, hm⟩ : ∃ m, H.cards.length = m := ⟨_, rfl⟩
  obtain ⟨F, hF⟩ : ∃ F : Nat → Nat × St, F = fun i => (1, .drawn (l0 - 1) (g0 ||| 2 ^ i) (k0 * 8 + H.cards.getD i 0)) := ⟨_, rfl⟩
  obtain ⟨tk, htk⟩ : ∃ tk : Nat → Bool, tk = fun i => decide (l0 ≠ 0) && !g0.testBit i := ⟨_, rfl⟩
  have hL : Lst = ((List.range m).filter tk).map F := by
    subst hq hm hF htk
    unfold brs
    by_cases h : l0 = 0
    · simp [h]
    · simp [h]
  have HM := hid hm
  have HCS := hid hcs
  have HA := hid hA
  have HL := hid hL
  have HF := hid hF
  have HTK := hid htk
  rw [hm] at c7 hm20
  clear hY hJ hw hA hm hq hcs hL hF htk
  gi_wp2_with fail
  gi_loopw [9] (fun ix wr => ∃ i : Nat, i ≤ m ∧ ix = .int .i64 i ∧ BrAt wr N bs bh H fv (.slice p H.cards.length c) (.drawn l0 g0 k0) ∧ J (((List.range i).filter tk).map F) wr) (fun ix _ => m - (intOf ix).toNat)
  case atStart => exact ⟨0, by omega, rfl, HA.out, by simpa using h0⟩
  case round =>
    clear h0 HA c7
    obtain ⟨i, hi, rfl, hA, hj⟩ := hrel
    by_cases hlt : i < m
    · have hlt' : ((i : Nat) : Int) < m := by omega
      have hi0 : (0 : Int) ≤ i := by omega
      have hi64 : ((i : Nat) : Int) ≤ 64 := by omega
      have hif : i < H.cards.length := by rw [HM.out]; exact hlt
      obtain ⟨p', c', hv', hc'⟩ := hA.hand.cards (.inl HKD.out)
      injection hv' with ep _ ec
      subst ep
      subst ec
      obtain ⟨b, o, rfl, hbN, f0⟩ := hc' i hif
      have hb1 := HCS.out _ (List.getElem_mem hif)
      have hgd : H.cards.getD i 0 = H.cards[i] := by simp [hif]
      have hFi : F i = (1, .drawn (l0 - 1) (g0 ||| 2 ^ i) (k0 * 8 + H.cards[i])) := by rw [HF.out]; simp only [hgd]
      generalize H.cards[i] = v at *
      have c0 : wr.cell? ⟨bs, 0, none⟩ = some (.int .i64 ((l0 : Nat) : Int)) := hA.scell 0 rfl
      have c1 : wr.cell? ⟨bs, 1, none⟩ = some (.int .u32 ((g0 : Nat) : Int)) := hA.scell 1 rfl
      have c2 : wr.cell? ⟨bs, 2, none⟩ = some (.int .i64 ((k0 : Nat) : Int)) := hA.scell 2 rfl
      have hsuc : List.range (i + 1) = List.range i ++ [i] := List.range_succ
      by_cases hz : l0 = 0
      · subst hz
        have htf : tk i = false := by rw [HTK.out]; simp
        have HJ0 := hid (show J (((List.range (i + 1)).filter tk).map F) wr by rw [hsuc]; simpa [htf] using hj)
        have HA := hid hA
        clear hA hj hc' hi hFi hgd hsuc htf HF
        gi_wp2_with fail
        go_roundw
        case rel => exact ⟨i + 1, by omega, by go_num, HA.out, HJ0.out⟩
        case measure => simp [intOf]; omega
      · have hz' : (((l0 : Nat) : Int) == 0) = false := by simp; exact hz
        have hgb := gone_bit g0 i (by omega)
        cases hb : g0.testBit i with
        | true =>
          rw [hb] at hgb
          have htf : tk i = false := by rw [HTK.out]; simp [hb]
          have HJ0 := hid (show J (((List.range (i + 1)).filter tk).map F) wr by rw [hsuc]; simpa [htf] using hj)
          have HA := hid hA
          clear hA hj hc' hi hFi hgd hsuc htf HF hb
          gi_wp2_with fail
          go_roundw
          case rel => exact ⟨i + 1, by omega, by go_num, HA.out, HJ0.out⟩
          case measure => simp [intOf]; omega
        | false =>
          rw [hb] at hgb
          have htf : tk i = true := by rw [HTK.out]; simp [hb, hz]
          obtain ⟨rest, hrest⟩ := range_split m i hlt
          have hnx : Nxt Lst (((List.range i).filter tk).map F) (F i) wr := ⟨(rest.filter tk).map F, by rw [HL.out, hrest]; simp [htf]⟩
          have hst : ((List.range i).filter tk).map F ++ [F i] = ((List.range (i + 1)).filter tk).map F := by rw [hsuc]; simp [htf]
          have hp20 : 2 ^ i < 2 ^ 20 := Nat.pow_lt_pow_right (by omega) (by omega)
          have hor : g0 ||| 2 ^ i < 4294967296 := Nat.lt_of_lt_of_le (Nat.or_lt_two_pow (n := 20) hg20 hp20) (by decide)
          have hk8 : k0 < 32768 := Nat.lt_of_lt_of_le hk (Nat.pow_le_pow_right (by omega) (show 5 - l0 ≤ 5 by omega))
          obtain ⟨l1, hl1⟩ : ∃ l1, l0 - 1 = l1 := ⟨_, rfl⟩
          obtain ⟨k9, hk9⟩ : ∃ k9, k0 * 8 + v = k9 := ⟨_, rfl⟩
          obtain ⟨k8, hk88⟩ : ∃ k8, k0 * 8 = k8 := ⟨_, rfl⟩
          have HG1 := hid (u32_or g0 (2 ^ i) (by omega) (by omega))
          have HP2 := hid (show IntKind.u32.wrap ((2 : Int) ^ i) = ((2 ^ i : Nat) : Int) by rw [show (2 : Int) ^ i = ((2 ^ i : Nat) : Int) by push_cast; rfl]; exact wrap_nat32 _ (by omega))
          rw [hl1, hk9] at hFi
          generalize g0 ||| 2 ^ i = g1 at *
          generalize 2 ^ i = p2 at *
          have HL1 := hid (show IntKind.i64.wrap (((l0 : Nat) : Int) - 1) = ((l1 : Nat) : Int) by rw [show ((l0 : Nat) : Int) - 1 = ((l1 : Nat) : Int) by omega]; exact wrap_nat l1 (by omega))
          have HK8 := hid (show IntKind.i64.wrap (((k0 : Nat) : Int) * 8) = ((k8 : Nat) : Int) by rw [show ((k0 : Nat) : Int) * 8 = ((k8 : Nat) : Int) by omega]; exact wrap_nat k8 (by omega))
          have HK9 := hid (show IntKind.i64.wrap (((k8 : Nat) : Int) + ((v : Nat) : Int)) = ((k9 : Nat) : Int) by rw [show ((k8 : Nat) : Int) + ((v : Nat) : Int) = ((k9 : Nat) : Int) by omega]; exact wrap_nat k9 (by omega))
          have hdr : Below wr.heap.size wr wr.drew := ⟨rfl, rfl, rfl, Nat.le_refl _, fun _ _ => rfl⟩
          obtain ⟨fn, tmps, assign, body, hy, hR⟩ := HY.out _ _ _ (HJ.out _ _ _ hj hdr) hnx
          rw [hst] at hR
          rw [hFi] at hy
          simp only [brEnc, encS, encT, encA] at hy
          rw [show (((1 : Nat) : Int)) = 1 from rfl] at hy
          have HA := hid (hA.below hdr)
          have HR := hid hR
          clear hR hA hFi hnx hst hj hi hc' hgd hsuc htf HF hrest hp20 hor hk8 hl1 hk9 hk88 hz hk hb
          gi_wp2_with fail
          refine wpIn_quiet_tail (lets_wide) 16 (by kernel_rfl) (by kernel_rfl) (by kernel_rfl) (fun V => V = wr.drew) (rfl) ?_
          simp only [List.take_succ_cons, List.take_zero, List.drop_succ_cons, List.drop_zero]
          refine qvalK (.func (.yield l) #[] #[]) rfl (fun W hW => by rfl) (fun K hK => ?_)
          go_simp
          refine hK _ ?_
          clear hK K
          refine qvalK (.pointer (some ⟨bs, 0, none⟩)) rfl (fun W hW => by go_simp) (fun K hK => ?_)
          go_simp
          refine hK _ ?_
          clear hK K
          refine qvalK (.int .i64 ((l0 : Nat) : Int)) rfl (fun W hW => by subst hW; have hc := c0; go_simp) (fun K hK => ?_)
          go_simp
          refine hK _ ?_
          clear hK K
          refine qvalK (.int .i64 ((l1 : Nat) : Int)) rfl (fun W hW => by go_simp; exact HL1.out) (fun K hK => ?_)
          go_simp
          refine hK _ ?_
          clear hK K
          refine qvalK (.pointer (some ⟨bs, 1, none⟩)) rfl (fun W hW => by go_simp) (fun K hK => ?_)
          go_simp
          refine hK _ ?_
          clear hK K
          refine qvalK (.int .u32 ((g0 : Nat) : Int)) rfl (fun W hW => by subst hW; have hc := c1; go_simp) (fun K hK => ?_)
          go_simp
          refine hK _ ?_
          clear hK K
          refine qvalK (.int .i64 ((i : Nat) : Int)) rfl (fun W hW => by rfl) (fun K hK => ?_)
          go_simp
          refine hK _ ?_
          clear hK K
          refine qvalK (.int .u32 ((p2 : Nat) : Int)) rfl (fun W hW => by go_simp; exact HP2.out) (fun K hK => ?_)
          go_simp
          refine hK _ ?_
          clear hK K
          refine qvalK (.int .u32 ((g1 : Nat) : Int)) rfl (fun W hW => by go_simp; exact HG1.out) (fun K hK => ?_)
          go_simp
          refine hK _ ?_
          clear hK K
          refine qvalK (.pointer (some ⟨bs, 2, none⟩)) rfl (fun W hW => by go_simp) (fun K hK => ?_)
          go_simp
          refine hK _ ?_
          clear hK K
          refine qvalK (.int .i64 ((k0 : Nat) : Int)) rfl (fun W hW => by subst hW; have hc := c2; go_simp) (fun K hK => ?_)
          go_simp
          refine hK _ ?_
          clear hK K
          refine qvalK (.int .i64 ((k8 : Nat) : Int)) rfl (fun W hW => by go_simp; exact HK8.out) (fun K hK => ?_)
          go_simp
          refine hK _ ?_
          clear hK K
          refine qvalK (.int .i64 ((v : Nat) : Int)) rfl (fun W hW => by rfl) (fun K hK => ?_)
          go_simp
          refine hK _ ?_
          clear hK K
          refine qvalK (.int .i64 ((k9 : Nat) : Int)) rfl (fun W hW => by go_simp; exact HK9.out) (fun K hK => ?_)
          go_simp
          refine hK _ ?_
          clear hK K
          refine qvalK (.agg #[.int .i64 ((l1 : Nat) : Int), .int .u32 ((g1 : Nat) : Int), .int .i64 ((k9 : Nat) : Int)]) rfl (fun W hW => by go_simp) (fun K hK => ?_)
          go_simp
          refine hK _ ?_
          clear hK K
          refine qvalK (.iface 105 (.agg #[.int .i64 ((l1 : Nat) : Int), .int .u32 ((g1 : Nat) : Int), .int .i64 ((k9 : Nat) : Int)])) rfl (fun W hW => by go_simp) (fun K hK => ?_)
          go_simp
          refine hK _ ?_
          clear hK K
          refine wpQuiet_nil ?_
          intro V hW
          subst hW
          clear HL1 HK8 HK9 HG1 HP2
          gi_wp2_with fail
          refine HR.out.mono ?_
          clear HR HY HJ hy
          rintro e w3 (⟨rfl, hJ3, hk3, -⟩ | ⟨rfl, hJ3, -⟩)
          · have HA3 := hid (HA.out.kept (fun b h => .inl h) (.inr hs0) (.inr hs1) hk3)
            have HJ3 := hid hJ3
            clear hJ3 hk3 HA c0 c1 c2 f0
            gi_wp2_with fail
            go_roundw
            case rel => exact ⟨i + 1, by omega, by go_num, HA3.out, HJ3.out⟩
            case measure => simp [intOf]; omega
          · have HJ3 := hid hJ3
            clear hJ3 HA c0 c1 c2 f0
            gi_wp2_with fail
            refine bodyPost_ret (results_none rfl _ _ _) rfl ?_
            exact ⟨⟨_, rfl⟩, .stop _ HJ3.out⟩
    · have hge : ¬ ((i : Nat) : Int) < m := by omega
      have hi2 : i = m := by omega
      rw [hi2, ← HL.out] at hj
      have HJ0 := hid hj
      clear hj hi2
      gi_wp2_with fail
      go_end0
      exact ⟨⟨_, rfl⟩, .all Lst rfl HJ0.out⟩
end Go.Proofs.Ytmjnelkeiogdcaa
/- Walks of package hand: branches and outcomes of a state, whatever its kind. -/
namespace Go.Proofs.Ytmjnelkeiogdcaa
open Go Go.RowKit Go.Shelf
set_option maxRecDepth 100000

def brF : St → FuncId
  | .thrown _ _ => 94
  | .marked _ => 97
  | .divided _ _ => 100
  | .drawn _ _ _ => 104
  | .cut _ => 107
def brC : St → FuncId
  | .thrown _ _ => 96
  | .marked _ => 99
  | .divided _ _ => 102
  | .drawn _ _ _ => 106
  | .cut _ => 109
def outF : St → FuncId
  | .thrown _ _ => 95
  | .marked _ => 98
  | .divided _ _ => 101
  | .drawn _ _ _ => 105
  | .cut _ => 108
def brL : St → Nat → Nat → Array Value
  | .thrown _ _, bs, bh => #[.pointer (some ⟨bs, 0, none⟩), .pointer (some ⟨bh, 0, none⟩)]
  | .marked _, bs, bh => #[.pointer (some ⟨bh, 0, none⟩), .pointer (some ⟨bs, 0, none⟩)]
  | .divided _ _, bs, bh => #[.pointer (some ⟨bs, 0, none⟩), .pointer (some ⟨bh, 0, none⟩)]
  | .drawn _ _ _, bs, bh => #[.pointer (some ⟨bh, 0, none⟩), .pointer (some ⟨bs, 0, none⟩)]
  | .cut _, bs, bh => #[.pointer (some ⟨bh, 0, none⟩), .pointer (some ⟨bs, 0, none⟩)]
theorem br_seq (n : Nat) (hn : 1 ≤ n) (N bs bh B0 B1 : Nat) (hs0 : B0 ≤ bs ∧ bs < B1) (hs1 : B0 ≤ bh ∧ bh < B1) (H : HV) (fv cv : Value) (s : St) (hF : Fit H s) (w : World) (hw : BrAt w N bs bh H fv cv s) :
    SeqG Fence.wide n Try.prog (brC s) (brL s bs bh) brEnc (fun _ => SBr N B0 B1) (Nxt (brs H s)) (fun xs => xs = brs H s) w := by
  cases s with
  | thrown l s => exact thrown1_seq n hn N bs bh B0 B1 hs0 hs1 H fv cv l s hF w hw
  | marked m => exact marked1_seq n hn N bs bh B0 B1 hs0 hs1 H fv cv m hF w hw
  | divided l k => exact divided1_seq n hn N bs bh B0 B1 hs0 hs1 H fv cv l k hF w hw
  | drawn l g k => exact drawn1_seq n hn N bs bh B0 B1 hs0 hs1 H fv cv l g k hF w hw
  | cut k => exact cut1_seq n hn N bs bh B0 B1 hs0 hs1 H fv cv k hF w hw
theorem meth_branches_thrown (n : Nat) (cs : Array Value) (w : World) : (method (n + 1) 98 (.agg cs) "astragal/hand.branches").run Try.prog w = .ok (94, .agg cs) w := by kernel_rfl
theorem meth_branches_marked (n : Nat) (cs : Array Value) (w : World) : (method (n + 1) 100 (.agg cs) "astragal/hand.branches").run Try.prog w = .ok (97, .agg cs) w := by kernel_rfl
theorem meth_branches_divided (n : Nat) (cs : Array Value) (w : World) : (method (n + 1) 102 (.agg cs) "astragal/hand.branches").run Try.prog w = .ok (100, .agg cs) w := by kernel_rfl
theorem meth_branches_drawn (n : Nat) (cs : Array Value) (w : World) : (method (n + 1) 105 (.agg cs) "astragal/hand.branches").run Try.prog w = .ok (104, .agg cs) w := by kernel_rfl
theorem meth_branches_cut (n : Nat) (cs : Array Value) (w : World) : (method (n + 1) 107 (.agg cs) "astragal/hand.branches").run Try.prog w = .ok (107, .agg cs) w := by kernel_rfl
theorem meth_outcome_thrown (n : Nat) (cs : Array Value) (w : World) : (method (n + 1) 98 (.agg cs) "astragal/hand.outcome").run Try.prog w = .ok (95, .agg cs) w := by kernel_rfl
theorem meth_outcome_marked (n : Nat) (cs : Array Value) (w : World) : (method (n + 1) 100 (.agg cs) "astragal/hand.outcome").run Try.prog w = .ok (98, .agg cs) w := by kernel_rfl
theorem meth_outcome_divided (n : Nat) (cs : Array Value) (w : World) : (method (n + 1) 102 (.agg cs) "astragal/hand.outcome").run Try.prog w = .ok (101, .agg cs) w := by kernel_rfl
theorem meth_outcome_drawn (n : Nat) (cs : Array Value) (w : World) : (method (n + 1) 105 (.agg cs) "astragal/hand.outcome").run Try.prog w = .ok (105, .agg cs) w := by kernel_rfl
theorem meth_outcome_cut (n : Nat) (cs : Array Value) (w : World) : (method (n + 1) 107 (.agg cs) "astragal/hand.outcome").run Try.prog w = .ok (108, .agg cs) w := by kernel_rfl
theorem inv_br {s : St} {hv : Array Value} {ts : Array TypeId} (ev : Operand → Value) (o : Oper) (rx hx : Operand) (ho : o.op = .call { callee := .invoke rx "astragal/hand.branches", args := #[hx], argTypes := ts }) (hr : ev rx = encS s) (hh : ev hx = .agg hv) (W : World) :
    (execOp ev o).run Try.prog W = .ok (.enter (brF s) #[.agg (encA s), .agg hv]) W := by
  cases s <;> simp [execOp, ho, hr, hh, encS, encT, encA, brF, go_sem, meth_branches_thrown, meth_branches_marked, meth_branches_divided, meth_branches_drawn, meth_branches_cut]
theorem inv_out {s : St} {hv : Array Value} {ts : Array TypeId} (ev : Operand → Value) (o : Oper) (rx hx : Operand) (ho : o.op = .call { callee := .invoke rx "astragal/hand.outcome", args := #[hx], argTypes := ts }) (hr : ev rx = encS s) (hh : ev hx = .agg hv) (W : World) :
    (execOp ev o).run Try.prog W = .ok (.enter (outF s) #[.agg (encA s), .agg hv]) W := by
  cases s <;> simp [execOp, ho, hr, hh, encS, encT, encA, outF, go_sem, meth_outcome_thrown, meth_outcome_marked, meth_outcome_divided, meth_outcome_drawn, meth_outcome_cut]
theorem below2 (W : World) (o1 o2 : Obj) : Below W.heap.size W ((W.alloc o1).alloc o2) := ((Below.refl _ _).alloc (Nat.le_refl _) _).alloc (by simp) _
theorem alloc2_first (W : World) (o1 o2 : Obj) : ((W.alloc o1).alloc o2).heap[W.heap.size]? = some o1 := (Below.heap_alloc (W.alloc o1) o2 _ (by simp)).trans (World.alloc_heap_new W o1)
theorem alloc2_second (W : World) (o1 o2 : Obj) : ((W.alloc o1).alloc o2).heap[W.heap.size + 1]? = some o2 := by
  have := World.alloc_heap_new (W.alloc o1) o2
  rwa [World.size_alloc] at this
/-- The branches of a state: the closure. -/
theorem branches_c (N : Nat) (H : HV) (fv cv : Value) (s : St) (W : World) (hH : HandAt W N H fv cv) :
    Calls Try.prog (brF s) #[.agg (encA s), .agg (handA H fv cv)] W fun e w' => e = .returned (.func (.func (brC s)) #[] (brL s W.heap.size (W.heap.size + 1))) ∧ Below W.heap.size W w' ∧ w'.heap.size = W.heap.size + 2 ∧ BrAt w' N W.heap.size (W.heap.size + 1) H fv cv s := by
  have key : ∀ w', w' = (W.alloc (.cells (encA s) (encT s))).alloc (.cells (handA H fv cv) 26) → Below W.heap.size W w' ∧ w'.heap.size = W.heap.size + 2 ∧ BrAt w' N W.heap.size (W.heap.size + 1) H fv cv s := by
    rintro w' rfl
    refine ⟨below2 _ _ _, by simp, alloc2_first _ _ _, alloc2_second _ _ _, hH.below ((below2 _ _ _).mono hH.le), hH.le⟩
  have KEY := hid key
  clear key hH
  cases s
  · simp only [encA, encT, brF, brC, brL] at KEY ⊢
    go_enter Try.func94, Try.ntmps94
    go_wp2_with fail
    go_ret
    exact ⟨rfl, KEY.out _ rfl⟩
  · simp only [encA, encT, brF, brC, brL] at KEY ⊢
    go_enter Try.func97, Try.ntmps97
    go_wp2_with fail
    go_ret
    exact ⟨rfl, KEY.out _ rfl⟩
  · simp only [encA, encT, brF, brC, brL] at KEY ⊢
    go_enter Try.func100, Try.ntmps100
    go_wp2_with fail
    go_ret
    exact ⟨rfl, KEY.out _ rfl⟩
  · simp only [encA, encT, brF, brC, brL] at KEY ⊢
    go_enter Try.func104, Try.ntmps104
    go_wp2_with fail
    go_ret
    exact ⟨rfl, KEY.out _ rfl⟩
  · simp only [encA, encT, brF, brC, brL] at KEY ⊢
    go_enter Try.func107, Try.ntmps107
    go_wp2_with fail
    go_ret
    exact ⟨rfl, KEY.out _ rfl⟩
/-- The outcome of a state. -/
theorem outcome_c (H : HV) (fv cv : Value) (s : St) (hF : Fit H s) (W : World) :
    Calls Try.prog (outF s) #[.agg (encA s), .agg (handA H fv cv)] W fun e w' => e = .returned (.int .i64 (outN H s)) ∧ Below W.heap.size W w' := by
  have hb : ∀ o1 o2, Below W.heap.size W ((W.alloc o1).alloc o2) := below2 W
  have HB := hid hb
  clear hb
  cases s with
  | thrown l s =>
    simp only [encA, outF, outN, handA]
    clear hF
    go_enter Try.func95, Try.ntmps95
    go_wp2_with fail
    go_ret
    exact ⟨rfl, HB.out _ _⟩
  | marked m =>
    have hm : m ≤ 1000 := hF.1.1
    have e1 : Int.tmod ((m : Nat) : Int) 2 = ((m % 2 : Nat) : Int) := by rw [Int.tmod_eq_emod_of_nonneg (by omega)]; push_cast; try rfl
    have hr : m % 2 < 2 := Nat.mod_lt _ (by omega)
    simp only [encA, outF, outN, handA]
    generalize m % 2 = r at *
    have w1 := wrap_nat r (by omega)
    clear hF
    go_enter Try.func98, Try.ntmps98
    go_wp2_with fail
    go_ret
    exact ⟨rfl, HB.out _ _⟩
  | divided l n =>
    obtain ⟨-, hn, hg2, hg8⟩ := hF.1
    have e1 : Int.tdiv ((n : Nat) : Int) ((H.group : Nat) : Int) = ((n / H.group : Nat) : Int) := by rw [Int.tdiv_eq_ediv_of_nonneg (by omega)]; push_cast; try rfl
    have hr : n / H.group ≤ n := Nat.div_le_self _ _
    have hne : (((H.group : Nat) : Int) == 0) = false := by simp; omega
    have hne' : ((H.group : Nat) : Int) ≠ 0 := by omega
    simp only [encA, outF, outN, handA]
    generalize n / H.group = r at *
    generalize H.group = gr at *
    have w1 := wrap_nat r (by omega)
    go_enter Try.func101, Try.ntmps101
    go_wp2_with fail
    go_ret
    exact ⟨rfl, HB.out _ _⟩
  | drawn l g k =>
    simp only [encA, outF, outN, handA]
    clear hF
    go_enter Try.func105, Try.ntmps105
    go_wp2_with fail
    go_ret
    exact ⟨rfl, HB.out _ _⟩
  | cut k =>
    simp only [encA, outF, outN, handA]
    clear hF
    go_enter Try.func108, Try.ntmps108
    go_wp2_with fail
    go_ret
    exact ⟨rfl, HB.out _ _⟩
end Go.Proofs.Ytmjnelkeiogdcaa
