/- Walks of package hand: the branches of a state. -/
import Derived.Test.YtmjnelkeiogdcaaHD
import Derived.Test.YtmjnelkeiogdcaaHM
import Derived.Test.YtmjnelkeiogdcaaSm
import Derived.Shelf.Abstract
import Derived.TacticsInMore
import Derived.LoopNIn
import Derived.LoopIn
import Derived.OwnWalkIn
import Derived.BigFrameIn
namespace Go.Proofs.Ytmjnelkeiogdcaa
open Go Go.RowKit Go.Shelf
set_option maxRecDepth 100000

def handA (H : HV) (fv cv : Value) : Array Value := #[.int .i64 ((H.kind : Nat) : Int), .int .i64 ((H.count : Nat) : Int), fv, .int .i64 H.lowI, .int .i64 H.highI, .int .i64 ((H.group : Nat) : Int), .int .i64 ((H.changes : Nat) : Int), cv]
/-- The lists of a hand lie below block N. -/
structure HandAt (W : World) (N : Nat) (H : HV) (fv cv : Value) : Prop where
  le : N ≤ W.heap.size
  faces : H.kind = 1 → ∃ p c, fv = .slice p H.faces.length c ∧ ∀ i (h : i < H.faces.length), ∃ b o, p = some ⟨b, o, none⟩ ∧ b < N ∧ W.cell? ⟨b, o + i * 2, none⟩ = some (.int .i64 ((H.faces[i].1 : Nat) : Int)) ∧ W.cell? ⟨b, o + i * 2 + 1, none⟩ = some (.int .i64 ((H.faces[i].2 : Nat) : Int))
  cards : H.kind = 4 ∨ H.kind = 5 → ∃ p c, cv = .slice p H.cards.length c ∧ ∀ i (h : i < H.cards.length), ∃ b o, p = some ⟨b, o, none⟩ ∧ b < N ∧ W.cell? ⟨b, o + i, none⟩ = some (.int .i64 ((H.cards[i] : Nat) : Int))
theorem cell_same {W W' : World} {b i : Nat} (h : W'.heap[b]? = W.heap[b]?) : W'.cell? ⟨b, i, none⟩ = W.cell? ⟨b, i, none⟩ := by
  simp [World.cell?, h]
theorem cell_book {W : World} {b i : Nat} {v : Value} (h : W.cell? ⟨b, i, none⟩ = some v) : ∃ o, W.heap[b]? = some o ∧ isBook o = false := by
  cases ho : W.heap[b]? with
  | none => simp [World.cell?, ho] at h
  | some o => refine ⟨o, rfl, ?_⟩; cases o <;> first | rfl | simp [World.cell?, ho] at h
theorem HandAt.keptF {W W' : World} {N : Nat} {H : HV} {fv cv : Value} (h : HandAt W N H fv cv) {S : Nat → Prop} (hS : ∀ b, b < N → S b) (hk : ∀ (b : Nat), S b → ∀ (o : Obj), W.heap[b]? = some o → isBook o = false → W'.heap[b]? = some o) (hs : N ≤ W'.heap.size) : HandAt W' N H fv cv := by
  have key : ∀ b i v, b < N → W.cell? ⟨b, i, none⟩ = some v → W'.cell? ⟨b, i, none⟩ = some v := fun b i v hb hc => by
    obtain ⟨o, ho, hbk⟩ := cell_book hc
    rw [cell_same ((hk b (hS b hb) o ho hbk).trans ho.symm)]
    exact hc
  refine ⟨hs, fun hk1 => ?_, fun hk1 => ?_⟩
  · obtain ⟨p, c, hv, hf⟩ := h.faces hk1
    refine ⟨p, c, hv, fun i hi => ?_⟩
    obtain ⟨b, o, e, hb, h1, h2⟩ := hf i hi
    exact ⟨b, o, e, hb, key _ _ _ hb h1, key _ _ _ hb h2⟩
  · obtain ⟨p', c', hv', hf'⟩ := h.cards hk1
    refine ⟨p', c', hv', fun i hi => ?_⟩
    obtain ⟨b, o, e, hb, h1⟩ := hf' i hi
    exact ⟨b, o, e, hb, key _ _ _ hb h1⟩
theorem HandAt.kept {W W' : World} {N : Nat} {H : HV} {fv cv : Value} (h : HandAt W N H fv cv) {S : Nat → Prop} (hS : ∀ b, b < N → S b) (hk : KeptS S W W') (hs : N ≤ W'.heap.size) : HandAt W' N H fv cv := h.keptF hS hk.app hs
theorem HandAt.below {W W' : World} {N : Nat} {H : HV} {fv cv : Value} (h : HandAt W N H fv cv) (hb : Below N W W') : HandAt W' N H fv cv :=
  h.keptF (S := fun b => b < N) (fun _ h => h) (fun b hlt o ho _ => (hb.block b hlt).trans ho) (Nat.le_trans h.le hb.size)
/-- A closure's boxes: the state, the hand. -/
structure BrAt (W : World) (N bs bh : Nat) (H : HV) (fv cv : Value) (s : St) : Prop where
  sb : W.heap[bs]? = some (.cells (encA s) (encT s) (0, 0))
  hb : W.heap[bh]? = some (.cells (handA H fv cv) 26 (0, 0))
  hand : HandAt W N H fv cv
  nb : N ≤ bs
theorem BrAt.kept {W W' : World} {N bs bh : Nat} {H : HV} {fv cv : Value} {s : St} (h : BrAt W N bs bh H fv cv s) {S : Nat → Prop} (hS : ∀ b, b < N → S b) (h1 : S bs) (h2 : S bh) (hk : KeptS S W W') : BrAt W' N bs bh H fv cv s :=
  have hx := hk bs h1 _ h.sb rfl
  ⟨hx, hk bh h2 _ h.hb rfl, h.hand.kept hS hk (Nat.le_trans h.nb (Nat.le_of_lt (heap_lt hx))), h.nb⟩
theorem BrAt.below {W W' : World} {N bs bh : Nat} {H : HV} {fv cv : Value} {s : St} (h : BrAt W N bs bh H fv cv s) (hb : Below W.heap.size W W') : BrAt W' N bs bh H fv cv s :=
  h.kept (S := fun _ => True) (fun _ _ => trivial) trivial trivial (KeptS.below hb)
theorem BrAt.hcell {W : World} {N bs bh : Nat} {H : HV} {fv cv : Value} {s : St} (h : BrAt W N bs bh H fv cv s) (i : Nat) {v : Value} (hv : (handA H fv cv)[i]? = some v) : W.cell? ⟨bh, i, none⟩ = some v := by
  rw [cell_of_row _ _ i _ _ (0, 0) h.hb, hv]
theorem BrAt.scell {W : World} {N bs bh : Nat} {H : HV} {fv cv : Value} {s : St} (h : BrAt W N bs bh H fv cv s) (i : Nat) {v : Value} (hv : (encA s)[i]? = some v) : W.cell? ⟨bs, i, none⟩ = some v := by
  rw [cell_of_row _ _ i _ _ (0, 0) h.sb, hv]
def SBr (N B0 B1 : Nat) : Nat → Prop := fun b => b < N ∨ B0 ≤ b ∧ b < B1
def brEnc (x : Nat × St) : Array Value := #[.int .i64 ((x.1 : Nat) : Int), encS x.2]
/-- x comes behind pre in the list. -/
def Nxt {α : Type} (L : List α) (pre : List α) (x : α) (_ : World) : Prop := ∃ rest, L = pre ++ x :: rest

attribute [local go_sem] Oper.semAt_some
set_option maxHeartbeats 1000000 in
theorem thrown1_seq (n : Nat) (hn : 1 ≤ n) (N bs bh B0 B1 : Nat) (hs0 : B0 ≤ bs ∧ bs < B1) (hs1 : B0 ≤ bh ∧ bh < B1) (H : HV) (fv cv : Value) (l0 s0 : Nat) (hF : Fit H (.thrown l0 s0)) (w : World) (hw : BrAt w N bs bh H fv cv (.thrown l0 s0)) :
    SeqG Fence.wide n Try.prog 96 #[.pointer (some ⟨bs, 0, none⟩), .pointer (some ⟨bh, 0, none⟩)] brEnc (fun _ => SBr N B0 B1) (Nxt (brs H (.thrown l0 s0))) (fun xs => xs = brs H (.thrown l0 s0)) w := by
  intro l J Jx W hW hJ hJx hY h0
  have hA := hw.below hW
  obtain ⟨Lst, hq⟩ : ∃ Lst, brs H (.thrown l0 s0) = Lst := ⟨_, rfl⟩
  rw [hq] at hY ⊢
  have HY := hid hY
  have HJ := hid hJ
  have HKD := hid hF.2
  obtain ⟨hl8, hs1000, hm20, hfs⟩ := hF.1
  refine callsIn_of_wp Try.func96 rfl trivial ?_ rfl
  simp only [Try.ntmps96, List.size_toArray, List.length_cons, List.length_nil, Nat.reduceAdd, Nat.reduceSub, Array.replicate_succ, Array.replicate_zero, List.push_toArray, List.append_toArray, List.nil_append, List.cons_append]
  obtain ⟨p, c, rfl, -⟩ := hA.hand.faces HKD.out
  have c0 : W.cell? ⟨bs, 0, none⟩ = some (.int .i64 ((l0 : Nat) : Int)) := hA.scell 0 rfl
  have c2 : W.cell? ⟨bh, 2, none⟩ = some (.slice p H.faces.length c) := hA.hcell 2 rfl
  obtain ⟨m, hm⟩ : ∃ m, H.faces.length = m := ⟨_, rfl⟩
  by_cases hz : l0 = 0
  · subst hz
    have : Lst = [] := by rw [← hq]; simp [brs]
    subst this
    clear hY hJ hw
    gi_wp2_with fail
    refine bodyPost_ret (results_none rfl _ _ _) rfl ?_
    exact ⟨⟨_, rfl⟩, .all [] rfl h0⟩
  · have hz' : (((l0 : Nat) : Int) == 0) = false := by simp; exact hz
    rw [hm] at hm20
    have hlen : Lst.length = m := by rw [← hq, ← hm]; simp [brs, hz]
    have hel : ∀ i (hi : i < Lst.length) (hi' : i < H.faces.length), Lst[i] = (H.faces[i].2, .thrown (l0 - 1) (s0 + H.faces[i].1)) := fun i hi hi' => by subst hq; simp [brs, hz]
    have HA := hid hA
    have HM := hid hm
    have HEL := hid hel
    have HLEN := hid hlen
    have HFS := hid hfs
    rw [hm] at c2
    clear hY hJ hw hA hm hel hlen hfs hq
    gi_wp2_with fail
    gi_loopw [12] (fun ix wr => ∃ i : Nat, i ≤ m ∧ ix = .int .i64 i ∧ BrAt wr N bs bh H (.slice p H.faces.length c) cv (.thrown l0 s0) ∧ J (Lst.take i) wr) (fun ix _ => m - (intOf ix).toNat)
    case atStart => exact ⟨0, by omega, rfl, HA.out, by simpa using h0⟩
    case round =>
      clear h0 HA c0 c2
      obtain ⟨i, hi, rfl, hA, hj⟩ := hrel
      by_cases hlt : i < m
      · have hlt' : ((i : Nat) : Int) < m := by omega
        have hi0 : (0 : Int) ≤ i := by omega
        have hif : i < H.faces.length := by rw [HM.out]; exact hlt
        have hil : i < Lst.length := by rw [HLEN.out]; exact hlt
        obtain ⟨p', c', hv', hc'⟩ := hA.hand.faces HKD.out
        injection hv' with ep _ ec
        subst ep
        subst ec
        obtain ⟨b, o, rfl, hbN, f0, f1⟩ := hc' i hif
        have hx := HEL.out i hil hif
        have hb1 := HFS.out _ (List.getElem_mem hif)
        have c0 : wr.cell? ⟨bs, 0, none⟩ = some (.int .i64 ((l0 : Nat) : Int)) := hA.scell 0 rfl
        have c1 : wr.cell? ⟨bs, 1, none⟩ = some (.int .i64 ((s0 : Nat) : Int)) := hA.scell 1 rfl
        have hN := hA.hand.le
        have hbsl := heap_lt hA.sb
        generalize H.faces[i].1 = v at *
        generalize H.faces[i].2 = wt at *
        have hnx : Nxt Lst (Lst.take i) Lst[i] wr := ⟨Lst.drop (i + 1), by rw [List.getElem_cons_drop, List.take_append_drop]⟩
        have hst : Lst.take i ++ [Lst[i]] = Lst.take (i + 1) := by rw [List.take_add_one, List.getElem?_eq_getElem hil]; rfl
        have HA := hid hA
        obtain ⟨sv, hsv⟩ : ∃ sv, s0 + v = sv := ⟨_, rfl⟩
        obtain ⟨l1, hl1⟩ : ∃ l1, l0 - 1 = l1 := ⟨_, rfl⟩
        rw [hsv, hl1] at hx
        have wv := wrap_nat sv (by omega)
        have wl := wrap_nat l1 (by omega)
        have el : ((l0 : Nat) : Int) - 1 = ((l1 : Nat) : Int) := by omega
        have es : ((s0 : Nat) : Int) + ((v : Nat) : Int) = ((sv : Nat) : Int) := by omega
        have HX := hid hx
        have hba : Below wr.heap.size wr (wr.alloc (.cells #[.int .i64 ((v : Nat) : Int), .int .i64 ((wt : Nat) : Int)] 50)) := (Below.refl _ _).alloc (Nat.le_refl _) _
        obtain ⟨fn, tmps, assign, body, hy, hR⟩ := HY.out _ _ _ (HJ.out _ _ _ hj hba) hnx
        rw [hst] at hR
        rw [hx] at hy
        simp only [brEnc, encS, encT, encA] at hy
        have HA := hid (HA.out.below hba)
        have HR := hid hR
        clear hsv hl1 hR
        clear hA hx hnx hst hj hc' hi
        gi_wp2_with fail
        refine HR.out.mono ?_
        clear HR HY HJ hy
        rintro e w3 (⟨rfl, hJ3, hk3, -⟩ | ⟨rfl, hJ3, -⟩)
        · have HA3 := hid (HA.out.kept (fun b h => .inl h) (.inr hs0) (.inr hs1) hk3)
          have HJ3 := hid hJ3
          clear hJ3 hk3 HA c0 c1 f0 f1
          gi_wp2_with fail
          go_roundw
          case rel => exact ⟨i + 1, by omega, by go_num, HA3.out, HJ3.out⟩
          case measure => simp [intOf]; omega
        · have HJ3 := hid hJ3
          clear hJ3 HA c0 c1 f0 f1
          gi_wp2_with fail
          refine bodyPost_ret (results_none rfl _ _ _) rfl ?_
          exact ⟨⟨_, rfl⟩, .stop _ HJ3.out⟩
      · have hge : ¬ ((i : Nat) : Int) < m := by omega
        obtain rfl : i = m := by omega
        have hfin : Lst.take i = Lst := by rw [← HLEN.out]; exact List.take_length
        rw [hfin] at hj
        have HJ0 := hid hj
        clear hj
        gi_wp2_with fail
        go_end0
        exact ⟨⟨_, rfl⟩, .all Lst rfl HJ0.out⟩
set_option maxHeartbeats 1000000 in
theorem marked1_seq (n : Nat) (hn : 1 ≤ n) (N bs bh B0 B1 : Nat) (hs0 : B0 ≤ bs ∧ bs < B1) (hs1 : B0 ≤ bh ∧ bh < B1) (H : HV) (fv cv : Value) (m0 : Nat) (hF : Fit H (.marked m0)) (w : World) (hw : BrAt w N bs bh H fv cv (.marked m0)) :
    SeqG Fence.wide n Try.prog 99 #[.pointer (some ⟨bh, 0, none⟩), .pointer (some ⟨bs, 0, none⟩)] brEnc (fun _ => SBr N B0 B1) (Nxt (brs H (.marked m0))) (fun xs => xs = brs H (.marked m0)) w := by
  intro l J Jx W hW hJ hJx hY h0
  have hA := hw.below hW
  obtain ⟨Lst, hq⟩ : ∃ Lst, brs H (.marked m0) = Lst := ⟨_, rfl⟩
  rw [hq] at hY ⊢
  have HY := hid hY
  have HJ := hid hJ
  have HKD := hid hF.2
  obtain ⟨hm1000, hlow, hhigh⟩ := hF.1
  refine callsIn_of_wp Try.func99 rfl trivial ?_ rfl
  simp only [Try.ntmps99, List.size_toArray, List.length_cons, List.length_nil, Nat.reduceAdd, Nat.reduceSub, Array.replicate_succ, Array.replicate_zero, List.push_toArray, List.append_toArray, List.nil_append, List.cons_append]
  have c0 : W.cell? ⟨bs, 0, none⟩ = some (.int .i64 ((m0 : Nat) : Int)) := hA.scell 0 rfl
  have c3 : W.cell? ⟨bh, 3, none⟩ = some (.int .i64 ((H.low : Nat) : Int)) := (hA.hcell 3 (v := .int .i64 H.lowI) rfl).trans (by rw [HKD.out.1])
  have HA := hid hA
  obtain ⟨lo, hlo⟩ : ∃ lo, H.low = lo := ⟨_, rfl⟩
  obtain ⟨hi', hhi⟩ : ∃ hi', H.high = hi' := ⟨_, rfl⟩
  have HLO := hid hlo
  have HHI := hid hhi
  rw [hlo] at c3 hlow
  rw [hhi] at hhigh
  by_cases hz : m0 = 0
  · subst hz
    obtain ⟨m, hm⟩ : ∃ m, hi' + 1 - lo = m := ⟨_, rfl⟩
    have hlen : Lst.length = m := by rw [← hq, ← hm, ← hlo, ← hhi]; simp [brs]
    have hel : ∀ i (hi : i < Lst.length), Lst[i] = (1, .marked (lo + i)) := fun i hi => by subst hq; subst hlo; simp [brs]
    have HEL := hid hel
    have HLEN := hid hlen
    clear hY hJ hw hA hel hlen hq hlo hhi
    gi_wp2_with fail
    gi_loopw [4] (fun ix wr => ∃ i : Nat, i ≤ m ∧ ix = .int .i64 ((lo + i : Nat) : Int) ∧ BrAt wr N bs bh H fv cv (.marked 0) ∧ J (Lst.take i) wr) (fun ix _ => lo + m - (intOf ix).toNat)
    case atStart => exact ⟨0, by omega, rfl, HA.out, by simpa using h0⟩
    case round =>
      clear h0 HA c0 c3
      obtain ⟨i, hi, rfl, hA, hj⟩ := hrel
      have c0 : wr.cell? ⟨bs, 0, none⟩ = some (.int .i64 (((0 : Nat)) : Int)) := hA.scell 0 rfl
      have c4 : wr.cell? ⟨bh, 4, none⟩ = some (.int .i64 ((H.high : Nat) : Int)) := (hA.hcell 4 (v := .int .i64 H.highI) rfl).trans (by rw [HKD.out.2])
      rw [HHI.out] at c4
      by_cases hlt : i < m
      · have hil : i < Lst.length := by rw [HLEN.out]; exact hlt
        have hx := HEL.out i hil
        have hnx : Nxt Lst (Lst.take i) Lst[i] wr := ⟨Lst.drop (i + 1), by rw [List.getElem_cons_drop, List.take_append_drop]⟩
        have hst : Lst.take i ++ [Lst[i]] = Lst.take (i + 1) := by rw [List.take_add_one, List.getElem?_eq_getElem hil]; rfl
        obtain ⟨v, hv⟩ : ∃ v, lo + i = v := ⟨_, rfl⟩
        rw [hv] at hx ⊢
        have hle : decide (((v : Nat) : Int) ≤ ((hi' : Nat) : Int)) = true := by simp; omega
        have hle' : ((v : Nat) : Int) ≤ ((hi' : Nat) : Int) := by omega
        have ev : ((v : Nat) : Int) + 1 = ((v + 1 : Nat) : Int) := by push_cast; rfl
        have ev2 : v + 1 = lo + (i + 1) := by omega
        have wv := wrap_nat (v + 1) (by omega)
        have HEV := hid ev2
        obtain ⟨fn, tmps, assign, body, hy, hR⟩ := HY.out _ _ _ hj hnx
        rw [hst] at hR
        rw [hx] at hy
        simp only [brEnc, encS, encT, encA] at hy
        rw [show (((1 : Nat) : Int)) = 1 from rfl] at hy
        have HA := hid hA
        have HR := hid hR
        clear hR hA hx hnx hst hj hi ev2
        generalize v + 1 = v1 at *
        gi_wp2_with fail
        refine HR.out.mono ?_
        clear HR HY HJ hy
        rintro e w3 (⟨rfl, hJ3, hk3, -⟩ | ⟨rfl, hJ3, -⟩)
        · have HA3 := hid (HA.out.kept (fun b h => .inl h) (.inr hs0) (.inr hs1) hk3)
          have HJ3 := hid hJ3
          clear hJ3 hk3 HA c0 c4
          gi_wp2_with fail
          go_roundw
          case rel => exact ⟨i + 1, by omega, by rw [HEV.out], HA3.out, HJ3.out⟩
          case measure => simp [intOf]; omega
        · have HJ3 := hid hJ3
          clear hJ3 HA c0 c4
          gi_wp2_with fail
          refine bodyPost_ret (results_none rfl _ _ _) rfl ?_
          exact ⟨⟨_, rfl⟩, .stop _ HJ3.out⟩
      · have hi2 : i = m := by omega
        subst hi2
        obtain ⟨v, hv⟩ : ∃ v, lo + i = v := ⟨_, rfl⟩
        rw [hv]
        have hle : decide (((v : Nat) : Int) ≤ ((hi' : Nat) : Int)) = false := by simp; omega
        have hle' : ¬ ((v : Nat) : Int) ≤ ((hi' : Nat) : Int) := by omega
        have hfin : Lst.take i = Lst := by rw [← HLEN.out]; exact List.take_length
        rw [hfin] at hj
        have HJ0 := hid hj
        clear hj hA
        gi_wp2_with fail
        go_end0
        exact ⟨⟨_, rfl⟩, .all Lst rfl HJ0.out⟩
  · have hz' : (((m0 : Nat) : Int) == 0) = false := by simp; exact hz
    have : Lst = [] := by rw [← hq]; simp [brs, hz]
    subst this
    clear hY hJ hw hq hA
    gi_wp2_with fail
    gi_loopw [4] (fun ix wr => W = wr) (fun ix _ => 0)
    case atStart => rfl
    case round =>
      subst hrel
      gi_wp2_with fail
      go_end0
      exact ⟨⟨_, rfl⟩, .all [] rfl h0⟩
end Go.Proofs.Ytmjnelkeiogdcaa
