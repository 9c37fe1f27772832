/- Count of valid sets. -/
import Derived.Test.YtphnibllfpkkkaaDoorW16
import Derived.Test.YtphnibllfpkkkaaDoorW6
import Derived.Test.YtphnibllfpkkkaaDoorW10
import Derived.RangeFuncNested
import Derived.RangeFuncCalls
import Derived.BigFrameIn
namespace Go.Proofs.YtphnibllfpkkkaaDoor
open Go Go.RowKit Go.Shelf
set_option maxRecDepth 100000

/-- Whether a chart has figures of the sets. -/
def okB (S : Nat → Nat) (n : Nat) : Bool := (List.range 16).all fun i => bitB (S i) (der (mths n) i)
theorem okB_iff (S : Nat → Nat) (n : Nat) : okB S n = true ↔ ∀ i, i < 16 → bitB (S i) (der (mths n) i) = true := by
  unfold okB
  rw [List.all_eq_true]
  simp
/-- The places that are asked, of the first k. -/
def askL (S : Nat → Nat) : Nat → List Int
  | 0 => []
  | k + 1 => if S k = 65535 then askL S k else askL S k ++ [((k : Nat) : Int)]
theorem askL_len (S : Nat → Nat) : ∀ k, (askL S k).length ≤ k
  | 0 => by simp [askL]
  | k + 1 => by
    have := askL_len S k
    rw [askL]; split
    · omega
    · simp; omega
theorem askL_mem (S : Nat → Nat) : ∀ k x, x ∈ askL S k ↔ ∃ i, i < k ∧ S i ≠ 65535 ∧ x = ((i : Nat) : Int)
  | 0, x => by simp [askL]
  | k + 1, x => by
    rw [askL]
    split
    · rename_i h
      rw [askL_mem S k x]
      constructor
      · rintro ⟨i, h1, h2, h3⟩; exact ⟨i, by omega, h2, h3⟩
      · rintro ⟨i, h1, h2, h3⟩
        refine ⟨i, ?_, h2, h3⟩
        have : i ≠ k := by rintro rfl; exact h2 h
        omega
    · rename_i h
      rw [List.mem_append, askL_mem S k x]
      constructor
      · rintro (⟨i, h1, h2, h3⟩ | h1)
        · exact ⟨i, by omega, h2, h3⟩
        · exact ⟨k, by omega, h, by simpa using h1⟩
      · rintro ⟨i, h1, h2, h3⟩
        by_cases e : i = k
        · subst e; exact .inr (by simpa using h3)
        · exact .inl ⟨i, by omega, h2, h3⟩
theorem bit_every (f : Nat) (hf : f < 16) : bitB 65535 f = true := by
  have : ∀ f : Fin 16, bitB 65535 f.1 = true := by decide
  exact this ⟨f, hf⟩
theorem okB_ask (S : Nat → Nat) (n : Nat) : okB S n = false ↔ ∃ i, i < 16 ∧ S i ≠ 65535 ∧ (!bitB (S i) (der (mths n) i)) = true := by
  have hd : ∀ i, i < 16 → der (mths n) i < 16 := der_lt (mths n) (fun i _ => mths_lt n i)
  constructor
  · intro h
    apply Classical.byContradiction
    intro hc
    have : okB S n = true := (okB_iff S n).2 fun i hi => by
      by_cases e : S i = 65535
      · rw [e]; exact bit_every _ (hd i hi)
      · cases hb : bitB (S i) (der (mths n) i)
        · exact absurd ⟨i, hi, e, by rw [hb]; rfl⟩ hc
        · rfl
    rw [this] at h; cases h
  · rintro ⟨i, hi, _, hb⟩
    cases h : okB S n
    · rfl
    · have := (okB_iff S n).1 h i hi
      rw [this] at hb; cases hb
/-- How many charts at some places of Gray's order are meant; the least number among them. -/
def cntL (S : Nat → Nat) (l : List Nat) : Nat := (l.filter fun x => okB S (gr x)).length
def leL (S : Nat → Nat) (l : List Nat) : Nat := l.foldl (fun m x => if okB S (gr x) then min m (gr x) else m) 65536
theorem cntL_snoc (S : Nat → Nat) (l : List Nat) (x : Nat) : cntL S (l ++ [x]) = cntL S l + if okB S (gr x) then 1 else 0 := by
  unfold cntL
  rw [List.filter_append, List.length_append]
  cases h : okB S (gr x) <;> simp [h]
theorem leL_snoc (S : Nat → Nat) (l : List Nat) (x : Nat) : leL S (l ++ [x]) = if okB S (gr x) then min (leL S l) (gr x) else leL S l := by
  unfold leL
  rw [List.foldl_append]; rfl
theorem leF (S : Nat → Nat) : ∀ (l : List Nat) (m : Nat), l.foldl (fun m x => if okB S (gr x) then min m (gr x) else m) m ≤ m ∧ (∀ x, x ∈ l → okB S (gr x) = true → l.foldl (fun m x => if okB S (gr x) then min m (gr x) else m) m ≤ gr x) ∧
    (l.foldl (fun m x => if okB S (gr x) then min m (gr x) else m) m = m ∨ ∃ x, x ∈ l ∧ okB S (gr x) = true ∧ l.foldl (fun m x => if okB S (gr x) then min m (gr x) else m) m = gr x)
  | [], m => ⟨Nat.le_refl _, (fun x h => by cases h), .inl rfl⟩
  | y :: l, m => by
    rw [List.foldl_cons]
    by_cases hy : okB S (gr y) = true
    · rw [if_pos hy]
      obtain ⟨h1, h2, h3⟩ := leF S l (min m (gr y))
      refine ⟨by omega, fun x hx ho => ?_, ?_⟩
      · rcases List.mem_cons.1 hx with rfl | hx
        · omega
        · exact h2 x hx ho
      · rcases h3 with h3 | ⟨x, hx, ho, e⟩
        · by_cases hm : m ≤ gr y
          · left; rw [h3]; omega
          · right; exact ⟨y, List.mem_cons_self, hy, by rw [h3]; omega⟩
        · right; exact ⟨x, List.mem_cons_of_mem _ hx, ho, e⟩
    · rw [if_neg hy]
      obtain ⟨h1, h2, h3⟩ := leF S l m
      refine ⟨h1, fun x hx ho => ?_, ?_⟩
      · rcases List.mem_cons.1 hx with rfl | hx
        · exact absurd ho hy
        · exact h2 x hx ho
      · rcases h3 with h3 | ⟨x, hx, ho, e⟩
        · exact .inl h3
        · exact .inr ⟨x, List.mem_cons_of_mem _ hx, ho, e⟩
theorem mem_gAll (x : Nat) : x ∈ gAll ↔ x < 65536 := by unfold gAll; exact List.mem_range
theorem cntL_pos (S : Nat → Nat) : 0 < cntL S gAll ↔ ∃ n, n < 65536 ∧ okB S n = true := by
  unfold cntL
  rw [List.length_pos_iff_exists_mem]
  constructor
  · rintro ⟨x, hx⟩
    rw [List.mem_filter, mem_gAll] at hx
    exact ⟨gr x, (gray_at x hx.1).1, hx.2⟩
  · rintro ⟨n, hn, ho⟩
    obtain ⟨_, h2, _, h4, _⟩ := gray_at n hn
    exact ⟨ungr n, by rw [List.mem_filter, mem_gAll]; exact ⟨h2, by simp only [h4]; exact ho⟩⟩
theorem leL_spec (S : Nat → Nat) (h : 0 < cntL S gAll) : okB S (leL S gAll) = true ∧ leL S gAll < 65536 ∧ ∀ n, n < 65536 → okB S n = true → leL S gAll ≤ n := by
  obtain ⟨n, hn, ho⟩ := (cntL_pos S).1 h
  obtain ⟨h1, h2, h3⟩ := leF S gAll 65536
  have hle : ∀ n, n < 65536 → okB S n = true → leL S gAll ≤ n := fun n hn ho => by
    obtain ⟨_, g2, _, g4, _⟩ := gray_at n hn
    have := h2 (ungr n) ((mem_gAll _).2 g2) (by rw [g4]; exact ho)
    rw [g4] at this; exact this
  have hlt : leL S gAll < 65536 := Nat.lt_of_le_of_lt (hle n hn ho) hn
  refine ⟨?_, hlt, hle⟩
  rcases h3 with h3 | ⟨x, hx, hox, e⟩
  · unfold leL at hlt; omega
  · unfold leL; rw [e]; exact hox
theorem leL_lt (S : Nat → Nat) (h : 0 < cntL S gAll) : leL S gAll < 65536 := (leL_spec S h).2.1
theorem cntL_le (S : Nat → Nat) (l : List Nat) : cntL S l ≤ l.length := List.length_filter_le _ _

set_option maxHeartbeats 400000 in
theorem containsAsk_nil (f : Value) (w : World) : Calls Tryd.prog 62 #[.slice none 0 0, f] w fun e w' => e = .returned (.bool false) ∧ ∃ m, w' = w.drewN m := by
  have hi : Calls Tryd.prog 78 #[.slice none 0 0, f] w fun e w' => e = .returned (.int .i64 (-1)) ∧ w = w' := by
    go_enter Tryd.func78, Tryd.ntmps78
    go_wp2
    go_loop [8] (fun i => i = .int .i64 0) (fun _ => 0)
    case atStart => rfl
    case round =>
      subst hrel
      go_wp2
      go_ret
      exact ⟨rfl, rfl⟩
  have H := hid hi
  clear hi
  go_enter Tryd.func62, Tryd.ntmps62
  go_wp2_with (go_at_call 78; refine H.out.mono ?_; rintro e w' ⟨rfl, rfl⟩)
  go_ret
  exact ⟨rfl, 0, rfl⟩
/-- The test of a word. -/
theorem ask_c (S : Nat → Nat) (hS : ∀ i, i < 16 → S i < 65536) (N B : Nat) (va : Value) (W : World) (hI : Ints W B va (askL S 16)) (Bs Bw : Nat) (hs : W.heap[Bs]? = some (.cells (irow 16 (cst S)) 78 (0, 0))) (hw : W.cell? ⟨Bw, 0, none⟩ = some (.int .u64 ((word N : Nat) : Int))) :
    Calls Tryd.prog 62 #[va, .func (.func 70) #[] #[.pointer (some ⟨Bs, 0, none⟩), .pointer (some ⟨Bw, 0, none⟩)]] W fun e w' => e = .returned (.bool (!okB S N)) ∧ ∃ m, w' = W.drewN m := by
  have hmem := askL_mem S 16
  have hlen := askL_len S 16
  have hb : (!okB S N) = true ↔ ∃ x : Nat, ((x : Nat) : Int) ∈ askL S 16 ∧ (!bitB (S x) (word N / 2 ^ (4 * x) % 16)) = true := by
    have h1 := okB_ask S N
    constructor
    · intro h
      obtain ⟨i, hi, h2, h3⟩ := h1.1 (by simpa using h)
      exact ⟨i, (hmem _).2 ⟨i, hi, h2, rfl⟩, by rw [word_digit N i hi]; exact h3⟩
    · rintro ⟨x, hx, h3⟩
      obtain ⟨i, hi, h2, e⟩ := (hmem _).1 hx
      obtain rfl : x = i := by omega
      rw [word_digit N x hi] at h3
      have := h1.2 ⟨x, hi, h2, h3⟩
      simpa using this
  rcases hI.2 with ⟨rfl, h0⟩ | ⟨g, cap, cur, rfl, _⟩
  · have hnil : askL S 16 = [] := List.eq_nil_of_length_eq_zero h0
    rw [hnil] at hb
    have : (!okB S N) = false := by
      cases h : (!okB S N)
      · rfl
      · obtain ⟨x, hx, _⟩ := hb.1 h
        cases hx
    rw [this]
    exact containsAsk_nil _ W
  · rcases hI.reads with ⟨h0, _⟩ | ⟨g2, o2, c2, e2, hg2, hc2⟩
    · have : (!okB S N) = false := by
        cases h : (!okB S N)
        · rfl
        · obtain ⟨x, hx, _⟩ := hb.1 h
          rw [h0] at hx; cases hx
      rw [this, h0]
      have := containsAsk (fun _ => false) (fun _ => 0) 0 g cap #[.pointer (some ⟨Bs, 0, none⟩), .pointer (some ⟨Bw, 0, none⟩)] W (by omega) (fun i hi => by omega) (fun i hi => by omega) false (by simp)
      exact this
    · obtain ⟨rfl, rfl⟩ : g2 = g ∧ o2 = 0 := by
        have := e2
        simp at this
        exact ⟨this.1.1.symm, this.1.2.symm⟩
      have hpos : ∀ i, i < (askL S 16).length → ∃ x : Nat, x < 16 ∧ (askL S 16).getD i 0 = (x : Nat) := fun i hi => by
        rw [getD_lt _ _ hi]
        obtain ⟨x, hx, _, e⟩ := (hmem _).1 (List.getElem_mem hi)
        exact ⟨x, hx, e⟩
      refine containsAsk (fun k => !bitB (S k) (word N / 2 ^ (4 * k) % 16)) (fun i => ((askL S 16).getD i 0).toNat) _ g2 cap _ W (by omega) (fun i hi => ?_) (fun i hi m => ?_) _ ?_
      · have := hc2 i hi
        rw [Nat.zero_add] at this
        obtain ⟨x, hx, e⟩ := hpos i hi
        rw [getD_lt _ _ hi] at e
        rw [this, getD_lt _ _ hi, e]; rfl
      · obtain ⟨x, hx, e⟩ := hpos i hi
        simp only [e, Int.toNat_natCast]
        refine (count2_c S (word N) x hx (hS x hx) (word_lt N) Bs Bw (W.drewN m) hs hw).mono fun e w' ⟨h1, n, h2⟩ => ⟨h1, m + n, by rw [h2, World.drewN_drewN]⟩
      · rw [hb]
        constructor
        · rintro ⟨x, hx, h3⟩
          obtain ⟨i, hi, e⟩ := List.getElem_of_mem hx
          exact ⟨i, hi, by simp only [getD_lt _ _ hi, e, Int.toNat_natCast]; exact h3⟩
        · rintro ⟨i, hi, h3⟩
          obtain ⟨x, hx, e⟩ := hpos i hi
          simp only [e, Int.toNat_natCast] at h3
          exact ⟨x, by rw [← e, getD_lt _ _ hi]; exact List.getElem_mem hi, h3⟩
theorem charts_c (w : World) : Calls Tryd.prog 69 #[] w fun e w' => e = .returned (.func (.func 82) #[] #[]) ∧ w = w' := by
  go_enter Tryd.func69, Tryd.ntmps69
  go_wp2
  go_ret
  exact ⟨rfl, rfl⟩
/-- A row is loaded, stored: within a fence. -/
theorem ldrowIn {F : Fence} {nn : Nat} {P : Program} {T n : Nat} (hT : ArrT P T n) {ops : Array Oper} {rest : List Oper} {o : Oper} {a : Act} {w : World} {Q : Exit → Act → World → Prop} (x : Operand) (hgd : o.guard = none) (ho : o.op = .load T x)
    (g : Nat) (hx : a.eval x = .pointer (some ⟨g, 0, none⟩)) (S : Nat → Int) (t : TypeId) (hg : w.heap[g]? = some (.cells (irow n S) t (0, 0)))
    (h : wpListIn F nn P ops Q rest (a.put o.dst (.agg (irow n S))) w) : wpListIn F nn P ops Q (o :: rest) a w := by
  obtain ⟨m, e, hu⟩ := hT.und
  refine wpListIn_plain hgd fun K hK => ?_
  have hrun := run_loadVar_irow hT hg
  unfold Oper.wpIn
  refine ⟨by simp [Oper.about, ho], ?_⟩
  rw [Oper.semAt_plain F _ _ (by rw [ho]; intro c hc; cases hc)]
  simp only [execOp, ho, hx, Instr.loadAt, Instr.sureAddr, Sem.run_bind, Sem.run_pure, Result.andThen_ok, hrun]
  exact hK _ _ h
theorem strowIn {F : Fence} {nn : Nat} {P : Program} {T n : Nat} (hT : ArrT P T n) {ops : Array Oper} {rest : List Oper} {o : Oper} {a : Act} {w : World} {Q : Exit → Act → World → Prop} (x y : Operand) (hgd : o.guard = none) (ho : o.op = .store T x y)
    (g : Nat) (V : Nat → Int) (hx : a.eval x = .pointer (some ⟨g, 0, none⟩)) (hy : a.eval y = .agg (irow n V)) (S : Nat → Int) (t : TypeId) (hg : w.heap[g]? = some (.cells (irow n S) t (0, 0)))
    (h : wpListIn F nn P ops Q rest (a.put o.dst undef) (w.setRow g (irow n V))) : wpListIn F nn P ops Q (o :: rest) a w := by
  refine wpListIn_plain hgd fun K hK => ?_
  have hrun := run_storeVar_row (P := P) w g t T (irow n S) (irow n V) hg (by rw [irow_size]; exact hT.siz) (by simp) (irow_all _ _)
  unfold Oper.wpIn
  refine ⟨by simp [Oper.about, ho], ?_⟩
  rw [Oper.semAt_plain F _ _ (by rw [ho]; intro c hc; cases hc)]
  simp only [execOp, ho, hx, hy, Instr.storeAt, Instr.sureAddr, Sem.run_bind, Sem.run_pure, Result.andThen_ok, hrun]
  exact hK _ _ h
theorem arrSets : ArrT Tryd.prog 78 16 := ⟨⟨_, _, Tryd.underlying78⟩, by kernel_rfl⟩
theorem idxSets (S : Nat → Int) (k : Nat) (hk : k < 16) (w : World) : (Instr.index 78 (.agg (irow 16 S)) (.int .i64 (k : Nat))).run Tryd.prog w = .ok (.int .i64 (S k)) w := run_index_irow Tryd.underlying78 (by kernel_rfl) (fun _ => by kernel_rfl) S k hk w

theorem Ints.setOther {w : World} {B : Nat} {v : Value} {xs : List Int} (h : Ints w B v xs) {g i : Nat} (hg : g < B) (u : Value) : Ints (w.setCell ⟨g, i, none⟩ u) B v xs := by
  refine ⟨h.1, ?_⟩
  rcases h.2 with h2 | ⟨g', cap, cur, h3, h4, h5, h6⟩
  · exact .inl h2
  · exact .inr ⟨g', cap, cur, h3, h4, (heap_setCell_other w ⟨g, i, none⟩ g' u (by show g' ≠ g; omega)).trans h5, h6⟩
theorem one_set {w : World} {g : Nat} {u : Value} {t : TypeId} (hg : w.heap[g]? = some (.cells #[u] t (0, 0))) (v : Value) : (w.setCell ⟨g, 0, none⟩ v).heap[g]? = some (.cells #[v] t (0, 0)) := by
  rw [heap_setCell_same w g 0 _ t v hg]; rfl
theorem one_cellOf {w : World} {g : Nat} {u : Value} {t : TypeId} (hg : w.heap[g]? = some (.cells #[u] t (0, 0))) : w.cell? ⟨g, 0, none⟩ = some u := by
  rw [cell_of_row _ _ 0 _ _ (0, 0) hg]; rfl

theorem charts_stops (n : Nat) (hn : 1 ≤ n) (lo n₀ : Nat) (hlo : (0 < lo ∧ 1 < lo) ∧ 3 < lo) (w : World) (L : Laid w) (LB : LaidB w) (hw : n₀ ≤ w.heap.size) :
    SeqStopsK Fence.wide n Tryd.prog 82 #[] (fun x : Nat => #[Value.int .i64 ((gr x : Nat) : Int), Value.int .u64 ((word (gr x) : Nat) : Int)]) (KeepO lo n₀) (fun ys => ys = gAll) (fun _ => True) 65536 w := fun l J Jx W hW hJ _ hY h0 =>
  charts1_in n hn l lo n₀ hlo J Jx hY (fun pre A B h hb => hJ pre A B none h ⟨hb.os, hb.tape, hb.output, hb.size, fun k hk _ => hb.block k hk⟩ (fun r e => by cases e)) W (L.below hW) (LB.below hW) (Nat.le_trans hw hW.size) h0
/-- What holds while Count goes over the charts. -/
structure CI (S : Nat → Nat) (lo B8 : Nat) (w : World) (va : Value) (pre : List Nat) (W : World) : Prop where
  sets : W.heap[lo]? = some (.cells (irow 16 (cst S)) 78 (0, 0))
  cnt : W.heap[lo + 1]? = some (.cells #[.int .i64 ((cntL S pre : Nat) : Int)] 3 (0, 0))
  fst : W.heap[lo + 1 + 1]? = some (.cells (irow 4 (fun _ => 0)) 37 (0, 0))
  ask : W.heap[lo + 3]? = some (.cells #[va] 25 (0, 0))
  back : Ints W (lo + 4) va (askL S 16)
  lst : W.heap[B8]? = some (.cells #[.int .i64 ((leL S pre : Nat) : Int)] 3 (0, 0))
  below : Below lo w W
theorem own_fact {W W' : World} {row : Option Nat} (hg : W.grownBy W' row) (hr : ∀ r, row = some r → ∃ o : Obj, W.heap[r]? = some o ∧ o.isCells = false) {b : Nat} {cs : Array Value} {t : TypeId} (h : W.heap[b]? = some (.cells cs t (0, 0))) : W'.heap[b]? = some (.cells cs t (0, 0)) :=
  (hg.block b (heap_lt h) fun e => by
    obtain ⟨o, ho, hc⟩ := hr b e.symm
    rw [h] at ho; cases ho; cases hc).trans h
theorem own_ints {W W' : World} {row : Option Nat} (hg : W.grownBy W' row) (hr : ∀ r, row = some r → ∃ o : Obj, W.heap[r]? = some o ∧ o.isCells = false) {B : Nat} {v : Value} {xs : List Int} (h : Ints W B v xs) : Ints W' B v xs := by
  refine ⟨h.1, ?_⟩
  rcases h.2 with h2 | ⟨g', cap, cur, h3, h4, h5, h6⟩
  · exact .inl h2
  · exact .inr ⟨g', cap, cur, h3, h4, own_fact hg hr h5, h6⟩
theorem CI_own {S : Nat → Nat} {lo B8 : Nat} {w : World} {va : Value} {B : Nat} (hB : lo ≤ B) (hw : lo ≤ w.heap.size) : OwnFrom B (CI S lo B8 w va) := fun pre W W' row h hg hr => by
  have hr' : ∀ r, row = some r → ∃ o : Obj, W.heap[r]? = some o ∧ o.isCells = false := fun r e => (hr r e).2
  exact ⟨own_fact hg hr' h.sets, own_fact hg hr' h.cnt, own_fact hg hr' h.fst, own_fact hg hr' h.ask, own_ints hg hr' h.back, own_fact hg hr' h.lst, h.below.grown hg (Nat.le_trans hw h.below.size) (fun k e => Nat.le_trans hB (hr k e).1)⟩
theorem CI.drewN {S : Nat → Nat} {lo B8 : Nat} {w : World} {va : Value} {pre : List Nat} {W : World} (h : CI S lo B8 w va pre W) (m : Nat) : CI S lo B8 w va pre (W.drewN m) :=
  ⟨h.sets, h.cnt, h.fst, h.ask, h.back, h.lst, below_drewN h.below m⟩
theorem CI.skip {S : Nat → Nat} {lo B8 : Nat} {w : World} {va : Value} {pre : List Nat} {W : World} (h : CI S lo B8 w va pre W) (x : Nat) (hx : okB S (gr x) = false) : CI S lo B8 w va (pre ++ [x]) W :=
  ⟨h.sets, by rw [h.cnt, cntL_snoc, hx]; rfl, h.fst, h.ask, h.back, by rw [h.lst, leL_snoc, hx]; rfl, h.below⟩
theorem CI.hit {S : Nat → Nat} {lo B8 : Nat} {w : World} {va : Value} {pre : List Nat} {W : World} (h : CI S lo B8 w va pre W) (x : Nat) (h8 : lo + 4 ≤ B8) (hne : some B8 ≠ va.ownBlock) :
    CI S lo B8 w va (pre ++ [x]) ((W.setCell ⟨lo + 1, 0, none⟩ (.int .i64 ((cntL S (pre ++ [x]) : Nat) : Int))).setCell ⟨B8, 0, none⟩ (.int .i64 ((leL S (pre ++ [x]) : Nat) : Int))) := by
  have k1 : ∀ b, b ≠ lo + 1 → b ≠ B8 → ∀ u v, ((W.setCell ⟨lo + 1, 0, none⟩ u).setCell ⟨B8, 0, none⟩ v).heap[b]? = W.heap[b]? := fun b e1 e2 u v =>
    (heap_setCell_other (W.setCell ⟨lo + 1, 0, none⟩ u) ⟨B8, 0, none⟩ b v e2).trans (heap_setCell_other W ⟨lo + 1, 0, none⟩ b u e1)
  refine ⟨(k1 lo (by omega) (by omega) _ _).trans h.sets, (heap_setCell_other _ ⟨B8, 0, none⟩ (lo + 1) _ (by show lo + 1 ≠ B8; omega)).trans (one_set h.cnt _), (k1 (lo + 1 + 1) (by omega) (by omega) _ _).trans h.fst, (k1 (lo + 3) (by omega) (by omega) _ _).trans h.ask, ?_, one_set ((heap_setCell_other W ⟨lo + 1, 0, none⟩ B8 _ (by show B8 ≠ lo + 1; omega)).trans h.lst) _, (h.below.setCell (show lo ≤ lo + 1 by omega) (p := ⟨lo + 1, 0, none⟩) _).setCell (show lo ≤ B8 by omega) (p := ⟨B8, 0, none⟩) _⟩
  refine ⟨h.back.1, ?_⟩
  rcases h.back.2 with h2 | ⟨g', cap, cur, h3, h4, h5, h6⟩
  · exact .inl h2
  · refine .inr ⟨g', cap, cur, h3, h4, (k1 g' (by omega) (fun e => hne ?_) _ _).trans h5, h6⟩
    rw [h3, e]; rfl
theorem keeps_drewN (B : Nat) (W : World) (m : Nat) : KeepsFrom B W (W.drewN m) := ⟨Nat.le_refl _, fun _ _ _ h _ => h⟩
theorem keepO_drewN (lo n₀ : Nat) (W : World) (m : Nat) : KeepO lo n₀ W (W.drewN m) := ⟨rfl, rfl, rfl, Nat.le_refl _, fun _ _ h _ _ => h⟩
theorem keepO_set {lo n₀ b : Nat} (W : World) (v : Value) (h1 : lo ≤ b) (h2 : b < n₀) : KeepO lo n₀ W (W.setCell ⟨b, 0, none⟩ v) :=
  ⟨rfl, rfl, rfl, by simp, fun k o hk _ hn => (heap_setCell_other W ⟨b, 0, none⟩ k v (by show k ≠ b; rintro rfl; exact hn ⟨h1, h2⟩)).trans hk⟩
theorem keepO_alloc (lo n₀ : Nat) (W : World) (o : Obj) : KeepO lo n₀ W (W.alloc o) :=
  ⟨rfl, rfl, rfl, by simp, fun k x hk _ _ => (heap_alloc_old W o (heap_lt hk)).trans hk⟩
theorem keeps_set (B : Nat) (W : World) (b : Nat) (v : Value) (hb : b < B) : KeepsFrom B W (W.setCell ⟨b, 0, none⟩ v) := KeepsFrom.of_grownBy (grownBy_setCell' W b v) (fun j e => by cases e; exact hb)

theorem run_loadInt {w : World} {b : Nat} {c : Int} (hc : w.cell? ⟨b, 0, none⟩ = some (.int .i64 c)) : (loadVar 3 ⟨b, 0, none⟩).run Tryd.prog w = .ok (.int .i64 c) w := by
  simp [loadVar, go_sem, hc]
theorem results3 {fn : Func} {p q r : Tmp} (h : fn.results = #[.cell p 3, .cell q 37, .tmp r]) (tmps : Array Value) (w : World) (b g : Nat) (c : Int) (S : Nat → Int) (v : Value)
    (hp : tmps.getD p undef = .pointer (some ⟨b, 0, none⟩)) (hq : tmps.getD q undef = .pointer (some ⟨g, 0, none⟩)) (hv : tmps.getD r undef = v)
    (hc : w.cell? ⟨b, 0, none⟩ = some (.int .i64 c)) (hg : w.heap[g]? = some (.cells (irow 4 S) 37 (0, 0))) :
    (results fn tmps).run Tryd.prog w = .ok (.tuple #[.int .i64 c, .agg (irow 4 S), v]) w := by
  have hl1 := run_loadInt hc
  have hl2 := run_loadVar_irow arrMothers hg
  have hp' : tmps[p]?.getD undef = .pointer (some ⟨b, 0, none⟩) := by simpa using hp
  have hq' : tmps[q]?.getD undef = .pointer (some ⟨g, 0, none⟩) := by simpa using hq
  have hv' : tmps[r]?.getD undef = v := by simpa using hv
  simp [results, h, hp', hq', hv', asAddr, hl1, hl2]
theorem putObj_cell {W : World} {D b : Nat} {cs : Array Value} {t : TypeId} {o o' : Obj} (hD : W.heap[D]? = some o) (ho : o.isCells = false) (h : W.heap[b]? = some (.cells cs t (0, 0))) : (W.putObj D o').heap[b]? = some (.cells cs t (0, 0)) := by
  have hne : b ≠ D := by
    rintro rfl
    rw [h] at hD; cases hD; cases ho
  rw [World.putObj_heap_other hne]; exact h
theorem row4_again {W : World} {g : Nat} {S : Nat → Int} {t : TypeId} (h : W.heap[g]? = some (.cells (irow 4 S) t (0, 0))) :
    ((((W.setCell ⟨g, 0, none⟩ (.int .i64 (S 0))).setCell ⟨g, 1, none⟩ (.int .i64 (S 1))).setCell ⟨g, 2, none⟩ (.int .i64 (S 2))).setCell ⟨g, 3, none⟩ (.int .i64 (S 3))).heap[g]? = some (.cells (irow 4 S) t (0, 0)) := by
  rw [set_irow (set_irow (set_irow (set_irow h 0 _) 1 _) 2 _) 3 _]
  congr 2
theorem count_tail {w0 w6 : World} {lo D : Nat} {S : Nat → Int} {c : Int} (hf : w6.heap[lo + 1 + 1]? = some (.cells (irow 4 S) 37 (0, 0))) (hc : w6.heap[lo + 1]? = some (.cells #[.int .i64 c] 3 (0, 0))) (hD : w6.heap[D]? = some (.deferred (some []))) (hDl : lo + 1 + 1 < D) (hb : Below lo w0 w6) :
    ((((((w6.setCell ⟨lo + 1, 0, none⟩ (.int .i64 c)).setCell ⟨lo + 1 + 1, 0, none⟩ (.int .i64 (S 0))).setCell ⟨lo + 1 + 1, 1, none⟩ (.int .i64 (S 1))).setCell ⟨lo + 1 + 1, 2, none⟩ (.int .i64 (S 2))).setCell ⟨lo + 1 + 1, 3, none⟩ (.int .i64 (S 3)))).heap[lo + 1]? = some (.cells #[.int .i64 c] 3 (0, 0)) ∧ ((((((w6.setCell ⟨lo + 1, 0, none⟩ (.int .i64 c)).setCell ⟨lo + 1 + 1, 0, none⟩ (.int .i64 (S 0))).setCell ⟨lo + 1 + 1, 1, none⟩ (.int .i64 (S 1))).setCell ⟨lo + 1 + 1, 2, none⟩ (.int .i64 (S 2))).setCell ⟨lo + 1 + 1, 3, none⟩ (.int .i64 (S 3)))).heap[lo + 1 + 1]? = some (.cells (irow 4 S) 37 (0, 0)) ∧ ((((((w6.setCell ⟨lo + 1, 0, none⟩ (.int .i64 c)).setCell ⟨lo + 1 + 1, 0, none⟩ (.int .i64 (S 0))).setCell ⟨lo + 1 + 1, 1, none⟩ (.int .i64 (S 1))).setCell ⟨lo + 1 + 1, 2, none⟩ (.int .i64 (S 2))).setCell ⟨lo + 1 + 1, 3, none⟩ (.int .i64 (S 3)))).heap[D]? = some (.deferred (some [])) ∧ Below lo w0 ((((((w6.setCell ⟨lo + 1, 0, none⟩ (.int .i64 c)).setCell ⟨lo + 1 + 1, 0, none⟩ (.int .i64 (S 0))).setCell ⟨lo + 1 + 1, 1, none⟩ (.int .i64 (S 1))).setCell ⟨lo + 1 + 1, 2, none⟩ (.int .i64 (S 2))).setCell ⟨lo + 1 + 1, 3, none⟩ (.int .i64 (S 3)))) := by
  have n12 : lo + 1 ≠ lo + 1 + 1 := by omega
  have n21 : lo + 1 + 1 ≠ lo + 1 := by omega
  have nD : D ≠ lo + 1 + 1 := by omega
  have nD' : D ≠ lo + 1 := by omega
  have k : ∀ b, b ≠ lo + 1 + 1 → ((((((w6.setCell ⟨lo + 1, 0, none⟩ (.int .i64 c)).setCell ⟨lo + 1 + 1, 0, none⟩ (.int .i64 (S 0))).setCell ⟨lo + 1 + 1, 1, none⟩ (.int .i64 (S 1))).setCell ⟨lo + 1 + 1, 2, none⟩ (.int .i64 (S 2))).setCell ⟨lo + 1 + 1, 3, none⟩ (.int .i64 (S 3)))).heap[b]? = (w6.setCell ⟨lo + 1, 0, none⟩ (.int .i64 c)).heap[b]? := fun b hb => by
    rw [heap_setCell_other _ ⟨lo + 1 + 1, 3, none⟩ b _ hb, heap_setCell_other _ ⟨lo + 1 + 1, 2, none⟩ b _ hb, heap_setCell_other _ ⟨lo + 1 + 1, 1, none⟩ b _ hb, heap_setCell_other _ ⟨lo + 1 + 1, 0, none⟩ b _ hb]
  refine ⟨(k _ n12).trans (one_set hc _), row4_again ((heap_setCell_other w6 ⟨lo + 1, 0, none⟩ (lo + 1 + 1) _ n21).trans hf), (k _ nD).trans ((heap_setCell_other w6 ⟨lo + 1, 0, none⟩ D _ nD').trans hD), ?_⟩
  exact ((((hb.setCell (show lo ≤ lo + 1 by omega) (p := ⟨lo + 1, 0, none⟩) _).setCell (show lo ≤ lo + 1 + 1 by omega) (p := ⟨lo + 1 + 1, 0, none⟩) _).setCell (show lo ≤ lo + 1 + 1 by omega) (p := ⟨lo + 1 + 1, 1, none⟩) _).setCell (show lo ≤ lo + 1 + 1 by omega) (p := ⟨lo + 1 + 1, 2, none⟩) _).setCell (show lo ≤ lo + 1 + 1 by omega) (p := ⟨lo + 1 + 1, 3, none⟩) _
@[go_sem] theorem wideR_fn (l : Nat) (f : FuncId) : (Fence.wide.inRound l).fn f = True := eq_true trivial
@[go_sem] theorem wide_depth : Fence.wide.depth = none := rfl
attribute [local go_sem] Oper.semAt_some
set_option maxHeartbeats 8000000 in
theorem Count_in (S : Nat → Nat) (hS : ∀ i, i < 16 → S i < 65536) (n : Nat) (hn : 3 ≤ n) (w : World) (L : Laid w) (LB : LaidB w) (ga : List Nat) (hga : gAll = ga) (cc ll : Nat) (Fm : Nat → Int) (hcc0 : cntL S ga = cc) (hll0 : leL S ga = ll) (hF1 : 0 < cc → ll < 65536 ∧ Fm = cst (mths ll)) (hF0 : cc = 0 → Fm = fun _ => 0) :
    CallsIn Fence.wide n Tryd.prog 44 #[.agg (irow 16 (cst S))] w fun e w' => e = .returned (.tuple #[.int .i64 ((cc : Nat) : Int), .agg (irow 4 Fm), .int .i64 0]) ∧ Below w.heap.size w w' := by
  have HGA := hid hga
  have HCC := hid hcc0
  have HLL := hid hll0
  have HF1' := hid hF1
  have HF0' := hid hF0
  clear hga hcc0 hll0 hF1 hF0
  have h1 : 1 ≤ n := by omega
  refine callsIn_of_wp_marks Tryd.func44 rfl trivial ?_ rfl
  simp only [Tryd.ntmps44, List.size_toArray, List.length_cons, List.length_nil, Nat.reduceAdd, Nat.reduceSub, Array.replicate_succ, Array.replicate_zero, List.push_toArray, List.append_toArray, List.nil_append, List.cons_append]
  have hs0 : (((w.alloc (.cells (irow 16 (cst S)) 78)).alloc (.cells #[.int .i64 0] 3)).alloc (.cells (irow 4 (fun _ => 0)) 37)).heap[w.heap.size]? = some (.cells (irow 16 (cst S)) 78 (0, 0)) := by
    rw [heap_alloc_old _ _ (by simp; omega)]; exact heap_alloc2_old w _ _
  have hc0 : (((w.alloc (.cells (irow 16 (cst S)) 78)).alloc (.cells #[.int .i64 0] 3)).alloc (.cells (irow 4 (fun _ => 0)) 37)).heap[w.heap.size + 1]? = some (.cells #[.int .i64 0] 3 (0, 0)) := by
    rw [heap_alloc_old _ _ (by simp)]; exact heap_alloc2_new w _ _
  have hf0 : (((w.alloc (.cells (irow 16 (cst S)) 78)).alloc (.cells #[.int .i64 0] 3)).alloc (.cells (irow 4 (fun _ => 0)) 37)).heap[w.heap.size + 1 + 1]? = some (.cells (irow 4 (fun _ => 0)) 37 (0, 0)) := by
    have := heap_alloc_new ((w.alloc (.cells (irow 16 (cst S)) 78)).alloc (.cells #[.int .i64 0] 3)) (.cells (irow 4 (fun _ => 0)) 37)
    simpa using this
  have hb0 : Below w.heap.size w (((w.alloc (.cells (irow 16 (cst S)) 78)).alloc (.cells #[.int .i64 0] 3)).alloc (.cells (irow 4 (fun _ => 0)) 37)) := (((Below.refl _ _).alloc (Nat.le_refl _) _).alloc (by simp) _).alloc (by simp; omega) _
  have hz0 : (((w.alloc (.cells (irow 16 (cst S)) 78)).alloc (.cells #[.int .i64 0] 3)).alloc (.cells (irow 4 (fun _ => 0)) 37)).heap.size = w.heap.size + 3 := by simp
  have HS := hid hS
  have HF := hid (show ∀ i, i < 16 → FSet (cst S i) from fun i hi => ⟨by simp, by have := hS i hi; simp; omega⟩)
  clear hS
  gi_wp2_with (first
    | (gi_at_call 67; rw [zeros4]; generalize ((w.alloc (.cells (irow 16 (cst S)) 78)).alloc (.cells #[.int .i64 0] 3)).alloc (.cells (irow 4 (fun _ => 0)) 37) = w1 at hs0 hc0 hf0 hb0 hz0 ⊢; refine (callsIn_wide.2 (containsSet_yes (cst S) w.heap.size 0 16 _ _ (by omega) (fun i hi => by rw [Nat.zero_add]; exact cell_irow hs0 i hi) HF.out)).mono ?_; rintro e w' ⟨rfl, rfl⟩; have hs1 := (heap_alloc_old w1 (.cells #[.slice none 0 0] 25) (heap_lt hs0)).trans hs0)
    | (refine ldrowIn arrSets _ rfl rfl _ rfl _ _ hs1 ?_))
  have hc1 := (heap_alloc_old w1 (.cells #[.slice none 0 0] 25) (heap_lt hc0)).trans hc0
  have hf1 := (heap_alloc_old w1 (.cells #[.slice none 0 0] 25) (heap_lt hf0)).trans hf0
  have ha1 := heap_alloc_new w1 (.cells #[.slice none 0 0] 25)
  have hb1 := hb0.alloc hb0.size (.cells #[.slice none 0 0] 25)
  have hz1 : (w1.alloc (.cells #[.slice none 0 0] 25)).heap.size = w.heap.size + 4 := by simp [hz0]
  rw [hz0] at ha1
  have hL0 := L.size
  have hLB0 := LB.size
  have HL := hid (fun W (h : Below w.heap.size w W) => And.intro (L.below h) (LB.below h))
  clear hs0 hc0 hf0 hb0 L LB
  generalize w1.alloc (.cells #[.slice none 0 0] 25) = w2 at hs1 hc1 hf1 ha1 hb1 hz1 ⊢
  clear hz0
  have hIn0 : Ints w2 (w.heap.size + 4) (.slice none 0 0) (askL S 0) := Ints.nil _ _
  generalize hlo : w.heap.size = lo at *
  obtain ⟨i0, hi, hz0, hz1', hz2⟩ := info_parts infoInt
  gi_loopw [15] (fun i wr => ∃ k : Nat, k ≤ 16 ∧ i = .int .i64 k ∧ wr.heap[lo]? = some (.cells (irow 16 (cst S)) 78 (0, 0)) ∧ wr.heap[lo + 1]? = some (.cells #[.int .i64 0] 3 (0, 0)) ∧ wr.heap[lo + 1 + 1]? = some (.cells (irow 4 (fun _ => 0)) 37 (0, 0)) ∧
    (∃ va, wr.heap[lo + 3]? = some (.cells #[va] 25 (0, 0)) ∧ Ints wr (lo + 4) va (askL S k)) ∧ Below lo w wr ∧ lo + 4 ≤ wr.heap.size) (fun i _ => 16 - (intOf i).toNat)
  case atStart => exact ⟨0, by omega, rfl, hs1, hc1, hf1, ⟨_, ha1, hIn0⟩, hb1, by omega⟩
  case round =>
    clear hs1 hc1 hf1 ha1 hb1 hz1 hIn0
    obtain ⟨k, hk, rfl, hs, hc, hf, ⟨va, ha, hI⟩, hb, hsz⟩ := hrel
    by_cases hlt : k < 16
    · have hlt' : (k : Int) < 16 := by omega
      have hix := idxSets (cst S) k hlt
      by_cases hall : S k = 65535
      · have hq : (((S k : Nat) : Int) != 65535) = false := by rw [hall]; rfl
        have hst := hid (show askL S (k + 1) = askL S k by rw [askL, if_pos hall])
        have HA := hid ha
        have HS1 := hid hs
        have HC1 := hid hc
        have HF1 := hid hf
        clear hall ha hs hc hf
        gi_wp2_with fail
        go_roundw
        case rel => exact ⟨k + 1, by omega, by go_num, HS1.out, HC1.out, HF1.out, ⟨va, HA.out, by rw [hst.out]; exact hI⟩, hb, hsz⟩
        case measure => simp [intOf]; omega
      · have hq : (((S k : Nat) : Int) != 65535) = true := by simp; omega
        have hst := hid (show askL S (k + 1) = askL S k ++ [((k : Nat) : Int)] by rw [askL, if_neg hall])
        have hlen := askL_len S k
        have hca : wr.cell? ⟨lo + 3, 0, none⟩ = some va := by rw [cell_of_row _ _ 0 _ _ (0, 0) ha]; rfl
        have HA := hid ha
        have HS1 := hid hs
        have HC1 := hid hc
        have HF1 := hid hf
        have hIa : Ints (wr.alloc (.cells #[.int .i64 (k : Nat)] 3)) (lo + 4) va (askL S k) := hI.below ((Below.refl _ _).alloc (Nat.le_refl _) _)
        clear hall ha hs hc hf
        gi_wp2_with (gi_at_builtin; refine wpListIn_append_own _ rfl _ _ 25 rfl (lo + 4) 3 i0 (.int .i64 0) 1 8 Tryd.underlying25 hi hz0 hz1' hz2 rfl (by decide) _ _ _ rfl hIa ⟨wr.heap.size, 0, none⟩ 1 1 [.int .i64 (k : Nat)] rfl rfl (cell_one_new _ _ _) (by simp [Value.oneCell']) (by unfold maxLen; omega) (by omega) (by simp; omega) ?_; intro v' w4 hown' hgrow _; obtain ⟨g', cap', rfl⟩ := ownsRow_succ hown'; have hA4 := grown_heap hgrow hIa ((heap_alloc_old wr (.cells #[.int .i64 (k : Nat)] 3) (heap_lt HA.out)).trans HA.out) (by omega); have hca4 := one_cellOf hA4; have hfz4 := frozen_of_row _ _ 0 _ _ hA4; have HA4 := hid hA4; have HG := hid hgrow; clear hA4 hgrow)
        obtain ⟨v', hv'⟩ : ∃ v' : Value, v' = .slice (some ⟨g', 0, none⟩) ((askL S k).length + 1) cap' := ⟨_, rfl⟩
        rw [← hv'] at hown' ⊢
        clear hv'
        have hT := HS1.out
        have hs4 := grown_heap HG.out hIa ((heap_alloc_old wr (.cells #[.int .i64 (k : Nat)] 3) (heap_lt HS1.out)).trans HS1.out) (by omega)
        have hc4 := grown_heap HG.out hIa ((heap_alloc_old wr (.cells #[.int .i64 (k : Nat)] 3) (heap_lt HC1.out)).trans HC1.out) (by omega)
        have hf4 := grown_heap HG.out hIa ((heap_alloc_old wr (.cells #[.int .i64 (k : Nat)] 3) (heap_lt HF1.out)).trans HF1.out) (by omega)
        have hlo4 : lo ≤ lo + 4 := by omega
        have hb4 := grown_below (hb.alloc (Nat.le_trans (Nat.le_of_eq hlo.symm) hb.size) (.cells #[.int .i64 (k : Nat)] 3)) HG.out hIa hlo4 (by simp; omega)
        have hI4 : Ints w4 (lo + 4) v' (askL S (k + 1)) := by rw [hst.out]; unfold Ints; simpa using hown'
        have hsz4 := HG.out.size
        simp only [World.size_alloc] at hsz4
        have P1 := (heap_setCell_other w4 ⟨lo + 3, 0, none⟩ lo v' (by show lo ≠ lo + 3; omega)).trans hs4
        have P2 := (heap_setCell_other w4 ⟨lo + 3, 0, none⟩ (lo + 1) v' (by show lo + 1 ≠ lo + 3; omega)).trans hc4
        have P3 := (heap_setCell_other w4 ⟨lo + 3, 0, none⟩ (lo + 1 + 1) v' (by show lo + 1 + 1 ≠ lo + 3; omega)).trans hf4
        have P4 := one_set HA4.out v'
        have P5 := hI4.setOther (g := lo + 3) (i := 0) (by omega) v'
        have P6 := hb4.setCell (show lo ≤ lo + 3 by omega) (p := ⟨lo + 3, 0, none⟩) v'
        have P7 : lo + 4 ≤ (w4.setCell ⟨lo + 3, 0, none⟩ v').heap.size := by simp; omega
        clear hT hs4 hc4 hf4 hb4 hI4 hsz4 hown' hca4 hfz4
        go_roundw
        case rel => exact ⟨k + 1, by omega, by go_num, P1, P2, P3, ⟨v', P4, P5⟩, P6, P7⟩
        case measure => simp [intOf]; omega
    · have hge : ¬ (k : Int) < 16 := by omega
      obtain rfl : k = 16 := by omega
      obtain ⟨N, hN⟩ : ∃ N : Nat, 65536 = N := ⟨_, rfl⟩
      have HN := hid hN
      have hNi : (65536 : Int) = ((N : Nat) : Int) := by omega
      clear hN
      have HA := hid ha
      have HS1 := hid hs
      have HC1 := hid hc
      have HF1 := hid hf
      clear ha hs hc hf
      gi_wp2_with (gi_at_call 69; refine (callsIn_wide.2 (charts_c _)).mono ?_; rintro e w' ⟨rfl, rfl⟩)
      have hL0' := HL.out wr hb
      have hB8 := heap_alloc_new wr (.cells #[.int .i64 ((N : Nat) : Int)] 3)
      have hbb := hb.alloc (Nat.le_trans (Nat.le_of_eq hlo.symm) hb.size) (.cells #[.int .i64 ((N : Nat) : Int)] 3)
      have hIb : Ints (wr.alloc (.cells #[.int .i64 ((N : Nat) : Int)] 3)) (lo + 4) va (askL S 16) := hI.below ((Below.refl _ _).alloc (Nat.le_refl _) _)
      have hne : some wr.heap.size ≠ va.ownBlock := fun e => by
        have := (World.ownsRow.lt hI _ e.symm).2
        omega
      have hLb := HL.out _ hbb
      have hCI : CI S lo wr.heap.size w va [] (wr.alloc (.cells #[.int .i64 ((N : Nat) : Int)] 3)) :=
        ⟨(heap_alloc_old wr _ (heap_lt HS1.out)).trans HS1.out, (heap_alloc_old wr _ (heap_lt HC1.out)).trans HC1.out, (heap_alloc_old wr _ (heap_lt HF1.out)).trans HF1.out, (heap_alloc_old wr _ (heap_lt HA.out)).trans HA.out, hIb, by rw [hB8, ← HN.out]; rfl, hbb⟩
      have hsz8 : (wr.alloc (.cells #[.int .i64 ((N : Nat) : Int)] 3)).heap.size = wr.heap.size + 1 := by simp
      generalize hB : wr.heap.size = B8 at *
      generalize wr.alloc (.cells #[.int .i64 ((N : Nat) : Int)] 3) = W0 at hB8 hbb hIb hLb hCI hsz8 ⊢
      clear hB8 hIb hL0' HA HS1 HC1 HF1 hI hb HN
      refine wpIn_rangeFunc_ownH rfl h1 (gf := 82) (lb := #[]) rfl trivial (enters_of Tryd.func82 (by kernel_rfl) rfl)
        (charts_stops (n - 1) (by omega) lo (B8 + 1) ⟨hL0, hLB0⟩ _ hLb.1 hLb.2 (Nat.le_of_eq hsz8.symm)) (fun h k => h.trans k) keepO_b (Below.refl _ _) (fun _ => rfl)
        (CI S lo B8 w va) (fun _ _ _ => False) (CI_own (by omega) (Nat.le_of_eq hlo.symm)) (fun _ _ _ _ _ hs _ _ => hs) hCI
        (fun x a' W => ∃ g, a' = { tmps := #[.agg (irow 16 (cst S)), .pointer (some ⟨lo, 0, none⟩), .pointer (some ⟨lo + 1, 0, none⟩), .pointer (some ⟨lo + 1 + 1, 0, none⟩), .int .i64 0, .pointer (some ⟨lo + 3, 0, none⟩), u6, u7, .pointer (some ⟨B8, 0, none⟩), .int .i64 ((gr x : Nat) : Int), .pointer (some ⟨g, 0, none⟩), .slice (some ⟨lo, 0, none⟩) 16 16, .bool false, undef, .agg (irow 16 (cst S)), .int .i64 16, .bool false, u17, u18, u19, u20, u21, u22, u23, u24, u25, .func (.func 82) #[] #[], .int .i64 ((gr x : Nat) : Int), .int .u64 ((word (gr x) : Nat) : Int), undef, undef, undef, undef, undef, undef, undef, undef, undef, undef, undef, undef, undef, undef, undef], defers := [] } ∧ W.heap[g]? = some (.cells #[.int .u64 ((word (gr x) : Nat) : Int)] 120 (0, 0)))
        (fun x a' _ W W' row h hg hr => by
          obtain ⟨g, e, hw⟩ := h
          exact ⟨g, e, own_fact hg (fun r e => (hr r e).2) hw⟩) ?assign ?body ?done ?stop
      case assign =>
        intro l pre x W K hi' hK
        gi_wp2_with fail
        exact hK _ _ (KeepsOthers.alloc W _ |>.from _) (keepO_alloc _ _ _ _) ((CI_own (B := B8 + 1) (by omega) (Nat.le_of_eq hlo.symm)) _ _ _ none hi' (World.grownBy_alloc W _ none) (fun r e => by cases e)) ⟨_, rfl, heap_alloc_new W _⟩
      case body =>
        rintro l pre x a' W hl hr hI ⟨g, rfl, hgw⟩ hlt
        have hca := one_cellOf hI.ask
        have H := hid (ask_c S HS.out (gr x) (lo + 4) va W hI.back lo g hI.sets (one_cellOf hgw))
        have HI := hid hI
        have hlen : cntL S pre < 65536 := Nat.lt_of_le_of_lt (cntL_le S pre) hlt
        have hc1 := one_cellOf hI.cnt
        have hc8 := one_cellOf hI.lst
        have hz1 := frozen_of_row _ _ 0 _ _ hI.cnt
        have hz8 := frozen_of_row _ _ 0 _ _ hI.lst
        have hlt1 := heap_lt hI.cnt
        have hlt8 := heap_lt hI.lst
        clear hI hNi hgw hr HCC HLL HF1' HF0' HGA
        cases hok : okB S (gr x) with
        | false =>
          rw [hok] at H
          have HO := hid hok
          clear hok
          gi_wp2_with (gi_at_call 62; refine (CallsIn.inRound l (callsIn_wide.2 H.out)).mono ?_; rintro e w' ⟨rfl, m, rfl⟩)
          exact ⟨keeps_drewN _ _ _, keepO_drewN _ _ _ _, (HI.out.skip x HO.out).drewN m⟩
        | true =>
          rw [hok] at H
          have HO := hid hok
          clear hok
          have n1 : lo + 1 ≠ B8 := by omega
          have n2 : B8 ≠ lo + 1 := by omega
          have hadd : IntKind.i64.wrap (((cntL S pre : Nat) : Int) + 1) = ((cntL S pre + 1 : Nat) : Int) := by
            rw [IntWalk.i64_in _ (by omega)]; rfl
          generalize hcc : cntL S pre + 1 = c1 at hadd
          have Hcc := hid hcc
          clear hcc
          gi_wp2_with (gi_at_call 62; refine (CallsIn.inRound l (callsIn_wide.2 H.out)).mono ?_; rintro e w' ⟨rfl, m, rfl⟩)
          gi_region
          all_goals gi_wp2_with fail
          all_goals
            have hcn : cntL S (pre ++ [x]) = c1 := by rw [cntL_snoc, HO.out, ← Hcc.out]; rfl
            have key := (HI.out.drewN (m + 1)).hit x (by omega) hne
            have hle := leL_snoc S pre x
            rw [HO.out, if_pos rfl] at hle
            rw [hcn] at key
            first
              | (rw [show leL S (pre ++ [x]) = gr x by omega] at key
                 exact ⟨(keeps_drewN _ _ _).trans ((keeps_set _ _ (lo + 1) _ (by omega)).trans (keeps_set _ _ B8 _ (by omega))), (keepO_drewN _ _ _ _).trans ((keepO_set _ _ (by omega) (by omega)).trans (keepO_set _ _ (by omega) (by omega))), key⟩)
              | (rw [show leL S (pre ++ [x]) = leL S pre by omega] at key
                 exact ⟨(keeps_drewN _ _ _).trans ((keeps_set _ _ (lo + 1) _ (by omega)).trans (keeps_set _ _ B8 _ (by omega))), (keepO_drewN _ _ _ _).trans ((keepO_set _ _ (by omega) (by omega)).trans (keepO_set _ _ (by omega) (by omega))), key⟩)
      case done =>
        rintro D ys W hD hys hI hK
        rw [HGA.out] at hys
        subst hys
        have hcn := hI.cnt
        have hls := hI.lst
        rw [HCC.out] at hcn
        rw [HLL.out] at hls
        have hc1 := one_cellOf hcn
        have hc8 := one_cellOf hls
        have hI' := hI
        clear hI
        have hf0 := hI'.fst
        by_cases hpos : 0 < cc
        · obtain ⟨hll, hfm⟩ := HF1'.out hpos
          have Hfm := hid hfm
          clear hfm HCC HLL HF1' HF0' HGA
          have HM := hid (fun W => mothers_c ll hll W)
          gi_wp2_with (first
            | (gi_at_call 56; refine (callsIn_wide.2 (HM.out _)).mono ?_; rintro e w5 ⟨rfl, hc5⟩; have hf5 := heap_below hc5 hf0 (heap_lt hf0))
            | (refine strowIn arrMothers _ _ rfl rfl _ _ rfl rfl _ _ hf5 ?_))
          have hf6 := setRow_heap w5 (lo + 1 + 1) _ (irow 4 (cst (mths ll))) _ _ hf5
          have hb5 := hI'.below.trans (hc5.mono (Nat.le_trans (Nat.le_of_eq hlo.symm) hI'.below.size))
          have hcn6 := (setRow_other w5 (lo + 1 + 1) (lo + 1) (irow 4 (cst (mths ll))) (by omega)).trans (heap_below hc5 hcn (heap_lt hcn))
          have hD6 := (setRow_other w5 (lo + 1 + 1) D (irow 4 (cst (mths ll))) (by omega)).trans (heap_below hc5 hK (heap_lt hK))
          have hb6 := below_setRow hb5 (show lo ≤ lo + 1 + 1 by omega) (irow 4 (cst (mths ll)))
          generalize w5.setRow (lo + 1 + 1) (irow 4 (cst (mths ll))) = w6 at hf6 hcn6 hb6 hD6 ⊢
          have e1 := one_cellOf hcn6
          have z1 := frozen_of_row _ _ 0 _ _ hcn6
          have m0 := cell_irow hf6 0 (by omega)
          have m1 := cell_irow hf6 1 (by omega)
          have m2 := cell_irow hf6 2 (by omega)
          have m3 := cell_irow hf6 3 (by omega)
          have y0 := frozen_of_row _ _ 0 _ _ hf6
          have y1 := frozen_of_row _ _ 1 _ _ hf6
          have y2 := frozen_of_row _ _ 2 _ _ hf6
          have y3 := frozen_of_row _ _ 3 _ _ hf6
          have n12 : lo + 1 ≠ lo + 1 + 1 := by omega
          have n21 : lo + 1 + 1 ≠ lo + 1 := by omega
          have HF6 := hid hf6
          have HC6 := hid hcn6
          have HI' := hid hI'
          have HK' := hid hD6
          clear hf6 hcn6 hcn hls hI' hK hD6 hc5 hf5 hf0 hc1 hc8 HM
          simp only [Act.put]
          gi_region
          all_goals gi_wp2_with fail
          obtain ⟨q5, q2, q6, q3⟩ := count_tail HF6.out HC6.out HK'.out (by omega) hb6
          refine ⟨by simp, .inl ⟨_, _, rfl, run_takeDeferred q6, ?_⟩⟩
          refine ⟨_, results3 Tryd.results44 _ _ (lo + 1) (lo + 1 + 1) ((cc : Nat) : Int) (cst (mths ll)) (.int .i64 0) rfl rfl rfl (one_cellOf (putObj_cell q6 rfl q5)) (putObj_cell q6 rfl q2), by rw [Hfm.out], ?_⟩
          rw [hlo]
          exact q3.drew.trans (belowK_b (w := w) (Nat.le_of_eq hlo.symm) _ D _ _ (by rw [hlo]; omega) (show (World.drew _).heap[D]? = _ from q6) rfl rfl)
        · have hz : cc = 0 := by omega
          have Hfm := hid (HF0'.out hz)
          clear hz HCC HLL HF1' HF0' HGA
          gi_wp2_with fail
          have hf6 := hf0
          have hcn6 := hcn
          have hD6 := hK
          have hb6 := hI'.below
          obtain ⟨w6, hw6⟩ : ∃ w6 : World, w6 = W := ⟨_, rfl⟩
          rw [← hw6] at hf6 hcn6 hD6 hb6 ⊢
          clear hw6
          have e1 := one_cellOf hcn6
          have z1 := frozen_of_row _ _ 0 _ _ hcn6
          have m0 := cell_irow hf6 0 (by omega)
          have m1 := cell_irow hf6 1 (by omega)
          have m2 := cell_irow hf6 2 (by omega)
          have m3 := cell_irow hf6 3 (by omega)
          have y0 := frozen_of_row _ _ 0 _ _ hf6
          have y1 := frozen_of_row _ _ 1 _ _ hf6
          have y2 := frozen_of_row _ _ 2 _ _ hf6
          have y3 := frozen_of_row _ _ 3 _ _ hf6
          have n12 : lo + 1 ≠ lo + 1 + 1 := by omega
          have n21 : lo + 1 + 1 ≠ lo + 1 := by omega
          have HF6 := hid hf6
          have HC6 := hid hcn6
          have HI' := hid hI'
          have HK' := hid hD6
          clear hf6 hcn6 hcn hls hI' hK hD6 hf0 hc1 hc8
          gi_region
          all_goals gi_wp2_with fail
          obtain ⟨q5, q2, q6, q3⟩ := count_tail HF6.out HC6.out HK'.out (by omega) hb6
          refine ⟨by simp, .inl ⟨_, _, rfl, run_takeDeferred q6, ?_⟩⟩
          refine ⟨_, results3 Tryd.results44 _ _ (lo + 1) (lo + 1 + 1) ((cc : Nat) : Int) (fun _ => 0) (.int .i64 0) rfl rfl rfl (one_cellOf (putObj_cell q6 rfl q5)) (putObj_cell q6 rfl q2), by rw [Hfm.out], ?_⟩
          rw [hlo]
          exact q3.drew.trans (belowK_b (w := w) (Nat.le_of_eq hlo.symm) _ D _ _ (by rw [hlo]; omega) (show (World.drew _).heap[D]? = _ from q6) rfl rfl)
      case stop =>
        rintro D c pre W _ _ h _
        exact h.elim
end Go.Proofs.YtphnibllfpkkkaaDoor
