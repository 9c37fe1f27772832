/- Plain law of law WitnessProved: the lines; where the drawing stands with wrong and silent persons. -/
import Derived.Test.YtbcileppebpamaaDoorZB
import Derived.Lib.ItoaLen
set_option linter.unusedSimpArgs false
set_option linter.unusedVariables false
namespace Go.Proofs.YtbcileppebpamaaDoor
open Go Go.RowKit Go.Shelf
set_option maxRecDepth 100000

theorem itoa_no (c : UInt8) (hc : c.toNat < 48) (n : Nat) : c ∉ Lib.itoa ((n : Nat) : Int) := by
  induction n using Nat.strongRecOn with
  | _ n ih =>
    by_cases h : n < 10
    · rw [itoa_one n h, List.mem_singleton]
      intro e
      rw [e, UInt8.toNat_ofNat'] at hc
      omega
    · rw [itoa_big n h, List.mem_append]
      rintro (h1 | h1)
      · exact ih _ (by omega) h1
      · exact ih _ (by omega) h1
theorem salt_no (c : UInt8) (hc : c.toNat < 48) (l : List UInt8) (h : isSaltL l = true) : c ∉ l := by
  rw [isSaltL, Bool.and_eq_true] at h
  intro hm
  have := List.all_eq_true.1 h.2 c hm
  simp only [saltB, Bool.or_eq_true, Bool.and_eq_true, decide_eq_true_eq] at this
  omega
theorem hash_no (c : UInt8) (hc : c.toNat < 48) (l : List UInt8) (h : isHashL l = true) : c ∉ l := by
  rw [isHashL, Bool.and_eq_true] at h
  intro hm
  have := List.all_eq_true.1 h.2 c hm
  simp only [hexB, Bool.or_eq_true, Bool.and_eq_true, decide_eq_true_eq] at this
  omega
theorem itoa_len (n : Nat) (h : n ≤ 1000000000) : (Lib.itoa ((n : Nat) : Int)).length ≤ 21 := Lib.itoa_length_le _ (by omega) (by omega)
/-- The lines of a drawing: bodies without line ends, short. -/
def LsG (ls : List ByteArray) : Prop := ∃ bs, LsB ls bs ∧ ∀ x ∈ bs, x.length ≤ 100
theorem LsG.add {ls : List ByteArray} (h : LsG ls) (ws : List ByteArray) (hw : ∀ w ∈ ws.map (·.data.toList), (10 : UInt8) ∉ w) (hl : lensW ws + ws.length ≤ 99) : LsG (ls ++ [⟨(lineL ws).toArray⟩]) := by
  obtain ⟨bs, h1, h2⟩ := h
  refine ⟨_, h1.add ws (mem_join 10 [32] _ hw (by decide)), fun x hx => ?_⟩
  rcases List.mem_append.1 hx with hx | hx
  · exact h2 x hx
  · rw [List.mem_singleton.1 hx]
    have := line_len ws
    rw [lineL, List.length_append, List.length_singleton] at this
    omega
theorem LsG.nil : LsG [] := ⟨[], ⟨rfl, fun _ h => nomatch h⟩, fun _ h => nomatch h⟩
def strL (s : ByteArray) : List UInt8 := s.data.toList
theorem sealW_no (c : UInt8) (hc : c.toNat < 48) (p : Nat) (H : ByteArray) (hH : isHashL H.data.toList = true) : ∀ w ∈ (sealW ((p : Nat) : Int) H).map (·.data.toList), c ∉ w := by
  intro w hw
  simp only [sealW, List.map_cons, List.map_nil, List.mem_cons, List.not_mem_nil, or_false] at hw
  rcases hw with rfl | rfl | rfl
  · intro hm
    simp only [wSeal, List.toList_toArray, List.mem_cons, List.not_mem_nil, or_false] at hm
    rcases hm with rfl | rfl | rfl | rfl <;> exact absurd hc (by decide)
  · exact itoa_no c hc p
  · exact hash_no c hc _ hH
theorem openW_no (c : UInt8) (hc : c.toNat < 48) (p v : Nat) (t : ByteArray) (ht : isSaltL t.data.toList = true) : ∀ w ∈ (openW ((p : Nat) : Int) ((v : Nat) : Int) t).map (·.data.toList), c ∉ w := by
  intro w hw
  simp only [openW, List.map_cons, List.map_nil, List.mem_cons, List.not_mem_nil, or_false] at hw
  rcases hw with rfl | rfl | rfl | rfl
  · intro hm
    simp only [wOpen, List.toList_toArray, List.mem_cons, List.not_mem_nil, or_false] at hm
    rcases hm with rfl | rfl | rfl | rfl <;> exact absurd hc (by decide)
  · exact itoa_no c hc p
  · exact itoa_no c hc v
  · exact salt_no c hc _ ht
theorem newW_no (c : UInt8) (hc : c.toNat < 48) (b n : Nat) : ∀ w ∈ (newW b n).map (·.data.toList), c ∉ w := by
  intro w hw
  simp only [newW, List.map_cons, List.map_nil, List.mem_cons, List.not_mem_nil, or_false] at hw
  rcases hw with rfl | rfl | rfl
  · intro hm
    simp only [wDraw, List.toList_toArray, List.mem_cons, List.not_mem_nil, or_false] at hm
    rcases hm with rfl | rfl | rfl | rfl <;> exact absurd hc (by decide)
  · exact itoa_no c hc b
  · exact itoa_no c hc n
theorem size_list (l : List UInt8) : (⟨l.toArray⟩ : ByteArray).size = l.length := by
  show l.toArray.size = _
  simp
theorem size_data (s : ByteArray) : s.size = s.data.toList.length := by
  show s.data.size = _
  simp
theorem LsG.seal {ls : List ByteArray} (h : LsG ls) (p : Nat) (hp : p ≤ 30) (H : ByteArray) (hH : isHashL H.data.toList = true) : LsG (ls ++ [⟨(lineL (sealW ((p : Nat) : Int) H)).toArray⟩]) := by
  refine h.add _ (sealW_no 10 (by decide) p H hH) ?_
  have h1 := itoa_len p (by omega)
  rw [isHashL, Bool.and_eq_true, decide_eq_true_eq] at hH
  simp only [sealW, lensW, size_list, size_data H, hH.1, show wSeal.size = 4 from rfl, List.length_cons, List.length_nil]
  omega
theorem LsG.open {ls : List ByteArray} (h : LsG ls) (p v : Nat) (hp : p ≤ 30) (hv : v ≤ 1000000000) (t : ByteArray) (ht : isSaltL t.data.toList = true) : LsG (ls ++ [⟨(lineL (openW ((p : Nat) : Int) ((v : Nat) : Int) t)).toArray⟩]) := by
  refine h.add _ (openW_no 10 (by decide) p v t ht) ?_
  have h1 := itoa_len p (by omega)
  have h2 := itoa_len v hv
  rw [isSaltL, Bool.and_eq_true, Bool.and_eq_true, decide_eq_true_eq, decide_eq_true_eq] at ht
  simp only [openW, lensW, size_list, size_data t, show wOpen.size = 4 from rfl, List.length_cons, List.length_nil]
  omega
theorem LsG.start (b m : Nat) (hb : b ≤ 1000000000) (hm : m ≤ 30) : LsG (DS.start b m).ls := by
  show LsG ([] ++ [⟨(lineL (newW b m)).toArray⟩])
  refine LsG.nil.add _ (newW_no 10 (by decide) b m) ?_
  have h1 := itoa_len b hb
  have h2 := itoa_len m (by omega)
  simp only [newW, lensW, size_list, show wDraw.size = 4 from rfl, List.length_cons, List.length_nil]
  omega
theorem LsG.close {ls : List ByteArray} (h : LsG ls) : LsG (ls ++ [⟨(lineL [wClose]).toArray⟩]) := by
  refine h.add _ (fun w hw => ?_) (by decide)
  simp only [List.map_cons, List.map_nil, List.mem_singleton] at hw
  subst hw
  decide
/-- Where a drawing stands, with its lines. -/
def SL (D : DS) (b m : Nat) (H : Nat → ByteArray) (v : Nat → Nat) (t : Nat → ByteArray) (i : Nat) (O : Nat → Prop) (c : Nat) : Prop := Stt D b m H v t i O c ∧ LsG D.ls
theorem da_sealL {w V : World} {B b q : Nat} {D : DS} (L : LaidW w) (k : DA w V B b q D) {bb m i c : Nat} {H : Nat → ByteArray} {v : Nat → Nat} {t : Nat → ByteArray} {O : Nat → Prop} (s : SL D bb m H v t i O c) (hm : m ≤ 30) (hc : c ≤ m) (hi : i < m) (hH : isHashL (H i).data.toList = true) :
    Calls Tryd.prog 25 #[.pointer (some ⟨b, 0, none⟩), .int .i64 ((i + 1 : Nat) : Int), .string (H i)] V fun e W' => e = .returned (.int .i64 0) ∧ ∃ D', SL D' bb m H v t (i + 1) O c ∧ DA w W' B b q D' ∧ OnlyD B b q V W' := by
  obtain ⟨hE, s'⟩ := s.1.seal hi hH
  have hl : LsG (D.seal ((i + 1 : Nat) : Int) (H i)).ls := by
    obtain ⟨x, hx⟩ : ∃ x, D.ps[i]? = some x := ⟨_, List.getElem?_eq_getElem (by rw [s.1.len]; exact hi)⟩
    rw [DS.seal, if_pos hE, DS.sealT, toNat_one, hx]
    exact s.2.seal (i + 1) (by omega) _ hH
  refine (SealD_c k.d ((i + 1 : Nat) : Int) (H i) k.le k.hb k.hq (k.laid L) (by rw [s.1.len]; exact hm) (size_hash _ hH) (by rw [s.1.ls]; omega) (by rw [s.1.sl]; omega)).mono ?_
  rintro e W' ⟨he, hd, ho⟩
  rw [hE] at he
  exact ⟨he, _, ⟨s', hl⟩, k.only hd ho, ho⟩
theorem da_openL {w V : World} {B b q : Nat} {D : DS} (L : LaidW w) (k : DA w V B b q D) {bb m c : Nat} {H : Nat → ByteArray} {v : Nat → Nat} {t : Nat → ByteArray} {O : Nat → Prop} (s : SL D bb m H v t m O c) (hm : m ≤ 30) (hbb : bb ≤ 1000000000) (hc : c < m) (j : Nat) (hj : j < m) (hO : ¬ O j) (hv : v j < bb) (ht : isSaltL (t j).data.toList = true) :
    Calls Tryd.prog 26 #[.pointer (some ⟨b, 0, none⟩), .agg #[.int .i64 ((j + 1 : Nat) : Int), .int .i64 ((v j : Nat) : Int), .string (t j)]] V fun e W' => e = .returned (.tuple #[.bool (sameB (openH ((j + 1 : Nat) : Int) ((v j : Nat) : Int) (t j)) (H j)), .int .i64 0]) ∧ ∃ D', SL D' bb m H v t m (fun k => O k ∨ k = j) (c + 1) ∧ DA w W' B b q D' ∧ OnlyD B b q V W' := by
  obtain ⟨hE, hR, s'⟩ := s.1.open hc j hj hO hv ht
  have hl : LsG (D.open ((j + 1 : Nat) : Int) ((v j : Nat) : Int) (t j)).ls := by
    obtain ⟨x, hx⟩ : ∃ x, D.ps[j]? = some x := ⟨_, List.getElem?_eq_getElem (by rw [s.1.len]; exact hj)⟩
    rw [DS.open, if_pos hE, DS.openT, toNat_one, hx]
    exact s.2.open (j + 1) (v j) (by omega) (by omega) _ ht
  refine (OpenD_c k.d ((j + 1 : Nat) : Int) ((v j : Nat) : Int) (t j) k.le k.hb k.hq (k.laid L) (by rw [s.1.len]; exact hm) (by rw [s.1.below]; exact hbb) (size_salt _ ht) (by rw [s.1.ls]; omega) (by rw [s.1.op]; omega)).mono ?_
  rintro e W' ⟨he, hd, ho⟩
  rw [if_pos hE, hE, hR] at he
  exact ⟨he, _, ⟨s', hl⟩, k.only hd ho, ho⟩
/-- The salt with another second byte. -/
def wrB (n : Nat) : ByteArray := ⟨[UInt8.ofNat (97 + n % 26), UInt8.ofNat ((48 + n % 10) ^^^ 1)].toArray⟩
theorem dig_x (d : Nat) (h : d < 10) : (48 + d) ^^^ 1 < 256 ∧ saltB (UInt8.ofNat ((48 + d) ^^^ 1)) = true ∧ UInt8.ofNat ((48 + d) ^^^ 1) ≠ UInt8.ofNat (48 + d) := by
  have : ∀ a : Fin 10, (48 + a.1) ^^^ 1 < 256 ∧ saltB (UInt8.ofNat ((48 + a.1) ^^^ 1)) = true ∧ UInt8.ofNat ((48 + a.1) ^^^ 1) ≠ UInt8.ofNat (48 + a.1) := by decide +kernel
  exact this ⟨d, h⟩
theorem wrB_salt (n : Nat) : isSaltL (wrB n).data.toList = true := by
  have h1 : n % 26 < 26 := Nat.mod_lt _ (by decide)
  have e1 : ∀ a : Fin 26, saltB (UInt8.ofNat (97 + a.1)) = true := by decide
  have q1 := e1 ⟨n % 26, h1⟩
  have q2 := (dig_x (n % 10) (Nat.mod_lt _ (by decide))).2.1
  simp only [wrB, isSaltL, List.toList_toArray, List.all_cons, List.all_nil, q1, q2]
  rfl
/-- What is opened. -/
def tF (sn wr : Nat) (j : Nat) : ByteArray := if wr.testBit j then wrB ((sn + j) % 256) else slF sn j
theorem tF_salt (sn wr j : Nat) : isSaltL (tF sn wr j).data.toList = true := by
  unfold tF slF
  split
  · exact wrB_salt _
  · exact sltB_salt _
theorem hashL_last (l : List UInt8) (a b : UInt8) (h : hashL (l ++ [a]) = hashL (l ++ [b])) : a = b := by
  refine hash_last h0N h0_lt l a b ?_
  have e := congrArg hexV h
  rwa [hashL, hashL, hex16, hex16, hexV_K 16 _ (hashN_lt _ _ h0_lt), hexV_K 16 _ (hashN_lt _ _ h0_lt)] at e
theorem wrong_hash (p v : Int) (n : Nat) : sameB (openH p v (wrB n)) (openH p v (sltB n)) = false := by
  rw [sameB, beq_eq_false_iff_ne]
  intro e
  simp only [openH, boxL, wrB, sltB, List.toList_toArray] at e
  refine (dig_x (n % 10) (Nat.mod_lt _ (by decide))).2.2 (hashL_last (Lib.itoa p ++ ([58] ++ (Lib.itoa v ++ ([58] ++ [UInt8.ofNat (97 + n % 26)])))) _ _ ?_)
  simpa using e
theorem right_open (vs : List Nat) (sn wr j : Nat) : sameB (openH ((j + 1 : Nat) : Int) ((vsF vs j : Nat) : Int) (tF sn wr j)) (hsF vs sn j) = !wr.testBit j := by
  unfold tF hsF
  cases wr.testBit j
  · exact sameB_self _
  · exact wrong_hash _ _ _
/-- How many open; whether somebody does not. -/
def cntS (si : Nat) : Nat → Nat
  | 0 => 0
  | i + 1 => cntS si i + (if si.testBit i then 0 else 1)
theorem cntS_le (si : Nat) : ∀ i, cntS si i ≤ i
  | 0 => Nat.le_refl _
  | i + 1 => by
    have := cntS_le si i
    rw [cntS]
    split <;> omega
def anyS (si : Nat) : Nat → Bool
  | 0 => false
  | i + 1 => anyS si i || si.testBit i
theorem anyS_cnt (si : Nat) : ∀ i, anyS si i = decide (cntS si i < i)
  | 0 => by simp [anyS, cntS]
  | i + 1 => by
    have := cntS_le si i
    rw [anyS, anyS_cnt si i, cntS]
    cases si.testBit i
    · simp
    · simp
      omega
theorem anyS_no (si : Nat) : ∀ i, anyS si i = false → ∀ j, j < i → si.testBit j = false
  | i + 1, h, j, hj => by
    rw [anyS, Bool.or_eq_false_iff] at h
    rcases Nat.lt_or_ge j i with hlt | hge
    · exact anyS_no si i h.1 j hlt
    · obtain rfl : j = i := by omega
      exact h.2
theorem devFrom_len (cl : Nat) : ∀ (l : List PS) (i : Nat), (devFrom cl i l).length ≤ l.length
  | [], _ => Nat.le_refl _
  | x :: l, i => by
    have := devFrom_len cl l (i + 1)
    rw [devFrom, List.length_append, List.length_cons]
    cases devOf cl i x <;> simp <;> omega
def sealL (vs : List Nat) (sn i : Nat) : List UInt8 := Lib.join ((sealW ((i + 1 : Nat) : Int) (hsF vs sn i)).map (·.data.toList)) [32]
def openL (vs : List Nat) (sn wr i : Nat) : List UInt8 := Lib.join ((openW ((i + 1 : Nat) : Int) ((vsF vs i : Nat) : Int) (tF sn wr i)).map (·.data.toList)) [32]
theorem LsB.body {ls : List ByteArray} {bs : List (List UInt8)} (h : LsB ls bs) {k : Nat} {ws : List ByteArray} (hk : ls[k]? = some ⟨(lineL ws).toArray⟩) : bs[k]? = some (Lib.join (ws.map (·.data.toList)) [32]) := by
  rw [h.ls, List.getElem?_map, Option.map_eq_some_iff] at hk
  obtain ⟨b, h1, h2⟩ := hk
  have h3 := congrArg (fun s : ByteArray => s.data.toList) h2
  simp only [List.toList_toArray, lineL] at h3
  rw [h1, List.append_cancel_right h3]
/-- The drawing in the end. -/
structure Fin6 (D : DS) (m : Nat) (vs : List Nat) (sn wr si : Nat) (bs : List (List UInt8)) : Prop where
  ls : LsB D.ls bs
  sm : ∀ x ∈ bs, x.length ≤ 100
  l1 : 1 ≤ D.ls.length
  l14 : D.ls.length ≤ 14
  ps : D.ps.length = m
  ov : D.over = true
  be : D.below = 256
  dev : ∀ i, i < m → ∃ x, D.ps[i]? = some x ∧ (((wr.testBit i || si.testBit i) = false ∧ devOf D.cl i x = none) ∨ ((wr.testBit i || si.testBit i) = true ∧ ∃ n l, bs[n]? = some (sealL vs sn i) ∧
    ((si.testBit i = false ∧ wr.testBit i = true ∧ devOf D.cl i x = some ⟨i + 1, 1, n + 1, l + 1⟩ ∧ bs[l]? = some (openL vs sn wr i)) ∨ (si.testBit i = true ∧ devOf D.cl i x = some ⟨i + 1, 2, n + 1, l + 1⟩ ∧ bs[l]? = some [99, 108, 111, 115, 101]))))
theorem SL.fin {D : DS} {m : Nat} {vs : List Nat} {sn wr si : Nat} (hm : 1 ≤ m ∧ m ≤ 6) (s : SL D 256 m (hsF vs sn) (vsF vs) (tF sn wr) m (fun j => j < m ∧ si.testBit j = false) (cntS si m)) : D.running = anyS si m ∧ ∃ bs, Fin6 D.close m vs sn wr si bs := by
  have hcm := cntS_le si m
  have hrun : D.running = anyS si m := by
    rw [anyS_cnt, DS.running, DS.over, s.1.sl, s.1.len, s.1.op, s.1.cl]
    by_cases h : cntS si m = m
    · rw [h]
      simp
    · rw [decide_eq_true (show cntS si m < m by omega), show (cntS si m == m) = false by simpa using h]
      simp
  refine ⟨hrun, ?_⟩
  have hps : ∀ i, i < m → ∃ x, D.ps[i]? = some x := fun i hi => ⟨_, List.getElem?_eq_getElem (by rw [s.1.len]; exact hi)⟩
  rw [DS.close, hrun]
  cases hany : anyS si m with
  | false =>
    rw [if_neg (by simp)]
    obtain ⟨bs, h1, h2⟩ := s.2
    have hno := anyS_no si m hany
    have hc : cntS si m = m := by
      rw [anyS_cnt, decide_eq_false_iff_not] at hany
      omega
    refine ⟨bs, h1, h2, by rw [s.1.ls]; omega, by rw [s.1.ls]; omega, s.1.len, by rw [DS.over, s.1.op, s.1.len, hc]; simp, s.1.below, fun i hi => ?_⟩
    obtain ⟨x, hx⟩ := hps i hi
    refine ⟨x, hx, ?_⟩
    obtain ⟨⟨k, ho, hk⟩, hr, _⟩ := s.1.op1 i x hx ⟨hi, hno i hi⟩
    obtain ⟨_, n, hn1, hn2⟩ := s.1.sd i x hx hi
    rw [right_open] at hr
    rw [hno i hi, Bool.or_false]
    cases hw : wr.testBit i with
    | false =>
      refine .inl ⟨rfl, ?_⟩
      rw [hw] at hr
      simp [devOf, hr]
      omega
    | true =>
      refine .inr ⟨rfl, n, k, h1.body hn2, .inl ⟨rfl, rfl, ?_, h1.body hk⟩⟩
      rw [hw] at hr
      simp [devOf, hr, ho, hn1]
  | true =>
    rw [if_pos rfl]
    obtain ⟨bs, h1, h2⟩ := s.2.close
    have hc : cntS si m < m := by
      rw [anyS_cnt, decide_eq_true_eq] at hany
      exact hany
    have hls : ∀ (k : Nat) (y : ByteArray), D.ls[k]? = some y → (D.ls ++ [(⟨(lineL [wClose]).toArray⟩ : ByteArray)])[k]? = some y := fun k y hk => by
      rw [List.getElem?_append_left (List.getElem?_eq_some_iff.1 hk).1]
      exact hk
    refine ⟨bs, h1, h2, ?_, ?_, s.1.len, ?_, s.1.below, fun i hi => ?_⟩
    · show 1 ≤ (D.ls ++ [_]).length
      simp
    · show (D.ls ++ [_]).length ≤ 14
      rw [List.length_append, s.1.ls, List.length_singleton]
      omega
    · show (decide (0 < D.ls.length + 1) || _) = true
      simp
    obtain ⟨x, hx⟩ := hps i hi
    refine ⟨x, hx, ?_⟩
    show (_ ∧ devOf (D.ls.length + 1) i x = none) ∨ (_ ∧ ∃ n l, _ ∧ ((_ ∧ _ ∧ devOf (D.ls.length + 1) i x = _ ∧ _) ∨ (_ ∧ devOf (D.ls.length + 1) i x = _ ∧ _)))
    obtain ⟨_, n, hn1, hn2⟩ := s.1.sd i x hx hi
    cases hsi : si.testBit i with
    | true =>
      have h0 := s.1.op0 i x hx (fun h => by rw [hsi] at h; exact absurd h.2 (by simp))
      refine .inr ⟨by simp, n, D.ls.length, h1.body (hls _ _ hn2), .inr ⟨rfl, ?_, ?_⟩⟩
      · simp [devOf, h0, hn1]
      · exact h1.body (ws := [wClose]) (by rw [List.getElem?_append_right (Nat.le_refl _)]; simp)
    | false =>
      obtain ⟨⟨k, ho, hk⟩, hr, _⟩ := s.1.op1 i x hx ⟨hi, hsi⟩
      rw [right_open] at hr
      cases hw : wr.testBit i with
      | false =>
        refine .inl ⟨rfl, ?_⟩
        rw [hw] at hr
        simp [devOf, hr]
        omega
      | true =>
        refine .inr ⟨rfl, n, k, h1.body (hls _ _ hn2), .inl ⟨rfl, rfl, ?_, h1.body (hls _ _ hk)⟩⟩
        rw [hw] at hr
        simp [devOf, hr, ho, hn1]
theorem join_le (N : Nat) (c : UInt8) : ∀ (r : List (List UInt8)), (∀ x ∈ r, x.length ≤ N) → (Lib.join r [c]).length ≤ r.length * (N + 1)
  | [], _ => by simp [Lib.join_nil]
  | [w], h => by
    have := h w (List.mem_cons_self)
    rw [Lib.join_one]
    simp
    omega
  | w :: x :: r, h => by
    have h1 := h w (List.mem_cons_self)
    have h2 := join_le N c (x :: r) fun y hy => h y (List.mem_cons_of_mem _ hy)
    rw [join_cons2, List.length_append, List.length_append, List.length_singleton]
    rw [List.length_cons (a := w), Nat.add_mul, Nat.one_mul]
    omega
theorem Fin6.size {D : DS} {m : Nat} {vs : List Nat} {sn wr si : Nat} {bs : List (List UInt8)} (h : Fin6 D m vs sn wr si bs) : (Lib.join (bs ++ [[]]) [10]).length ≤ 100000 := by
  have h1 := join_le 100 10 (bs ++ [[]]) fun x hx => (List.mem_append.1 hx).elim (h.sm x) fun hx => by rw [List.mem_singleton.1 hx]; simp
  have h2 := h.l14
  rw [h.ls.ls, List.length_map] at h2
  rw [List.length_append, List.length_singleton] at h1
  omega
theorem Fin6.devs {D : DS} {m : Nat} {vs : List Nat} {sn wr si : Nat} {bs : List (List UInt8)} (h : Fin6 D m vs sn wr si bs) (hm : m ≤ 6) : D.devs.length ≤ 6 := by
  have := devFrom_len D.cl D.ps 0
  rw [h.ps] at this
  exact Nat.le_trans this hm
end Go.Proofs.YtbcileppebpamaaDoor
