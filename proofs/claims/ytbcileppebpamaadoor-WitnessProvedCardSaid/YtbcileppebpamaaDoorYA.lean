/- Walks of law 11: salted, drawn. -/
import Derived.Test.YtbcileppebpamaaDoorWZ
set_option linter.unusedSimpArgs false
set_option linter.unusedVariables false
namespace Go.Proofs.YtbcileppebpamaaDoor
open Go Go.RowKit Go.Shelf
set_option maxRecDepth 100000

def sltB (n : Nat) : ByteArray := ⟨[UInt8.ofNat (97 + n % 26), UInt8.ofNat (48 + n % 10)].toArray⟩
theorem sltB_salt (n : Nat) : isSaltL (sltB n).data.toList = true := by
  have h1 : n % 26 < 26 := Nat.mod_lt _ (by decide)
  have h2 : n % 10 < 10 := Nat.mod_lt _ (by decide)
  have e1 : ∀ a : Fin 26, saltB (UInt8.ofNat (97 + a.1)) = true := by decide
  have e2 : ∀ a : Fin 10, saltB (UInt8.ofNat (48 + a.1)) = true := by decide
  have q1 := e1 ⟨n % 26, h1⟩
  have q2 := e2 ⟨n % 10, h2⟩
  simp only [sltB, isSaltL, List.toList_toArray, List.all_cons, List.all_nil, q1, q2]
  rfl
theorem salted_c (n : Nat) (hn : n < 256) (w : World) : Calls Tryd.prog 24 #[.int .u8 ((n : Nat) : Int)] w fun e w' => e = .returned (.string (sltB n)) ∧ Below w.heap.size w w' := by
  have h1 : Int.tmod ((n : Nat) : Int) 26 = ((n % 26 : Nat) : Int) := tmod_nat n 26
  have h2 : Int.tmod ((n : Nat) : Int) 10 = ((n % 10 : Nat) : Int) := tmod_nat n 10
  unfold sltB
  have hl1 : n % 26 < 26 := Nat.mod_lt _ (by decide)
  have hl2 : n % 10 < 10 := Nat.mod_lt _ (by decide)
  obtain ⟨a, ha⟩ : ∃ a, n % 26 = a := ⟨_, rfl⟩
  obtain ⟨b, hb⟩ : ∃ b, n % 10 = b := ⟨_, rfl⟩
  rw [ha] at h1 hl1 ⊢
  rw [hb] at h2 hl2 ⊢
  have wu : ∀ k : Nat, k < 256 → IntKind.u8.wrap ((k : Nat) : Int) = ((k : Nat) : Int) := fun k hk => by
    show ((k : Nat) : Int) % 256 = _
    omega
  have wa := wu a (by omega)
  have wb := wu b (by omega)
  obtain ⟨c, hc⟩ : ∃ c, 97 + a = c := ⟨_, rfl⟩
  obtain ⟨d, hd⟩ : ∃ d, 48 + b = d := ⟨_, rfl⟩
  have wc : IntKind.u8.wrap (97 + ((a : Nat) : Int)) = ((c : Nat) : Int) := by
    rw [← wu c (by omega)]
    congr 1
    omega
  have wd : IntKind.u8.wrap (48 + ((b : Nat) : Int)) = ((d : Nat) : Int) := by
    rw [← wu d (by omega)]
    congr 1
    omega
  rw [hc, hd]
  have hc2 : (UInt8.ofNat c).toNat = c := by simp; omega
  have hd2 : (UInt8.ofNat d).toNat = d := by simp; omega
  have hal : Below w.heap.size w (w.alloc (.cells #[.int .u8 ((c : Nat) : Int), .int .u8 ((d : Nat) : Int)] 5)) := (Below.refl _ _).alloc (Nat.le_refl _) _
  have hnw := heap_alloc_new w (.cells #[.int .u8 ((c : Nat) : Int), .int .u8 ((d : Nat) : Int)] 5)
  have hcv := run_convert_bytes_back (P := Tryd.prog) (w.alloc (.cells #[.int .u8 ((c : Nat) : Int), .int .u8 ((d : Nat) : Int)] 5)) 40 9 5 ⟨w.heap.size, 0, none⟩ 2 [UInt8.ofNat c, UInt8.ofNat d] Tryd.underlying40 Tryd.underlying5 Tryd.underlying9 (fun j hj => by
    rcases (show j = 0 ∨ j = 1 by have : j < 2 := hj; omega) with rfl | rfl
    · have := cell_of_row _ _ 0 _ _ _ hnw
      rw [show (⟨w.heap.size, 0, none⟩ : Addr).add 0 = ⟨w.heap.size, 0, none⟩ from rfl, this]
      simp [hc2]
    · have := cell_of_row _ _ 1 _ _ _ hnw
      rw [show (⟨w.heap.size, 0, none⟩ : Addr).add 1 = ⟨w.heap.size, 1, none⟩ from rfl, this]
      simp [hd2])
  rw [show [UInt8.ofNat c, UInt8.ofNat d].length = 2 from rfl] at hcv
  have HAL := hid hal
  clear hal hnw hc2 hd2 ha hb hc hd wu
  go_enter Tryd.func24, Tryd.ntmps24
  go_wp2_with fail
  go_ret
  exact ⟨rfl, HAL.out⟩
theorem exec_addC {ev : Operand → Value} {o : Oper} {x y : Operand} {a : Nat} {W : World} (ho : o.op = .binOp .add 3 x y 3) (hx : ev x = .int .i64 ((a : Nat) : Int)) (hy : ev y = .int .i64 1) (hl : a < 1000000000) : (execOp ev o).run Tryd.prog W = .ok (.value (.int .i64 ((a + 1 : Nat) : Int))) W :=
  exec_addN (b := 1) (c := a + 1) ho hx hy rfl (by omega)
theorem exec_ixI {ev : Operand → Value} {o : Oper} {x y : Operand} {p : Option Addr} {m cc b oo i : Nat} {W : World} (ho : o.op = .indexAddr 33 x y) (hx : ev x = .slice p m cc) (hy : ev y = .int .i64 ((i : Nat) : Int)) (hp : p = some ⟨b, oo, none⟩) (hi : i < m) : (execOp ev o).run Tryd.prog W = .ok (.value (.pointer (some ⟨b, oo + i, none⟩))) W := by
  subst hp
  have h0 : (0 : Int) ≤ ((i : Nat) : Int) := by omega
  have h1 : ((i : Nat) : Int) < ((m : Nat) : Int) := by omega
  simp [execOp, ho, hx, hy]
  go_simp
theorem exec_cvU {ev : Operand → Value} {o : Oper} {x : Operand} {c : Nat} {W : World} (ho : o.op = .convert 3 5 x) (hx : ev x = .int .i64 ((c : Nat) : Int)) (hc : c < 256) : (execOp ev o).run Tryd.prog W = .ok (.value (.int .u8 ((c : Nat) : Int))) W := by
  have hw : IntKind.u8.wrap ((c : Nat) : Int) = ((c : Nat) : Int) := by show ((c : Nat) : Int) % 256 = _; omega
  simp [execOp, ho, hx]
  go_simp
theorem exec_addU {ev : Operand → Value} {o : Oper} {x y : Operand} {a b c : Nat} {W : World} (ho : o.op = .binOp .add 5 x y 5) (hx : ev x = .int .u8 ((a : Nat) : Int)) (hy : ev y = .int .u8 ((b : Nat) : Int)) (hc : (a + b) % 256 = c) : (execOp ev o).run Tryd.prog W = .ok (.value (.int .u8 ((c : Nat) : Int))) W := by
  have hw : IntKind.u8.wrap (((a : Nat) : Int) + ((b : Nat) : Int)) = ((c : Nat) : Int) := by show (((a : Nat) : Int) + ((b : Nat) : Int)) % 256 = _; omega
  simp [execOp, ho, hx, hy]
  go_simp
theorem exec_build {ev : Operand → Value} {o : Oper} {x y z : Operand} {a b : Int} {s : ByteArray} {W : World} (ho : o.op = .build 23 #[(0, x), (1, y), (2, z)]) (hx : ev x = .int .i64 a) (hy : ev y = .int .i64 b) (hz : ev z = .string s) : (execOp ev o).run Tryd.prog W = .ok (.value (.agg #[.int .i64 a, .int .i64 b, .string s])) W := by
  simp [execOp, ho, hx, hy, hz]
  go_simp
theorem Stt.congr {D : DS} {b m : Nat} {H : Nat → ByteArray} {v : Nat → Nat} {t : Nat → ByteArray} {i : Nat} {O O' : Nat → Prop} {c : Nat} (h : Stt D b m H v t i O c) (hO : ∀ j, j < m → (O j ↔ O' j)) : Stt D b m H v t i O' c :=
  have hj : ∀ j p, D.ps[j]? = some p → j < m := fun j p hp => by rw [← h.len]; exact (List.getElem?_eq_some_iff.1 hp).1
  ⟨h.below, h.len, h.sl, h.op, h.cl, h.ls, h.un, h.sd, fun j p hp hn => h.op0 j p hp fun ho => hn ((hO j (hj j p hp)).1 ho), fun j p hp ho => h.op1 j p hp ((hO j (hj j p hp)).2 ho)⟩
/-- The value, the salt, the hash of a person. -/
def vsF (vs : List Nat) (j : Nat) : Nat := vs.getD j 0
def slF (n : Nat) (j : Nat) : ByteArray := sltB ((n + j) % 256)
def hsF (vs : List Nat) (n : Nat) (j : Nat) : ByteArray := openH ((j + 1 : Nat) : Int) ((vsF vs j : Nat) : Int) (slF n j)
theorem exec_addD {ev : Operand → Value} {o : Oper} {x y : Operand} {a c : Nat} {W : World} (ho : o.op = .binOp .add 3 x y 3) (hx : ev x = .int .i64 ((a : Nat) : Int)) (hy : ev y = .int .i64 1) (hc : a + 1 = c) (hl : a < 1000000000) : (execOp ev o).run Tryd.prog W = .ok (.value (.int .i64 ((c : Nat) : Int))) W :=
  exec_addN (b := 1) (c := c) ho hx hy hc (by omega)
theorem box_one (a b : Int) (s : ByteArray) : (#[.int .i64 a, .int .i64 b, .string s] : Array Value).all (·.oneCell') = true := by
  simp [Value.oneCell']
theorem exec_allocBox {ev : Operand → Value} {o : Oper} {W : World} (ho : o.op = .alloc 23) : (execOp ev o).run Tryd.prog W = .ok (.value (.pointer (some ⟨W.heap.size, 0, none⟩))) (W.alloc (.cells #[.int .i64 0, .int .i64 0, .string ⟨#[]⟩] 23)) := by
  simp [execOp, ho]
  go_simp
/-- Known values, but for one. -/
def DK (k : Nat) (vals : List Value) (P : Value → World → Prop) (j : Nat) (v : Value) (W : World) : Prop := if j = k then P v W else v = vals.getD j undef
theorem DK.mono {k : Nat} {vals : List Value} {P : Value → World → Prop} (hP : ∀ v w w', Below w.heap.size w w' → P v w → P v w') : ∀ j v w w', Below w.heap.size w w' → DK k vals P j v w → DK k vals P j v w' := fun j v w w' hb h => by
  unfold DK at h ⊢
  split
  · rename_i e
    rw [if_pos e] at h
    exact hP v w w' hb h
  · rename_i e
    rw [if_neg e] at h
    exact h
def BoxNew (n : Nat) (v : Value) (W : World) : Prop := ∃ z, n ≤ z ∧ v = .pointer (some ⟨z, 0, none⟩) ∧ W.heap[z]? = some (.cells #[.int .i64 0, .int .i64 0, .string ⟨#[]⟩] 23 (0, 0))
theorem BoxNew.mono (n : Nat) : ∀ v w w', Below w.heap.size w w' → BoxNew n v w → BoxNew n v w' := fun _ _ _ hb ⟨z, h1, h2, h3⟩ => ⟨z, h1, h2, heap_below hb h3 (heap_lt h3)⟩
set_option maxHeartbeats 8000000 in
theorem drawn_c (b : Nat) (hb : 1 ≤ b ∧ b ≤ 1000000000) (vs : List Nat) (hvs : ∀ x ∈ vs, x < b) (hvl : 1 ≤ vs.length ∧ vs.length ≤ 30) (sn : Nat) (hsn : sn < 256) (u : Value) (w : World) (hr : ReadsA w u (vs.map fun x => ((x : Nat) : Int))) (L : LaidW w) :
    Calls Tryd.prog 20 #[.int .i64 ((b : Nat) : Int), u, .int .u8 ((sn : Nat) : Int)] w fun e W' => e = .returned (.pointer (some ⟨w.heap.size + 1, 0, none⟩)) ∧ ∃ D, DA w W' w.heap.size (w.heap.size + 1) w.heap.size D ∧ Stt D b vs.length (hsF vs sn) (vsF vs) (slF sn) vs.length (fun j => j < vs.length) vs.length := by
  obtain ⟨p, cc, rfl⟩ := hr.form
  rw [List.length_map] at hr ⊢
  obtain ⟨m, hm⟩ : ∃ m, vs.length = m := ⟨_, rfl⟩
  rw [hm] at hvl hr ⊢
  have HM := hid hm
  have HR := hid hr
  have HVS := hid hvs
  have HLL := hid L
  have HN := hid (New_c b m hb hvl w L)
  clear hr hm hvs L
  go_enter Tryd.func20, Tryd.ntmps20
  go_wp2_with (go_at_call 23; refine HN.out.mono ?_; rintro e w1 ⟨rfl, hd1, hb1⟩; have HD1 := hid (And.intro hd1 hb1); clear hd1 hb1)
  obtain ⟨B, hB⟩ : ∃ B, w.heap.size = B := ⟨_, rfl⟩
  obtain ⟨bx, hbx⟩ : ∃ bx, B + 1 = bx := ⟨_, rfl⟩
  have hda : DA w w1 B bx B (DS.start b m) := by
    subst hB hbx
    exact ⟨HD1.out.1, HD1.out.2, Nat.le_refl _, HD1.out.2.size, by omega, Nat.le_refl _⟩
  rw [hB, hbx]
  have HBX := hid (And.intro hB hbx)
  have HDA := hid hda
  have HS0 := hid (Stt.start b m (hsF vs sn) (vsF vs) (slF sn))
  clear hB hbx hda HN HD1
  go_loopw [9] (fun ix wr => ∃ i : Nat, i ≤ m ∧ ix = .int .i64 ((i : Nat) : Int) ∧ ∃ D, DA w wr B bx B D ∧ Stt D b m (hsF vs sn) (vsF vs) (slF sn) i (fun _ => False) 0) (fun ix _ => m - (intOf ix).toNat)
  case atStart => exact ⟨0, by omega, rfl, _, HDA.out, HS0.out⟩
  case round =>
    clear HDA HS0
    obtain ⟨i, hi, rfl, D, hd, hst⟩ := hrel
    rcases Nat.lt_or_ge i m with hlt | hge
    · have hin : decide (((i : Nat) : Int) < ((m : Nat) : Int)) = true := decide_eq_true (by omega)
      have hin' : ((i : Nat) : Int) < ((m : Nat) : Int) := by omega
      have hiw : IntKind.i64.wrap (((i : Nat) : Int) + 1) = ((i + 1 : Nat) : Int) := (IntWalk.i64_in _ (by omega)).trans (by omega)
      have hiL : i < vs.length := by rw [HM.out]; exact hlt
      obtain ⟨bk, o, hpe, hbk, hc⟩ := HR.out.at' (i := i) (by rw [List.length_map]; exact hiL)
      obtain ⟨x, hx⟩ : ∃ x, vsF vs i = x := ⟨_, rfl⟩
      have hxv : vs[i] = x := by rw [← hx, vsF, List.getD_eq_getElem?_getD, List.getElem?_eq_getElem hiL, Option.getD_some]
      have hxb : x < b := by rw [← hxv]; exact HVS.out _ (List.getElem_mem hiL)
      rw [List.getElem_map, hxv] at hc
      have hid0 : ∀ w', Below wr.heap.size wr w' → w'.cell? ⟨bk, o + i, none⟩ = some (.int .i64 ((x : Nat) : Int)) := fun w' hb' =>
        ((hd.bw.trans (hb'.mono hd.bw.size)).cell (p := ⟨bk, o + i, none⟩) hbk).trans hc
      obtain ⟨si, hsi⟩ : ∃ si, (sn + i) % 256 = si := ⟨_, rfl⟩
      have hsl : si < 256 := by omega
      obtain ⟨tx, htx⟩ : ∃ t, slF sn i = t := ⟨_, rfl⟩
      have HST := hid (fun W => salted_c si hsl W)
      have htx' : sltB si = tx := by rw [← htx, slF, hsi]
      rw [htx'] at HST
      obtain ⟨hx3, hhx⟩ : ∃ h, hsF vs sn i = h := ⟨_, rfl⟩
      have HSL := hid (fun W (hW : Below wr.heap.size wr W) => by
        have h := box_hash (i + 1) x (by omega) (by omega) tx (by rw [← htx']; exact sltB_salt si) W (HLL.out.below (hd.bw.trans (hW.mono hd.bw.size)))
        rw [show openH ((i + 1 : Nat) : Int) ((x : Nat) : Int) tx = hx3 by rw [← hhx, hsF, hx, htx]] at h
        exact h)
      have HSEAL := hid (fun W D (k : DA w W B bx B D) (s : Stt D b m (hsF vs sn) (vsF vs) (slF sn) i (fun _ => False) 0) => by
        have h := da_seal HLL.out k s hvl.2 (by omega) hlt (isHash_openH _ _ _)
        rw [hhx] at h
        exact h)
      have HPE := hid hpe
      clear hpe
      have HD := hid (And.intro hd hst)
      have HHX := hid (And.intro hhx (And.intro hx htx))
      clear hd hst hc hx hxv hhx htx htx'
      go_upto_region 7 with fail
      refine grow_vals 17 [36, 37, 38, 39, 40, 41, 42, 43, 44, 45, 46, 47, 48, 35, 49, 50, 10] [(.int .i64 ((i : Nat) : Int)), (.int .i64 ((i + 1 : Nat) : Int)), (.slice p m cc), (.int .i64 ((i : Nat) : Int)), (.pointer (some ⟨bk, o + i, none⟩)), (.int .i64 ((x : Nat) : Int)), (.int .u8 ((sn : Nat) : Int)), (.int .i64 ((i : Nat) : Int)), (.int .u8 ((i : Nat) : Int)), (.int .u8 ((si : Nat) : Int)), (.string tx), (.agg #[.int .i64 ((i + 1 : Nat) : Int), .int .i64 ((x : Nat) : Int), .string tx]), (.tuple #[.string hx3, .int .i64 0]), (.tuple #[.string hx3, .int .i64 0]), (.string hx3), (.int .i64 0), (.string hx3)] (by kernel_rfl) (by kernel_rfl) ?_ ?_
      · intro jq oj hjq hoj a' w' hb' he hdep Kq hKq
        have c0 := hid0 w' hb'
        have hjq' : jq = 0 ∨ jq = 1 ∨ jq = 2 ∨ jq = 3 ∨ jq = 4 ∨ jq = 5 ∨ jq = 6 ∨ jq = 7 ∨ jq = 8 ∨ jq = 9 ∨ jq = 10 ∨ jq = 11 ∨ jq = 12 ∨ jq = 13 ∨ jq = 14 ∨ jq = 15 ∨ jq = 16 := by omega
        rcases hjq' with rfl | rfl | rfl | rfl | rfl | rfl | rfl | rfl | rfl | rfl | rfl | rfl | rfl | rfl | rfl | rfl | rfl
        · obtain rfl := Option.some.inj hoj
          exact wpO_val _ (exec_mv rfl ((he 9 (by decide)).trans rfl : a'.eval (.tmp 9) = (.int .i64 ((i : Nat) : Int)))) (hKq _ (Below.refl _ _))
        · obtain rfl := Option.some.inj hoj
          exact wpO_val _ (exec_addC rfl (hdep ⟨0, .data⟩ (by simp) rfl : a'.eval (.tmp 36) = (.int .i64 ((i : Nat) : Int))) rfl (by omega)) (hKq _ (Below.refl _ _))
        · obtain rfl := Option.some.inj hoj
          exact wpO_val _ (exec_mv rfl ((he 1 (by decide)).trans rfl : a'.eval (.tmp 1) = (.slice p m cc))) (hKq _ (Below.refl _ _))
        · obtain rfl := Option.some.inj hoj
          exact wpO_val _ (exec_mv rfl ((he 9 (by decide)).trans rfl : a'.eval (.tmp 9) = (.int .i64 ((i : Nat) : Int)))) (hKq _ (Below.refl _ _))
        · obtain rfl := Option.some.inj hoj
          exact wpO_val _ (exec_ixI rfl (hdep ⟨2, .data⟩ (by simp) rfl : a'.eval (.tmp 38) = (.slice p m cc)) (hdep ⟨3, .data⟩ (by simp) rfl : a'.eval (.tmp 39) = (.int .i64 ((i : Nat) : Int))) HPE.out hlt) (hKq _ (Below.refl _ _))
        · obtain rfl := Option.some.inj hoj
          exact wpO_val _ (exec_ldcellB rfl (hdep ⟨4, .data⟩ (by simp) rfl : a'.eval (.tmp 40) = (.pointer (some ⟨bk, o + i, none⟩))) c0) (hKq _ (Below.refl _ _))
        · obtain rfl := Option.some.inj hoj
          exact wpO_val _ (exec_mv rfl ((he 2 (by decide)).trans rfl : a'.eval (.tmp 2) = (.int .u8 ((sn : Nat) : Int)))) (hKq _ (Below.refl _ _))
        · obtain rfl := Option.some.inj hoj
          exact wpO_val _ (exec_mv rfl ((he 9 (by decide)).trans rfl : a'.eval (.tmp 9) = (.int .i64 ((i : Nat) : Int)))) (hKq _ (Below.refl _ _))
        · obtain rfl := Option.some.inj hoj
          exact wpO_val _ (exec_cvU rfl (hdep ⟨7, .data⟩ (by simp) rfl : a'.eval (.tmp 43) = (.int .i64 ((i : Nat) : Int))) (by omega)) (hKq _ (Below.refl _ _))
        · obtain rfl := Option.some.inj hoj
          exact wpO_val _ (exec_addU rfl (hdep ⟨6, .data⟩ (by simp) rfl : a'.eval (.tmp 42) = (.int .u8 ((sn : Nat) : Int))) (hdep ⟨8, .data⟩ (by simp) rfl : a'.eval (.tmp 44) = (.int .u8 ((i : Nat) : Int))) hsi) (hKq _ (Below.refl _ _))
        · obtain rfl := Option.some.inj hoj
          exact wpO_call _ _ (exec_call1 rfl rfl (hdep ⟨9, .data⟩ (by simp) rfl : a'.eval (.tmp 45) = (.int .u8 ((si : Nat) : Int))) (by go_simp)) ((HST.out w').mono fun e w'' ⟨h1, h2⟩ => ⟨_, h1, hKq w'' h2⟩)
        · obtain rfl := Option.some.inj hoj
          exact wpO_val _ (exec_build rfl (hdep ⟨1, .data⟩ (by simp) rfl : a'.eval (.tmp 37) = (.int .i64 ((i + 1 : Nat) : Int))) (hdep ⟨5, .data⟩ (by simp) rfl : a'.eval (.tmp 41) = (.int .i64 ((x : Nat) : Int))) (hdep ⟨10, .data⟩ (by simp) rfl : a'.eval (.tmp 46) = (.string tx))) (hKq _ (Below.refl _ _))
        · obtain rfl := Option.some.inj hoj
          exact wpO_call _ _ (exec_call1 rfl rfl (hdep ⟨11, .data⟩ (by simp) rfl : a'.eval (.tmp 47) = (.agg #[.int .i64 ((i + 1 : Nat) : Int), .int .i64 ((x : Nat) : Int), .string tx])) (by go_simp)) ((HSL.out w' hb').mono fun e w'' ⟨h1, h2⟩ => ⟨_, h1, hKq w'' h2⟩)
        · obtain rfl := Option.some.inj hoj
          exact wpO_val _ (exec_mv rfl (hdep ⟨12, .data⟩ (by simp) rfl : a'.eval (.tmp 48) = (.tuple #[.string hx3, .int .i64 0]))) (hKq _ (Below.refl _ _))
        · obtain rfl := Option.some.inj hoj
          exact wpO_val _ (exec_ext rfl (hdep ⟨13, .data⟩ (by simp) rfl : a'.eval (.tmp 35) = (.tuple #[.string hx3, .int .i64 0])) rfl) (hKq _ (Below.refl _ _))
        · obtain rfl := Option.some.inj hoj
          exact wpO_val _ (exec_ext rfl (hdep ⟨13, .data⟩ (by simp) rfl : a'.eval (.tmp 35) = (.tuple #[.string hx3, .int .i64 0])) rfl) (hKq _ (Below.refl _ _))
        · obtain rfl := Option.some.inj hoj
          exact wpO_val _ (exec_asg rfl (hdep ⟨14, .data⟩ (by simp) rfl : a'.eval (.tmp 49) = (.string hx3))) (hKq _ (Below.refl _ _))
      · intro w6 hb6
        simp only [puts, Act.put, List.setIfInBounds_toArray, List.set_cons_zero, List.set_cons_succ, List.drop_succ_cons, List.drop_zero, Nat.zero_add, Nat.reduceAdd, List.getD_cons_zero, List.getD_cons_succ]
        have HB6 := hid hb6
        clear hb6
        have hda6 := HD.out.1.below HB6.out
        have hcs := HSEAL.out w6 D hda6 HD.out.2
        have HCS := hid hcs
        clear hcs hda6
        go_wp2_with (go_at_call 25; refine HCS.out.mono ?_; rintro e w7 ⟨rfl, D', hs7, hda7, _⟩; have HS7 := hid hs7; have HD7 := hid hda7; clear hs7 hda7)
        go_roundw
        case rel => exact ⟨i + 1, by omega, rfl, D', HD7.out, HS7.out⟩
        case measure => simp only [intOf, Int.toNat_natCast]; omega
    · obtain rfl : i = m := by omega
      have hin : ¬ ((i : Nat) : Int) < ((i : Nat) : Int) := by omega
      have hiw : IntKind.i64.wrap (((i : Nat) : Int) - 1) = ((i : Nat) : Int) - 1 := IntWalk.i64_in _ (by omega)
      have hst2 := hst.congr (O' := fun j => i ≤ j + 0) (fun j hj => ⟨fun h => h.elim, fun h => by omega⟩)
      have HD := hid (And.intro hd hst2)
      clear hd hst hst2
      go_wp2_with fail
      go_loopw [12] (fun ix wr => ∃ k : Nat, k ≤ i ∧ ix = .int .i64 (((i - k : Nat) : Int) - 1) ∧ ∃ D, DA w wr B bx B D ∧ Stt D b i (hsF vs sn) (vsF vs) (slF sn) i (fun j => i ≤ j + k) k) (fun ix _ => (intOf ix + 1).toNat)
      case atStart => exact ⟨0, by omega, rfl, _, HD.out.1, HD.out.2⟩
      case round =>
        clear HD
        obtain ⟨k, hk, rfl, D, hd, hst⟩ := hrel
        rcases Nat.lt_or_ge k i with hlt | hge
        · obtain ⟨j, hj⟩ : ∃ j, i - k - 1 = j := ⟨_, rfl⟩
          have hji : ((i - k : Nat) : Int) - 1 = ((j : Nat) : Int) := by omega
          rw [hji]
          have hj0 : (0 : Int) ≤ ((j : Nat) : Int) := by omega
          have hjd : decide ((0 : Int) ≤ ((j : Nat) : Int)) = true := decide_eq_true hj0
          have hjw : IntKind.i64.wrap (((j : Nat) : Int) - 1) = ((j : Nat) : Int) - 1 := IntWalk.i64_in _ (by omega)
          have hlt2 : j < i := by omega
          obtain ⟨j1, hj1⟩ : ∃ j1, j + 1 = j1 := ⟨_, rfl⟩
          have hjL : j < vs.length := by rw [HM.out]; exact hlt2
          obtain ⟨bk, o, hpe, hbk, hc⟩ := HR.out.at' (i := j) (by rw [List.length_map]; exact hjL)
          obtain ⟨x, hx⟩ : ∃ x, vsF vs j = x := ⟨_, rfl⟩
          have hxv : vs[j] = x := by rw [← hx, vsF, List.getD_eq_getElem?_getD, List.getElem?_eq_getElem hjL, Option.getD_some]
          have hxb : x < b := by rw [← hxv]; exact HVS.out _ (List.getElem_mem hjL)
          rw [List.getElem_map, hxv] at hc
          have hid0 : ∀ w', Below wr.heap.size wr w' → w'.cell? ⟨bk, o + j, none⟩ = some (.int .i64 ((x : Nat) : Int)) := fun w' hb' =>
            ((hd.bw.trans (hb'.mono hd.bw.size)).cell (p := ⟨bk, o + j, none⟩) hbk).trans hc
          obtain ⟨si, hsi⟩ : ∃ si, (sn + j) % 256 = si := ⟨_, rfl⟩
          have hsl : si < 256 := by omega
          obtain ⟨tx, htx⟩ : ∃ t, slF sn j = t := ⟨_, rfl⟩
          have HST := hid (fun W => salted_c si hsl W)
          have htx' : sltB si = tx := by rw [← htx, slF, hsi]
          rw [htx'] at HST
          have HOP := hid (fun W D (kd : DA w W B bx B D) (s : Stt D b i (hsF vs sn) (vsF vs) (slF sn) i (fun j => i ≤ j + k) k) => by
            have h := da_open HLL.out kd s hvl.2 hb.2 hlt j hlt2 (by omega) (by rw [hx]; exact hxb) (by rw [htx, ← htx']; exact sltB_salt si)
            rw [show sameB (openH ((j + 1 : Nat) : Int) ((vsF vs j : Nat) : Int) (slF sn j)) (hsF vs sn j) = true from sameB_self _, hx, htx, hj1] at h
            exact h)
          have HPE := hid hpe
          have HD := hid (And.intro hd hst)
          have HJI := hid (And.intro hji hj)
          clear hd hst hc hx hxv htx htx' hpe hji hj hjL hxb
          go_upto_region 13 with fail
          refine grow_region 13 [68, 69, 70, 71, 72, 73, 74, 75, 76, 77, 78, 79, 13] (by kernel_rfl) (by kernel_rfl) (DK 12 [(.int .i64 ((j : Nat) : Int)), (.int .i64 ((j1 : Nat) : Int)), (.slice p i cc), (.int .i64 ((j : Nat) : Int)), (.pointer (some ⟨bk, o + j, none⟩)), (.int .i64 ((x : Nat) : Int)), (.int .u8 ((sn : Nat) : Int)), (.int .i64 ((j : Nat) : Int)), (.int .u8 ((j : Nat) : Int)), (.int .u8 ((si : Nat) : Int)), (.string tx), (.agg #[.int .i64 ((j1 : Nat) : Int), .int .i64 ((x : Nat) : Int), .string tx])] (BoxNew wr.heap.size)) (fun _ _ _ => False) (DK.mono (BoxNew.mono _)) (fun _ _ _ _ _ h => h.elim) ?_ ?_
          · intro jq oj hjq hoj a' w' hb' he hdep K hK
            have c0 := hid0 w' hb'
            rcases (show jq = 0 ∨ jq = 1 ∨ jq = 2 ∨ jq = 3 ∨ jq = 4 ∨ jq = 5 ∨ jq = 6 ∨ jq = 7 ∨ jq = 8 ∨ jq = 9 ∨ jq = 10 ∨ jq = 11 ∨ jq = 12 by omega) with rfl | rfl | rfl | rfl | rfl | rfl | rfl | rfl | rfl | rfl | rfl | rfl | rfl
            · obtain rfl := Option.some.inj hoj
              exact wpO_val _ (exec_mv rfl ((he 12 (by decide)).trans rfl : a'.eval (.tmp 12) = (.int .i64 ((j : Nat) : Int)))) (hK _ _ (Below.refl _ _) rfl (fun b h => h.elim))
            · obtain rfl := Option.some.inj hoj
              exact wpO_val _ (exec_addD rfl ((hdep ⟨0, .data⟩ (by simp) rfl : DK _ _ _ 0 _ _) : a'.eval (.tmp 68) = (.int .i64 ((j : Nat) : Int))) rfl hj1 (by omega)) (hK _ _ (Below.refl _ _) rfl (fun b h => h.elim))
            · obtain rfl := Option.some.inj hoj
              exact wpO_val _ (exec_mv rfl ((he 1 (by decide)).trans rfl : a'.eval (.tmp 1) = (.slice p i cc))) (hK _ _ (Below.refl _ _) rfl (fun b h => h.elim))
            · obtain rfl := Option.some.inj hoj
              exact wpO_val _ (exec_mv rfl ((he 12 (by decide)).trans rfl : a'.eval (.tmp 12) = (.int .i64 ((j : Nat) : Int)))) (hK _ _ (Below.refl _ _) rfl (fun b h => h.elim))
            · obtain rfl := Option.some.inj hoj
              exact wpO_val _ (exec_ixI rfl ((hdep ⟨2, .data⟩ (by simp) rfl : DK _ _ _ 2 _ _) : a'.eval (.tmp 70) = (.slice p i cc)) ((hdep ⟨3, .data⟩ (by simp) rfl : DK _ _ _ 3 _ _) : a'.eval (.tmp 71) = (.int .i64 ((j : Nat) : Int))) HPE.out hlt2) (hK _ _ (Below.refl _ _) rfl (fun b h => h.elim))
            · obtain rfl := Option.some.inj hoj
              exact wpO_val _ (exec_ldcellB rfl ((hdep ⟨4, .data⟩ (by simp) rfl : DK _ _ _ 4 _ _) : a'.eval (.tmp 72) = (.pointer (some ⟨bk, o + j, none⟩))) c0) (hK _ _ (Below.refl _ _) rfl (fun b h => h.elim))
            · obtain rfl := Option.some.inj hoj
              exact wpO_val _ (exec_mv rfl ((he 2 (by decide)).trans rfl : a'.eval (.tmp 2) = (.int .u8 ((sn : Nat) : Int)))) (hK _ _ (Below.refl _ _) rfl (fun b h => h.elim))
            · obtain rfl := Option.some.inj hoj
              exact wpO_val _ (exec_mv rfl ((he 12 (by decide)).trans rfl : a'.eval (.tmp 12) = (.int .i64 ((j : Nat) : Int)))) (hK _ _ (Below.refl _ _) rfl (fun b h => h.elim))
            · obtain rfl := Option.some.inj hoj
              exact wpO_val _ (exec_cvU rfl ((hdep ⟨7, .data⟩ (by simp) rfl : DK _ _ _ 7 _ _) : a'.eval (.tmp 75) = (.int .i64 ((j : Nat) : Int))) (by omega)) (hK _ _ (Below.refl _ _) rfl (fun b h => h.elim))
            · obtain rfl := Option.some.inj hoj
              exact wpO_val _ (exec_addU rfl ((hdep ⟨6, .data⟩ (by simp) rfl : DK _ _ _ 6 _ _) : a'.eval (.tmp 74) = (.int .u8 ((sn : Nat) : Int))) ((hdep ⟨8, .data⟩ (by simp) rfl : DK _ _ _ 8 _ _) : a'.eval (.tmp 76) = (.int .u8 ((j : Nat) : Int))) hsi) (hK _ _ (Below.refl _ _) rfl (fun b h => h.elim))
            · obtain rfl := Option.some.inj hoj
              exact wpO_call _ _ (exec_call1 rfl rfl ((hdep ⟨9, .data⟩ (by simp) rfl : DK _ _ _ 9 _ _) : a'.eval (.tmp 77) = (.int .u8 ((si : Nat) : Int))) (by go_simp)) ((HST.out w').mono fun e w'' ⟨h1, h2⟩ => ⟨_, h1, hK _ w'' h2 rfl (fun b h => h.elim)⟩)
            · obtain rfl := Option.some.inj hoj
              exact wpO_val _ (exec_build rfl ((hdep ⟨1, .data⟩ (by simp) rfl : DK _ _ _ 1 _ _) : a'.eval (.tmp 69) = (.int .i64 ((j1 : Nat) : Int))) ((hdep ⟨5, .data⟩ (by simp) rfl : DK _ _ _ 5 _ _) : a'.eval (.tmp 73) = (.int .i64 ((x : Nat) : Int))) ((hdep ⟨10, .data⟩ (by simp) rfl : DK _ _ _ 10 _ _) : a'.eval (.tmp 78) = (.string tx))) (hK _ _ (Below.refl _ _) rfl (fun b h => h.elim))
            · obtain rfl := Option.some.inj hoj
              exact wpO_val _ (exec_allocBox rfl) (hK _ _ ((Below.refl _ _).alloc (Nat.le_refl _) _) ⟨_, hb'.size, rfl, heap_alloc_new w' _⟩ (fun b h => h.elim))
          intro vq w6 hb6 hD _ _
          have hv0 : vq 0 = (.int .i64 ((j : Nat) : Int)) := hD 0 (by omega)
          have hv1 : vq 1 = (.int .i64 ((j1 : Nat) : Int)) := hD 1 (by omega)
          have hv2 : vq 2 = (.slice p i cc) := hD 2 (by omega)
          have hv3 : vq 3 = (.int .i64 ((j : Nat) : Int)) := hD 3 (by omega)
          have hv4 : vq 4 = (.pointer (some ⟨bk, o + j, none⟩)) := hD 4 (by omega)
          have hv5 : vq 5 = (.int .i64 ((x : Nat) : Int)) := hD 5 (by omega)
          have hv6 : vq 6 = (.int .u8 ((sn : Nat) : Int)) := hD 6 (by omega)
          have hv7 : vq 7 = (.int .i64 ((j : Nat) : Int)) := hD 7 (by omega)
          have hv8 : vq 8 = (.int .u8 ((j : Nat) : Int)) := hD 8 (by omega)
          have hv9 : vq 9 = (.int .u8 ((si : Nat) : Int)) := hD 9 (by omega)
          have hv10 : vq 10 = (.string tx) := hD 10 (by omega)
          have hv11 : vq 11 = (.agg #[.int .i64 ((j1 : Nat) : Int), .int .i64 ((x : Nat) : Int), .string tx]) := hD 11 (by omega)
          obtain ⟨z, hzn, hv12, hz⟩ : ∃ z, wr.heap.size ≤ z ∧ vq 12 = .pointer (some ⟨z, 0, none⟩) ∧ w6.heap[z]? = some (.cells #[.int .i64 0, .int .i64 0, .string ⟨#[]⟩] 23 (0, 0)) := hD 12 (by omega)
          simp only [puts, Act.put, List.setIfInBounds_toArray, List.set_cons_zero, List.set_cons_succ, hv0, hv1, hv2, hv3, hv4, hv5, hv6, hv7, hv8, hv9, hv10, hv11, hv12, List.drop_succ_cons, List.drop_zero, Nat.zero_add, Nat.reduceAdd]
          have HZ := hid hz
          have HB6 := hid hb6
          clear hD hz hb6 hid0 hv0 hv1 hv2 hv3 hv4 hv5 hv6 hv7 hv8 hv9 hv10 hv11 hv12
          go_upto_region 14 with (refine wpList_store_row rfl 23 (.tmp 13) (.tmp 79) rfl z #[.int .i64 ((j1 : Nat) : Int), .int .i64 ((x : Nat) : Int), .string tx] rfl rfl 23 _ HZ.out (show (Tryd.prog.info? 23).map (·.size) = some 3 by kernel_rfl) rfl (box_one _ _ _) ?_)
          have hz7 : (w6.setRow z #[.int .i64 ((j1 : Nat) : Int), .int .i64 ((x : Nat) : Int), .string tx]).heap[z]? = _ := setRow_at HZ.out
          have hb7 : Below wr.heap.size wr (w6.setRow z #[.int .i64 ((j1 : Nat) : Int), .int .i64 ((x : Nat) : Int), .string tx]) := HB6.out.trans (setRow_below hzn)
          generalize w6.setRow z #[.int .i64 ((j1 : Nat) : Int), .int .i64 ((x : Nat) : Int), .string tx] = w7 at hz7 hb7 ⊢
          have f0 := cell_of_row _ _ 0 _ _ _ hz7
          have f1 := cell_of_row _ _ 1 _ _ _ hz7
          have f2 := cell_of_row _ _ 2 _ _ _ hz7
          have HC7 := hid (HOP.out w7 D (HD.out.1.below hb7) HD.out.2)
          clear hz7 hb7 HB6 HZ
          go_wp2_with (go_at_call 26; refine HC7.out.mono ?_; rintro e w8 ⟨rfl, D', hs8, hd8, _⟩; have HS8 := hid hs8; have HD8 := hid hd8; clear hs8 hd8)
          have hsc := HS8.out.congr (O' := fun j' => i ≤ j' + (k + 1)) (fun j' hj' => by have := HJI.out.2; omega)
          have HSC := hid hsc
          clear hsc
          go_roundw
          case rel => exact ⟨k + 1, by omega, by have := HJI.out; congr 1; omega, D', HD8.out, HSC.out⟩
          case measure => have := HJI.out; simp only [intOf]; omega
        · obtain rfl : k = i := by omega
          have hji : ((k - k : Nat) : Int) - 1 = -1 := by omega
          rw [hji]
          have hjd : ¬ (0 : Int) ≤ -1 := by omega
          have hst2 := hst.congr (O' := fun j => j < k) (fun j hj => ⟨fun _ => hj, fun _ => by omega⟩)
          have HD := hid (And.intro hd hst2)
          clear hd hst hst2
          go_wp2_with fail
          go_ret
          refine ⟨(by rw [HBX.out.1, HBX.out.2]; rfl), D, ?_, HD.out.2⟩
          rw [HBX.out.1, HBX.out.2]
          exact HD.out.1
end Go.Proofs.YtbcileppebpamaaDoor
