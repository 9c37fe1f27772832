/- Lemmas for WitnessDraws: part 16. -/
import Derived.Test.YtbcileppebpamaaGreatDoorKb15
set_option linter.unusedSimpArgs false
set_option linter.unusedVariables false
namespace Go.Proofs.YtbcileppebpamaaGreatDoor
open Go Go.RowKit Go.Shelf
set_option maxRecDepth 100000
def repV (b n : Nat) (o : Bool) (v : Int) (u : Value) : Array Value := #[.int .i64 ((b : Nat) : Int), .int .i64 ((n : Nat) : Int), .bool o, .int .i64 v, u]
def repN (b n : Nat) (ls : List RL) : Int := if (valL b n ls).2 = 0 then (((valL b n ls).1 : Nat) : Int) else -1
def DREP (vals : List Value) (b n : Nat) (o : Bool) (B N : Nat) (ds : List Dv) (j : Nat) (v : Value) (W : World) : Prop :=
  if j = 7 then DvO W B v ds else if j = 8 then ∃ u, v = .agg (repV b n o (-1) u) ∧ DvO W B u ds else if j = 9 then ∃ z, N ≤ z ∧ v = .pointer (some ⟨z, 0, none⟩) ∧ W.heap[z]? = some (.cells #[.int .i64 0, .int .i64 0, .bool false, .int .i64 0, .slice none 0 0] 37 (0, 0)) else v = vals.getD j undef
theorem DREP.mono (vals : List Value) (b n : Nat) (o : Bool) (B N : Nat) (ds : List Dv) : ∀ j v w w', Below w.heap.size w w' → DREP vals b n o B N ds j v w → DREP vals b n o B N ds j v w' := fun j v w w' hb h => by
  unfold DREP at h ⊢
  split
  · rename_i e
    rw [if_pos e] at h
    exact h.below hb
  · rename_i e
    rw [if_neg e] at h
    split
    · rename_i e
      rw [if_pos e] at h
      obtain ⟨u, h1, h2⟩ := h
      exact ⟨u, h1, h2.below hb⟩
    · rename_i e
      rw [if_neg e] at h
      split
      · rename_i e
        rw [if_pos e] at h
        obtain ⟨z, h1, h2, h3⟩ := h
        exact ⟨z, h1, h2, heap_below hb h3 (heap_lt h3)⟩
      · rename_i e
        rw [if_neg e] at h
        exact h
theorem exec_buildR {ev : Operand → Value} {o : Oper} {x y z q : Operand} {b n : Nat} {ov : Bool} {p : Option Addr} {m c : Nat} {W : World} (ho : o.op = .build 37 #[(0, x), (1, y), (2, z), (3, .const (.int .i64 (-1))), (4, q)]) (hx : ev x = .int .i64 ((b : Nat) : Int)) (hy : ev y = .int .i64 ((n : Nat) : Int)) (hz : ev z = .bool ov) (hq : ev q = .slice p m c) (hc : ev (.const (.int .i64 (-1))) = .int .i64 (-1)) : (execOp ev o).run Tryz.prog W = .ok (.value (.agg (repV b n ov (-1) (.slice p m c)))) W := by
  unfold repV
  simp [execOp, ho, hx, hy, hz, hq, hc]
  go_simp
theorem exec_allocR {ev : Operand → Value} {o : Oper} {W : World} (ho : o.op = .alloc 37) : (execOp ev o).run Tryz.prog W = .ok (.value (.pointer (some ⟨W.heap.size, 0, none⟩))) (W.alloc (.cells #[.int .i64 0, .int .i64 0, .bool false, .int .i64 0, .slice none 0 0] 37)) := by
  simp [execOp, ho]
  go_simp
theorem DvO.lower {W : World} {B B' : Nat} {v : Value} {ds : List Dv} (h : DvO W B v ds) (hB : B' ≤ B) : DvO W B' v ds :=
  ⟨h.1, h.2.imp id fun ⟨k, cap, cur, h3, h4, h5⟩ => ⟨k, cap, cur, h3, Nat.le_trans hB h4, h5⟩⟩
theorem DvO.setRow {W : World} {B z : Nat} {v : Value} {ds : List Dv} {row cs : Array Value} {T : TypeId} (h : DvO W B v ds) (hz : W.heap[z]? = some (.cells row T (0, 0))) (hT : T ≠ 124) : DvO (W.setRow z cs) B v ds :=
  ⟨h.1, h.2.imp id fun ⟨k, cap, cur, h3, h4, h5, h6⟩ => ⟨k, cap, cur, h3, h4, (setRow_ne (by
    rintro rfl
    rw [h5] at hz
    cases hz
    exact hT rfl)).trans h5, h6⟩⟩
theorem own_setC {W : World} {B z k : Nat} {v u : Value} {ds : List Dv} {row : Array Value} {T : TypeId} (h : DvO W B v ds) (hz : W.heap[z]? = some (.cells row T (0, 0))) (hT : T ≠ 124) : DvO (W.setCell ⟨z, k, none⟩ u) B v ds :=
  ⟨h.1, h.2.imp id fun ⟨g, cap, cur, h3, h4, h5, h6⟩ => ⟨g, cap, cur, h3, h4, (heap_setCell_other W ⟨z, k, none⟩ g u (by
    show g ≠ z
    rintro rfl
    rw [h5] at hz
    cases hz
    exact hT rfl)).trans h5, h6⟩⟩
theorem results_rep {fn : Func} {r : Tmp} (h : fn.results = #[.cell r 37]) {tmps : Array Value} {W : World} {g : Nat} {cs : Array Value} (hc : cs.size = 5) (hr : tmps.getD r undef = .pointer (some ⟨g, 0, none⟩)) (hg : W.heap[g]? = some (.cells cs 37 (0, 0))) : (results fn tmps).run Tryz.prog W = .ok (.agg cs) W := by
  have hl := run_loadVar_row (P := Tryz.prog) W g 37 37 cs (0, 0) _ hg Tryz.underlying37 rfl (by rw [hc]; kernel_rfl)
  have hr' : tmps[r]?.getD undef = .pointer (some ⟨g, 0, none⟩) := by simpa using hr
  simp [results, h, hr', asAddr, hl]
theorem rep_one (b n : Nat) (o : Bool) (v : Int) (p : Option Addr) (m c : Nat) : (repV b n o v (.slice p m c)).all (·.oneCell') = true := by
  simp [repV, Value.oneCell']
set_option maxHeartbeats 8000000 in
theorem rreport_c (b n : Nat) (hb1 : 0 < b) (hb2 : b ≤ 1000000000) (hn : n ≤ 1000) (v : Value) (ls : List RL) (W : World) (hr : ReadsL W v ls) (hl : ls.length ≤ 1000000) (hok : OkB ls) :
    Calls Tryz.prog 50 #[.agg #[.int .i64 ((b : Nat) : Int), .int .i64 ((n : Nat) : Int), v]] W fun e w' => ∃ u, e = .returned (.agg (repV b n (overL n ls) (repN b n ls) u)) ∧ DvO w' W.heap.size u (devL ls n) ∧ Below W.heap.size W w' := by
  have hx := heap_alloc_new W (.cells #[.int .i64 ((b : Nat) : Int), .int .i64 ((n : Nat) : Int), v] 49)
  have hal : Below W.heap.size W (W.alloc (.cells #[.int .i64 ((b : Nat) : Int), .int .i64 ((n : Nat) : Int), v] 49)) := (Below.refl _ _).alloc (Nat.le_refl _) _
  have hy := heap_alloc_new (W.alloc (.cells #[.int .i64 ((b : Nat) : Int), .int .i64 ((n : Nat) : Int), v] 49)) (.cells #[.int .i64 0, .int .i64 0, .bool false, .int .i64 0, .slice none 0 0] 37)
  have hal2 : Below W.heap.size W ((W.alloc (.cells #[.int .i64 ((b : Nat) : Int), .int .i64 ((n : Nat) : Int), v] 49)).alloc (.cells #[.int .i64 0, .int .i64 0, .bool false, .int .i64 0, .slice none 0 0] 37)) := hal.alloc (by simp) _
  have hx2 := heap_below ((Below.refl _ _).alloc (Nat.le_refl _) (.cells #[.int .i64 0, .int .i64 0, .bool false, .int .i64 0, .slice none 0 0] 37)) hx (heap_lt hx)
  have e1 : (W.alloc (.cells #[.int .i64 ((b : Nat) : Int), .int .i64 ((n : Nat) : Int), v] 49)).heap.size = W.heap.size + 1 := by simp
  rw [e1] at hy
  have HOV := hid (fun V (hV : Below W.heap.size W V) => rover_c ((b : Nat) : Int) n (by omega) v ls V (hr.below hV) hl)
  have HDE := hid (fun V (hV : Below W.heap.size W V) => rdevs_c ((b : Nat) : Int) n hn v ls V (hr.below hV) hl hok)
  have HVA := hid (fun V (hV : Below W.heap.size W V) => rvalue_c b n hb1 hb2 hn v ls V (hr.below hV) hl hok)
  obtain ⟨ov, hov⟩ : ∃ o, overL n ls = o := ⟨_, rfl⟩
  rw [hov] at HOV ⊢
  unfold repN
  obtain ⟨⟨r1, r2⟩, hrr⟩ : ∃ r, valL b n ls = r := ⟨_, rfl⟩
  rw [hrr] at HVA ⊢
  simp only
  obtain ⟨q, hq⟩ : ∃ q : Int, (if r2 = 0 then ((r1 : Nat) : Int) else -1) = q := ⟨_, rfl⟩
  rw [hq]
  have HQ := hid hq
  clear hq
  obtain ⟨ds, hds⟩ : ∃ d, devL ls n = d := ⟨_, rfl⟩
  rw [hds] at HDE ⊢
  have HX := hid (And.intro hx2 (And.intro hy hal2))
  clear hr hal hx hy hal2 hx2 hov hrr hds
  go_enter Tryz.func50, Tryz.ntmps50
  go_upto_region 1 with fail
  try rw [e1]
  generalize (W.alloc (.cells #[.int .i64 ((b : Nat) : Int), .int .i64 ((n : Nat) : Int), v] 49)).alloc (.cells #[.int .i64 0, .int .i64 0, .bool false, .int .i64 0, .slice none 0 0] 37) = W0 at HX ⊢
  obtain ⟨g, hg⟩ : ∃ g, W.heap.size = g := ⟨_, rfl⟩
  rw [hg] at HX ⊢
  have HG := hid hg
  have hgW0 : g + 2 ≤ W0.heap.size := heap_lt HX.out.2.1
  have hWW : ∀ V, Below W0.heap.size W0 V → Below W.heap.size W V := fun V hV => HG.out.symm ▸ HX.out.2.2.trans (hV.mono (by omega))
  clear hg e1
  refine grow_regionG 10 [6, 7, 8, 9, 10, 11, 12, 13, 14, 3] (by kernel_rfl) (by kernel_rfl) (DREP [(.pointer (some ⟨g, 0, none⟩)), (.int .i64 ((b : Nat) : Int)), (.pointer (some ⟨g, 1, none⟩)), (.int .i64 ((n : Nat) : Int)), (.agg #[.int .i64 ((b : Nat) : Int), .int .i64 ((n : Nat) : Int), v]), (.bool ov), (.agg #[.int .i64 ((b : Nat) : Int), .int .i64 ((n : Nat) : Int), v]), undef, undef, undef] b n ov W0.heap.size W0.heap.size ds) (fun _ _ _ => False) (DREP.mono _ _ _ _ _ _ _) (fun _ _ _ _ _ h => h.elim) ?_ ?_
  · intro jq oj hjq hoj a' w' hb' he hdep K hK
    have c0 := heap_below hb' HX.out.1 (heap_lt HX.out.1)
    have cb := hWW w' hb'
    rcases (show jq = 0 ∨ jq = 1 ∨ jq = 2 ∨ jq = 3 ∨ jq = 4 ∨ jq = 5 ∨ jq = 6 ∨ jq = 7 ∨ jq = 8 ∨ jq = 9 by omega) with rfl | rfl | rfl | rfl | rfl | rfl | rfl | rfl | rfl | rfl
    · obtain rfl := Option.some.inj hoj
      exact gG_none rfl (wpO_val _ (exec_fldDr 0 rfl ((he 1 (by decide)).trans rfl : a'.eval (.tmp 1) = (.pointer (some ⟨g, 0, none⟩))) (by simp)) (hK _ _ (Below.refl _ _) rfl (fun b h => h.elim)))
    · obtain rfl := Option.some.inj hoj
      exact gG_none rfl (wpO_val _ (exec_ldcellB rfl ((hdep ⟨0, .data⟩ (by simp) rfl : (DREP [(.pointer (some ⟨g, 0, none⟩)), (.int .i64 ((b : Nat) : Int)), (.pointer (some ⟨g, 1, none⟩)), (.int .i64 ((n : Nat) : Int)), (.agg #[.int .i64 ((b : Nat) : Int), .int .i64 ((n : Nat) : Int), v]), (.bool ov), (.agg #[.int .i64 ((b : Nat) : Int), .int .i64 ((n : Nat) : Int), v]), undef, undef, undef] b n ov W0.heap.size W0.heap.size ds) 0 _ _) : a'.eval (.tmp 6) = (.pointer (some ⟨g, 0, none⟩))) (cell_of_row _ _ 0 _ _ _ c0)) (hK _ _ (Below.refl _ _) rfl (fun b h => h.elim)))
    · obtain rfl := Option.some.inj hoj
      exact gG_none rfl (wpO_val _ (exec_fldDr 1 rfl ((he 1 (by decide)).trans rfl : a'.eval (.tmp 1) = (.pointer (some ⟨g, 0, none⟩))) (by simp)) (hK _ _ (Below.refl _ _) rfl (fun b h => h.elim)))
    · obtain rfl := Option.some.inj hoj
      exact gG_none rfl (wpO_val _ (exec_ldcellB rfl ((hdep ⟨2, .data⟩ (by simp) rfl : (DREP [(.pointer (some ⟨g, 0, none⟩)), (.int .i64 ((b : Nat) : Int)), (.pointer (some ⟨g, 1, none⟩)), (.int .i64 ((n : Nat) : Int)), (.agg #[.int .i64 ((b : Nat) : Int), .int .i64 ((n : Nat) : Int), v]), (.bool ov), (.agg #[.int .i64 ((b : Nat) : Int), .int .i64 ((n : Nat) : Int), v]), undef, undef, undef] b n ov W0.heap.size W0.heap.size ds) 2 _ _) : a'.eval (.tmp 8) = (.pointer (some ⟨g, 1, none⟩))) (cell_of_row _ _ 1 _ _ _ c0)) (hK _ _ (Below.refl _ _) rfl (fun b h => h.elim)))
    · obtain rfl := Option.some.inj hoj
      exact gG_none rfl (wpO_val _ (exec_ldDr rfl ((he 1 (by decide)).trans rfl : a'.eval (.tmp 1) = (.pointer (some ⟨g, 0, none⟩))) c0) (hK _ _ (Below.refl _ _) rfl (fun b h => h.elim)))
    · obtain rfl := Option.some.inj hoj
      exact gG_none rfl (wpO_call _ _ (exec_call1 rfl rfl ((hdep ⟨4, .data⟩ (by simp) rfl : (DREP [(.pointer (some ⟨g, 0, none⟩)), (.int .i64 ((b : Nat) : Int)), (.pointer (some ⟨g, 1, none⟩)), (.int .i64 ((n : Nat) : Int)), (.agg #[.int .i64 ((b : Nat) : Int), .int .i64 ((n : Nat) : Int), v]), (.bool ov), (.agg #[.int .i64 ((b : Nat) : Int), .int .i64 ((n : Nat) : Int), v]), undef, undef, undef] b n ov W0.heap.size W0.heap.size ds) 4 _ _) : a'.eval (.tmp 10) = (.agg #[.int .i64 ((b : Nat) : Int), .int .i64 ((n : Nat) : Int), v])) (by go_simp)) ((HOV.out w' cb).mono fun e w'' ⟨h1, h2⟩ => ⟨_, h1, hK _ w'' h2 rfl (fun b h => h.elim)⟩))
    · obtain rfl := Option.some.inj hoj
      exact gG_none rfl (wpO_val _ (exec_ldDr rfl ((he 1 (by decide)).trans rfl : a'.eval (.tmp 1) = (.pointer (some ⟨g, 0, none⟩))) c0) (hK _ _ (Below.refl _ _) rfl (fun b h => h.elim)))
    · obtain rfl := Option.some.inj hoj
      exact gG_none rfl (wpO_call _ _ (exec_call1 rfl rfl ((hdep ⟨6, .data⟩ (by simp) rfl : (DREP [(.pointer (some ⟨g, 0, none⟩)), (.int .i64 ((b : Nat) : Int)), (.pointer (some ⟨g, 1, none⟩)), (.int .i64 ((n : Nat) : Int)), (.agg #[.int .i64 ((b : Nat) : Int), .int .i64 ((n : Nat) : Int), v]), (.bool ov), (.agg #[.int .i64 ((b : Nat) : Int), .int .i64 ((n : Nat) : Int), v]), undef, undef, undef] b n ov W0.heap.size W0.heap.size ds) 6 _ _) : a'.eval (.tmp 12) = (.agg #[.int .i64 ((b : Nat) : Int), .int .i64 ((n : Nat) : Int), v])) (by go_simp)) ((HDE.out w' cb).mono fun e w'' ⟨u, h1, h2, h3⟩ => ⟨u, h1, hK u w'' h3 (DvO.lower h2 hb'.size) (fun b h => h.elim)⟩))
    · obtain rfl := Option.some.inj hoj
      exact gG_none rfl (let ⟨p, c, hu⟩ := (hdep ⟨7, .data⟩ (by simp) rfl : DvO w' W0.heap.size _ ds).form; wpO_val _ (exec_buildR rfl ((hdep ⟨1, .data⟩ (by simp) rfl : (DREP [(.pointer (some ⟨g, 0, none⟩)), (.int .i64 ((b : Nat) : Int)), (.pointer (some ⟨g, 1, none⟩)), (.int .i64 ((n : Nat) : Int)), (.agg #[.int .i64 ((b : Nat) : Int), .int .i64 ((n : Nat) : Int), v]), (.bool ov), (.agg #[.int .i64 ((b : Nat) : Int), .int .i64 ((n : Nat) : Int), v]), undef, undef, undef] b n ov W0.heap.size W0.heap.size ds) 1 _ _) : a'.eval (.tmp 7) = (.int .i64 ((b : Nat) : Int))) ((hdep ⟨3, .data⟩ (by simp) rfl : (DREP [(.pointer (some ⟨g, 0, none⟩)), (.int .i64 ((b : Nat) : Int)), (.pointer (some ⟨g, 1, none⟩)), (.int .i64 ((n : Nat) : Int)), (.agg #[.int .i64 ((b : Nat) : Int), .int .i64 ((n : Nat) : Int), v]), (.bool ov), (.agg #[.int .i64 ((b : Nat) : Int), .int .i64 ((n : Nat) : Int), v]), undef, undef, undef] b n ov W0.heap.size W0.heap.size ds) 3 _ _) : a'.eval (.tmp 9) = (.int .i64 ((n : Nat) : Int))) ((hdep ⟨5, .data⟩ (by simp) rfl : (DREP [(.pointer (some ⟨g, 0, none⟩)), (.int .i64 ((b : Nat) : Int)), (.pointer (some ⟨g, 1, none⟩)), (.int .i64 ((n : Nat) : Int)), (.agg #[.int .i64 ((b : Nat) : Int), .int .i64 ((n : Nat) : Int), v]), (.bool ov), (.agg #[.int .i64 ((b : Nat) : Int), .int .i64 ((n : Nat) : Int), v]), undef, undef, undef] b n ov W0.heap.size W0.heap.size ds) 5 _ _) : a'.eval (.tmp 11) = (.bool ov)) hu rfl) (hK _ _ (Below.refl _ _) ⟨_, rfl, hu ▸ (hdep ⟨7, .data⟩ (by simp) rfl : DvO w' W0.heap.size _ ds)⟩ (fun b h => h.elim)))
    · obtain rfl := Option.some.inj hoj
      exact gG_none rfl (wpO_val _ (exec_allocR rfl) (hK _ _ ((Below.refl _ _).alloc (Nat.le_refl _) _) ⟨_, hb'.size, rfl, heap_alloc_new w' _⟩ (fun b h => h.elim)))
  intro vq w6 hb6 hD _ _
  have hv0 : vq 0 = (.pointer (some ⟨g, 0, none⟩)) := hD 0 (by omega)
  have hv1 : vq 1 = (.int .i64 ((b : Nat) : Int)) := hD 1 (by omega)
  have hv2 : vq 2 = (.pointer (some ⟨g, 1, none⟩)) := hD 2 (by omega)
  have hv3 : vq 3 = (.int .i64 ((n : Nat) : Int)) := hD 3 (by omega)
  have hv4 : vq 4 = (.agg #[.int .i64 ((b : Nat) : Int), .int .i64 ((n : Nat) : Int), v]) := hD 4 (by omega)
  have hv5 : vq 5 = (.bool ov) := hD 5 (by omega)
  have hv6 : vq 6 = (.agg #[.int .i64 ((b : Nat) : Int), .int .i64 ((n : Nat) : Int), v]) := hD 6 (by omega)
  obtain ⟨u, hv8, hdv⟩ : ∃ u, vq 8 = .agg (repV b n ov (-1) u) ∧ DvO w6 W0.heap.size u ds := hD 8 (by omega)
  obtain ⟨z, hzn, hv9, hz⟩ : ∃ z, W0.heap.size ≤ z ∧ vq 9 = .pointer (some ⟨z, 0, none⟩) ∧ w6.heap[z]? = some (.cells #[.int .i64 0, .int .i64 0, .bool false, .int .i64 0, .slice none 0 0] 37 (0, 0)) := hD 9 (by omega)
  generalize vq 7 = u7
  obtain ⟨pu, cu, rfl⟩ := hdv.form
  simp only [puts, Act.put, List.setIfInBounds_toArray, List.set_cons_zero, List.set_cons_succ, hv0, hv1, hv2, hv3, hv4, hv5, hv6, hv8, hv9, List.drop_succ_cons, List.drop_zero, Nat.zero_add, Nat.reduceAdd]
  have HZ := hid hz
  have HB6 := hid hb6
  have HDV := hid hdv
  clear hD hz hb6 hdv hv0 hv1 hv2 hv3 hv4 hv5 hv6 hv8 hv9
  obtain ⟨cs0, hcs0⟩ : ∃ cs, repV b n ov (-1) (.slice pu ds.length cu) = cs := ⟨_, rfl⟩
  have hcs5 : cs0.size = 5 := by rw [← hcs0]; rfl
  have hcs1 : cs0.all (·.oneCell') = true := by rw [← hcs0]; exact rep_one _ _ _ _ _ _ _
  rw [hcs0]
  go_upto_region 2 with (refine wpList_store_row rfl 37 (.tmp 3) (.tmp 14) rfl z cs0 rfl rfl 37 _ HZ.out (by rw [hcs5]; kernel_rfl) (by rw [hcs5]; rfl) hcs1 ?_)
  have hz7 : (w6.setRow z cs0).heap[z]? = _ := setRow_at HZ.out
  have hb7 : Below W0.heap.size W0 (w6.setRow z cs0) := HB6.out.trans (setRow_below hzn)
  have hdv7 : DvO (w6.setRow z cs0) W0.heap.size (.slice pu ds.length cu) ds := HDV.out.setRow HZ.out (by decide)
  generalize w6.setRow z cs0 = w7 at hz7 hb7 hdv7 ⊢
  have HZ7 := hid (And.intro hz7 (And.intro hb7 hdv7))
  have hx7 := heap_below hb7 HX.out.1 (heap_lt HX.out.1)
  have k0 := cell_of_row _ _ 0 _ _ _ hx7
  have k1 := cell_of_row _ _ 1 _ _ _ hx7
  have k2 := cell_of_row _ _ 2 _ _ _ hx7
  have HVC := hid (HVA.out w7 (hWW w7 hb7))
  clear hz7 hb7 hdv7 hx7 HZ HB6 HDV
  go_upto_region 3 with (go_at_call 53; refine HVC.out.mono ?_; rintro e w8 ⟨rfl, hb8⟩; have HZ8 := hid (And.intro (heap_below hb8 HZ7.out.1 (heap_lt HZ7.out.1)) (And.intro (HZ7.out.2.1.trans (hb8.mono HZ7.out.2.1.size)) (HZ7.out.2.2.below hb8))); clear hb8)
  have hgz : g + 1 ≠ z := by omega
  clear k0 k1 k2
  by_cases h0 : r2 = 0
  · subst h0
    have hfz := frozen_of_row _ _ 3 _ _ HZ8.out.1
    have hk3 := cell_of_row _ _ 3 _ _ _ HZ8.out.1
    rw [← hcs0] at hk3
    go_upto_region 5 with fail
    have hz9 : (w8.setCell ⟨z, 3, none⟩ (.int .i64 ((r1 : Nat) : Int))).heap[z]? = some (.cells (repV b n ov ((r1 : Nat) : Int) (.slice pu ds.length cu)) 37 (0, 0)) := by
      have h := heap_setCell_same w8 z 3 _ _ (.int .i64 ((r1 : Nat) : Int)) HZ8.out.1
      rw [← hcs0] at h
      exact h
    have hb9 : Below W0.heap.size W0 (w8.setCell ⟨z, 3, none⟩ (.int .i64 ((r1 : Nat) : Int))) := HZ8.out.2.1.setCell (p := ⟨z, 3, none⟩) hzn _
    have hdv9 : DvO (w8.setCell ⟨z, 3, none⟩ (.int .i64 ((r1 : Nat) : Int))) W0.heap.size (.slice pu ds.length cu) ds := own_setC HZ8.out.2.2 HZ8.out.1 (by decide)
    generalize w8.setCell ⟨z, 3, none⟩ (.int .i64 ((r1 : Nat) : Int)) = w9 at hz9 hb9 hdv9 ⊢
    clear hfz hk3
    have HF := hid (And.intro hz9 (And.intro hb9 hdv9))
    have f0 : w9.cell? ⟨z, 0, none⟩ = some (.int .i64 ((b : Nat) : Int)) := cell_of_row _ _ 0 _ _ _ hz9
    have f1 : w9.cell? ⟨z, 1, none⟩ = some (.int .i64 ((n : Nat) : Int)) := cell_of_row _ _ 1 _ _ _ hz9
    have f2 : w9.cell? ⟨z, 2, none⟩ = some (.bool ov) := cell_of_row _ _ 2 _ _ _ hz9
    have f3 : w9.cell? ⟨z, 3, none⟩ = some (.int .i64 ((r1 : Nat) : Int)) := cell_of_row _ _ 3 _ _ _ hz9
    have f4 : w9.cell? ⟨z, 4, none⟩ = some (.slice pu ds.length cu) := cell_of_row _ _ 4 _ _ _ hz9
    have hr9 := heap_below hb9 HX.out.2.1 (heap_lt HX.out.2.1)
    have HR9 := hid hr9
    clear hz9 hb9 hdv9 hr9
    go_wp2_with (refine wpList_store_row rfl 37 (.tmp 2) (.tmp 24) rfl (g + 1) (repV b n ov ((r1 : Nat) : Int) (.slice pu ds.length cu)) rfl rfl 37 _ HR9.out (show (Tryz.prog.info? 37).map (·.size) = some 5 by kernel_rfl) rfl (rep_one _ _ _ _ _ _ _) ?_)
    refine bodyPost_ret (results_rep Tryz.results50 rfl rfl (setRow_at HR9.out)) rfl ⟨_, by rw [← HQ.out]; simp; rfl, ?_, ?_⟩
    · rw [HG.out]
      exact (HF.out.2.2.setRow HR9.out (by decide)).lower (by omega)
    · rw [HG.out]
      exact (HX.out.2.2.trans (HF.out.2.1.mono (by omega))).trans (setRow_below (Nat.le_succ g))
  · have e1 : (r2 == 0) = false := by simp [h0]
    have e2 : decide (r2 = 0) = false := decide_eq_false h0
    go_upto_region 5 with fail
    have hz9 := HZ8.out.1
    have hb9 := HZ8.out.2.1
    have hdv9 := HZ8.out.2.2
    rw [← hcs0] at hz9
    generalize w8 = w9 at hz9 hb9 hdv9 ⊢
    have HF := hid (And.intro hz9 (And.intro hb9 hdv9))
    have f0 : w9.cell? ⟨z, 0, none⟩ = some (.int .i64 ((b : Nat) : Int)) := cell_of_row _ _ 0 _ _ _ hz9
    have f1 : w9.cell? ⟨z, 1, none⟩ = some (.int .i64 ((n : Nat) : Int)) := cell_of_row _ _ 1 _ _ _ hz9
    have f2 : w9.cell? ⟨z, 2, none⟩ = some (.bool ov) := cell_of_row _ _ 2 _ _ _ hz9
    have f3 : w9.cell? ⟨z, 3, none⟩ = some (.int .i64 (-1)) := cell_of_row _ _ 3 _ _ _ hz9
    have f4 : w9.cell? ⟨z, 4, none⟩ = some (.slice pu ds.length cu) := cell_of_row _ _ 4 _ _ _ hz9
    have hr9 := heap_below hb9 HX.out.2.1 (heap_lt HX.out.2.1)
    have HR9 := hid hr9
    clear hz9 hb9 hdv9 hr9
    go_wp2_with (refine wpList_store_row rfl 37 (.tmp 2) (.tmp 24) rfl (g + 1) (repV b n ov (-1) (.slice pu ds.length cu)) rfl rfl 37 _ HR9.out (show (Tryz.prog.info? 37).map (·.size) = some 5 by kernel_rfl) rfl (rep_one _ _ _ _ _ _ _) ?_)
    refine bodyPost_ret (results_rep Tryz.results50 rfl rfl (setRow_at HR9.out)) rfl ⟨_, by rw [← HQ.out, if_neg h0], ?_, ?_⟩
    · rw [HG.out]
      exact (HF.out.2.2.setRow HR9.out (by decide)).lower (by omega)
    · rw [HG.out]
      exact (HX.out.2.2.trans (HF.out.2.1.mono (by omega))).trans (setRow_below (Nat.le_succ g))
end Go.Proofs.YtbcileppebpamaaGreatDoor
