/- A label taken out of a row, for any substitution without cycles. Conditions: none. -/
import Derived.Test.YtfleakoephmgaaaDoorUtD
set_option linter.unusedSimpArgs false
set_option linter.unusedVariables false
namespace Go.Am.U1
open Go.Am.Un
set_option maxRecDepth 100000
set_option linter.unusedSimpArgs false
attribute [local go_sem] wseq COp.isStore wreg wdreg wret wskip wexit wblock wcnd cnd_t cnd_f then_n then_x then_r catch_n rnd_n rnd_x rnd_r catch_x catch_r wo_nil wo_grd grdO_t grdO_f wo_ops stpO wr_nil wr_alloc wr_guards grdR_t grdR_f wr_ops stpR evAllocs evOp env0_app eput_some eput_none eset_app Opd.ev wantedA faddrA snew_obj snew_size sput_obj sput_size av_cells av_one av_strip av_still unA eqbA fillA fldA lensA mmA mm2 mmFold List.getD_cons_zero List.getD_cons_succ List.getD_nil List.length_cons List.length_nil List.drop_zero List.drop_succ_cons List.take_succ_cons List.take_zero List.map_cons List.map_nil List.set_cons_zero List.set_cons_succ List.all_cons List.all_nil List.getElem?_cons_zero List.getElem?_cons_succ List.nil_append List.cons_append Nat.zero_add Nat.add_zero beq_self_eq_true bt bf Bool.not_true Bool.not_false Bool.and_true Bool.true_and Bool.and_false Bool.false_and and_self and_true true_and n0 n1 n2 n3 n4 m0 m1 m2 m3 c1 retA resAs resA undefA Option.map_some Option.map_none
variable {X : Ext}

/-- As UN, of a run that began later: its array is old, or not below M. -/
def UM (b p M : Nat) (s : St) (ss : List Tm) (s' : St) : Prop := ∃ p', US s' b p' ss ∧ b ≠ p' ∧ (p' = p ∨ M ≤ p') ∧ KB b p s s'
theorem UN.um {b p : Nat} {s0 s s1 : St} {ss : List Tm} (h : UN b p s ss s1) (hk : Keep s0 s) : UM b p s.size s0 ss s1 := by
  obtain ⟨p', h1, h2, h3, h4⟩ := h
  exact ⟨p', h1, h2, h3, Nat.le_trans hk.1 h4.1, fun j hj a c => (h4.2 j (Nat.lt_of_lt_of_le hj hk.1) a c).trans (hk.2 j hj)⟩
theorem UM.put {b p M : Nat} {s s1 : St} {ss : List Tm} (h : UM b p M s ss s1) {j : Nat} (h1 : s.size ≤ j) (h2 : j < M) (h3 : j ≠ b) (h4 : j ≠ p) (x : Option AO) : UM b p M s ss (s1.put j x) := by
  obtain ⟨p', a1, a2, a3, a4⟩ := h
  have hjp : p' ≠ j := by rcases a3 with a3 | a3 <;> omega
  exact ⟨p', ⟨by rw [put_ne (Ne.symm h3)]; exact a1.1, by rw [put_ne hjp]; exact a1.2.1, a1.2.2.1, a1.2.2.2⟩, a2, a3, a4.1, fun i hi c d => by rw [put_ne (by omega)]; exact a4.2 i hi c d⟩
theorem UM.keep {b p M : Nat} {s s1 s2 : St} {ss : List Tm} (h : UM b p M s ss s1) (hk : Keep s1 s2) : UM b p M s ss s2 := by
  obtain ⟨p', h1, h2, h3, h4⟩ := h
  exact ⟨p', h1.keep hk, h2, h3, Nat.le_trans h4.1 hk.1, fun j hj a c => (hk.2 j (Nat.lt_of_lt_of_le hj h4.1)).trans (h4.2 j hj a c)⟩
theorem UM.un {b p M : Nat} {s s1 : St} {ss : List Tm} (h : UM b p M s ss s1) (hM : s.size ≤ M) : UN b p s ss s1 := by
  obtain ⟨p', h1, h2, h3, h4⟩ := h
  exact ⟨p', h1, h2, by rcases h3 with h3 | h3; exact Or.inl h3; exact Or.inr (by omega), h4⟩
theorem UM.trans {b p M : Nat} {s s1 s2 : St} {ss1 ss2 : List Tm} (h : UM b p M s ss1 s1) (hM : M ≤ s1.size) (hs : s.size ≤ M) (k : ∀ p', US s1 b p' ss1 → b ≠ p' → UN b p' s1 ss2 s2) : UM b p M s ss2 s2 := by
  obtain ⟨p', h1, h2, h3, h4⟩ := h
  obtain ⟨p2, k1, k2, k3, k4⟩ := k p' h1 h2
  refine ⟨p2, k1, k2, ?_, Nat.le_trans h4.1 k4.1, fun j hj a c => ?_⟩
  · rcases k3 with k3 | k3
    · rw [k3]; exact h3
    · exact Or.inr (by omega)
  · rw [k4.2 j (Nat.lt_of_lt_of_le hj h4.1) a (by rcases h3 with h3 | h3 <;> omega)]
    exact h4.2 j hj a c

/-- Two fresh variables. -/
def two (ss : List Tm) : List Tm := ss ++ [vtm ss.length, vtm (ss.length + 1)]
theorem two_len (ss : List Tm) : (two ss).length = ss.length + 2 := by simp [two]
theorem two_old {ss : List Tm} {i : Nat} (hi : i < ss.length) : (two ss)[i]? = ss[i]? := by rw [two, List.getElem?_append_left hi]
theorem two_0 (ss : List Tm) : (two ss)[ss.length]? = some (vtm ss.length) := by simp [two]
theorem two_1 (ss : List Tm) : (two ss)[ss.length + 1]? = some (vtm (ss.length + 1)) := by simp [two]
theorem acy_two {ss : List Tm} {rk : Nat → Nat} (h : Acy ss rk) : Acy (two ss) rk := by
  have hc : ∀ (i : Nat) u, (two ss)[i]? = some u → (ss[i]? = some u) ∨ (u = vtm i ∧ i < ss.length + 2) := by
    intro i u hu
    by_cases h1 : i < ss.length
    · rw [two_old h1] at hu; exact Or.inl hu
    · have h2 : i < ss.length + 2 := by have := (List.getElem?_eq_some_iff.1 hu).1; rw [two_len] at this; exact this
      have : i = ss.length ∨ i = ss.length + 1 := by omega
      rcases this with rfl | rfl
      · rw [two_0] at hu; cases hu; exact Or.inr ⟨rfl, h2⟩
      · rw [two_1] at hu; cases hu; exact Or.inr ⟨rfl, h2⟩
  refine ⟨fun i u hu => ?_, fun i u hu => ?_⟩
  · rw [two_len]
    rcases hc i u hu with h1 | ⟨rfl, h1⟩
    · exact wt_le (by omega) _ (h.wt i u h1)
    · exact wt_vtm h1
  · rcases hc i u hu with h1 | ⟨rfl, h1⟩
    · exact h.dn i u h1
    · exact Or.inl ⟨rfl, rfl⟩
theorem self_two {ss : List Tm} {i : Nat} (h : Self ss i) : Self (two ss) i := by
  obtain ⟨u, h1, h2⟩ := h
  exact ⟨u, by rw [two_old (List.getElem?_eq_some_iff.1 h1).1]; exact h1, h2⟩
theorem self_0 (ss : List Tm) : Self (two ss) ss.length := ⟨_, two_0 ss, rfl, rfl⟩
theorem self_1 (ss : List Tm) : Self (two ss) (ss.length + 1) := ⟨_, two_1 ss, rfl, rfl⟩
theorem self_ap {ss : List Tm} {i : Nat} (h : Self ss i) : Ap ss (vtm i) (vtm i) := by
  obtain ⟨u, h1, h2, h3⟩ := h
  exact .self (vtm i) u i rfl rfl h1 h2 h3
/-- The new end of a row. -/
def exl (l : ByteArray) (n : Nat) : Tm := .mk 5 l 0 [vtm n, vtm (n + 1)]
def grow (ss : List Tm) (i : Nat) (l : ByteArray) : List Tm := (two ss).set i (exl l ss.length)
theorem grow_len (ss : List Tm) (i : Nat) (l : ByteArray) : (grow ss i l).length = ss.length + 2 := by rw [grow, List.length_set, two_len]
theorem exl_wt (l : ByteArray) (n N : Nat) (h : n + 1 < N) : Wt N (exl l n) := by
  rw [exl, Wt]
  simp only [Wts]
  exact ⟨by decide, by decide, by simp, by simp, by simp, by simp, by simp, by simp, by simp, wt_vtm (by omega), wt_vtm h, trivial⟩
theorem acy_grow {ss : List Tm} {rk : Nat → Nat} (h : Acy ss rk) {i : Nat} (hi : Self ss i) (l : ByteArray) : ∃ rk', Acy (grow ss i l) rk' := by
  have hil : i < ss.length := by obtain ⟨u, h1, -⟩ := hi; exact (List.getElem?_eq_some_iff.1 h1).1
  refine acy_set (acy_two h) (self_two hi) (exl_wt _ _ _ (by rw [two_len]; omega)) ?_
  rintro ⟨B, h1, h2⟩
  obtain ⟨L, rfl, hs⟩ := ap_con (by decide) h1
  cases hs with | cons _ A1 _ L1 g1 hs => cases hs with | cons _ A2 _ L2 g2 hs =>
  cases hs
  obtain rfl := ap_det g1 (self_ap (self_0 ss))
  obtain rfl := ap_det g2 (self_ap (self_1 ss))
  rw [Occ, if_neg (by decide), Occs, Occs, Occs, vtm, vtm, Occ, Occ, if_pos rfl, if_pos rfl] at h2
  rcases h2 with h2 | h2 | h2
  · omega
  · omega
  · exact h2

theorem walk_var {ss : List Tm} {t : Tm} {i : Nat} (h : WalkTo ss t (vtm i)) : Self ss i := by
  generalize hr : vtm i = t' at h
  induction h with
  | con t h => subst hr; exact absurd rfl h
  | self t u j h hv hi hu hw =>
    subst hr
    have : (i : Int) = j := hv
    obtain rfl : i = j := by omega
    exact ⟨u, hi, hu, by rw [hw]; rfl⟩
  | step t u t' j h hv hi hn hr' ih => exact ih hr

/-- What extract answers: the error, the label's type, the row without it. -/
inductive ExR (l : ByteArray) (z : Int) (ss : List Tm) : Tm → Int → Tm → Tm → List Tm → Prop
  | cyc (r : Tm) (i : Nat) (hw : WalkTo ss r (vtm i)) (hz : (i : Int) = z) : ExR l z ss r 8 (vtm 0) (vtm 0) ss
  | large (r : Tm) (i : Nat) (hw : WalkTo ss r (vtm i)) (hz : (i : Int) ≠ z) (hl : 4096 < ss.length + 2) : ExR l z ss r 2 (vtm 0) (vtm 0) (two ss)
  | new (r : Tm) (i : Nat) (hw : WalkTo ss r (vtm i)) (hz : (i : Int) ≠ z) (hl : ss.length + 2 ≤ 4096) : ExR l z ss r (szd (grow ss i l)) (vtm ss.length) (vtm (ss.length + 1)) (grow ss i l)
  | stop (r r' : Tm) (hw : WalkTo ss r r') (h0 : kof r' ≠ 0) (h5 : kof r' ≠ 5) : ExR l z ss r 10 (vtm 0) (vtm 0) ss
  | here (r : Tm) (m : ByteArray) (v : Int) (x y : Tm) (hw : WalkTo ss r (.mk 5 m v [x, y])) (hm : (m.toList == l.toList) = true) : ExR l z ss r 0 x y ss
  | there (r : Tm) (m : ByteArray) (v : Int) (x y : Tm) (e : Int) (t q : Tm) (ss' : List Tm) (hw : WalkTo ss r (.mk 5 m v [x, y])) (hm : (m.toList == l.toList) = false) (h : ExR l z ss y e t q ss') : ExR l z ss r e t (.mk 5 m 0 [x, q]) ss'

theorem zero_c : tyc (vtm 0) = [.int .i64 0, .str ⟨#[]⟩, .int .i64 0, .sl [] 0 false none] := by rw [vtm_c]; rfl

set_option maxHeartbeats 16000000 in
theorem ex_law (hX : NoX X) {l : ByteArray} {z : Int} {ss : List Tm} {rk : Nat → Nat} {b : Nat} (hac : Acy ss rk) (hb : ss.length ≤ 100000) {r : Tm} {e : Int} {t q : Tm} {ss' : List Tm} (h : ExR l z ss r e t q ss') : ∀ (p : Nat) (s : St), b ≠ p → US s b p ss →
    WC T X 98 [.ptr b 0, .str l, .agg (tyc r), .int .i64 z] s (fun v s' => v = .tup [.agg (tyc t), .agg (tyc q), .int .i64 e] ∧ UN b p s ss' s') := by
  induction h with
  | cyc r i hw hz =>
    intro p s hbp hu
    refine WC_fn cf98 (hX 98 (by decide)) T98 (by simp [cf98]) ?_
    have hk1 := ((((Keep.refl s).new' (.cells (tyc r))).new' (.cells [.int .i64 0, .str ⟨#[]⟩, .int .i64 0, .nils])).new' (.cells [.int .i64 0, .str ⟨#[]⟩, .int .i64 0, .nils]))
    have hww := walk_law hX hw _ (hu.keep hk1).rd
    rw [vtm_c, tyc_w r, tyw] at hww
    rw [tyc_w r, tyw] at hk1 ⊢
    have z0 : ((0 : Int) == 0) = true := rfl
    have zz : ((i : Int) == z) = true := by simpa using hz
    simp only [cf98, hu.1, ne_a hu.2.2.1, ne_b hu.2.2.1, ne_c hu.2.2.1, ne_d hu.2.2.1, ne_e hu.2.2.1, ne_f hu.2.2.1, Nat.le_add_left, go_sem, ↓reduceIte, reduceCtorEq, Nat.reduceEqDiff, Nat.reduceAdd, Nat.reduceSub, Nat.reduceMul, Nat.reduceLeDiff, Nat.reduceLT, loadA, rdCells, storeA, setAt, binA]
    refine WR_callx _ rfl (hww.mono ?_)
    rintro w2 S2 ⟨rfl, hk2⟩
    have a1 := hk2.2 s.size (by simp only [St.new]; omega)
    have a2 := hk2.2 (s.size + 1) (by simp only [St.new]; omega)
    have a3 := hk2.2 (s.size + 1 + 1) (by simp only [St.new]; omega)
    simp only [go_sem, ↓reduceIte, reduceCtorEq, Nat.reduceEqDiff, Nat.reduceAdd, Nat.reduceSub, Nat.reduceMul, Nat.reduceLeDiff, Nat.reduceLT, loadA, rdCells, storeA, setAt, binA] at a1 a2 a3
    simp only [a1, a2, a3, z0, zz, Nat.le_add_left, go_sem, ↓reduceIte, reduceCtorEq, Nat.reduceEqDiff, Nat.reduceAdd, Nat.reduceSub, Nat.reduceMul, Nat.reduceLeDiff, Nat.reduceLT, loadA, rdCells, storeA, setAt, binA]
    exact ⟨by simp, _, rfl, by rw [zero_c], (UN.refl hu hbp).keep ((((hk1.trans hk2).put' (Nat.le_refl _) _).put' (Nat.le_succ _) _).put' (by omega) _)⟩
  | large r i hw hz hl =>
    intro p s hbp hu
    refine WC_fn cf98 (hX 98 (by decide)) T98 (by simp [cf98]) ?_
    have hk1 := ((((Keep.refl s).new' (.cells (tyc r))).new' (.cells [.int .i64 0, .str ⟨#[]⟩, .int .i64 0, .nils])).new' (.cells [.int .i64 0, .str ⟨#[]⟩, .int .i64 0, .nils]))
    have hww := walk_law hX hw _ (hu.keep hk1).rd
    rw [vtm_c, tyc_w r, tyw] at hww
    rw [tyc_w r, tyw] at hk1 ⊢
    have z0 : ((0 : Int) == 0) = true := rfl
    have zz : ((i : Int) == z) = false := by simpa using hz
    simp only [cf98, hu.1, ne_a hu.2.2.1, ne_b hu.2.2.1, ne_c hu.2.2.1, ne_d hu.2.2.1, ne_e hu.2.2.1, ne_f hu.2.2.1, Nat.le_add_left, go_sem, ↓reduceIte, reduceCtorEq, Nat.reduceEqDiff, Nat.reduceAdd, Nat.reduceSub, Nat.reduceMul, Nat.reduceLeDiff, Nat.reduceLT, loadA, rdCells, storeA, setAt, binA]
    refine WR_callx _ rfl (hww.mono ?_)
    rintro w2 S2 ⟨rfl, hk2⟩
    have a1 := hk2.2 s.size (by simp only [St.new]; omega)
    have a2 := hk2.2 (s.size + 1) (by simp only [St.new]; omega)
    have a3 := hk2.2 (s.size + 1 + 1) (by simp only [St.new]; omega)
    simp only [go_sem, ↓reduceIte, reduceCtorEq, Nat.reduceEqDiff, Nat.reduceAdd, Nat.reduceSub, Nat.reduceMul, Nat.reduceLeDiff, Nat.reduceLT, loadA, rdCells, storeA, setAt, binA] at a1 a2 a3
    simp only [a1, a2, a3, z0, zz, Nat.le_add_left, go_sem, ↓reduceIte, reduceCtorEq, Nat.reduceEqDiff, Nat.reduceAdd, Nat.reduceSub, Nat.reduceMul, Nat.reduceLeDiff, Nat.reduceLT, loadA, rdCells, storeA, setAt, binA]
    have hz2 := hk2.1
    simp only [St.new] at hz2
    have hb0 := hu.2.2.1
    have hp0 := hu.2.2.2
    obtain ⟨SB, hSB⟩ : ∃ SB, SB = S2.put s.size (some (.cells [.int .i64 0, .str ⟨#[]⟩, .int .i64 i, .sl [] 0 false none])) := ⟨_, rfl⟩
    have hkB : Keep s SB := by rw [hSB]; exact (hk1.trans hk2).put' (Nat.le_refl _) _
    have hzB : SB.size = S2.size := by rw [hSB]; rfl
    have c1 : SB.obj s.size = some (.cells [.int .i64 0, .str ⟨#[]⟩, .int .i64 i, .sl [] 0 false none]) := by rw [hSB, put_eq]
    have c2 : SB.obj (s.size + 1) = some (.cells [.int .i64 0, .str ⟨#[]⟩, .int .i64 0, .nils]) := by rw [hSB, put_ne (by omega)]; exact a2
    have c3 : SB.obj (s.size + 1 + 1) = some (.cells [.int .i64 0, .str ⟨#[]⟩, .int .i64 0, .nils]) := by rw [hSB, put_ne (by omega)]; exact a3
    rw [← hSB]
    refine WO_callx [.ptr b 0] (by simp only [go_sem, ↓reduceIte, reduceCtorEq, Nat.reduceEqDiff, Nat.reduceAdd, Nat.reduceSub, Nat.reduceMul, Nat.reduceLeDiff, Nat.reduceLT, loadA, rdCells, storeA, setAt, binA]) ((fresh_law hX (by omega) hbp SB (hu.keep hkB)).mono ?_)
    rintro w3 S3 ⟨rfl, hun3⟩
    obtain ⟨p3, u3, hbp3, hpp3, k3⟩ := hun3
    simp only [go_sem, ↓reduceIte, reduceCtorEq, Nat.reduceEqDiff, Nat.reduceAdd, Nat.reduceSub, Nat.reduceMul, Nat.reduceLeDiff, Nat.reduceLT, loadA, rdCells, storeA, setAt, binA]
    have hl1 : (ss ++ [vtm ss.length]).length = ss.length + 1 := by simp
    refine WO_callx [.ptr b 0] (by simp only [go_sem, ↓reduceIte, reduceCtorEq, Nat.reduceEqDiff, Nat.reduceAdd, Nat.reduceSub, Nat.reduceMul, Nat.reduceLeDiff, Nat.reduceLT, loadA, rdCells, storeA, setAt, binA]) ((fresh_law hX (by rw [hl1]; omega) hbp3 S3 u3).mono ?_)
    rintro w4 S4 ⟨rfl, hun4⟩
    rw [hl1] at hun4 ⊢
    have htw : ss ++ [vtm ss.length] ++ [vtm (ss.length + 1)] = two ss := by simp [two]
    rw [htw] at hun4
    have hUM3 : UM b p SB.size s (ss ++ [vtm ss.length]) S3 := UN.um ⟨p3, u3, hbp3, hpp3, k3⟩ hkB
    have hun4' := hun4
    obtain ⟨p4, u4, hbp4, hpp4, k4⟩ := hun4
    have hz3 := k3.1
    have hz4 := k4.1
    have hUM4 : UM b p SB.size s (two ss) S4 := by
      obtain ⟨q1, g1, g2, g3, g4⟩ := hUM3
      refine ⟨p4, u4, hbp4, ?_, Nat.le_trans g4.1 k4.1, fun j hj a c => ?_⟩
      · rcases hpp4 with h | h
        · rw [h]; exact hpp3
        · exact Or.inr (by omega)
      · have h1 := hkB.2 j hj
        rw [k4.2 j (by have := hkB.1; omega) a (by have := hkB.1; rcases hpp3 with h | h <;> omega), k3.2 j (by have := hkB.1; omega) a c, h1]
    have keep4 : ∀ j, j < SB.size → j ≠ b → j ≠ p → S4.obj j = SB.obj j := fun j hj a c => by
      rw [k4.2 j (by omega) a (by rcases hpp3 with h | h <;> omega), k3.2 j hj a c]
    have d1 := (keep4 s.size (by omega) (by omega) (by omega)).trans c1
    have d2 := (keep4 (s.size + 1) (by omega) (by omega) (by omega)).trans c2
    have d3 := (keep4 (s.size + 1 + 1) (by omega) (by omega) (by omega)).trans c3
    have l4 : lenA (.msl p4 0 (two ss).length 4) = some (.int .i64 ((ss.length + 2 : Nat) : Int)) := by rw [two_len]; rfl
    have hb4 := u4.2.2.1
    have hp4 := u4.2.2.2
    have v0 : tyc (vtm ss.length) = [.int .i64 0, .str ⟨#[]⟩, .int .i64 ss.length, .sl [] 0 false none] := vtm_c _
    have v1 : tyc (vtm (ss.length + 1)) = [.int .i64 0, .str ⟨#[]⟩, .int .i64 ((ss.length + 1 : Nat) : Int), .sl [] 0 false none] := vtm_c _
    have y0 : s.size < S4.size := by omega
    have y1 : s.size + 1 < S4.size := by omega
    have y2 : s.size + 1 + 1 < S4.size := by omega
    rw [v0, v1]
    have hgt : decide (((ss.length + 2 : Nat) : Int) > 4096) = true := by simp; omega
    simp only [u4.1, l4, hgt, d1, d2, d3, ne_a hb4, ne_b hb4, ne_c hb4, ne_d hb4, ne_a hp4, ne_b hp4, ne_c hp4, ne_d hp4, ne_a y0, ne_b y0, ne_c y0, ne_d y0, ne_a y1, ne_b y1, ne_c y1, ne_d y1, ne_a y2, ne_b y2, ne_c y2, ne_d y2, Nat.le_add_left, go_sem, ↓reduceIte, reduceCtorEq, Nat.reduceEqDiff, Nat.reduceAdd, Nat.reduceSub, Nat.reduceMul, Nat.reduceLeDiff, Nat.reduceLT, loadA, rdCells, storeA, setAt, binA]
    refine ⟨by simp, _, rfl, by rw [zero_c], ?_⟩
    exact (((hUM4.keep (((((Keep.refl S4).new' _).new' _).put' (Nat.le_refl _) _).put' (Nat.le_succ _) _)).put (j := s.size + 1) (by omega) (by omega) (by omega) (by omega) _).put (j := s.size + 1 + 1) (by omega) (by omega) (by omega) (by omega) _).un (by omega)
  | new r i hw hz hl =>
    intro p s hbp hu
    refine WC_fn cf98 (hX 98 (by decide)) T98 (by simp [cf98]) ?_
    have hk1 := ((((Keep.refl s).new' (.cells (tyc r))).new' (.cells [.int .i64 0, .str ⟨#[]⟩, .int .i64 0, .nils])).new' (.cells [.int .i64 0, .str ⟨#[]⟩, .int .i64 0, .nils]))
    have hww := walk_law hX hw _ (hu.keep hk1).rd
    rw [vtm_c, tyc_w r, tyw] at hww
    rw [tyc_w r, tyw] at hk1 ⊢
    have z0 : ((0 : Int) == 0) = true := rfl
    have zz : ((i : Int) == z) = false := by simpa using hz
    simp only [cf98, hu.1, ne_a hu.2.2.1, ne_b hu.2.2.1, ne_c hu.2.2.1, ne_d hu.2.2.1, ne_e hu.2.2.1, ne_f hu.2.2.1, Nat.le_add_left, go_sem, ↓reduceIte, reduceCtorEq, Nat.reduceEqDiff, Nat.reduceAdd, Nat.reduceSub, Nat.reduceMul, Nat.reduceLeDiff, Nat.reduceLT, loadA, rdCells, storeA, setAt, binA]
    refine WR_callx _ rfl (hww.mono ?_)
    rintro w2 S2 ⟨rfl, hk2⟩
    have a1 := hk2.2 s.size (by simp only [St.new]; omega)
    have a2 := hk2.2 (s.size + 1) (by simp only [St.new]; omega)
    have a3 := hk2.2 (s.size + 1 + 1) (by simp only [St.new]; omega)
    simp only [go_sem, ↓reduceIte, reduceCtorEq, Nat.reduceEqDiff, Nat.reduceAdd, Nat.reduceSub, Nat.reduceMul, Nat.reduceLeDiff, Nat.reduceLT, loadA, rdCells, storeA, setAt, binA] at a1 a2 a3
    simp only [a1, a2, a3, z0, zz, Nat.le_add_left, go_sem, ↓reduceIte, reduceCtorEq, Nat.reduceEqDiff, Nat.reduceAdd, Nat.reduceSub, Nat.reduceMul, Nat.reduceLeDiff, Nat.reduceLT, loadA, rdCells, storeA, setAt, binA]
    have hz2 := hk2.1
    simp only [St.new] at hz2
    have hb0 := hu.2.2.1
    have hp0 := hu.2.2.2
    obtain ⟨SB, hSB⟩ : ∃ SB, SB = S2.put s.size (some (.cells [.int .i64 0, .str ⟨#[]⟩, .int .i64 i, .sl [] 0 false none])) := ⟨_, rfl⟩
    have hkB : Keep s SB := by rw [hSB]; exact (hk1.trans hk2).put' (Nat.le_refl _) _
    have hzB : SB.size = S2.size := by rw [hSB]; rfl
    have c1 : SB.obj s.size = some (.cells [.int .i64 0, .str ⟨#[]⟩, .int .i64 i, .sl [] 0 false none]) := by rw [hSB, put_eq]
    have c2 : SB.obj (s.size + 1) = some (.cells [.int .i64 0, .str ⟨#[]⟩, .int .i64 0, .nils]) := by rw [hSB, put_ne (by omega)]; exact a2
    have c3 : SB.obj (s.size + 1 + 1) = some (.cells [.int .i64 0, .str ⟨#[]⟩, .int .i64 0, .nils]) := by rw [hSB, put_ne (by omega)]; exact a3
    rw [← hSB]
    refine WO_callx [.ptr b 0] (by simp only [go_sem, ↓reduceIte, reduceCtorEq, Nat.reduceEqDiff, Nat.reduceAdd, Nat.reduceSub, Nat.reduceMul, Nat.reduceLeDiff, Nat.reduceLT, loadA, rdCells, storeA, setAt, binA]) ((fresh_law hX (by omega) hbp SB (hu.keep hkB)).mono ?_)
    rintro w3 S3 ⟨rfl, hun3⟩
    obtain ⟨p3, u3, hbp3, hpp3, k3⟩ := hun3
    simp only [go_sem, ↓reduceIte, reduceCtorEq, Nat.reduceEqDiff, Nat.reduceAdd, Nat.reduceSub, Nat.reduceMul, Nat.reduceLeDiff, Nat.reduceLT, loadA, rdCells, storeA, setAt, binA]
    have hl1 : (ss ++ [vtm ss.length]).length = ss.length + 1 := by simp
    refine WO_callx [.ptr b 0] (by simp only [go_sem, ↓reduceIte, reduceCtorEq, Nat.reduceEqDiff, Nat.reduceAdd, Nat.reduceSub, Nat.reduceMul, Nat.reduceLeDiff, Nat.reduceLT, loadA, rdCells, storeA, setAt, binA]) ((fresh_law hX (by rw [hl1]; omega) hbp3 S3 u3).mono ?_)
    rintro w4 S4 ⟨rfl, hun4⟩
    rw [hl1] at hun4 ⊢
    have htw : ss ++ [vtm ss.length] ++ [vtm (ss.length + 1)] = two ss := by simp [two]
    rw [htw] at hun4
    have hUM3 : UM b p SB.size s (ss ++ [vtm ss.length]) S3 := UN.um ⟨p3, u3, hbp3, hpp3, k3⟩ hkB
    have hun4' := hun4
    obtain ⟨p4, u4, hbp4, hpp4, k4⟩ := hun4
    have hz3 := k3.1
    have hz4 := k4.1
    have hUM4 : UM b p SB.size s (two ss) S4 := by
      obtain ⟨q1, g1, g2, g3, g4⟩ := hUM3
      refine ⟨p4, u4, hbp4, ?_, Nat.le_trans g4.1 k4.1, fun j hj a c => ?_⟩
      · rcases hpp4 with h | h
        · rw [h]; exact hpp3
        · exact Or.inr (by omega)
      · have h1 := hkB.2 j hj
        rw [k4.2 j (by have := hkB.1; omega) a (by have := hkB.1; rcases hpp3 with h | h <;> omega), k3.2 j (by have := hkB.1; omega) a c, h1]
    have keep4 : ∀ j, j < SB.size → j ≠ b → j ≠ p → S4.obj j = SB.obj j := fun j hj a c => by
      rw [k4.2 j (by omega) a (by rcases hpp3 with h | h <;> omega), k3.2 j hj a c]
    have d1 := (keep4 s.size (by omega) (by omega) (by omega)).trans c1
    have d2 := (keep4 (s.size + 1) (by omega) (by omega) (by omega)).trans c2
    have d3 := (keep4 (s.size + 1 + 1) (by omega) (by omega) (by omega)).trans c3
    have l4 : lenA (.msl p4 0 (two ss).length 4) = some (.int .i64 ((ss.length + 2 : Nat) : Int)) := by rw [two_len]; rfl
    have hb4 := u4.2.2.1
    have hp4 := u4.2.2.2
    have v0 : tyc (vtm ss.length) = [.int .i64 0, .str ⟨#[]⟩, .int .i64 ss.length, .sl [] 0 false none] := vtm_c _
    have v1 : tyc (vtm (ss.length + 1)) = [.int .i64 0, .str ⟨#[]⟩, .int .i64 ((ss.length + 1 : Nat) : Int), .sl [] 0 false none] := vtm_c _
    have y0 : s.size < S4.size := by omega
    have y1 : s.size + 1 < S4.size := by omega
    have y2 : s.size + 1 + 1 < S4.size := by omega
    rw [v0, v1]
    have hgt : decide (((ss.length + 2 : Nat) : Int) > 4096) = false := by simp; omega
    simp only [u4.1, l4, hgt, d1, d2, d3, ne_a hb4, ne_b hb4, ne_c hb4, ne_d hb4, ne_a hp4, ne_b hp4, ne_c hp4, ne_d hp4, ne_a y0, ne_b y0, ne_c y0, ne_d y0, ne_a y1, ne_b y1, ne_c y1, ne_d y1, ne_a y2, ne_b y2, ne_c y2, ne_d y2, Nat.le_add_left, go_sem, ↓reduceIte, reduceCtorEq, Nat.reduceEqDiff, Nat.reduceAdd, Nat.reduceSub, Nat.reduceMul, Nat.reduceLeDiff, Nat.reduceLT, loadA, rdCells, storeA, setAt, binA]
    obtain ⟨SC, hSC⟩ : ∃ SC, SC = (((S4.new (.cells [.int .i64 0, .str ⟨#[]⟩, .int .i64 0, .nils])).new (.cells [.int .i64 0, .str ⟨#[]⟩, .int .i64 0, .nils])).put S4.size (some (.cells [.int .i64 0, .str ⟨#[]⟩, .int .i64 ss.length, .sl [] 0 false none]))).put (S4.size + 1) (some (.cells [.int .i64 0, .str ⟨#[]⟩, .int .i64 ((ss.length + 1 : Nat) : Int), .sl [] 0 false none])) := ⟨_, rfl⟩
    have hkC : Keep S4 SC := by rw [hSC]; exact ((((Keep.refl S4).new' _).new' _).put' (Nat.le_refl _) _).put' (Nat.le_succ _) _
    have hzC : SC.size = S4.size + 1 + 1 := by rw [hSC]; rfl
    have uC := u4.keep hkC
    have f1 := hkC.obj y0 d1
    have f2 := hkC.obj y1 d2
    have f3 := hkC.obj y2 d3
    have g1 : SC.obj S4.size = some (.cells [.int .i64 0, .str ⟨#[]⟩, .int .i64 ss.length, .sl [] 0 false none]) := by rw [hSC, put_ne (by omega), put_eq]
    have g2 : SC.obj (S4.size + 1) = some (.cells [.int .i64 0, .str ⟨#[]⟩, .int .i64 ((ss.length + 1 : Nat) : Int), .sl [] 0 false none]) := by rw [hSC, put_eq]
    rw [← hSC]
    refine W_dreg ?_
    have hil : i < ss.length := by
      obtain ⟨u, h1, -⟩ := walk_var hw
      exact (List.getElem?_eq_some_iff.1 h1).1
    have hext := fun S => ext_law hX l (vtm ss.length) (vtm (ss.length + 1)) S
    rw [v0, v1] at hext
    simp only [wt_ops, stpT, Tr, uC.1, f1, f2, f3, g1, g2, l4, wt_nil, chk1, avr, Bool.or_true, Nat.le_add_left, go_sem, ↓reduceIte, reduceCtorEq, Nat.reduceEqDiff, Nat.reduceAdd, Nat.reduceSub, Nat.reduceMul, Nat.reduceLeDiff, Nat.reduceLT, loadA, rdCells, storeA, setAt, binA]
    refine WT_callx [.str l, .agg [.int .i64 0, .str ⟨#[]⟩, .int .i64 ss.length, .sl [] 0 false none], .agg [.int .i64 0, .str ⟨#[]⟩, .int .i64 ((ss.length + 1 : Nat) : Int), .sl [] 0 false none]] (by simp only [go_sem, ↓reduceIte, reduceCtorEq, Nat.reduceEqDiff, Nat.reduceAdd, Nat.reduceSub, Nat.reduceMul, Nat.reduceLeDiff, Nat.reduceLT, loadA, rdCells, storeA, setAt, binA]) ((hext SC).mono ?_)
    rintro w5 S5 ⟨rfl, hk5⟩
    have hz5 := hk5.1
    have uS := uC.keep hk5
    have h1 := hk5.obj (by omega) f1
    have h2 := hk5.obj (by omega) f2
    have h3 := hk5.obj (by omega) f3
    have h4 := hk5.obj (by omega) g1
    have h5 := hk5.obj (by omega) g2
    have hi2 : i < (two ss).length := by rw [two_len]; omega
    have hpi := maddr (p := p4) (n := (two ss).length) (i := i) hi2
    have hst := mstore tycP uS.2.1 hi2 (exl l ss.length)
    obtain ⟨S6, hS6⟩ : ∃ S6, S6 = S5.put p4 (some (.cells (((two ss).set i (exl l ss.length)).flatMap tyc))) := ⟨_, rfl⟩
    rw [← hS6] at hst
    have hex : Tm.mk 5 l 0 [vtm ss.length, vtm (ss.length + 1)] = exl l ss.length := rfl
    rw [hex]
    simp only [wt_ops, stpT, Tr, uC.1, uS.1, f1, f2, f3, g1, g2, h1, h2, h3, hpi, hst, wt_nil, chk1, avr, Bool.or_true, Bool.false_or, Nat.le_add_left, setAt, loadA, rdCells, go_sem, ↓reduceIte, reduceCtorEq, Nat.reduceEqDiff, Nat.reduceAdd, Nat.reduceSub, Nat.reduceMul, Nat.reduceLeDiff, Nat.reduceLT, binA]
    obtain ⟨rk', hac'⟩ := acy_grow hac (walk_var hw) l
    have hgl := grow_len ss i l
    have hp4S : s.size + 1 + 1 < p4 ∨ p4 = p := by
      rcases hpp4 with h | h
      · rcases hpp3 with h' | h'
        · exact Or.inr (h.trans h')
        · exact Or.inl (by omega)
      · exact Or.inl (by omega)
    have hp4n : ∀ j, s.size ≤ j → j ≤ s.size + 1 + 1 → j ≠ p4 := fun j hj hj2 => by rcases hp4S with h | h <;> omega
    have z6 : S6.size = S5.size := by rw [hS6]; rfl
    have k1 := (show S6.obj (s.size) = S5.obj (s.size) by rw [hS6, put_ne (hp4n _ (by omega) (by omega))]).trans h1
    have k2 := (show S6.obj (s.size + 1) = S5.obj (s.size + 1) by rw [hS6, put_ne (hp4n _ (by omega) (by omega))]).trans h2
    have k3 := (show S6.obj (s.size + 1 + 1) = S5.obj (s.size + 1 + 1) by rw [hS6, put_ne (hp4n _ (by omega) (by omega))]).trans h3
    have k4 := (show S6.obj (S4.size) = S5.obj (S4.size) by rw [hS6, put_ne (by omega)]).trans h4
    have k5 := (show S6.obj (S4.size + 1) = S5.obj (S4.size + 1) by rw [hS6, put_ne (by omega)]).trans h5
    have u6 : US S6 b p4 (grow ss i l) := ⟨by rw [hS6, put_ne hbp4, hgl, ← two_len]; exact uS.1, by rw [hS6, put_eq]; rfl, by have := uS.2.2.1; omega, by have := uS.2.2.2; omega⟩
    have l6 : lenA (.msl p4 0 (grow ss i l).length 4) = some (.int .i64 ((grow ss i l).length : Nat)) := rfl
    have hsz := sized_all hX hac' (by rw [hgl]; omega) S6 u6.rd
    refine W_dreg ?_
    simp only [wt_ops, stpT, Tr, u6.1, k1, k2, k3, k4, k5, wt_nil, chk1, avr, Bool.or_true, Bool.false_or, Nat.le_add_left, go_sem, ↓reduceIte, reduceCtorEq, Nat.reduceEqDiff, Nat.reduceAdd, Nat.reduceSub, Nat.reduceMul, Nat.reduceLeDiff, Nat.reduceLT, loadA, rdCells, storeA, setAt, binA]
    refine WT_callx [.msl p4 0 (grow ss i l).length 4] (by simp only [go_sem, ↓reduceIte, reduceCtorEq, Nat.reduceEqDiff, Nat.reduceAdd, Nat.reduceSub, Nat.reduceMul, Nat.reduceLeDiff, Nat.reduceLT, loadA, rdCells, storeA, setAt, binA]) (hsz.mono ?_)
    rintro w7 S7 ⟨rfl, hk7⟩
    have z7 := hk7.1
    have m1 := hk7.obj (by omega) k1
    have m2 := hk7.obj (by omega) k2
    have m3 := hk7.obj (by omega) k3
    have m4 := hk7.obj (by omega) k4
    have m5 := hk7.obj (by omega) k5
    have n41 : S4.size ≠ s.size + 1 := by omega
    have n42 : (S4.size = s.size + 1) = False := eq_false (by omega)
    have n43 : (S4.size + 1 = s.size + 1) = False := eq_false (by omega)
    have n44 : (s.size + 1 = S4.size) = False := eq_false (by omega)
    have n45 : (s.size + 1 = S4.size + 1) = False := eq_false (by omega)
    simp only [wt_ops, stpT, Tr, u6.1, k1, k2, k3, k4, k5, m1, m2, m3, m4, m5, n42, n43, n44, n45, wt_nil, chk1, avr, Bool.or_true, Bool.false_or, Nat.le_add_left, go_sem, ↓reduceIte, reduceCtorEq, Nat.reduceEqDiff, Nat.reduceAdd, Nat.reduceSub, Nat.reduceMul, Nat.reduceLeDiff, Nat.reduceLT, loadA, rdCells, storeA, setAt, binA]
    have hU6 : UM b p SB.size s (grow ss i l) S6 := by
      have hkBz := hkB.1
      have hp4M : p4 = p ∨ SB.size ≤ p4 := by
        rcases hpp4 with h | h
        · rw [h]; exact hpp3
        · exact Or.inr (by omega)
      refine ⟨p4, u6, hbp4, hp4M, by omega, fun j hj a c => ?_⟩
      rw [hS6, put_ne (by rcases hp4M with h | h <;> omega), hk5.2 j (by omega), hkC.2 j (by omega), keep4 j (by omega) a c, hkB.2 j hj]
    exact ⟨by simp, _, rfl, rfl, (((hU6.keep hk7).put (j := s.size + 1) (by omega) (by omega) (by omega) (by omega) _).put (j := s.size + 1 + 1) (by omega) (by omega) (by omega) (by omega) _).un (by omega)⟩
  | stop r r' hw h0 h5 =>
    intro p s hbp hu
    refine WC_fn cf98 (hX 98 (by decide)) T98 (by simp [cf98]) ?_
    have hk1 := ((((Keep.refl s).new' (.cells (tyc r))).new' (.cells [.int .i64 0, .str ⟨#[]⟩, .int .i64 0, .nils])).new' (.cells [.int .i64 0, .str ⟨#[]⟩, .int .i64 0, .nils]))
    have hww := walk_law hX hw _ (hu.keep hk1).rd
    rw [tyc_w r', tyw, tyc_w r, tyw] at hww
    rw [tyc_w r, tyw] at hk1 ⊢
    have z0 : (kof r' == 0) = false := by simpa using h0
    have z5 : (kof r' != 5) = true := by simpa using h5
    simp only [cf98, hu.1, ne_a hu.2.2.1, ne_b hu.2.2.1, ne_c hu.2.2.1, ne_d hu.2.2.1, ne_e hu.2.2.1, ne_f hu.2.2.1, Nat.le_add_left, go_sem, ↓reduceIte, reduceCtorEq, Nat.reduceEqDiff, Nat.reduceAdd, Nat.reduceSub, Nat.reduceMul, Nat.reduceLeDiff, Nat.reduceLT, loadA, rdCells, storeA, setAt, binA]
    refine WR_callx _ rfl (hww.mono ?_)
    rintro w2 S2 ⟨rfl, hk2⟩
    have a1 := hk2.2 s.size (by simp only [St.new]; omega)
    have a2 := hk2.2 (s.size + 1) (by simp only [St.new]; omega)
    have a3 := hk2.2 (s.size + 1 + 1) (by simp only [St.new]; omega)
    simp only [go_sem, ↓reduceIte, reduceCtorEq, Nat.reduceEqDiff, Nat.reduceAdd, Nat.reduceSub, Nat.reduceMul, Nat.reduceLeDiff, Nat.reduceLT, loadA, rdCells, storeA, setAt, binA] at a1 a2 a3
    simp only [a1, a2, a3, z0, z5, Nat.le_add_left, go_sem, ↓reduceIte, reduceCtorEq, Nat.reduceEqDiff, Nat.reduceAdd, Nat.reduceSub, Nat.reduceMul, Nat.reduceLeDiff, Nat.reduceLT, loadA, rdCells, storeA, setAt, binA]
    exact ⟨by simp, _, rfl, by rw [zero_c], (UN.refl hu hbp).keep ((((hk1.trans hk2).put' (Nat.le_refl _) _).put' (Nat.le_succ _) _).put' (by omega) _)⟩
  | here r m v x y hw hm =>
    intro p s hbp hu
    refine WC_fn cf98 (hX 98 (by decide)) T98 (by simp [cf98]) ?_
    have hk1 := ((((Keep.refl s).new' (.cells (tyc r))).new' (.cells [.int .i64 0, .str ⟨#[]⟩, .int .i64 0, .nils])).new' (.cells [.int .i64 0, .str ⟨#[]⟩, .int .i64 0, .nils]))
    have hww := walk_law hX hw _ (hu.keep hk1).rd
    rw [row_c, tyc_w r, tyw] at hww
    rw [tyc_w r, tyw] at hk1 ⊢
    have z1 : ((5 : Int) == 0) = false := rfl
    have z2 : ((5 : Int) != 5) = false := rfl
    have o1 : s.size + 1 ≠ s.size := by omega
    simp only [cf98, hu.1, ne_a hu.2.2.1, ne_b hu.2.2.1, ne_c hu.2.2.1, ne_d hu.2.2.1, ne_e hu.2.2.1, ne_f hu.2.2.1, Nat.le_add_left, go_sem, ↓reduceIte, reduceCtorEq, Nat.reduceEqDiff, Nat.reduceAdd, Nat.reduceSub, Nat.reduceMul, Nat.reduceLeDiff, Nat.reduceLT, loadA, rdCells, storeA, setAt, binA]
    refine WR_callx _ rfl (hww.mono ?_)
    rintro w2 S2 ⟨rfl, hk2⟩
    have a1 := hk2.2 s.size (by simp only [St.new]; omega)
    have a2 := hk2.2 (s.size + 1) (by simp only [St.new]; omega)
    have a3 := hk2.2 (s.size + 1 + 1) (by simp only [St.new]; omega)
    simp only [go_sem, ↓reduceIte, reduceCtorEq, Nat.reduceEqDiff, Nat.reduceAdd, Nat.reduceSub, Nat.reduceMul, Nat.reduceLeDiff, Nat.reduceLT, loadA, rdCells, storeA, setAt, binA] at a1 a2 a3
    simp only [a1, a2, a3, z1, z2, hm, ia0, ia1, Nat.le_add_left, go_sem, ↓reduceIte, reduceCtorEq, Nat.reduceEqDiff, Nat.reduceAdd, Nat.reduceSub, Nat.reduceMul, Nat.reduceLeDiff, Nat.reduceLT, loadA, rdCells, storeA, setAt, binA]
    refine W_dreg ?_
    simp only [wt_ops, stpT, Tr, a1, a2, a3, ia0, ia1, wt_nil, chk1, avr, Bool.or_true, Nat.le_add_left, go_sem, ↓reduceIte, reduceCtorEq, Nat.reduceEqDiff, Nat.reduceAdd, Nat.reduceSub, Nat.reduceMul, Nat.reduceLeDiff, Nat.reduceLT, loadA, rdCells, storeA, setAt, binA]
    exact ⟨by simp, _, rfl, by rw [tyc_w x, tyc_w y]; rfl, (UN.refl hu hbp).keep ((((hk1.trans hk2).put' (Nat.le_refl _) _).put' (Nat.le_succ _) _).put' (by omega) _)⟩
  | there r m v x y e t q ss' hw hm h ih =>
    intro p s hbp hu
    refine WC_fn cf98 (hX 98 (by decide)) T98 (by simp [cf98]) ?_
    have hk1 := ((((Keep.refl s).new' (.cells (tyc r))).new' (.cells [.int .i64 0, .str ⟨#[]⟩, .int .i64 0, .nils])).new' (.cells [.int .i64 0, .str ⟨#[]⟩, .int .i64 0, .nils]))
    have hww := walk_law hX hw _ (hu.keep hk1).rd
    rw [row_c, tyc_w r, tyw] at hww
    rw [tyc_w r, tyw] at hk1 ⊢
    have z1 : ((5 : Int) == 0) = false := rfl
    have z2 : ((5 : Int) != 5) = false := rfl
    have ihx := fun (S2 : St) (hk2 : Keep s S2) => ih p S2 hbp (hu.keep hk2)
    rw [tyc_w y, tyw] at ihx
    simp only [cf98, hu.1, ne_a hu.2.2.1, ne_b hu.2.2.1, ne_c hu.2.2.1, ne_d hu.2.2.1, ne_e hu.2.2.1, ne_f hu.2.2.1, Nat.le_add_left, go_sem, ↓reduceIte, reduceCtorEq, Nat.reduceEqDiff, Nat.reduceAdd, Nat.reduceSub, Nat.reduceMul, Nat.reduceLeDiff, Nat.reduceLT, loadA, rdCells, storeA, setAt, binA]
    refine WR_callx _ rfl (hww.mono ?_)
    rintro w2 S2 ⟨rfl, hk2⟩
    have a1 := hk2.2 s.size (by simp only [St.new]; omega)
    have a2 := hk2.2 (s.size + 1) (by simp only [St.new]; omega)
    have a3 := hk2.2 (s.size + 1 + 1) (by simp only [St.new]; omega)
    simp only [go_sem, ↓reduceIte, reduceCtorEq, Nat.reduceEqDiff, Nat.reduceAdd, Nat.reduceSub, Nat.reduceMul, Nat.reduceLeDiff, Nat.reduceLT, loadA, rdCells, storeA, setAt, binA] at a1 a2 a3
    simp only [a1, a2, a3, z1, z2, hm, ia0, ia1, Nat.le_add_left, go_sem, ↓reduceIte, reduceCtorEq, Nat.reduceEqDiff, Nat.reduceAdd, Nat.reduceSub, Nat.reduceMul, Nat.reduceLeDiff, Nat.reduceLT, loadA, rdCells, storeA, setAt, binA]
    refine WO_callx _ rfl ((ihx _ ((hk1.trans hk2).put' (Nat.le_refl _) _)).mono ?_)
    rintro w3 S3 ⟨rfl, hun⟩
    have hz3 := hun.size
    have hz2 := hk2.1
    simp only [St.new, St.put] at hz3 hz2
    have hb3 := hu.2.2.1
    have hp3 := hu.2.2.2
    have b1 := hun.obj (j := s.size) (by simp only [St.put]; omega) (by omega) (by omega) rfl
    have b2 := hun.obj (j := s.size + 1) (by simp only [St.put]; omega) (by omega) (by omega) rfl
    have b3 := hun.obj (j := s.size + 1 + 1) (by simp only [St.put]; omega) (by omega) (by omega) rfl
    simp only [a1, a2, a3, go_sem, ↓reduceIte, reduceCtorEq, Nat.reduceEqDiff, Nat.reduceAdd, Nat.reduceSub, Nat.reduceMul, Nat.reduceLeDiff, Nat.reduceLT, loadA, rdCells, storeA, setAt, binA] at b1 b2 b3
    have hUA : UN b p s ss' S3 := hun.from ((hk1.trans hk2).put' (Nat.le_refl _) _)
    have hq3 : s.size < S3.size := by omega
    rw [tyc_w t, tyc_w q, tyw, tyw]
    have o1 : s.size + 1 < S3.size := by omega
    have o2 : s.size + 1 + 1 < S3.size := by omega
    simp only [b1, b2, b3, ia0, ia1, Nat.le_add_left, go_sem, ↓reduceIte, reduceCtorEq, Nat.reduceEqDiff, Nat.reduceAdd, Nat.reduceSub, Nat.reduceMul, Nat.reduceLeDiff, Nat.reduceLT, loadA, rdCells, storeA, setAt, binA]
    refine W_dreg ?_
    simp only [wt_ops, stpT, Tr, b1, b2, b3, ia0, ia1, wt_nil, chk1, avr, ne_a hq3, ne_b hq3, ne_c hq3, ne_d hq3, ne_a o1, ne_b o1, ne_c o1, ne_d o1, ne_a o2, ne_b o2, ne_c o2, ne_d o2, Bool.or_true, Nat.le_add_left, go_sem, ↓reduceIte, reduceCtorEq, Nat.reduceEqDiff, Nat.reduceAdd, Nat.reduceSub, Nat.reduceMul, Nat.reduceLeDiff, Nat.reduceLT, loadA, rdCells, storeA, setAt, binA]
    have hext := fun S => ext_law hX m x q S
    rw [row_c, tyc_w x, tyc_w q, tyw, tyw] at hext
    refine WT_callx _ rfl ((hext _).mono ?_)
    rintro w4 S4 ⟨rfl, hk4⟩
    have hz4 := hk4.1
    simp only [St.new, St.put] at hz4
    have c1 := hk4.2 s.size (by simp only [St.put, St.new]; omega)
    have c2 := hk4.2 (s.size + 1) (by simp only [St.put, St.new]; omega)
    have c3 := hk4.2 (s.size + 1 + 1) (by simp only [St.put, St.new]; omega)
    have c4 := hk4.2 S3.size (by simp only [St.put, St.new]; omega)
    simp only [b1, b2, b3, ne_a hq3, ne_b hq3, ne_c hq3, ne_d hq3, ne_a o1, ne_b o1, ne_c o1, ne_d o1, ne_a o2, ne_b o2, ne_c o2, ne_d o2, go_sem, ↓reduceIte, reduceCtorEq, Nat.reduceEqDiff, Nat.reduceAdd, Nat.reduceSub, Nat.reduceMul, Nat.reduceLeDiff, Nat.reduceLT, loadA, rdCells, storeA, setAt, binA] at c1 c2 c3 c4
    simp only [wt_ops, stpT, Tr, b1, b2, b3, c1, c2, c3, c4, ia0, ia1, wt_nil, chk1, avr, ne_a hq3, ne_b hq3, ne_c hq3, ne_d hq3, ne_a o1, ne_b o1, ne_c o1, ne_d o1, ne_a o2, ne_b o2, ne_c o2, ne_d o2, Bool.or_true, Nat.le_add_left, go_sem, ↓reduceIte, reduceCtorEq, Nat.reduceEqDiff, Nat.reduceAdd, Nat.reduceSub, Nat.reduceMul, Nat.reduceLeDiff, Nat.reduceLT, loadA, rdCells, storeA, setAt, binA]
    have hUM := ((hun.um ((hk1.trans hk2).put' (Nat.le_refl _) (some (.cells [.int .i64 5, .str m, .int .i64 v, .sl [.int .i64 (kof x), .str (nof x), .int .i64 (vof x), .sl (tycs (lof x)) (lof x).length false none, .int .i64 (kof y), .str (nof y), .int .i64 (vof y), .sl (tycs (lof y)) (lof y).length false none] 2 false none])))).keep (((((Keep.refl S3).new' _).new' _).put' (Nat.le_refl _) _).put' (Nat.le_succ _) _ |>.trans hk4))
    refine ⟨by simp, _, rfl, by rw [row_c], ((hUM.put (j := s.size + 1) (by omega) (by simp only [St.put]; omega) (by omega) (by omega) _).put (j := s.size + 1 + 1) (by omega) (by simp only [St.put]; omega) (by omega) (by omega) _).un (by simp only [St.put]; omega)⟩
end Go.Am.U1

/- The end of a row; the unifier's runs. Conditions: none. -/
namespace Go.Am.U1
open Go.Am.Un
set_option maxRecDepth 100000
set_option linter.unusedSimpArgs false
attribute [local go_sem] wseq COp.isStore wreg wdreg wret wskip wexit wblock wcnd cnd_t cnd_f then_n then_x then_r catch_n rnd_n rnd_x rnd_r catch_x catch_r wo_nil wo_grd grdO_t grdO_f wo_ops stpO wr_nil wr_alloc wr_guards grdR_t grdR_f wr_ops stpR evAllocs evOp env0_app eput_some eput_none eset_app Opd.ev wantedA faddrA snew_obj snew_size sput_obj sput_size av_cells av_one av_strip av_still unA eqbA fillA fldA lensA mmA mm2 mmFold List.getD_cons_zero List.getD_cons_succ List.getD_nil List.length_cons List.length_nil List.drop_zero List.drop_succ_cons List.take_succ_cons List.take_zero List.map_cons List.map_nil List.set_cons_zero List.set_cons_succ List.all_cons List.all_nil List.getElem?_cons_zero List.getElem?_cons_succ List.nil_append List.cons_append Nat.zero_add Nat.add_zero beq_self_eq_true bt bf Bool.not_true Bool.not_false Bool.and_true Bool.true_and Bool.and_false Bool.false_and and_self and_true true_and n0 n1 n2 n3 n4 m0 m1 m2 m3 c1 retA resAs resA undefA Option.map_some Option.map_none
variable {X : Ext}

/-- The variable at the end of a row that was walked to; -1: none. -/
inductive TlE (ss : List Tm) : Tm → Int → Prop
  | var (t : Tm) (h : kof t = 0) : TlE ss t (vof t)
  | stop (t : Tm) (h0 : kof t ≠ 0) (h5 : kof t ≠ 5) : TlE ss t (-1)
  | row (n : ByteArray) (v : Int) (x y y' : Tm) (z : Int) (hw : WalkTo ss y y') (h : TlE ss y' z) : TlE ss (.mk 5 n v [x, y]) z

set_option maxHeartbeats 1000000 in
theorem tl_loop (hX : NoX X) {ss : List Tm} {b p : Nat} {t' : Tm} {z : Int} (h : TlE ss t' z) : ∀ (e : Env) (S S0 : St) (q : Nat), US S0 b p ss → S0.size ≤ q → Keep S0 S → e 0 = .ptr b 0 → e 3 = .ptr q 0 → S.obj q = some (.cells (tyc t')) → q < S.size →
    W T X (.loop cf99_l0) e S (fun x e' S' => x = .exit 0 ∧ e' 3 = .ptr q 0 ∧ (∃ t2, S'.obj q = some (.cells (tyc t2)) ∧ ((kof t2 = 0 ∧ vof t2 = z) ∨ (kof t2 ≠ 0 ∧ z = -1))) ∧ Keep S0 S') := by
  induction h with
  | var t h =>
    intro e S S0 q hu hq0 hkp e0 e3 ho hq
    refine W_loop ?_
    have hk0 : (kof t == 5) = false := by rw [h]; rfl
    rw [tyc_w, tyw] at ho
    simp only [cf99_l0, e0, e3, ho, hk0, Nat.le_add_left, go_sem, ↓reduceIte, reduceCtorEq, Nat.reduceEqDiff, Nat.reduceAdd, Nat.reduceSub, Nat.reduceMul, Nat.reduceLeDiff, Nat.reduceLT, loadA, rdCells, storeA, setAt, binA]
    exact ⟨⟨t, by rw [tyc_w, tyw], by first | exact Or.inl ⟨h, rfl⟩ | simp [h]⟩, hkp⟩
  | stop t h0 h5 =>
    intro e S S0 q hu hq0 hkp e0 e3 ho hq
    refine W_loop ?_
    have hk0 : (kof t == 5) = false := by simpa using h5
    rw [tyc_w, tyw] at ho
    simp only [cf99_l0, e0, e3, ho, hk0, Nat.le_add_left, go_sem, ↓reduceIte, reduceCtorEq, Nat.reduceEqDiff, Nat.reduceAdd, Nat.reduceSub, Nat.reduceMul, Nat.reduceLeDiff, Nat.reduceLT, loadA, rdCells, storeA, setAt, binA]
    exact ⟨⟨t, by rw [tyc_w, tyw], by first | exact Or.inr ⟨h0, rfl⟩ | simp [h0]⟩, hkp⟩
  | row n v x0 r0 r' z hw h ih =>
    intro e S S0 q hu hq0 hkp e0 e3 ho hq
    generalize hL : CC.loop cf99_l0 = L
    refine W_loop_eq hL ?_
    rw [row_c] at ho
    have hww := walk_law hX hw S (hu.keep hkp).rd
    rw [tyc_w r0, tyw, tyc_w r', tyw] at hww
    simp only [cf99_l0, e0, e3, ho, (hu.keep hkp).1, ia1, Nat.le_add_left, go_sem, ↓reduceIte, reduceCtorEq, Nat.reduceEqDiff, Nat.reduceAdd, Nat.reduceSub, Nat.reduceMul, Nat.reduceLeDiff, Nat.reduceLT, loadA, rdCells, storeA, setAt, binA]
    refine WR_callx _ rfl (hww.mono ?_)
    rintro w2 S2 ⟨rfl, hk2⟩
    have ho2 := hk2.obj hq ho
    simp only [e0, e3, ho2, Nat.le_add_left, go_sem, ↓reduceIte, reduceCtorEq, Nat.reduceEqDiff, Nat.reduceAdd, Nat.reduceSub, Nat.reduceMul, Nat.reduceLeDiff, Nat.reduceLT, loadA, rdCells, storeA, setAt, binA]
    subst hL
    refine (ih _ _ S0 q hu hq0 ((hkp.trans hk2).put' hq0 _) ?_ ?_ ?_ ?_)
    · simp only [e0, go_sem, ↓reduceIte, reduceCtorEq, Nat.reduceEqDiff, Nat.reduceAdd, Nat.reduceSub, Nat.reduceMul, Nat.reduceLeDiff, Nat.reduceLT, loadA, rdCells, storeA, setAt, binA]
    · simp only [e3, go_sem, ↓reduceIte, reduceCtorEq, Nat.reduceEqDiff, Nat.reduceAdd, Nat.reduceSub, Nat.reduceMul, Nat.reduceLeDiff, Nat.reduceLT, loadA, rdCells, storeA, setAt, binA]
    · rw [put_eq, tyc_w, tyw]
    · exact hk2.lt hq

theorem tl_law (hX : NoX X) {ss : List Tm} {b p : Nat} {t t' : Tm} {z : Int} (hw : WalkTo ss t t') (h : TlE ss t' z) (s : St) (hu : US s b p ss) : WC T X 99 [.ptr b 0, .agg (tyc t)] s (fun v s' => v = .int .i64 z ∧ Keep s s') := by
  refine WC_fn cf99 (hX 99 (by decide)) T99 (by simp [cf99]) ?_
  have hk1 := (Keep.refl s).new' (.cells (tyc t))
  have hww := walk_law hX hw _ (hu.keep hk1).rd
  rw [tyc_w t, tyw, tyc_w t', tyw] at hww
  rw [tyc_w t, tyw] at hk1
  rw [tyc_w t, tyw]
  simp only [cf99, hu.1, ne_a hu.2.2.1, ne_b hu.2.2.1, Nat.le_add_left, go_sem, ↓reduceIte, reduceCtorEq, Nat.reduceEqDiff, Nat.reduceAdd, Nat.reduceSub, Nat.reduceMul, Nat.reduceLeDiff, Nat.reduceLT, loadA, rdCells, storeA, setAt, binA]
  refine WR_callx _ rfl (hww.mono ?_)
  rintro w2 S2 ⟨rfl, hk2⟩
  have ho2 := hk2.obj (by simp [St.new]) (new_eq rfl : (s.new (.cells [.int .i64 (kof t), .str (nof t), .int .i64 (vof t), .sl (tycs (lof t)) (lof t).length false none])).obj s.size = _)
  simp only [ho2, Nat.le_add_left, go_sem, ↓reduceIte, reduceCtorEq, Nat.reduceEqDiff, Nat.reduceAdd, Nat.reduceSub, Nat.reduceMul, Nat.reduceLeDiff, Nat.reduceLT, loadA, rdCells, storeA, setAt, binA]
  refine (tl_loop hX h _ _ s s.size hu (Nat.le_refl _) ((hk1.trans hk2).put' (Nat.le_refl _) _) ?_ ?_ ?_ ?_).mono ?_
  · simp only [go_sem, ↓reduceIte, reduceCtorEq, Nat.reduceEqDiff, Nat.reduceAdd, Nat.reduceSub, Nat.reduceMul, Nat.reduceLeDiff, Nat.reduceLT, loadA, rdCells, storeA, setAt, binA]
  · simp only [go_sem, ↓reduceIte, reduceCtorEq, Nat.reduceEqDiff, Nat.reduceAdd, Nat.reduceSub, Nat.reduceMul, Nat.reduceLeDiff, Nat.reduceLT, loadA, rdCells, storeA, setAt, binA]
  · rw [put_eq, tyc_w, tyw]
  · exact hk2.lt (by simp [St.new])
  · rintro x e' S' ⟨rfl, e3, ⟨t2, ho, hz⟩, hk⟩
    rw [tyc_w, tyw] at ho
    rcases hz with ⟨hz, hv⟩ | ⟨hz, hv⟩
    · have hz' : (kof t2 == 0) = true := by simp [hz]
      simp only [e3, ho, hz', Nat.le_add_left, go_sem, ↓reduceIte, reduceCtorEq, Nat.reduceEqDiff, Nat.reduceAdd, Nat.reduceSub, Nat.reduceMul, Nat.reduceLeDiff, Nat.reduceLT, loadA, rdCells, storeA, setAt, binA]
      exact ⟨by simp, _, rfl, by rw [hv], hk⟩
    · have hz' : (kof t2 == 0) = false := by simpa using hz
      simp only [e3, ho, hz', Nat.le_add_left, go_sem, ↓reduceIte, reduceCtorEq, Nat.reduceEqDiff, Nat.reduceAdd, Nat.reduceSub, Nat.reduceMul, Nat.reduceLeDiff, Nat.reduceLT, loadA, rdCells, storeA, setAt, binA]
      exact ⟨by simp, _, rfl, by rw [hv], hk⟩

/-- What is to be made equal: two types; two lists of them; a row with a label, and another row. -/
inductive Jb where
  | un (a b : Tm)
  | us (l m : List Tm)
  | rw (n : ByteArray) (v : Int) (x y b : Tm)

/-- A run of the unifier: the substitution, the work, the error, the substitution then. -/
inductive Un : List Tm → Jb → Int → List Tm → Prop
  | bl (ss : List Tm) (a b b' : Tm) (i : Nat) (e : Int) (ss' : List Tm) (wa : WalkTo ss a (vtm i)) (wb : WalkTo ss b b') (h : BdR ss i b' e ss') : Un ss (.un a b) e ss'
  | br (ss : List Tm) (a b a' : Tm) (i : Nat) (e : Int) (ss' : List Tm) (wa : WalkTo ss a a') (ha : kof a' ≠ 0) (wb : WalkTo ss b (vtm i)) (h : BdR ss i a' e ss') : Un ss (.un a b) e ss'
  | row (ss : List Tm) (a b b' : Tm) (n : ByteArray) (v : Int) (x y : Tm) (e : Int) (ss' : List Tm) (wa : WalkTo ss a (.mk 5 n v [x, y])) (wb : WalkTo ss b b') (hb : 4 ≤ kof b') (h : Un ss (.rw n v x y b') e ss') : Un ss (.un a b) e ss'
  | bad (ss : List Tm) (a b a' b' : Tm) (wa : WalkTo ss a a') (wb : WalkTo ss b b') (ha : kof a' ≠ 0) (hb : kof b' ≠ 0) (hr : ¬ (kof a' = 5 ∧ 4 ≤ kof b')) (hn : kof a' ≠ kof b' ∨ ((nof a').toList == (nof b').toList) = false ∨ (lof a').length ≠ (lof b').length) : Un ss (.un a b) 10 ss
  | args (ss : List Tm) (a b : Tm) (k : Int) (n n' : ByteArray) (v v' : Int) (l l' : List Tm) (e : Int) (ss' : List Tm) (wa : WalkTo ss a (.mk k n v l)) (wb : WalkTo ss b (.mk k n' v' l')) (hk : k ≠ 0) (hr : k ≠ 5) (hn : (n.toList == n'.toList) = true) (hl : l.length = l'.length) (h : Un ss (.us l l') e ss') : Un ss (.un a b) e ss'
  | nil (ss : List Tm) : Un ss (.us [] []) 0 ss
  | ok (ss ss1 ss2 : List Tm) (a b : Tm) (l m : List Tm) (e : Int) (h : Un ss (.un a b) 0 ss1) (hs : Un ss1 (.us l m) e ss2) : Un ss (.us (a :: l) (b :: m)) e ss2
  | fail (ss ss1 : List Tm) (a b : Tm) (l m : List Tm) (e : Int) (h : Un ss (.un a b) e ss1) (he : e ≠ 0) (hl : l.length = m.length) : Un ss (.us (a :: l) (b :: m)) e ss1
  | exf (ss ss1 : List Tm) (n : ByteArray) (v : Int) (x y b t q : Tm) (z e : Int) (ht : TlE ss (.mk 5 n v [x, y]) z) (h : ExR n z ss b e t q ss1) (he : e ≠ 0) : Un ss (.rw n v x y b) e ss1
  | hdf (ss ss1 ss2 : List Tm) (n : ByteArray) (v : Int) (x y b t q : Tm) (z e : Int) (ht : TlE ss (.mk 5 n v [x, y]) z) (h : ExR n z ss b 0 t q ss1) (h1 : Un ss1 (.un x t) e ss2) (he : e ≠ 0) : Un ss (.rw n v x y b) e ss2
  | rok (ss ss1 ss2 ss3 : List Tm) (n : ByteArray) (v : Int) (x y b t q : Tm) (z e : Int) (ht : TlE ss (.mk 5 n v [x, y]) z) (h : ExR n z ss b 0 t q ss1) (h1 : Un ss1 (.un x t) 0 ss2) (h2 : Un ss2 (.un y q) e ss3) : Un ss (.rw n v x y b) e ss3

/-- The work is well formed. -/
def JWt (N : Nat) : Jb → Prop
  | .un a b => Wt N a ∧ Wt N b
  | .us l m => (∀ a, a ∈ l → Wt N a) ∧ ∀ a, a ∈ m → Wt N a
  | .rw _ _ x y b => Wt N x ∧ Wt N y ∧ Wt N b
/-- The substitution is without cycles, and not too long. -/
def Fine (ss : List Tm) : Prop := (∃ rk, Acy ss rk) ∧ ss.length ≤ 4098
theorem fine_walk {ss : List Tm} (h : Fine ss) {t t' : Tm} (hw : WalkTo ss t t') (ht : Wt ss.length t) : Wt ss.length t' := by
  obtain ⟨⟨rk, hac⟩, -⟩ := h
  exact walk_wt hac hw ht
theorem bd_fine {ss ss' : List Tm} {i : Nat} {t : Tm} {e : Int} (h : Fine ss) (hs : Self ss i) (ht : Wt ss.length t) (hb : BdR ss i t e ss') : Fine ss' ∧ ss'.length = ss.length := by
  rcases hb with ⟨-, -, -, rfl⟩ | ⟨-, -, -, rfl⟩ | ⟨-, hno, -, rfl⟩
  · exact ⟨h, rfl⟩
  · exact ⟨h, rfl⟩
  · obtain ⟨⟨rk, hac⟩, hl⟩ := h
    exact ⟨⟨acy_set hac hs ht hno, by rw [List.length_set]; exact hl⟩, List.length_set⟩
theorem row_wt {N : Nat} {n : ByteArray} {v : Int} {x y : Tm} (h : Wt N (.mk 5 n v [x, y])) : Wt N x ∧ Wt N y := by
  rw [Wt] at h
  have := h.2.2.2.2.2.2.2.2.2
  simp only [Wts] at this
  exact ⟨this.1, this.2.1⟩
theorem wt_row {N : Nat} {n : ByteArray} {x y : Tm} (hx : Wt N x) (hy : Wt N y) : Wt N (.mk 5 n 0 [x, y]) := by
  rw [Wt]
  simp only [Wts]
  exact ⟨by decide, by decide, by simp, by simp, by simp, by simp, by simp, by simp, by simp, hx, hy, trivial⟩
theorem ex_fine {l : ByteArray} {z : Int} {ss ss' : List Tm} {r t q : Tm} {e : Int} (h : Fine ss) (hl : ss.length ≤ 4096) (hx : ExR l z ss r e t q ss') : Wt ss.length r → Fine ss' ∧ ss.length ≤ ss'.length ∧ (e = 0 → ss'.length ≤ 4096 ∧ Wt ss'.length t ∧ Wt ss'.length q) := by
  obtain ⟨⟨rk, hac⟩, -⟩ := h
  induction hx with
  | cyc r i hw hz => exact fun _ => ⟨⟨⟨rk, hac⟩, by omega⟩, Nat.le_refl _, fun h => by cases h⟩
  | large r i hw hz hl' => exact fun _ => ⟨⟨⟨rk, acy_two hac⟩, by rw [two_len]; omega⟩, by rw [two_len]; omega, fun h => by cases h⟩
  | new r i hw hz hl' =>
    exact fun _ => ⟨⟨acy_grow hac (walk_var hw) l, by rw [grow_len]; omega⟩, by rw [grow_len]; omega, fun _ => ⟨by rw [grow_len]; omega, wt_vtm (by rw [grow_len]; omega), wt_vtm (by rw [grow_len]; omega)⟩⟩
  | stop r r' hw h0 h5 => exact fun _ => ⟨⟨⟨rk, hac⟩, by omega⟩, Nat.le_refl _, fun h => by cases h⟩
  | here r m v x y hw hm =>
    intro hr
    have := row_wt (walk_wt hac hw hr)
    exact ⟨⟨⟨rk, hac⟩, by omega⟩, Nat.le_refl _, fun _ => ⟨hl, this.1, this.2⟩⟩
  | there r m v x y e t q ss' hw hm h ih =>
    intro hr
    have hxy := row_wt (walk_wt hac hw hr)
    obtain ⟨h1, h2, h3⟩ := ih hxy.2
    exact ⟨h1, h2, fun he => ⟨(h3 he).1, (h3 he).2.1, wt_row (wt_le h2 _ hxy.1) (h3 he).2.2⟩⟩
theorem jwt_le {N M : Nat} (h : N ≤ M) {j : Jb} (hj : JWt N j) : JWt M j := by
  cases j with
  | un a b => exact ⟨wt_le h _ hj.1, wt_le h _ hj.2⟩
  | us l m => exact ⟨fun a ha => wt_le h _ (hj.1 a ha), fun a ha => wt_le h _ (hj.2 a ha)⟩
  | rw n v x y b => exact ⟨wt_le h _ hj.1, wt_le h _ hj.2.1, wt_le h _ hj.2.2⟩

theorem un_fine {ss ss' : List Tm} {j : Jb} {e : Int} (h : Un ss j e ss') : Fine ss → ss.length ≤ 4096 → JWt ss.length j → Fine ss' ∧ ss.length ≤ ss'.length ∧ (e = 0 → ss'.length ≤ 4096) := by
  induction h with
  | bl ss a b b' i e ss' wa wb h =>
    intro hf hl hj
    obtain ⟨h1, h2⟩ := bd_fine hf (walk_var wa) (fine_walk hf wb hj.2) h
    exact ⟨h1, by omega, fun _ => by omega⟩
  | br ss a b a' i e ss' wa ha wb h =>
    intro hf hl hj
    obtain ⟨h1, h2⟩ := bd_fine hf (walk_var wb) (fine_walk hf wa hj.1) h
    exact ⟨h1, by omega, fun _ => by omega⟩
  | row ss a b b' n v x y e ss' wa wb hb h ih =>
    intro hf hl hj
    have := row_wt (fine_walk hf wa hj.1)
    exact ih hf hl ⟨this.1, this.2, fine_walk hf wb hj.2⟩
  | bad => exact fun hf hl _ => ⟨hf, Nat.le_refl _, fun h => by cases h⟩
  | args ss a b k n n' v v' l l' e ss' wa wb hk hr hn hl' h ih =>
    intro hf hl hj
    exact ih hf hl ⟨fun a ha => wt_arg (fine_walk hf wa hj.1) ha, fun a ha => wt_arg (fine_walk hf wb hj.2) ha⟩
  | nil => exact fun hf hl _ => ⟨hf, Nat.le_refl _, fun _ => hl⟩
  | ok ss ss1 ss2 a b l m e h hs ih1 ih2 =>
    intro hf hl hj
    obtain ⟨h1, h2, h3⟩ := ih1 hf hl ⟨hj.1 a (by simp), hj.2 b (by simp)⟩
    obtain ⟨h4, h5, h6⟩ := ih2 h1 (h3 rfl) (jwt_le h2 (j := .us l m) ⟨fun a ha => hj.1 a (by simp [ha]), fun a ha => hj.2 a (by simp [ha])⟩)
    exact ⟨h4, by omega, h6⟩
  | fail ss ss1 a b l m e h he hl' ih =>
    intro hf hl hj
    exact ih hf hl ⟨hj.1 a (by simp), hj.2 b (by simp)⟩
  | exf ss ss1 n v x y b t q z e ht h he =>
    intro hf hl hj
    obtain ⟨h1, h2, h3⟩ := ex_fine hf hl h hj.2.2
    exact ⟨h1, h2, fun h => absurd h he⟩
  | hdf ss ss1 ss2 n v x y b t q z e ht h h1 he ih =>
    intro hf hl hj
    obtain ⟨g1, g2, g3⟩ := ex_fine hf hl h hj.2.2
    obtain ⟨g4, g5, g6⟩ := ih g1 (g3 rfl).1 ⟨wt_le g2 _ hj.1, (g3 rfl).2.1⟩
    exact ⟨g4, by omega, g6⟩
  | rok ss ss1 ss2 ss3 n v x y b t q z e ht h h1 h2 ih1 ih2 =>
    intro hf hl hj
    obtain ⟨g1, g2, g3⟩ := ex_fine hf hl h hj.2.2
    obtain ⟨g4, g5, g6⟩ := ih1 g1 (g3 rfl).1 ⟨wt_le g2 _ hj.1, (g3 rfl).2.1⟩
    obtain ⟨g7, g8, g9⟩ := ih2 g4 (g6 rfl) ⟨wt_le (by omega) _ hj.2.1, wt_le g5 _ (g3 rfl).2.2⟩
    exact ⟨g7, by omega, g9⟩
end Go.Am.U1

/- The unifier's runs are the machine's. Conditions: none. -/
namespace Go.Am.U1
open Go.Am.Un
set_option maxRecDepth 100000
set_option linter.unusedSimpArgs false
attribute [local go_sem] wseq COp.isStore wreg wdreg wret wskip wexit wblock wcnd cnd_t cnd_f then_n then_x then_r catch_n rnd_n rnd_x rnd_r catch_x catch_r wo_nil wo_grd grdO_t grdO_f wo_ops stpO wr_nil wr_alloc wr_guards grdR_t grdR_f wr_ops stpR evAllocs evOp env0_app eput_some eput_none eset_app Opd.ev wantedA faddrA snew_obj snew_size sput_obj sput_size av_cells av_one av_strip av_still unA eqbA fillA fldA lensA mmA mm2 mmFold List.getD_cons_zero List.getD_cons_succ List.getD_nil List.length_cons List.length_nil List.drop_zero List.drop_succ_cons List.take_succ_cons List.take_zero List.map_cons List.map_nil List.set_cons_zero List.set_cons_succ List.all_cons List.all_nil List.getElem?_cons_zero List.getElem?_cons_succ List.nil_append List.cons_append Nat.zero_add Nat.add_zero beq_self_eq_true bt bf Bool.not_true Bool.not_false Bool.and_true Bool.true_and Bool.and_false Bool.false_and and_self and_true true_and n0 n1 n2 n3 n4 m0 m1 m2 m3 c1 retA resAs resA undefA Option.map_some Option.map_none
variable {X : Ext}

theorem bd_det {ss s1 s2 : List Tm} {i : Nat} {t : Tm} {e1 e2 : Int} (h1 : BdR ss i t e1 s1) (h2 : BdR ss i t e2 s2) : e1 = e2 ∧ s1 = s2 := by
  rcases h1 with ⟨a, b, rfl, rfl⟩ | ⟨a, b, rfl, rfl⟩ | ⟨a, b, rfl, rfl⟩
  · rcases h2 with ⟨_, _, rfl, rfl⟩ | ⟨c, -⟩ | ⟨c, -⟩
    · exact ⟨rfl, rfl⟩
    · exact absurd ⟨a, b⟩ c
    · exact absurd ⟨a, b⟩ c
  · rcases h2 with ⟨c, d, -⟩ | ⟨_, _, rfl, rfl⟩ | ⟨_, d, -⟩
    · exact absurd ⟨c, d⟩ a
    · exact ⟨rfl, rfl⟩
    · exact absurd b d
  · rcases h2 with ⟨c, d, -⟩ | ⟨_, d, -⟩ | ⟨_, _, rfl, rfl⟩
    · exact absurd ⟨c, d⟩ a
    · exact absurd d b
    · exact ⟨rfl, rfl⟩

/-- What the machine does with the work. -/
def JC (X : Ext) (b : Nat) (ss : List Tm) (j : Jb) (e : Int) (ss' : List Tm) : Prop := match j with
  | .un a c => ∀ p s, b ≠ p → US s b p ss → WC T X 69 [.ptr b 0, .agg (tyc a), .agg (tyc c)] s (fun r s' => r = .int .i64 e ∧ UN b p s ss' s')
  | .rw n v x y c => ∀ p s, b ≠ p → US s b p ss → WC T X 87 [.ptr b 0, .agg (tyc (.mk 5 n v [x, y])), .agg (tyc c)] s (fun r s' => r = .int .i64 e ∧ UN b p s ss' s')
  | .us l m => ∀ (la lb : List Tm) (i : Nat) (k k' v v' : Int) (n n' : ByteArray) (E : Env) (S : St) (p c : Nat), la.drop i = l → lb.drop i = m → la.length = lb.length → la.length ≤ 1099511627776 → b ≠ p → US S b p ss →
      E 0 = .ptr b 0 → E 4 = .ptr c 0 → E 5 = .ptr (c + 1) 0 → E 76 = .int .i64 la.length → E 77 = .int .i64 i → S.obj c = some (.cells [.int .i64 k, .str n, .int .i64 v, .sl (tycs la) la.length false none]) → S.obj (c + 1) = some (.cells [.int .i64 k', .str n', .int .i64 v', .sl (tycs lb) lb.length false none]) →
      c + 1 < S.size → c ≠ b → c + 1 ≠ b → c ≠ p → c + 1 ≠ p →
      W T X (.loop cf69_l0) E S (fun x E' S' => UN b p S ss' S' ∧ ((x = .exit 1 ∧ e = 0) ∨ (x = .ret ∧ e ≠ 0 ∧ E' 6 = .int .i64 e)))

theorem um_comp {b p p1 M : Nat} {s s1 s2 : St} {ss2 : List Tm} (hpp : p1 = p ∨ M ≤ p1) (hM : M ≤ s1.size) (hs : s.size ≤ M) (k : KB b p s s1) (h : UN b p1 s1 ss2 s2) : UM b p M s ss2 s2 := by
  obtain ⟨p2, u2, hb2, hp2, k2⟩ := h
  refine ⟨p2, u2, hb2, ?_, Nat.le_trans k.1 k2.1, fun j hj a c => ?_⟩
  · rcases hp2 with h | h
    · rw [h]; exact hpp
    · exact Or.inr (Nat.le_trans hM h)
  · rw [k2.2 j (Nat.lt_of_lt_of_le hj k.1) a (by rcases hpp with h | h <;> omega), k.2 j hj a c]

set_option maxHeartbeats 16000000 in
theorem un_law (hX : NoX X) {b : Nat} {ss ss' : List Tm} {j : Jb} {e : Int} (h : Un ss j e ss') : Fine ss → ss.length ≤ 4096 → JWt ss.length j → JC X b ss j e ss' := by
  induction h with
  | bl ss a0 b0 b' i e ss' wa wb h =>
    intro hf hl hj
    have hbs := fun (p : Nat) S (hbp : b ≠ p) (hu : US S b p ss) => bind_law hX hf.1.choose_spec (by omega) (walk_var wa) (fine_walk hf wb hj.2) hbp S hu
    intro p s hbp hu
    refine WC_fn cf69 (hX 69 (by decide)) T69 (by simp [cf69]) ?_
    have hla := fun S (hk : Keep s S) => walk_law hX wa S (hu.keep hk).rd
    have hlb := fun S (hk : Keep s S) => walk_law hX wb S (hu.keep hk).rd
    have hk1 := (((Keep.refl s).new' (.cells (tyc a0))).new' (.cells (tyc b0)))
    rw [tyc_w a0, tyw, vtm_c] at hla
    rw [tyc_w b0, tyw, tyc_w b', tyw] at hlb
    rw [tyc_w a0, tyw, tyc_w b0, tyw] at hk1 ⊢
    simp only [cf69, go_sem, ↓reduceIte, reduceCtorEq, Nat.reduceEqDiff, Nat.reduceAdd, Nat.reduceSub, Nat.reduceMul, Nat.reduceLeDiff, Nat.reduceLT, loadA, rdCells, storeA, setAt, binA]
    refine W_dreg ?_
    simp only [wt_ops, stpT, Tr, hu.1, wt_alloc, wt_nil, chk1, avr, ne_a hu.2.2.1, ne_b hu.2.2.1, ne_c hu.2.2.1, ne_d hu.2.2.1, ne_e hu.2.2.1, ne_f hu.2.2.1, Bool.or_true, Nat.le_add_left, go_sem, ↓reduceIte, reduceCtorEq, Nat.reduceEqDiff, Nat.reduceAdd, Nat.reduceSub, Nat.reduceMul, Nat.reduceLeDiff, Nat.reduceLT, loadA, rdCells, storeA, setAt, binA]
    refine WT_callx _ rfl ((hla _ hk1).mono ?_)
    rintro w2 S2 ⟨rfl, hk2⟩
    have hz2 := hk2.1
    simp only [St.new] at hz2
    have e1 := hk2.2 s.size (by simp only [St.new]; omega)
    have e2 := hk2.2 (s.size + 1) (by simp only [St.new]; omega)
    simp only [go_sem, ↓reduceIte, reduceCtorEq, Nat.reduceEqDiff, Nat.reduceAdd, Nat.reduceSub, Nat.reduceMul, Nat.reduceLeDiff, Nat.reduceLT, loadA, rdCells, storeA, setAt, binA] at e1 e2
    have hu2 := hu.keep (hk1.trans hk2)
    simp only [wt_ops, stpT, Tr, hu.1, hu2.1, e1, e2, wt_alloc, wt_nil, chk1, avr, ne_a hu.2.2.1, ne_b hu.2.2.1, ne_c hu.2.2.1, ne_d hu.2.2.1, ne_e hu.2.2.1, ne_f hu.2.2.1, Bool.or_true, Nat.le_add_left, go_sem, ↓reduceIte, reduceCtorEq, Nat.reduceEqDiff, Nat.reduceAdd, Nat.reduceSub, Nat.reduceMul, Nat.reduceLeDiff, Nat.reduceLT, loadA, rdCells, storeA, setAt, binA]
    refine WT_callx _ rfl ((hlb _ (hk1.trans hk2)).mono ?_)
    rintro w3 S3 ⟨rfl, hk3⟩
    have hz3 := hk3.1
    have f1 := (hk3.2 s.size (by omega)).trans e1
    have f2 := (hk3.2 (s.size + 1) (by omega)).trans e2
    simp only [wt_ops, stpT, Tr, hu.1, hu2.1, e1, e2, f1, f2, wt_alloc, wt_nil, chk1, avr, ne_a hu.2.2.1, ne_b hu.2.2.1, ne_c hu.2.2.1, ne_d hu.2.2.1, ne_e hu.2.2.1, ne_f hu.2.2.1, Bool.or_true, Nat.le_add_left, go_sem, ↓reduceIte, reduceCtorEq, Nat.reduceEqDiff, Nat.reduceAdd, Nat.reduceSub, Nat.reduceMul, Nat.reduceLeDiff, Nat.reduceLT, loadA, rdCells, storeA, setAt, binA]
    have hkA : Keep s S3 := (hk1.trans hk2).trans hk3
    obtain ⟨SA, hSA⟩ : ∃ SA, SA = (S3.put s.size (some (.cells [.int .i64 0, .str ⟨#[]⟩, .int .i64 i, .sl [] 0 false none]))).put (s.size + 1) (some (.cells [.int .i64 (kof b'), .str (nof b'), .int .i64 (vof b'), .sl (tycs (lof b')) (lof b').length false none])) := ⟨_, rfl⟩
    have hkB : Keep s SA := by rw [hSA]; exact (hkA.put' (Nat.le_refl s.size) _).put' (by omega : s.size ≤ s.size + 1) _
    have g1 : SA.obj s.size = some (.cells [.int .i64 0, .str ⟨#[]⟩, .int .i64 i, .sl [] 0 false none]) := by rw [hSA, put_ne (by omega), put_eq]
    have g2 : SA.obj (s.size + 1) = some (.cells [.int .i64 (kof b'), .str (nof b'), .int .i64 (vof b'), .sl (tycs (lof b')) (lof b').length false none]) := by rw [hSA, put_eq]
    have hzA : SA.size = S3.size := by rw [hSA]; rfl
    have huA := hu.keep hkB
    have hb0' := hu.2.2.1
    have hp0' := hu.2.2.2
    rw [← hSA]
    have z1 : ((0 : Int) == 0) = true := rfl
    have hbs' := hbs p SA hbp huA
    rw [tyc_w b', tyw] at hbs'
    refine WO_callx _ rfl (hbs'.mono ?_)
    rintro w4 S4 ⟨er, sr, rfl, hbd, hu4, hkb⟩
    obtain ⟨q1, q2⟩ := bd_det h hbd
    subst q1 q2
    simp only [go_sem, ↓reduceIte, reduceCtorEq, Nat.reduceEqDiff, Nat.reduceAdd, Nat.reduceSub, Nat.reduceMul, Nat.reduceLeDiff, Nat.reduceLT, loadA, rdCells, storeA, setAt, binA]
    exact ⟨by simp, _, rfl, rfl, UN.from ⟨p, hu4, hbp, Or.inl rfl, hkb⟩ hkB⟩
  | br ss a0 b0 a' i e ss' wa ha wb h =>
    intro hf hl hj
    have hbs := fun (p : Nat) S (hbp : b ≠ p) (hu : US S b p ss) => bind_law hX hf.1.choose_spec (by omega) (walk_var wb) (fine_walk hf wa hj.1) hbp S hu
    intro p s hbp hu
    refine WC_fn cf69 (hX 69 (by decide)) T69 (by simp [cf69]) ?_
    have hla := fun S (hk : Keep s S) => walk_law hX wa S (hu.keep hk).rd
    have hlb := fun S (hk : Keep s S) => walk_law hX wb S (hu.keep hk).rd
    have hk1 := (((Keep.refl s).new' (.cells (tyc a0))).new' (.cells (tyc b0)))
    rw [tyc_w a0, tyw, tyc_w a', tyw] at hla
    rw [tyc_w b0, tyw, vtm_c] at hlb
    rw [tyc_w a0, tyw, tyc_w b0, tyw] at hk1 ⊢
    simp only [cf69, go_sem, ↓reduceIte, reduceCtorEq, Nat.reduceEqDiff, Nat.reduceAdd, Nat.reduceSub, Nat.reduceMul, Nat.reduceLeDiff, Nat.reduceLT, loadA, rdCells, storeA, setAt, binA]
    refine W_dreg ?_
    simp only [wt_ops, stpT, Tr, hu.1, wt_alloc, wt_nil, chk1, avr, ne_a hu.2.2.1, ne_b hu.2.2.1, ne_c hu.2.2.1, ne_d hu.2.2.1, ne_e hu.2.2.1, ne_f hu.2.2.1, Bool.or_true, Nat.le_add_left, go_sem, ↓reduceIte, reduceCtorEq, Nat.reduceEqDiff, Nat.reduceAdd, Nat.reduceSub, Nat.reduceMul, Nat.reduceLeDiff, Nat.reduceLT, loadA, rdCells, storeA, setAt, binA]
    refine WT_callx _ rfl ((hla _ hk1).mono ?_)
    rintro w2 S2 ⟨rfl, hk2⟩
    have hz2 := hk2.1
    simp only [St.new] at hz2
    have e1 := hk2.2 s.size (by simp only [St.new]; omega)
    have e2 := hk2.2 (s.size + 1) (by simp only [St.new]; omega)
    simp only [go_sem, ↓reduceIte, reduceCtorEq, Nat.reduceEqDiff, Nat.reduceAdd, Nat.reduceSub, Nat.reduceMul, Nat.reduceLeDiff, Nat.reduceLT, loadA, rdCells, storeA, setAt, binA] at e1 e2
    have hu2 := hu.keep (hk1.trans hk2)
    simp only [wt_ops, stpT, Tr, hu.1, hu2.1, e1, e2, wt_alloc, wt_nil, chk1, avr, ne_a hu.2.2.1, ne_b hu.2.2.1, ne_c hu.2.2.1, ne_d hu.2.2.1, ne_e hu.2.2.1, ne_f hu.2.2.1, Bool.or_true, Nat.le_add_left, go_sem, ↓reduceIte, reduceCtorEq, Nat.reduceEqDiff, Nat.reduceAdd, Nat.reduceSub, Nat.reduceMul, Nat.reduceLeDiff, Nat.reduceLT, loadA, rdCells, storeA, setAt, binA]
    refine WT_callx _ rfl ((hlb _ (hk1.trans hk2)).mono ?_)
    rintro w3 S3 ⟨rfl, hk3⟩
    have hz3 := hk3.1
    have f1 := (hk3.2 s.size (by omega)).trans e1
    have f2 := (hk3.2 (s.size + 1) (by omega)).trans e2
    simp only [wt_ops, stpT, Tr, hu.1, hu2.1, e1, e2, f1, f2, wt_alloc, wt_nil, chk1, avr, ne_a hu.2.2.1, ne_b hu.2.2.1, ne_c hu.2.2.1, ne_d hu.2.2.1, ne_e hu.2.2.1, ne_f hu.2.2.1, Bool.or_true, Nat.le_add_left, go_sem, ↓reduceIte, reduceCtorEq, Nat.reduceEqDiff, Nat.reduceAdd, Nat.reduceSub, Nat.reduceMul, Nat.reduceLeDiff, Nat.reduceLT, loadA, rdCells, storeA, setAt, binA]
    have hkA : Keep s S3 := (hk1.trans hk2).trans hk3
    obtain ⟨SA, hSA⟩ : ∃ SA, SA = (S3.put s.size (some (.cells [.int .i64 (kof a'), .str (nof a'), .int .i64 (vof a'), .sl (tycs (lof a')) (lof a').length false none]))).put (s.size + 1) (some (.cells [.int .i64 0, .str ⟨#[]⟩, .int .i64 i, .sl [] 0 false none])) := ⟨_, rfl⟩
    have hkB : Keep s SA := by rw [hSA]; exact (hkA.put' (Nat.le_refl s.size) _).put' (by omega : s.size ≤ s.size + 1) _
    have g1 : SA.obj s.size = some (.cells [.int .i64 (kof a'), .str (nof a'), .int .i64 (vof a'), .sl (tycs (lof a')) (lof a').length false none]) := by rw [hSA, put_ne (by omega), put_eq]
    have g2 : SA.obj (s.size + 1) = some (.cells [.int .i64 0, .str ⟨#[]⟩, .int .i64 i, .sl [] 0 false none]) := by rw [hSA, put_eq]
    have hzA : SA.size = S3.size := by rw [hSA]; rfl
    have huA := hu.keep hkB
    have hb0' := hu.2.2.1
    have hp0' := hu.2.2.2
    rw [← hSA]
    have z0 : (kof a' == 0) = false := by simpa using ha
    have z1 : ((0 : Int) == 0) = true := rfl
    have hbs' := hbs p SA hbp huA
    rw [tyc_w a', tyw] at hbs'
    simp only [z0, z1, g1, g2, Nat.le_add_left, go_sem, ↓reduceIte, reduceCtorEq, Nat.reduceEqDiff, Nat.reduceAdd, Nat.reduceSub, Nat.reduceMul, Nat.reduceLeDiff, Nat.reduceLT, loadA, rdCells, storeA, setAt, binA]
    refine WO_callx _ rfl (hbs'.mono ?_)
    rintro w4 S4 ⟨er, sr, rfl, hbd, hu4, hkb⟩
    obtain ⟨q1, q2⟩ := bd_det h hbd
    subst q1 q2
    simp only [go_sem, ↓reduceIte, reduceCtorEq, Nat.reduceEqDiff, Nat.reduceAdd, Nat.reduceSub, Nat.reduceMul, Nat.reduceLeDiff, Nat.reduceLT, loadA, rdCells, storeA, setAt, binA]
    exact ⟨by simp, _, rfl, rfl, UN.from ⟨p, hu4, hbp, Or.inl rfl, hkb⟩ hkB⟩
  | row ss a0 b0 b' n v x y e ss' wa wb hb h ih =>
    intro hf hl hj
    have hxy := row_wt (fine_walk hf wa hj.1)
    have hrw := ih hf hl ⟨hxy.1, hxy.2, fine_walk hf wb hj.2⟩
    intro p s hbp hu
    refine WC_fn cf69 (hX 69 (by decide)) T69 (by simp [cf69]) ?_
    have hla := fun S (hk : Keep s S) => walk_law hX wa S (hu.keep hk).rd
    have hlb := fun S (hk : Keep s S) => walk_law hX wb S (hu.keep hk).rd
    have hk1 := (((Keep.refl s).new' (.cells (tyc a0))).new' (.cells (tyc b0)))
    rw [tyc_w a0, tyw, row_c] at hla
    rw [tyc_w b0, tyw, tyc_w b', tyw] at hlb
    rw [tyc_w a0, tyw, tyc_w b0, tyw] at hk1 ⊢
    simp only [cf69, go_sem, ↓reduceIte, reduceCtorEq, Nat.reduceEqDiff, Nat.reduceAdd, Nat.reduceSub, Nat.reduceMul, Nat.reduceLeDiff, Nat.reduceLT, loadA, rdCells, storeA, setAt, binA]
    refine W_dreg ?_
    simp only [wt_ops, stpT, Tr, hu.1, wt_alloc, wt_nil, chk1, avr, ne_a hu.2.2.1, ne_b hu.2.2.1, ne_c hu.2.2.1, ne_d hu.2.2.1, ne_e hu.2.2.1, ne_f hu.2.2.1, Bool.or_true, Nat.le_add_left, go_sem, ↓reduceIte, reduceCtorEq, Nat.reduceEqDiff, Nat.reduceAdd, Nat.reduceSub, Nat.reduceMul, Nat.reduceLeDiff, Nat.reduceLT, loadA, rdCells, storeA, setAt, binA]
    refine WT_callx _ rfl ((hla _ hk1).mono ?_)
    rintro w2 S2 ⟨rfl, hk2⟩
    have hz2 := hk2.1
    simp only [St.new] at hz2
    have e1 := hk2.2 s.size (by simp only [St.new]; omega)
    have e2 := hk2.2 (s.size + 1) (by simp only [St.new]; omega)
    simp only [go_sem, ↓reduceIte, reduceCtorEq, Nat.reduceEqDiff, Nat.reduceAdd, Nat.reduceSub, Nat.reduceMul, Nat.reduceLeDiff, Nat.reduceLT, loadA, rdCells, storeA, setAt, binA] at e1 e2
    have hu2 := hu.keep (hk1.trans hk2)
    simp only [wt_ops, stpT, Tr, hu.1, hu2.1, e1, e2, wt_alloc, wt_nil, chk1, avr, ne_a hu.2.2.1, ne_b hu.2.2.1, ne_c hu.2.2.1, ne_d hu.2.2.1, ne_e hu.2.2.1, ne_f hu.2.2.1, Bool.or_true, Nat.le_add_left, go_sem, ↓reduceIte, reduceCtorEq, Nat.reduceEqDiff, Nat.reduceAdd, Nat.reduceSub, Nat.reduceMul, Nat.reduceLeDiff, Nat.reduceLT, loadA, rdCells, storeA, setAt, binA]
    refine WT_callx _ rfl ((hlb _ (hk1.trans hk2)).mono ?_)
    rintro w3 S3 ⟨rfl, hk3⟩
    have hz3 := hk3.1
    have f1 := (hk3.2 s.size (by omega)).trans e1
    have f2 := (hk3.2 (s.size + 1) (by omega)).trans e2
    simp only [wt_ops, stpT, Tr, hu.1, hu2.1, e1, e2, f1, f2, wt_alloc, wt_nil, chk1, avr, ne_a hu.2.2.1, ne_b hu.2.2.1, ne_c hu.2.2.1, ne_d hu.2.2.1, ne_e hu.2.2.1, ne_f hu.2.2.1, Bool.or_true, Nat.le_add_left, go_sem, ↓reduceIte, reduceCtorEq, Nat.reduceEqDiff, Nat.reduceAdd, Nat.reduceSub, Nat.reduceMul, Nat.reduceLeDiff, Nat.reduceLT, loadA, rdCells, storeA, setAt, binA]
    have hkA : Keep s S3 := (hk1.trans hk2).trans hk3
    obtain ⟨SA, hSA⟩ : ∃ SA, SA = (S3.put s.size (some (.cells [.int .i64 5, .str n, .int .i64 v, .sl [.int .i64 (kof x), .str (nof x), .int .i64 (vof x), .sl (tycs (lof x)) (lof x).length false none, .int .i64 (kof y), .str (nof y), .int .i64 (vof y), .sl (tycs (lof y)) (lof y).length false none] 2 false none]))).put (s.size + 1) (some (.cells [.int .i64 (kof b'), .str (nof b'), .int .i64 (vof b'), .sl (tycs (lof b')) (lof b').length false none])) := ⟨_, rfl⟩
    have hkB : Keep s SA := by rw [hSA]; exact (hkA.put' (Nat.le_refl s.size) _).put' (by omega : s.size ≤ s.size + 1) _
    have g1 : SA.obj s.size = some (.cells [.int .i64 5, .str n, .int .i64 v, .sl [.int .i64 (kof x), .str (nof x), .int .i64 (vof x), .sl (tycs (lof x)) (lof x).length false none, .int .i64 (kof y), .str (nof y), .int .i64 (vof y), .sl (tycs (lof y)) (lof y).length false none] 2 false none]) := by rw [hSA, put_ne (by omega), put_eq]
    have g2 : SA.obj (s.size + 1) = some (.cells [.int .i64 (kof b'), .str (nof b'), .int .i64 (vof b'), .sl (tycs (lof b')) (lof b').length false none]) := by rw [hSA, put_eq]
    have hzA : SA.size = S3.size := by rw [hSA]; rfl
    have huA := hu.keep hkB
    have hb0' := hu.2.2.1
    have hp0' := hu.2.2.2
    rw [← hSA]
    have z0 : ((5 : Int) == 0) = false := rfl
    have z5 : ((5 : Int) == 5) = true := rfl
    have zb : (kof b' == 0) = false := by simp; omega
    have zb4 : decide (kof b' ≥ 4) = true := by simpa using hb
    have hrw' := hrw p SA hbp huA
    rw [row_c, tyc_w b', tyw] at hrw'
    simp only [z0, z5, zb, zb4, g1, g2, Nat.le_add_left, go_sem, ↓reduceIte, reduceCtorEq, Nat.reduceEqDiff, Nat.reduceAdd, Nat.reduceSub, Nat.reduceMul, Nat.reduceLeDiff, Nat.reduceLT, loadA, rdCells, storeA, setAt, binA]
    refine WO_callx _ rfl (hrw'.mono ?_)
    rintro w4 S4 ⟨rfl, hun⟩
    simp only [go_sem, ↓reduceIte, reduceCtorEq, Nat.reduceEqDiff, Nat.reduceAdd, Nat.reduceSub, Nat.reduceMul, Nat.reduceLeDiff, Nat.reduceLT, loadA, rdCells, storeA, setAt, binA]
    exact ⟨by simp, _, rfl, rfl, hun.from hkB⟩
  | bad ss a0 b0 a' b' wa wb ha hb hr hn =>
    intro hf hl hj
    intro p s hbp hu
    refine WC_fn cf69 (hX 69 (by decide)) T69 (by simp [cf69]) ?_
    have hla := fun S (hk : Keep s S) => walk_law hX wa S (hu.keep hk).rd
    have hlb := fun S (hk : Keep s S) => walk_law hX wb S (hu.keep hk).rd
    have hk1 := (((Keep.refl s).new' (.cells (tyc a0))).new' (.cells (tyc b0)))
    rw [tyc_w a0, tyw, tyc_w a', tyw] at hla
    rw [tyc_w b0, tyw, tyc_w b', tyw] at hlb
    rw [tyc_w a0, tyw, tyc_w b0, tyw] at hk1 ⊢
    simp only [cf69, go_sem, ↓reduceIte, reduceCtorEq, Nat.reduceEqDiff, Nat.reduceAdd, Nat.reduceSub, Nat.reduceMul, Nat.reduceLeDiff, Nat.reduceLT, loadA, rdCells, storeA, setAt, binA]
    refine W_dreg ?_
    simp only [wt_ops, stpT, Tr, hu.1, wt_alloc, wt_nil, chk1, avr, ne_a hu.2.2.1, ne_b hu.2.2.1, ne_c hu.2.2.1, ne_d hu.2.2.1, ne_e hu.2.2.1, ne_f hu.2.2.1, Bool.or_true, Nat.le_add_left, go_sem, ↓reduceIte, reduceCtorEq, Nat.reduceEqDiff, Nat.reduceAdd, Nat.reduceSub, Nat.reduceMul, Nat.reduceLeDiff, Nat.reduceLT, loadA, rdCells, storeA, setAt, binA]
    refine WT_callx _ rfl ((hla _ hk1).mono ?_)
    rintro w2 S2 ⟨rfl, hk2⟩
    have hz2 := hk2.1
    simp only [St.new] at hz2
    have e1 := hk2.2 s.size (by simp only [St.new]; omega)
    have e2 := hk2.2 (s.size + 1) (by simp only [St.new]; omega)
    simp only [go_sem, ↓reduceIte, reduceCtorEq, Nat.reduceEqDiff, Nat.reduceAdd, Nat.reduceSub, Nat.reduceMul, Nat.reduceLeDiff, Nat.reduceLT, loadA, rdCells, storeA, setAt, binA] at e1 e2
    have hu2 := hu.keep (hk1.trans hk2)
    simp only [wt_ops, stpT, Tr, hu.1, hu2.1, e1, e2, wt_alloc, wt_nil, chk1, avr, ne_a hu.2.2.1, ne_b hu.2.2.1, ne_c hu.2.2.1, ne_d hu.2.2.1, ne_e hu.2.2.1, ne_f hu.2.2.1, Bool.or_true, Nat.le_add_left, go_sem, ↓reduceIte, reduceCtorEq, Nat.reduceEqDiff, Nat.reduceAdd, Nat.reduceSub, Nat.reduceMul, Nat.reduceLeDiff, Nat.reduceLT, loadA, rdCells, storeA, setAt, binA]
    refine WT_callx _ rfl ((hlb _ (hk1.trans hk2)).mono ?_)
    rintro w3 S3 ⟨rfl, hk3⟩
    have hz3 := hk3.1
    have f1 := (hk3.2 s.size (by omega)).trans e1
    have f2 := (hk3.2 (s.size + 1) (by omega)).trans e2
    simp only [wt_ops, stpT, Tr, hu.1, hu2.1, e1, e2, f1, f2, wt_alloc, wt_nil, chk1, avr, ne_a hu.2.2.1, ne_b hu.2.2.1, ne_c hu.2.2.1, ne_d hu.2.2.1, ne_e hu.2.2.1, ne_f hu.2.2.1, Bool.or_true, Nat.le_add_left, go_sem, ↓reduceIte, reduceCtorEq, Nat.reduceEqDiff, Nat.reduceAdd, Nat.reduceSub, Nat.reduceMul, Nat.reduceLeDiff, Nat.reduceLT, loadA, rdCells, storeA, setAt, binA]
    have hkA : Keep s S3 := (hk1.trans hk2).trans hk3
    obtain ⟨SA, hSA⟩ : ∃ SA, SA = (S3.put s.size (some (.cells [.int .i64 (kof a'), .str (nof a'), .int .i64 (vof a'), .sl (tycs (lof a')) (lof a').length false none]))).put (s.size + 1) (some (.cells [.int .i64 (kof b'), .str (nof b'), .int .i64 (vof b'), .sl (tycs (lof b')) (lof b').length false none])) := ⟨_, rfl⟩
    have hkB : Keep s SA := by rw [hSA]; exact (hkA.put' (Nat.le_refl s.size) _).put' (by omega : s.size ≤ s.size + 1) _
    have g1 : SA.obj s.size = some (.cells [.int .i64 (kof a'), .str (nof a'), .int .i64 (vof a'), .sl (tycs (lof a')) (lof a').length false none]) := by rw [hSA, put_ne (by omega), put_eq]
    have g2 : SA.obj (s.size + 1) = some (.cells [.int .i64 (kof b'), .str (nof b'), .int .i64 (vof b'), .sl (tycs (lof b')) (lof b').length false none]) := by rw [hSA, put_eq]
    have hzA : SA.size = S3.size := by rw [hSA]; rfl
    have huA := hu.keep hkB
    have hb0' := hu.2.2.1
    have hp0' := hu.2.2.2
    rw [← hSA]
    have za : (kof a' == 0) = false := by simpa using ha
    have zb : (kof b' == 0) = false := by simpa using hb
    have la : lenA (.sl (tycs (lof a')) (lof a').length false none) = some (.int .i64 (lof a').length) := rfl
    have lb : lenA (.sl (tycs (lof b')) (lof b').length false none) = some (.int .i64 (lof b').length) := rfl
    have fin : ∀ (P : Prop), P → P := fun _ h => h
    cases h5 : (kof a' == 5) <;> cases h4 : decide (kof b' ≥ 4)
    case true.true => exact absurd ⟨by simpa using h5, by simpa using h4⟩ hr
    all_goals
      simp only [za, zb, h5, h4, g1, g2, la, lb, Nat.le_add_left, go_sem, ↓reduceIte, reduceCtorEq, Nat.reduceEqDiff, Nat.reduceAdd, Nat.reduceSub, Nat.reduceMul, Nat.reduceLeDiff, Nat.reduceLT, loadA, rdCells, storeA, setAt, binA]
      cases c1 : (kof a' != kof b')
      · simp only [c1, za, zb, h5, h4, g1, g2, la, lb, Nat.le_add_left, go_sem, ↓reduceIte, reduceCtorEq, Nat.reduceEqDiff, Nat.reduceAdd, Nat.reduceSub, Nat.reduceMul, Nat.reduceLeDiff, Nat.reduceLT, loadA, rdCells, storeA, setAt, binA]
        cases c2 : ((nof a').toList == (nof b').toList)
        · simp only [c1, c2, za, zb, h5, h4, g1, g2, la, lb, Bool.not_false, Nat.le_add_left, go_sem, ↓reduceIte, reduceCtorEq, Nat.reduceEqDiff, Nat.reduceAdd, Nat.reduceSub, Nat.reduceMul, Nat.reduceLeDiff, Nat.reduceLT, loadA, rdCells, storeA, setAt, binA]
          exact ⟨by simp, _, rfl, rfl, (UN.refl huA hbp).from hkB⟩
        · simp only [c1, c2, za, zb, h5, h4, g1, g2, la, lb, Bool.not_true, Nat.le_add_left, go_sem, ↓reduceIte, reduceCtorEq, Nat.reduceEqDiff, Nat.reduceAdd, Nat.reduceSub, Nat.reduceMul, Nat.reduceLeDiff, Nat.reduceLT, loadA, rdCells, storeA, setAt, binA]
          have c3 : (((lof a').length : Int) != ((lof b').length : Int)) = true := by
            rcases hn with h | h | h
            · simp at c1; exact absurd c1 h
            · rw [c2] at h; cases h
            · simp; omega
          simp only [c1, c2, c3, za, zb, h5, h4, g1, g2, la, lb, Nat.le_add_left, go_sem, ↓reduceIte, reduceCtorEq, Nat.reduceEqDiff, Nat.reduceAdd, Nat.reduceSub, Nat.reduceMul, Nat.reduceLeDiff, Nat.reduceLT, loadA, rdCells, storeA, setAt, binA]
          exact ⟨by simp, _, rfl, rfl, (UN.refl huA hbp).from hkB⟩
      · simp only [c1, za, zb, h5, h4, g1, g2, la, lb, Nat.le_add_left, go_sem, ↓reduceIte, reduceCtorEq, Nat.reduceEqDiff, Nat.reduceAdd, Nat.reduceSub, Nat.reduceMul, Nat.reduceLeDiff, Nat.reduceLT, loadA, rdCells, storeA, setAt, binA]
        exact ⟨by simp, _, rfl, rfl, (UN.refl huA hbp).from hkB⟩
  | args ss a0 b0 k n n' v v' l l' e ss' wa wb hk hr hn hl' h ih =>
    intro hf hl hj
    have hwa := fine_walk hf wa hj.1
    have hwb := fine_walk hf wb hj.2
    have hus := ih hf hl ⟨fun a ha => wt_arg hwa ha, fun a ha => wt_arg hwb ha⟩
    intro p s hbp hu
    refine WC_fn cf69 (hX 69 (by decide)) T69 (by simp [cf69]) ?_
    have hla := fun S (hk : Keep s S) => walk_law hX wa S (hu.keep hk).rd
    have hlb := fun S (hk : Keep s S) => walk_law hX wb S (hu.keep hk).rd
    have hk1 := (((Keep.refl s).new' (.cells (tyc a0))).new' (.cells (tyc b0)))
    rw [tyc_w a0, tyw, tyc] at hla
    rw [tyc_w b0, tyw, tyc] at hlb
    rw [tyc_w a0, tyw, tyc_w b0, tyw] at hk1 ⊢
    simp only [cf69, go_sem, ↓reduceIte, reduceCtorEq, Nat.reduceEqDiff, Nat.reduceAdd, Nat.reduceSub, Nat.reduceMul, Nat.reduceLeDiff, Nat.reduceLT, loadA, rdCells, storeA, setAt, binA]
    refine W_dreg ?_
    simp only [wt_ops, stpT, Tr, hu.1, wt_alloc, wt_nil, chk1, avr, ne_a hu.2.2.1, ne_b hu.2.2.1, ne_c hu.2.2.1, ne_d hu.2.2.1, ne_e hu.2.2.1, ne_f hu.2.2.1, Bool.or_true, Nat.le_add_left, go_sem, ↓reduceIte, reduceCtorEq, Nat.reduceEqDiff, Nat.reduceAdd, Nat.reduceSub, Nat.reduceMul, Nat.reduceLeDiff, Nat.reduceLT, loadA, rdCells, storeA, setAt, binA]
    refine WT_callx _ rfl ((hla _ hk1).mono ?_)
    rintro w2 S2 ⟨rfl, hk2⟩
    have hz2 := hk2.1
    simp only [St.new] at hz2
    have e1 := hk2.2 s.size (by simp only [St.new]; omega)
    have e2 := hk2.2 (s.size + 1) (by simp only [St.new]; omega)
    simp only [go_sem, ↓reduceIte, reduceCtorEq, Nat.reduceEqDiff, Nat.reduceAdd, Nat.reduceSub, Nat.reduceMul, Nat.reduceLeDiff, Nat.reduceLT, loadA, rdCells, storeA, setAt, binA] at e1 e2
    have hu2 := hu.keep (hk1.trans hk2)
    simp only [wt_ops, stpT, Tr, hu.1, hu2.1, e1, e2, wt_alloc, wt_nil, chk1, avr, ne_a hu.2.2.1, ne_b hu.2.2.1, ne_c hu.2.2.1, ne_d hu.2.2.1, ne_e hu.2.2.1, ne_f hu.2.2.1, Bool.or_true, Nat.le_add_left, go_sem, ↓reduceIte, reduceCtorEq, Nat.reduceEqDiff, Nat.reduceAdd, Nat.reduceSub, Nat.reduceMul, Nat.reduceLeDiff, Nat.reduceLT, loadA, rdCells, storeA, setAt, binA]
    refine WT_callx _ rfl ((hlb _ (hk1.trans hk2)).mono ?_)
    rintro w3 S3 ⟨rfl, hk3⟩
    have hz3 := hk3.1
    have f1 := (hk3.2 s.size (by omega)).trans e1
    have f2 := (hk3.2 (s.size + 1) (by omega)).trans e2
    simp only [wt_ops, stpT, Tr, hu.1, hu2.1, e1, e2, f1, f2, wt_alloc, wt_nil, chk1, avr, ne_a hu.2.2.1, ne_b hu.2.2.1, ne_c hu.2.2.1, ne_d hu.2.2.1, ne_e hu.2.2.1, ne_f hu.2.2.1, Bool.or_true, Nat.le_add_left, go_sem, ↓reduceIte, reduceCtorEq, Nat.reduceEqDiff, Nat.reduceAdd, Nat.reduceSub, Nat.reduceMul, Nat.reduceLeDiff, Nat.reduceLT, loadA, rdCells, storeA, setAt, binA]
    have hkA : Keep s S3 := (hk1.trans hk2).trans hk3
    obtain ⟨SA, hSA⟩ : ∃ SA, SA = (S3.put s.size (some (.cells [.int .i64 k, .str n, .int .i64 v, .sl (tycs l) l.length false none]))).put (s.size + 1) (some (.cells [.int .i64 k, .str n', .int .i64 v', .sl (tycs l') l'.length false none])) := ⟨_, rfl⟩
    have hkB : Keep s SA := by rw [hSA]; exact (hkA.put' (Nat.le_refl s.size) _).put' (by omega : s.size ≤ s.size + 1) _
    have g1 : SA.obj s.size = some (.cells [.int .i64 k, .str n, .int .i64 v, .sl (tycs l) l.length false none]) := by rw [hSA, put_ne (by omega), put_eq]
    have g2 : SA.obj (s.size + 1) = some (.cells [.int .i64 k, .str n', .int .i64 v', .sl (tycs l') l'.length false none]) := by rw [hSA, put_eq]
    have hzA : SA.size = S3.size := by rw [hSA]; rfl
    have huA := hu.keep hkB
    have hb0' := hu.2.2.1
    have hp0' := hu.2.2.2
    rw [← hSA]
    have za : (k == 0) = false := by simpa using hk
    have z5 : (k == 5) = false := by simpa using hr
    have la : lenA (.sl (tycs l) l.length false none) = some (.int .i64 l.length) := rfl
    have lb : lenA (.sl (tycs l') l'.length false none) = some (.int .i64 l'.length) := rfl
    have ckk : (k != k) = false := by simp
    have c3 : ((l.length : Int) != (l'.length : Int)) = false := by simp; omega
    simp only [za, z5, ckk, hn, c3, g1, g2, la, lb, Bool.not_true, Nat.le_add_left, go_sem, ↓reduceIte, reduceCtorEq, Nat.reduceEqDiff, Nat.reduceAdd, Nat.reduceSub, Nat.reduceMul, Nat.reduceLeDiff, Nat.reduceLT, loadA, rdCells, storeA, setAt, binA]
    refine (hus l l' 0 k k v v' n n' _ SA p s.size rfl rfl hl' (wt_lof hwa) hbp huA ?_ ?_ ?_ ?_ ?_ g1 g2 (by omega) (by omega) (by omega) (by omega) (by omega)).mono ?_
    · simp only [go_sem, ↓reduceIte, reduceCtorEq, Nat.reduceEqDiff, Nat.reduceAdd, Nat.reduceSub, Nat.reduceMul, Nat.reduceLeDiff, Nat.reduceLT, loadA, rdCells, storeA, setAt, binA]
    · simp only [go_sem, ↓reduceIte, reduceCtorEq, Nat.reduceEqDiff, Nat.reduceAdd, Nat.reduceSub, Nat.reduceMul, Nat.reduceLeDiff, Nat.reduceLT, loadA, rdCells, storeA, setAt, binA]
    · simp only [go_sem, ↓reduceIte, reduceCtorEq, Nat.reduceEqDiff, Nat.reduceAdd, Nat.reduceSub, Nat.reduceMul, Nat.reduceLeDiff, Nat.reduceLT, loadA, rdCells, storeA, setAt, binA]
    · simp only [go_sem, ↓reduceIte, reduceCtorEq, Nat.reduceEqDiff, Nat.reduceAdd, Nat.reduceSub, Nat.reduceMul, Nat.reduceLeDiff, Nat.reduceLT, loadA, rdCells, storeA, setAt, binA]
    · simp only [go_sem, ↓reduceIte, reduceCtorEq, Nat.reduceEqDiff, Nat.reduceAdd, Nat.reduceSub, Nat.reduceMul, Nat.reduceLeDiff, Nat.reduceLT, loadA, rdCells, storeA, setAt, binA]; rfl
    rintro x E' S' ⟨hun, ⟨rfl, rfl⟩ | ⟨rfl, he, h6⟩⟩
    · simp only [go_sem, ↓reduceIte, reduceCtorEq, Nat.reduceEqDiff, Nat.reduceAdd, Nat.reduceSub, Nat.reduceMul, Nat.reduceLeDiff, Nat.reduceLT, loadA, rdCells, storeA, setAt, binA]
      exact ⟨by simp, _, rfl, rfl, hun.from hkB⟩
    · simp only [h6, go_sem, ↓reduceIte, reduceCtorEq, Nat.reduceEqDiff, Nat.reduceAdd, Nat.reduceSub, Nat.reduceMul, Nat.reduceLeDiff, Nat.reduceLT, loadA, rdCells, storeA, setAt, binA]
      exact ⟨by simp, _, rfl, rfl, hun.from hkB⟩
  | nil ss =>
    intro hf hl hj la lb i k k' v v' n n' E S p c hla hlb hll hlen hbp hu E0 E4 E5 E76 E77 hc hc1 hcs hcb hc1b hcp hc1p
    have hi : ¬ i < la.length := by
      have := congrArg List.length hla; rw [List.length_drop, List.length_nil] at this; omega
    have hd : decide ((i : Int) < (la.length : Int)) = false := by simp; omega
    refine W_loop ?_
    simp only [cf69_l0, E0, E4, E5, E76, E77, hd, go_sem, ↓reduceIte, reduceCtorEq, Nat.reduceEqDiff, Nat.reduceAdd, Nat.reduceSub, Nat.reduceMul, Nat.reduceLeDiff, Nat.reduceLT, loadA, rdCells, storeA, setAt, binA]
    exact ⟨UN.refl hu hbp, Or.inl trivial⟩
  | ok ss ss1 ss2 a b0 l m e h hs ih1 ih2 =>
    intro hf hl hj la lb i k k' v v' n n' E S p c hla hlb hll hlen hbp hu E0 E4 E5 E76 E77 hc hc1 hcs hcb hc1b hcp hc1p
    have hi : i < la.length := by
      have := congrArg List.length hla; rw [List.length_drop, List.length_cons] at this; omega
    have ha : la[i]? = some a := by have := congrArg (fun l => l[0]?) hla; simpa [List.getElem?_drop] using this
    have hb : lb[i]? = some b0 := by have := congrArg (fun l => l[0]?) hlb; simpa [List.getElem?_drop] using this
    have hd : decide ((i : Int) < (la.length : Int)) = true := by simp; omega
    have hda : la.drop (i + 1) = l := by rw [← List.drop_drop, hla]; rfl
    have hdb : lb.drop (i + 1) = m := by rw [← List.drop_drop, hlb]; rfl
    have i1 := (isl_tycs la).at tyc_len ha
    have i2 := (isl_tycs lb).at tyc_len hb
    rw [tyc_w, tyw] at i1 i2
    have hwr := wrapn (n := i) (by omega)
    have hc0s : c < S.size := by omega
    have hca := ih1 hf hl ⟨hj.1 a (by simp), hj.2 b0 (by simp)⟩ p S hbp hu
    rw [tyc_w a, tyc_w b0, tyw, tyw] at hca
    generalize hL : CC.loop cf69_l0 = L
    refine W_loop_eq hL ?_
    simp only [cf69_l0, E0, E4, E5, E76, E77, hd, hc, hc1, i1, i2, Nat.le_add_left, go_sem, ↓reduceIte, reduceCtorEq, Nat.reduceEqDiff, Nat.reduceAdd, Nat.reduceSub, Nat.reduceMul, Nat.reduceLeDiff, Nat.reduceLT, loadA, rdCells, storeA, setAt, binA]
    refine WR_callx _ rfl (hca.mono ?_)
    rintro w4 S4 ⟨rfl, hun⟩
    have d0 : ((0 : Int) != 0) = false := rfl
    simp only [E0, E4, E5, E76, E77, d0, hwr, go_sem, ↓reduceIte, reduceCtorEq, Nat.reduceEqDiff, Nat.reduceAdd, Nat.reduceSub, Nat.reduceMul, Nat.reduceLeDiff, Nat.reduceLT, loadA, rdCells, storeA, setAt, binA]
    obtain ⟨hf1, hl1, hl2⟩ := un_fine h hf hl ⟨hj.1 a (by simp), hj.2 b0 (by simp)⟩
    obtain ⟨p1, u1, hbp1, hpp1, k1⟩ := hun
    have hkc := k1.2 c hc0s hcb hcp
    have hkc1 := k1.2 (c + 1) hcs hc1b hc1p
    have hz1 := k1.1
    subst hL
    refine (ih2 hf1 (hl2 rfl) (jwt_le hl1 (j := .us l m) ⟨fun a ha => hj.1 a (by simp [ha]), fun a ha => hj.2 a (by simp [ha])⟩) la lb (i + 1) k k' v v' n n' _ S4 p1 c hda hdb hll hlen hbp1 u1 ?_ ?_ ?_ ?_ ?_ (hkc.trans hc) (hkc1.trans hc1) (by omega) hcb hc1b (by rcases hpp1 with h | h <;> omega) (by rcases hpp1 with h | h <;> omega)).mono ?_
    · simp only [E0, go_sem, ↓reduceIte, reduceCtorEq, Nat.reduceEqDiff, Nat.reduceAdd, Nat.reduceSub, Nat.reduceMul, Nat.reduceLeDiff, Nat.reduceLT, loadA, rdCells, storeA, setAt, binA]
    · simp only [E4, go_sem, ↓reduceIte, reduceCtorEq, Nat.reduceEqDiff, Nat.reduceAdd, Nat.reduceSub, Nat.reduceMul, Nat.reduceLeDiff, Nat.reduceLT, loadA, rdCells, storeA, setAt, binA]
    · simp only [E5, go_sem, ↓reduceIte, reduceCtorEq, Nat.reduceEqDiff, Nat.reduceAdd, Nat.reduceSub, Nat.reduceMul, Nat.reduceLeDiff, Nat.reduceLT, loadA, rdCells, storeA, setAt, binA]
    · simp only [E76, go_sem, ↓reduceIte, reduceCtorEq, Nat.reduceEqDiff, Nat.reduceAdd, Nat.reduceSub, Nat.reduceMul, Nat.reduceLeDiff, Nat.reduceLT, loadA, rdCells, storeA, setAt, binA]
    · simp only [go_sem, ↓reduceIte, reduceCtorEq, Nat.reduceEqDiff, Nat.reduceAdd, Nat.reduceSub, Nat.reduceMul, Nat.reduceLeDiff, Nat.reduceLT, loadA, rdCells, storeA, setAt, binA]
    rintro x E' S' ⟨hun2, hx⟩
    obtain ⟨p2, u2, hbp2, hpp2, k2⟩ := hun2
    refine ⟨⟨p2, u2, hbp2, ?_, by have := k2.1; omega, fun j hj a c => ?_⟩, hx⟩
    · rcases hpp2 with h | h
      · rw [h]; exact hpp1
      · exact Or.inr (by omega)
    · rw [k2.2 j (by omega) a (by rcases hpp1 with h | h <;> omega), k1.2 j hj a c]
  | fail ss ss1 a b0 l m e h he hl' ih =>
    intro hf hl hj la lb i k k' v v' n n' E S p c hla hlb hll hlen hbp hu E0 E4 E5 E76 E77 hc hc1 hcs hcb hc1b hcp hc1p
    have hi : i < la.length := by
      have := congrArg List.length hla; rw [List.length_drop, List.length_cons] at this; omega
    have ha : la[i]? = some a := by have := congrArg (fun l => l[0]?) hla; simpa [List.getElem?_drop] using this
    have hb : lb[i]? = some b0 := by have := congrArg (fun l => l[0]?) hlb; simpa [List.getElem?_drop] using this
    have hd : decide ((i : Int) < (la.length : Int)) = true := by simp; omega
    have hda : la.drop (i + 1) = l := by rw [← List.drop_drop, hla]; rfl
    have hdb : lb.drop (i + 1) = m := by rw [← List.drop_drop, hlb]; rfl
    have i1 := (isl_tycs la).at tyc_len ha
    have i2 := (isl_tycs lb).at tyc_len hb
    rw [tyc_w, tyw] at i1 i2
    have hwr := wrapn (n := i) (by omega)
    have hc0s : c < S.size := by omega
    have hca := ih hf hl ⟨hj.1 a (by simp), hj.2 b0 (by simp)⟩ p S hbp hu
    rw [tyc_w a, tyc_w b0, tyw, tyw] at hca
    generalize hL : CC.loop cf69_l0 = L
    refine W_loop_eq hL ?_
    simp only [cf69_l0, E0, E4, E5, E76, E77, hd, hc, hc1, i1, i2, Nat.le_add_left, go_sem, ↓reduceIte, reduceCtorEq, Nat.reduceEqDiff, Nat.reduceAdd, Nat.reduceSub, Nat.reduceMul, Nat.reduceLeDiff, Nat.reduceLT, loadA, rdCells, storeA, setAt, binA]
    refine WR_callx _ rfl (hca.mono ?_)
    rintro w4 S4 ⟨rfl, hun⟩
    have d0 : (e != 0) = true := by simpa using he
    simp only [E0, E4, E5, E76, E77, d0, hwr, go_sem, ↓reduceIte, reduceCtorEq, Nat.reduceEqDiff, Nat.reduceAdd, Nat.reduceSub, Nat.reduceMul, Nat.reduceLeDiff, Nat.reduceLT, loadA, rdCells, storeA, setAt, binA]
    exact ⟨hun, Or.inr he⟩
  | exf ss ss1 n v x y b0 t q z e ht h he =>
    intro hf hl hj
    intro p s hbp hu
    refine WC_fn cf87 (hX 87 (by decide)) T87 (by simp [cf87]) ?_
    have htl := fun (S : St) (hu : US S b p ss) => tl_law hX (.con _ (by simp [kof])) ht S hu
    have hex := fun (S : St) (hu : US S b p ss) => ex_law hX hf.1.choose_spec (by omega) h p S hbp hu
    rw [row_c] at htl ⊢
    rw [tyc_w b0, tyw] at hex ⊢
    have hk1 := ((((Keep.refl s).new' (.cells [.int .i64 5, .str n, .int .i64 v, .sl [.int .i64 (kof x), .str (nof x), .int .i64 (vof x), .sl (tycs (lof x)) (lof x).length false none, .int .i64 (kof y), .str (nof y), .int .i64 (vof y), .sl (tycs (lof y)) (lof y).length false none] 2 false none])).new' (.cells [.int .i64 (kof b0), .str (nof b0), .int .i64 (vof b0), .sl (tycs (lof b0)) (lof b0).length false none])).new' (.cells [.int .i64 0, .str ⟨#[]⟩, .int .i64 0, .nils])).new' (.cells [.int .i64 0, .str ⟨#[]⟩, .int .i64 0, .nils])
    have hb0' := hu.2.2.1
    have hp0' := hu.2.2.2
    simp only [cf87, go_sem, ↓reduceIte, reduceCtorEq, Nat.reduceEqDiff, Nat.reduceAdd, Nat.reduceSub, Nat.reduceMul, Nat.reduceLeDiff, Nat.reduceLT, loadA, rdCells, storeA, setAt, binA]
    refine W_dreg ?_
    simp only [wt_ops, stpT, Tr, ia0, ia1, wt_nil, chk1, avr, ne_a hu.2.2.1, ne_b hu.2.2.1, ne_c hu.2.2.1, ne_d hu.2.2.1, ne_e hu.2.2.1, ne_f hu.2.2.1, Bool.or_true, Nat.le_add_left, go_sem, ↓reduceIte, reduceCtorEq, Nat.reduceEqDiff, Nat.reduceAdd, Nat.reduceSub, Nat.reduceMul, Nat.reduceLeDiff, Nat.reduceLT, loadA, rdCells, storeA, setAt, binA]
    refine WT_callx _ rfl ((htl _ (hu.keep hk1)).mono ?_)
    rintro w2 S2 ⟨rfl, hk2⟩
    have hz2 := hk2.1
    simp only [St.new, St.put] at hz2
    have a1 := hk2.2 s.size (by simp only [St.new]; omega)
    have a2 := hk2.2 (s.size + 1) (by simp only [St.new]; omega)
    have a3 := hk2.2 (s.size + 1 + 1) (by simp only [St.new]; omega)
    have a4 := hk2.2 (s.size + 1 + 1 + 1) (by simp only [St.new]; omega)
    simp only [go_sem, ↓reduceIte, reduceCtorEq, Nat.reduceEqDiff, Nat.reduceAdd, Nat.reduceSub, Nat.reduceMul, Nat.reduceLeDiff, Nat.reduceLT, loadA, rdCells, storeA, setAt, binA] at a1 a2 a3 a4
    have hk12 := hk1.trans hk2
    refine WT_callx _ rfl ((hex _ (hu.keep hk12)).mono ?_)
    rintro w3 S3 ⟨rfl, hun⟩
    have hz3 := hun.size
    have b1 := hun.obj (j := s.size) (by omega) (by omega) (by omega) a1
    have b2 := hun.obj (j := s.size + 1) (by omega) (by omega) (by omega) a2
    have b3 := hun.obj (j := s.size + 1 + 1) (by omega) (by omega) (by omega) a3
    have b4 := hun.obj (j := s.size + 1 + 1 + 1) (by omega) (by omega) (by omega) a4
    rw [tyc_w t, tyc_w q, tyw, tyw]
    simp only [wt_ops, stpT, Tr, a1, a2, b1, b2, b3, b4, ia0, ia1, wt_alloc, wt_nil, chk1, avr, ne_a hu.2.2.1, ne_b hu.2.2.1, ne_c hu.2.2.1, ne_d hu.2.2.1, ne_e hu.2.2.1, ne_f hu.2.2.1, Bool.or_true, Nat.le_add_left, go_sem, ↓reduceIte, reduceCtorEq, Nat.reduceEqDiff, Nat.reduceAdd, Nat.reduceSub, Nat.reduceMul, Nat.reduceLeDiff, Nat.reduceLT, loadA, rdCells, storeA, setAt, binA]
    obtain ⟨SA, hSA⟩ : ∃ SA, SA = (S3.put (s.size + 1 + 1) (some (.cells [.int .i64 (kof t), .str (nof t), .int .i64 (vof t), .sl (tycs (lof t)) (lof t).length false none]))).put (s.size + 1 + 1 + 1) (some (.cells [.int .i64 (kof q), .str (nof q), .int .i64 (vof q), .sl (tycs (lof q)) (lof q).length false none])) := ⟨_, rfl⟩
    have hzA : SA.size = S3.size := by rw [hSA]; rfl
    have c1 : SA.obj s.size = some (.cells [.int .i64 5, .str n, .int .i64 v, .sl [.int .i64 (kof x), .str (nof x), .int .i64 (vof x), .sl (tycs (lof x)) (lof x).length false none, .int .i64 (kof y), .str (nof y), .int .i64 (vof y), .sl (tycs (lof y)) (lof y).length false none] 2 false none]) := by rw [hSA, put_ne (by omega), put_ne (by omega)]; exact b1
    have c3 : SA.obj (s.size + 1 + 1) = some (.cells [.int .i64 (kof t), .str (nof t), .int .i64 (vof t), .sl (tycs (lof t)) (lof t).length false none]) := by rw [hSA, put_ne (by omega), put_eq]
    have c4 : SA.obj (s.size + 1 + 1 + 1) = some (.cells [.int .i64 (kof q), .str (nof q), .int .i64 (vof q), .sl (tycs (lof q)) (lof q).length false none]) := by rw [hSA, put_eq]
    have hUM : UM b p S2.size s ss1 SA := by
      rw [hSA]
      exact ((hun.um hk12).put (j := s.size + 1 + 1) (by omega) (by omega) (by omega) (by omega) _).put (j := s.size + 1 + 1 + 1) (by omega) (by omega) (by omega) (by omega) _
    have d0 : (e != 0) = true := by simpa using he
    first | rw [← hSA] | skip
    simp only [d0, c1, c3, c4, ia0, ia1, Nat.le_add_left, go_sem, ↓reduceIte, reduceCtorEq, Nat.reduceEqDiff, Nat.reduceAdd, Nat.reduceSub, Nat.reduceMul, Nat.reduceLeDiff, Nat.reduceLT, loadA, rdCells, storeA, setAt, binA]
    exact ⟨by simp, _, rfl, rfl, hUM.un (by omega)⟩
  | hdf ss ss1 ss2 n v x y b0 t q z e ht h h1 he ih =>
    intro hf hl hj
    intro p s hbp hu
    refine WC_fn cf87 (hX 87 (by decide)) T87 (by simp [cf87]) ?_
    have htl := fun (S : St) (hu : US S b p ss) => tl_law hX (.con _ (by simp [kof])) ht S hu
    have hex := fun (S : St) (hu : US S b p ss) => ex_law hX hf.1.choose_spec (by omega) h p S hbp hu
    rw [row_c] at htl ⊢
    rw [tyc_w b0, tyw] at hex ⊢
    have hk1 := ((((Keep.refl s).new' (.cells [.int .i64 5, .str n, .int .i64 v, .sl [.int .i64 (kof x), .str (nof x), .int .i64 (vof x), .sl (tycs (lof x)) (lof x).length false none, .int .i64 (kof y), .str (nof y), .int .i64 (vof y), .sl (tycs (lof y)) (lof y).length false none] 2 false none])).new' (.cells [.int .i64 (kof b0), .str (nof b0), .int .i64 (vof b0), .sl (tycs (lof b0)) (lof b0).length false none])).new' (.cells [.int .i64 0, .str ⟨#[]⟩, .int .i64 0, .nils])).new' (.cells [.int .i64 0, .str ⟨#[]⟩, .int .i64 0, .nils])
    have hb0' := hu.2.2.1
    have hp0' := hu.2.2.2
    simp only [cf87, go_sem, ↓reduceIte, reduceCtorEq, Nat.reduceEqDiff, Nat.reduceAdd, Nat.reduceSub, Nat.reduceMul, Nat.reduceLeDiff, Nat.reduceLT, loadA, rdCells, storeA, setAt, binA]
    refine W_dreg ?_
    simp only [wt_ops, stpT, Tr, ia0, ia1, wt_nil, chk1, avr, ne_a hu.2.2.1, ne_b hu.2.2.1, ne_c hu.2.2.1, ne_d hu.2.2.1, ne_e hu.2.2.1, ne_f hu.2.2.1, Bool.or_true, Nat.le_add_left, go_sem, ↓reduceIte, reduceCtorEq, Nat.reduceEqDiff, Nat.reduceAdd, Nat.reduceSub, Nat.reduceMul, Nat.reduceLeDiff, Nat.reduceLT, loadA, rdCells, storeA, setAt, binA]
    refine WT_callx _ rfl ((htl _ (hu.keep hk1)).mono ?_)
    rintro w2 S2 ⟨rfl, hk2⟩
    have hz2 := hk2.1
    simp only [St.new, St.put] at hz2
    have a1 := hk2.2 s.size (by simp only [St.new]; omega)
    have a2 := hk2.2 (s.size + 1) (by simp only [St.new]; omega)
    have a3 := hk2.2 (s.size + 1 + 1) (by simp only [St.new]; omega)
    have a4 := hk2.2 (s.size + 1 + 1 + 1) (by simp only [St.new]; omega)
    simp only [go_sem, ↓reduceIte, reduceCtorEq, Nat.reduceEqDiff, Nat.reduceAdd, Nat.reduceSub, Nat.reduceMul, Nat.reduceLeDiff, Nat.reduceLT, loadA, rdCells, storeA, setAt, binA] at a1 a2 a3 a4
    have hk12 := hk1.trans hk2
    refine WT_callx _ rfl ((hex _ (hu.keep hk12)).mono ?_)
    rintro w3 S3 ⟨rfl, hun⟩
    have hz3 := hun.size
    have b1 := hun.obj (j := s.size) (by omega) (by omega) (by omega) a1
    have b2 := hun.obj (j := s.size + 1) (by omega) (by omega) (by omega) a2
    have b3 := hun.obj (j := s.size + 1 + 1) (by omega) (by omega) (by omega) a3
    have b4 := hun.obj (j := s.size + 1 + 1 + 1) (by omega) (by omega) (by omega) a4
    rw [tyc_w t, tyc_w q, tyw, tyw]
    simp only [wt_ops, stpT, Tr, a1, a2, b1, b2, b3, b4, ia0, ia1, wt_alloc, wt_nil, chk1, avr, ne_a hu.2.2.1, ne_b hu.2.2.1, ne_c hu.2.2.1, ne_d hu.2.2.1, ne_e hu.2.2.1, ne_f hu.2.2.1, Bool.or_true, Nat.le_add_left, go_sem, ↓reduceIte, reduceCtorEq, Nat.reduceEqDiff, Nat.reduceAdd, Nat.reduceSub, Nat.reduceMul, Nat.reduceLeDiff, Nat.reduceLT, loadA, rdCells, storeA, setAt, binA]
    obtain ⟨SA, hSA⟩ : ∃ SA, SA = (S3.put (s.size + 1 + 1) (some (.cells [.int .i64 (kof t), .str (nof t), .int .i64 (vof t), .sl (tycs (lof t)) (lof t).length false none]))).put (s.size + 1 + 1 + 1) (some (.cells [.int .i64 (kof q), .str (nof q), .int .i64 (vof q), .sl (tycs (lof q)) (lof q).length false none])) := ⟨_, rfl⟩
    have hzA : SA.size = S3.size := by rw [hSA]; rfl
    have c1 : SA.obj s.size = some (.cells [.int .i64 5, .str n, .int .i64 v, .sl [.int .i64 (kof x), .str (nof x), .int .i64 (vof x), .sl (tycs (lof x)) (lof x).length false none, .int .i64 (kof y), .str (nof y), .int .i64 (vof y), .sl (tycs (lof y)) (lof y).length false none] 2 false none]) := by rw [hSA, put_ne (by omega), put_ne (by omega)]; exact b1
    have c3 : SA.obj (s.size + 1 + 1) = some (.cells [.int .i64 (kof t), .str (nof t), .int .i64 (vof t), .sl (tycs (lof t)) (lof t).length false none]) := by rw [hSA, put_ne (by omega), put_eq]
    have c4 : SA.obj (s.size + 1 + 1 + 1) = some (.cells [.int .i64 (kof q), .str (nof q), .int .i64 (vof q), .sl (tycs (lof q)) (lof q).length false none]) := by rw [hSA, put_eq]
    have hUM : UM b p S2.size s ss1 SA := by
      rw [hSA]
      exact ((hun.um hk12).put (j := s.size + 1 + 1) (by omega) (by omega) (by omega) (by omega) _).put (j := s.size + 1 + 1 + 1) (by omega) (by omega) (by omega) (by omega) _
    have d0 : ((0 : Int) != 0) = false := rfl
    first | rw [← hSA] | skip
    obtain ⟨g1, g2, g3⟩ := ex_fine hf hl h hj.2.2
    have hM : S2.size ≤ SA.size := by omega
    obtain ⟨p1, u1, hbp1, hpp1, k1⟩ := hUM
    have hca := ih g1 (g3 rfl).1 ⟨wt_le g2 _ hj.1, (g3 rfl).2.1⟩ p1 SA hbp1 u1
    rw [tyc_w x, tyc_w t, tyw, tyw] at hca
    simp only [d0, c1, c3, c4, ia0, ia1, Nat.le_add_left, go_sem, ↓reduceIte, reduceCtorEq, Nat.reduceEqDiff, Nat.reduceAdd, Nat.reduceSub, Nat.reduceMul, Nat.reduceLeDiff, Nat.reduceLT, loadA, rdCells, storeA, setAt, binA]
    refine WR_callx _ rfl (hca.mono ?_)
    rintro w4 S4 ⟨rfl, hun4⟩
    have hUM4 : UM b p S2.size s ss2 S4 := um_comp hpp1 hM (by omega) k1 hun4
    have d1 : (e != 0) = true := by simpa using he
    have h41 := hun4.obj (j := s.size) (by omega) (by omega) (by rcases hpp1 with h | h <;> omega) c1
    have h44 := hun4.obj (j := s.size + 1 + 1 + 1) (by omega) (by omega) (by rcases hpp1 with h | h <;> omega) c4
    simp only [d1, go_sem, ↓reduceIte, reduceCtorEq, Nat.reduceEqDiff, Nat.reduceAdd, Nat.reduceSub, Nat.reduceMul, Nat.reduceLeDiff, Nat.reduceLT, loadA, rdCells, storeA, setAt, binA]
    exact ⟨by simp, _, rfl, rfl, hUM4.un (by omega)⟩
  | rok ss ss1 ss2 ss3 n v x y b0 t q z e ht h h1 h2 ih1 ih2 =>
    intro hf hl hj
    intro p s hbp hu
    refine WC_fn cf87 (hX 87 (by decide)) T87 (by simp [cf87]) ?_
    have htl := fun (S : St) (hu : US S b p ss) => tl_law hX (.con _ (by simp [kof])) ht S hu
    have hex := fun (S : St) (hu : US S b p ss) => ex_law hX hf.1.choose_spec (by omega) h p S hbp hu
    rw [row_c] at htl ⊢
    rw [tyc_w b0, tyw] at hex ⊢
    have hk1 := ((((Keep.refl s).new' (.cells [.int .i64 5, .str n, .int .i64 v, .sl [.int .i64 (kof x), .str (nof x), .int .i64 (vof x), .sl (tycs (lof x)) (lof x).length false none, .int .i64 (kof y), .str (nof y), .int .i64 (vof y), .sl (tycs (lof y)) (lof y).length false none] 2 false none])).new' (.cells [.int .i64 (kof b0), .str (nof b0), .int .i64 (vof b0), .sl (tycs (lof b0)) (lof b0).length false none])).new' (.cells [.int .i64 0, .str ⟨#[]⟩, .int .i64 0, .nils])).new' (.cells [.int .i64 0, .str ⟨#[]⟩, .int .i64 0, .nils])
    have hb0' := hu.2.2.1
    have hp0' := hu.2.2.2
    simp only [cf87, go_sem, ↓reduceIte, reduceCtorEq, Nat.reduceEqDiff, Nat.reduceAdd, Nat.reduceSub, Nat.reduceMul, Nat.reduceLeDiff, Nat.reduceLT, loadA, rdCells, storeA, setAt, binA]
    refine W_dreg ?_
    simp only [wt_ops, stpT, Tr, ia0, ia1, wt_nil, chk1, avr, ne_a hu.2.2.1, ne_b hu.2.2.1, ne_c hu.2.2.1, ne_d hu.2.2.1, ne_e hu.2.2.1, ne_f hu.2.2.1, Bool.or_true, Nat.le_add_left, go_sem, ↓reduceIte, reduceCtorEq, Nat.reduceEqDiff, Nat.reduceAdd, Nat.reduceSub, Nat.reduceMul, Nat.reduceLeDiff, Nat.reduceLT, loadA, rdCells, storeA, setAt, binA]
    refine WT_callx _ rfl ((htl _ (hu.keep hk1)).mono ?_)
    rintro w2 S2 ⟨rfl, hk2⟩
    have hz2 := hk2.1
    simp only [St.new, St.put] at hz2
    have a1 := hk2.2 s.size (by simp only [St.new]; omega)
    have a2 := hk2.2 (s.size + 1) (by simp only [St.new]; omega)
    have a3 := hk2.2 (s.size + 1 + 1) (by simp only [St.new]; omega)
    have a4 := hk2.2 (s.size + 1 + 1 + 1) (by simp only [St.new]; omega)
    simp only [go_sem, ↓reduceIte, reduceCtorEq, Nat.reduceEqDiff, Nat.reduceAdd, Nat.reduceSub, Nat.reduceMul, Nat.reduceLeDiff, Nat.reduceLT, loadA, rdCells, storeA, setAt, binA] at a1 a2 a3 a4
    have hk12 := hk1.trans hk2
    refine WT_callx _ rfl ((hex _ (hu.keep hk12)).mono ?_)
    rintro w3 S3 ⟨rfl, hun⟩
    have hz3 := hun.size
    have b1 := hun.obj (j := s.size) (by omega) (by omega) (by omega) a1
    have b2 := hun.obj (j := s.size + 1) (by omega) (by omega) (by omega) a2
    have b3 := hun.obj (j := s.size + 1 + 1) (by omega) (by omega) (by omega) a3
    have b4 := hun.obj (j := s.size + 1 + 1 + 1) (by omega) (by omega) (by omega) a4
    rw [tyc_w t, tyc_w q, tyw, tyw]
    simp only [wt_ops, stpT, Tr, a1, a2, b1, b2, b3, b4, ia0, ia1, wt_alloc, wt_nil, chk1, avr, ne_a hu.2.2.1, ne_b hu.2.2.1, ne_c hu.2.2.1, ne_d hu.2.2.1, ne_e hu.2.2.1, ne_f hu.2.2.1, Bool.or_true, Nat.le_add_left, go_sem, ↓reduceIte, reduceCtorEq, Nat.reduceEqDiff, Nat.reduceAdd, Nat.reduceSub, Nat.reduceMul, Nat.reduceLeDiff, Nat.reduceLT, loadA, rdCells, storeA, setAt, binA]
    obtain ⟨SA, hSA⟩ : ∃ SA, SA = (S3.put (s.size + 1 + 1) (some (.cells [.int .i64 (kof t), .str (nof t), .int .i64 (vof t), .sl (tycs (lof t)) (lof t).length false none]))).put (s.size + 1 + 1 + 1) (some (.cells [.int .i64 (kof q), .str (nof q), .int .i64 (vof q), .sl (tycs (lof q)) (lof q).length false none])) := ⟨_, rfl⟩
    have hzA : SA.size = S3.size := by rw [hSA]; rfl
    have c1 : SA.obj s.size = some (.cells [.int .i64 5, .str n, .int .i64 v, .sl [.int .i64 (kof x), .str (nof x), .int .i64 (vof x), .sl (tycs (lof x)) (lof x).length false none, .int .i64 (kof y), .str (nof y), .int .i64 (vof y), .sl (tycs (lof y)) (lof y).length false none] 2 false none]) := by rw [hSA, put_ne (by omega), put_ne (by omega)]; exact b1
    have c3 : SA.obj (s.size + 1 + 1) = some (.cells [.int .i64 (kof t), .str (nof t), .int .i64 (vof t), .sl (tycs (lof t)) (lof t).length false none]) := by rw [hSA, put_ne (by omega), put_eq]
    have c4 : SA.obj (s.size + 1 + 1 + 1) = some (.cells [.int .i64 (kof q), .str (nof q), .int .i64 (vof q), .sl (tycs (lof q)) (lof q).length false none]) := by rw [hSA, put_eq]
    have hUM : UM b p S2.size s ss1 SA := by
      rw [hSA]
      exact ((hun.um hk12).put (j := s.size + 1 + 1) (by omega) (by omega) (by omega) (by omega) _).put (j := s.size + 1 + 1 + 1) (by omega) (by omega) (by omega) (by omega) _
    have d0 : ((0 : Int) != 0) = false := rfl
    first | rw [← hSA] | skip
    obtain ⟨g1, g2, g3⟩ := ex_fine hf hl h hj.2.2
    have hM : S2.size ≤ SA.size := by omega
    obtain ⟨p1, u1, hbp1, hpp1, k1⟩ := hUM
    have hca := ih1 g1 (g3 rfl).1 ⟨wt_le g2 _ hj.1, (g3 rfl).2.1⟩ p1 SA hbp1 u1
    rw [tyc_w x, tyc_w t, tyw, tyw] at hca
    simp only [d0, c1, c3, c4, ia0, ia1, Nat.le_add_left, go_sem, ↓reduceIte, reduceCtorEq, Nat.reduceEqDiff, Nat.reduceAdd, Nat.reduceSub, Nat.reduceMul, Nat.reduceLeDiff, Nat.reduceLT, loadA, rdCells, storeA, setAt, binA]
    refine WR_callx _ rfl (hca.mono ?_)
    rintro w4 S4 ⟨rfl, hun4⟩
    have hUM4 : UM b p S2.size s ss2 S4 := um_comp hpp1 hM (by omega) k1 hun4
    have h41 := hun4.obj (j := s.size) (by omega) (by omega) (by rcases hpp1 with h | h <;> omega) c1
    have h44 := hun4.obj (j := s.size + 1 + 1 + 1) (by omega) (by omega) (by rcases hpp1 with h | h <;> omega) c4
    obtain ⟨g4, g5, g6⟩ := un_fine h1 g1 (g3 rfl).1 ⟨wt_le g2 _ hj.1, (g3 rfl).2.1⟩
    have hz4 := hun4.size
    obtain ⟨p2, u2, hbp2, hpp2, k2⟩ := hUM4
    have hcb := ih2 g4 (g6 rfl) ⟨wt_le (by omega) _ hj.2.1, wt_le g5 _ (g3 rfl).2.2⟩ p2 S4 hbp2 u2
    rw [tyc_w y, tyc_w q, tyw, tyw] at hcb
    simp only [d0, h41, h44, ia0, ia1, Nat.le_add_left, go_sem, ↓reduceIte, reduceCtorEq, Nat.reduceEqDiff, Nat.reduceAdd, Nat.reduceSub, Nat.reduceMul, Nat.reduceLeDiff, Nat.reduceLT, loadA, rdCells, storeA, setAt, binA]
    refine WR_callx _ rfl (hcb.mono ?_)
    rintro w5 S5 ⟨rfl, hun5⟩
    simp only [go_sem, ↓reduceIte, reduceCtorEq, Nat.reduceEqDiff, Nat.reduceAdd, Nat.reduceSub, Nat.reduceMul, Nat.reduceLeDiff, Nat.reduceLT, loadA, rdCells, storeA, setAt, binA]
    exact ⟨by simp, _, rfl, rfl, (um_comp hpp2 (by omega : S2.size ≤ S4.size) (by omega) k2 hun5).un (by omega)⟩
end Go.Am.U1
