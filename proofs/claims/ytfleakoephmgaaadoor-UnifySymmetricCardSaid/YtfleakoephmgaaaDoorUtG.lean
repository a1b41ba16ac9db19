/- A label taken out of a row, for any substitution without cycles. Conditions: none. -/
import Derived.Test.YtfleakoephmgaaaDoorUtD
set_option linter.unusedSimpArgs false
set_option linter.unusedVariables false
namespace Go.Am.U1
open Go.Am.Un
set_option maxRecDepth 100000
set_option linter.unusedSimpArgs false
attribute [local go_sem] wseq COp.isStore wreg wdreg wret wskip wexit wblock wcnd cnd_t cnd_f then_n then_x then_r catch_n rnd_n rnd_x rnd_r catch_x catch_r wo_nil wo_grd grdO_t grdO_f wo_ops stpO wr_nil wr_alloc wr_guards grdR_t grdR_f wr_ops stpR evAllocs evOp env0_app eput_some eput_none eset_app Opd.ev wantedA faddrA snew_obj snew_size sput_obj sput_size av_cells av_one av_strip av_still unA eqbA fillA fldA lensA mmA mm2 mmFold List.getD_cons_zero List.getD_cons_succ List.getD_nil List.length_cons List.length_nil List.drop_zero List.drop_succ_cons List.take_succ_cons List.take_zero List.map_cons List.map_nil List.set_cons_zero List.set_cons_succ List.all_cons List.all_nil List.getElem?_cons_zero List.getElem?_cons_succ List.nil_append List.cons_append Nat.zero_add Nat.add_zero beq_self_eq_true bt bf Bool.not_true Bool.not_false Bool.and_true Bool.true_and Bool.and_false Bool.false_and and_self and_true true_and n0 n1 n2 n3 n4 m0 m1 m2 m3 c1 retA resAs resA undefA Option.map_some Option.map_none
variable {X : Ext}

/-- As UN, of a run that began later: its array is old, or not below M. -/
def UM (b p M : Nat) (s : St) (ss : List Tm) (s' : St) : Prop := ∃ p', US s' b p' ss ∧ b ≠ p' ∧ (p' = p ∨ M ≤ p') ∧ KB b p s s'
theorem UN.um {b p : Nat} {s0 s s1 : St} {ss : List Tm} (h : UN b p s ss s1) (hk : Keep s0 s) : UM b p s.size s0 ss s1 := by
  obtain ⟨p', h1, h2, h3, h4⟩ := h
  exact ⟨p', h1, h2, h3, Nat.le_trans hk.1 h4.1, fun j hj a c => (h4.2 j (Nat.lt_of_lt_of_le hj hk.1) a c).trans (hk.2 j hj)⟩
theorem UM.put {b p M : Nat} {s s1 : St} {ss : List Tm} (h : UM b p M s ss s1) {j : Nat} (h1 : s.size ≤ j) (h2 : j < M) (h3 : j ≠ b) (h4 : j ≠ p) (x : Option AO) : UM b p M s ss (s1.put j x) := by
  obtain ⟨p', a1, a2, a3, a4⟩ := h
  have hjp : p' ≠ j := by rcases a3 with a3 | a3 <;> omega
  exact ⟨p', ⟨by rw [put_ne (Ne.symm h3)]; exact a1.1, by rw [put_ne hjp]; exact a1.2.1, a1.2.2.1, a1.2.2.2⟩, a2, a3, a4.1, fun i hi c d => by rw [put_ne (by omega)]; exact a4.2 i hi c d⟩
theorem UM.keep {b p M : Nat} {s s1 s2 : St} {ss : List Tm} (h : UM b p M s ss s1) (hk : Keep s1 s2) : UM b p M s ss s2 := by
  obtain ⟨p', h1, h2, h3, h4⟩ := h
  exact ⟨p', h1.keep hk, h2, h3, Nat.le_trans h4.1 hk.1, fun j hj a c => (hk.2 j (Nat.lt_of_lt_of_le hj h4.1)).trans (h4.2 j hj a c)⟩
theorem UM.un {b p M : Nat} {s s1 : St} {ss : List Tm} (h : UM b p M s ss s1) (hM : s.size ≤ M) : UN b p s ss s1 := by
  obtain ⟨p', h1, h2, h3, h4⟩ := h
  exact ⟨p', h1, h2, by rcases h3 with h3 | h3; exact Or.inl h3; exact Or.inr (by omega), h4⟩
theorem UM.trans {b p M : Nat} {s s1 s2 : St} {ss1 ss2 : List Tm} (h : UM b p M s ss1 s1) (hM : M ≤ s1.size) (hs : s.size ≤ M) (k : ∀ p', US s1 b p' ss1 → b ≠ p' → UN b p' s1 ss2 s2) : UM b p M s ss2 s2 := by
  obtain ⟨p', h1, h2, h3, h4⟩ := h
  obtain ⟨p2, k1, k2, k3, k4⟩ := k p' h1 h2
  refine ⟨p2, k1, k2, ?_, Nat.le_trans h4.1 k4.1, fun j hj a c => ?_⟩
  · rcases k3 with k3 | k3
    · rw [k3]; exact h3
    · exact Or.inr (by omega)
  · rw [k4.2 j (Nat.lt_of_lt_of_le hj h4.1) a (by rcases h3 with h3 | h3 <;> omega)]
    exact h4.2 j hj a c

/-- Two fresh variables. -/
def two (ss : List Tm) : List Tm := ss ++ [vtm ss.length, vtm (ss.length + 1)]
theorem two_len (ss : List Tm) : (two ss).length = ss.length + 2 := by simp [two]
theorem two_old {ss : List Tm} {i : Nat} (hi : i < ss.length) : (two ss)[i]? = ss[i]? := by rw [two, List.getElem?_append_left hi]
theorem two_0 (ss : List Tm) : (two ss)[ss.length]? = some (vtm ss.length) := by simp [two]
theorem two_1 (ss : List Tm) : (two ss)[ss.length + 1]? = some (vtm (ss.length + 1)) := by simp [two]
theorem acy_two {ss : List Tm} {rk : Nat → Nat} (h : Acy ss rk) : Acy (two ss) rk := by
  have hc : ∀ (i : Nat) u, (two ss)[i]? = some u → (ss[i]? = some u) ∨ (u = vtm i ∧ i < ss.length + 2) := by
    intro i u hu
    by_cases h1 : i < ss.length
    · rw [two_old h1] at hu; exact Or.inl hu
    · have h2 : i < ss.length + 2 := by have := (List.getElem?_eq_some_iff.1 hu).1; rw [two_len] at this; exact this
      have : i = ss.length ∨ i = ss.length + 1 := by omega
      rcases this with rfl | rfl
      · rw [two_0] at hu; cases hu; exact Or.inr ⟨rfl, h2⟩
      · rw [two_1] at hu; cases hu; exact Or.inr ⟨rfl, h2⟩
  refine ⟨fun i u hu => ?_, fun i u hu => ?_⟩
  · rw [two_len]
    rcases hc i u hu with h1 | ⟨rfl, h1⟩
    · exact wt_le (by omega) _ (h.wt i u h1)
    · exact wt_vtm h1
  · rcases hc i u hu with h1 | ⟨rfl, h1⟩
    · exact h.dn i u h1
    · exact Or.inl ⟨rfl, rfl⟩
theorem self_two {ss : List Tm} {i : Nat} (h : Self ss i) : Self (two ss) i := by
  obtain ⟨u, h1, h2⟩ := h
  exact ⟨u, by rw [two_old (List.getElem?_eq_some_iff.1 h1).1]; exact h1, h2⟩
theorem self_0 (ss : List Tm) : Self (two ss) ss.length := ⟨_, two_0 ss, rfl, rfl⟩
theorem self_1 (ss : List Tm) : Self (two ss) (ss.length + 1) := ⟨_, two_1 ss, rfl, rfl⟩
theorem self_ap {ss : List Tm} {i : Nat} (h : Self ss i) : Ap ss (vtm i) (vtm i) := by
  obtain ⟨u, h1, h2, h3⟩ := h
  exact .self (vtm i) u i rfl rfl h1 h2 h3
/-- The new end of a row. -/
def exl (l : ByteArray) (n : Nat) : Tm := .mk 5 l 0 [vtm n, vtm (n + 1)]
def grow (ss : List Tm) (i : Nat) (l : ByteArray) : List Tm := (two ss).set i (exl l ss.length)
theorem grow_len (ss : List Tm) (i : Nat) (l : ByteArray) : (grow ss i l).length = ss.length + 2 := by rw [grow, List.length_set, two_len]
theorem exl_wt (l : ByteArray) (n N : Nat) (h : n + 1 < N) : Wt N (exl l n) := by
  rw [exl, Wt]
  simp only [Wts]
  exact ⟨by decide, by decide, by simp, by simp, by simp, by simp, by simp, by simp, by simp, wt_vtm (by omega), wt_vtm h, trivial⟩
theorem acy_grow {ss : List Tm} {rk : Nat → Nat} (h : Acy ss rk) {i : Nat} (hi : Self ss i) (l : ByteArray) : ∃ rk', Acy (grow ss i l) rk' := by
  have hil : i < ss.length := by obtain ⟨u, h1, -⟩ := hi; exact (List.getElem?_eq_some_iff.1 h1).1
  refine acy_set (acy_two h) (self_two hi) (exl_wt _ _ _ (by rw [two_len]; omega)) ?_
  rintro ⟨B, h1, h2⟩
  obtain ⟨L, rfl, hs⟩ := ap_con (by decide) h1
  cases hs with | cons _ A1 _ L1 g1 hs => cases hs with | cons _ A2 _ L2 g2 hs =>
  cases hs
  obtain rfl := ap_det g1 (self_ap (self_0 ss))
  obtain rfl := ap_det g2 (self_ap (self_1 ss))
  rw [Occ, if_neg (by decide), Occs, Occs, Occs, vtm, vtm, Occ, Occ, if_pos rfl, if_pos rfl] at h2
  rcases h2 with h2 | h2 | h2
  · omega
  · omega
  · exact h2

theorem walk_var {ss : List Tm} {t : Tm} {i : Nat} (h : WalkTo ss t (vtm i)) : Self ss i := by
  generalize hr : vtm i = t' at h
  induction h with
  | con t h => subst hr; exact absurd rfl h
  | self t u j h hv hi hu hw =>
    subst hr
    have : (i : Int) = j := hv
    obtain rfl : i = j := by omega
    exact ⟨u, hi, hu, by rw [hw]; rfl⟩
  | step t u t' j h hv hi hn hr' ih => exact ih hr

/-- What extract answers: the error, the label's type, the row without it. -/
inductive ExR (l : ByteArray) (z : Int) (ss : List Tm) : Tm → Int → Tm → Tm → List Tm → Prop
  | cyc (r : Tm) (i : Nat) (hw : WalkTo ss r (vtm i)) (hz : (i : Int) = z) : ExR l z ss r 8 (vtm 0) (vtm 0) ss
  | large (r : Tm) (i : Nat) (hw : WalkTo ss r (vtm i)) (hz : (i : Int) ≠ z) (hl : 4096 < ss.length + 2) : ExR l z ss r 2 (vtm 0) (vtm 0) (two ss)
  | new (r : Tm) (i : Nat) (hw : WalkTo ss r (vtm i)) (hz : (i : Int) ≠ z) (hl : ss.length + 2 ≤ 4096) : ExR l z ss r (szd (grow ss i l)) (vtm ss.length) (vtm (ss.length + 1)) (grow ss i l)
  | stop (r r' : Tm) (hw : WalkTo ss r r') (h0 : kof r' ≠ 0) (h5 : kof r' ≠ 5) : ExR l z ss r 10 (vtm 0) (vtm 0) ss
  | here (r : Tm) (m : ByteArray) (v : Int) (x y : Tm) (hw : WalkTo ss r (.mk 5 m v [x, y])) (hm : (m.toList == l.toList) = true) : ExR l z ss r 0 x y ss
  | there (r : Tm) (m : ByteArray) (v : Int) (x y : Tm) (e : Int) (t q : Tm) (ss' : List Tm) (hw : WalkTo ss r (.mk 5 m v [x, y])) (hm : (m.toList == l.toList) = false) (h : ExR l z ss y e t q ss') : ExR l z ss r e t (.mk 5 m 0 [x, q]) ss'

theorem zero_c : tyc (vtm 0) = [.int .i64 0, .str ⟨#[]⟩, .int .i64 0, .sl [] 0 false none] := by rw [vtm_c]; rfl

set_option maxHeartbeats 16000000 in
theorem ex_law (hX : NoX X) {l : ByteArray} {z : Int} {ss : List Tm} {rk : Nat → Nat} {b : Nat} (hac : Acy ss rk) (hb : ss.length ≤ 100000) {r : Tm} {e : Int} {t q : Tm} {ss' : List Tm} (h : ExR l z ss r e t q ss') : ∀ (p : Nat) (s : St), b ≠ p → US s b p ss →
    WC T X 98 [.ptr b 0, .str l, .agg (tyc r), .int .i64 z] s (fun v s' => v = .tup [.agg (tyc t), .agg (tyc q), .int .i64 e] ∧ UN b p s ss' s') := by
  induction h with
  | cyc r i hw hz =>
    intro p s hbp hu
    refine WC_fn cf98 (hX 98 (by decide)) T98 (by simp [cf98]) ?_
    have hk1 := ((((Keep.refl s).new' (.cells (tyc r))).new' (.cells [.int .i64 0, .str ⟨#[]⟩, .int .i64 0, .nils])).new' (.cells [.int .i64 0, .str ⟨#[]⟩, .int .i64 0, .nils]))
    have hww := walk_law hX hw _ (hu.keep hk1).rd
    rw [vtm_c, tyc_w r, tyw] at hww
    rw [tyc_w r, tyw] at hk1 ⊢
    have z0 : ((0 : Int) == 0) = true := rfl
    have zz : ((i : Int) == z) = true := by simpa using hz
    simp only [cf98, hu.1, ne_a hu.2.2.1, ne_b hu.2.2.1, ne_c hu.2.2.1, ne_d hu.2.2.1, ne_e hu.2.2.1, ne_f hu.2.2.1, Nat.le_add_left, go_sem, ↓reduceIte, reduceCtorEq, Nat.reduceEqDiff, Nat.reduceAdd, Nat.reduceSub, Nat.reduceMul, Nat.reduceLeDiff, Nat.reduceLT, loadA, rdCells, storeA, setAt, binA]
    refine WR_callx _ rfl (hww.mono ?_)
    rintro w2 S2 ⟨rfl, hk2⟩
    have a1 := hk2.2 s.size (by simp only [St.new]; omega)
    have a2 := hk2.2 (s.size + 1) (by simp only [St.new]; omega)
    have a3 := hk2.2 (s.size + 1 + 1) (by simp only [St.new]; omega)
    simp only [go_sem, ↓reduceIte, reduceCtorEq, Nat.reduceEqDiff, Nat.reduceAdd, Nat.reduceSub, Nat.reduceMul, Nat.reduceLeDiff, Nat.reduceLT, loadA, rdCells, storeA, setAt, binA] at a1 a2 a3
    simp only [a1, a2, a3, z0, zz, Nat.le_add_left, go_sem, ↓reduceIte, reduceCtorEq, Nat.reduceEqDiff, Nat.reduceAdd, Nat.reduceSub, Nat.reduceMul, Nat.reduceLeDiff, Nat.reduceLT, loadA, rdCells, storeA, setAt, binA]
    exact ⟨by simp, _, rfl, by rw [zero_c], (UN.refl hu hbp).keep ((((hk1.trans hk2).put' (Nat.le_refl _) _).put' (Nat.le_succ _) _).put' (by omega) _)⟩
  | large r i hw hz hl =>
    intro p s hbp hu
    refine WC_fn cf98 (hX 98 (by decide)) T98 (by simp [cf98]) ?_
    have hk1 := ((((Keep.refl s).new' (.cells (tyc r))).new' (.cells [.int .i64 0, .str ⟨#[]⟩, .int .i64 0, .nils])).new' (.cells [.int .i64 0, .str ⟨#[]⟩, .int .i64 0, .nils]))
    have hww := walk_law hX hw _ (hu.keep hk1).rd
    rw [vtm_c, tyc_w r, tyw] at hww
    rw [tyc_w r, tyw] at hk1 ⊢
    have z0 : ((0 : Int) == 0) = true := rfl
    have zz : ((i : Int) == z) = false := by simpa using hz
    simp only [cf98, hu.1, ne_a hu.2.2.1, ne_b hu.2.2.1, ne_c hu.2.2.1, ne_d hu.2.2.1, ne_e hu.2.2.1, ne_f hu.2.2.1, Nat.le_add_left, go_sem, ↓reduceIte, reduceCtorEq, Nat.reduceEqDiff, Nat.reduceAdd, Nat.reduceSub, Nat.reduceMul, Nat.reduceLeDiff, Nat.reduceLT, loadA, rdCells, storeA, setAt, binA]
    refine WR_callx _ rfl (hww.mono ?_)
    rintro w2 S2 ⟨rfl, hk2⟩
    have a1 := hk2.2 s.size (by simp only [St.new]; omega)
    have a2 := hk2.2 (s.size + 1) (by simp only [St.new]; omega)
    have a3 := hk2.2 (s.size + 1 + 1) (by simp only [St.new]; omega)
    simp only [go_sem, ↓reduceIte, reduceCtorEq, Nat.reduceEqDiff, Nat.reduceAdd, Nat.reduceSub, Nat.reduceMul, Nat.reduceLeDiff, Nat.reduceLT, loadA, rdCells, storeA, setAt, binA] at a1 a2 a3
    simp only [a1, a2, a3, z0, zz, Nat.le_add_left, go_sem, ↓reduceIte, reduceCtorEq, Nat.reduceEqDiff, Nat.reduceAdd, Nat.reduceSub, Nat.reduceMul, Nat.reduceLeDiff, Nat.reduceLT, loadA, rdCells, storeA, setAt, binA]
    have hz2 := hk2.1
    simp only [St.new] at hz2
    have hb0 := hu.2.2.1
    have hp0 := hu.2.2.2
    obtain ⟨SB, hSB⟩ : ∃ SB, SB = S2.put s.size (some (.cells [.int .i64 0, .str ⟨#[]⟩, .int .i64 i, .sl [] 0 false none])) := ⟨_, rfl⟩
    have hkB : Keep s SB := by rw [hSB]; exact (hk1.trans hk2).put' (Nat.le_refl _) _
    have hzB : SB.size = S2.size := by rw [hSB]; rfl
    have c1 : SB.obj s.size = some (.cells [.int .i64 0, .str ⟨#[]⟩, .int .i64 i, .sl [] 0 false none]) := by rw [hSB, put_eq]
    have c2 : SB.obj (s.size + 1) = some (.cells [.int .i64 0, .str ⟨#[]⟩, .int .i64 0, .nils]) := by rw [hSB, put_ne (by omega)]; exact a2
    have c3 : SB.obj (s.size + 1 + 1) = some (.cells [.int .i64 0, .str ⟨#[]⟩, .int .i64 0, .nils]) := by rw [hSB, put_ne (by omega)]; exact a3
    rw [← hSB]
    refine WO_callx [.ptr b 0] (by simp only [go_sem, ↓reduceIte, reduceCtorEq, Nat.reduceEqDiff, Nat.reduceAdd, Nat.reduceSub, Nat.reduceMul, Nat.reduceLeDiff, Nat.reduceLT, loadA, rdCells, storeA, setAt, binA]) ((fresh_law hX (by omega) hbp SB (hu.keep hkB)).mono ?_)
    rintro w3 S3 ⟨rfl, hun3⟩
    obtain ⟨p3, u3, hbp3, hpp3, k3⟩ := hun3
    simp only [go_sem, ↓reduceIte, reduceCtorEq, Nat.reduceEqDiff, Nat.reduceAdd, Nat.reduceSub, Nat.reduceMul, Nat.reduceLeDiff, Nat.reduceLT, loadA, rdCells, storeA, setAt, binA]
    have hl1 : (ss ++ [vtm ss.length]).length = ss.length + 1 := by simp
    refine WO_callx [.ptr b 0] (by simp only [go_sem, ↓reduceIte, reduceCtorEq, Nat.reduceEqDiff, Nat.reduceAdd, Nat.reduceSub, Nat.reduceMul, Nat.reduceLeDiff, Nat.reduceLT, loadA, rdCells, storeA, setAt, binA]) ((fresh_law hX (by rw [hl1]; omega) hbp3 S3 u3).mono ?_)
    rintro w4 S4 ⟨rfl, hun4⟩
    rw [hl1] at hun4 ⊢
    have htw : ss ++ [vtm ss.length] ++ [vtm (ss.length + 1)] = two ss := by simp [two]
    rw [htw] at hun4
    have hUM3 : UM b p SB.size s (ss ++ [vtm ss.length]) S3 := UN.um ⟨p3, u3, hbp3, hpp3, k3⟩ hkB
    have hun4' := hun4
    obtain ⟨p4, u4, hbp4, hpp4, k4⟩ := hun4
    have hz3 := k3.1
    have hz4 := k4.1
    have hUM4 : UM b p SB.size s (two ss) S4 := by
      obtain ⟨q1, g1, g2, g3, g4⟩ := hUM3
      refine ⟨p4, u4, hbp4, ?_, Nat.le_trans g4.1 k4.1, fun j hj a c => ?_⟩
      · rcases hpp4 with h | h
        · rw [h]; exact hpp3
        · exact Or.inr (by omega)
      · have h1 := hkB.2 j hj
        rw [k4.2 j (by have := hkB.1; omega) a (by have := hkB.1; rcases hpp3 with h | h <;> omega), k3.2 j (by have := hkB.1; omega) a c, h1]
    have keep4 : ∀ j, j < SB.size → j ≠ b → j ≠ p → S4.obj j = SB.obj j := fun j hj a c => by
      rw [k4.2 j (by omega) a (by rcases hpp3 with h | h <;> omega), k3.2 j hj a c]
    have d1 := (keep4 s.size (by omega) (by omega) (by omega)).trans c1
    have d2 := (keep4 (s.size + 1) (by omega) (by omega) (by omega)).trans c2
    have d3 := (keep4 (s.size + 1 + 1) (by omega) (by omega) (by omega)).trans c3
    have l4 : lenA (.msl p4 0 (two ss).length 4) = some (.int .i64 ((ss.length + 2 : Nat) : Int)) := by rw [two_len]; rfl
    have hb4 := u4.2.2.1
    have hp4 := u4.2.2.2
    have v0 : tyc (vtm ss.length) = [.int .i64 0, .str ⟨#[]⟩, .int .i64 ss.length, .sl [] 0 false none] := vtm_c _
    have v1 : tyc (vtm (ss.length + 1)) = [.int .i64 0, .str ⟨#[]⟩, .int .i64 ((ss.length + 1 : Nat) : Int), .sl [] 0 false none] := vtm_c _
    have y0 : s.size < S4.size := by omega
    have y1 : s.size + 1 < S4.size := by omega
    have y2 : s.size + 1 + 1 < S4.size := by omega
    rw [v0, v1]
    have hgt : decide (((ss.length + 2 : Nat) : Int) > 4096) = true := by simp; omega
    simp only [u4.1, l4, hgt, d1, d2, d3, ne_a hb4, ne_b hb4, ne_c hb4, ne_d hb4, ne_a hp4, ne_b hp4, ne_c hp4, ne_d hp4, ne_a y0, ne_b y0, ne_c y0, ne_d y0, ne_a y1, ne_b y1, ne_c y1, ne_d y1, ne_a y2, ne_b y2, ne_c y2, ne_d y2, Nat.le_add_left, go_sem, ↓reduceIte, reduceCtorEq, Nat.reduceEqDiff, Nat.reduceAdd, Nat.reduceSub, Nat.reduceMul, Nat.reduceLeDiff, Nat.reduceLT, loadA, rdCells, storeA, setAt, binA]
    refine ⟨by simp, _, rfl, by rw [zero_c], ?_⟩
    exact (((hUM4.keep (((((Keep.refl S4).new' _).new' _).put' (Nat.le_refl _) _).put' (Nat.le_succ _) _)).put (j := s.size + 1) (by omega) (by omega) (by omega) (by omega) _).put (j := s.size + 1 + 1) (by omega) (by omega) (by omega) (by omega) _).un (by omega)
  | new r i hw hz hl =>
    intro p s hbp hu
    refine WC_fn cf98 (hX 98 (by decide)) T98 (by simp [cf98]) ?_
    have hk1 := ((((Keep.refl s).new' (.cells (tyc r))).new' (.cells [.int .i64 0, .str ⟨#[]⟩, .int .i64 0, .nils])).new' (.cells [.int .i64 0, .str ⟨#[]⟩, .int .i64 0, .nils]))
    have hww := walk_law hX hw _ (hu.keep hk1).rd
    rw [vtm_c, tyc_w r, tyw] at hww
    rw [tyc_w r, tyw] at hk1 ⊢
    have z0 : ((0 : Int) == 0) = true := rfl
    have zz : ((i : Int) == z) = false := by simpa using hz
    simp only [cf98, hu.1, ne_a hu.2.2.1, ne_b hu.2.2.1, ne_c hu.2.2.1, ne_d hu.2.2.1, ne_e hu.2.2.1, ne_f hu.2.2.1, Nat.le_add_left, go_sem, ↓reduceIte, reduceCtorEq, Nat.reduceEqDiff, Nat.reduceAdd, Nat.reduceSub, Nat.reduceMul, Nat.reduceLeDiff, Nat.reduceLT, loadA, rdCells, storeA, setAt, binA]
    refine WR_callx _ rfl (hww.mono ?_)
    rintro w2 S2 ⟨rfl, hk2⟩
    have a1 := hk2.2 s.size (by simp only [St.new]; omega)
    have a2 := hk2.2 (s.size + 1) (by simp only [St.new]; omega)
    have a3 := hk2.2 (s.size + 1 + 1) (by simp only [St.new]; omega)
    simp only [go_sem, ↓reduceIte, reduceCtorEq, Nat.reduceEqDiff, Nat.reduceAdd, Nat.reduceSub, Nat.reduceMul, Nat.reduceLeDiff, Nat.reduceLT, loadA, rdCells, storeA, setAt, binA] at a1 a2 a3
    simp only [a1, a2, a3, z0, zz, Nat.le_add_left, go_sem, ↓reduceIte, reduceCtorEq, Nat.reduceEqDiff, Nat.reduceAdd, Nat.reduceSub, Nat.reduceMul, Nat.reduceLeDiff, Nat.reduceLT, loadA, rdCells, storeA, setAt, binA]
    have hz2 := hk2.1
    simp only [St.new] at hz2
    have hb0 := hu.2.2.1
    have hp0 := hu.2.2.2
    obtain ⟨SB, hSB⟩ : ∃ SB, SB = S2.put s.size (some (.cells [.int .i64 0, .str ⟨#[]⟩, .int .i64 i, .sl [] 0 false none])) := ⟨_, rfl⟩
    have hkB : Keep s SB := by rw [hSB]; exact (hk1.trans hk2).put' (Nat.le_refl _) _
    have hzB : SB.size = S2.size := by rw [hSB]; rfl
    have c1 : SB.obj s.size = some (.cells [.int .i64 0, .str ⟨#[]⟩, .int .i64 i, .sl [] 0 false none]) := by rw [hSB, put_eq]
    have c2 : SB.obj (s.size + 1) = some (.cells [.int .i64 0, .str ⟨#[]⟩, .int .i64 0, .nils]) := by rw [hSB, put_ne (by omega)]; exact a2
    have c3 : SB.obj (s.size + 1 + 1) = some (.cells [.int .i64 0, .str ⟨#[]⟩, .int .i64 0, .nils]) := by rw [hSB, put_ne (by omega)]; exact a3
    rw [← hSB]
    refine WO_callx [.ptr b 0] (by simp only [go_sem, ↓reduceIte, reduceCtorEq, Nat.reduceEqDiff, Nat.reduceAdd, Nat.reduceSub, Nat.reduceMul, Nat.reduceLeDiff, Nat.reduceLT, loadA, rdCells, storeA, setAt, binA]) ((fresh_law hX (by omega) hbp SB (hu.keep hkB)).mono ?_)
    rintro w3 S3 ⟨rfl, hun3⟩
    obtain ⟨p3, u3, hbp3, hpp3, k3⟩ := hun3
    simp only [go_sem, ↓reduceIte, reduceCtorEq, Nat.reduceEqDiff, Nat.reduceAdd, Nat.reduceSub, Nat.reduceMul, Nat.reduceLeDiff, Nat.reduceLT, loadA, rdCells, storeA, setAt, binA]
    have hl1 : (ss ++ [vtm ss.length]).length = ss.length + 1 := by simp
    refine WO_callx [.ptr b 0] (by simp only [go_sem, ↓reduceIte, reduceCtorEq, Nat.reduceEqDiff, Nat.reduceAdd, Nat.reduceSub, Nat.reduceMul, Nat.reduceLeDiff, Nat.reduceLT, loadA, rdCells, storeA, setAt, binA]) ((fresh_law hX (by rw [hl1]; omega) hbp3 S3 u3).mono ?_)
    rintro w4 S4 ⟨rfl, hun4⟩
    rw [hl1] at hun4 ⊢
    have htw : ss ++ [vtm ss.length] ++ [vtm (ss.length + 1)] = two ss := by simp [two]
    rw [htw] at hun4
    have hUM3 : UM b p SB.size s (ss ++ [vtm ss.length]) S3 := UN.um ⟨p3, u3, hbp3, hpp3, k3⟩ hkB
    have hun4' := hun4
    obtain ⟨p4, u4, hbp4, hpp4, k4⟩ := hun4
    have hz3 := k3.1
    have hz4 := k4.1
    have hUM4 : UM b p SB.size s (two ss) S4 := by
      obtain ⟨q1, g1, g2, g3, g4⟩ := hUM3
      refine ⟨p4, u4, hbp4, ?_, Nat.le_trans g4.1 k4.1, fun j hj a c => ?_⟩
      · rcases hpp4 with h | h
        · rw [h]; exact hpp3
        · exact Or.inr (by omega)
      · have h1 := hkB.2 j hj
        rw [k4.2 j (by have := hkB.1; omega) a (by have := hkB.1; rcases hpp3 with h | h <;> omega), k3.2 j (by have := hkB.1; omega) a c, h1]
    have keep4 : ∀ j, j < SB.size → j ≠ b → j ≠ p → S4.obj j = SB.obj j := fun j hj a c => by
      rw [k4.2 j (by omega) a (by rcases hpp3 with h | h <;> omega), k3.2 j hj a c]
    have d1 := (keep4 s.size (by omega) (by omega) (by omega)).trans c1
    have d2 := (keep4 (s.size + 1) (by omega) (by omega) (by omega)).trans c2
    have d3 := (keep4 (s.size + 1 + 1) (by omega) (by omega) (by omega)).trans c3
    have l4 : lenA (.msl p4 0 (two ss).length 4) = some (.int .i64 ((ss.length + 2 : Nat) : Int)) := by rw [two_len]; rfl
    have hb4 := u4.2.2.1
    have hp4 := u4.2.2.2
    have v0 : tyc (vtm ss.length) = [.int .i64 0, .str ⟨#[]⟩, .int .i64 ss.length, .sl [] 0 false none] := vtm_c _
    have v1 : tyc (vtm (ss.length + 1)) = [.int .i64 0, .str ⟨#[]⟩, .int .i64 ((ss.length + 1 : Nat) : Int), .sl [] 0 false none] := vtm_c _
    have y0 : s.size < S4.size := by omega
    have y1 : s.size + 1 < S4.size := by omega
    have y2 : s.size + 1 + 1 < S4.size := by omega
    rw [v0, v1]
    have hgt : decide (((ss.length + 2 : Nat) : Int) > 4096) = false := by simp; omega
    simp only [u4.1, l4, hgt, d1, d2, d3, ne_a hb4, ne_b hb4, ne_c hb4, ne_d hb4, ne_a hp4, ne_b hp4, ne_c hp4, ne_d hp4, ne_a y0, ne_b y0, ne_c y0, ne_d y0, ne_a y1, ne_b y1, ne_c y1, ne_d y1, ne_a y2, ne_b y2, ne_c y2, ne_d y2, Nat.le_add_left, go_sem, ↓reduceIte, reduceCtorEq, Nat.reduceEqDiff, Nat.reduceAdd, Nat.reduceSub, Nat.reduceMul, Nat.reduceLeDiff, Nat.reduceLT, loadA, rdCells, storeA, setAt, binA]
    obtain ⟨SC, hSC⟩ : ∃ SC, SC = (((S4.new (.cells [.int .i64 0, .str ⟨#[]⟩, .int .i64 0, .nils])).new (.cells [.int .i64 0, .str ⟨#[]⟩, .int .i64 0, .nils])).put S4.size (some (.cells [.int .i64 0, .str ⟨#[]⟩, .int .i64 ss.length, .sl [] 0 false none]))).put (S4.size + 1) (some (.cells [.int .i64 0, .str ⟨#[]⟩, .int .i64 ((ss.length + 1 : Nat) : Int), .sl [] 0 false none])) := ⟨_, rfl⟩
    have hkC : Keep S4 SC := by rw [hSC]; exact ((((Keep.refl S4).new' _).new' _).put' (Nat.le_refl _) _).put' (Nat.le_succ _) _
    have hzC : SC.size = S4.size + 1 + 1 := by rw [hSC]; rfl
    have uC := u4.keep hkC
    have f1 := hkC.obj y0 d1
    have f2 := hkC.obj y1 d2
    have f3 := hkC.obj y2 d3
    have g1 : SC.obj S4.size = some (.cells [.int .i64 0, .str ⟨#[]⟩, .int .i64 ss.length, .sl [] 0 false none]) := by rw [hSC, put_ne (by omega), put_eq]
    have g2 : SC.obj (S4.size + 1) = some (.cells [.int .i64 0, .str ⟨#[]⟩, .int .i64 ((ss.length + 1 : Nat) : Int), .sl [] 0 false none]) := by rw [hSC, put_eq]
    rw [← hSC]
    refine W_dreg ?_
    have hil : i < ss.length := by
      obtain ⟨u, h1, -⟩ := walk_var hw
      exact (List.getElem?_eq_some_iff.1 h1).1
    have hext := fun S => ext_law hX l (vtm ss.length) (vtm (ss.length + 1)) S
    rw [v0, v1] at hext
    simp only [wt_ops, stpT, Tr, uC.1, f1, f2, f3, g1, g2, l4, wt_nil, chk1, avr, Bool.or_true, Nat.le_add_left, go_sem, ↓reduceIte, reduceCtorEq, Nat.reduceEqDiff, Nat.reduceAdd, Nat.reduceSub, Nat.reduceMul, Nat.reduceLeDiff, Nat.reduceLT, loadA, rdCells, storeA, setAt, binA]
    refine WT_callx [.str l, .agg [.int .i64 0, .str ⟨#[]⟩, .int .i64 ss.length, .sl [] 0 false none], .agg [.int .i64 0, .str ⟨#[]⟩, .int .i64 ((ss.length + 1 : Nat) : Int), .sl [] 0 false none]] (by simp only [go_sem, ↓reduceIte, reduceCtorEq, Nat.reduceEqDiff, Nat.reduceAdd, Nat.reduceSub, Nat.reduceMul, Nat.reduceLeDiff, Nat.reduceLT, loadA, rdCells, storeA, setAt, binA]) ((hext SC).mono ?_)
    rintro w5 S5 ⟨rfl, hk5⟩
    have hz5 := hk5.1
    have uS := uC.keep hk5
    have h1 := hk5.obj (by omega) f1
    have h2 := hk5.obj (by omega) f2
    have h3 := hk5.obj (by omega) f3
    have h4 := hk5.obj (by omega) g1
    have h5 := hk5.obj (by omega) g2
    have hi2 : i < (two ss).length := by rw [two_len]; omega
    have hpi := maddr (p := p4) (n := (two ss).length) (i := i) hi2
    have hst := mstore tycP uS.2.1 hi2 (exl l ss.length)
    obtain ⟨S6, hS6⟩ : ∃ S6, S6 = S5.put p4 (some (.cells (((two ss).set i (exl l ss.length)).flatMap tyc))) := ⟨_, rfl⟩
    rw [← hS6] at hst
    have hex : Tm.mk 5 l 0 [vtm ss.length, vtm (ss.length + 1)] = exl l ss.length := rfl
    rw [hex]
    simp only [wt_ops, stpT, Tr, uC.1, uS.1, f1, f2, f3, g1, g2, h1, h2, h3, hpi, hst, wt_nil, chk1, avr, Bool.or_true, Bool.false_or, Nat.le_add_left, setAt, loadA, rdCells, go_sem, ↓reduceIte, reduceCtorEq, Nat.reduceEqDiff, Nat.reduceAdd, Nat.reduceSub, Nat.reduceMul, Nat.reduceLeDiff, Nat.reduceLT, binA]
    obtain ⟨rk', hac'⟩ := acy_grow hac (walk_var hw) l
    have hgl := grow_len ss i l
    have hp4S : s.size + 1 + 1 < p4 ∨ p4 = p := by
      rcases hpp4 with h | h
      · rcases hpp3 with h' | h'
        · exact Or.inr (h.trans h')
        · exact Or.inl (by omega)
      · exact Or.inl (by omega)
    have hp4n : ∀ j, s.size ≤ j → j ≤ s.size + 1 + 1 → j ≠ p4 := fun j hj hj2 => by rcases hp4S with h | h <;> omega
    have z6 : S6.size = S5.size := by rw [hS6]; rfl
    have k1 := (show S6.obj (s.size) = S5.obj (s.size) by rw [hS6, put_ne (hp4n _ (by omega) (by omega))]).trans h1
    have k2 := (show S6.obj (s.size + 1) = S5.obj (s.size + 1) by rw [hS6, put_ne (hp4n _ (by omega) (by omega))]).trans h2
    have k3 := (show S6.obj (s.size + 1 + 1) = S5.obj (s.size + 1 + 1) by rw [hS6, put_ne (hp4n _ (by omega) (by omega))]).trans h3
    have k4 := (show S6.obj (S4.size) = S5.obj (S4.size) by rw [hS6, put_ne (by omega)]).trans h4
    have k5 := (show S6.obj (S4.size + 1) = S5.obj (S4.size + 1) by rw [hS6, put_ne (by omega)]).trans h5
    have u6 : US S6 b p4 (grow ss i l) := ⟨by rw [hS6, put_ne hbp4, hgl, ← two_len]; exact uS.1, by rw [hS6, put_eq]; rfl, by have := uS.2.2.1; omega, by have := uS.2.2.2; omega⟩
    have l6 : lenA (.msl p4 0 (grow ss i l).length 4) = some (.int .i64 ((grow ss i l).length : Nat)) := rfl
    have hsz := sized_all hX hac' (by rw [hgl]; omega) S6 u6.rd
    refine W_dreg ?_
    simp only [wt_ops, stpT, Tr, u6.1, k1, k2, k3, k4, k5, wt_nil, chk1, avr, Bool.or_true, Bool.false_or, Nat.le_add_left, go_sem, ↓reduceIte, reduceCtorEq, Nat.reduceEqDiff, Nat.reduceAdd, Nat.reduceSub, Nat.reduceMul, Nat.reduceLeDiff, Nat.reduceLT, loadA, rdCells, storeA, setAt, binA]
    refine WT_callx [.msl p4 0 (grow ss i l).length 4] (by simp only [go_sem, ↓reduceIte, reduceCtorEq, Nat.reduceEqDiff, Nat.reduceAdd, Nat.reduceSub, Nat.reduceMul, Nat.reduceLeDiff, Nat.reduceLT, loadA, rdCells, storeA, setAt, binA]) (hsz.mono ?_)
    rintro w7 S7 ⟨rfl, hk7⟩
    have z7 := hk7.1
    have m1 := hk7.obj (by omega) k1
    have m2 := hk7.obj (by omega) k2
    have m3 := hk7.obj (by omega) k3
    have m4 := hk7.obj (by omega) k4
    have m5 := hk7.obj (by omega) k5
    have n41 : S4.size ≠ s.size + 1 := by omega
    have n42 : (S4.size = s.size + 1) = False := eq_false (by omega)
    have n43 : (S4.size + 1 = s.size + 1) = False := eq_false (by omega)
    have n44 : (s.size + 1 = S4.size) = False := eq_false (by omega)
    have n45 : (s.size + 1 = S4.size + 1) = False := eq_false (by omega)
    simp only [wt_ops, stpT, Tr, u6.1, k1, k2, k3, k4, k5, m1, m2, m3, m4, m5, n42, n43, n44, n45, wt_nil, chk1, avr, Bool.or_true, Bool.false_or, Nat.le_add_left, go_sem, ↓reduceIte, reduceCtorEq, Nat.reduceEqDiff, Nat.reduceAdd, Nat.reduceSub, Nat.reduceMul, Nat.reduceLeDiff, Nat.reduceLT, loadA, rdCells, storeA, setAt, binA]
    have hU6 : UM b p SB.size s (grow ss i l) S6 := by
      have hkBz := hkB.1
      have hp4M : p4 = p ∨ SB.size ≤ p4 := by
        rcases hpp4 with h | h
        · rw [h]; exact hpp3
        · exact Or.inr (by omega)
      refine ⟨p4, u6, hbp4, hp4M, by omega, fun j hj a c => ?_⟩
      rw [hS6, put_ne (by rcases hp4M with h | h <;> omega), hk5.2 j (by omega), hkC.2 j (by omega), keep4 j (by omega) a c, hkB.2 j hj]
    exact ⟨by simp, _, rfl, rfl, (((hU6.keep hk7).put (j := s.size + 1) (by omega) (by omega) (by omega) (by omega) _).put (j := s.size + 1 + 1) (by omega) (by omega) (by omega) (by omega) _).un (by omega)⟩
  | stop r r' hw h0 h5 =>
    intro p s hbp hu
    refine WC_fn cf98 (hX 98 (by decide)) T98 (by simp [cf98]) ?_
    have hk1 := ((((Keep.refl s).new' (.cells (tyc r))).new' (.cells [.int .i64 0, .str ⟨#[]⟩, .int .i64 0, .nils])).new' (.cells [.int .i64 0, .str ⟨#[]⟩, .int .i64 0, .nils]))
    have hww := walk_law hX hw _ (hu.keep hk1).rd
    rw [tyc_w r', tyw, tyc_w r, tyw] at hww
    rw [tyc_w r, tyw] at hk1 ⊢
    have z0 : (kof r' == 0) = false := by simpa using h0
    have z5 : (kof r' != 5) = true := by simpa using h5
    simp only [cf98, hu.1, ne_a hu.2.2.1, ne_b hu.2.2.1, ne_c hu.2.2.1, ne_d hu.2.2.1, ne_e hu.2.2.1, ne_f hu.2.2.1, Nat.le_add_left, go_sem, ↓reduceIte, reduceCtorEq, Nat.reduceEqDiff, Nat.reduceAdd, Nat.reduceSub, Nat.reduceMul, Nat.reduceLeDiff, Nat.reduceLT, loadA, rdCells, storeA, setAt, binA]
    refine WR_callx _ rfl (hww.mono ?_)
    rintro w2 S2 ⟨rfl, hk2⟩
    have a1 := hk2.2 s.size (by simp only [St.new]; omega)
    have a2 := hk2.2 (s.size + 1) (by simp only [St.new]; omega)
    have a3 := hk2.2 (s.size + 1 + 1) (by simp only [St.new]; omega)
    simp only [go_sem, ↓reduceIte, reduceCtorEq, Nat.reduceEqDiff, Nat.reduceAdd, Nat.reduceSub, Nat.reduceMul, Nat.reduceLeDiff, Nat.reduceLT, loadA, rdCells, storeA, setAt, binA] at a1 a2 a3
    simp only [a1, a2, a3, z0, z5, Nat.le_add_left, go_sem, ↓reduceIte, reduceCtorEq, Nat.reduceEqDiff, Nat.reduceAdd, Nat.reduceSub, Nat.reduceMul, Nat.reduceLeDiff, Nat.reduceLT, loadA, rdCells, storeA, setAt, binA]
    exact ⟨by simp, _, rfl, by rw [zero_c], (UN.refl hu hbp).keep ((((hk1.trans hk2).put' (Nat.le_refl _) _).put' (Nat.le_succ _) _).put' (by omega) _)⟩
  | here r m v x y hw hm =>
    intro p s hbp hu
    refine WC_fn cf98 (hX 98 (by decide)) T98 (by simp [cf98]) ?_
    have hk1 := ((((Keep.refl s).new' (.cells (tyc r))).new' (.cells [.int .i64 0, .str ⟨#[]⟩, .int .i64 0, .nils])).new' (.cells [.int .i64 0, .str ⟨#[]⟩, .int .i64 0, .nils]))
    have hww := walk_law hX hw _ (hu.keep hk1).rd
    rw [row_c, tyc_w r, tyw] at hww
    rw [tyc_w r, tyw] at hk1 ⊢
    have z1 : ((5 : Int) == 0) = false := rfl
    have z2 : ((5 : Int) != 5) = false := rfl
    have o1 : s.size + 1 ≠ s.size := by omega
    simp only [cf98, hu.1, ne_a hu.2.2.1, ne_b hu.2.2.1, ne_c hu.2.2.1, ne_d hu.2.2.1, ne_e hu.2.2.1, ne_f hu.2.2.1, Nat.le_add_left, go_sem, ↓reduceIte, reduceCtorEq, Nat.reduceEqDiff, Nat.reduceAdd, Nat.reduceSub, Nat.reduceMul, Nat.reduceLeDiff, Nat.reduceLT, loadA, rdCells, storeA, setAt, binA]
    refine WR_callx _ rfl (hww.mono ?_)
    rintro w2 S2 ⟨rfl, hk2⟩
    have a1 := hk2.2 s.size (by simp only [St.new]; omega)
    have a2 := hk2.2 (s.size + 1) (by simp only [St.new]; omega)
    have a3 := hk2.2 (s.size + 1 + 1) (by simp only [St.new]; omega)
    simp only [go_sem, ↓reduceIte, reduceCtorEq, Nat.reduceEqDiff, Nat.reduceAdd, Nat.reduceSub, Nat.reduceMul, Nat.reduceLeDiff, Nat.reduceLT, loadA, rdCells, storeA, setAt, binA] at a1 a2 a3
    simp only [a1, a2, a3, z1, z2, hm, ia0, ia1, Nat.le_add_left, go_sem, ↓reduceIte, reduceCtorEq, Nat.reduceEqDiff, Nat.reduceAdd, Nat.reduceSub, Nat.reduceMul, Nat.reduceLeDiff, Nat.reduceLT, loadA, rdCells, storeA, setAt, binA]
    refine W_dreg ?_
    simp only [wt_ops, stpT, Tr, a1, a2, a3, ia0, ia1, wt_nil, chk1, avr, Bool.or_true, Nat.le_add_left, go_sem, ↓reduceIte, reduceCtorEq, Nat.reduceEqDiff, Nat.reduceAdd, Nat.reduceSub, Nat.reduceMul, Nat.reduceLeDiff, Nat.reduceLT, loadA, rdCells, storeA, setAt, binA]
    exact ⟨by simp, _, rfl, by rw [tyc_w x, tyc_w y]; rfl, (UN.refl hu hbp).keep ((((hk1.trans hk2).put' (Nat.le_refl _) _).put' (Nat.le_succ _) _).put' (by omega) _)⟩
  | there r m v x y e t q ss' hw hm h ih =>
    intro p s hbp hu
    refine WC_fn cf98 (hX 98 (by decide)) T98 (by simp [cf98]) ?_
    have hk1 := ((((Keep.refl s).new' (.cells (tyc r))).new' (.cells [.int .i64 0, .str ⟨#[]⟩, .int .i64 0, .nils])).new' (.cells [.int .i64 0, .str ⟨#[]⟩, .int .i64 0, .nils]))
    have hww := walk_law hX hw _ (hu.keep hk1).rd
    rw [row_c, tyc_w r, tyw] at hww
    rw [tyc_w r, tyw] at hk1 ⊢
    have z1 : ((5 : Int) == 0) = false := rfl
    have z2 : ((5 : Int) != 5) = false := rfl
    have ihx := fun (S2 : St) (hk2 : Keep s S2) => ih p S2 hbp (hu.keep hk2)
    rw [tyc_w y, tyw] at ihx
    simp only [cf98, hu.1, ne_a hu.2.2.1, ne_b hu.2.2.1, ne_c hu.2.2.1, ne_d hu.2.2.1, ne_e hu.2.2.1, ne_f hu.2.2.1, Nat.le_add_left, go_sem, ↓reduceIte, reduceCtorEq, Nat.reduceEqDiff, Nat.reduceAdd, Nat.reduceSub, Nat.reduceMul, Nat.reduceLeDiff, Nat.reduceLT, loadA, rdCells, storeA, setAt, binA]
    refine WR_callx _ rfl (hww.mono ?_)
    rintro w2 S2 ⟨rfl, hk2⟩
    have a1 := hk2.2 s.size (by simp only [St.new]; omega)
    have a2 := hk2.2 (s.size + 1) (by simp only [St.new]; omega)
    have a3 := hk2.2 (s.size + 1 + 1) (by simp only [St.new]; omega)
    simp only [go_sem, ↓reduceIte, reduceCtorEq, Nat.reduceEqDiff, Nat.reduceAdd, Nat.reduceSub, Nat.reduceMul, Nat.reduceLeDiff, Nat.reduceLT, loadA, rdCells, storeA, setAt, binA] at a1 a2 a3
    simp only [a1, a2, a3, z1, z2, hm, ia0, ia1, Nat.le_add_left, go_sem, ↓reduceIte, reduceCtorEq, Nat.reduceEqDiff, Nat.reduceAdd, Nat.reduceSub, Nat.reduceMul, Nat.reduceLeDiff, Nat.reduceLT, loadA, rdCells, storeA, setAt, binA]
    refine WO_callx _ rfl ((ihx _ ((hk1.trans hk2).put' (Nat.le_refl _) _)).mono ?_)
    rintro w3 S3 ⟨rfl, hun⟩
    have hz3 := hun.size
    have hz2 := hk2.1
    simp only [St.new, St.put] at hz3 hz2
    have hb3 := hu.2.2.1
    have hp3 := hu.2.2.2
    have b1 := hun.obj (j := s.size) (by simp only [St.put]; omega) (by omega) (by omega) rfl
    have b2 := hun.obj (j := s.size + 1) (by simp only [St.put]; omega) (by omega) (by omega) rfl
    have b3 := hun.obj (j := s.size + 1 + 1) (by simp only [St.put]; omega) (by omega) (by omega) rfl
    simp only [a1, a2, a3, go_sem, ↓reduceIte, reduceCtorEq, Nat.reduceEqDiff, Nat.reduceAdd, Nat.reduceSub, Nat.reduceMul, Nat.reduceLeDiff, Nat.reduceLT, loadA, rdCells, storeA, setAt, binA] at b1 b2 b3
    have hUA : UN b p s ss' S3 := hun.from ((hk1.trans hk2).put' (Nat.le_refl _) _)
    have hq3 : s.size < S3.size := by omega
    rw [tyc_w t, tyc_w q, tyw, tyw]
    have o1 : s.size + 1 < S3.size := by omega
    have o2 : s.size + 1 + 1 < S3.size := by omega
    simp only [b1, b2, b3, ia0, ia1, Nat.le_add_left, go_sem, ↓reduceIte, reduceCtorEq, Nat.reduceEqDiff, Nat.reduceAdd, Nat.reduceSub, Nat.reduceMul, Nat.reduceLeDiff, Nat.reduceLT, loadA, rdCells, storeA, setAt, binA]
    refine W_dreg ?_
    simp only [wt_ops, stpT, Tr, b1, b2, b3, ia0, ia1, wt_nil, chk1, avr, ne_a hq3, ne_b hq3, ne_c hq3, ne_d hq3, ne_a o1, ne_b o1, ne_c o1, ne_d o1, ne_a o2, ne_b o2, ne_c o2, ne_d o2, Bool.or_true, Nat.le_add_left, go_sem, ↓reduceIte, reduceCtorEq, Nat.reduceEqDiff, Nat.reduceAdd, Nat.reduceSub, Nat.reduceMul, Nat.reduceLeDiff, Nat.reduceLT, loadA, rdCells, storeA, setAt, binA]
    have hext := fun S => ext_law hX m x q S
    rw [row_c, tyc_w x, tyc_w q, tyw, tyw] at hext
    refine WT_callx _ rfl ((hext _).mono ?_)
    rintro w4 S4 ⟨rfl, hk4⟩
    have hz4 := hk4.1
    simp only [St.new, St.put] at hz4
    have c1 := hk4.2 s.size (by simp only [St.put, St.new]; omega)
    have c2 := hk4.2 (s.size + 1) (by simp only [St.put, St.new]; omega)
    have c3 := hk4.2 (s.size + 1 + 1) (by simp only [St.put, St.new]; omega)
    have c4 := hk4.2 S3.size (by simp only [St.put, St.new]; omega)
    simp only [b1, b2, b3, ne_a hq3, ne_b hq3, ne_c hq3, ne_d hq3, ne_a o1, ne_b o1, ne_c o1, ne_d o1, ne_a o2, ne_b o2, ne_c o2, ne_d o2, go_sem, ↓reduceIte, reduceCtorEq, Nat.reduceEqDiff, Nat.reduceAdd, Nat.reduceSub, Nat.reduceMul, Nat.reduceLeDiff, Nat.reduceLT, loadA, rdCells, storeA, setAt, binA] at c1 c2 c3 c4
    simp only [wt_ops, stpT, Tr, b1, b2, b3, c1, c2, c3, c4, ia0, ia1, wt_nil, chk1, avr, ne_a hq3, ne_b hq3, ne_c hq3, ne_d hq3, ne_a o1, ne_b o1, ne_c o1, ne_d o1, ne_a o2, ne_b o2, ne_c o2, ne_d o2, Bool.or_true, Nat.le_add_left, go_sem, ↓reduceIte, reduceCtorEq, Nat.reduceEqDiff, Nat.reduceAdd, Nat.reduceSub, Nat.reduceMul, Nat.reduceLeDiff, Nat.reduceLT, loadA, rdCells, storeA, setAt, binA]
    have hUM := ((hun.um ((hk1.trans hk2).put' (Nat.le_refl _) (some (.cells [.int .i64 5, .str m, .int .i64 v, .sl [.int .i64 (kof x), .str (nof x), .int .i64 (vof x), .sl (tycs (lof x)) (lof x).length false none, .int .i64 (kof y), .str (nof y), .int .i64 (vof y), .sl (tycs (lof y)) (lof y).length false none] 2 false none])))).keep (((((Keep.refl S3).new' _).new' _).put' (Nat.le_refl _) _).put' (Nat.le_succ _) _ |>.trans hk4))
    refine ⟨by simp, _, rfl, by rw [row_c], ((hUM.put (j := s.size + 1) (by omega) (by simp only [St.put]; omega) (by omega) (by omega) _).put (j := s.size + 1 + 1) (by omega) (by simp only [St.put]; omega) (by omega) (by omega) _).un (by simp only [St.put]; omega)⟩
end Go.Am.U1
