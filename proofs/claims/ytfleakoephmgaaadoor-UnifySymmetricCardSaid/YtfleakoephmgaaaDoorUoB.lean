/- Norm's text up to its range over a function, run by the machine. Conditions: none. -/
import Derived.Test.YtfleakoephmgaaaDoorAmTo
import Derived.Test.YtfleakoephmgaaaDoorUnL
import Derived.Test.YtfleakoephmgaaaDoorAmSy
import Derived.Test.YtfleakoephmgaaaDoorAmWa
import Derived.Test.YtfleakoephmgaaaDoorVbC
set_option linter.unusedSimpArgs false
set_option linter.unusedVariables false
namespace Go.Am.U2
open Go.Am.Un Go.So
open Go.Am.U1 (tycP isl_tycs drop_at tyw tyc_w NoX vtm vtm_c len_tszs tsz_pos ne_a ne_b ne_c ne_d ne_e ne_f avr)
set_option maxRecDepth 100000
set_option linter.unusedSimpArgs false
attribute [local go_sem] wseq COp.isStore wreg wdreg wret wskip wexit wblock wcnd cnd_t cnd_f then_n then_x then_r catch_n rnd_n rnd_x rnd_r catch_x catch_r wo_nil wo_grd grdO_t grdO_f wo_ops stpO wr_nil wr_alloc wr_guards grdR_t grdR_f wr_ops stpR evAllocs evOp env0_app eput_some eput_none eset_app Opd.ev wantedA faddrA snew_obj snew_size sput_obj sput_size av_cells av_one av_strip av_still unA eqbA fillA fldA lensA mmA mm2 mmFold List.getD_cons_zero List.getD_cons_succ List.getD_nil List.length_cons List.length_nil List.drop_zero List.drop_succ_cons List.take_succ_cons List.take_zero List.map_cons List.map_nil List.set_cons_zero List.set_cons_succ List.all_cons List.all_nil List.getElem?_cons_zero List.getElem?_cons_succ List.nil_append List.cons_append Nat.zero_add Nat.add_zero beq_self_eq_true bt bf Bool.not_true Bool.not_false Bool.and_true Bool.true_and Bool.and_false Bool.false_and and_self and_true true_and n0 n1 n2 n3 n4 m0 m1 m2 m3 c1 retA resAs resA undefA Option.map_some Option.map_none

def big : Nat := 1099511627776

/-- A label of a row that is sorted. -/
def lc (x : Lb) : List AV := tyc (.mk 0 x.1 0 [x.2])
theorem lcP : Plain lc 4 := ⟨fun _ => tycP.len _, fun _ => tycP.one _, fun _ => tycP.still _, fun _ => tycP.strip _⟩
theorem lc_c (x : Lb) : lc x = [.int .i64 0, .str x.1, .int .i64 0, .sl (tyc x.2) 1 false none] := by
  rw [lc, tyc, tycs, tycs, List.append_nil]; rfl

/-! ### What is told of Norm -/
mutual
theorem tyc_inj : ∀ a b : Tm, tyc a = tyc b → a = b
  | .mk k n v l, .mk k' n' v' l' => fun h => by
    rw [tyc, tyc] at h
    simp only [List.cons.injEq, AV.int.injEq, AV.str.injEq, AV.sl.injEq, and_true, true_and] at h
    obtain ⟨h1, h2, h3, h4, h5⟩ := h
    rw [h1, h2, h3, tycs_inj l l' h4 h5]
theorem tycs_inj : ∀ l l' : List Tm, tycs l = tycs l' → l.length = l'.length → l = l'
  | [], [], _, _ => rfl
  | [], _ :: _, _, h => by simp at h
  | _ :: _, [], _, h => by simp at h
  | a :: l, b :: l', h, hl => by
    rw [tycs, tycs] at h
    obtain ⟨h1, h2⟩ := List.append_inj h (by rw [tyc_len, tyc_len])
    rw [tyc_inj a b h1, tycs_inj l l' h2 (by simpa using hl)]
end
theorem tyw_inj {t t' : Tm} {w w' : AV} (h : tyw t w = tyw t' w') (h1 : ISl tyc w (lof t)) (h2 : ISl tyc w' (lof t')) : t = t' := by
  obtain ⟨k, n, v, l⟩ := t
  obtain ⟨k', n', v', l'⟩ := t'
  simp only [tyw, U1.tyw, kof, nof, vof, lof, List.cons.injEq, AV.int.injEq, AV.str.injEq, and_true, true_and] at h h1 h2
  obtain ⟨e1, e2, e3, rfl⟩ := h
  have : l = l' := by
    rcases h1 with ⟨rfl, rfl⟩ | ⟨f, tk, rfl⟩
    · rcases h2 with ⟨-, rfl⟩ | ⟨f, tk, h⟩
      · rfl
      · cases h
    · rcases h2 with ⟨h, -⟩ | ⟨f, tk, h⟩
      · cases h
      · simp only [AV.sl.injEq] at h
        exact tycs_inj l l' (by rw [tycs_flat, tycs_flat]; exact h.1) h.2.1
  rw [e1, e2, e3, this]

open Classical in
/-- Norm, at types of fewer than n nodes. -/
noncomputable def normX (n : Nat) (args : List AV) (s : St) : Option (AV × St) :=
  if h : ∃ t, (∃ w, args = [.agg (tyw t w)] ∧ ISl tyc w (lof t)) ∧ Val t ∧ tsz t < n then some (.agg (tyc (nf h.choose)), s) else none
theorem normX_of {n : Nat} {t : Tm} {w : AV} (h1 : ISl tyc w (lof t)) (h2 : Val t) (h3 : tsz t < n) (s : St) : normX n [.agg (tyw t w)] s = some (.agg (tyc (nf t)), s) := by
  have h : ∃ t', (∃ w', [AV.agg (tyw t w)] = [.agg (tyw t' w')] ∧ ISl tyc w' (lof t')) ∧ Val t' ∧ tsz t' < n := ⟨t, ⟨w, rfl, h1⟩, h2, h3⟩
  unfold normX
  rw [dif_pos h]
  obtain ⟨⟨w', e, h4⟩, -, -⟩ := h.choose_spec
  have := tyw_inj (AV.agg.inj (List.cons.inj e).1) h1 h4
  rw [← this]
theorem normX_inv {n : Nat} {args : List AV} {s : St} {v : AV} {s' : St} (h : normX n args s = some (v, s')) : ∃ t w, args = [.agg (tyw t w)] ∧ ISl tyc w (lof t) ∧ Val t ∧ tsz t < n ∧ v = .agg (tyc (nf t)) ∧ s' = s := by
  unfold normX at h
  split at h
  · rename_i hh
    cases h
    obtain ⟨⟨w', e, h4⟩, h5, h6⟩ := hh.choose_spec
    exact ⟨_, w', e, h4, h5, h6, rfl, rfl⟩
  · cases h
noncomputable def Xn (n : Nat) : Ext := fun f => if f = 24 then some (normX n) else none
theorem Xn_none (n f : Nat) (h : f ≠ 24) : Xn n f = none := if_neg h
theorem norm_wc {n : Nat} {t : Tm} {w : AV} (h1 : ISl tyc w (lof t)) (h2 : Val t) (h3 : tsz t < n) (s : St) : WC T (Xn n) 24 [.agg (tyw t w)] s (fun v s' => v = .agg (tyc (nf t)) ∧ s' = s) :=
  WC_ext (h := normX n) (if_pos rfl) (normX_of h1 h2 h3 s) ⟨rfl, rfl⟩

theorem W_loop_eq {X : Ext} {b L : CC} (hL : CC.loop b = L) {e : Env} {s : St} {Q : CX → Env → St → Prop} (h : W T X b e s (Then T X L Q)) : W T X L e s Q := by
  subst hL; exact W_loop h

/-! ### The rows' loop -/
theorem ia0w {w : AV} {a r : Tm} (h : ISl tyc w [a, r]) : iaddrA 4 w (.int .i64 0) = some (.eptr (tyw a (.sl (tycs (lof a)) (lof a).length false none) ++ tyw r (.sl (tycs (lof r)) (lof r).length false none))) := by
  have := h.at tyc_len (i := 0) (x := a) rfl
  rw [tyc_w] at this
  simpa [tyc_w r] using this
theorem ia1w {w : AV} {a r : Tm} (h : ISl tyc w [a, r]) : iaddrA 4 w (.int .i64 1) = some (.eptr (tyw r (.sl (tycs (lof r)) (lof r).length false none))) := by
  have := h.at tyc_len (i := 1) (x := r) rfl
  simpa [tyc_w r] using this

/-- The labels so far, in an array of their own. -/
def Labs (N : Nat) (S : St) (v : AV) (l : List Lb) : Prop := MSl lc 4 S v l ∧ freshO N v

set_option maxHeartbeats 4000000 in
theorem lab_loop {n b N : Nat} : ∀ (t : Tm) (L : List Lb) (z : Tm), Spn t L z → Val t → tsz t < n + 1 → n ≤ big → ∀ (e : Env) (S : St) (cur : List Lb) (lv w : AV), cur.length + tsz t ≤ big → e 1 = .ptr b 0 → S.obj b = some (.cells (tyw t w)) → b < N → N ≤ S.size → ISl tyc w (lof t) → e 3 = lv → Labs N S lv cur →
    W T (Xn n) (.loop cf24_l1) e S (fun x e' S' => x = .exit 0 ∧ e' 1 = .ptr b 0 ∧ e' 2 = e 2 ∧ (∃ lv', e' 3 = lv' ∧ Labs N S' lv' (cur ++ L.map nfl)) ∧ (∃ w', S'.obj b = some (.cells (tyw z w')) ∧ ISl tyc w' (lof z)) ∧ S.size ≤ S'.size ∧ ∀ j, j < N → j ≠ b → S'.obj j = S.obj j) := by
  intro t L z h
  induction h with
  | nil t h =>
    intro hv ht hn e S cur lv w hc e1 ho hb hN hw e3 hl
    have hk : (kof t == 5) = false := by simpa using h
    refine W_loop ?_
    simp only [tyw, U1.tyw] at ho
    simp only [cf24_l1, e1, ho, hk, Nat.le_add_left, go_sem, ↓reduceIte, reduceCtorEq, Nat.reduceEqDiff, Nat.reduceAdd, Nat.reduceSub, Nat.reduceMul, Nat.reduceLeDiff, Nat.reduceLT, loadA, rdCells, storeA, setAt, binA]
    exact ⟨⟨lv, e3, by simpa using hl⟩, ⟨w, by simp only [tyw, U1.tyw], hw⟩, Nat.le_refl _, fun _ _ _ => trivial⟩
  | cons m v a r L z h ih =>
    intro hv ht hn e S cur lv w hc e1 ho hb hN hw e3 hl
    have hs : tsz (.mk 5 m v [a, r]) = 1 + (tsz a + (tsz r + 0)) := by rw [tsz, tszs, tszs, tszs]
    have hva : Val a ∧ Val r := by
      rw [Val] at hv
      exact ⟨vals_at hv.2.2.2.2.2.2.2 (i := 0) rfl, vals_at hv.2.2.2.2.2.2.2 (i := 1) rfl⟩
    have pa := tsz_pos a
    have pr := tsz_pos r
    generalize hL : CC.loop cf24_l1 = LL at ih ⊢
    refine W_loop_eq hL ?_
    have i0 := ia0w hw
    have i1 := ia1w hw
    have hnc := norm_wc (n := n) (isl_tycs (lof a)) hva.1 (by omega) S
    simp only [U1.tyw, U1.kof_mk, U1.nof_mk, U1.vof_mk, U1.lof_mk, List.cons_append, List.nil_append] at ho i0 i1 hnc
    obtain ⟨lv1, S1, hap, hm1, hf1, hz1, -, -, hk1⟩ := hl.1.app1 lcP (m, nf a) (bytes := 56) (by unfold big at *; omega)
    rw [lc_c] at hap
    have hbn : notO lv b := hl.2.ne hb
    have hob1 : S1.obj b = some (.cells [.int .i64 5, .str m, .int .i64 v, w]) := by rw [hk1 b (by omega) hbn]; exact ho
    simp only [cf24_l1, e1, e3, ho, i0, Nat.le_add_left, go_sem, ↓reduceIte, reduceCtorEq, Nat.reduceEqDiff, Nat.reduceAdd, Nat.reduceSub, Nat.reduceMul, Nat.reduceLeDiff, Nat.reduceLT, loadA, rdCells, storeA, setAt, binA]
    refine W_dreg ?_
    simp only [wt_ops, stpT, Tr, e1, e3, ho, i0, wt_nil, chk1, avr, Bool.or_true, Nat.le_add_left, go_sem, ↓reduceIte, reduceCtorEq, Nat.reduceEqDiff, Nat.reduceAdd, Nat.reduceSub, Nat.reduceMul, Nat.reduceLeDiff, Nat.reduceLT, loadA, rdCells, storeA, setAt, binA]
    refine WT_callx _ rfl (hnc.mono ?_)
    rintro w2 S2 ⟨rfl, rfl⟩
    rw [tyc_w (nf a), U1.tyw] at hap ⊢
    simp only [wt_ops, stpT, Tr, e1, e3, ho, i0, hap, wt_nil, chk1, avr, Bool.or_true, Nat.le_add_left, go_sem, ↓reduceIte, reduceCtorEq, Nat.reduceEqDiff, Nat.reduceAdd, Nat.reduceSub, Nat.reduceMul, Nat.reduceLeDiff, Nat.reduceLT, loadA, rdCells, storeA, setAt, binA]
    simp only [e1, hob1, i1, Nat.le_add_left, go_sem, ↓reduceIte, reduceCtorEq, Nat.reduceEqDiff, Nat.reduceAdd, Nat.reduceSub, Nat.reduceMul, Nat.reduceLeDiff, Nat.reduceLT, loadA, rdCells, storeA, setAt, binA]
    subst hL
    refine (ih hva.2 (by omega) hn _ _ (cur ++ [(m, nf a)]) lv1 (.sl (tycs (lof r)) (lof r).length false none) ?_ ?_ ?_ hb ?_ (isl_tycs (lof r)) ?_ ⟨hm1.of (fun p hp hl2 => ?_) ?_, ?_⟩).mono ?_
    · rw [List.length_append, List.length_cons, List.length_nil]; omega
    · simp only [e1, go_sem, ↓reduceIte, reduceCtorEq, Nat.reduceEqDiff, Nat.reduceAdd, Nat.reduceSub, Nat.reduceMul, Nat.reduceLeDiff, Nat.reduceLT, loadA, rdCells, storeA, setAt, binA]
    · rw [put_eq, U1.tyw]
    · simp only [St.put]; omega
    · simp only [go_sem, ↓reduceIte, reduceCtorEq, Nat.reduceEqDiff, Nat.reduceAdd, Nat.reduceSub, Nat.reduceMul, Nat.reduceLeDiff, Nat.reduceLT, loadA, rdCells, storeA, setAt, binA]
    · have := hf1 _ _ _ _ hp; exact put_ne (by omega)
    · exact Nat.le_refl _
    · exact hf1.le (by omega)
    · rintro x e' S' ⟨rfl, g1, g2, ⟨lv', g3, g4⟩, g5, g6, g7⟩
      refine ⟨rfl, g1, ?_, ⟨lv', g3, ?_⟩, g5, ?_, fun j hj hjb => ?_⟩
      · rw [g2]; simp only [go_sem, ↓reduceIte, reduceCtorEq, Nat.reduceEqDiff, Nat.reduceAdd, Nat.reduceSub, Nat.reduceMul, Nat.reduceLeDiff, Nat.reduceLT, loadA, rdCells, storeA, setAt, binA]
      · simpa [nfl] using g4
      · simp only [St.put] at g6; omega
      · rw [g7 j hj hjb, put_ne hjb, hk1 j (by omega) (hl.2.ne hj)]

/-! ### The loop over the arguments -/
set_option maxHeartbeats 4000000 in
theorem arg_loop {n q : Nat} {k v : Int} {m : ByteArray} {l : List Tm} {w : AV} (hw : ISl tyc w l) (hv : ∀ a, a ∈ l → Val a ∧ tsz a < n) (hl : l.length ≤ big) (e : Env) (S0 S : St) (e4 : e 4 = .ptr q 0) (e31 : e 31 = w) (e32 : e 32 = .int .i64 l.length) (e33 : e 33 = .int .i64 0)
    (ho : S.obj q = some (.cells [.int .i64 k, .str m, .int .i64 v, .nils])) (hq : q < S.size) :
    W T (Xn n) (.loop cf24_l0) e S (fun x e' S' => x = .exit 2 ∧ e' 1 = e 1 ∧ e' 2 = e 2 ∧ e' 3 = e 3 ∧ e' 4 = .ptr q 0 ∧ (∃ ov, S'.obj q = some (.cells [.int .i64 k, .str m, .int .i64 v, ov]) ∧ MSl tyc 4 S' ov (l.map nf) ∧ freshO S.size ov) ∧ KeepBut q S S') := by
  refine W_loop_nat (fun kk e' S' => ∃ (i : Nat) (ov : AV), i + kk = l.length ∧ e' 1 = e 1 ∧ e' 2 = e 2 ∧ e' 3 = e 3 ∧ e' 4 = .ptr q 0 ∧ e' 31 = w ∧ e' 32 = .int .i64 l.length ∧ e' 33 = .int .i64 i ∧ S'.obj q = some (.cells [.int .i64 k, .str m, .int .i64 v, ov]) ∧ MSl tyc 4 S' ov ((l.take i).map nf) ∧ freshO S.size ov ∧ KeepBut q S S') ?_ l.length _ _
    ⟨0, .nils, by simp, rfl, rfl, rfl, e4, e31, e32, e33, ho, Or.inl ⟨rfl, by simp⟩, freshO_nils _, KeepBut.refl _ _⟩
  clear e4 e31 e32 e33 ho
  rintro kk e' S' ⟨i, ov, hik, e1, e2, e3, e4, e31, e32, e33, ho, hm, hf, hk⟩
  have hq' : q < S'.size := Nat.lt_of_lt_of_le hq hk.1
  by_cases hi : i < l.length
  · obtain ⟨a, ha⟩ : ∃ a, l[i]? = some a := ⟨_, List.getElem?_eq_getElem hi⟩
    have hd : decide ((i : Int) < (l.length : Int)) = true := by simp; omega
    have hat := hw.at tyc_len ha
    obtain ⟨va, sa⟩ := hv a (List.mem_of_getElem? ha)
    rw [tyc_w, U1.tyw] at hat
    have hnc := fun S1 => norm_wc (n := n) (isl_tycs (lof a)) va sa S1
    simp only [U1.tyw] at hnc
    simp only [cf24_l0, e1, e2, e3, e4, e31, e32, e33, hd, hat, Nat.le_add_left, go_sem, ↓reduceIte, reduceCtorEq, Nat.reduceEqDiff, Nat.reduceAdd, Nat.reduceSub, Nat.reduceMul, Nat.reduceLeDiff, Nat.reduceLT, loadA, rdCells, storeA, setAt, binA]
    refine W_dreg ?_
    simp only [wt_ops, stpT, Tr, e1, e2, e3, e4, e31, e32, e33, ho, ne_a hq', ne_b hq', ne_c hq', ne_d hq', wt_nil, chk1, avr, Bool.or_true, Nat.le_add_left, go_sem, ↓reduceIte, reduceCtorEq, Nat.reduceEqDiff, Nat.reduceAdd, Nat.reduceSub, Nat.reduceMul, Nat.reduceLeDiff, Nat.reduceLT, loadA, rdCells, storeA, setAt, binA]
    refine WT_callx _ rfl ((hnc _).mono ?_)
    rintro w2 S2 ⟨rfl, rfl⟩
    obtain ⟨SA, hSA⟩ : ∃ SA, SA = (S'.new (.cells [.int .i64 0, .str ⟨#[]⟩, .int .i64 0, .nils])).put S'.size (some (.cells [.int .i64 (kof a), .str (nof a), .int .i64 (vof a), .sl (tycs (lof a)) (lof a).length false none])) := ⟨_, rfl⟩
    have hzA : SA.size = S'.size + 1 := by rw [hSA]; rfl
    have hkA : ∀ j, j < S'.size → SA.obj j = S'.obj j := fun j hj => by rw [hSA, put_ne (by omega), new_ne (by omega)]
    have hoA : SA.obj q = some (.cells [.int .i64 k, .str m, .int .i64 v, ov]) := by rw [hkA q hq']; exact ho
    have hmA : MSl tyc 4 SA ov ((l.take i).map nf) := hm.of (fun p _ hp => hkA p hp) (by omega)
    obtain ⟨nv, SB, hap, hmB, hfB, hzB, -, -, hkB⟩ := hmA.app1 tycP (vtm 0) (bytes := 56) (by rw [List.length_map, List.length_take]; unfold big at hl; omega)
    have hln := hmA.len
    have hll : ((l.take i).map nf).length = i := by rw [List.length_map, List.length_take]; omega
    rw [hll] at hln
    rcases hmB with ⟨-, h⟩ | ⟨-, h⟩ | ⟨p', rfl, hoB, hpB⟩
    · simp at h
    · simp at h
    have hp' := hfB _ _ _ _ rfl
    have hlB : ((l.take i).map nf ++ [vtm 0]).length = i + 1 := by rw [List.length_append, hll]; rfl
    rw [hlB] at hap
    have hma := maddr (p := p') (n := i + 1) (i := i) (by omega)
    have hst := mstore tycP hoB (i := i) (by omega) (nf a)
    have hset : ((l.take i).map nf ++ [vtm 0]).set i (nf a) = (l.take (i + 1)).map nf := by
      rw [List.take_add_one, ha, List.set_append_right _ _ (by omega), hll]
      simp
    rw [hset] at hst
    have hqp : (q != p') = true := by simp; omega
    have hqp2 : (q = p') = False := eq_false (by omega)
    have hqp3 : (p' = q) = False := eq_false (by omega)
    have hoq : SB.obj q = some (.cells [.int .i64 k, .str m, .int .i64 v, ov]) := by rw [hkB q (by omega) (hf.ne hq)]; exact hoA
    have vt : tyc (vtm 0) = [.int .i64 0, .str ⟨#[]⟩, .int .i64 0, .sl [] 0 false none] := by rw [vtm_c]; rfl
    rw [vt] at hap
    have hwr := U1.wrapn (n := i) (by unfold big at hl; omega)
    obtain ⟨SC, hSC⟩ : ∃ SC, SC = SB.put p' (some (.cells (((l.take (i + 1)).map nf).flatMap tyc))) := ⟨_, rfl⟩
    have hoC : SC.obj q = some (.cells [.int .i64 k, .str m, .int .i64 v, ov]) := by rw [hSC, put_ne (by omega)]; exact hoq
    have hst2 : storeA SC 1 (.ptr q 3) (.msl p' 0 (i + 1) 4) = some (SC.put q (some (.cells [.int .i64 k, .str m, .int .i64 v, .msl p' 0 (i + 1) 4]))) := by
      simp [storeA, hoC, AV.cells, AV.one, setAt]
    have hl1 : loadA S' false 1 (.ptr q 3) = some ov := by simp [loadA, rdCells, ho]
    have hl2 : loadA SA false 1 (.ptr q 3) = some ov := by simp [loadA, rdCells, hoA]
    rw [← hSC] at hst
    rw [← hSA]
    simp only [wt_ops, stpT, Tr, e1, e2, e3, e4, e31, e32, e33, hln, hap, hma, hst, hst2, hl1, hl2, hoA, hqp, hqp2, hqp3, wt_nil, chk1, apartS, avr, Bool.or_true, Bool.false_or, hwr, Nat.le_add_left, setAt, go_sem, ↓reduceIte, reduceCtorEq, Nat.reduceEqDiff, Nat.reduceAdd, Nat.reduceSub, Nat.reduceMul, Nat.reduceLeDiff, Nat.reduceLT, binA]
    refine ⟨kk - 1, by omega, i + 1, .msl p' 0 (i + 1) 4, by omega, rfl, rfl, ?_, ?_, ?_⟩
    · refine Or.inr (Or.inr ⟨p', by rw [List.length_map, List.length_take, Nat.min_eq_left (by omega)], ?_, ?_⟩)
      · rw [put_ne (by omega), hSC, put_eq]
      · rw [hSC]; exact hpB
    · intro p o l z he; cases he; have := hk.1; omega
    · refine ⟨by rw [hSC]; simp only [St.put]; have := hk.1; omega, fun j hj hjq => ?_⟩
      rw [put_ne hjq, hSC, put_ne (by have := hk.1; omega), hkB j (by have := hk.1; omega) (hf.ne hj), hkA j (by have := hk.1; omega)]
      exact hk.2 j hj hjq
  · have hd : decide ((i : Int) < (l.length : Int)) = false := by simp; omega
    simp only [cf24_l0, e1, e2, e3, e4, e31, e32, e33, hd, go_sem, ↓reduceIte, reduceCtorEq, Nat.reduceEqDiff, Nat.reduceAdd, Nat.reduceSub, Nat.reduceMul, Nat.reduceLeDiff, Nat.reduceLT, loadA, rdCells, storeA, setAt, binA]
    exact ⟨⟨ov, ho, by simpa [List.take_of_length_le (show l.length ≤ i by omega)] using hm, hf⟩, hk⟩
end Go.Am.U2

/- Apply at any substitution without cycles. Conditions: none. -/
namespace Go.Am.U2
open Go.Am.Un Go.So
open Go.Am.U1 (tycP isl_tycs drop_at tyw tyc_w NoX vtm vtm_c len_tszs tsz_pos ne_a ne_b ne_c ne_d ne_e ne_f avr WalkTo Ap Aps Acy Wt walk_law wt_lof wt_var walk_wt wt_arg ap_con)
set_option maxRecDepth 100000
set_option linter.unusedSimpArgs false
attribute [local go_sem] wseq COp.isStore wreg wdreg wret wskip wexit wblock wcnd cnd_t cnd_f then_n then_x then_r catch_n rnd_n rnd_x rnd_r catch_x catch_r wo_nil wo_grd grdO_t grdO_f wo_ops stpO wr_nil wr_alloc wr_guards grdR_t grdR_f wr_ops stpR evAllocs evOp env0_app eput_some eput_none eset_app Opd.ev wantedA faddrA snew_obj snew_size sput_obj sput_size av_cells av_one av_strip av_still unA eqbA fillA fldA lensA mmA mm2 mmFold List.getD_cons_zero List.getD_cons_succ List.getD_nil List.length_cons List.length_nil List.drop_zero List.drop_succ_cons List.take_succ_cons List.take_zero List.map_cons List.map_nil List.set_cons_zero List.set_cons_succ List.all_cons List.all_nil List.getElem?_cons_zero List.getElem?_cons_succ List.nil_append List.cons_append Nat.zero_add Nat.add_zero beq_self_eq_true bt bf Bool.not_true Bool.not_false Bool.and_true Bool.true_and Bool.and_false Bool.false_and and_self and_true true_and n0 n1 n2 n3 n4 m0 m1 m2 m3 c1 retA resAs resA undefA Option.map_some Option.map_none
variable {X : Ext}

theorem aps_get {ss : List Tm} {l L : List Tm} (h : Aps ss l L) {i : Nat} {a : Tm} (hi : l[i]? = some a) : ∃ A, L[i]? = some A ∧ Ap ss a A := U1.aps_at h hi

set_option maxHeartbeats 8000000 in
/-- Where a walk ends at a type with arguments. -/
theorem apply_step (hX : NoX X) {sv : AV} {t : Tm} {k v : Int} {m : ByteArray} {l L : List Tm} (hwl : ∀ S, WC T X 57 [sv, .agg (tyc t)] S (fun r S' => r = .agg (tyc (.mk k m v l)) ∧ Keep S S')) (hll : l.length ≤ 1099511627776) (hLl : L.length = l.length)
    (hc : ∀ (i : Nat) a B, l[i]? = some a → L[i]? = some B → ∀ S, WC T X 28 [sv, .agg (tyc a)] S (fun r S' => r = .agg (tyc B) ∧ Keep S S')) (s : St) : WC T X 28 [sv, .agg (tyc t)] s (fun r s' => r = .agg (tyc (.mk k m v L)) ∧ Keep s s') := by
  refine WC_fn cf28 (hX 28 (by decide)) T28 (by simp [cf28]) ?_
  rw [tyc_w t, tyc_w (.mk k m v l), tyw, tyw] at hwl
  rw [tyc_w t, tyw]
  simp only [cf28, Nat.le_add_left, go_sem, ↓reduceIte, reduceCtorEq, Nat.reduceEqDiff, Nat.reduceAdd, Nat.reduceSub, Nat.reduceMul, Nat.reduceLeDiff, Nat.reduceLT, loadA, rdCells, storeA, setAt, binA]
  refine WO_callx _ rfl ((hwl _).mono ?_)
  rintro w S2 ⟨rfl, hk2⟩
  have hz2 := hk2.1
  simp only [St.new] at hz2
  have o3 := hk2.2 s.size (by simp only [St.new]; omega)
  have o4 := hk2.2 (s.size + 1) (by simp only [St.new]; omega)
  simp only [go_sem, ↓reduceIte, reduceCtorEq, Nat.reduceEqDiff, Nat.reduceAdd, Nat.reduceSub, Nat.reduceMul, Nat.reduceLeDiff, Nat.reduceLT, loadA, rdCells, storeA, setAt, binA] at o3 o4
  have hk02 : Keep s S2 := (((Keep.refl s).new' _).new' _).trans hk2
  have q3 : s.size < S2.size := by omega
  have q4 : s.size + 1 < S2.size := by omega
  have hlen := (isl_tycs l).len
  simp only [U1.kof_mk, U1.nof_mk, U1.vof_mk, U1.lof_mk] at hwl o3 ⊢
  cases hl : ((l.length : Int) == 0)
  · have hlp : 0 < l.length := by
      have : (l.length : Int) ≠ 0 := by simpa using hl
      omega
    simp only [o3, o4, hl, hlen, ne_a q3, ne_b q3, ne_c q3, ne_d q3, ne_a q4, ne_b q4, ne_c q4, ne_d q4, Nat.le_add_left, setAt, go_sem, ↓reduceIte, reduceCtorEq, Nat.reduceEqDiff, Nat.reduceAdd, Nat.reduceSub, Nat.reduceMul, Nat.reduceLeDiff, Nat.reduceLT, loadA, rdCells, storeA, setAt, binA]
    refine W_loop_nat (fun kk e S => ∃ (i : Nat) (ov : AV) (tok : Option Nat), i + kk = l.length ∧ e 0 = sv ∧ e 4 = .ptr (s.size + 1) 0 ∧ e 5 = .ptr S2.size 0 ∧ e 19 = .sl (tycs l) l.length false none ∧ e 20 = .int .i64 l.length ∧ e 21 = .int .i64 i ∧
      S.obj S2.size = some (.cells [.int .i64 k, .str m, .int .i64 v, ov]) ∧ S2.size < S.size ∧ S.obj (s.size + 1) = some (.cells [.int .i64 0, .str ⟨#[]⟩, .int .i64 0, .nils]) ∧ Grw tyc S2.size S ov (L.take i) tok ∧ Keep s S) ?_ l.length _ _
      ⟨0, .nils, none, by simp, ?_, ?_, ?_, ?_, ?_, ?_, ?_, ?_, ?_, Or.inl ⟨rfl, by simp, rfl⟩, ?_⟩
    · clear hk2 hk02 o3 o4 hwl
      rintro kk e S ⟨i, ov, tok, hik, e0, e4, e5, e19, e20, e21, ho, hz, hob, hg, hkp⟩
      by_cases hi : i < l.length
      · obtain ⟨a, ha⟩ : ∃ a, l[i]? = some a := ⟨_, List.getElem?_eq_getElem hi⟩
        have hd : decide ((i : Int) < (l.length : Int)) = true := by simp; omega
        obtain ⟨B, hB⟩ : ∃ B, L[i]? = some B := ⟨_, List.getElem?_eq_getElem (by omega)⟩
        have hat := (isl_tycs l).at tyc_len ha
        rw [tyc_w, tyw] at hat
        have hca := fun S1 => hc i a B ha hB S1
        rw [tyc_w a, tyw, tyc_w B, tyw] at hca
        simp only [cf28_l0, e0, e4, e5, e19, e20, e21, hd, hat, Nat.le_add_left, go_sem, ↓reduceIte, reduceCtorEq, Nat.reduceEqDiff, Nat.reduceAdd, Nat.reduceSub, Nat.reduceMul, Nat.reduceLeDiff, Nat.reduceLT, loadA, rdCells, storeA, setAt, binA]
        refine W_dreg ?_
        simp only [wt_ops, stpT, Tr, e0, e4, e5, e19, e20, e21, ho, ne_a hz, ne_b hz, ne_c hz, ne_d hz, wt_nil, chk1, avr, Bool.or_true, Nat.le_add_left, go_sem, ↓reduceIte, reduceCtorEq, Nat.reduceEqDiff, Nat.reduceAdd, Nat.reduceSub, Nat.reduceMul, Nat.reduceLeDiff, Nat.reduceLT, loadA, rdCells, storeA, setAt, binA]
        refine WT_callx _ rfl ((hca _).mono ?_)
        rintro w2 S3 ⟨rfl, hk3⟩
        obtain ⟨SA, hSA⟩ : ∃ SA, SA = (S.new (.cells [.int .i64 0, .str ⟨#[]⟩, .int .i64 0, .nils])).put S.size (some (.cells [.int .i64 (kof a), .str (nof a), .int .i64 (vof a), .sl (tycs (lof a)) (lof a).length false none])) := ⟨_, rfl⟩
        rw [← hSA] at hk3 ⊢
        have hzA : SA.size = S.size + 1 := by rw [hSA]; rfl
        have hkA : Keep S SA := by rw [hSA]; exact ((Keep.refl S).new' _).put' (Nat.le_refl _) _
        have hk03 := hkA.trans hk3
        have hoA := hkA.obj hz ho
        have hoC := hk03.obj hz ho
        have hg3 : Grw tyc S2.size S3 ov (L.take i) tok := hg.keep hk03.1 (fun kk hkk => by
          rcases hg with ⟨-, -, h⟩ | ⟨k2, h, -, -, -, h5, -⟩
          · rw [h] at hkk; cases hkk
          · rw [h] at hkk; cases hkk; exact hk03.2 kk h5)
        have hlt : (L.take i).length = i := by rw [List.length_take]; omega
        obtain ⟨v', S4, hap, hg4, hz4, hk4⟩ := hg3.app tycP (by have := hk03.1; omega) B (bytes := 56) (by omega)
        have hqt : ∀ j cs, S3.obj j = some (.cells cs) → some j ≠ tok := fun j cs hj ht => by
          rcases hg3 with ⟨-, -, h⟩ | ⟨k2, h, -, -, h4, -, -⟩
          · rw [h] at ht; cases ht
          · rw [h] at ht; cases ht; rw [h4] at hj; cases hj
        have hz03 := hk03.1
        have hoD : S4.obj S2.size = some (.cells [.int .i64 k, .str m, .int .i64 v, ov]) := by rw [hk4 _ (by omega) (hqt _ _ hoC)]; exact hoC
        have hst : storeA S4 1 (.ptr S2.size 3) v' = some (S4.put S2.size (some (.cells [.int .i64 k, .str m, .int .i64 v, v']))) := by
          have hv' : v'.cells = [v'] := by
            rcases hg4 with ⟨rfl, -, -⟩ | ⟨k2, -, rfl, -⟩ <;> rfl
          have hv1 : v'.one = true := by
            rcases hg4 with ⟨rfl, -, -⟩ | ⟨k2, -, rfl, -⟩ <;> rfl
          simp [storeA, hoD, hv', hv1, setAt]
        have hl1 : loadA S false 1 (.ptr S2.size 3) = some ov := by simp [loadA, rdCells, ho]
        have hl2 : loadA SA false 1 (.ptr S2.size 3) = some ov := by simp [loadA, rdCells, hoA]
        have hl3 : loadA S3 false 1 (.ptr S2.size 3) = some ov := by simp [loadA, rdCells, hoC]
        rw [tyc_w B, tyw] at hap
        have hwr := U1.wrapn (n := i) (by omega)
        simp only [wt_ops, stpT, Tr, e0, e4, e5, e19, e20, e21, hap, hst, hl1, hl2, hl3, hoA, hoC, wt_nil, chk1, apartS, avr, Bool.or_true, Bool.false_or, hwr, Nat.le_add_left, setAt, go_sem, ↓reduceIte, reduceCtorEq, Nat.reduceEqDiff, Nat.reduceAdd, Nat.reduceSub, Nat.reduceMul, Nat.reduceLeDiff, Nat.reduceLT, binA]
        have hB2 : L.take (i + 1) = L.take i ++ [B] := by rw [List.take_add_one, hB]; rfl
        have hks : Keep s S4 := ⟨by have := hkp.1; omega, fun j hj => by
          rw [hk4 j (by have := hkp.1; omega) (fun ht => by
            rcases hg3 with ⟨-, -, h⟩ | ⟨k2, h, -, -, -, -, h6⟩
            · rw [h] at ht; cases ht
            · rw [h] at ht; cases ht; omega)]
          exact (hkp.trans hk03).2 j hj⟩
        refine ⟨kk - 1, by omega, i + 1, v', some S3.size, by omega, rfl, rfl, by omega, ?_, ?_, hks.put' (by omega) _⟩
        · rw [if_neg (by omega), hk4 _ (by omega) (hqt _ _ (hk03.obj (by omega) hob))]
          exact hk03.obj (by omega) hob
        · rw [hB2]
          exact hg4.keep (Nat.le_refl _) fun k2 h2 => by cases h2; rw [put_ne (by omega)]
      · have hie : i = l.length := by omega
        subst hie
        have hd : decide (((l.length : Nat) : Int) < (l.length : Int)) = false := by simp
        have hsp : AV.strip ov = .sl (tycs L) L.length false none := by
          have hLt : L.take l.length = L := List.take_of_length_le (by omega)
          have := hg.isl
          rw [hLt] at this
          rcases this with ⟨rfl, h⟩ | ⟨f, tk, rfl⟩
          · rw [h, tycs]; rfl
          · rw [tycs_flat]; rfl
        simp only [cf28_l0, e0, e4, e5, e19, e20, e21, hd, ho, hob, hsp, ne_a hz, ne_b hz, Nat.le_add_left, setAt, go_sem, ↓reduceIte, reduceCtorEq, Nat.reduceEqDiff, Nat.reduceAdd, Nat.reduceSub, Nat.reduceMul, Nat.reduceLeDiff, Nat.reduceLT, loadA, rdCells, storeA, setAt, binA]
        refine ⟨by simp, _, rfl, by rw [tyc_w (.mk k m v L), tyw]; rfl, ?_⟩
        exact hkp.put' (by omega) _
    · simp only [go_sem, ↓reduceIte, reduceCtorEq, Nat.reduceEqDiff, Nat.reduceAdd, Nat.reduceSub, Nat.reduceMul, Nat.reduceLeDiff, Nat.reduceLT, loadA, rdCells, storeA, setAt, binA]
    · simp only [go_sem, ↓reduceIte, reduceCtorEq, Nat.reduceEqDiff, Nat.reduceAdd, Nat.reduceSub, Nat.reduceMul, Nat.reduceLeDiff, Nat.reduceLT, loadA, rdCells, storeA, setAt, binA]
    · simp only [go_sem, ↓reduceIte, reduceCtorEq, Nat.reduceEqDiff, Nat.reduceAdd, Nat.reduceSub, Nat.reduceMul, Nat.reduceLeDiff, Nat.reduceLT, loadA, rdCells, storeA, setAt, binA]
    · simp only [go_sem, ↓reduceIte, reduceCtorEq, Nat.reduceEqDiff, Nat.reduceAdd, Nat.reduceSub, Nat.reduceMul, Nat.reduceLeDiff, Nat.reduceLT, loadA, rdCells, storeA, setAt, binA]
    · simp only [go_sem, ↓reduceIte, reduceCtorEq, Nat.reduceEqDiff, Nat.reduceAdd, Nat.reduceSub, Nat.reduceMul, Nat.reduceLeDiff, Nat.reduceLT, loadA, rdCells, storeA, setAt, binA]
    · simp only [go_sem, ↓reduceIte, reduceCtorEq, Nat.reduceEqDiff, Nat.reduceAdd, Nat.reduceSub, Nat.reduceMul, Nat.reduceLeDiff, Nat.reduceLT, loadA, rdCells, storeA, setAt, binA]; rfl
    · exact put_eq
    · simp only [St.new, St.put]; omega
    · rw [put_ne (by omega), put_ne (by omega), new_ne (by simp only [St.put]; omega), put_ne (by omega)]; exact o4
    · exact (((hk02.put' (Nat.le_refl _) _).new' _).put' (by omega) _).put' (by omega) _
  · have hl1 : l.length = 0 := by
      have : (l.length : Int) = 0 := beq_iff_eq.1 hl
      omega
    have hl0 : l = [] := List.eq_nil_of_length_eq_zero hl1
    have hL0 : L = [] := List.eq_nil_of_length_eq_zero (by omega)
    simp only [o3, o4, hl, hlen, ne_a q3, ne_b q3, ne_c q3, ne_d q3, ne_a q4, ne_b q4, ne_c q4, ne_d q4, Nat.le_add_left, setAt, go_sem, ↓reduceIte, reduceCtorEq, Nat.reduceEqDiff, Nat.reduceAdd, Nat.reduceSub, Nat.reduceMul, Nat.reduceLeDiff, Nat.reduceLT, loadA, rdCells, storeA, setAt, binA]
    exact ⟨by simp, _, rfl, by subst hl0; subst hL0; rw [tyc_w (.mk k m v []), tyw]; rfl, (hk02.put' (Nat.le_refl _) _).put' (by omega) _⟩

/-- Apply makes of a type what the substitution makes of it. -/
theorem apply_law (hX : NoX X) {sv : AV} {ss : List Tm} (hsv : ISl tyc sv ss) {rk : Nat → Nat} (hac : Acy ss rk) : ∀ (n : Nat) (t A : Tm), Ap ss t A → tsz A ≤ n → Wt ss.length t → ∀ s, WC T X 28 [sv, .agg (tyc t)] s (fun v s' => v = .agg (tyc A) ∧ Keep s s') := by
  intro n
  induction n with
  | zero => intro t A _ h; have := tsz_pos A; omega
  | succ n ih =>
    intro t A hA hn hw s
    obtain ⟨t', hwk, hkk, hA'⟩ := U1.walk_ap hA
    have hw' := walk_wt hac hwk hw
    have hwl := fun S => (walk_law hX hwk S (Or.inl hsv)).sub sub
    have hll := wt_lof hw'
    by_cases hk0 : kof t' = 0
    · have hAt := U1.ap_det hA' (U1.walk_self hwk hk0)
      subst hAt
      obtain ⟨i, -, rfl⟩ := wt_var hw' hk0
      exact apply_step (L := []) hX hwl (by simp) rfl (fun i a B h => by simp at h) s
    · obtain ⟨k, m, v, l⟩ := t'
      obtain ⟨L, rfl, hL⟩ := ap_con hk0 hA'
      rw [tsz] at hn
      refine apply_step hX hwl hll (U1.aps_len hL) (fun i a B ha hB S => ?_) s
      obtain ⟨B', hB', haB⟩ := aps_get hL ha
      rw [hB] at hB'; cases hB'
      exact ih a B haB (by have := tsz_at hB; omega) (wt_arg hw' (List.mem_of_getElem? ha)) S
end Go.Am.U2
