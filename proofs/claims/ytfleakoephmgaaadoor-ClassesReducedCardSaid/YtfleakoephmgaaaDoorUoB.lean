/- Norm's text up to its range over a function, run by the machine. Conditions: none. -/
import Derived.Test.YtfleakoephmgaaaDoorAmTo
import Derived.Test.YtfleakoephmgaaaDoorUnA
import Derived.Test.YtfleakoephmgaaaDoorUnL
import Derived.Test.YtfleakoephmgaaaDoorAmSy
import Derived.Test.YtfleakoephmgaaaDoorAmW
set_option linter.unusedSimpArgs false
set_option linter.unusedVariables false
namespace Go.Am.U2
open Go.Am.Un Go.So
open Go.Am.U1 (tycP isl_tycs drop_at tyw tyc_w NoX vtm vtm_c len_tszs tsz_pos ne_a ne_b ne_c ne_d ne_e ne_f avr)
set_option maxRecDepth 100000
set_option linter.unusedSimpArgs false
attribute [local go_sem] wseq COp.isStore wreg wdreg wret wskip wexit wblock wcnd cnd_t cnd_f then_n then_x then_r catch_n rnd_n rnd_x rnd_r catch_x catch_r wo_nil wo_grd grdO_t grdO_f wo_ops stpO wr_nil wr_alloc wr_guards grdR_t grdR_f wr_ops stpR evAllocs evOp env0_app eput_some eput_none eset_app Opd.ev wantedA faddrA snew_obj snew_size sput_obj sput_size av_cells av_one av_strip av_still unA eqbA fillA fldA lensA mmA mm2 mmFold List.getD_cons_zero List.getD_cons_succ List.getD_nil List.length_cons List.length_nil List.drop_zero List.drop_succ_cons List.take_succ_cons List.take_zero List.map_cons List.map_nil List.set_cons_zero List.set_cons_succ List.all_cons List.all_nil List.getElem?_cons_zero List.getElem?_cons_succ List.nil_append List.cons_append Nat.zero_add Nat.add_zero beq_self_eq_true bt bf Bool.not_true Bool.not_false Bool.and_true Bool.true_and Bool.and_false Bool.false_and and_self and_true true_and n0 n1 n2 n3 n4 m0 m1 m2 m3 c1 retA resAs resA undefA Option.map_some Option.map_none

def big : Nat := 1099511627776

/-- A label of a row that is sorted. -/
def lc (x : Lb) : List AV := tyc (.mk 0 x.1 0 [x.2])
theorem lcP : Plain lc 4 := ⟨fun _ => tycP.len _, fun _ => tycP.one _, fun _ => tycP.still _, fun _ => tycP.strip _⟩
theorem lc_c (x : Lb) : lc x = [.int .i64 0, .str x.1, .int .i64 0, .sl (tyc x.2) 1 false none] := by
  rw [lc, tyc, tycs, tycs, List.append_nil]; rfl

/-! ### What is told of Norm -/
mutual
theorem tyc_inj : ∀ a b : Tm, tyc a = tyc b → a = b
  | .mk k n v l, .mk k' n' v' l' => fun h => by
    rw [tyc, tyc] at h
    simp only [List.cons.injEq, AV.int.injEq, AV.str.injEq, AV.sl.injEq, and_true, true_and] at h
    obtain ⟨h1, h2, h3, h4, h5⟩ := h
    rw [h1, h2, h3, tycs_inj l l' h4 h5]
theorem tycs_inj : ∀ l l' : List Tm, tycs l = tycs l' → l.length = l'.length → l = l'
  | [], [], _, _ => rfl
  | [], _ :: _, _, h => by simp at h
  | _ :: _, [], _, h => by simp at h
  | a :: l, b :: l', h, hl => by
    rw [tycs, tycs] at h
    obtain ⟨h1, h2⟩ := List.append_inj h (by rw [tyc_len, tyc_len])
    rw [tyc_inj a b h1, tycs_inj l l' h2 (by simpa using hl)]
end
theorem tyw_inj {t t' : Tm} {w w' : AV} (h : tyw t w = tyw t' w') (h1 : ISl tyc w (lof t)) (h2 : ISl tyc w' (lof t')) : t = t' := by
  obtain ⟨k, n, v, l⟩ := t
  obtain ⟨k', n', v', l'⟩ := t'
  simp only [tyw, U1.tyw, kof, nof, vof, lof, List.cons.injEq, AV.int.injEq, AV.str.injEq, and_true, true_and] at h h1 h2
  obtain ⟨e1, e2, e3, rfl⟩ := h
  have : l = l' := by
    rcases h1 with ⟨rfl, rfl⟩ | ⟨f, tk, rfl⟩
    · rcases h2 with ⟨-, rfl⟩ | ⟨f, tk, h⟩
      · rfl
      · cases h
    · rcases h2 with ⟨h, -⟩ | ⟨f, tk, h⟩
      · cases h
      · simp only [AV.sl.injEq] at h
        exact tycs_inj l l' (by rw [tycs_flat, tycs_flat]; exact h.1) h.2.1
  rw [e1, e2, e3, this]

open Classical in
/-- Norm, at types of fewer than n nodes. -/
noncomputable def normX (n : Nat) (args : List AV) (s : St) : Option (AV × St) :=
  if h : ∃ t, (∃ w, args = [.agg (tyw t w)] ∧ ISl tyc w (lof t)) ∧ Val t ∧ tsz t < n then some (.agg (tyc (nf h.choose)), s) else none
theorem normX_of {n : Nat} {t : Tm} {w : AV} (h1 : ISl tyc w (lof t)) (h2 : Val t) (h3 : tsz t < n) (s : St) : normX n [.agg (tyw t w)] s = some (.agg (tyc (nf t)), s) := by
  have h : ∃ t', (∃ w', [AV.agg (tyw t w)] = [.agg (tyw t' w')] ∧ ISl tyc w' (lof t')) ∧ Val t' ∧ tsz t' < n := ⟨t, ⟨w, rfl, h1⟩, h2, h3⟩
  unfold normX
  rw [dif_pos h]
  obtain ⟨⟨w', e, h4⟩, -, -⟩ := h.choose_spec
  have := tyw_inj (AV.agg.inj (List.cons.inj e).1) h1 h4
  rw [← this]
theorem normX_inv {n : Nat} {args : List AV} {s : St} {v : AV} {s' : St} (h : normX n args s = some (v, s')) : ∃ t w, args = [.agg (tyw t w)] ∧ ISl tyc w (lof t) ∧ Val t ∧ tsz t < n ∧ v = .agg (tyc (nf t)) ∧ s' = s := by
  unfold normX at h
  split at h
  · rename_i hh
    cases h
    obtain ⟨⟨w', e, h4⟩, h5, h6⟩ := hh.choose_spec
    exact ⟨_, w', e, h4, h5, h6, rfl, rfl⟩
  · cases h
noncomputable def Xn (n : Nat) : Ext := fun f => if f = 24 then some (normX n) else none
theorem Xn_none (n f : Nat) (h : f ≠ 24) : Xn n f = none := if_neg h
theorem norm_wc {n : Nat} {t : Tm} {w : AV} (h1 : ISl tyc w (lof t)) (h2 : Val t) (h3 : tsz t < n) (s : St) : WC T (Xn n) 24 [.agg (tyw t w)] s (fun v s' => v = .agg (tyc (nf t)) ∧ s' = s) :=
  WC_ext (h := normX n) (if_pos rfl) (normX_of h1 h2 h3 s) ⟨rfl, rfl⟩

theorem W_loop_eq {X : Ext} {b L : CC} (hL : CC.loop b = L) {e : Env} {s : St} {Q : CX → Env → St → Prop} (h : W T X b e s (Then T X L Q)) : W T X L e s Q := by
  subst hL; exact W_loop h

/-! ### The rows' loop -/
theorem ia0w {w : AV} {a r : Tm} (h : ISl tyc w [a, r]) : iaddrA 4 w (.int .i64 0) = some (.eptr (tyw a (.sl (tycs (lof a)) (lof a).length false none) ++ tyw r (.sl (tycs (lof r)) (lof r).length false none))) := by
  have := h.at tyc_len (i := 0) (x := a) rfl
  rw [tyc_w] at this
  simpa [tyc_w r] using this
theorem ia1w {w : AV} {a r : Tm} (h : ISl tyc w [a, r]) : iaddrA 4 w (.int .i64 1) = some (.eptr (tyw r (.sl (tycs (lof r)) (lof r).length false none))) := by
  have := h.at tyc_len (i := 1) (x := r) rfl
  simpa [tyc_w r] using this

/-- The labels so far, in an array of their own. -/
def Labs (N : Nat) (S : St) (v : AV) (l : List Lb) : Prop := MSl lc 4 S v l ∧ freshO N v

set_option maxHeartbeats 4000000 in
theorem lab_loop {n b N : Nat} : ∀ (t : Tm) (L : List Lb) (z : Tm), Spn t L z → Val t → tsz t < n + 1 → n ≤ big → ∀ (e : Env) (S : St) (cur : List Lb) (lv w : AV), cur.length + tsz t ≤ big → e 1 = .ptr b 0 → S.obj b = some (.cells (tyw t w)) → b < N → N ≤ S.size → ISl tyc w (lof t) → e 3 = lv → Labs N S lv cur →
    W T (Xn n) (.loop cf24_l1) e S (fun x e' S' => x = .exit 0 ∧ e' 1 = .ptr b 0 ∧ e' 2 = e 2 ∧ (∃ lv', e' 3 = lv' ∧ Labs N S' lv' (cur ++ L.map nfl)) ∧ (∃ w', S'.obj b = some (.cells (tyw z w')) ∧ ISl tyc w' (lof z)) ∧ S.size ≤ S'.size ∧ ∀ j, j < N → j ≠ b → S'.obj j = S.obj j) := by
  intro t L z h
  induction h with
  | nil t h =>
    intro hv ht hn e S cur lv w hc e1 ho hb hN hw e3 hl
    have hk : (kof t == 5) = false := by simpa using h
    refine W_loop ?_
    simp only [tyw, U1.tyw] at ho
    simp only [cf24_l1, e1, ho, hk, Nat.le_add_left, go_sem, ↓reduceIte, reduceCtorEq, Nat.reduceEqDiff, Nat.reduceAdd, Nat.reduceSub, Nat.reduceMul, Nat.reduceLeDiff, Nat.reduceLT, loadA, rdCells, storeA, setAt, binA]
    exact ⟨⟨lv, e3, by simpa using hl⟩, ⟨w, by simp only [tyw, U1.tyw], hw⟩, Nat.le_refl _, fun _ _ _ => trivial⟩
  | cons m v a r L z h ih =>
    intro hv ht hn e S cur lv w hc e1 ho hb hN hw e3 hl
    have hs : tsz (.mk 5 m v [a, r]) = 1 + (tsz a + (tsz r + 0)) := by rw [tsz, tszs, tszs, tszs]
    have hva : Val a ∧ Val r := by
      rw [Val] at hv
      exact ⟨vals_at hv.2.2.2.2.2.2.2 (i := 0) rfl, vals_at hv.2.2.2.2.2.2.2 (i := 1) rfl⟩
    have pa := tsz_pos a
    have pr := tsz_pos r
    generalize hL : CC.loop cf24_l1 = LL at ih ⊢
    refine W_loop_eq hL ?_
    have i0 := ia0w hw
    have i1 := ia1w hw
    have hnc := norm_wc (n := n) (isl_tycs (lof a)) hva.1 (by omega) S
    simp only [U1.tyw, U1.kof_mk, U1.nof_mk, U1.vof_mk, U1.lof_mk, List.cons_append, List.nil_append] at ho i0 i1 hnc
    obtain ⟨lv1, S1, hap, hm1, hf1, hz1, -, -, hk1⟩ := hl.1.app1 lcP (m, nf a) (bytes := 56) (by unfold big at *; omega)
    rw [lc_c] at hap
    have hbn : notO lv b := hl.2.ne hb
    have hob1 : S1.obj b = some (.cells [.int .i64 5, .str m, .int .i64 v, w]) := by rw [hk1 b (by omega) hbn]; exact ho
    simp only [cf24_l1, e1, e3, ho, i0, Nat.le_add_left, go_sem, ↓reduceIte, reduceCtorEq, Nat.reduceEqDiff, Nat.reduceAdd, Nat.reduceSub, Nat.reduceMul, Nat.reduceLeDiff, Nat.reduceLT, loadA, rdCells, storeA, setAt, binA]
    refine W_dreg ?_
    simp only [wt_ops, stpT, Tr, e1, e3, ho, i0, wt_nil, chk1, avr, Bool.or_true, Nat.le_add_left, go_sem, ↓reduceIte, reduceCtorEq, Nat.reduceEqDiff, Nat.reduceAdd, Nat.reduceSub, Nat.reduceMul, Nat.reduceLeDiff, Nat.reduceLT, loadA, rdCells, storeA, setAt, binA]
    refine WT_callx _ rfl (hnc.mono ?_)
    rintro w2 S2 ⟨rfl, rfl⟩
    rw [tyc_w (nf a), U1.tyw] at hap ⊢
    simp only [wt_ops, stpT, Tr, e1, e3, ho, i0, hap, wt_nil, chk1, avr, Bool.or_true, Nat.le_add_left, go_sem, ↓reduceIte, reduceCtorEq, Nat.reduceEqDiff, Nat.reduceAdd, Nat.reduceSub, Nat.reduceMul, Nat.reduceLeDiff, Nat.reduceLT, loadA, rdCells, storeA, setAt, binA]
    simp only [e1, hob1, i1, Nat.le_add_left, go_sem, ↓reduceIte, reduceCtorEq, Nat.reduceEqDiff, Nat.reduceAdd, Nat.reduceSub, Nat.reduceMul, Nat.reduceLeDiff, Nat.reduceLT, loadA, rdCells, storeA, setAt, binA]
    subst hL
    refine (ih hva.2 (by omega) hn _ _ (cur ++ [(m, nf a)]) lv1 (.sl (tycs (lof r)) (lof r).length false none) ?_ ?_ ?_ hb ?_ (isl_tycs (lof r)) ?_ ⟨hm1.of (fun p hp hl2 => ?_) ?_, ?_⟩).mono ?_
    · rw [List.length_append, List.length_cons, List.length_nil]; omega
    · simp only [e1, go_sem, ↓reduceIte, reduceCtorEq, Nat.reduceEqDiff, Nat.reduceAdd, Nat.reduceSub, Nat.reduceMul, Nat.reduceLeDiff, Nat.reduceLT, loadA, rdCells, storeA, setAt, binA]
    · rw [put_eq, U1.tyw]
    · simp only [St.put]; omega
    · simp only [go_sem, ↓reduceIte, reduceCtorEq, Nat.reduceEqDiff, Nat.reduceAdd, Nat.reduceSub, Nat.reduceMul, Nat.reduceLeDiff, Nat.reduceLT, loadA, rdCells, storeA, setAt, binA]
    · have := hf1 _ _ _ _ hp; exact put_ne (by omega)
    · exact Nat.le_refl _
    · exact hf1.le (by omega)
    · rintro x e' S' ⟨rfl, g1, g2, ⟨lv', g3, g4⟩, g5, g6, g7⟩
      refine ⟨rfl, g1, ?_, ⟨lv', g3, ?_⟩, g5, ?_, fun j hj hjb => ?_⟩
      · rw [g2]; simp only [go_sem, ↓reduceIte, reduceCtorEq, Nat.reduceEqDiff, Nat.reduceAdd, Nat.reduceSub, Nat.reduceMul, Nat.reduceLeDiff, Nat.reduceLT, loadA, rdCells, storeA, setAt, binA]
      · simpa [nfl] using g4
      · simp only [St.put] at g6; omega
      · rw [g7 j hj hjb, put_ne hjb, hk1 j (by omega) (hl.2.ne hj)]

/-! ### The loop over the arguments -/
set_option maxHeartbeats 4000000 in
theorem arg_loop {n q : Nat} {k v : Int} {m : ByteArray} {l : List Tm} {w : AV} (hw : ISl tyc w l) (hv : ∀ a, a ∈ l → Val a ∧ tsz a < n) (hl : l.length ≤ big) (e : Env) (S0 S : St) (e4 : e 4 = .ptr q 0) (e31 : e 31 = w) (e32 : e 32 = .int .i64 l.length) (e33 : e 33 = .int .i64 0)
    (ho : S.obj q = some (.cells [.int .i64 k, .str m, .int .i64 v, .nils])) (hq : q < S.size) :
    W T (Xn n) (.loop cf24_l0) e S (fun x e' S' => x = .exit 2 ∧ e' 1 = e 1 ∧ e' 2 = e 2 ∧ e' 3 = e 3 ∧ e' 4 = .ptr q 0 ∧ (∃ ov, S'.obj q = some (.cells [.int .i64 k, .str m, .int .i64 v, ov]) ∧ MSl tyc 4 S' ov (l.map nf) ∧ freshO S.size ov) ∧ KeepBut q S S') := by
  refine W_loop_nat (fun kk e' S' => ∃ (i : Nat) (ov : AV), i + kk = l.length ∧ e' 1 = e 1 ∧ e' 2 = e 2 ∧ e' 3 = e 3 ∧ e' 4 = .ptr q 0 ∧ e' 31 = w ∧ e' 32 = .int .i64 l.length ∧ e' 33 = .int .i64 i ∧ S'.obj q = some (.cells [.int .i64 k, .str m, .int .i64 v, ov]) ∧ MSl tyc 4 S' ov ((l.take i).map nf) ∧ freshO S.size ov ∧ KeepBut q S S') ?_ l.length _ _
    ⟨0, .nils, by simp, rfl, rfl, rfl, e4, e31, e32, e33, ho, Or.inl ⟨rfl, by simp⟩, freshO_nils _, KeepBut.refl _ _⟩
  clear e4 e31 e32 e33 ho
  rintro kk e' S' ⟨i, ov, hik, e1, e2, e3, e4, e31, e32, e33, ho, hm, hf, hk⟩
  have hq' : q < S'.size := Nat.lt_of_lt_of_le hq hk.1
  by_cases hi : i < l.length
  · obtain ⟨a, ha⟩ : ∃ a, l[i]? = some a := ⟨_, List.getElem?_eq_getElem hi⟩
    have hd : decide ((i : Int) < (l.length : Int)) = true := by simp; omega
    have hat := hw.at tyc_len ha
    obtain ⟨va, sa⟩ := hv a (List.mem_of_getElem? ha)
    rw [tyc_w, U1.tyw] at hat
    have hnc := fun S1 => norm_wc (n := n) (isl_tycs (lof a)) va sa S1
    simp only [U1.tyw] at hnc
    simp only [cf24_l0, e1, e2, e3, e4, e31, e32, e33, hd, hat, Nat.le_add_left, go_sem, ↓reduceIte, reduceCtorEq, Nat.reduceEqDiff, Nat.reduceAdd, Nat.reduceSub, Nat.reduceMul, Nat.reduceLeDiff, Nat.reduceLT, loadA, rdCells, storeA, setAt, binA]
    refine W_dreg ?_
    simp only [wt_ops, stpT, Tr, e1, e2, e3, e4, e31, e32, e33, ho, ne_a hq', ne_b hq', ne_c hq', ne_d hq', wt_nil, chk1, avr, Bool.or_true, Nat.le_add_left, go_sem, ↓reduceIte, reduceCtorEq, Nat.reduceEqDiff, Nat.reduceAdd, Nat.reduceSub, Nat.reduceMul, Nat.reduceLeDiff, Nat.reduceLT, loadA, rdCells, storeA, setAt, binA]
    refine WT_callx _ rfl ((hnc _).mono ?_)
    rintro w2 S2 ⟨rfl, rfl⟩
    obtain ⟨SA, hSA⟩ : ∃ SA, SA = (S'.new (.cells [.int .i64 0, .str ⟨#[]⟩, .int .i64 0, .nils])).put S'.size (some (.cells [.int .i64 (kof a), .str (nof a), .int .i64 (vof a), .sl (tycs (lof a)) (lof a).length false none])) := ⟨_, rfl⟩
    have hzA : SA.size = S'.size + 1 := by rw [hSA]; rfl
    have hkA : ∀ j, j < S'.size → SA.obj j = S'.obj j := fun j hj => by rw [hSA, put_ne (by omega), new_ne (by omega)]
    have hoA : SA.obj q = some (.cells [.int .i64 k, .str m, .int .i64 v, ov]) := by rw [hkA q hq']; exact ho
    have hmA : MSl tyc 4 SA ov ((l.take i).map nf) := hm.of (fun p _ hp => hkA p hp) (by omega)
    obtain ⟨nv, SB, hap, hmB, hfB, hzB, -, -, hkB⟩ := hmA.app1 tycP (vtm 0) (bytes := 56) (by rw [List.length_map, List.length_take]; unfold big at hl; omega)
    have hln := hmA.len
    have hll : ((l.take i).map nf).length = i := by rw [List.length_map, List.length_take]; omega
    rw [hll] at hln
    rcases hmB with ⟨-, h⟩ | ⟨-, h⟩ | ⟨p', rfl, hoB, hpB⟩
    · simp at h
    · simp at h
    have hp' := hfB _ _ _ _ rfl
    have hlB : ((l.take i).map nf ++ [vtm 0]).length = i + 1 := by rw [List.length_append, hll]; rfl
    rw [hlB] at hap
    have hma := maddr (p := p') (n := i + 1) (i := i) (by omega)
    have hst := mstore tycP hoB (i := i) (by omega) (nf a)
    have hset : ((l.take i).map nf ++ [vtm 0]).set i (nf a) = (l.take (i + 1)).map nf := by
      rw [List.take_add_one, ha, List.set_append_right _ _ (by omega), hll]
      simp
    rw [hset] at hst
    have hqp : (q != p') = true := by simp; omega
    have hqp2 : (q = p') = False := eq_false (by omega)
    have hqp3 : (p' = q) = False := eq_false (by omega)
    have hoq : SB.obj q = some (.cells [.int .i64 k, .str m, .int .i64 v, ov]) := by rw [hkB q (by omega) (hf.ne hq)]; exact hoA
    have vt : tyc (vtm 0) = [.int .i64 0, .str ⟨#[]⟩, .int .i64 0, .sl [] 0 false none] := by rw [vtm_c]; rfl
    rw [vt] at hap
    have hwr := U1.wrapn (n := i) (by unfold big at hl; omega)
    obtain ⟨SC, hSC⟩ : ∃ SC, SC = SB.put p' (some (.cells (((l.take (i + 1)).map nf).flatMap tyc))) := ⟨_, rfl⟩
    have hoC : SC.obj q = some (.cells [.int .i64 k, .str m, .int .i64 v, ov]) := by rw [hSC, put_ne (by omega)]; exact hoq
    have hst2 : storeA SC 1 (.ptr q 3) (.msl p' 0 (i + 1) 4) = some (SC.put q (some (.cells [.int .i64 k, .str m, .int .i64 v, .msl p' 0 (i + 1) 4]))) := by
      simp [storeA, hoC, AV.cells, AV.one, setAt]
    have hl1 : loadA S' false 1 (.ptr q 3) = some ov := by simp [loadA, rdCells, ho]
    have hl2 : loadA SA false 1 (.ptr q 3) = some ov := by simp [loadA, rdCells, hoA]
    rw [← hSC] at hst
    rw [← hSA]
    simp only [wt_ops, stpT, Tr, e1, e2, e3, e4, e31, e32, e33, hln, hap, hma, hst, hst2, hl1, hl2, hoA, hqp, hqp2, hqp3, wt_nil, chk1, apartS, avr, Bool.or_true, Bool.false_or, hwr, Nat.le_add_left, setAt, go_sem, ↓reduceIte, reduceCtorEq, Nat.reduceEqDiff, Nat.reduceAdd, Nat.reduceSub, Nat.reduceMul, Nat.reduceLeDiff, Nat.reduceLT, binA]
    refine ⟨kk - 1, by omega, i + 1, .msl p' 0 (i + 1) 4, by omega, rfl, rfl, ?_, ?_, ?_⟩
    · refine Or.inr (Or.inr ⟨p', by rw [List.length_map, List.length_take, Nat.min_eq_left (by omega)], ?_, ?_⟩)
      · rw [put_ne (by omega), hSC, put_eq]
      · rw [hSC]; exact hpB
    · intro p o l z he; cases he; have := hk.1; omega
    · refine ⟨by rw [hSC]; simp only [St.put]; have := hk.1; omega, fun j hj hjq => ?_⟩
      rw [put_ne hjq, hSC, put_ne (by have := hk.1; omega), hkB j (by have := hk.1; omega) (hf.ne hj), hkA j (by have := hk.1; omega)]
      exact hk.2 j hj hjq
  · have hd : decide ((i : Int) < (l.length : Int)) = false := by simp; omega
    simp only [cf24_l0, e1, e2, e3, e4, e31, e32, e33, hd, go_sem, ↓reduceIte, reduceCtorEq, Nat.reduceEqDiff, Nat.reduceAdd, Nat.reduceSub, Nat.reduceMul, Nat.reduceLeDiff, Nat.reduceLT, loadA, rdCells, storeA, setAt, binA]
    exact ⟨⟨ov, ho, by simpa [List.take_of_length_le (show l.length ≤ i by omega)] using hm, hf⟩, hk⟩
end Go.Am.U2

/- A part of the proof of Go. Conditions: none. -/
namespace Go.Am.U2
open Go.Am.Un Go.So
open Go.Am.U1 (tycP isl_tycs drop_at tyw tyc_w NoX vtm vtm_c len_tszs tsz_pos ne_a ne_b ne_c ne_d ne_e ne_f avr)
set_option maxRecDepth 100000
set_option linter.unusedSimpArgs false
attribute [local go_sem] wseq COp.isStore wreg wdreg wret wskip wexit wblock wcnd cnd_t cnd_f then_n then_x then_r catch_n rnd_n rnd_x rnd_r catch_x catch_r wo_nil wo_grd grdO_t grdO_f wo_ops stpO wr_nil wr_alloc wr_guards grdR_t grdR_f wr_ops stpR evAllocs evOp env0_app eput_some eput_none eset_app Opd.ev wantedA faddrA snew_obj snew_size sput_obj sput_size av_cells av_one av_strip av_still unA eqbA fillA fldA lensA mmA mm2 mmFold List.getD_cons_zero List.getD_cons_succ List.getD_nil List.length_cons List.length_nil List.drop_zero List.drop_succ_cons List.take_succ_cons List.take_zero List.map_cons List.map_nil List.set_cons_zero List.set_cons_succ List.all_cons List.all_nil List.getElem?_cons_zero List.getElem?_cons_succ List.nil_append List.cons_append Nat.zero_add Nat.add_zero beq_self_eq_true bt bf Bool.not_true Bool.not_false Bool.and_true Bool.true_and Bool.and_false Bool.false_and and_self and_true true_and n0 n1 n2 n3 n4 m0 m1 m2 m3 c1 retA resAs resA undefA Option.map_some Option.map_none
variable {X : Ext}

theorem sortT (hX : NoX X) : SortT T X 88 89 100 109 := ⟨T88, hX 88 (by decide), T89, hX 89 (by decide), T100, hX 100 (by decide), T109, hX 109 (by decide)⟩
theorem stableT : T 71 = some (sStb 88 89) := T71

theorem nan_law (hX : NoX X) (x : ByteArray) (s : St) : WC T X 72 [.str x] s (fun v s' => v = .bool false ∧ s' = s) := by
  refine WC_fn cf72 (hX 72 (by decide)) T72 (by simp [cf72]) ?_
  simp only [cf72, go_sem, ↓reduceIte, reduceCtorEq, Nat.reduceEqDiff, Nat.reduceAdd, Nat.reduceSub, Nat.reduceMul, Nat.reduceLeDiff, Nat.reduceLT, loadA, rdCells, storeA, setAt, binA]
  exact ⟨by simp, _, rfl, by simp⟩
theorem cmp_law (hX : NoX X) (x y : ByteArray) (s : St) : WC T X 52 [.str x, .str y] s (fun v s' => (∃ c : Int, v = .int .i64 c ∧ decide (c < 0) = ltB x y) ∧ s' = s) := by
  refine WC_fn cf52 (hX 52 (by decide)) T52 (by simp [cf52]) ?_
  simp only [cf52, go_sem, ↓reduceIte, reduceCtorEq, Nat.reduceEqDiff, Nat.reduceAdd, Nat.reduceSub, Nat.reduceMul, Nat.reduceLeDiff, Nat.reduceLT, loadA, rdCells, storeA, setAt, binA]
  refine WO_callx [.str x] (by simp only [go_sem, ↓reduceIte, reduceCtorEq, Nat.reduceEqDiff, Nat.reduceAdd, Nat.reduceSub, Nat.reduceMul, Nat.reduceLeDiff, Nat.reduceLT, loadA, rdCells, storeA, setAt, binA]) ((nan_law hX x s).mono ?_)
  rintro w s1 ⟨rfl, rfl⟩
  simp only [go_sem, ↓reduceIte, reduceCtorEq, Nat.reduceEqDiff, Nat.reduceAdd, Nat.reduceSub, Nat.reduceMul, Nat.reduceLeDiff, Nat.reduceLT, loadA, rdCells, storeA, setAt, binA]
  refine WO_callx [.str y] (by simp only [go_sem, ↓reduceIte, reduceCtorEq, Nat.reduceEqDiff, Nat.reduceAdd, Nat.reduceSub, Nat.reduceMul, Nat.reduceLeDiff, Nat.reduceLT, loadA, rdCells, storeA, setAt, binA]) ((nan_law hX y s1).mono ?_)
  rintro w s2 ⟨rfl, rfl⟩
  simp only [go_sem, ↓reduceIte, reduceCtorEq, Nat.reduceEqDiff, Nat.reduceAdd, Nat.reduceSub, Nat.reduceMul, Nat.reduceLeDiff, Nat.reduceLT, loadA, rdCells, storeA, setAt, binA]
  cases h1 : Op.bytesLess x.toList y.toList
  · cases h2 : (x.toList == y.toList) <;> simp only [h1, h2, Bool.false_or, Bool.not_false, Bool.not_true, go_sem, ↓reduceIte, reduceCtorEq, Nat.reduceEqDiff, Nat.reduceAdd, Nat.reduceSub, Nat.reduceMul, Nat.reduceLeDiff, Nat.reduceLT, loadA, rdCells, storeA, setAt, binA]
    · exact ⟨by simp, _, rfl, 1, rfl, h1.symm⟩
    · exact ⟨by simp, _, rfl, 0, rfl, h1.symm⟩
  · simp only [h1, go_sem, ↓reduceIte, reduceCtorEq, Nat.reduceEqDiff, Nat.reduceAdd, Nat.reduceSub, Nat.reduceMul, Nat.reduceLeDiff, Nat.reduceLT, loadA, rdCells, storeA, setAt, binA]
    exact ⟨by simp, _, rfl, -1, rfl, h1.symm⟩
theorem cmpT_law (hX : NoX X) (x y : Lb) (s : St) : WC T X 51 [.agg (lc x), .agg (lc y)] s (fun v s' => ∃ c : Int, v = .int .i64 c ∧ decide (c < 0) = ltL x y ∧ Keep s s') := by
  refine WC_fn cf51 (hX 51 (by decide)) T51 (by simp [cf51]) ?_
  rw [lc_c, lc_c]
  simp only [cf51, Nat.le_add_left, go_sem, ↓reduceIte, reduceCtorEq, Nat.reduceEqDiff, Nat.reduceAdd, Nat.reduceSub, Nat.reduceMul, Nat.reduceLeDiff, Nat.reduceLT, loadA, rdCells, storeA, setAt, binA]
  refine WO_callx _ rfl ((cmp_law hX x.1 y.1 _).mono ?_)
  rintro w s1 ⟨⟨c, rfl, hc⟩, rfl⟩
  simp only [go_sem, ↓reduceIte, reduceCtorEq, Nat.reduceEqDiff, Nat.reduceAdd, Nat.reduceSub, Nat.reduceMul, Nat.reduceLeDiff, Nat.reduceLT, loadA, rdCells, storeA, setAt, binA]
  exact ⟨by simp, _, rfl, c, rfl, hc, ((Keep.refl s).new' _).new' _⟩
theorem cmps (hX : NoX X) : Cmps T X lc 51 [] ltL := fun x y S => cmpT_law hX x y S

theorem sort_law (hX : NoX X) {v : AV} {l : List Lb} {S : St} (h : MSl lc 4 S v l) (hb : l.length ≤ big) : WC T X 50 [v, .func 51 []] S (fun _ S' => MSl lc 4 S' v (isort ltL l) ∧ KeepX v S S') := by
  refine WC_fn cf50 (hX 50 (by decide)) T50 (by simp [cf50]) ?_
  have hlen := h.len
  simp only [cf50, hlen, go_sem, ↓reduceIte, reduceCtorEq, Nat.reduceEqDiff, Nat.reduceAdd, Nat.reduceSub, Nat.reduceMul, Nat.reduceLeDiff, Nat.reduceLT, loadA, rdCells, storeA, setAt, binA]
  by_cases hl : l = []
  · subst hl
    refine WO_callx [v, .int .i64 0, .func 51 []] (by simp only [go_sem, ↓reduceIte, reduceCtorEq, Nat.reduceEqDiff, Nat.reduceAdd, Nat.reduceSub, Nat.reduceMul, Nat.reduceLeDiff, Nat.reduceLT, loadA, rdCells, storeA, setAt, binA]; rfl) ((stb_none (sortT hX) stableT (hX 71 (by decide)) v (.func 51 []) S).mono ?_)
    rintro w s2 rfl
    simp only [go_sem, ↓reduceIte, reduceCtorEq, Nat.reduceEqDiff, Nat.reduceAdd, Nat.reduceSub, Nat.reduceMul, Nat.reduceLeDiff, Nat.reduceLT, loadA, rdCells, storeA, setAt, binA]
    exact ⟨by simp, _, rfl, h, KeepX.refl _ _⟩
  · rcases h with ⟨-, h⟩ | ⟨-, h⟩ | ⟨p, rfl, ho, hp⟩
    · exact absurd h hl
    · exact absurd h hl
    refine WO_callx [.msl p 0 l.length 4, .int .i64 l.length, .func 51 []] (by simp only [go_sem, ↓reduceIte, reduceCtorEq, Nat.reduceEqDiff, Nat.reduceAdd, Nat.reduceSub, Nat.reduceMul, Nat.reduceLeDiff, Nat.reduceLT, loadA, rdCells, storeA, setAt, binA]) ((stb_law (sortT hX) stableT (hX 71 (by decide)) lcP ltL_ord (cmps hX) l (by unfold big at hb; omega) hp ho).mono ?_)
    rintro w s2 ⟨h1, h2⟩
    simp only [go_sem, ↓reduceIte, reduceCtorEq, Nat.reduceEqDiff, Nat.reduceAdd, Nat.reduceSub, Nat.reduceMul, Nat.reduceLeDiff, Nat.reduceLT, loadA, rdCells, storeA, setAt, binA]
    exact ⟨by simp, _, rfl, Or.inr (Or.inr ⟨p, by rw [isort_len], h1, Nat.lt_of_lt_of_le hp h2.1⟩), h2.1, fun j hj hn => h2.2 j hj (fun e => hn 0 l.length 4 (by rw [e]))⟩

theorem backw_law (hX : NoX X) (v : AV) (hv : v.cells = [v]) (S : St) : WC T X 53 [v] S (fun r S' => r = .func 73 [.ptr S.size 0] ∧ S' = S.new (.cells [v])) := by
  refine WC_fn cf53 (hX 53 (by decide)) T53 (by simp [cf53]) ?_
  simp only [cf53, hv, go_sem, ↓reduceIte, reduceCtorEq, Nat.reduceEqDiff, Nat.reduceAdd, Nat.reduceSub, Nat.reduceMul, Nat.reduceLeDiff, Nat.reduceLT, loadA, rdCells, storeA, setAt, binA]
  exact ⟨by simp, _, rfl, by simp⟩
def kpre : CC :=
  (.seq (.reg [⟨(some 1), none, (.box (.t 0))⟩, ⟨(some 2), none, (.alloc [(.int .i64 0), (.str ⟨#[]⟩), (.int .i64 0), .nils])⟩]) (.seq (.reg [⟨(some 3), none, (.mv (.c .nils))⟩]) (.seq (.block 0 (.loop cf24_l1)) (.seq (.reg [⟨(some 28), none, (.load true 4 (.t 1))⟩, ⟨(some 4), none, (.alloc [(.int .i64 0), (.str ⟨#[]⟩), (.int .i64 0), .nils])⟩, ⟨none, none, (.store 4 (.t 4) (.t 28))⟩]) (.seq (.reg [⟨(some 29), none, (.faddr 3 (.t 4))⟩, ⟨none, none, (.store 1 (.t 29) (.c .nils))⟩]) (.seq (.seq (.reg [⟨(some 30), none, (.faddr 3 (.t 1))⟩, ⟨(some 31), none, (.load false 1 (.t 30))⟩, ⟨(some 32), none, (.len (.t 31))⟩, ⟨(some 33), none, (.mv (.c (.int .i64 0)))⟩]) (.block 2 (.loop cf24_l0))) (.seq (.reg [⟨(some 47), none, (.mv (.t 3))⟩, ⟨(some 48), none, (.call 50 [(.t 47), (.c (.func 51 []))])⟩]) (.reg [⟨(some 49), none, (.mv (.t 3))⟩, ⟨(some 50), none, (.call 53 [(.t 49)])⟩]))))))))

theorem MSl.one' {α : Type} {f : α → List AV} {z : Nat} {S : St} {v : AV} {l : List α} (h : MSl f z S v l) : v.cells = [v] := h.one.2

set_option maxHeartbeats 4000000 in
theorem pre_law {n : Nat} {t z : Tm} {L : List Lb} {w : AV} (hs : Spn t L z) (hw : ISl tyc w (lof t)) (hv : Val t) (ht : tsz t < n + 1) (hn : n ≤ big) (s : St) :
    W T (Xn n) kpre (env0 [.agg (tyw t w)]) s (fun x e S => x = .normal ∧ ∃ (q c : Nat) (lv ov : AV), s.size + 1 < q ∧ q < c ∧ c < S.size ∧ e 2 = .ptr (s.size + 1) 0 ∧ S.obj (s.size + 1) = some (.cells [.int .i64 0, .str ⟨#[]⟩, .int .i64 0, .nils]) ∧
      e 4 = .ptr q 0 ∧ S.obj q = some (.cells [.int .i64 (kof z), .str (nof z), .int .i64 (vof z), ov]) ∧ MSl tyc 4 S ov ((lof z).map nf) ∧ freshO (q + 1) ov ∧
      e 50 = .func 73 [.ptr c 0] ∧ S.obj c = some (.cells [lv]) ∧ MSl lc 4 S lv (isort ltL (L.map nfl)) ∧ (∀ p o l y, lv = .msl p o l y → s.size + 1 < p ∧ p < q) ∧ s.size ≤ S.size ∧ ∀ j, j < s.size → S.obj j = s.obj j) := by
  have hL := lab_loop (n := n) (b := s.size) (N := s.size + 1 + 1) t L z hs hv ht hn
  obtain ⟨hm1, hm2, hm3⟩ := spn_mem hs
  simp only [tyw, U1.tyw] at hL ⊢
  simp only [kpre, go_sem, ↓reduceIte, reduceCtorEq, Nat.reduceEqDiff, Nat.reduceAdd, Nat.reduceSub, Nat.reduceMul, Nat.reduceLeDiff, Nat.reduceLT, loadA, rdCells, storeA, setAt, binA]
  refine (hL _ _ [] .nils w ?_ ?_ ?_ ?_ ?_ hw ?_ ?_).mono ?_
  · simp only [List.length_nil]; omega
  · simp only [go_sem, ↓reduceIte, reduceCtorEq, Nat.reduceEqDiff, Nat.reduceAdd, Nat.reduceSub, Nat.reduceMul, Nat.reduceLeDiff, Nat.reduceLT, loadA, rdCells, storeA, setAt, binA]
  · simp only [go_sem, ↓reduceIte, reduceCtorEq, Nat.reduceEqDiff, Nat.reduceAdd, Nat.reduceSub, Nat.reduceMul, Nat.reduceLeDiff, Nat.reduceLT, loadA, rdCells, storeA, setAt, binA]
  · omega
  · simp only [St.new]; omega
  · simp only [go_sem, ↓reduceIte, reduceCtorEq, Nat.reduceEqDiff, Nat.reduceAdd, Nat.reduceSub, Nat.reduceMul, Nat.reduceLeDiff, Nat.reduceLT, loadA, rdCells, storeA, setAt, binA]
  · exact ⟨Or.inl ⟨rfl, rfl⟩, freshO_nils _⟩
  rintro x e S1 ⟨rfl, e1, e2, ⟨lv, e3, hl1, hl2⟩, ⟨w1, hob, hw1⟩, hz, hk⟩
  simp only [go_sem, ↓reduceIte, reduceCtorEq, Nat.reduceEqDiff, Nat.reduceAdd, Nat.reduceSub, Nat.reduceMul, Nat.reduceLeDiff, Nat.reduceLT, loadA, rdCells, storeA, setAt, binA] at e2
  have ho2 := hk (s.size + 1) (by omega) (by omega)
  simp only [go_sem, ↓reduceIte, reduceCtorEq, Nat.reduceEqDiff, Nat.reduceAdd, Nat.reduceSub, Nat.reduceMul, Nat.reduceLeDiff, Nat.reduceLT, loadA, rdCells, storeA, setAt, binA] at ho2 hz
  have hq1 : s.size < S1.size := by omega
  have hso : (AV.strip w1).one = true := by rcases hw1 with ⟨rfl, -⟩ | ⟨f, tk, rfl⟩ <;> rfl
  have hwl := hw1.len
  simp only [e1, e2, e3, hob, hso, hwl, ne_a hq1, ne_b hq1, Nat.le_add_left, go_sem, ↓reduceIte, reduceCtorEq, Nat.reduceEqDiff, Nat.reduceAdd, Nat.reduceSub, Nat.reduceMul, Nat.reduceLeDiff, Nat.reduceLT, loadA, rdCells, storeA, setAt, binA]
  have hzz := len_tszs (lof z)
  have hzs : tsz z = 1 + tszs (lof z) := by cases z; rw [tsz]; rfl
  obtain ⟨SA, hSA⟩ : ∃ SA, SA = (((S1.new (.cells [.int .i64 0, .str ⟨#[]⟩, .int .i64 0, .nils])).put S1.size (some (.cells [.int .i64 (kof z), .str (nof z), .int .i64 (vof z), AV.strip w1]))).put S1.size (some (.cells [.int .i64 (kof z), .str (nof z), .int .i64 (vof z), .nils]))) := ⟨_, rfl⟩
  have hzA : SA.size = S1.size + 1 := by rw [hSA]; rfl
  have hkA : ∀ j, j < S1.size → SA.obj j = S1.obj j := fun j hj => by rw [hSA, put_ne (by omega), put_ne (by omega), new_ne (by omega)]
  have hoA : SA.obj S1.size = some (.cells [.int .i64 (kof z), .str (nof z), .int .i64 (vof z), .nils]) := by rw [hSA, put_eq]
  have hlp : ∀ p o l y, lv = .msl p o l y → s.size + 1 < p ∧ p < S1.size := fun p o l y he => by
    have h1 := hl2 p o l y he
    refine ⟨by omega, ?_⟩
    rcases hl1 with ⟨h, -⟩ | ⟨h, -⟩ | ⟨p', h, -, h'⟩
    · rw [h] at he; cases he
    · rw [h] at he; cases he
    · rw [h] at he; cases he; exact h'
  have hmA : MSl lc 4 SA lv (L.map nfl) := by
    simp only [List.nil_append] at hl1
    exact hl1.of (fun p _ hp => hkA p hp) (by omega)
  rw [← hSA]
  refine (arg_loop hw1 (q := S1.size) (k := kof z) (v := vof z) (m := nof z) (fun a ha => ⟨val_arg (hm3 hv) ha, by have := tsz_mem ha; omega⟩) (by omega) _ s SA ?_ ?_ ?_ ?_ hoA (by omega)).mono ?_
  · simp only [go_sem, ↓reduceIte, reduceCtorEq, Nat.reduceEqDiff, Nat.reduceAdd, Nat.reduceSub, Nat.reduceMul, Nat.reduceLeDiff, Nat.reduceLT, loadA, rdCells, storeA, setAt, binA]
  · simp only [go_sem, ↓reduceIte, reduceCtorEq, Nat.reduceEqDiff, Nat.reduceAdd, Nat.reduceSub, Nat.reduceMul, Nat.reduceLeDiff, Nat.reduceLT, loadA, rdCells, storeA, setAt, binA]
  · simp only [go_sem, ↓reduceIte, reduceCtorEq, Nat.reduceEqDiff, Nat.reduceAdd, Nat.reduceSub, Nat.reduceMul, Nat.reduceLeDiff, Nat.reduceLT, loadA, rdCells, storeA, setAt, binA]
  · simp only [go_sem, ↓reduceIte, reduceCtorEq, Nat.reduceEqDiff, Nat.reduceAdd, Nat.reduceSub, Nat.reduceMul, Nat.reduceLeDiff, Nat.reduceLT, loadA, rdCells, storeA, setAt, binA]
  rintro x e' S3 ⟨rfl, f1, f2, f3, f4, ⟨ov, ho3, hm3', hf3⟩, hk3⟩
  simp only [go_sem, ↓reduceIte, reduceCtorEq, Nat.reduceEqDiff, Nat.reduceAdd, Nat.reduceSub, Nat.reduceMul, Nat.reduceLeDiff, Nat.reduceLT, loadA, rdCells, storeA, setAt, binA] at f1 f2 f3
  have hz3 := hk3.1
  have hm4 : MSl lc 4 S3 lv (L.map nfl) := hmA.of (fun p hp hp2 => hk3.2 p hp2 (by have := hlp _ _ _ _ hp; omega)) hk3.1
  simp only [f1, f2, f3, e1, e2, e3, f4, go_sem, ↓reduceIte, reduceCtorEq, Nat.reduceEqDiff, Nat.reduceAdd, Nat.reduceSub, Nat.reduceMul, Nat.reduceLeDiff, Nat.reduceLT, loadA, rdCells, storeA, setAt, binA]
  have hLl : (L.map nfl).length ≤ big := by
    rw [List.length_map]
    have : ∀ (t : Tm) (L : List Lb) (z : Tm), Spn t L z → L.length ≤ tsz t := by
      intro t L z h
      induction h with
      | nil => simp
      | cons n v a r L e h ih => rw [tsz, tszs, tszs, tszs, List.length_cons]; omega
    have := this _ _ _ hs
    omega
  refine WO_callx [lv, .func 51 []] (by simp only [f3, e3, go_sem, ↓reduceIte, reduceCtorEq, Nat.reduceEqDiff, Nat.reduceAdd, Nat.reduceSub, Nat.reduceMul, Nat.reduceLeDiff, Nat.reduceLT, loadA, rdCells, storeA, setAt, binA]) ((sort_law (fun f hf => Xn_none n f hf) hm4 hLl).mono ?_)
  rintro w4 S4 ⟨hm5, hk4⟩
  have hlo : ∀ j, (∀ p o l y, lv = .msl p o l y → p ≠ j) → notO lv j := fun j h o l y he => h j o l y he rfl
  simp only [f1, f2, f3, e1, e2, e3, f4, go_sem, ↓reduceIte, reduceCtorEq, Nat.reduceEqDiff, Nat.reduceAdd, Nat.reduceSub, Nat.reduceMul, Nat.reduceLeDiff, Nat.reduceLT, loadA, rdCells, storeA, setAt, binA]
  refine WO_callx [lv] (by simp only [f3, e3, go_sem, ↓reduceIte, reduceCtorEq, Nat.reduceEqDiff, Nat.reduceAdd, Nat.reduceSub, Nat.reduceMul, Nat.reduceLeDiff, Nat.reduceLT, loadA, rdCells, storeA, setAt, binA]) ((backw_law (fun f hf => Xn_none n f hf) lv (MSl.one' hm5) S4).mono ?_)
  rintro w5 S5 ⟨rfl, rfl⟩
  have hz4 := hk4.1
  simp only [f2, e2, f4, go_sem, ↓reduceIte, reduceCtorEq, Nat.reduceEqDiff, Nat.reduceAdd, Nat.reduceSub, Nat.reduceMul, Nat.reduceLeDiff, Nat.reduceLT, loadA, rdCells, storeA, setAt, binA]
  refine ⟨S1.size, S4.size, lv, ov, by omega, by omega, by omega, ?_, rfl, ?_, ?_, ?_, rfl, by rw [if_pos rfl], hm5.of (fun p _ hp => new_ne (by omega)) (Nat.le_succ _), hlp, by omega, fun j hj => ?_⟩
  · rw [if_neg (by omega), hk4.2 _ (by omega) (hlo _ fun p o l y he hj => by have := hlp _ _ _ _ he; omega), hk3.2 _ (by omega) (by omega), hkA _ (by omega)]
    exact ho2
  · rw [if_neg (by omega), hk4.2 _ (by omega) (hlo _ fun p o l y he hj => by have := hlp _ _ _ _ he; omega)]
    exact ho3
  · refine hm3'.of (fun p hp hp2 => ?_) (by simp only [St.new]; omega)
    have := hf3 _ _ _ _ hp
    rw [new_ne (by omega), hk4.2 _ hp2 (hlo _ fun p o l y he hj => by have := hlp _ _ _ _ he; omega)]
  · exact hf3.le (by omega)
  · rw [if_neg (by omega), hk4.2 _ (by omega) (hlo _ fun p o l y he hj => by have := hlp _ _ _ _ he; omega), hk3.2 _ (by omega) (by omega), hkA _ (by omega)]
    have := hk j (by omega) (by omega)
    rw [this, new_ne (by simp only [St.new]; omega), new_ne (by omega)]
end Go.Am.U2
