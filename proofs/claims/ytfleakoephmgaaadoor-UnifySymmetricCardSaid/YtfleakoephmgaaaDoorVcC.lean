/- UnifySymmetric: the walk. Conditions: none. -/
import Derived.Test.YtfleakoephmgaaaDoorVcB
import Derived.Test.YtfleakoephmgaaaDoorVbG
import Derived.Test.YtfleakoephmgaaaDoorUnO
import Derived.HandedShaped
set_option linter.unusedSimpArgs false
set_option linter.unusedVariables false
namespace Go.Am.U2
open Go.Am.Un Go.So
open Go.Am.U1 (tycP isl_tycs drop_at tyw tyc_w NoX vtm vtm_c vars vars_len vars_at len_tszs tsz_pos ne_a ne_b ne_c ne_d ne_e ne_f avr WalkTo Ap Aps Acy Wt Un TyOk CkOk Le UniN ExtN JEq Small)
set_option maxRecDepth 100000
set_option linter.unusedSimpArgs false
attribute [local go_sem] wseq COp.isStore wreg wdreg wret wskip wexit wblock wcnd cnd_t cnd_f then_n then_x then_r catch_n rnd_n rnd_x rnd_r catch_x catch_r wo_nil wo_grd grdO_t grdO_f wo_ops stpO wr_nil wr_alloc wr_guards grdR_t grdR_f wr_ops stpR evAllocs evOp env0_app eput_some eput_none eset_app Opd.ev wantedA faddrA snew_obj snew_size sput_obj sput_size av_cells av_one av_strip av_still unA eqbA fillA fldA lensA mmA mm2 mmFold List.getD_cons_zero List.getD_cons_succ List.getD_nil List.length_cons List.length_nil List.drop_zero List.drop_succ_cons List.take_succ_cons List.take_zero List.map_cons List.map_nil List.set_cons_zero List.set_cons_succ List.all_cons List.all_nil List.getElem?_cons_zero List.getElem?_cons_succ List.nil_append List.cons_append Nat.zero_add Nat.add_zero beq_self_eq_true bt bf Bool.not_true Bool.not_false Bool.and_true Bool.true_and Bool.and_false Bool.false_and and_self and_true true_and n0 n1 n2 n3 n4 m0 m1 m2 m3 c1 retA resAs resA undefA Option.map_some Option.map_none
variable {X : Ext}

set_option maxHeartbeats 16000000 in
theorem symmetric_law (a b : Tm) (s : St) : WC T Xb 5 [.agg (tyc a), .agg (tyc b)] s (fun v _ => v = .bool true) := by
  have hX : NoX Xb := Xb_none
  refine WC_fn cf5 (hX 5 (by decide)) T5 (by simp [cf5]) ?_
  rw [tyc_w a, tyc_w b, tyw, tyw]
  simp only [cf5, Nat.le_add_left, go_sem, ↓reduceIte, reduceCtorEq, Nat.reduceEqDiff, Nat.reduceAdd, Nat.reduceSub, Nat.reduceMul, Nat.reduceLeDiff, Nat.reduceLT, loadA, rdCells, storeA, setAt, binA]
  refine WO_callx _ rfl (((U1.pair_law hX _ _ _).sub sub).mono ?_)
  rintro w S1 ⟨sv, rfl, hsv, hsn, hk1⟩
  simp only [go_sem, ↓reduceIte, reduceCtorEq, Nat.reduceEqDiff, Nat.reduceAdd, Nat.reduceSub, Nat.reduceMul, Nat.reduceLeDiff, Nat.reduceLT, loadA, rdCells, storeA, setAt, binA]
  refine WO_callx _ rfl ((num_law hX _).mono ?_)
  rintro w S2 ⟨rfl, hk2⟩
  simp only [go_sem, ↓reduceIte, reduceCtorEq, Nat.reduceEqDiff, Nat.reduceAdd, Nat.reduceSub, Nat.reduceMul, Nat.reduceLeDiff, Nat.reduceLT, loadA, rdCells, storeA, setAt, binA]
  have hvl := vars_len 12
  have h12 : (vars 12).length ≤ 4398046511104 := by rw [hvl]; decide
  have h12p : 0 < (vars 12).length := by rw [hvl]; decide
  have hu1 := fun S => (U1.unifyN_law hX hsv h12p h12 ((vars 12).set 0 numT) numT (vtm 0) (.sl [] 0 false none) .nils (Or.inr ⟨_, _, rfl⟩) (Or.inl ⟨rfl, rfl⟩) 0 (fun _ _ _ => run_nv (by decide)) S).sub sub
  refine WO_callx [sv, .agg (tyw numT (.sl [] 0 false none)), .agg (tyw (vtm 0) .nils)] (by simp only [go_sem, ↓reduceIte, reduceCtorEq, Nat.reduceEqDiff, Nat.reduceAdd, Nat.reduceSub, Nat.reduceMul, Nat.reduceLeDiff, Nat.reduceLT, loadA, rdCells, storeA, setAt, binA]; rfl) ((hu1 _).mono ?_)
  rintro w S3 ⟨e3, ⟨rv, rfl, hq, -, hk3⟩, he3, -⟩
  obtain rfl : e3 = 0 := he3 ⟨ck_vars, ty_num _, by rw [hvl]; exact ty_vtm (by decide) (by decide)⟩
  obtain ⟨q1, rfl, oq1, zq1, lq1⟩ := hq rfl
  have hf1 := frz_ms oq1
  have hl1 : ((vars 12).set 0 numT).length = 12 := by rw [List.length_set, hvl]
  rw [hl1] at hf1
  have hlen1 := (isl_flat ((vars 12).set 0 numT)).len
  obtain ⟨r1, hen1⟩ := U1.isl_ent (isl_flat ((vars 12).set 0 numT)) (v := 0) (u := numT) (List.getElem?_set_self (by rw [hvl]; decide))
  rw [hl1] at hlen1 hen1
  have c3 : (((0 : Nat) : Int)) = 0 := rfl
  have c12 : (((12 : Nat) : Int)) = 12 := rfl
  rw [c3] at hen1
  have z00 : ((0 : Int) != 0) = false := rfl
  have z12 : ((12 : Int) != 12) = false := rfl
  have zk : (kof numT != 1) = false := rfl
  obtain ⟨S0, hS0⟩ : ∃ S0, S0 = (s.new (.cells [.int .i64 (kof a), .str (nof a), .int .i64 (vof a), .sl (tycs (lof a)) (lof a).length false none])).new (.cells [.int .i64 (kof b), .str (nof b), .int .i64 (vof b), .sl (tycs (lof b)) (lof b).length false none]) := ⟨_, rfl⟩
  rw [← hS0] at hk1
  have hz0 : S0.size = s.size + 2 := by rw [hS0]; rfl
  have bx : ∀ S, Keep S0 S → S.obj s.size = some (.cells [.int .i64 (kof a), .str (nof a), .int .i64 (vof a), .sl (tycs (lof a)) (lof a).length false none]) ∧ S.obj (s.size + 1) = some (.cells [.int .i64 (kof b), .str (nof b), .int .i64 (vof b), .sl (tycs (lof b)) (lof b).length false none]) := by
    intro S hk
    refine ⟨hk.obj (by omega) ?_, hk.obj (by omega) ?_⟩ <;> rw [hS0]
    · rw [new_ne (by simp only [St.new]; omega), new_eq rfl]
    · exact new_eq rfl
  have k03 := (hk1.trans hk2).trans hk3
  have z02 := (hk1.trans hk2).1
  obtain ⟨S4, hS4⟩ : ∃ S4, S4 = S3.put q1 (some (.froz (((vars 12).set 0 numT).flatMap tyc))) := ⟨_, rfl⟩
  have k04 : Keep S0 S4 := by rw [hS4]; exact k03.put' (by omega) _
  rw [← hS4] at hf1
  obtain ⟨ba4, bb4⟩ := bx S4 k04
  simp only [hl1, hf1, hlen1, hen1, z00, z12, zk, c12, ba4, bb4, Nat.le_add_left, go_sem, ↓reduceIte, reduceCtorEq, Nat.reduceEqDiff, Nat.reduceAdd, Nat.reduceSub, Nat.reduceMul, Nat.reduceLeDiff, Nat.reduceLT, loadA, rdCells, storeA, setAt, binA]
  obtain ⟨e1, ss1, hr1⟩ := runs (vars 12) a b
  obtain ⟨f1, ss2, hr2⟩ := runs (vars 12) b a
  have hu2 := fun S => (U1.unifyN_law hX hsv h12p h12 ss1 a b _ _ (isl_tycs (lof a)) (isl_tycs (lof b)) e1 hr1 S).sub sub
  have hu3 := fun S => (U1.unifyN_law hX hsv h12p h12 ss2 b a _ _ (isl_tycs (lof b)) (isl_tycs (lof a)) f1 hr2 S).sub sub
  simp only [tyw] at hu2 hu3
  refine WO_callx _ rfl ((hu2 _).mono ?_)
  rintro w S5 ⟨e2, ⟨rv2, rfl, hq2, hn2, hk5⟩, ha2, hb2⟩
  have k05 := k04.trans hk5
  have hz4 := k04.1
  have hfz2 : ∃ w2 S6, frzA S5 rv2 = some (w2, S6) ∧ Keep S0 S6 ∧ (e2 = 0 → w2 = .sl (ss1.flatMap tyc) ss1.length false none) := by
    by_cases h : e2 = 0
    · obtain ⟨q2, rfl, oq2, zq2, lq2⟩ := hq2 h
      exact ⟨_, _, frz_ms oq2, k05.put' (by omega) _, fun _ => rfl⟩
    · obtain rfl := hn2 h
      exact ⟨_, _, frz_nil S5, k05, fun h0 => absurd h0 h⟩
  obtain ⟨w2, S6, hfz2, k06, hw2⟩ := hfz2
  obtain ⟨ba6, bb6⟩ := bx S6 k06
  simp only [hfz2, ba6, bb6, Nat.le_add_left, go_sem, ↓reduceIte, reduceCtorEq, Nat.reduceEqDiff, Nat.reduceAdd, Nat.reduceSub, Nat.reduceMul, Nat.reduceLeDiff, Nat.reduceLT, loadA, rdCells, storeA, setAt, binA]
  refine WO_callx _ rfl ((hu3 _).mono ?_)
  rintro w S7 ⟨f2, ⟨rv3, rfl, hq3, hn3, hk7⟩, ha3, hb3⟩
  have k07 := k06.trans hk7
  have hz6 := k06.1
  have hfz3 : ∃ w3 S8, frzA S7 rv3 = some (w3, S8) ∧ Keep S0 S8 ∧ (f2 = 0 → w3 = .sl (ss2.flatMap tyc) ss2.length false none) := by
    by_cases h : f2 = 0
    · obtain ⟨q3, rfl, oq3, zq3, lq3⟩ := hq3 h
      exact ⟨_, _, frz_ms oq3, k07.put' (by omega) _, fun _ => rfl⟩
    · obtain rfl := hn3 h
      exact ⟨_, _, frz_nil S7, k07, fun h0 => absurd h0 h⟩
  obtain ⟨w3, S8, hfz3, k08, hw3⟩ := hfz3
  obtain ⟨ba8, bb8⟩ := bx S8 k08
  have hres : ¬ (e2 = 0 ∧ f2 = 0) → ((e2 == 0) == (f2 == 0)) = true ∨ e2 = 2 ∨ f2 = 2 := by
    intro h
    by_cases hok : CkOk (vars 12) ∧ TyOk (vars 12).length a ∧ TyOk (vars 12).length b
    · obtain ⟨hc, hta, htb⟩ := hok
      have he : e2 = e1 := ha2 ⟨hc, hta, htb⟩
      have hf : f2 = f1 := ha3 ⟨hc, htb, hta⟩
      subst he; subst hf
      have wa := U1.tyok_wt hta
      have wb := U1.tyok_wt htb
      rw [hvl] at wa wb
      by_cases h0 : e2 = 0
      · subst h0
        rcases (sym_dir wa wb (hr1 hc hta htb) (hr2 hc htb hta)).1 with h2 | h2
        · exact absurd ⟨rfl, h2⟩ h
        · exact Or.inr (Or.inr h2)
      · by_cases h1 : f2 = 0
        · subst h1
          rcases (sym_dir wb wa (hr2 hc htb hta) (hr1 hc hta htb)).1 with h2 | h2
          · exact absurd h2 h0
          · exact Or.inr (Or.inl h2)
        · left
          have g1 : (e2 == 0) = false := by simpa using h0
          have g2 : (f2 == 0) = false := by simpa using h1
          rw [g1, g2]; rfl
    · left
      have g1 : (e2 == 0) = false := by simpa using hb2 hok
      have g2 : (f2 == 0) = false := by simpa using hb3 fun ⟨h1, h2, h3⟩ => hok ⟨h1, h3, h2⟩
      rw [g1, g2]; rfl
  by_cases hboth : e2 = 0 ∧ f2 = 0
  · obtain ⟨he0, hf0⟩ := hboth
    subst he0; subst hf0
    obtain rfl := hw2 rfl
    obtain rfl := hw3 rfl
    simp only [hfz3, z00, Nat.le_add_left, go_sem, ↓reduceIte, reduceCtorEq, Nat.reduceEqDiff, Nat.reduceAdd, Nat.reduceSub, Nat.reduceMul, Nat.reduceLeDiff, Nat.reduceLT, loadA, rdCells, storeA, setAt, binA]
    have hok : CkOk (vars 12) ∧ TyOk (vars 12).length a ∧ TyOk (vars 12).length b := Classical.byContradiction fun h => hb2 h rfl
    obtain ⟨hc, hta, htb⟩ := hok
    have he : e1 = 0 := (ha2 ⟨hc, hta, htb⟩).symm
    have hf : f1 = 0 := (ha3 ⟨hc, htb, hta⟩).symm
    subst he; subst hf
    have run1 := hr1 hc hta htb
    have run2 := hr2 hc htb hta
    obtain ⟨fn1, hl01, -, sm1, -⟩ := un_ck run1 hc hta htb
    obtain ⟨fn2, hl02, -, sm2, -⟩ := un_ck run2 hc htb hta
    have wa := U1.tyok_wt hta
    have wb := U1.tyok_wt htb
    have wa1 := U1.wt_le hl01 _ wa
    have wa2 := U1.wt_le hl02 _ wa
    obtain ⟨rk1, hac1⟩ := fn1.1
    obtain ⟨rk2, hac2⟩ := fn2.1
    obtain ⟨A1, hA1⟩ := hac1.ex wa1
    obtain ⟨A2, hA2⟩ := hac2.ex wa2
    have wA1 := ap_wt hac1 hA1 wa1
    have wA2 := ap_wt hac2 hA2 wa2
    have t1 := ap_tsz sm1 hA1 wa1
    have t2 := ap_tsz sm2 hA2 wa2
    have ta := U1.tyok_tsz hta
    rw [hvl] at wa wb
    have hfr := sym_free wa wb run1 run2 hA1 hA2 (U1.wt_val _ wA1) (U1.wt_val _ wA2)
    have p1 := fun S => apply_law hX (isl_flat ss1) hac1 _ a A1 hA1 (Nat.le_refl _) wa1 S
    have p2 := fun S => apply_law hX (isl_flat ss2) hac2 _ a A2 hA2 (Nat.le_refl _) wa2 S
    rw [tyc_w a, tyw, tyc_w A1, tyw] at p1
    rw [tyc_w a, tyw, tyc_w A2, tyw] at p2
    have g1 := fun S => (U1.free_law hX (tsz A1) A1 (Nat.le_refl _) (by omega) _ S (isl_tycs (lof A1))).sub sub
    have g2 := fun S => (U1.free_law hX (tsz A2) A2 (Nat.le_refl _) (by omega) _ S (isl_tycs (lof A2))).sub sub
    simp only [tyw] at g1 g2
    refine W_dreg ?_
    obtain ⟨SA, hSA⟩ : ∃ SA, SA = (S8.new (.cells [.int .i64 0, .str ⟨#[]⟩, .int .i64 0, .nils])).new (.cells [.int .i64 0, .str ⟨#[]⟩, .int .i64 0, .nils]) := ⟨_, rfl⟩
    have k8A : Keep S8 SA := by rw [hSA]; exact ((Keep.refl S8).new' _).new' _
    have k0A := k08.trans k8A
    have zA : SA.size = S8.size + 2 := by rw [hSA]; rfl
    have o13 : SA.obj S8.size = some (.cells [.int .i64 0, .str ⟨#[]⟩, .int .i64 0, .nils]) := by rw [hSA, new_ne (by simp only [St.new]; omega), new_eq rfl]
    have o14 : SA.obj (S8.size + 1) = some (.cells [.int .i64 0, .str ⟨#[]⟩, .int .i64 0, .nils]) := by rw [hSA]; exact new_eq rfl
    obtain ⟨baA, bbA⟩ := bx SA k0A
    have n3 : (s.size = S8.size + 1) = False := eq_false (by have := k08.1; omega)
    have n4 : (s.size = S8.size) = False := eq_false (by have := k08.1; omega)
    simp only [wt_ops, stpT, Tr, ba8, n3, n4, wt_nil, chk1, avr, wt_alloc, Bool.or_true, Nat.le_add_left, go_sem, ↓reduceIte, reduceCtorEq, Nat.reduceEqDiff, Nat.reduceAdd, Nat.reduceSub, Nat.reduceMul, Nat.reduceLeDiff, Nat.reduceLT, loadA, rdCells, storeA, setAt, binA]
    rw [← hSA]
    refine WT_callx _ rfl ((p1 _).mono ?_)
    rintro w SB ⟨rfl, jB⟩
    have k0B := k0A.trans jB
    obtain ⟨baB, bbB⟩ := bx SB k0B
    simp only [wt_ops, stpT, Tr, baB, wt_nil, chk1, avr, wt_alloc, Bool.or_true, Nat.le_add_left, go_sem, ↓reduceIte, reduceCtorEq, Nat.reduceEqDiff, Nat.reduceAdd, Nat.reduceSub, Nat.reduceMul, Nat.reduceLeDiff, Nat.reduceLT, loadA, rdCells, storeA, setAt, binA]
    refine WT_callx _ rfl ((p2 _).mono ?_)
    rintro w SC ⟨rfl, jC⟩
    have jAC := jB.trans jC
    have k0C := k0A.trans jAC
    have o13C := jAC.obj (by omega) o13
    have o14C := jAC.obj (by omega) o14
    have zC := jAC.1
    have n1 : (S8.size + 1 = S8.size) = False := eq_false (by omega)
    have n2 : (S8.size = S8.size + 1) = False := eq_false (by omega)
    have q1 : s.size ≠ S8.size := by have := k08.1; omega
    simp only [wt_ops, stpT, Tr, baA, baB, o13C, o14C, n1, n2, wt_nil, chk1, avr, wt_alloc, Bool.or_true, Bool.false_or, setAt, Nat.le_add_left, go_sem, ↓reduceIte, reduceCtorEq, Nat.reduceEqDiff, Nat.reduceAdd, Nat.reduceSub, Nat.reduceMul, Nat.reduceLeDiff, Nat.reduceLT, loadA, rdCells, storeA, setAt, binA]
    obtain ⟨SD, hSD⟩ : ∃ SD, SD = (SC.put S8.size (some (.cells [.int .i64 (kof A1), .str (nof A1), .int .i64 (vof A1), .sl (tycs (lof A1)) (lof A1).length false none]))).put (S8.size + 1) (some (.cells [.int .i64 (kof A2), .str (nof A2), .int .i64 (vof A2), .sl (tycs (lof A2)) (lof A2).length false none])) := ⟨_, rfl⟩
    have o13D : SD.obj S8.size = some (.cells [.int .i64 (kof A1), .str (nof A1), .int .i64 (vof A1), .sl (tycs (lof A1)) (lof A1).length false none]) := by rw [hSD, put_ne (by omega), put_eq]
    have o14D : SD.obj (S8.size + 1) = some (.cells [.int .i64 (kof A2), .str (nof A2), .int .i64 (vof A2), .sl (tycs (lof A2)) (lof A2).length false none]) := by rw [hSD, put_eq]
    have zD : SD.size = SC.size := by rw [hSD]; rfl
    rw [← hSD]
    refine W_dreg ?_
    simp only [wt_ops, stpT, Tr, o13D, o14D, wt_nil, chk1, avr, wt_alloc, Bool.or_true, Nat.le_add_left, go_sem, ↓reduceIte, reduceCtorEq, Nat.reduceEqDiff, Nat.reduceAdd, Nat.reduceSub, Nat.reduceMul, Nat.reduceLeDiff, Nat.reduceLT, loadA, rdCells, storeA, setAt, binA]
    refine WT_callx _ rfl ((g1 _).mono ?_)
    rintro fv SE ⟨hfv, jE⟩
    have o13E := jE.obj (by omega) o13D
    have o14E := jE.obj (by omega) o14D
    have hl2 := hfv.len
    simp only [wt_ops, stpT, Tr, hl2, o13D, o14D, o13E, o14E, wt_nil, chk1, avr, wt_alloc, Bool.or_true, Nat.le_add_left, go_sem, ↓reduceIte, reduceCtorEq, Nat.reduceEqDiff, Nat.reduceAdd, Nat.reduceSub, Nat.reduceMul, Nat.reduceLeDiff, Nat.reduceLT, loadA, rdCells, storeA, setAt, binA]
    refine WT_callx _ rfl ((g2 _).mono ?_)
    rintro gv SF ⟨hgv, jF⟩
    have hl3 := hgv.len
    have hz : (((fre A1).length : Int) == ((fre A2).length : Int)) = true := by rw [hfr]; simp
    simp only [wt_ops, stpT, Tr, hl3, hz, o13D, o14D, o13E, o14E, wt_nil, chk1, avr, wt_alloc, Bool.or_true, Bool.false_or, Nat.le_add_left, go_sem, ↓reduceIte, reduceCtorEq, Nat.reduceEqDiff, Nat.reduceAdd, Nat.reduceSub, Nat.reduceMul, Nat.reduceLeDiff, Nat.reduceLT, loadA, rdCells, storeA, setAt, binA]
    exact ⟨by simp, _, rfl, rfl⟩
  · have hr := hres hboth
    cases h0 : (e2 != 0)
    · have he0 : e2 = 0 := by simpa using h0
      subst he0
      have hf0 : f2 ≠ 0 := fun h => hboth ⟨rfl, h⟩
      have h1 : (f2 != 0) = true := by simpa using hf0
      have h2 : (f2 == 0) = false := by simpa using hf0
      have h3 : ((0 : Int) == 0) = true := rfl
      have h4 : ((0 : Int) == 2) = false := rfl
      have h5 : (f2 == 2) = true := by
        rcases hr with hr | hr | hr
        · rw [h2, h3] at hr; cases hr
        · cases hr
        · simp [hr]
      have h6 : (true == false) = false := rfl
      simp only [hfz3, z00, h1, h2, h3, h4, h5, h6, Nat.le_add_left, go_sem, ↓reduceIte, reduceCtorEq, Nat.reduceEqDiff, Nat.reduceAdd, Nat.reduceSub, Nat.reduceMul, Nat.reduceLeDiff, Nat.reduceLT, loadA, rdCells, storeA, setAt, binA]
      exact ⟨by simp, _, rfl, rfl⟩
    · have he0 : e2 ≠ 0 := by simpa using h0
      have h2 : (e2 == 0) = false := by simpa using he0
      cases h3 : (f2 == 0)
      · have h6 : (false == false) = true := rfl
        simp only [hfz3, h0, h2, h3, h6, Nat.le_add_left, go_sem, ↓reduceIte, reduceCtorEq, Nat.reduceEqDiff, Nat.reduceAdd, Nat.reduceSub, Nat.reduceMul, Nat.reduceLeDiff, Nat.reduceLT, loadA, rdCells, storeA, setAt, binA]
        exact ⟨by simp, _, rfl, rfl⟩
      · have h6 : (false == true) = false := rfl
        have h5 : (e2 == 2) = true := by
          rcases hr with hr | hr | hr
          · rw [h2, h3] at hr; cases hr
          · simp [hr]
          · rw [hr] at h3; cases h3
        simp only [hfz3, h0, h2, h3, h5, h6, Nat.le_add_left, go_sem, ↓reduceIte, reduceCtorEq, Nat.reduceEqDiff, Nat.reduceAdd, Nat.reduceSub, Nat.reduceMul, Nat.reduceLeDiff, Nat.reduceLT, loadA, rdCells, storeA, setAt, binA]
        exact ⟨by simp, _, rfl, rfl⟩
end Go.Am.U2

/- UnifyExtends: the arguments. Conditions: none. -/
namespace Go.Am.U2
open Go.Am.Un Go.So Go.Proofs
set_option maxRecDepth 100000
theorem arg_tm {a : AV} (h : TyA Tryd.prog 24 a) : ∃ t, a = .agg (tyc t) := by
  unfold TyA TyAR at h
  rw [Tryd.underlying24] at h
  obtain ⟨cs, rfl, h3⟩ := h
  obtain ⟨t, rfl⟩ := U1.tm_of _ cs (Nat.le_refl _) h3
  exact ⟨t, rfl⟩
end Go.Am.U2

/- UnifySymmetric: the arguments. Conditions: none. -/
namespace Go.Am.U2
open Go.Am.Un Go.So Go.Proofs
set_option maxRecDepth 100000
theorem symmetric_all : ∀ us, TyAs Tryd.prog [24, 24] us → WC T Xb 5 us st0 (fun v _ => v = .bool true) := by
  intro us h
  cases h with | cons t a ts us h1 hs =>
  cases hs with | cons t b ts us h2 hs =>
  cases hs
  obtain ⟨a, rfl⟩ := arg_tm h1
  obtain ⟨b, rfl⟩ := arg_tm h2
  exact symmetric_law a b st0
end Go.Am.U2

/- The wrap of a row that lists variables, the world's shape kept. Conditions: none. -/
namespace Go
variable {H : Type} {enc : TypeId × Value → H}

theorem returnsInHanded_of_change_and_shaped {a : Assume} {C : Checked} {os : Os} {f : FuncId} {fn : Func} {s : ChangeSpec} {conds : List PathCond} {apart fresh handsOn again : Bool} {X : World → Array Value → Prop}
    (hX : ∀ (w w' : World) (args : Array Value), w.heap = w'.heap → X w args → X w' args)
    (own : ownKnob C.prog.godebug = none) (started : os.Started) (noInit : C.prog.inits.idxOf? f = none) (hfn : C.prog.funcs[f]? = some fn)
    (witness : ∃ (w : World) (tape : Tape) (i : Input), w.os = os ∧ (w.forCall tape i).Shaped C.prog ∧ i.vars = [] ∧ Input.okWide C.prog (w.forCall tape i) .any w.heap.size f i ∧
      ((s.pre enc C.prog fn conds apart (w.forCall tape i).memory i.args ∧ X (w.forCall tape i).memory i.args) ∧ sizedMet enc C.prog fn (OpenSpec.ofChange s) apart (w.forCall tape i).memory i.args) ∧ a.holds C.prog (lone (Frame.enter C.prog f i.args .normal) [] (w.forCall tape i)))
    (contract : ∀ (W : World) (base : Nat) (args : Array Value) (ds gs : List (DataW H)) (before : List MemPlace),
      (∀ (j : Nat) t v, fn.params[j]? = some t → args[j]? = some v → Value.okWide C.prog W .any base t v) →
      DataW.Whole enc C.prog fn.params.toList s.vars apart W args.toList ds gs before →
      (DataW.weightsEach C.prog (fn.params.toList ++ s.plain.varTypes C.prog) (ds ++ gs)).all (· ≤ reachBytes) = true → X W args → W.ShapedOpen C.prog →
      Calls C.prog f args W fun e W' => ∃ v, e = .returned v ∧ s.post enc C.prog fn apart fresh handsOn again W args v W') :
    ReturnsInHanded a C os f .any (fun w args => (s.pre enc C.prog fn conds apart w args ∧ X w args) ∧ sizedMet enc C.prog fn (OpenSpec.ofChange s) apart w args) (s.post enc C.prog fn apart fresh handsOn again) := by
  refine returnsInHanded_of_calls own started noInit witness ?_
  intro w tape i _ hsh _ hok hpre hholds
  obtain ⟨_, _, _, fn', hfn', _, _, _, _, hval⟩ := hok
  have e : fn' = fn := Option.some.inj (hfn'.symm.trans hfn)
  subst e
  obtain ⟨⟨⟨ds, gs, before, hw, hc⟩, hx⟩, hz⟩ := hpre
  have hw' := DataW.Whole.of_heap (w' := w.forCall tape i) (by rfl) hw
  refine (contract (w.forCall tape i) w.heap.size i.args ds gs before hval hw' (hz.weights hw) (hX _ _ _ (by rfl) hx) hsh).mono fun e W' ⟨v, he, hp⟩ => ?_
  subst he
  exact ChangeSpec.post_blind hp
end Go
