/- Rows of labels: the check, the variables, the size, the normal form. Conditions: none. -/
import Derived.Test.YtfleakoephmgaaaDoorUuB
import Derived.Test.YtfleakoephmgaaaDoorUoB
import Derived.Test.YtfleakoephmgaaaDoorUnO
set_option linter.unusedSimpArgs false
set_option linter.unusedVariables false
namespace Go.Am.U2
open Go.Am.Un Go.So
open Go.Am.U1 (vtm)
set_option linter.unusedSimpArgs false

/-- What stands at a label. -/
def ElT (t : Tm) : Prop := t = numT ∨ ∃ i, i < 12 ∧ t = vtm i
theorem chk_el {t : Tm} (h : ElT t) {d left : Int} (hl : 1 ≤ left) (hd : d ≤ 400) : chk false d left t = (0, left - 1) := by
  rcases h with rfl | ⟨i, hi, rfl⟩
  · rw [numT, chk, if_neg (by omega), if_neg (by omega), if_neg (by simp [szK]), if_neg (by simp), if_neg (by simp), chks]
  · rw [vtm, chk, if_neg (by omega), if_neg (by omega), if_neg (by simp [szK]), if_neg (by simp), if_neg (by omega), chks]
theorem ltB_tot {a b : ByteArray} (h1 : ltB a b = false) (h2 : ltB b a = false) : a = b := by
  have h := bl_tri a.toList b.toList
  unfold ltB at h1 h2
  rw [h1, h2] at h
  refine bts_inj (beq_iff_eq.1 ?_)
  simpa using h
end Go.Am.U2

/- The sizes of what a substitution makes; the first runs of the unifier's laws. Conditions: none. -/
namespace Go.Am.U2
open Go.Am.Un Go.So
open Go.Am.U1 (vtm vars vars_len vars_at vtm_c WalkTo Ap Aps Acy Wt Wts Un BdR OC Small szd szd_0 Fine JWt Self TyOk CkOk Le ap_con ap_det wt_var self_ap grow two ExR tsz_pos)
set_option linter.unusedSimpArgs false

theorem bd_small {ss ss' : List Tm} {i : Nat} {t : Tm} {e : Int} (h : BdR ss i t e ss') (he : e = 0) (hs : Small ss) : Small ss' := by
  rcases h with ⟨-, -, -, rfl⟩ | ⟨-, -, rfl, -⟩ | ⟨-, -, h, rfl⟩
  · exact hs
  · cases he
  · exact szd_0.1 (h.symm.trans he)
theorem ex_small {l : ByteArray} {z : Int} {ss ss' : List Tm} {r t q : Tm} {e : Int} (h : ExR l z ss r e t q ss') : e = 0 → Small ss → Small ss' := by
  induction h with
  | cyc => exact fun h => by cases h
  | large => exact fun h => by cases h
  | new => exact fun h _ => szd_0.1 h
  | stop => exact fun h => by cases h
  | here => exact fun _ h => h
  | there r m v x y e t q ss' hw hm h ih => exact ih
theorem un_small {ss ss' : List Tm} {j : U1.Jb} {e : Int} (h : Un ss j e ss') : e = 0 → Small ss → Small ss' := by
  induction h with
  | bl ss a b b' i e ss' wa wb h => exact bd_small h
  | br ss a b a' i e ss' wa ha wb h => exact bd_small h
  | row ss a b b' n v x y e ss' wa wb hb h ih => exact ih
  | bad => exact fun h => by cases h
  | args ss a b k n n' v v' l l' e ss' wa wb hk hr hn hl' h ih => exact ih
  | nil => exact fun _ h => h
  | ok ss ss1 ss2 a b l m e h hs ih1 ih2 => exact fun he hs => ih2 he (ih1 rfl hs)
  | fail ss ss1 a b l m e h he hl' ih => exact fun h => absurd h he
  | exf ss ss1 n v x y b t q z e ht h he => exact fun h => absurd h he
  | hdf ss ss1 ss2 n v x y b t q z e ht h h1 he ih => exact fun h => absurd h he
  | rok ss ss1 ss2 ss3 n v x y b t q z e ht h h1 h2 ih1 ih2 => exact fun he hs => ih2 he (ih1 rfl (ex_small h rfl hs))

mutual
theorem ap_wt {ss : List Tm} {rk : Nat → Nat} (hac : Acy ss rk) : ∀ {t A : Tm}, Ap ss t A → Wt ss.length t → Wt ss.length A
  | _, _, .self t u i h hv hi hu hw, hw2 => hw2
  | _, _, .step t u A i h hv hi hn hr, _ => ap_wt hac hr (hac.wt i u hi)
  | _, _, .con k n v l L hk hs, hw2 => by
    rw [Wt] at hw2 ⊢
    have hl := U1.aps_len hs
    obtain ⟨h1, h2, h3, h4, h5, h6, h7, h8, h9, h10⟩ := hw2
    exact ⟨h1, h2, fun h => absurd h hk, h4, fun h => hl.trans (h5 h), fun h => hl.trans (h6 h), fun h => hl.trans (h7 h), fun h => hl.trans (h8 h), by omega, aps_wt hac hs h10⟩
theorem aps_wt {ss : List Tm} {rk : Nat → Nat} (hac : Acy ss rk) : ∀ {l L : List Tm}, Aps ss l L → Wts ss.length l → Wts ss.length L
  | _, _, .nil, h => h
  | _, _, .cons a A l L h hs, hw => by
    rw [Wts] at hw ⊢
    exact ⟨ap_wt hac h hw.1, aps_wt hac hs hw.2⟩
end
mutual
theorem ap_tsz {ss : List Tm} (hsm : Small ss) : ∀ {t A : Tm}, Ap ss t A → Wt ss.length t → tsz A ≤ 4096 * tsz t
  | _, _, .self t u i h hv hi hu hw, _ => by omega
  | _, _, .step t u A i h hv hi hn hr, hw => by
    obtain ⟨j, hj, rfl⟩ := wt_var hw h
    have := hsm j A hj (.step _ u A i h hv hi hn hr)
    have := tsz_pos (vtm j)
    omega
  | _, _, .con k n v l L hk hs, hw => by
    rw [Wt] at hw
    have := aps_tsz hsm hs hw.2.2.2.2.2.2.2.2.2
    rw [tsz, tsz]
    omega
theorem aps_tsz {ss : List Tm} (hsm : Small ss) : ∀ {l L : List Tm}, Aps ss l L → Wts ss.length l → tszs L ≤ 4096 * tszs l
  | _, _, .nil, _ => by simp [tszs]
  | _, _, .cons a A l L h hs, hw => by
    rw [Wts] at hw
    have h1 := ap_tsz hsm h hw.1
    have h2 := aps_tsz hsm hs hw.2
    rw [tszs, tszs]
    omega
end

theorem ap_vars {i : Nat} (hi : i < 12) {A : Tm} (h : Ap (vars 12) (vtm i) A) : A = vtm i :=
  ap_det h (.self _ (vtm i) i rfl rfl (vars_at hi) rfl rfl)
theorem small_vars : Small (vars 12) := fun i A hi h => by
  rw [vars_len] at hi
  rw [ap_vars hi h, vtm, tsz, tszs]; omega
theorem ty_vtm {i N : Nat} (hi : i < 12) (hN : i < N) : TyOk N (vtm i) := by
  refine ⟨?_, ?_⟩
  · rw [show decide (kof (vtm i) ≥ 4) = false from rfl, U1.chk_vtm hi]
  · rw [vtm, fre, if_pos rfl]; simp; omega
theorem ty_num (N : Nat) : TyOk N numT := by
  refine ⟨?_, ?_⟩
  · rw [show decide (kof numT ≥ 4) = false from rfl, chk_el (Or.inl rfl) (by omega) (by omega)]
  · rw [numT, fre]; simp [fres]
theorem ck_vars : CkOk (vars 12) := by
  refine ⟨by rw [vars_len]; decide, fun i u hu => ?_, fine_vars.1, small_vars⟩
  have hi : i < 12 := by have := (List.getElem?_eq_some_iff.1 hu).1; rwa [vars_len] at this
  rw [vars_at hi] at hu; cases hu
  exact ty_vtm hi (by rw [vars_len]; exact hi)

theorem not_occ_num (x : Int) : ¬ Occ x numT := by rw [numT, Occ]; simp [Occs]
theorem ap_num {ss : List Tm} {A : Tm} (h : Ap ss numT A) : A = numT := by
  obtain ⟨L, rfl, hL⟩ := ap_con (by decide) h
  cases hL; rfl
theorem bd_num {i : Nat} (hi : i < 12) : BdR (vars 12) i numT 0 ((vars 12).set i numT) := by
  have hn : ¬ (kof numT = 0 ∧ vof numT = (i : Int)) := by simp [numT, kof]
  refine Or.inr (Or.inr ⟨hn, fun ⟨B, h1, h2⟩ => by rw [ap_num h1] at h2; exact not_occ_num _ h2, (szd_0.2 fun j A hj hA => ?_).symm, rfl⟩)
  rw [List.length_set, vars_len] at hj
  have hl : i < (vars 12).length := by rw [vars_len]; exact hi
  by_cases hij : i = j
  · subst hij
    rw [ap_num (U1.ap_bound (List.getElem?_set_self hl) hn hA), numT, tsz, tszs]; omega
  · have : A = vtm j := ap_det hA (.self _ (vtm j) j rfl rfl (by rw [List.getElem?_set_ne hij]; exact vars_at hj) rfl rfl)
    rw [this, vtm, tsz, tszs]; omega
theorem run_vn {i : Nat} (hi : i < 12) : Un (vars 12) (.un (vtm i) numT) 0 ((vars 12).set i numT) :=
  .bl _ _ _ _ i 0 _ (walk_v hi) (walk_num _) (bd_num hi)
end Go.Am.U2

/- UnifyExtends: the walk. Conditions: none. -/
namespace Go.Am.U2
open Go.Am.Un Go.So
open Go.Am.U1 (tycP isl_tycs drop_at tyw tyc_w NoX vtm vtm_c vars vars_len vars_at len_tszs tsz_pos ne_a ne_b ne_c ne_d ne_e ne_f avr WalkTo Ap Aps Acy Wt Un TyOk CkOk Le UniN ExtN JEq Small)
set_option maxRecDepth 100000
set_option linter.unusedSimpArgs false
attribute [local go_sem] wseq COp.isStore wreg wdreg wret wskip wexit wblock wcnd cnd_t cnd_f then_n then_x then_r catch_n rnd_n rnd_x rnd_r catch_x catch_r wo_nil wo_grd grdO_t grdO_f wo_ops stpO wr_nil wr_alloc wr_guards grdR_t grdR_f wr_ops stpR evAllocs evOp env0_app eput_some eput_none eset_app Opd.ev wantedA faddrA snew_obj snew_size sput_obj sput_size av_cells av_one av_strip av_still unA eqbA fillA fldA lensA mmA mm2 mmFold List.getD_cons_zero List.getD_cons_succ List.getD_nil List.length_cons List.length_nil List.drop_zero List.drop_succ_cons List.take_succ_cons List.take_zero List.map_cons List.map_nil List.set_cons_zero List.set_cons_succ List.all_cons List.all_nil List.getElem?_cons_zero List.getElem?_cons_succ List.nil_append List.cons_append Nat.zero_add Nat.add_zero beq_self_eq_true bt bf Bool.not_true Bool.not_false Bool.and_true Bool.true_and Bool.and_false Bool.false_and and_self and_true true_and n0 n1 n2 n3 n4 m0 m1 m2 m3 c1 retA resAs resA undefA Option.map_some Option.map_none
variable {X : Ext}

theorem frz_ms {S : St} {q : Nat} {ss : List Tm} (h : S.obj q = some (.cells (ss.flatMap tyc))) : frzA S (.msl q 0 ss.length 4) = some (.sl (ss.flatMap tyc) ss.length false none, S.put q (some (.froz (ss.flatMap tyc)))) := by
  have hl := tycP.lens ss
  simp only [frzA, h]
  rw [if_pos ⟨by omega, tycP.stills ss⟩, List.drop_zero, List.take_of_length_le (by omega), tycP.strips ss]

/-- What stands at a place of a substitution that reads as an immutable list. -/
theorem isl_flat (ss : List Tm) : ISl tyc (.sl (ss.flatMap tyc) ss.length false none) ss := Or.inr ⟨false, none, rfl⟩

theorem runs (ss : List Tm) (a b : Tm) : ∃ e ss', CkOk ss → TyOk ss.length a → TyOk ss.length b → Un ss (.un a b) e ss' := by
  by_cases h : CkOk ss ∧ TyOk ss.length a ∧ TyOk ss.length b
  · obtain ⟨h1, h2, h3⟩ := h
    obtain ⟨e, ss', hu⟩ := U1.un_run (U1.ckok_fine h1) h1.1 (U1.tyok_wt h2) (U1.tyok_wt h3)
    exact ⟨e, ss', fun _ _ _ => hu⟩
  · exact ⟨0, ss, fun h1 h2 h3 => absurd ⟨h1, h2, h3⟩ h⟩
theorem frz_nil (S : St) : frzA S .nils = some (.nils, S) := rfl
theorem un_ck {ss ss' : List Tm} {a b : Tm} (h : Un ss (.un a b) 0 ss') (hc : CkOk ss) (ha : TyOk ss.length a) (hb : TyOk ss.length b) : U1.Fine ss' ∧ ss.length ≤ ss'.length ∧ ss'.length ≤ 4096 ∧ Small ss' ∧ Le ss ss' := by
  obtain ⟨h1, h2, h3⟩ := U1.un_fine h (U1.ckok_fine hc) hc.1 ⟨U1.tyok_wt ha, U1.tyok_wt hb⟩
  exact ⟨h1, h2, h3 rfl, un_small h rfl hc.2.2.2, U1.un_le h⟩

set_option maxHeartbeats 16000000 in
theorem extends_law (a b c d : Tm) (s : St) : WC T Xb 8 [.agg (tyc a), .agg (tyc b), .agg (tyc c), .agg (tyc d)] s (fun v _ => v = .bool true) := by
  have hX : NoX Xb := Xb_none
  refine WC_fn cf8 (hX 8 (by decide)) T8 (by simp [cf8]) ?_
  rw [tyc_w a, tyc_w b, tyc_w c, tyc_w d, tyw, tyw, tyw, tyw]
  simp only [cf8, Nat.le_add_left, go_sem, ↓reduceIte, reduceCtorEq, Nat.reduceEqDiff, Nat.reduceAdd, Nat.reduceSub, Nat.reduceMul, Nat.reduceLeDiff, Nat.reduceLT, loadA, rdCells, storeA, setAt, binA]
  refine WO_callx _ rfl (((U1.pair_law hX _ _ _).sub sub).mono ?_)
  rintro w S1 ⟨sv, rfl, hsv, hsn, hk1⟩
  simp only [go_sem, ↓reduceIte, reduceCtorEq, Nat.reduceEqDiff, Nat.reduceAdd, Nat.reduceSub, Nat.reduceMul, Nat.reduceLeDiff, Nat.reduceLT, loadA, rdCells, storeA, setAt, binA]
  refine WO_callx _ rfl ((num_law hX _).mono ?_)
  rintro w S2 ⟨rfl, hk2⟩
  simp only [go_sem, ↓reduceIte, reduceCtorEq, Nat.reduceEqDiff, Nat.reduceAdd, Nat.reduceSub, Nat.reduceMul, Nat.reduceLeDiff, Nat.reduceLT, loadA, rdCells, storeA, setAt, binA]
  have hvl := vars_len 12
  have h12 : (vars 12).length ≤ 4398046511104 := by rw [hvl]; decide
  have h12p : 0 < (vars 12).length := by rw [hvl]; decide
  have hu1 := fun S => (U1.unifyN_law hX hsv h12p h12 ((vars 12).set 3 numT) (vtm 3) numT .nils (.sl [] 0 false none) (Or.inl ⟨rfl, rfl⟩) (Or.inr ⟨_, _, rfl⟩) 0 (fun _ _ _ => run_vn (by decide)) S).sub sub
  refine WO_callx [sv, .agg (tyw (vtm 3) .nils), .agg (tyw numT (.sl [] 0 false none))] (by simp only [go_sem, ↓reduceIte, reduceCtorEq, Nat.reduceEqDiff, Nat.reduceAdd, Nat.reduceSub, Nat.reduceMul, Nat.reduceLeDiff, Nat.reduceLT, loadA, rdCells, storeA, setAt, binA]; rfl) ((hu1 _).mono ?_)
  rintro w S3 ⟨e3, ⟨rv, rfl, hq, -, hk3⟩, he3, -⟩
  obtain rfl : e3 = 0 := he3 ⟨ck_vars, by rw [hvl]; exact ty_vtm (by decide) (by decide), ty_num _⟩
  obtain ⟨q1, rfl, oq1, zq1, lq1⟩ := hq rfl
  have hf1 := frz_ms oq1
  have hl1 : ((vars 12).set 3 numT).length = 12 := by rw [List.length_set, hvl]
  rw [hl1] at hf1
  have hlen1 := (isl_flat ((vars 12).set 3 numT)).len
  obtain ⟨r1, hen1⟩ := U1.isl_ent (isl_flat ((vars 12).set 3 numT)) (v := 3) (u := numT) (List.getElem?_set_self (by rw [hvl]; decide))
  rw [hl1] at hlen1 hen1
  have c3 : (((3 : Nat) : Int)) = 3 := rfl
  have c12 : (((12 : Nat) : Int)) = 12 := rfl
  rw [c3] at hen1
  have z00 : ((0 : Int) != 0) = false := rfl
  have z12 : ((12 : Int) != 12) = false := rfl
  have zk : (kof numT != 1) = false := rfl
  simp only [hl1, hf1, hlen1, hen1, z00, z12, zk, c12, Nat.le_add_left, go_sem, ↓reduceIte, reduceCtorEq, Nat.reduceEqDiff, Nat.reduceAdd, Nat.reduceSub, Nat.reduceMul, Nat.reduceLeDiff, Nat.reduceLT, loadA, rdCells, storeA, setAt, binA]
  obtain ⟨S0, hS0⟩ : ∃ S0, S0 = (((s.new (.cells [.int .i64 (kof a), .str (nof a), .int .i64 (vof a), .sl (tycs (lof a)) (lof a).length false none])).new (.cells [.int .i64 (kof b), .str (nof b), .int .i64 (vof b), .sl (tycs (lof b)) (lof b).length false none])).new (.cells [.int .i64 (kof c), .str (nof c), .int .i64 (vof c), .sl (tycs (lof c)) (lof c).length false none])).new (.cells [.int .i64 (kof d), .str (nof d), .int .i64 (vof d), .sl (tycs (lof d)) (lof d).length false none]) := ⟨_, rfl⟩
  rw [← hS0] at hk1
  have hz0 : S0.size = s.size + 4 := by rw [hS0]; rfl
  have bx : ∀ S, Keep S0 S → S.obj s.size = some (.cells [.int .i64 (kof a), .str (nof a), .int .i64 (vof a), .sl (tycs (lof a)) (lof a).length false none]) ∧ S.obj (s.size + 1) = some (.cells [.int .i64 (kof b), .str (nof b), .int .i64 (vof b), .sl (tycs (lof b)) (lof b).length false none]) ∧
      S.obj (s.size + 1 + 1) = some (.cells [.int .i64 (kof c), .str (nof c), .int .i64 (vof c), .sl (tycs (lof c)) (lof c).length false none]) ∧ S.obj (s.size + 1 + 1 + 1) = some (.cells [.int .i64 (kof d), .str (nof d), .int .i64 (vof d), .sl (tycs (lof d)) (lof d).length false none]) := by
    intro S hk
    refine ⟨hk.obj (by omega) ?_, hk.obj (by omega) ?_, hk.obj (by omega) ?_, hk.obj (by omega) ?_⟩ <;> rw [hS0]
    · rw [new_ne (by simp only [St.new]; omega), new_ne (by simp only [St.new]; omega), new_ne (by simp only [St.new]; omega), new_eq rfl]
    · rw [new_ne (by simp only [St.new]; omega), new_ne (by simp only [St.new]; omega)]; exact new_eq rfl
    · rw [new_ne (by simp only [St.new]; omega)]; exact new_eq rfl
    · exact new_eq rfl
  have k03 := (hk1.trans hk2).trans hk3
  have z02 := (hk1.trans hk2).1
  obtain ⟨S4, hS4⟩ : ∃ S4, S4 = S3.put q1 (some (.froz (((vars 12).set 3 numT).flatMap tyc))) := ⟨_, rfl⟩
  have k04 : Keep S0 S4 := by rw [hS4]; exact k03.put' (by omega) _
  rw [← hS4]
  have hne1 : (s.size = q1) = False := eq_false (by omega)
  have hne2 : (s.size + 1 = q1) = False := eq_false (by omega)
  obtain ⟨ba, bb, -, -⟩ := bx S3 k03
  obtain ⟨ba4, bb4, -, -⟩ := bx S4 k04
  simp only [hne1, hne2, ba, bb, ba4, bb4, Nat.le_add_left, go_sem, ↓reduceIte, reduceCtorEq, Nat.reduceEqDiff, Nat.reduceAdd, Nat.reduceSub, Nat.reduceMul, Nat.reduceLeDiff, Nat.reduceLT, loadA, rdCells, storeA, setAt, binA]
  obtain ⟨e1, ss1, hr1⟩ := runs (vars 12) a b
  have hu2 := fun S => (U1.unifyN_law hX hsv h12p h12 ss1 a b _ _ (isl_tycs (lof a)) (isl_tycs (lof b)) e1 hr1 S).sub sub
  simp only [tyw] at hu2
  refine WO_callx _ rfl ((hu2 _).mono ?_)
  rintro w S5 ⟨e2, ⟨rv2, rfl, hq2, hn2, hk5⟩, ha2, hb2⟩
  have k05 := k04.trans hk5
  by_cases he2 : e2 = 0
  · subst he2
    have hok1 : CkOk (vars 12) ∧ TyOk (vars 12).length a ∧ TyOk (vars 12).length b := Classical.byContradiction fun h => hb2 h rfl
    obtain ⟨hc0, hta, htb⟩ := hok1
    obtain rfl := (ha2 ⟨hc0, hta, htb⟩).symm
    have hrun1 := hr1 hc0 hta htb
    obtain ⟨hf1', hl01, hl1', hsm1, hle1⟩ := un_ck hrun1 hc0 hta htb
    rw [hvl] at hl01
    obtain ⟨q2, rfl, oq2, zq2, lq2⟩ := hq2 rfl
    have hfz2 := frz_ms oq2
    obtain ⟨S6, hS6⟩ : ∃ S6, S6 = S5.put q2 (some (.froz (ss1.flatMap tyc))) := ⟨_, rfl⟩
    have k06 : Keep S0 S6 := by rw [hS6]; exact k05.put' (by have := k04.1; omega) _
    rw [← hS6] at hfz2
    obtain ⟨ba, bb, bc, bd⟩ := bx S6 k06
    simp only [hfz2, z00, ba, bb, bc, bd, Nat.le_add_left, go_sem, ↓reduceIte, reduceCtorEq, Nat.reduceEqDiff, Nat.reduceAdd, Nat.reduceSub, Nat.reduceMul, Nat.reduceLeDiff, Nat.reduceLT, loadA, rdCells, storeA, setAt, binA]
    obtain ⟨e3, ss2, hr2⟩ := runs ss1 c d
    have hu3 := fun S => (U1.unifyN_law hX (isl_flat ss1) (by omega) (by omega) ss2 c d _ _ (isl_tycs (lof c)) (isl_tycs (lof d)) e3 hr2 S).sub sub
    simp only [tyw] at hu3
    refine WO_callx _ rfl ((hu3 _).mono ?_)
    rintro w S7 ⟨e4, ⟨rv3, rfl, hq3, hn3, hk7⟩, ha3, hb3⟩
    have k07 := k06.trans hk7
    by_cases he4 : e4 = 0
    · subst he4
      have hok2 : CkOk ss1 ∧ TyOk ss1.length c ∧ TyOk ss1.length d := Classical.byContradiction fun h => hb3 h rfl
      obtain ⟨hc1, htc, htd⟩ := hok2
      obtain rfl := (ha3 ⟨hc1, htc, htd⟩).symm
      have hrun2 := hr2 hc1 htc htd
      obtain ⟨hf2', hl12, hl2', hsm2, hle2⟩ := un_ck hrun2 hc1 htc htd
      obtain ⟨q3, rfl, oq3, zq3, lq3⟩ := hq3 rfl
      have hfz3 := frz_ms oq3
      obtain ⟨S8, hS8⟩ : ∃ S8, S8 = S7.put q3 (some (.froz (ss2.flatMap tyc))) := ⟨_, rfl⟩
      have k08 : Keep S0 S8 := by rw [hS8]; exact k07.put' (by have := k06.1; omega) _
      rw [← hS8] at hfz3
      have hlen2 := (isl_flat ss1).len
      simp only [hfz3, z00, hlen2, Nat.le_add_left, go_sem, ↓reduceIte, reduceCtorEq, Nat.reduceEqDiff, Nat.reduceAdd, Nat.reduceSub, Nat.reduceMul, Nat.reduceLeDiff, Nat.reduceLT, loadA, rdCells, storeA, setAt, binA]
      refine W_loop_nat (fun kk e S => ∃ (i : Nat), i + kk = ss1.length ∧ e 4 = .ptr s.size 0 ∧ e 5 = .ptr (s.size + 1) 0 ∧ e 6 = .ptr (s.size + 1 + 1) 0 ∧ e 7 = .ptr (s.size + 1 + 1 + 1) 0 ∧ e 15 = .sl (ss2.flatMap tyc) ss2.length false none ∧ e 70 = .sl (ss1.flatMap tyc) ss1.length false none ∧ e 71 = .int .i64 ss1.length ∧ e 72 = .int .i64 i ∧ Keep S0 S) ?_ ss1.length _ _
        ⟨0, by simp, ?_, ?_, ?_, ?_, ?_, ?_, ?_, ?_, k08⟩
      · rintro kk e S ⟨i, hik, e4, e5, e6, e7, e15, e70, e71, e72, hkp⟩
        by_cases hi : i < ss1.length
        · have hd : decide ((i : Int) < (ss1.length : Int)) = true := by simp; omega
          obtain ⟨x, hx⟩ : ∃ x, ss1[i]? = some x := ⟨_, List.getElem?_eq_getElem hi⟩
          obtain ⟨y, hy⟩ : ∃ y, ss2[i]? = some y := ⟨_, List.getElem?_eq_getElem (by omega)⟩
          obtain ⟨rx, hax⟩ := U1.isl_ent (isl_flat ss1) hx
          obtain ⟨ry, hay⟩ := U1.isl_ent (isl_flat ss2) hy
          have hwr := U1.wrapn (n := i) (by omega)
          simp only [cf8_l0, e4, e5, e6, e7, e15, e70, e71, e72, hd, hax, Nat.le_add_left, go_sem, ↓reduceIte, reduceCtorEq, Nat.reduceEqDiff, Nat.reduceAdd, Nat.reduceSub, Nat.reduceMul, Nat.reduceLeDiff, Nat.reduceLT, loadA, rdCells, storeA, setAt, binA]
          have hks : Keep S0 ((S.new (.cells [.int .i64 0, .str ⟨#[]⟩, .int .i64 0, .nils])).put S.size (some (.cells [.int .i64 (kof x), .str (nof x), .int .i64 (vof x), .sl (tycs (lof x)) (lof x).length false none]))) := hkp.trans (((Keep.refl S).new' _).put' (Nat.le_refl _) _)
          have hwx := U1.tyok_wt (hc1.2.1 i x hx)
          have htx := U1.tyok_tsz (hc1.2.1 i x hx)
          have hsame := fun S => same_law (isl_tycs (lof x)) (isl_tycs (lof x)) (U1.wt_val x hwx) (U1.wt_val x hwx) (by unfold big; omega) (by unfold big; omega) S
          simp only [tyw, eqb_rfl] at hsame
          cases h0 : (kof x != 0)
          · cases h1 : (vof x != (i : Int))
            · simp only [h0, h1, e4, e5, e6, e7, e15, e70, e71, e72, hwr, Nat.le_add_left, go_sem, ↓reduceIte, reduceCtorEq, Nat.reduceEqDiff, Nat.reduceAdd, Nat.reduceSub, Nat.reduceMul, Nat.reduceLeDiff, Nat.reduceLT, loadA, rdCells, storeA, setAt, binA]
              exact ⟨kk - 1, by omega, i + 1, by omega, rfl, hks⟩
            · have hbnd : ¬ (kof x = 0 ∧ vof x = i) := fun h => by simp [h.2] at h1
              have hyx := hle2.2 i x hx hbnd
              rw [hy] at hyx; cases hyx
              simp only [h0, h1, e4, e5, e6, e7, e15, e70, e71, e72, hay, hwr, Nat.le_add_left, go_sem, ↓reduceIte, reduceCtorEq, Nat.reduceEqDiff, Nat.reduceAdd, Nat.reduceSub, Nat.reduceMul, Nat.reduceLeDiff, Nat.reduceLT, loadA, rdCells, storeA, setAt, binA]
              refine WR_callx _ rfl ((hsame _).mono ?_)
              rintro w S9 ⟨rfl, hk9⟩
              simp only [e4, e5, e6, e7, e15, e70, e71, e72, hwr, go_sem, ↓reduceIte, reduceCtorEq, Nat.reduceEqDiff, Nat.reduceAdd, Nat.reduceSub, Nat.reduceMul, Nat.reduceLeDiff, Nat.reduceLT, loadA, rdCells, storeA, setAt, binA]
              exact ⟨kk - 1, by omega, i + 1, by omega, rfl, hks.trans hk9⟩
          · have hbnd : ¬ (kof x = 0 ∧ vof x = i) := fun h => by simp [h.1] at h0
            have hyx := hle2.2 i x hx hbnd
            rw [hy] at hyx; cases hyx
            simp only [h0, e4, e5, e6, e7, e15, e70, e71, e72, hay, hwr, Nat.le_add_left, go_sem, ↓reduceIte, reduceCtorEq, Nat.reduceEqDiff, Nat.reduceAdd, Nat.reduceSub, Nat.reduceMul, Nat.reduceLeDiff, Nat.reduceLT, loadA, rdCells, storeA, setAt, binA]
            refine WR_callx _ rfl ((hsame _).mono ?_)
            rintro w S9 ⟨rfl, hk9⟩
            simp only [e4, e5, e6, e7, e15, e70, e71, e72, hwr, go_sem, ↓reduceIte, reduceCtorEq, Nat.reduceEqDiff, Nat.reduceAdd, Nat.reduceSub, Nat.reduceMul, Nat.reduceLeDiff, Nat.reduceLT, loadA, rdCells, storeA, setAt, binA]
            exact ⟨kk - 1, by omega, i + 1, by omega, rfl, hks.trans hk9⟩
        · have hd : decide ((i : Int) < (ss1.length : Int)) = false := by simp; omega
          simp only [cf8_l0, e4, e5, e6, e7, e15, e70, e71, e72, hd, Nat.le_add_left, go_sem, ↓reduceIte, reduceCtorEq, Nat.reduceEqDiff, Nat.reduceAdd, Nat.reduceSub, Nat.reduceMul, Nat.reduceLeDiff, Nat.reduceLT, loadA, rdCells, storeA, setAt, binA]
          obtain ⟨rk2, hac2⟩ := hf2'.1
          have wa := U1.wt_le (show (vars 12).length ≤ ss2.length by omega) _ (U1.tyok_wt hta)
          have wb := U1.wt_le (show (vars 12).length ≤ ss2.length by omega) _ (U1.tyok_wt htb)
          have wc := U1.wt_le hl12 _ (U1.tyok_wt htc)
          have wd := U1.wt_le hl12 _ (U1.tyok_wt htd)
          obtain ⟨A, hA⟩ := hac2.ex wa
          obtain ⟨B, hB⟩ := hac2.ex wb
          obtain ⟨C, hC⟩ := hac2.ex wc
          obtain ⟨D, hD⟩ := hac2.ex wd
          have hAB : nf A = nf B := U1.un_snd hrun1 rfl (U1.ckok_fine hc0) hc0.1 ⟨U1.tyok_wt hta, U1.tyok_wt htb⟩ ss2 hle2 A B hA hB
          have hCD : nf C = nf D := U1.un_snd hrun2 rfl (U1.ckok_fine hc1) hc1.1 ⟨U1.tyok_wt htc, U1.tyok_wt htd⟩ ss2 (Le.refl _) C D hC hD
          have sz : ∀ {t T : Tm} {N : Nat}, TyOk N t → Wt ss2.length t → Ap ss2 t T → Val T ∧ tsz T < big := fun ht hw h => by
            have h1 := ap_tsz hsm2 h hw
            have h2 := U1.tyok_tsz ht
            exact ⟨U1.wt_val _ (ap_wt hac2 h hw), by unfold big; omega⟩
          obtain ⟨vA, tA⟩ := sz hta wa hA
          obtain ⟨vB, tB⟩ := sz htb wb hB
          obtain ⟨vC, tC⟩ := sz htc wc hC
          obtain ⟨vD, tD⟩ := sz htd wd hD
          have pA := fun S => apply_law hX (isl_flat ss2) hac2 _ a A hA (Nat.le_refl _) wa S
          have pB := fun S => apply_law hX (isl_flat ss2) hac2 _ b B hB (Nat.le_refl _) wb S
          have pC := fun S => apply_law hX (isl_flat ss2) hac2 _ c C hC (Nat.le_refl _) wc S
          have pD := fun S => apply_law hX (isl_flat ss2) hac2 _ d D hD (Nat.le_refl _) wd S
          have sAB := fun S => same_law (isl_tycs (lof A)) (isl_tycs (lof B)) vA vB tA tB S
          have sCD := fun S => same_law (isl_tycs (lof C)) (isl_tycs (lof D)) vC vD tC tD S
          simp only [hAB, hCD, eqb_rfl, ← tyc_w] at sAB sCD
          rw [tyc_w a, tyw] at pA
          rw [tyc_w b, tyw] at pB
          rw [tyc_w c, tyw] at pC
          rw [tyc_w d, tyw] at pD
          refine W_dreg ?_
          obtain ⟨ba, bb, bc, bd⟩ := bx S hkp
          simp only [wt_ops, stpT, Tr, e4, e5, e6, e7, e15, ba, bb, bc, bd, wt_nil, chk1, avr, Bool.or_true, Nat.le_add_left, go_sem, ↓reduceIte, reduceCtorEq, Nat.reduceEqDiff, Nat.reduceAdd, Nat.reduceSub, Nat.reduceMul, Nat.reduceLeDiff, Nat.reduceLT, loadA, rdCells, storeA, setAt, binA]
          refine WT_callx _ rfl ((pA _).mono ?_)
          rintro w T1 ⟨rfl, j1⟩
          obtain ⟨ba1, bb1, bc1, bd1⟩ := bx T1 (hkp.trans j1)
          simp only [wt_ops, stpT, Tr, e4, e5, e6, e7, e15, ba1, bb1, bc1, bd1, wt_nil, chk1, avr, Bool.or_true, Nat.le_add_left, go_sem, ↓reduceIte, reduceCtorEq, Nat.reduceEqDiff, Nat.reduceAdd, Nat.reduceSub, Nat.reduceMul, Nat.reduceLeDiff, Nat.reduceLT, loadA, rdCells, storeA, setAt, binA]
          refine WT_callx _ rfl ((pB _).mono ?_)
          rintro w T2 ⟨rfl, j2⟩
          simp only [wt_ops, stpT, Tr, e4, e5, e6, e7, e15, wt_nil, chk1, avr, Bool.or_true, Nat.le_add_left, go_sem, ↓reduceIte, reduceCtorEq, Nat.reduceEqDiff, Nat.reduceAdd, Nat.reduceSub, Nat.reduceMul, Nat.reduceLeDiff, Nat.reduceLT, loadA, rdCells, storeA, setAt, binA]
          refine WT_callx _ rfl ((sAB _).mono ?_)
          rintro w T3 ⟨rfl, j3⟩
          have k3' := ((hkp.trans j1).trans j2).trans j3
          obtain ⟨ba3, bb3, bc3, bd3⟩ := bx T3 k3'
          simp only [wt_ops, stpT, Tr, wt_gs, grdT_t, e4, e5, e6, e7, e15, ba3, bb3, bc3, bd3, wt_nil, chk1, avr, Bool.or_true, Nat.le_add_left, go_sem, ↓reduceIte, reduceCtorEq, Nat.reduceEqDiff, Nat.reduceAdd, Nat.reduceSub, Nat.reduceMul, Nat.reduceLeDiff, Nat.reduceLT, loadA, rdCells, storeA, setAt, binA]
          refine WT_callg _ (by simp only [go_sem, ↓reduceIte, reduceCtorEq, Nat.reduceEqDiff, Nat.reduceAdd, Nat.reduceSub, Nat.reduceMul, Nat.reduceLeDiff, Nat.reduceLT, loadA, rdCells, storeA, setAt, binA]) rfl ((pC _).mono ?_)
          rintro w T4 ⟨rfl, j4⟩
          have k4' := k3'.trans j4
          obtain ⟨ba4, bb4, bc4, bd4⟩ := bx T4 k4'
          simp only [wt_ops, stpT, Tr, wt_gs, grdT_t, e4, e5, e6, e7, e15, ba4, bb4, bc4, bd4, wt_nil, chk1, avr, Bool.or_true, Nat.le_add_left, go_sem, ↓reduceIte, reduceCtorEq, Nat.reduceEqDiff, Nat.reduceAdd, Nat.reduceSub, Nat.reduceMul, Nat.reduceLeDiff, Nat.reduceLT, loadA, rdCells, storeA, setAt, binA]
          refine WT_callg _ (by simp only [go_sem, ↓reduceIte, reduceCtorEq, Nat.reduceEqDiff, Nat.reduceAdd, Nat.reduceSub, Nat.reduceMul, Nat.reduceLeDiff, Nat.reduceLT, loadA, rdCells, storeA, setAt, binA]) rfl ((pD _).mono ?_)
          rintro w T5 ⟨rfl, j5⟩
          simp only [wt_ops, stpT, Tr, wt_gs, grdT_t, e4, e5, e6, e7, e15, wt_nil, chk1, avr, Bool.or_true, Nat.le_add_left, go_sem, ↓reduceIte, reduceCtorEq, Nat.reduceEqDiff, Nat.reduceAdd, Nat.reduceSub, Nat.reduceMul, Nat.reduceLeDiff, Nat.reduceLT, loadA, rdCells, storeA, setAt, binA]
          refine WT_callg _ (by simp only [go_sem, ↓reduceIte, reduceCtorEq, Nat.reduceEqDiff, Nat.reduceAdd, Nat.reduceSub, Nat.reduceMul, Nat.reduceLeDiff, Nat.reduceLT, loadA, rdCells, storeA, setAt, binA]) rfl ((sCD _).mono ?_)
          rintro w T6 ⟨rfl, j6⟩
          simp only [wt_ops, stpT, Tr, wt_gs, grdT_t, e4, e5, e6, e7, e15, bb, bb1, bd3, bd4, wt_nil, chk1, avr, Bool.or_true, Bool.false_or, Nat.le_add_left, go_sem, ↓reduceIte, reduceCtorEq, Nat.reduceEqDiff, Nat.reduceAdd, Nat.reduceSub, Nat.reduceMul, Nat.reduceLeDiff, Nat.reduceLT, loadA, rdCells, storeA, setAt, binA]
          exact ⟨by simp, _, rfl, rfl⟩
      · simp only [go_sem, ↓reduceIte, reduceCtorEq, Nat.reduceEqDiff, Nat.reduceAdd, Nat.reduceSub, Nat.reduceMul, Nat.reduceLeDiff, Nat.reduceLT, loadA, rdCells, storeA, setAt, binA]
      · simp only [go_sem, ↓reduceIte, reduceCtorEq, Nat.reduceEqDiff, Nat.reduceAdd, Nat.reduceSub, Nat.reduceMul, Nat.reduceLeDiff, Nat.reduceLT, loadA, rdCells, storeA, setAt, binA]
      · simp only [go_sem, ↓reduceIte, reduceCtorEq, Nat.reduceEqDiff, Nat.reduceAdd, Nat.reduceSub, Nat.reduceMul, Nat.reduceLeDiff, Nat.reduceLT, loadA, rdCells, storeA, setAt, binA]
      · simp only [go_sem, ↓reduceIte, reduceCtorEq, Nat.reduceEqDiff, Nat.reduceAdd, Nat.reduceSub, Nat.reduceMul, Nat.reduceLeDiff, Nat.reduceLT, loadA, rdCells, storeA, setAt, binA]
      · simp only [go_sem, ↓reduceIte, reduceCtorEq, Nat.reduceEqDiff, Nat.reduceAdd, Nat.reduceSub, Nat.reduceMul, Nat.reduceLeDiff, Nat.reduceLT, loadA, rdCells, storeA, setAt, binA]
      · simp only [go_sem, ↓reduceIte, reduceCtorEq, Nat.reduceEqDiff, Nat.reduceAdd, Nat.reduceSub, Nat.reduceMul, Nat.reduceLeDiff, Nat.reduceLT, loadA, rdCells, storeA, setAt, binA]
      · simp only [go_sem, ↓reduceIte, reduceCtorEq, Nat.reduceEqDiff, Nat.reduceAdd, Nat.reduceSub, Nat.reduceMul, Nat.reduceLeDiff, Nat.reduceLT, loadA, rdCells, storeA, setAt, binA]
      · simp only [go_sem, ↓reduceIte, reduceCtorEq, Nat.reduceEqDiff, Nat.reduceAdd, Nat.reduceSub, Nat.reduceMul, Nat.reduceLeDiff, Nat.reduceLT, loadA, rdCells, storeA, setAt, binA]; rfl
    · obtain rfl := hn3 he4
      have hne : (e4 != 0) = true := by simpa using he4
      have z0e : ((0 : Int) == 0) = true := rfl
      have hln : lenA .nils = some (.int .i64 0) := rfl
      simp only [frz_nil, hne, z0e, hln, go_sem, ↓reduceIte, reduceCtorEq, Nat.reduceEqDiff, Nat.reduceAdd, Nat.reduceSub, Nat.reduceMul, Nat.reduceLeDiff, Nat.reduceLT, loadA, rdCells, storeA, setAt, binA]
      exact ⟨by simp, _, rfl, rfl⟩
  · obtain rfl := hn2 he2
    have hne : (e2 != 0) = true := by simpa using he2
    simp only [frz_nil, hne, go_sem, ↓reduceIte, reduceCtorEq, Nat.reduceEqDiff, Nat.reduceAdd, Nat.reduceSub, Nat.reduceMul, Nat.reduceLeDiff, Nat.reduceLT, loadA, rdCells, storeA, setAt, binA]
    exact ⟨by simp, _, rfl, rfl⟩
end Go.Am.U2

/- UnifyExtends: the arguments. Conditions: none. -/
namespace Go.Am.U2
open Go.Am.Un Go.So Go.Proofs
set_option maxRecDepth 100000
theorem arg_tm {a : AV} (h : TyA Tryd.prog 24 a) : ∃ t, a = .agg (tyc t) := by
  unfold TyA TyAR at h
  rw [Tryd.underlying24] at h
  obtain ⟨cs, rfl, h3⟩ := h
  obtain ⟨t, rfl⟩ := U1.tm_of _ cs (Nat.le_refl _) h3
  exact ⟨t, rfl⟩
theorem extends_all : ∀ us, TyAs Tryd.prog [24, 24, 24, 24] us → WC T Xb 8 us st0 (fun v _ => v = .bool true) := by
  intro us h
  cases h with | cons t a ts us h1 hs =>
  cases hs with | cons t b ts us h2 hs =>
  cases hs with | cons t c ts us h3 hs =>
  cases hs with | cons t d ts us h4 hs =>
  cases hs
  obtain ⟨a, rfl⟩ := arg_tm h1
  obtain ⟨b, rfl⟩ := arg_tm h2
  obtain ⟨c, rfl⟩ := arg_tm h3
  obtain ⟨d, rfl⟩ := arg_tm h4
  exact extends_law a b c d st0
end Go.Am.U2
