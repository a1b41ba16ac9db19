/- UnifyInstances: the walk. Conditions: none. -/
import Derived.Test.YtfleakoephmgaaaDoorVbI
import Derived.Test.YtfleakoephmgaaaDoorUuD
import Derived.Test.YtfleakoephmgaaaDoorUnO
import Derived.HandedShaped
set_option linter.unusedSimpArgs false
set_option linter.unusedVariables false
namespace Go.Am.U2
open Go.Am.Un Go.So
open Go.Am.U1 (tycP isl_tycs drop_at tyw tyc_w NoX vtm vtm_c vars vars_len vars_at len_tszs tsz_pos ne_a ne_b ne_c ne_d ne_e ne_f avr WalkTo Ap Aps Acy Wt Un TyOk CkOk Le UniN ExtN JEq Small Fine)
set_option maxRecDepth 100000
set_option linter.unusedSimpArgs false
attribute [local go_sem] wseq COp.isStore wreg wdreg wret wskip wexit wblock wcnd cnd_t cnd_f then_n then_x then_r catch_n rnd_n rnd_x rnd_r catch_x catch_r wo_nil wo_grd grdO_t grdO_f wo_ops stpO wr_nil wr_alloc wr_guards grdR_t grdR_f wr_ops stpR evAllocs evOp env0_app eput_some eput_none eset_app Opd.ev wantedA faddrA snew_obj snew_size sput_obj sput_size av_cells av_one av_strip av_still unA eqbA fillA fldA lensA mmA mm2 mmFold List.getD_cons_zero List.getD_cons_succ List.getD_nil List.length_cons List.length_nil List.drop_zero List.drop_succ_cons List.take_succ_cons List.take_zero List.map_cons List.map_nil List.set_cons_zero List.set_cons_succ List.all_cons List.all_nil List.getElem?_cons_zero List.getElem?_cons_succ List.nil_append List.cons_append Nat.zero_add Nat.add_zero beq_self_eq_true bt bf Bool.not_true Bool.not_false Bool.and_true Bool.true_and Bool.and_false Bool.false_and and_self and_true true_and n0 n1 n2 n3 n4 m0 m1 m2 m3 c1 retA resAs resA undefA Option.map_some Option.map_none
variable {X : Ext}

theorem chk_row4 {k v : Int} {m : ByteArray} {l : List Tm} (h : (chk false 1 4096 (.mk k m v l)).1 = 0) : decide (kof (.mk k m v l) ≥ 4) = false := by
  rw [chk] at h
  split at h
  · simp at h
  split at h
  · simp at h
  split at h
  · simp at h
  split at h
  · simp at h
  rename_i h4
  simp only [kof]
  by_cases hk : k ≥ 4
  · exact absurd ⟨by omega, by rw [decide_eq_true hk]; decide⟩ h4
  · exact decide_eq_false hk
theorem bound_ex : ∀ l : List Int, ∃ M : Nat, ∀ x, x ∈ l → x < M
  | [] => ⟨0, fun x h => by simp at h⟩
  | a :: r => by
    obtain ⟨M, hM⟩ := bound_ex r
    refine ⟨max M (a.toNat + 1), fun x hx => ?_⟩
    rcases List.mem_cons.1 hx with h | h
    · subst h; omega
    · have := hM x h; omega

set_option maxHeartbeats 16000000 in
theorem instances_law (a : Tm) {bv : AV} {l : List Tm} (hbv : ISl tyc bv l) (hb : l.length ≤ 4398046511104) (s : St) : WC T Xb 9 [.agg (tyc a), bv] s (fun v _ => v = .bool true) := by
  have hX : NoX Xb := Xb_none
  refine WC_fn cf9 (hX 9 (by decide)) T9 (by simp [cf9]) ?_
  rw [tyc_w a, tyw]
  simp only [cf9, Nat.le_add_left, go_sem, ↓reduceIte, reduceCtorEq, Nat.reduceEqDiff, Nat.reduceAdd, Nat.reduceSub, Nat.reduceMul, Nat.reduceLeDiff, Nat.reduceLT, loadA, rdCells, storeA, setAt, binA]
  refine WO_callx _ rfl (((U1.pair_law hX _ _ _).sub sub).mono ?_)
  rintro w S1 ⟨sv, rfl, hsv, hsn, hk1⟩
  simp only [go_sem, ↓reduceIte, reduceCtorEq, Nat.reduceEqDiff, Nat.reduceAdd, Nat.reduceSub, Nat.reduceMul, Nat.reduceLeDiff, Nat.reduceLT, loadA, rdCells, storeA, setAt, binA]
  refine WO_callx _ rfl ((num_law hX _).mono ?_)
  rintro w S2 ⟨rfl, hk2⟩
  simp only [go_sem, ↓reduceIte, reduceCtorEq, Nat.reduceEqDiff, Nat.reduceAdd, Nat.reduceSub, Nat.reduceMul, Nat.reduceLeDiff, Nat.reduceLT, loadA, rdCells, storeA, setAt, binA]
  have hvl := vars_len 12
  have h12 : (vars 12).length ≤ 4398046511104 := by rw [hvl]; decide
  have h12p : 0 < (vars 12).length := by rw [hvl]; decide
  have hu1 := fun S => (U1.unifyN_law hX hsv h12p h12 ((vars 12).set 1 numT) (vtm 1) numT .nils (.sl [] 0 false none) (Or.inl ⟨rfl, rfl⟩) (Or.inr ⟨_, _, rfl⟩) 0 (fun _ _ _ => run_vn (by decide)) S).sub sub
  refine WO_callx [sv, .agg (tyw (vtm 1) .nils), .agg (tyw numT (.sl [] 0 false none))] (by simp only [go_sem, ↓reduceIte, reduceCtorEq, Nat.reduceEqDiff, Nat.reduceAdd, Nat.reduceSub, Nat.reduceMul, Nat.reduceLeDiff, Nat.reduceLT, loadA, rdCells, storeA, setAt, binA]; rfl) ((hu1 _).mono ?_)
  rintro w S3 ⟨e3, ⟨rv, rfl, hq, -, hk3⟩, he3, -⟩
  obtain rfl : e3 = 0 := he3 ⟨ck_vars, by rw [hvl]; exact ty_vtm (by decide) (by decide), ty_num _⟩
  obtain ⟨q1, rfl, oq1, zq1, lq1⟩ := hq rfl
  have hf1 := frz_ms oq1
  have hl1 : ((vars 12).set 1 numT).length = 12 := by rw [List.length_set, hvl]
  rw [hl1] at hf1
  have hlen1 := (isl_flat ((vars 12).set 1 numT)).len
  rw [hl1] at hlen1
  have c12 : (((12 : Nat) : Int)) = 12 := rfl
  have z00 : ((0 : Int) != 0) = false := rfl
  have z12 : ((12 : Int) != 12) = false := rfl
  have hcl := fun S => (U1.clone_law hX hsv h12p (by rw [hvl]; decide) S).sub sub
  obtain ⟨S0, hS0⟩ : ∃ S0, S0 = s.new (.cells [.int .i64 (kof a), .str (nof a), .int .i64 (vof a), .sl (tycs (lof a)) (lof a).length false none]) := ⟨_, rfl⟩
  rw [← hS0] at hk1
  have hz0 : S0.size = s.size + 1 := by rw [hS0]; rfl
  have bx : ∀ S, Keep S0 S → S.obj s.size = some (.cells [.int .i64 (kof a), .str (nof a), .int .i64 (vof a), .sl (tycs (lof a)) (lof a).length false none]) := by
    intro S hk
    refine hk.obj (by omega) ?_
    rw [hS0]; exact new_eq rfl
  have k03 := (hk1.trans hk2).trans hk3
  have z02 := (hk1.trans hk2).1
  obtain ⟨S4, hS4⟩ : ∃ S4, S4 = S3.put q1 (some (.froz (((vars 12).set 1 numT).flatMap tyc))) := ⟨_, rfl⟩
  have k04 : Keep S0 S4 := by rw [hS4]; exact k03.put' (by omega) _
  rw [← hS4] at hf1
  simp only [hl1, hf1, hlen1, z00, z12, c12, Nat.le_add_left, go_sem, ↓reduceIte, reduceCtorEq, Nat.reduceEqDiff, Nat.reduceAdd, Nat.reduceSub, Nat.reduceMul, Nat.reduceLeDiff, Nat.reduceLT, loadA, rdCells, storeA, setAt, binA]
  refine WO_callx _ rfl ((hcl _).mono ?_)
  rintro w S5 ⟨rfl, oq5, zq5, hk5⟩
  have k05 := k04.trans hk5
  rw [hvl]
  have hlb := hbv.len
  have hz4 := k04.1
  simp only [hlb, Nat.le_add_left, go_sem, ↓reduceIte, reduceCtorEq, Nat.reduceEqDiff, Nat.reduceAdd, Nat.reduceSub, Nat.reduceMul, Nat.reduceLeDiff, Nat.reduceLT, loadA, rdCells, storeA, setAt, binA]
  obtain ⟨q, hqd⟩ : ∃ q, q = S4.size := ⟨_, rfl⟩
  rw [← hqd] at oq5 zq5 ⊢
  have hq0 : S0.size ≤ q := by omega
  refine W_loop_nat (fun kk e S => ∃ (i : Nat) (cur : List Tm), i + kk = l.length ∧ cur.length = 12 ∧ e 1 = bv ∧ e 2 = .ptr s.size 0 ∧ e 5 = sv ∧ e 9 = .msl q 0 12 4 ∧ e 42 = bv ∧ e 43 = .int .i64 l.length ∧ e 44 = .int .i64 i ∧ S.obj q = some (.cells (cur.flatMap tyc)) ∧ q < S.size ∧ Keep S0 S) ?_ l.length _ _
    ⟨0, vars 12, by simp, hvl, ?_, ?_, ?_, ?_, ?_, ?_, ?_, oq5, zq5, k05⟩
  · rintro kk e S ⟨i, cur, hik, hcl12, e1, e2, e5, e9, e42, e43, e44, oq, zq, hkp⟩
    by_cases hi : i < l.length
    · have hd : decide ((i : Int) < (l.length : Int)) = true := by simp; omega
      obtain ⟨x, hx⟩ : ∃ x, l[i]? = some x := ⟨_, List.getElem?_eq_getElem hi⟩
      obtain ⟨rx, hax⟩ := U1.isl_ent hbv hx
      have hwr := U1.wrapn (n := i) (by omega)
      have hln : lenA (.msl q 0 12 4) = some (.int .i64 12) := rfl
      obtain ⟨S', hS'⟩ : ∃ S', S' = (S.new (.cells [.int .i64 0, .str ⟨#[]⟩, .int .i64 0, .nils])).put S.size (some (.cells [.int .i64 (kof x), .str (nof x), .int .i64 (vof x), .sl (tycs (lof x)) (lof x).length false none])) := ⟨_, rfl⟩
      have hks : Keep S S' := by rw [hS']; exact ((Keep.refl S).new' _).put' (Nat.le_refl _) _
      have ox : S'.obj S.size = some (.cells [.int .i64 (kof x), .str (nof x), .int .i64 (vof x), .sl (tycs (lof x)) (lof x).length false none]) := by rw [hS', put_eq]
      have oq' := hks.obj zq oq
      have zq' := hks.lt zq
      simp only [cf9_l1, e1, e2, e5, e9, e42, e43, e44, hd, hax, hln, Nat.le_add_left, go_sem, ↓reduceIte, reduceCtorEq, Nat.reduceEqDiff, Nat.reduceAdd, Nat.reduceSub, Nat.reduceMul, Nat.reduceLeDiff, Nat.reduceLT, loadA, rdCells, storeA, setAt, binA]
      rw [← hS']
      by_cases h12i : i < 12
      · have hd2 : decide ((i : Int) < (12 : Int)) = true := by simp; omega
        have hma := maddr (p := q) (n := 12) (i := i) h12i
        have hst := mstore tycP oq' (i := i) (by omega) x
        rw [tyc_w x, tyw] at hst
        have hld : loadA S' true 4 (.ptr S.size 0) = some (.agg [.int .i64 (kof x), .str (nof x), .int .i64 (vof x), .sl (tycs (lof x)) (lof x).length false none]) := by simp [loadA, rdCells, ox, AV.strip]
        simp only [hd2, hma, e1, e2, e5, e9, e42, e43, e44, hwr, hst, hld, Nat.le_add_left, go_sem, ↓reduceIte, reduceCtorEq, Nat.reduceEqDiff, Nat.reduceAdd, Nat.reduceSub, Nat.reduceMul, Nat.reduceLeDiff, Nat.reduceLT, binA]
        exact ⟨kk - 1, by omega, i + 1, cur.set i x, by omega, by rw [List.length_set]; exact hcl12, rfl, rfl, zq', (hkp.trans hks).put' hq0 _⟩
      · have hd2 : decide ((i : Int) < (12 : Int)) = false := by simp; omega
        simp only [hd2, e1, e2, e5, e9, e42, e43, e44, hwr, Nat.le_add_left, go_sem, ↓reduceIte, reduceCtorEq, Nat.reduceEqDiff, Nat.reduceAdd, Nat.reduceSub, Nat.reduceMul, Nat.reduceLeDiff, Nat.reduceLT, loadA, rdCells, storeA, setAt, binA]
        exact ⟨kk - 1, by omega, i + 1, cur, by omega, hcl12, rfl, oq', zq', hkp.trans hks⟩
    · have hie : i = l.length := by omega
      subst hie
      have hd : decide (((l.length : Nat) : Int) < (l.length : Int)) = false := by simp
      simp only [cf9_l1, e1, e2, e5, e9, e42, e43, e44, hd, hlb, Nat.le_add_left, go_sem, ↓reduceIte, reduceCtorEq, Nat.reduceEqDiff, Nat.reduceAdd, Nat.reduceSub, Nat.reduceMul, Nat.reduceLeDiff, Nat.reduceLT, loadA, rdCells, storeA, setAt, binA]
      refine W_loop_nat (fun kk e S => ∃ (j : Nat) (cur : List Tm), 12 - j = kk ∧ j ≤ 4398046511104 ∧ cur.length = 12 ∧ e 2 = .ptr s.size 0 ∧ e 5 = sv ∧ e 9 = .msl q 0 12 4 ∧ e 12 = .int .i64 j ∧ S.obj q = some (.cells (cur.flatMap tyc)) ∧ q < S.size ∧ Keep S0 S) ?_ (12 - l.length) _ _
        ⟨l.length, cur, rfl, hb, hcl12, ?_, ?_, ?_, ?_, oq, zq, hkp⟩
      · clear hcl12 e1 e2 e5 e9 e42 e43 e44 oq zq hkp
        rintro kk e S ⟨j, cur, hjk, hj, hcl12, e2, e5, e9, e12, oq, zq, hkp⟩
        have hln : lenA (.msl q 0 12 4) = some (.int .i64 12) := rfl
        have hwr := U1.wrapn (n := j) (by omega)
        by_cases h12j : j < 12
        · have hd2 : decide ((j : Int) < (12 : Int)) = true := by simp; omega
          have hma := maddr (p := q) (n := 12) (i := j) h12j
          simp only [cf9_l0, hd2, hln, e2, e5, e9, e12, Nat.le_add_left, go_sem, ↓reduceIte, reduceCtorEq, Nat.reduceEqDiff, Nat.reduceAdd, Nat.reduceSub, Nat.reduceMul, Nat.reduceLeDiff, Nat.reduceLT, loadA, rdCells, storeA, setAt, binA]
          refine WO_callx _ rfl ((num_law hX _).mono ?_)
          rintro w S' ⟨rfl, hks⟩
          have oq' := hks.obj zq oq
          have hst := mstore tycP oq' (i := j) (by omega) numT
          simp only [hma, e2, e5, e9, e12, hwr, hst, Nat.le_add_left, go_sem, ↓reduceIte, reduceCtorEq, Nat.reduceEqDiff, Nat.reduceAdd, Nat.reduceSub, Nat.reduceMul, Nat.reduceLeDiff, Nat.reduceLT, binA]
          exact ⟨kk - 1, by omega, j + 1, cur.set j numT, by omega, by omega, by rw [List.length_set]; exact hcl12, rfl, rfl, hks.lt zq, (hkp.trans hks).put' hq0 _⟩
        · have hd2 : decide ((j : Int) < (12 : Int)) = false := by simp; omega
          have hfz := frz_ms oq
          rw [hcl12] at hfz
          obtain ⟨S6, hS6⟩ : ∃ S6, S6 = S.put q (some (.froz (cur.flatMap tyc))) := ⟨_, rfl⟩
          rw [← hS6] at hfz
          have k06 : Keep S0 S6 := by rw [hS6]; exact hkp.put' hq0 _
          have of6 : S6.obj q = some (.froz (cur.flatMap tyc)) := by rw [hS6, put_eq]
          have zq6 : q < S6.size := by rw [hS6]; exact zq
          have hisl := isl_flat cur
          rw [hcl12] at hisl
          have hck := fun S => (U1.checkG_law hX hisl (by omega) S).sub sub
          simp only [cf9_l0, hd2, hln, hfz, e2, e5, e9, e12, Nat.le_add_left, go_sem, ↓reduceIte, reduceCtorEq, Nat.reduceEqDiff, Nat.reduceAdd, Nat.reduceSub, Nat.reduceMul, Nat.reduceLeDiff, Nat.reduceLT, loadA, rdCells, storeA, setAt, binA]
          refine WO_callx _ rfl ((hck _).mono ?_)
          rintro w S7 ⟨c, rfl, hcok, hk7⟩
          have k07 := k06.trans hk7
          have b7 := bx S7 k07
          have of7 := hk7.obj zq6 of6
          cases hc : (c != 0)
          · have hcs := hcok.1 (by simpa using hc)
            have hca := fun S => (U1.check18_law hX a _ (isl_tycs (lof a)) S).sub sub
            simp only [tyw] at hca
            simp only [hc, b7, e2, e5, e9, e12, Nat.le_add_left, go_sem, ↓reduceIte, reduceCtorEq, Nat.reduceEqDiff, Nat.reduceAdd, Nat.reduceSub, Nat.reduceMul, Nat.reduceLeDiff, Nat.reduceLT, loadA, rdCells, storeA, setAt, binA]
            refine WO_callx _ rfl ((hca _).mono ?_)
            rintro w S8 ⟨rfl, hk8⟩
            have k08 := k07.trans hk8
            have b8 := bx S8 k08
            have of8 := hk8.obj (hk7.lt zq6) of7
            cases hca0 : ((chk false 1 4096 a).1 != 0)
            · have hca1 : (chk false 1 4096 a).1 = 0 := by simpa using hca0
              have hta := U1.chk_tsz hca1
              obtain ⟨rk, hac⟩ := hcs.2.2.1
              have hM := bound_ex (fre a)
              obtain ⟨M, hM⟩ := hM
              have hwM := U1.wt_of_chk M false 1 4096 a hca1 hM (by omega)
              obtain ⟨A, hA⟩ := aq_ex hac M a hwM
              have hap := fun S => apply_q hX hisl hac _ a A (by exact hA) (Nat.le_refl _) S
              rw [tyc_w a, tyw, tyc_w A, tyw] at hap
              have hfz8 : frzA S8 (.msl q 0 12 4) = some (.sl (cur.flatMap tyc) 12 false none, S8) := by
                have hll := tycP.lens cur
                simp only [frzA, of8]
                rw [if_pos (by omega), List.drop_zero, List.take_of_length_le (by omega)]
              simp only [hca0, hfz8, b8, e2, e5, e9, e12, Nat.le_add_left, go_sem, ↓reduceIte, reduceCtorEq, Nat.reduceEqDiff, Nat.reduceAdd, Nat.reduceSub, Nat.reduceMul, Nat.reduceLeDiff, Nat.reduceLT, loadA, rdCells, storeA, setAt, binA]
              refine WO_callx _ rfl ((hap _).mono ?_)
              rintro w S9 ⟨rfl, hk9⟩
              have k09 := k08.trans hk9
              have hcx := fun S => (U1.check18_law hX A _ (isl_tycs (lof A)) S).sub sub
              simp only [tyw] at hcx
              simp only [e2, e5, e9, e12, Nat.le_add_left, setAt, go_sem, ↓reduceIte, reduceCtorEq, Nat.reduceEqDiff, Nat.reduceAdd, Nat.reduceSub, Nat.reduceMul, Nat.reduceLeDiff, Nat.reduceLT, loadA, rdCells, storeA, setAt, binA]
              obtain ⟨SA, hSA⟩ : ∃ SA, SA = (S9.new (.cells [.int .i64 0, .str ⟨#[]⟩, .int .i64 0, .nils])).put S9.size (some (.cells [.int .i64 (kof A), .str (nof A), .int .i64 (vof A), .sl (tycs (lof A)) (lof A).length false none])) := ⟨_, rfl⟩
              rw [← hSA]
              have k0A : Keep S0 SA := by rw [hSA]; exact k09.trans (((Keep.refl S9).new' _).put' (Nat.le_refl _) _)
              have zA : SA.size = S9.size + 1 := by rw [hSA]; rfl
              have oA : SA.obj S9.size = some (.cells [.int .i64 (kof A), .str (nof A), .int .i64 (vof A), .sl (tycs (lof A)) (lof A).length false none]) := by rw [hSA, put_eq]
              refine WO_callx _ rfl ((hcx _).mono ?_)
              rintro w SB ⟨rfl, hkB⟩
              have oB := hkB.obj (by omega) oA
              have k0B := k0A.trans hkB
              have zB := hkB.lt (show S9.size < SA.size by omega)
              cases hcA : ((chk false 1 4096 A).1 != 0)
              · have hcA1 : (chk false 1 4096 A).1 = 0 := by simpa using hcA
                have htA := U1.chk_tsz hcA1
                have hfr := fun S => (U1.free_law hX (tsz A) A (Nat.le_refl _) (by omega) _ S (isl_tycs (lof A))).sub sub
                simp only [tyw] at hfr
                simp only [hcA, oB, e2, e5, e9, e12, Nat.le_add_left, go_sem, ↓reduceIte, reduceCtorEq, Nat.reduceEqDiff, Nat.reduceAdd, Nat.reduceSub, Nat.reduceMul, Nat.reduceLeDiff, Nat.reduceLT, loadA, rdCells, storeA, setAt, binA]
                refine WO_callx _ rfl ((hfr _).mono ?_)
                rintro fv SC ⟨hfv, hkC⟩
                have hfl := hfv.len
                have k0C := k0B.trans hkC
                have oC := hkC.obj zB oB
                have zC := hkC.lt zB
                have bC := bx SC k0C
                cases hfg : decide (((fre A).length : Int) > 0)
                · have hf0 : fre A = [] := List.eq_nil_of_length_eq_zero (by have : ¬ (((fre A).length : Int) > 0) := of_decide_eq_false hfg; omega)
                  have hgr : Gr A := fun x ho => by
                    have := (fre_mem x A).2 ho
                    rw [hf0] at this; simp at this
                  obtain ⟨hap2, hwa⟩ := aq_ap M hA hwM hgr
                  rw [hcl12] at hwa
                  have hk4 : decide (kof a ≥ 4) = false := by
                    obtain ⟨k, m, v, la⟩ := a
                    exact chk_row4 hca1
                  have hk4A : decide (kof A ≥ 4) = false := by
                    obtain ⟨k, m, v, la⟩ := A
                    exact chk_row4 hcA1
                  have ta : TyOk 12 a := ⟨by rw [hk4]; exact hca1, List.any_eq_false.2 fun x hx => by have := U1.wt_occ _ a (Nat.le_refl _) hwa ((fre_mem x a).1 hx); simp; omega⟩
                  have tA : TyOk 12 A := ⟨by rw [hk4A]; exact hcA1, by rw [hf0]; rfl⟩
                  have hth : ∀ i : Nat, ∃ T, i < 12 → Ap cur (vtm i) T ∧ tsz T ≤ 4096 ∧ Wt 12 T := fun i => by
                    by_cases hi : i < 12
                    · have hwv : Wt cur.length (vtm i) := U1.wt_vtm (by omega)
                      obtain ⟨T, hT⟩ := hac.ex hwv
                      exact ⟨T, fun _ => ⟨hT, hcs.2.2.2 i T (by omega) hT, by have := ap_wt hac hT hwv; rwa [hcl12] at this⟩⟩
                    · exact ⟨numT, fun h => absurd h hi⟩
                  have hG : GI (fun i => (hth i).choose) (vars 12) := ⟨fine_vars, hvl, fun i hi => Or.inl (vars_at hi)⟩
                  obtain ⟨ss', hrun, hG'⟩ := ins_run hcl12 (fun i hi => (hth i).choose_spec hi) _ a A (vars 12) (Nat.le_refl _) hap2 hgr hwa (U1.tyok_wt tA) hG
                  have hu2 := fun S => (U1.unifyN_law hX hsv h12p h12 ss' a A _ _ (isl_tycs (lof a)) (isl_tycs (lof A)) 0 (fun _ _ _ => hrun) S).sub sub
                  simp only [tyw] at hu2
                  simp only [hfl, hfg, oC, bC, e2, e5, e9, e12, Nat.le_add_left, go_sem, ↓reduceIte, reduceCtorEq, Nat.reduceEqDiff, Nat.reduceAdd, Nat.reduceSub, Nat.reduceMul, Nat.reduceLeDiff, Nat.reduceLT, loadA, rdCells, storeA, setAt, binA]
                  refine WO_callx _ rfl ((hu2 _).mono ?_)
                  rintro w SD ⟨e2', ⟨rv2, rfl, hq2, -, hkD⟩, ha2, -⟩
                  obtain rfl : e2' = 0 := ha2 ⟨ck_vars, by rw [hvl]; exact ta, by rw [hvl]; exact tA⟩
                  obtain ⟨q2, rfl, oq2, zq2, lq2⟩ := hq2 rfl
                  have hfz2 := frz_ms oq2
                  obtain ⟨SE, hSE⟩ : ∃ SE, SE = SD.put q2 (some (.froz (ss'.flatMap tyc))) := ⟨_, rfl⟩
                  rw [← hSE] at hfz2
                  have kCE : Keep SC SE := by rw [hSE]; exact hkD.put' lq2 _
                  have k0E := k0C.trans kCE
                  have bE := bx SE k0E
                  have oE := kCE.obj zC oC
                  simp only [hfz2, e2, e5, e9, e12, Nat.le_add_left, go_sem, ↓reduceIte, reduceCtorEq, Nat.reduceEqDiff, Nat.reduceAdd, Nat.reduceSub, Nat.reduceMul, Nat.reduceLeDiff, Nat.reduceLT, loadA, rdCells, storeA, setAt, binA]
                  obtain ⟨rk2, hac2⟩ := hG'.fine.1
                  have hl2 := hG'.len
                  have wa2 : Wt ss'.length a := by rw [hl2]; exact hwa
                  have wA2 : Wt ss'.length A := by rw [hl2]; exact U1.tyok_wt tA
                  obtain ⟨A2, hA2⟩ := hac2.ex wa2
                  obtain ⟨B2, hB2⟩ := hac2.ex wA2
                  have hBA := ap_gr _ A B2 (Nat.le_refl _) hgr hB2
                  subst hBA
                  have hnf : nf A2 = nf B2 := U1.un_snd hrun rfl fine_vars (by rw [hvl]; decide) ⟨by rw [hvl]; exact hwa, by rw [hvl]; exact U1.tyok_wt tA⟩ ss' (Le.refl _) A2 B2 hA2 hB2
                  have hsm2 := un_small hrun rfl small_vars
                  have h1 := ap_tsz hsm2 hA2 wa2
                  have pA := fun S => apply_law hX (isl_flat ss') hac2 _ a A2 hA2 (Nat.le_refl _) wa2 S
                  have sAB := fun S => same_law (isl_tycs (lof A2)) (isl_tycs (lof B2)) (U1.wt_val _ (ap_wt hac2 hA2 wa2)) (U1.wt_val _ wA2) (by unfold big; omega) (by unfold big; omega) S
                  rw [tyc_w a, tyw] at pA
                  simp only [hnf, eqb_rfl, ← tyc_w] at sAB
                  rw [tyc_w B2, tyw] at sAB
                  refine W_dreg ?_
                  simp only [wt_ops, stpT, Tr, wt_gs, grdT_t, e2, e5, e9, e12, bE, oE, wt_nil, chk1, avr, Bool.or_true, Nat.le_add_left, go_sem, ↓reduceIte, reduceCtorEq, Nat.reduceEqDiff, Nat.reduceAdd, Nat.reduceSub, Nat.reduceMul, Nat.reduceLeDiff, Nat.reduceLT, loadA, rdCells, storeA, setAt, binA]
                  refine WT_callg _ (by simp only [go_sem, ↓reduceIte, reduceCtorEq, Nat.reduceEqDiff, Nat.reduceAdd, Nat.reduceSub, Nat.reduceMul, Nat.reduceLeDiff, Nat.reduceLT, loadA, rdCells, storeA, setAt, binA]) rfl ((pA _).mono ?_)
                  rintro w SF ⟨rfl, hkF⟩
                  have oF := hkF.obj (kCE.lt zC) oE
                  simp only [wt_ops, stpT, Tr, wt_gs, grdT_t, e2, e5, e9, e12, bE, oE, oF, wt_nil, chk1, avr, Bool.or_true, Nat.le_add_left, go_sem, ↓reduceIte, reduceCtorEq, Nat.reduceEqDiff, Nat.reduceAdd, Nat.reduceSub, Nat.reduceMul, Nat.reduceLeDiff, Nat.reduceLT, loadA, rdCells, storeA, setAt, binA]
                  refine WT_callg _ (by simp only [go_sem, ↓reduceIte, reduceCtorEq, Nat.reduceEqDiff, Nat.reduceAdd, Nat.reduceSub, Nat.reduceMul, Nat.reduceLeDiff, Nat.reduceLT, loadA, rdCells, storeA, setAt, binA]) rfl ((sAB _).mono ?_)
                  rintro w SG ⟨rfl, hkG⟩
                  simp only [wt_ops, stpT, Tr, wt_gs, grdT_t, e2, e5, e9, e12, bE, oE, oF, wt_nil, chk1, avr, Bool.or_true, Bool.false_or, Nat.le_add_left, go_sem, ↓reduceIte, reduceCtorEq, Nat.reduceEqDiff, Nat.reduceAdd, Nat.reduceSub, Nat.reduceMul, Nat.reduceLeDiff, Nat.reduceLT, loadA, rdCells, storeA, setAt, binA]
                  exact ⟨by simp, _, rfl, rfl⟩
                · simp only [hfl, hfg, go_sem, ↓reduceIte, reduceCtorEq, Nat.reduceEqDiff, Nat.reduceAdd, Nat.reduceSub, Nat.reduceMul, Nat.reduceLeDiff, Nat.reduceLT, loadA, rdCells, storeA, setAt, binA]
                  exact ⟨by simp, _, rfl, rfl⟩
              · simp only [hcA, go_sem, ↓reduceIte, reduceCtorEq, Nat.reduceEqDiff, Nat.reduceAdd, Nat.reduceSub, Nat.reduceMul, Nat.reduceLeDiff, Nat.reduceLT, loadA, rdCells, storeA, setAt, binA]
                exact ⟨by simp, _, rfl, rfl⟩
            · simp only [hca0, go_sem, ↓reduceIte, reduceCtorEq, Nat.reduceEqDiff, Nat.reduceAdd, Nat.reduceSub, Nat.reduceMul, Nat.reduceLeDiff, Nat.reduceLT, loadA, rdCells, storeA, setAt, binA]
              exact ⟨by simp, _, rfl, rfl⟩
          · simp only [hc, go_sem, ↓reduceIte, reduceCtorEq, Nat.reduceEqDiff, Nat.reduceAdd, Nat.reduceSub, Nat.reduceMul, Nat.reduceLeDiff, Nat.reduceLT, loadA, rdCells, storeA, setAt, binA]
            exact ⟨by simp, _, rfl, rfl⟩
      · simp only [e2, go_sem, ↓reduceIte, reduceCtorEq, Nat.reduceEqDiff, Nat.reduceAdd, Nat.reduceSub, Nat.reduceMul, Nat.reduceLeDiff, Nat.reduceLT, loadA, rdCells, storeA, setAt, binA]
      · simp only [e5, go_sem, ↓reduceIte, reduceCtorEq, Nat.reduceEqDiff, Nat.reduceAdd, Nat.reduceSub, Nat.reduceMul, Nat.reduceLeDiff, Nat.reduceLT, loadA, rdCells, storeA, setAt, binA]
      · simp only [e9, go_sem, ↓reduceIte, reduceCtorEq, Nat.reduceEqDiff, Nat.reduceAdd, Nat.reduceSub, Nat.reduceMul, Nat.reduceLeDiff, Nat.reduceLT, loadA, rdCells, storeA, setAt, binA]
      · simp only [go_sem, ↓reduceIte, reduceCtorEq, Nat.reduceEqDiff, Nat.reduceAdd, Nat.reduceSub, Nat.reduceMul, Nat.reduceLeDiff, Nat.reduceLT, loadA, rdCells, storeA, setAt, binA]
  · simp only [go_sem, ↓reduceIte, reduceCtorEq, Nat.reduceEqDiff, Nat.reduceAdd, Nat.reduceSub, Nat.reduceMul, Nat.reduceLeDiff, Nat.reduceLT, loadA, rdCells, storeA, setAt, binA]
  · simp only [go_sem, ↓reduceIte, reduceCtorEq, Nat.reduceEqDiff, Nat.reduceAdd, Nat.reduceSub, Nat.reduceMul, Nat.reduceLeDiff, Nat.reduceLT, loadA, rdCells, storeA, setAt, binA]
  · simp only [go_sem, ↓reduceIte, reduceCtorEq, Nat.reduceEqDiff, Nat.reduceAdd, Nat.reduceSub, Nat.reduceMul, Nat.reduceLeDiff, Nat.reduceLT, loadA, rdCells, storeA, setAt, binA]
  · simp only [go_sem, ↓reduceIte, reduceCtorEq, Nat.reduceEqDiff, Nat.reduceAdd, Nat.reduceSub, Nat.reduceMul, Nat.reduceLeDiff, Nat.reduceLT, loadA, rdCells, storeA, setAt, binA]
  · simp only [go_sem, ↓reduceIte, reduceCtorEq, Nat.reduceEqDiff, Nat.reduceAdd, Nat.reduceSub, Nat.reduceMul, Nat.reduceLeDiff, Nat.reduceLT, loadA, rdCells, storeA, setAt, binA]
  · simp only [go_sem, ↓reduceIte, reduceCtorEq, Nat.reduceEqDiff, Nat.reduceAdd, Nat.reduceSub, Nat.reduceMul, Nat.reduceLeDiff, Nat.reduceLT, loadA, rdCells, storeA, setAt, binA]
  · simp only [go_sem, ↓reduceIte, reduceCtorEq, Nat.reduceEqDiff, Nat.reduceAdd, Nat.reduceSub, Nat.reduceMul, Nat.reduceLeDiff, Nat.reduceLT, loadA, rdCells, storeA, setAt, binA]; rfl
end Go.Am.U2

/- UnifyExtends: the arguments. Conditions: none. -/
namespace Go.Am.U2
open Go.Am.Un Go.So Go.Proofs
set_option maxRecDepth 100000
theorem arg_tm {a : AV} (h : TyA Tryd.prog 24 a) : ∃ t, a = .agg (tyc t) := by
  unfold TyA TyAR at h
  rw [Tryd.underlying24] at h
  obtain ⟨cs, rfl, h3⟩ := h
  obtain ⟨t, rfl⟩ := U1.tm_of _ cs (Nat.le_refl _) h3
  exact ⟨t, rfl⟩
end Go.Am.U2

/- UnifyInstances: the arguments. Conditions: none. -/
namespace Go.Am.U2
open Go.Am.Un Go.So Go.Proofs
set_option maxRecDepth 100000
theorem b24 : Tryd.prog.bytesOf 24 = 56 := by kernel_rfl
theorem args_tm {a : AV} (h : TyA Tryd.prog 22 a) : ∃ l, ISl tyc a l ∧ l.length * 56 ≤ reachBytes := by
  obtain ⟨l, h1, -, -, h2⟩ := slice_arg (f := tyc) (p := fun _ => True) Tryd.underlying22 (fun cs h => by obtain ⟨t, rfl⟩ := U1.tm_of _ cs (Nat.le_refl _) h; exact ⟨t, rfl, trivial⟩) h
  rw [b24] at h2
  exact ⟨l, h1, h2⟩
theorem instances_all : ∀ us, TyAs Tryd.prog [24, 22] us → WC T Xb 9 us st0 (fun v _ => v = .bool true) := by
  intro us h
  cases h with | cons t a ts us h1 hs =>
  cases hs with | cons t b ts us h2 hs =>
  cases hs
  obtain ⟨a, rfl⟩ := arg_tm h1
  obtain ⟨l, hl, hb⟩ := args_tm h2
  simp only [reachBytes] at hb
  exact instances_law a hl (by omega) st0
end Go.Am.U2

/- The wrap of a row that lists variables, the world's shape kept. Conditions: none. -/
namespace Go
variable {H : Type} {enc : TypeId × Value → H}

theorem returnsInHanded_of_change_and_shaped {a : Assume} {C : Checked} {os : Os} {f : FuncId} {fn : Func} {s : ChangeSpec} {conds : List PathCond} {apart fresh handsOn again : Bool} {X : World → Array Value → Prop}
    (hX : ∀ (w w' : World) (args : Array Value), w.heap = w'.heap → X w args → X w' args)
    (own : ownKnob C.prog.godebug = none) (started : os.Started) (noInit : C.prog.inits.idxOf? f = none) (hfn : C.prog.funcs[f]? = some fn)
    (witness : ∃ (w : World) (tape : Tape) (i : Input), w.os = os ∧ (w.forCall tape i).Shaped C.prog ∧ i.vars = [] ∧ Input.okWide C.prog (w.forCall tape i) .any w.heap.size f i ∧
      ((s.pre enc C.prog fn conds apart (w.forCall tape i).memory i.args ∧ X (w.forCall tape i).memory i.args) ∧ sizedMet enc C.prog fn (OpenSpec.ofChange s) apart (w.forCall tape i).memory i.args) ∧ a.holds C.prog (lone (Frame.enter C.prog f i.args .normal) [] (w.forCall tape i)))
    (contract : ∀ (W : World) (base : Nat) (args : Array Value) (ds gs : List (DataW H)) (before : List MemPlace),
      (∀ (j : Nat) t v, fn.params[j]? = some t → args[j]? = some v → Value.okWide C.prog W .any base t v) →
      DataW.Whole enc C.prog fn.params.toList s.vars apart W args.toList ds gs before →
      (DataW.weightsEach C.prog (fn.params.toList ++ s.plain.varTypes C.prog) (ds ++ gs)).all (· ≤ reachBytes) = true → X W args → W.ShapedOpen C.prog →
      Calls C.prog f args W fun e W' => ∃ v, e = .returned v ∧ s.post enc C.prog fn apart fresh handsOn again W args v W') :
    ReturnsInHanded a C os f .any (fun w args => (s.pre enc C.prog fn conds apart w args ∧ X w args) ∧ sizedMet enc C.prog fn (OpenSpec.ofChange s) apart w args) (s.post enc C.prog fn apart fresh handsOn again) := by
  refine returnsInHanded_of_calls own started noInit witness ?_
  intro w tape i _ hsh _ hok hpre hholds
  obtain ⟨_, _, _, fn', hfn', _, _, _, _, hval⟩ := hok
  have e : fn' = fn := Option.some.inj (hfn'.symm.trans hfn)
  subst e
  obtain ⟨⟨⟨ds, gs, before, hw, hc⟩, hx⟩, hz⟩ := hpre
  have hw' := DataW.Whole.of_heap (w' := w.forCall tape i) (by rfl) hw
  refine (contract (w.forCall tape i) w.heap.size i.args ds gs before hval hw' (hz.weights hw) (hX _ _ _ (by rfl) hx) hsh).mono fun e W' ⟨v, he, hp⟩ => ?_
  subst he
  exact ChangeSpec.post_blind hp
end Go
