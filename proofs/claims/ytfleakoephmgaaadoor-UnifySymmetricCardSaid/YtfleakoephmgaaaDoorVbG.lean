/- UnifyExtends: the walk. Conditions: none. -/
import Derived.Test.YtfleakoephmgaaaDoorUuA
set_option linter.unusedSimpArgs false
set_option linter.unusedVariables false
namespace Go.Am.U2
open Go.Am.Un Go.So
open Go.Am.U1 (tycP isl_tycs drop_at tyw tyc_w NoX vtm vtm_c vars vars_len vars_at len_tszs tsz_pos ne_a ne_b ne_c ne_d ne_e ne_f avr WalkTo Ap Aps Acy Wt Un TyOk CkOk Le UniN ExtN JEq Small)
set_option maxRecDepth 100000
set_option linter.unusedSimpArgs false
attribute [local go_sem] wseq COp.isStore wreg wdreg wret wskip wexit wblock wcnd cnd_t cnd_f then_n then_x then_r catch_n rnd_n rnd_x rnd_r catch_x catch_r wo_nil wo_grd grdO_t grdO_f wo_ops stpO wr_nil wr_alloc wr_guards grdR_t grdR_f wr_ops stpR evAllocs evOp env0_app eput_some eput_none eset_app Opd.ev wantedA faddrA snew_obj snew_size sput_obj sput_size av_cells av_one av_strip av_still unA eqbA fillA fldA lensA mmA mm2 mmFold List.getD_cons_zero List.getD_cons_succ List.getD_nil List.length_cons List.length_nil List.drop_zero List.drop_succ_cons List.take_succ_cons List.take_zero List.map_cons List.map_nil List.set_cons_zero List.set_cons_succ List.all_cons List.all_nil List.getElem?_cons_zero List.getElem?_cons_succ List.nil_append List.cons_append Nat.zero_add Nat.add_zero beq_self_eq_true bt bf Bool.not_true Bool.not_false Bool.and_true Bool.true_and Bool.and_false Bool.false_and and_self and_true true_and n0 n1 n2 n3 n4 m0 m1 m2 m3 c1 retA resAs resA undefA Option.map_some Option.map_none
variable {X : Ext}

theorem frz_ms {S : St} {q : Nat} {ss : List Tm} (h : S.obj q = some (.cells (ss.flatMap tyc))) : frzA S (.msl q 0 ss.length 4) = some (.sl (ss.flatMap tyc) ss.length false none, S.put q (some (.froz (ss.flatMap tyc)))) := by
  have hl := tycP.lens ss
  simp only [frzA, h]
  rw [if_pos ⟨by omega, tycP.stills ss⟩, List.drop_zero, List.take_of_length_le (by omega), tycP.strips ss]

/-- What stands at a place of a substitution that reads as an immutable list. -/
theorem isl_flat (ss : List Tm) : ISl tyc (.sl (ss.flatMap tyc) ss.length false none) ss := Or.inr ⟨false, none, rfl⟩

theorem runs (ss : List Tm) (a b : Tm) : ∃ e ss', CkOk ss → TyOk ss.length a → TyOk ss.length b → Un ss (.un a b) e ss' := by
  by_cases h : CkOk ss ∧ TyOk ss.length a ∧ TyOk ss.length b
  · obtain ⟨h1, h2, h3⟩ := h
    obtain ⟨e, ss', hu⟩ := U1.un_run (U1.ckok_fine h1) h1.1 (U1.tyok_wt h2) (U1.tyok_wt h3)
    exact ⟨e, ss', fun _ _ _ => hu⟩
  · exact ⟨0, ss, fun h1 h2 h3 => absurd ⟨h1, h2, h3⟩ h⟩
theorem frz_nil (S : St) : frzA S .nils = some (.nils, S) := rfl
theorem un_ck {ss ss' : List Tm} {a b : Tm} (h : Un ss (.un a b) 0 ss') (hc : CkOk ss) (ha : TyOk ss.length a) (hb : TyOk ss.length b) : U1.Fine ss' ∧ ss.length ≤ ss'.length ∧ ss'.length ≤ 4096 ∧ Small ss' ∧ Le ss ss' := by
  obtain ⟨h1, h2, h3⟩ := U1.un_fine h (U1.ckok_fine hc) hc.1 ⟨U1.tyok_wt ha, U1.tyok_wt hb⟩
  exact ⟨h1, h2, h3 rfl, un_small h rfl hc.2.2.2, U1.un_le h⟩

end Go.Am.U2
