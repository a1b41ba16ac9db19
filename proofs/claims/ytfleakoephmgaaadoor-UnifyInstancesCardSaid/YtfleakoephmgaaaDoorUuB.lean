/- Strings in the machine, and rows of labels. Conditions: none. -/
import Derived.Test.YtfleakoephmgaaaDoorUoM
import Derived.Test.YtfleakoephmgaaaDoorAmWa
import Derived.Test.YtfleakoephmgaaaDoorUtI
import Derived.Test.YtfleakoephmgaaaDoorUnN
set_option linter.unusedSimpArgs false
set_option linter.unusedVariables false
namespace Go.Am.U2
open Go.Am.Un
open Go.Am.U1 (drop_at tyw tyc_w NoX vtm vtm_c isl_tycs ne_a ne_b ne_c ne_d ne_e ne_f)
set_option maxRecDepth 100000
set_option linter.unusedSimpArgs false
attribute [local go_sem] wseq COp.isStore wreg wdreg wret wskip wexit wblock wcnd cnd_t cnd_f then_n then_x then_r catch_n rnd_n rnd_x rnd_r catch_x catch_r wo_nil wo_grd grdO_t grdO_f wo_ops stpO wr_nil wr_alloc wr_guards grdR_t grdR_f wr_ops stpR evAllocs evOp env0_app eput_some eput_none eset_app Opd.ev wantedA faddrA snew_obj snew_size sput_obj sput_size av_cells av_one av_strip av_still unA eqbA fillA fldA lensA mmA mm2 mmFold List.getD_cons_zero List.getD_cons_succ List.getD_nil List.length_cons List.length_nil List.drop_zero List.drop_succ_cons List.take_succ_cons List.take_zero List.map_cons List.map_nil List.set_cons_zero List.set_cons_succ List.all_cons List.all_nil List.getElem?_cons_zero List.getElem?_cons_succ List.nil_append List.cons_append Nat.zero_add Nat.add_zero beq_self_eq_true bt bf Bool.not_true Bool.not_false Bool.and_true Bool.true_and Bool.and_false Bool.false_and and_self and_true true_and n0 n1 n2 n3 n4 m0 m1 m2 m3 c1 retA resAs resA undefA Option.map_some Option.map_none
variable {X : Ext}

end Go.Am.U2

/- Extend and Unify over the unifier's runs. Conditions: none. -/
namespace Go.Am.U1
open Go.Am.Un
set_option maxRecDepth 100000
set_option linter.unusedSimpArgs false
attribute [local go_sem] wseq COp.isStore wreg wdreg wret wskip wexit wblock wcnd cnd_t cnd_f then_n then_x then_r catch_n rnd_n rnd_x rnd_r catch_x catch_r wo_nil wo_grd grdO_t grdO_f wo_ops stpO wr_nil wr_alloc wr_guards grdR_t grdR_f wr_ops stpR evAllocs evOp env0_app eput_some eput_none eset_app Opd.ev wantedA faddrA snew_obj snew_size sput_obj sput_size av_cells av_one av_strip av_still unA eqbA fillA fldA lensA mmA mm2 mmFold List.getD_cons_zero List.getD_cons_succ List.getD_nil List.length_cons List.length_nil List.drop_zero List.drop_succ_cons List.take_succ_cons List.take_zero List.map_cons List.map_nil List.set_cons_zero List.set_cons_succ List.all_cons List.all_nil List.getElem?_cons_zero List.getElem?_cons_succ List.nil_append List.cons_append Nat.zero_add Nat.add_zero beq_self_eq_true bt bf Bool.not_true Bool.not_false Bool.and_true Bool.true_and Bool.and_false Bool.false_and and_self and_true true_and n0 n1 n2 n3 n4 m0 m1 m2 m3 c1 retA resAs resA undefA Option.map_some Option.map_none
variable {X : Ext}

end Go.Am.U1

/- Runs of the unifier over rows of labels. Conditions: none. -/
namespace Go.Am.U2
open Go.Am.Un
open Go.Am.U1 (vtm vars vars_len vars_at WalkTo ExR TlE Un Jb BdR OC szd Fine Wt JWt Acy wt_vtm Wts wt_le)
set_option linter.unusedSimpArgs false

theorem walk_v {i : Nat} (h : i < 12) : WalkTo (vars 12) (vtm i) (vtm i) := U1.walk_vtm h
theorem walk_num (ss : List Tm) : WalkTo ss numT numT := .con _ (by simp [numT, kof])
theorem fine_vars : Fine (vars 12) := by
  refine ⟨⟨fun _ => 0, ⟨fun i u hi => ?_, fun i u hi => ?_⟩⟩, by rw [vars_len]; decide⟩
  · have h : i < 12 := by have := (List.getElem?_eq_some_iff.1 hi).1; rwa [vars_len] at this
    rw [vars_at h] at hi; cases hi
    rw [vars_len]; exact wt_vtm h
  · have h : i < 12 := by have := (List.getElem?_eq_some_iff.1 hi).1; rwa [vars_len] at this
    rw [vars_at h] at hi; cases hi
    exact Or.inl ⟨rfl, rfl⟩
end Go.Am.U2
