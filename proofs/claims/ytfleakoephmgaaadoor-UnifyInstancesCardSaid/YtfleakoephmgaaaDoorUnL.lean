/- A part of the proof of unifyInstances. Conditions: none. -/
import Derived.Test.YtfleakoephmgaaaDoorUnI
set_option linter.unusedSimpArgs false
set_option linter.unusedVariables false
namespace Go.Am.U1
open Go.Am.Un
set_option maxRecDepth 100000
set_option linter.unusedSimpArgs false
attribute [local go_sem] wseq COp.isStore wreg wdreg wret wskip wexit wblock wcnd cnd_t cnd_f then_n then_x then_r catch_n rnd_n rnd_x rnd_r catch_x catch_r wo_nil wo_grd grdO_t grdO_f wo_ops stpO wr_nil wr_alloc wr_guards grdR_t grdR_f wr_ops stpR evAllocs evOp env0_app eput_some eput_none eset_app Opd.ev wantedA faddrA snew_obj snew_size sput_obj sput_size av_cells av_one av_strip av_still unA eqbA fillA fldA lensA mmA mm2 mmFold List.getD_cons_zero List.getD_cons_succ List.getD_nil List.length_cons List.length_nil List.drop_zero List.drop_succ_cons List.take_succ_cons List.take_zero List.map_cons List.map_nil List.set_cons_zero List.set_cons_succ List.all_cons List.all_nil List.getElem?_cons_zero List.getElem?_cons_succ List.nil_append List.cons_append Nat.zero_add Nat.add_zero beq_self_eq_true bt bf Bool.not_true Bool.not_false Bool.and_true Bool.true_and Bool.and_false Bool.false_and and_self and_true true_and n0 n1 n2 n3 n4 m0 m1 m2 m3 c1 retA resAs resA undefA Option.map_some Option.map_none
variable {X : Ext}

theorem kof_mk (k : Int) (n : ByteArray) (v : Int) (l : List Tm) : kof (.mk k n v l) = k := rfl
theorem nof_mk (k : Int) (n : ByteArray) (v : Int) (l : List Tm) : nof (.mk k n v l) = n := rfl
theorem vof_mk (k : Int) (n : ByteArray) (v : Int) (l : List Tm) : vof (.mk k n v l) = v := rfl
theorem lof_mk (k : Int) (n : ByteArray) (v : Int) (l : List Tm) : lof (.mk k n v l) = l := rfl

end Go.Am.U1
