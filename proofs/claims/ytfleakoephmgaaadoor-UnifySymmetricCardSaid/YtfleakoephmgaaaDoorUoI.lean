/- Same, sortedRows, CheckRow. Conditions: none. -/
import Derived.Test.YtfleakoephmgaaaDoorUoH
import Derived.Test.YtfleakoephmgaaaDoorUtH
import Derived.Test.YtfleakoephmgaaaDoorUoH
import Derived.Test.YtfleakoephmgaaaDoorUnO
set_option linter.unusedSimpArgs false
set_option linter.unusedVariables false
namespace Go.Am.U2
open Go.Am.Un Go.So
open Go.Am.U1 (tycP isl_tycs drop_at tyw tyc_w NoX vtm vtm_c len_tszs tsz_pos ne_a ne_b ne_c ne_d ne_e ne_f avr)
set_option maxRecDepth 100000
set_option linter.unusedSimpArgs false
attribute [local go_sem] wseq COp.isStore wreg wdreg wret wskip wexit wblock wcnd cnd_t cnd_f then_n then_x then_r catch_n rnd_n rnd_x rnd_r catch_x catch_r wo_nil wo_grd grdO_t grdO_f wo_ops stpO wr_nil wr_alloc wr_guards grdR_t grdR_f wr_ops stpR evAllocs evOp env0_app eput_some eput_none eset_app Opd.ev wantedA faddrA snew_obj snew_size sput_obj sput_size av_cells av_one av_strip av_still unA eqbA fillA fldA lensA mmA mm2 mmFold List.getD_cons_zero List.getD_cons_succ List.getD_nil List.length_cons List.length_nil List.drop_zero List.drop_succ_cons List.take_succ_cons List.take_zero List.map_cons List.map_nil List.set_cons_zero List.set_cons_succ List.all_cons List.all_nil List.getElem?_cons_zero List.getElem?_cons_succ List.nil_append List.cons_append Nat.zero_add Nat.add_zero beq_self_eq_true bt bf Bool.not_true Bool.not_false Bool.and_true Bool.true_and Bool.and_false Bool.false_and and_self and_true true_and n0 n1 n2 n3 n4 m0 m1 m2 m3 c1 retA resAs resA undefA Option.map_some Option.map_none
variable {X : Ext}

def numT : Tm := .mk 1 ⟨#[80, 114, 101, 108, 117, 100, 101, 46, 73, 110, 116]⟩ 0 []
theorem num_law (hX : NoX X) (s : St) : WC T X 23 [] s (fun v s' => v = .agg (tyc numT) ∧ Keep s s') := by
  refine WC.sub sub (T := U1.T) ?_
  refine WC_fn U1.cf23 (hX 23 (by decide)) U1.T23 (by simp [U1.cf23]) ?_
  have : tyc numT = [.int .i64 1, .str ⟨#[80, 114, 101, 108, 117, 100, 101, 46, 73, 110, 116]⟩, .int .i64 0, .sl [] 0 false none] := by rw [numT, tyc, tycs]; rfl
  rw [this]
  simp only [U1.cf23, Nat.le_add_left, go_sem, ↓reduceIte, reduceCtorEq, Nat.reduceEqDiff, Nat.reduceAdd, Nat.reduceSub, Nat.reduceMul, Nat.reduceLeDiff, Nat.reduceLT, loadA, rdCells, storeA, setAt, binA]
  exact ⟨by simp, _, rfl, rfl, ((Keep.refl s).new' _).put' (Nat.le_refl _) _⟩

theorem bl_tri : ∀ (a b : List UInt8), (!(Op.bytesLess a b || a == b)) = Op.bytesLess b a
  | [], [] => by simp [Op.bytesLess]
  | [], _ :: _ => by simp [Op.bytesLess]
  | _ :: _, [] => by simp [Op.bytesLess]
  | x :: a, y :: b => by
    have ih := bl_tri a b
    simp only [Op.bytesLess, List.cons_beq_cons]
    rw [← ih]
    rcases Nat.lt_trichotomy x.toNat y.toNat with h | h | h
    · have h1 : x < y := by rw [UInt8.lt_iff_toNat_lt]; exact h
      have h2 : ¬ y < x := by rw [UInt8.lt_iff_toNat_lt]; omega
      have h3 : y ≠ x := fun e => by subst e; omega
      simp [h1, h2, h3]
    · have h1 : x = y := UInt8.toNat_inj.1 h
      subst h1
      have h2 : ¬ x < x := by rw [UInt8.lt_iff_toNat_lt]; omega
      simp [h2]
    · have h1 : y < x := by rw [UInt8.lt_iff_toNat_lt]; exact h
      have h2 : ¬ x < y := by rw [UInt8.lt_iff_toNat_lt]; omega
      have h3 : x ≠ y := fun e => by subst e; omega
      simp [h1, h2, h3]
end Go.Am.U2
