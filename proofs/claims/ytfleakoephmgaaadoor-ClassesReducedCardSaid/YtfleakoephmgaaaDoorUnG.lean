/- A part of the proof of Go. Conditions: none. -/
import Derived.Test.YtfleakoephmgaaaDoorUnF
set_option linter.unusedSimpArgs false
set_option linter.unusedVariables false
namespace Go.Am.U1
open Go.Am.Un
set_option maxRecDepth 100000
set_option linter.unusedSimpArgs false
attribute [local go_sem] wseq COp.isStore wreg wdreg wret wskip wexit wblock wcnd cnd_t cnd_f then_n then_x then_r catch_n rnd_n rnd_x rnd_r catch_x catch_r wo_nil wo_grd grdO_t grdO_f wo_ops stpO wr_nil wr_alloc wr_guards grdR_t grdR_f wr_ops stpR evAllocs evOp env0_app eput_some eput_none eset_app Opd.ev wantedA faddrA snew_obj snew_size sput_obj sput_size av_cells av_one av_strip av_still unA eqbA fillA fldA lensA mmA mm2 mmFold List.getD_cons_zero List.getD_cons_succ List.getD_nil List.length_cons List.length_nil List.drop_zero List.drop_succ_cons List.take_succ_cons List.take_zero List.map_cons List.map_nil List.set_cons_zero List.set_cons_succ List.all_cons List.all_nil List.getElem?_cons_zero List.getElem?_cons_succ List.nil_append List.cons_append Nat.zero_add Nat.add_zero beq_self_eq_true bt bf Bool.not_true Bool.not_false Bool.and_true Bool.true_and Bool.and_false Bool.false_and and_self and_true true_and n0 n1 n2 n3 n4 m0 m1 m2 m3 c1 retA resAs resA undefA Option.map_some Option.map_none
variable {X : Ext}

/-- The substitution that changes nothing. -/
def vtm (i : Nat) : Tm := .mk 0 ⟨#[]⟩ i []
def vars (N : Nat) : List Tm := (List.range N).map vtm
theorem vars_at {N i : Nat} (h : i < N) : (vars N)[i]? = some (vtm i) := by simp [vars, h]
theorem vtm_c (i : Nat) : tyc (vtm i) = [.int .i64 0, .str ⟨#[]⟩, .int .i64 i, .sl [] 0 false none] := by rw [vtm, tyc, tycs]; rfl

theorem check18_law (hX : NoX X) (t : Tm) (w : AV) (hw : ISl tyc w (lof t)) (s : St) : WC T X 18 [.agg (tyw t w)] s (fun v s' => v = .int .i64 (chk false 1 4096 t).1 ∧ Keep s s') := by
  refine WC_fn cf18 (hX 18 (by decide)) T18 (by simp [cf18]) ?_
  have hc := fun (s1 : St) (b : Nat) (w : AV) ho hw hb => check_law hX b (tsz t) t (Nat.le_refl _) w 1 4096 false s1 hw (by omega) (by omega) (by omega) (by omega) ho hb
  simp only [tyw] at hc
  obtain ⟨w', hw'⟩ : ∃ w', w' = AV.strip w := ⟨_, rfl⟩
  have hiw : ISl tyc w' (lof t) := by
    rcases hw with ⟨rfl, h⟩ | ⟨f, tk, rfl⟩
    · rw [hw', h]; exact Or.inr ⟨false, none, rfl⟩
    · rw [hw']; exact Or.inr ⟨false, none, rfl⟩
  simp only [cf18, tyw, ← hw', go_sem, ↓reduceIte, reduceCtorEq, Nat.reduceEqDiff, Nat.reduceAdd, Nat.reduceSub, Nat.reduceMul, Nat.reduceLeDiff, Nat.reduceLT, loadA, rdCells, storeA, setAt, binA]
  refine WO_callx _ rfl ((hc _ (s.size + 1) _ (new_eq (by simp [St.new])) hiw (by simp [St.new])).mono ?_)
  rintro v s2 ⟨rfl, -, hk⟩
  simp only [go_sem, ↓reduceIte, reduceCtorEq, Nat.reduceEqDiff, Nat.reduceAdd, Nat.reduceSub, Nat.reduceMul, Nat.reduceLeDiff, Nat.reduceLT, loadA, rdCells, storeA, setAt, binA]
  refine ⟨by simp, _, rfl, rfl, ?_⟩
  have h1 := hk.1
  simp only [St.new] at h1
  exact ⟨by omega, fun j hj => by rw [hk.2 j (by simp only [St.new]; omega) (by omega), new_ne (by simp only [St.new]; omega), new_ne (by omega)]⟩

end Go.Am.U1

/- A part of the proof of Go. Conditions: none. -/
namespace Go.Am.U1
open Go.Am.Un
set_option maxRecDepth 100000
set_option linter.unusedSimpArgs false
attribute [local go_sem] wseq COp.isStore wreg wdreg wret wskip wexit wblock wcnd cnd_t cnd_f then_n then_x then_r catch_n rnd_n rnd_x rnd_r catch_x catch_r wo_nil wo_grd grdO_t grdO_f wo_ops stpO wr_nil wr_alloc wr_guards grdR_t grdR_f wr_ops stpR evAllocs evOp env0_app eput_some eput_none eset_app Opd.ev wantedA faddrA snew_obj snew_size sput_obj sput_size av_cells av_one av_strip av_still unA eqbA fillA fldA lensA mmA mm2 mmFold List.getD_cons_zero List.getD_cons_succ List.getD_nil List.length_cons List.length_nil List.drop_zero List.drop_succ_cons List.take_succ_cons List.take_zero List.map_cons List.map_nil List.set_cons_zero List.set_cons_succ List.all_cons List.all_nil List.getElem?_cons_zero List.getElem?_cons_succ List.nil_append List.cons_append Nat.zero_add Nat.add_zero beq_self_eq_true bt bf Bool.not_true Bool.not_false Bool.and_true Bool.true_and Bool.and_false Bool.false_and and_self and_true true_and n0 n1 n2 n3 n4 m0 m1 m2 m3 c1 retA resAs resA undefA Option.map_some Option.map_none
variable {X : Ext}

theorem ne_a {q n : Nat} (h : q < n) : (q = n) = False := eq_false (by omega)
theorem ne_b {q n : Nat} (h : q < n) : (n = q) = False := eq_false (by omega)
theorem ne_c {q n : Nat} (h : q < n) (k : Nat) : (q = n + k) = False := eq_false (by omega)
theorem ne_d {q n : Nat} (h : q < n) (k : Nat) : (n + k = q) = False := eq_false (by omega)
end Go.Am.U1
