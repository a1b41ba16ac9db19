/- A part of the proof of unifyOccurs. Conditions: none. -/
import Derived.Test.YtfleakoephmgaaaDoorUnL
set_option linter.unusedSimpArgs false
set_option linter.unusedVariables false
namespace Go.Am.U1
open Go.Am.Un
set_option maxRecDepth 100000
set_option linter.unusedSimpArgs false
attribute [local go_sem] wseq COp.isStore wreg wdreg wret wskip wexit wblock wcnd cnd_t cnd_f then_n then_x then_r catch_n rnd_n rnd_x rnd_r catch_x catch_r wo_nil wo_grd grdO_t grdO_f wo_ops stpO wr_nil wr_alloc wr_guards grdR_t grdR_f wr_ops stpR evAllocs evOp env0_app eput_some eput_none eset_app Opd.ev wantedA faddrA snew_obj snew_size sput_obj sput_size av_cells av_one av_strip av_still unA eqbA fillA fldA lensA mmA mm2 mmFold List.getD_cons_zero List.getD_cons_succ List.getD_nil List.length_cons List.length_nil List.drop_zero List.drop_succ_cons List.take_succ_cons List.take_zero List.map_cons List.map_nil List.set_cons_zero List.set_cons_succ List.all_cons List.all_nil List.getElem?_cons_zero List.getElem?_cons_succ List.nil_append List.cons_append Nat.zero_add Nat.add_zero beq_self_eq_true bt bf Bool.not_true Bool.not_false Bool.and_true Bool.true_and Bool.and_false Bool.false_and and_self and_true true_and n0 n1 n2 n3 n4 m0 m1 m2 m3 c1 retA resAs resA undefA Option.map_some Option.map_none
variable {X : Ext}

theorem occ_var (hX : NoX X) (i b : Nat) (sv : AV) (hsv : sv.cells = [sv]) (s : St) : WC T X 97 [.ptr b 0, .int .i64 i, .agg (tyc (vtm i)), sv] s (fun v s' => v = .bool true ∧ Keep s s') := by
  refine WC_fn cf97 (hX 97 (by decide)) T97 (by simp [cf97]) ?_
  rw [vtm_c]
  have z0 : ((0 : Int) == 0) = true := rfl
  simp only [cf97, hsv, go_sem, ↓reduceIte, reduceCtorEq, Nat.reduceEqDiff, Nat.reduceAdd, Nat.reduceSub, Nat.reduceMul, Nat.reduceLeDiff, Nat.reduceLT, loadA, rdCells, storeA, setAt, binA]
  refine W_loop ?_
  simp only [cf97_l0, i_ne1, z0, Nat.le_add_left, go_sem, ↓reduceIte, reduceCtorEq, Nat.reduceEqDiff, Nat.reduceAdd, Nat.reduceSub, Nat.reduceMul, Nat.reduceLeDiff, Nat.reduceLT, loadA, rdCells, storeA, setAt, binA]
  exact ⟨by simp, _, rfl, rfl, ((((Keep.refl s).new' _).new' _).new' _).new' _⟩

theorem occ_con (hX : NoX X) (i b p : Nat) (sv : AV) (hsv : sv.cells = [sv]) (n : ByteArray) (r : List Tm) (hr : r.length ≤ 1000) (s : St) :
    WC T X 97 [.ptr b 0, .int .i64 i, .agg (tyc (.mk 1 n 0 (vtm i :: r))), sv] s (fun v s' => v = .bool true ∧ Keep s s') := by
  refine WC_fn cf97 (hX 97 (by decide)) T97 (by simp [cf97]) ?_
  rw [tyc]
  have z0 : ((1 : Int) == 0) = false := rfl
  simp only [cf97, hsv, go_sem, ↓reduceIte, reduceCtorEq, Nat.reduceEqDiff, Nat.reduceAdd, Nat.reduceSub, Nat.reduceMul, Nat.reduceLeDiff, Nat.reduceLT, loadA, rdCells, storeA, setAt, binA]
  refine W_loop ?_
  simp only [cf97_l0, z0, Nat.le_add_left, go_sem, ↓reduceIte, reduceCtorEq, Nat.reduceEqDiff, Nat.reduceAdd, Nat.reduceSub, Nat.reduceMul, Nat.reduceLeDiff, Nat.reduceLT, loadA, rdCells, storeA, setAt, binA]
  refine WO_callx _ rfl ((contains_ft hX (isl_tycs (vtm i :: r)) (by simp; omega) 107 [.ptr s.size 0, .ptr (s.size + 1) 0, .ptr (s.size + 1 + 1 + 1) 0] (fun y => kof y == 0 && vof y == (i : Int)) (fun S => S.obj s.size = some (.cells [.ptr b 0]) ∧ S.obj (s.size + 1) = some (.cells [.int .i64 i]) ∧ S.obj (s.size + 1 + 1 + 1) = some (.cells [sv]) ∧ s.size + 1 + 1 + 1 < S.size ∧ Keep s S) _ ⟨?_, ?_, ?_, ?_, ?_⟩ ?_).mono ?_)
  · simp only [go_sem, ↓reduceIte, reduceCtorEq, Nat.reduceEqDiff, Nat.reduceAdd, Nat.reduceSub, Nat.reduceMul, Nat.reduceLeDiff, Nat.reduceLT, loadA, rdCells, storeA, setAt, binA]
  · simp only [go_sem, ↓reduceIte, reduceCtorEq, Nat.reduceEqDiff, Nat.reduceAdd, Nat.reduceSub, Nat.reduceMul, Nat.reduceLeDiff, Nat.reduceLT, loadA, rdCells, storeA, setAt, binA]
  · simp only [go_sem, ↓reduceIte, reduceCtorEq, Nat.reduceEqDiff, Nat.reduceAdd, Nat.reduceSub, Nat.reduceMul, Nat.reduceLeDiff, Nat.reduceLT, loadA, rdCells, storeA, setAt, binA]
  · simp only [St.new]; omega
  · exact ((((Keep.refl s).new' _).new' _).new' _).new' _
  · rintro j y S hj hf ⟨h1, h2, h3, h4, h5⟩
    cases j with
    | succ j => simp [vtm, kof, vof] at hf
    | zero =>
      simp only [List.getElem?_cons_zero, Option.some.injEq] at hj
      subst hj
      refine WC_fn cf107 (hX 107 (by decide)) T107 (by simp [cf107]) ?_
      have hov := fun S => occ_var hX i b sv hsv S
      rw [vtm_c] at hov ⊢
      have o0 : s.size < S.size := by omega
      have o1 : s.size + 1 < S.size := by omega
      simp only [cf107, h1, h2, h3, ne_a h4, ne_b h4, ne_a o0, ne_b o0, ne_a o1, ne_b o1, Nat.le_add_left, go_sem, ↓reduceIte, reduceCtorEq, Nat.reduceEqDiff, Nat.reduceAdd, Nat.reduceSub, Nat.reduceMul, Nat.reduceLeDiff, Nat.reduceLT, loadA, rdCells, storeA, setAt, binA]
      refine WO_callx _ rfl ((hov _).mono ?_)
      rintro w S2 ⟨rfl, hk⟩
      have hk2 := (Keep.new S _).trans hk
      simp only [go_sem, ↓reduceIte, reduceCtorEq, Nat.reduceEqDiff, Nat.reduceAdd, Nat.reduceSub, Nat.reduceMul, Nat.reduceLeDiff, Nat.reduceLT, loadA, rdCells, storeA, setAt, binA]
      exact ⟨by simp, _, rfl, by simp [vtm, kof, vof], hk2.obj o0 h1, hk2.obj o1 h2, hk2.obj h4 h3, hk2.lt h4, h5.trans hk2⟩
  · rintro w S ⟨rfl, h1, h2, h3, h4, h5⟩
    simp only [go_sem, ↓reduceIte, reduceCtorEq, Nat.reduceEqDiff, Nat.reduceAdd, Nat.reduceSub, Nat.reduceMul, Nat.reduceLeDiff, Nat.reduceLT, loadA, rdCells, storeA, setAt, binA]
    exact ⟨by simp, _, rfl, by simp [vtm, kof, vof], h5⟩

theorem mkb12 (s : St) : mkslA s 1 1 [.bool false] (.int .i64 12) (.int .i64 12) = some (.msl s.size 0 12 1, s.new (.cells (List.replicate 12 (.bool false)))) := rfl

theorem bind_occ (hX : NoX X) (i b p : Nat) (n : ByteArray) (r : List Tm) (hr : r.length ≤ 1000) (s : St) (hu : US s b p (vars 12)) :
    WC T X 86 [.ptr b 0, .int .i64 i, .agg (tyc (.mk 1 n 0 (vtm i :: r)))] s (fun v s' => v = .int .i64 8 ∧ Keep s s') := by
  refine WC_fn cf86 (hX 86 (by decide)) T86 (by simp [cf86]) ?_
  have hoc := fun S => occ_con hX i b p (.msl (s.size + 1) 0 12 1) rfl n r hr S
  rw [tyc] at hoc ⊢
  have z0 : ((1 : Int) == 0) = false := rfl
  have hu1 := hu.1
  rw [vars_len] at hu1
  have l12 : lenA (.msl p 0 12 4) = some (.int .i64 12) := rfl
  simp only [cf86, z0, Nat.le_add_left, go_sem, ↓reduceIte, reduceCtorEq, Nat.reduceEqDiff, Nat.reduceAdd, Nat.reduceSub, Nat.reduceMul, Nat.reduceLeDiff, Nat.reduceLT, loadA, rdCells, storeA, setAt, binA]
  refine W_dreg ?_
  simp only [wt_ops, stpT, Tr, hu1, l12, mkb12, wt_alloc, wt_nil, chk1, avr, ne_a hu.2.2.1, ne_b hu.2.2.1, ne_c hu.2.2.1, ne_d hu.2.2.1, Bool.or_true, Nat.le_add_left, go_sem, ↓reduceIte, reduceCtorEq, Nat.reduceEqDiff, Nat.reduceAdd, Nat.reduceSub, Nat.reduceMul, Nat.reduceLeDiff, Nat.reduceLT, loadA, rdCells, storeA, setAt, binA]
  refine WT_callx _ rfl ((hoc _).mono ?_)
  rintro w S2 ⟨rfl, hk⟩
  have e1 := hk.2 s.size (by simp only [St.new]; omega)
  simp only [go_sem, ↓reduceIte, reduceCtorEq, Nat.reduceEqDiff, Nat.reduceAdd, Nat.reduceSub, Nat.reduceMul, Nat.reduceLeDiff, Nat.reduceLT, loadA, rdCells, storeA, setAt, binA] at e1
  simp only [wt_ops, stpT, Tr, hu1, e1, wt_alloc, wt_nil, chk1, avr, ne_a hu.2.2.1, ne_b hu.2.2.1, ne_c hu.2.2.1, ne_d hu.2.2.1, Bool.or_true, Nat.le_add_left, go_sem, ↓reduceIte, reduceCtorEq, Nat.reduceEqDiff, Nat.reduceAdd, Nat.reduceSub, Nat.reduceMul, Nat.reduceLeDiff, Nat.reduceLT, loadA, rdCells, storeA, setAt, binA]
  exact ⟨by simp, _, rfl, rfl, (((Keep.refl s).new' _).new' _).trans hk⟩
end Go.Am.U1
