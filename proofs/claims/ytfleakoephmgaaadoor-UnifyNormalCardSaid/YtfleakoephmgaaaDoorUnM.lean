/- A part of the proof of unifyNormal. Conditions: none. -/
import Derived.Test.YtfleakoephmgaaaDoorUnI
set_option linter.unusedSimpArgs false
set_option linter.unusedVariables false
namespace Go.Am.U1
open Go.Am.Un
set_option maxRecDepth 100000
set_option linter.unusedSimpArgs false
attribute [local go_sem] wseq COp.isStore wreg wdreg wret wskip wexit wblock wcnd cnd_t cnd_f then_n then_x then_r catch_n rnd_n rnd_x rnd_r catch_x catch_r wo_nil wo_grd grdO_t grdO_f wo_ops stpO wr_nil wr_alloc wr_guards grdR_t grdR_f wr_ops stpR evAllocs evOp env0_app eput_some eput_none eset_app Opd.ev wantedA faddrA snew_obj snew_size sput_obj sput_size av_cells av_one av_strip av_still unA eqbA fillA fldA lensA mmA mm2 mmFold List.getD_cons_zero List.getD_cons_succ List.getD_nil List.length_cons List.length_nil List.drop_zero List.drop_succ_cons List.take_succ_cons List.take_zero List.map_cons List.map_nil List.set_cons_zero List.set_cons_succ List.all_cons List.all_nil List.getElem?_cons_zero List.getElem?_cons_succ List.nil_append List.cons_append Nat.zero_add Nat.add_zero beq_self_eq_true bt bf Bool.not_true Bool.not_false Bool.and_true Bool.true_and Bool.and_false Bool.false_and and_self and_true true_and n0 n1 n2 n3 n4 m0 m1 m2 m3 c1 retA resAs resA undefA Option.map_some Option.map_none
variable {X : Ext}

theorem occ_var (hX : NoX X) (i b : Nat) (sv : AV) (hsv : sv.cells = [sv]) (s : St) : WC T X 97 [.ptr b 0, .int .i64 i, .agg (tyc (vtm i)), sv] s (fun v s' => v = .bool true ∧ Keep s s') := by
  refine WC_fn cf97 (hX 97 (by decide)) T97 (by simp [cf97]) ?_
  rw [vtm_c]
  have z0 : ((0 : Int) == 0) = true := rfl
  simp only [cf97, hsv, go_sem, ↓reduceIte, reduceCtorEq, Nat.reduceEqDiff, Nat.reduceAdd, Nat.reduceSub, Nat.reduceMul, Nat.reduceLeDiff, Nat.reduceLT, loadA, rdCells, storeA, setAt, binA]
  refine W_loop ?_
  simp only [cf97_l0, i_ne1, z0, Nat.le_add_left, go_sem, ↓reduceIte, reduceCtorEq, Nat.reduceEqDiff, Nat.reduceAdd, Nat.reduceSub, Nat.reduceMul, Nat.reduceLeDiff, Nat.reduceLT, loadA, rdCells, storeA, setAt, binA]
  exact ⟨by simp, _, rfl, rfl, ((((Keep.refl s).new' _).new' _).new' _).new' _⟩

theorem occ_con (hX : NoX X) (i b p : Nat) (sv : AV) (hsv : sv.cells = [sv]) (n : ByteArray) (r : List Tm) (hr : r.length ≤ 1000) (s : St) :
    WC T X 97 [.ptr b 0, .int .i64 i, .agg (tyc (.mk 1 n 0 (vtm i :: r))), sv] s (fun v s' => v = .bool true ∧ Keep s s') := by
  refine WC_fn cf97 (hX 97 (by decide)) T97 (by simp [cf97]) ?_
  rw [tyc]
  have z0 : ((1 : Int) == 0) = false := rfl
  simp only [cf97, hsv, go_sem, ↓reduceIte, reduceCtorEq, Nat.reduceEqDiff, Nat.reduceAdd, Nat.reduceSub, Nat.reduceMul, Nat.reduceLeDiff, Nat.reduceLT, loadA, rdCells, storeA, setAt, binA]
  refine W_loop ?_
  simp only [cf97_l0, z0, Nat.le_add_left, go_sem, ↓reduceIte, reduceCtorEq, Nat.reduceEqDiff, Nat.reduceAdd, Nat.reduceSub, Nat.reduceMul, Nat.reduceLeDiff, Nat.reduceLT, loadA, rdCells, storeA, setAt, binA]
  refine WO_callx _ rfl ((contains_ft hX (isl_tycs (vtm i :: r)) (by simp; omega) 107 [.ptr s.size 0, .ptr (s.size + 1) 0, .ptr (s.size + 1 + 1 + 1) 0] (fun y => kof y == 0 && vof y == (i : Int)) (fun S => S.obj s.size = some (.cells [.ptr b 0]) ∧ S.obj (s.size + 1) = some (.cells [.int .i64 i]) ∧ S.obj (s.size + 1 + 1 + 1) = some (.cells [sv]) ∧ s.size + 1 + 1 + 1 < S.size ∧ Keep s S) _ ⟨?_, ?_, ?_, ?_, ?_⟩ ?_).mono ?_)
  · simp only [go_sem, ↓reduceIte, reduceCtorEq, Nat.reduceEqDiff, Nat.reduceAdd, Nat.reduceSub, Nat.reduceMul, Nat.reduceLeDiff, Nat.reduceLT, loadA, rdCells, storeA, setAt, binA]
  · simp only [go_sem, ↓reduceIte, reduceCtorEq, Nat.reduceEqDiff, Nat.reduceAdd, Nat.reduceSub, Nat.reduceMul, Nat.reduceLeDiff, Nat.reduceLT, loadA, rdCells, storeA, setAt, binA]
  · simp only [go_sem, ↓reduceIte, reduceCtorEq, Nat.reduceEqDiff, Nat.reduceAdd, Nat.reduceSub, Nat.reduceMul, Nat.reduceLeDiff, Nat.reduceLT, loadA, rdCells, storeA, setAt, binA]
  · simp only [St.new]; omega
  · exact ((((Keep.refl s).new' _).new' _).new' _).new' _
  · rintro j y S hj hf ⟨h1, h2, h3, h4, h5⟩
    cases j with
    | succ j => simp [vtm, kof, vof] at hf
    | zero =>
      simp only [List.getElem?_cons_zero, Option.some.injEq] at hj
      subst hj
      refine WC_fn cf107 (hX 107 (by decide)) T107 (by simp [cf107]) ?_
      have hov := fun S => occ_var hX i b sv hsv S
      rw [vtm_c] at hov ⊢
      have o0 : s.size < S.size := by omega
      have o1 : s.size + 1 < S.size := by omega
      simp only [cf107, h1, h2, h3, ne_a h4, ne_b h4, ne_a o0, ne_b o0, ne_a o1, ne_b o1, Nat.le_add_left, go_sem, ↓reduceIte, reduceCtorEq, Nat.reduceEqDiff, Nat.reduceAdd, Nat.reduceSub, Nat.reduceMul, Nat.reduceLeDiff, Nat.reduceLT, loadA, rdCells, storeA, setAt, binA]
      refine WO_callx _ rfl ((hov _).mono ?_)
      rintro w S2 ⟨rfl, hk⟩
      have hk2 := (Keep.new S _).trans hk
      simp only [go_sem, ↓reduceIte, reduceCtorEq, Nat.reduceEqDiff, Nat.reduceAdd, Nat.reduceSub, Nat.reduceMul, Nat.reduceLeDiff, Nat.reduceLT, loadA, rdCells, storeA, setAt, binA]
      exact ⟨by simp, _, rfl, by simp [vtm, kof, vof], hk2.obj o0 h1, hk2.obj o1 h2, hk2.obj h4 h3, hk2.lt h4, h5.trans hk2⟩
  · rintro w S ⟨rfl, h1, h2, h3, h4, h5⟩
    simp only [go_sem, ↓reduceIte, reduceCtorEq, Nat.reduceEqDiff, Nat.reduceAdd, Nat.reduceSub, Nat.reduceMul, Nat.reduceLeDiff, Nat.reduceLT, loadA, rdCells, storeA, setAt, binA]
    exact ⟨by simp, _, rfl, by simp [vtm, kof, vof], h5⟩

theorem mkb12 (s : St) : mkslA s 1 1 [.bool false] (.int .i64 12) (.int .i64 12) = some (.msl s.size 0 12 1, s.new (.cells (List.replicate 12 (.bool false)))) := rfl

theorem bind_occ (hX : NoX X) (i b p : Nat) (n : ByteArray) (r : List Tm) (hr : r.length ≤ 1000) (s : St) (hu : US s b p (vars 12)) :
    WC T X 86 [.ptr b 0, .int .i64 i, .agg (tyc (.mk 1 n 0 (vtm i :: r)))] s (fun v s' => v = .int .i64 8 ∧ Keep s s') := by
  refine WC_fn cf86 (hX 86 (by decide)) T86 (by simp [cf86]) ?_
  have hoc := fun S => occ_con hX i b p (.msl (s.size + 1) 0 12 1) rfl n r hr S
  rw [tyc] at hoc ⊢
  have z0 : ((1 : Int) == 0) = false := rfl
  have hu1 := hu.1
  rw [vars_len] at hu1
  have l12 : lenA (.msl p 0 12 4) = some (.int .i64 12) := rfl
  simp only [cf86, z0, Nat.le_add_left, go_sem, ↓reduceIte, reduceCtorEq, Nat.reduceEqDiff, Nat.reduceAdd, Nat.reduceSub, Nat.reduceMul, Nat.reduceLeDiff, Nat.reduceLT, loadA, rdCells, storeA, setAt, binA]
  refine W_dreg ?_
  simp only [wt_ops, stpT, Tr, hu1, l12, mkb12, wt_alloc, wt_nil, chk1, avr, ne_a hu.2.2.1, ne_b hu.2.2.1, ne_c hu.2.2.1, ne_d hu.2.2.1, Bool.or_true, Nat.le_add_left, go_sem, ↓reduceIte, reduceCtorEq, Nat.reduceEqDiff, Nat.reduceAdd, Nat.reduceSub, Nat.reduceMul, Nat.reduceLeDiff, Nat.reduceLT, loadA, rdCells, storeA, setAt, binA]
  refine WT_callx _ rfl ((hoc _).mono ?_)
  rintro w S2 ⟨rfl, hk⟩
  have e1 := hk.2 s.size (by simp only [St.new]; omega)
  simp only [go_sem, ↓reduceIte, reduceCtorEq, Nat.reduceEqDiff, Nat.reduceAdd, Nat.reduceSub, Nat.reduceMul, Nat.reduceLeDiff, Nat.reduceLT, loadA, rdCells, storeA, setAt, binA] at e1
  simp only [wt_ops, stpT, Tr, hu1, e1, wt_alloc, wt_nil, chk1, avr, ne_a hu.2.2.1, ne_b hu.2.2.1, ne_c hu.2.2.1, ne_d hu.2.2.1, Bool.or_true, Nat.le_add_left, go_sem, ↓reduceIte, reduceCtorEq, Nat.reduceEqDiff, Nat.reduceAdd, Nat.reduceSub, Nat.reduceMul, Nat.reduceLeDiff, Nat.reduceLT, loadA, rdCells, storeA, setAt, binA]
  exact ⟨by simp, _, rfl, rfl, (((Keep.refl s).new' _).new' _).trans hk⟩
end Go.Am.U1

/- A part of the proof of unifyNormal. Conditions: none. -/
namespace Go.Am.U1
open Go.Am.Un
set_option maxRecDepth 100000
set_option linter.unusedSimpArgs false
attribute [local go_sem] wseq COp.isStore wreg wdreg wret wskip wexit wblock wcnd cnd_t cnd_f then_n then_x then_r catch_n rnd_n rnd_x rnd_r catch_x catch_r wo_nil wo_grd grdO_t grdO_f wo_ops stpO wr_nil wr_alloc wr_guards grdR_t grdR_f wr_ops stpR evAllocs evOp env0_app eput_some eput_none eset_app Opd.ev wantedA faddrA snew_obj snew_size sput_obj sput_size av_cells av_one av_strip av_still unA eqbA fillA fldA lensA mmA mm2 mmFold List.getD_cons_zero List.getD_cons_succ List.getD_nil List.length_cons List.length_nil List.drop_zero List.drop_succ_cons List.take_succ_cons List.take_zero List.map_cons List.map_nil List.set_cons_zero List.set_cons_succ List.all_cons List.all_nil List.getElem?_cons_zero List.getElem?_cons_succ List.nil_append List.cons_append Nat.zero_add Nat.add_zero beq_self_eq_true bt bf Bool.not_true Bool.not_false Bool.and_true Bool.true_and Bool.and_false Bool.false_and and_self and_true true_and n0 n1 n2 n3 n4 m0 m1 m2 m3 c1 retA resAs resA undefA Option.map_some Option.map_none
variable {X : Ext}

theorem walk_vtm {N i : Nat} (hi : i < N) : WalkTo (vars N) (vtm i) (vtm i) := .self _ (vtm i) i rfl rfl (vars_at hi) rfl rfl

theorem unify_occ (hX : NoX X) (i b p : Nat) (hi : i < 12) (n : ByteArray) (r : List Tm) (hr : r.length ≤ 1000) (s : St) (hu : US s b p (vars 12)) :
    WC T X 69 [.ptr b 0, .agg (tyc (vtm i)), .agg (tyc (.mk 1 n 0 (vtm i :: r)))] s (fun v s' => v = .int .i64 8 ∧ Keep s s') := by
  refine WC_fn cf69 (hX 69 (by decide)) T69 (by simp [cf69]) ?_
  have hla := fun S (hk : Keep s S) => walk_law hX (walk_vtm hi) S (hu.keep hk).rd
  have hlb := fun S (hk : Keep s S) => walk_law hX (WalkTo.con (ss := vars 12) (.mk 1 n 0 (vtm i :: r)) (by simp [kof])) S (hu.keep hk).rd
  have hbi := fun S (hk : Keep s S) => bind_occ hX i b p n r hr S (hu.keep hk)
  have hk1 := (((Keep.refl s).new' (.cells (tyc (vtm i)))).new' (.cells (tyc (.mk 1 n 0 (vtm i :: r)))))
  rw [vtm_c] at hla hk1 ⊢
  rw [tyc] at hlb hbi hk1 ⊢
  have hu1 := hu.1
  simp only [cf69, go_sem, ↓reduceIte, reduceCtorEq, Nat.reduceEqDiff, Nat.reduceAdd, Nat.reduceSub, Nat.reduceMul, Nat.reduceLeDiff, Nat.reduceLT, loadA, rdCells, storeA, setAt, binA]
  refine W_dreg ?_
  simp only [wt_ops, stpT, Tr, hu.1, wt_alloc, wt_nil, chk1, avr, ne_a hu.2.2.1, ne_b hu.2.2.1, ne_c hu.2.2.1, ne_d hu.2.2.1, ne_e hu.2.2.1, ne_f hu.2.2.1, Bool.or_true, Nat.le_add_left, go_sem, ↓reduceIte, reduceCtorEq, Nat.reduceEqDiff, Nat.reduceAdd, Nat.reduceSub, Nat.reduceMul, Nat.reduceLeDiff, Nat.reduceLT, loadA, rdCells, storeA, setAt, binA]
  refine WT_callx _ rfl ((hla _ hk1).mono ?_)
  rintro w2 S2 ⟨rfl, hk2⟩
  have hz2 := hk2.1
  simp only [St.new] at hz2
  have e1 := hk2.2 s.size (by simp only [St.new]; omega)
  have e2 := hk2.2 (s.size + 1) (by simp only [St.new]; omega)
  simp only [go_sem, ↓reduceIte, reduceCtorEq, Nat.reduceEqDiff, Nat.reduceAdd, Nat.reduceSub, Nat.reduceMul, Nat.reduceLeDiff, Nat.reduceLT, loadA, rdCells, storeA, setAt, binA] at e1 e2
  have hu2 := hu.keep (hk1.trans hk2)
  simp only [wt_ops, stpT, Tr, hu.1, hu2.1, e1, e2, wt_alloc, wt_nil, chk1, avr, ne_a hu.2.2.1, ne_b hu.2.2.1, ne_c hu.2.2.1, ne_d hu.2.2.1, ne_e hu.2.2.1, ne_f hu.2.2.1, Bool.or_true, Nat.le_add_left, go_sem, ↓reduceIte, reduceCtorEq, Nat.reduceEqDiff, Nat.reduceAdd, Nat.reduceSub, Nat.reduceMul, Nat.reduceLeDiff, Nat.reduceLT, loadA, rdCells, storeA, setAt, binA]
  refine WT_callx _ rfl ((hlb _ (hk1.trans hk2)).mono ?_)
  rintro w3 S3 ⟨rfl, hk3⟩
  have hz3 := hk3.1
  have f1 := (hk3.2 s.size (by omega)).trans e1
  have f2 := (hk3.2 (s.size + 1) (by omega)).trans e2
  have z0 : ((0 : Int) == 0) = true := rfl
  simp only [wt_ops, stpT, Tr, hu.1, hu2.1, e1, e2, f1, f2, z0, wt_alloc, wt_nil, chk1, avr, ne_a hu.2.2.1, ne_b hu.2.2.1, ne_c hu.2.2.1, ne_d hu.2.2.1, ne_e hu.2.2.1, ne_f hu.2.2.1, Bool.or_true, Nat.le_add_left, go_sem, ↓reduceIte, reduceCtorEq, Nat.reduceEqDiff, Nat.reduceAdd, Nat.reduceSub, Nat.reduceMul, Nat.reduceLeDiff, Nat.reduceLT, loadA, rdCells, storeA, setAt, binA]
  refine WO_callx _ rfl ((hbi _ ?_).mono ?_)
  · exact ((((hk1.trans hk2).trans hk3).put' (Nat.le_refl s.size) _).put' (by omega) _)
  rintro w4 S4 ⟨rfl, hk4⟩
  simp only [go_sem, ↓reduceIte, reduceCtorEq, Nat.reduceEqDiff, Nat.reduceAdd, Nat.reduceSub, Nat.reduceMul, Nat.reduceLeDiff, Nat.reduceLT, loadA, rdCells, storeA, setAt, binA]
  exact ⟨by simp, _, rfl, rfl, ((((hk1.trans hk2).trans hk3).put' (Nat.le_refl s.size) _).put' (by omega) _).trans hk4⟩

theorem clone_law (hX : NoX X) {sv : AV} {ss : List Tm} (hsv : ISl tyc sv ss) (h0 : 0 < ss.length) (hb : ss.length ≤ 5000) (s : St) : WC T X 33 [sv] s (fun v s' => v = .msl s.size 0 ss.length 4 ∧ s'.obj s.size = some (.cells (ss.flatMap tyc)) ∧ s.size < s'.size ∧ Keep s s') := by
  refine WC_fn cf33 (hX 33 (by decide)) T33 (by simp [cf33]) ?_
  have hap : ∃ v' s1, appendA s true 4 56 (.sl [] 0 true none) sv = some (v', s1) ∧ v' = .msl s.size 0 ss.length 4 ∧ s1 = s.new (.cells (ss.flatMap tyc)) := by
    have hc := hsv.contents tycP (s := s)
    refine ⟨_, _, ?_, rfl, rfl⟩
    simp only [appendA, hc, freshA]
    rw [if_neg (by omega), if_pos ⟨by simp, by omega⟩, if_pos trivial, if_pos trivial, List.nil_append, if_pos (tycP.ones ss), Nat.zero_add]
  obtain ⟨v', s1, hap, rfl, rfl⟩ := hap
  obtain ⟨m, hm⟩ : ∃ m, ss.length = m + 1 := ⟨ss.length - 1, by omega⟩
  rcases hsv with ⟨rfl, h⟩ | ⟨f, tk, rfl⟩
  · rw [h] at h0; simp at h0
  · have hen : eqnilA false false (.sl (ss.flatMap tyc) ss.length f tk) = some (.bool false) := by
      simp only [eqnilA, hm]
      simp
    simp only [cf33, hap, hen, go_sem, ↓reduceIte, reduceCtorEq, Nat.reduceEqDiff, Nat.reduceAdd, Nat.reduceSub, Nat.reduceMul, Nat.reduceLeDiff, Nat.reduceLT, loadA, rdCells, storeA, setAt, binA]
    exact ⟨by simp, _, rfl, rfl, Nat.lt_succ_self _, Keep.new _ _⟩

/-- What Unify answers when nothing is replaced. -/
def ExtQ (ss : List Tm) (e : Int) (s : St) (v : AV) (s' : St) : Prop :=
  ∃ rv, v = .tup [rv, .int .i64 e] ∧ (e = 0 → ∃ q, rv = .msl q 0 ss.length 4 ∧ s'.obj q = some (.cells (ss.flatMap tyc)) ∧ q < s'.size) ∧ Keep s s'

theorem extend_law (hX : NoX X) {sv : AV} {ss : List Tm} (hsv : ISl tyc sv ss) (h0 : 0 < ss.length) (hb : ss.length ≤ 5000) (a b : Tm) (e : Int) (s : St)
    (hU : ∀ b' p' S, US S b' p' ss → WC T X 69 [.ptr b' 0, .agg (tyc a), .agg (tyc b)] S (fun v s' => v = .int .i64 e ∧ Keep S s')) :
    WC T X 47 [sv, .agg (tyc a), .agg (tyc b)] s (ExtQ ss e s) := by
  refine WC_fn cf47 (hX 47 (by decide)) T47 (by simp [cf47]) ?_
  have hcl := fun S => clone_law hX hsv h0 hb S
  rw [tyc_w a, tyc_w b, tyw, tyw] at hU ⊢
  simp only [cf47, go_sem, ↓reduceIte, reduceCtorEq, Nat.reduceEqDiff, Nat.reduceAdd, Nat.reduceSub, Nat.reduceMul, Nat.reduceLeDiff, Nat.reduceLT, loadA, rdCells, storeA, setAt, binA]
  have hk1 := (((Keep.refl s).new' (.cells [.int .i64 (kof a), .str (nof a), .int .i64 (vof a), .sl (tycs (lof a)) (lof a).length false none])).new' (.cells [.int .i64 (kof b), .str (nof b), .int .i64 (vof b), .sl (tycs (lof b)) (lof b).length false none]))
  refine WO_callx _ rfl ((hcl _).mono ?_)
  rintro w S2 ⟨rfl, ho, hz, hk2⟩
  have hz2 := hk2.1
  simp only [St.new] at hz2 hz ho
  have e1 := hk2.2 s.size (by simp only [St.new]; omega)
  have e2 := hk2.2 (s.size + 1) (by simp only [St.new]; omega)
  simp only [go_sem, ↓reduceIte, reduceCtorEq, Nat.reduceEqDiff, Nat.reduceAdd, Nat.reduceSub, Nat.reduceMul, Nat.reduceLeDiff, Nat.reduceLT, loadA, rdCells, storeA, setAt, binA] at e1 e2
  have q1 : s.size < S2.size := by omega
  have q2 : s.size + 1 < S2.size := by omega
  simp only [e1, e2, ne_a q1, ne_b q1, ne_a q2, ne_b q2, Nat.le_add_left, go_sem, ↓reduceIte, reduceCtorEq, Nat.reduceEqDiff, Nat.reduceAdd, Nat.reduceSub, Nat.reduceMul, Nat.reduceLeDiff, Nat.reduceLT, loadA, rdCells, storeA, setAt, binA]
  refine WO_callx _ rfl ((hU S2.size (s.size + 1 + 1) _ ⟨new_eq rfl, ?_, ?_, ?_⟩).mono ?_)
  · rw [new_ne (by omega)]; exact ho
  · simp [St.new]
  · simp only [St.new]; omega
  rintro w3 S3 ⟨rfl, hk3⟩
  have g1 := hk3.2 S2.size (by simp [St.new])
  simp only [go_sem, ↓reduceIte, reduceCtorEq, Nat.reduceEqDiff, Nat.reduceAdd, Nat.reduceSub, Nat.reduceMul, Nat.reduceLeDiff, Nat.reduceLT, loadA, rdCells, storeA, setAt, binA] at g1
  have hkk := ((hk1.trans hk2).new' (.cells [.msl (s.size + 1 + 1) 0 ss.length 4])).trans hk3
  simp only [go_sem, ↓reduceIte, reduceCtorEq, Nat.reduceEqDiff, Nat.reduceAdd, Nat.reduceSub, Nat.reduceMul, Nat.reduceLeDiff, Nat.reduceLT, loadA, rdCells, storeA, setAt, binA]
  cases hc : (e != 0)
  · simp only [g1, Nat.le_add_left, go_sem, ↓reduceIte, reduceCtorEq, Nat.reduceEqDiff, Nat.reduceAdd, Nat.reduceSub, Nat.reduceMul, Nat.reduceLeDiff, Nat.reduceLT, loadA, rdCells, storeA, setAt, binA]
    have he : e = 0 := by simpa using hc
    refine ⟨by simp, _, rfl, _, by rw [he], fun _ => ⟨_, rfl, ?_, ?_⟩, hkk⟩
    · rw [hk3.2 _ (by simp only [St.new]; omega), new_ne (by omega)]; exact ho
    · have := hk3.1; simp only [St.new] at this; omega
  · simp only [go_sem, ↓reduceIte, reduceCtorEq, Nat.reduceEqDiff, Nat.reduceAdd, Nat.reduceSub, Nat.reduceMul, Nat.reduceLeDiff, Nat.reduceLT, loadA, rdCells, storeA, setAt, binA]
    exact ⟨by simp, _, rfl, _, rfl, fun h => by simp [h] at hc, hkk⟩

theorem unifyT_law (hX : NoX X) {sv : AV} (hsv : ISl tyc sv (vars 12)) (a b : Tm) (wa wb : AV) (hwa : ISl tyc wa (lof a)) (hwb : ISl tyc wb (lof b)) (e : Int) (s : St)
    (ha : (chk (decide (kof a ≥ 4)) 1 4096 a).1 = 0) (hb : (chk (decide (kof b ≥ 4)) 1 4096 b).1 = 0) (fa : (fre a).any (fun x => decide (x ≥ 12)) = false) (fb : (fre b).any (fun x => decide (x ≥ 12)) = false) (ta : tsz a ≤ 4096) (tb : tsz b ≤ 4096)
    (hE : ∀ S, WC T X 47 [sv, .agg (tyc a), .agg (tyc b)] S (ExtQ (vars 12) e S)) :
    WC T X 15 [sv, .agg (tyw a wa), .agg (tyw b wb)] s (ExtQ (vars 12) e s) := by
  refine WC_fn cf15 (hX 15 (by decide)) T15 (by simp [cf15]) ?_
  have hcl : sv.cells = [sv] := by rcases hsv with ⟨rfl, -⟩ | ⟨f, t, rfl⟩ <;> rfl
  have hck := fun S => checkS_law hX hsv S
  have sa : AV.strip wa = .sl (tycs (lof a)) (lof a).length false none := by
    rcases hwa with ⟨rfl, h⟩ | ⟨f, tk, rfl⟩
    · rw [h, tycs]; rfl
    · rw [tycs_flat]; rfl
  have sb : AV.strip wb = .sl (tycs (lof b)) (lof b).length false none := by
    rcases hwb with ⟨rfl, h⟩ | ⟨f, tk, rfl⟩
    · rw [h, tycs]; rfl
    · rw [tycs_flat]; rfl
  simp only [cf15, tyw, hcl, go_sem, ↓reduceIte, reduceCtorEq, Nat.reduceEqDiff, Nat.reduceAdd, Nat.reduceSub, Nat.reduceMul, Nat.reduceLeDiff, Nat.reduceLT, loadA, rdCells, storeA, setAt, binA]
  refine WO_callx _ rfl ((hck _).mono ?_)
  rintro w S1 ⟨rfl, hk1⟩
  have d0 : ((0 : Int) != 0) = false := rfl
  have hz1 := hk1.1
  simp only [St.new] at hz1
  have e0 := hk1.2 s.size (by simp only [St.new]; omega)
  have e1 := hk1.2 (s.size + 1) (by simp only [St.new]; omega)
  have e2 := hk1.2 (s.size + 1 + 1) (by simp only [St.new]; omega)
  simp only [go_sem, ↓reduceIte, reduceCtorEq, Nat.reduceEqDiff, Nat.reduceAdd, Nat.reduceSub, Nat.reduceMul, Nat.reduceLeDiff, Nat.reduceLT, loadA, rdCells, storeA, setAt, binA] at e0 e1 e2
  simp only [d0, e0, e1, e2, sa, sb, Nat.le_add_left, go_sem, ↓reduceIte, reduceCtorEq, Nat.reduceEqDiff, Nat.reduceAdd, Nat.reduceSub, Nat.reduceMul, Nat.reduceLeDiff, Nat.reduceLT, loadA, rdCells, storeA, setAt, binA]
  have hsl : lenA sv = some (.int .i64 12) := by have := hsv.len; rw [vars_len] at this; exact this
  refine W_loop_nat (fun kk e S => ∃ (i : Nat), i + kk = 2 ∧ e 3 = .ptr s.size 0 ∧ e 4 = .ptr (s.size + 1) 0 ∧ e 5 = .ptr (s.size + 1 + 1) 0 ∧ e 19 = .agg [.int .i64 (kof a), .str (nof a), .int .i64 (vof a), .sl (tycs (lof a)) (lof a).length false none, .int .i64 (kof b), .str (nof b), .int .i64 (vof b), .sl (tycs (lof b)) (lof b).length false none] ∧ e 20 = .int .i64 i ∧ s.size + 1 + 1 < S.size ∧
      S.obj s.size = some (.cells [sv]) ∧ S.obj (s.size + 1) = some (.cells [.int .i64 (kof a), .str (nof a), .int .i64 (vof a), wa]) ∧ S.obj (s.size + 1 + 1) = some (.cells [.int .i64 (kof b), .str (nof b), .int .i64 (vof b), wb]) ∧ Keep s S) ?_ 2 _ _
    ⟨0, by simp, ?_, ?_, ?_, ?_, ?_, by omega, e0, e1, e2, (((Keep.refl s).new' _).new' _).new' _ |>.trans hk1⟩
  · rintro kk e S ⟨i, hik, i3, i4, i5, i19, i20, hz, o0, o1, o2, hkp⟩
    by_cases hi : i < 2
    · have hd : decide ((i : Int) < (2 : Int)) = true := by simp; omega
      obtain ⟨t, ht, hct, hft, htt⟩ : ∃ t, idxaA true 2 4 (.agg [.int .i64 (kof a), .str (nof a), .int .i64 (vof a), .sl (tycs (lof a)) (lof a).length false none, .int .i64 (kof b), .str (nof b), .int .i64 (vof b), .sl (tycs (lof b)) (lof b).length false none]) (.int .i64 i) = some (.agg [.int .i64 (kof t), .str (nof t), .int .i64 (vof t), .sl (tycs (lof t)) (lof t).length false none]) ∧ (chk (decide (kof t ≥ 4)) 1 4096 t).1 = 0 ∧ (fre t).any (fun x => decide (x ≥ 12)) = false ∧ tsz t ≤ 4096 := by
        have : i = 0 ∨ i = 1 := by omega
        rcases this with rfl | rfl
        · exact ⟨a, rfl, ha, fa, ta⟩
        · exact ⟨b, rfl, hb, fb, tb⟩
      have hckt := fun S1 b ho hb => check_law hX b (tsz t) t (Nat.le_refl _) _ 1 4096 (decide (kof t ≥ 4)) S1 (isl_tycs (lof t)) (by omega) (by omega) (by omega) (by omega) ho hb
      have hfrt := fun S1 => free_law hX (tsz t) t (Nat.le_refl _) (by omega) _ S1 (isl_tycs (lof t))
      simp only [tyw] at hckt hfrt
      have p0 : s.size < S.size := by omega
      have p1 : s.size + 1 < S.size := by omega
      simp only [cf15_l0, i3, i4, i5, i19, i20, hd, ht, Nat.le_add_left, go_sem, ↓reduceIte, reduceCtorEq, Nat.reduceEqDiff, Nat.reduceAdd, Nat.reduceSub, Nat.reduceMul, Nat.reduceLeDiff, Nat.reduceLT, loadA, rdCells, storeA, setAt, binA]
      refine WO_callx _ rfl ((hckt _ (S.size + 1) (new_eq (by simp [St.new, St.put])) (by simp [St.new, St.put])).mono ?_)
      rintro w2 S2 ⟨rfl, -, hk2⟩
      rw [hct]
      have hz2 := hk2.1
      simp only [St.new, St.put] at hz2
      have c0 := hk2.2 S.size (by simp only [St.new, St.put]; omega) (by omega)
      simp only [go_sem, ↓reduceIte, reduceCtorEq, Nat.reduceEqDiff, Nat.reduceAdd, Nat.reduceSub, Nat.reduceMul, Nat.reduceLeDiff, Nat.reduceLT, loadA, rdCells, storeA, setAt, binA] at c0
      have hk02 : Keep S S2 := ⟨by omega, fun j hj => by
        rw [hk2.2 _ (by simp only [St.new, St.put]; omega) (by omega), new_ne (by simp only [St.new, St.put]; omega), put_ne (by omega), new_ne (by omega)]⟩
      simp only [i3, i4, i5, i19, i20, d0, c0, Nat.le_add_left, go_sem, ↓reduceIte, reduceCtorEq, Nat.reduceEqDiff, Nat.reduceAdd, Nat.reduceSub, Nat.reduceMul, Nat.reduceLeDiff, Nat.reduceLT, loadA, rdCells, storeA, setAt, binA]
      refine WO_callx _ rfl ((hfrt _).mono ?_)
      rintro fv S3 ⟨hfv, hk3⟩
      have hk03 := hk02.trans hk3
      simp only [i3, i4, i5, i19, i20, go_sem, ↓reduceIte, reduceCtorEq, Nat.reduceEqDiff, Nat.reduceAdd, Nat.reduceSub, Nat.reduceMul, Nat.reduceLeDiff, Nat.reduceLT, loadA, rdCells, storeA, setAt, binA]
      refine WO_callx _ rfl ((contains_fi hX hfv (by have := fre_len t; omega) 46 [.ptr s.size 0] (fun x => decide (x ≥ 12)) S3 (fun x S4 _ hk4 => clo46_law hX x 12 s.size sv hsl S4 (hk4.obj (hk03.lt p0) (hk03.obj p0 o0)))).mono ?_)
      rintro v5 S5 ⟨rfl, hk5⟩
      have hk05 := hk03.trans hk5
      simp only [i3, i4, i5, i19, i20, hft, wrapn (n := i) (by omega), go_sem, ↓reduceIte, reduceCtorEq, Nat.reduceEqDiff, Nat.reduceAdd, Nat.reduceSub, Nat.reduceMul, Nat.reduceLeDiff, Nat.reduceLT, loadA, rdCells, storeA, setAt, binA]
      exact ⟨kk - 1, by omega, i + 1, by omega, rfl, hk05.lt hz, hk05.obj p0 o0, hk05.obj p1 o1, hk05.obj hz o2, hkp.trans hk05⟩
    · obtain rfl : i = 2 := by omega
      have hd : decide (((2 : Nat) : Int) < (2 : Int)) = false := rfl
      have hE' := hE S
      rw [tyc_w a, tyc_w b, tyw, tyw] at hE'
      simp only [cf15_l0, i3, i4, i5, i19, i20, hd, o0, o1, o2, sa, sb, Nat.le_add_left, go_sem, ↓reduceIte, reduceCtorEq, Nat.reduceEqDiff, Nat.reduceAdd, Nat.reduceSub, Nat.reduceMul, Nat.reduceLeDiff, Nat.reduceLT, loadA, rdCells, storeA, setAt, binA]
      refine WO_callx _ rfl (hE'.mono ?_)
      rintro w2 S2 ⟨rv, rfl, hq, hk2⟩
      simp only [go_sem, ↓reduceIte, reduceCtorEq, Nat.reduceEqDiff, Nat.reduceAdd, Nat.reduceSub, Nat.reduceMul, Nat.reduceLeDiff, Nat.reduceLT, loadA, rdCells, storeA, setAt, binA]
      exact ⟨by simp, _, rfl, rv, rfl, hq, hkp.trans hk2⟩
  · simp only [go_sem, ↓reduceIte, reduceCtorEq, Nat.reduceEqDiff, Nat.reduceAdd, Nat.reduceSub, Nat.reduceMul, Nat.reduceLeDiff, Nat.reduceLT, loadA, rdCells, storeA, setAt, binA]
  · simp only [go_sem, ↓reduceIte, reduceCtorEq, Nat.reduceEqDiff, Nat.reduceAdd, Nat.reduceSub, Nat.reduceMul, Nat.reduceLeDiff, Nat.reduceLT, loadA, rdCells, storeA, setAt, binA]
  · simp only [go_sem, ↓reduceIte, reduceCtorEq, Nat.reduceEqDiff, Nat.reduceAdd, Nat.reduceSub, Nat.reduceMul, Nat.reduceLeDiff, Nat.reduceLT, loadA, rdCells, storeA, setAt, binA]
  · simp only [go_sem, ↓reduceIte, reduceCtorEq, Nat.reduceEqDiff, Nat.reduceAdd, Nat.reduceSub, Nat.reduceMul, Nat.reduceLeDiff, Nat.reduceLT, loadA, rdCells, storeA, setAt, binA]
  · simp only [go_sem, ↓reduceIte, reduceCtorEq, Nat.reduceEqDiff, Nat.reduceAdd, Nat.reduceSub, Nat.reduceMul, Nat.reduceLeDiff, Nat.reduceLT, loadA, rdCells, storeA, setAt, binA]; rfl
end Go.Am.U1
