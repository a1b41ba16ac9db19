/- A part of the proof of unifyInstances. Conditions: none. -/
import Derived.Test.YtfleakoephmgaaaDoorUnF
set_option linter.unusedSimpArgs false
set_option linter.unusedVariables false
namespace Go.Am.U1
open Go.Am.Un
set_option maxRecDepth 100000
set_option linter.unusedSimpArgs false
attribute [local go_sem] wseq COp.isStore wreg wdreg wret wskip wexit wblock wcnd cnd_t cnd_f then_n then_x then_r catch_n rnd_n rnd_x rnd_r catch_x catch_r wo_nil wo_grd grdO_t grdO_f wo_ops stpO wr_nil wr_alloc wr_guards grdR_t grdR_f wr_ops stpR evAllocs evOp env0_app eput_some eput_none eset_app Opd.ev wantedA faddrA snew_obj snew_size sput_obj sput_size av_cells av_one av_strip av_still unA eqbA fillA fldA lensA mmA mm2 mmFold List.getD_cons_zero List.getD_cons_succ List.getD_nil List.length_cons List.length_nil List.drop_zero List.drop_succ_cons List.take_succ_cons List.take_zero List.map_cons List.map_nil List.set_cons_zero List.set_cons_succ List.all_cons List.all_nil List.getElem?_cons_zero List.getElem?_cons_succ List.nil_append List.cons_append Nat.zero_add Nat.add_zero beq_self_eq_true bt bf Bool.not_true Bool.not_false Bool.and_true Bool.true_and Bool.and_false Bool.false_and and_self and_true true_and n0 n1 n2 n3 n4 m0 m1 m2 m3 c1 retA resAs resA undefA Option.map_some Option.map_none
variable {X : Ext}

/-- The substitution that changes nothing. -/
def vtm (i : Nat) : Tm := .mk 0 ⟨#[]⟩ i []
def vars (N : Nat) : List Tm := (List.range N).map vtm
theorem vars_len (N : Nat) : (vars N).length = N := by simp [vars]
theorem vars_at {N i : Nat} (h : i < N) : (vars N)[i]? = some (vtm i) := by simp [vars, h]
theorem vars_succ (N : Nat) : vars (N + 1) = vars N ++ [vtm N] := by simp [vars, List.range_succ]
theorem vtm_c (i : Nat) : tyc (vtm i) = [.int .i64 0, .str ⟨#[]⟩, .int .i64 i, .sl [] 0 false none] := by rw [vtm, tyc, tycs]; rfl

theorem check18_law (hX : NoX X) (t : Tm) (w : AV) (hw : ISl tyc w (lof t)) (s : St) : WC T X 18 [.agg (tyw t w)] s (fun v s' => v = .int .i64 (chk false 1 4096 t).1 ∧ Keep s s') := by
  refine WC_fn cf18 (hX 18 (by decide)) T18 (by simp [cf18]) ?_
  have hc := fun (s1 : St) (b : Nat) (w : AV) ho hw hb => check_law hX b (tsz t) t (Nat.le_refl _) w 1 4096 false s1 hw (by omega) (by omega) (by omega) (by omega) ho hb
  simp only [tyw] at hc
  obtain ⟨w', hw'⟩ : ∃ w', w' = AV.strip w := ⟨_, rfl⟩
  have hiw : ISl tyc w' (lof t) := by
    rcases hw with ⟨rfl, h⟩ | ⟨f, tk, rfl⟩
    · rw [hw', h]; exact Or.inr ⟨false, none, rfl⟩
    · rw [hw']; exact Or.inr ⟨false, none, rfl⟩
  simp only [cf18, tyw, ← hw', go_sem, ↓reduceIte, reduceCtorEq, Nat.reduceEqDiff, Nat.reduceAdd, Nat.reduceSub, Nat.reduceMul, Nat.reduceLeDiff, Nat.reduceLT, loadA, rdCells, storeA, setAt, binA]
  refine WO_callx _ rfl ((hc _ (s.size + 1) _ (new_eq (by simp [St.new])) hiw (by simp [St.new])).mono ?_)
  rintro v s2 ⟨rfl, -, hk⟩
  simp only [go_sem, ↓reduceIte, reduceCtorEq, Nat.reduceEqDiff, Nat.reduceAdd, Nat.reduceSub, Nat.reduceMul, Nat.reduceLeDiff, Nat.reduceLT, loadA, rdCells, storeA, setAt, binA]
  refine ⟨by simp, _, rfl, rfl, ?_⟩
  have h1 := hk.1
  simp only [St.new] at h1
  exact ⟨by omega, fun j hj => by rw [hk.2 j (by simp only [St.new]; omega) (by omega), new_ne (by simp only [St.new]; omega), new_ne (by omega)]⟩

theorem grw_stay {s S S4 : St} {β : Type} {g : β → List AV} {ov : AV} {cur : List β} {tok : Option Nat} (hg : Grw g s.size S ov cur tok) (hkp : Keep s S) (hz : S4.size = S.size + 1) (hk4 : ∀ j, j < S.size → some j ≠ tok → S4.obj j = S.obj j) : Keep s S4 :=
  ⟨by have := hkp.1; omega, fun q hq => by
    rw [hk4 q (Nat.lt_of_lt_of_le hq hkp.1) (fun h => by
      rcases hg with ⟨-, -, h0⟩ | ⟨k3, h0, -, -, -, -, h6⟩
      · rw [h0] at h; cases h
      · rw [h0] at h; cases h; omega)]
    exact hkp.2 q hq⟩
theorem grw_k {β : Type} {g : β → List AV} {N : Nat} {S S2 : St} {ov : AV} {cur : List β} {tok : Option Nat} (hg : Grw g N S ov cur tok) (hk : Keep S S2) : Grw g N S2 ov cur tok :=
  hg.keep hk.1 (fun k hkk => by
    rcases hg with ⟨-, -, h⟩ | ⟨k2, h, -, -, -, h5, -⟩
    · rw [h] at hkk; cases hkk
    · rw [h] at hkk; cases hkk; exact hk.2 _ h5)

theorem identity_law (hX : NoX X) (s : St) : WC T X 44 [.int .i64 12] s (fun v s' => ∃ sv, v = .tup [sv, .int .i64 0] ∧ ISl tyc sv (vars 12) ∧ sv ≠ .nils ∧ Keep s s') := by
  refine WC_fn cf44 (hX 44 (by decide)) T44 (by simp [cf44]) ?_
  have d1 : decide ((12 : Int) < 0) = false := rfl
  have d2 : decide ((12 : Int) > 4096) = false := rfl
  simp only [cf44, d1, d2, go_sem, ↓reduceIte, reduceCtorEq, Nat.reduceEqDiff, Nat.reduceAdd, Nat.reduceSub, Nat.reduceMul, Nat.reduceLeDiff, Nat.reduceLT, loadA, rdCells, storeA, setAt, binA]
  refine W_loop_nat (fun kk e S => ∃ (i : Nat) (ov : AV) (tok : Option Nat), i + kk = 12 ∧ e 12 = .int .i64 12 ∧ e 13 = .int .i64 i ∧ e 4 = ov ∧ e 3 = .int .i64 0 ∧ Grw tyc s.size S ov (vars i) tok ∧ Keep s S) ?_ 12 _ _
    ⟨0, .nils, none, by simp, ?_, ?_, ?_, ?_, Or.inl ⟨rfl, rfl, rfl⟩, Keep.refl s⟩
  · rintro kk e S ⟨i, ov, tok, hik, e12, e13, e4, e3, hg, hkp⟩
    by_cases hi : i < 12
    · have hd : decide ((i : Int) < (12 : Int)) = true := by simp; omega
      simp only [cf44_l0, e12, e13, e4, e3, hd, go_sem, ↓reduceIte, reduceCtorEq, Nat.reduceEqDiff, Nat.reduceAdd, Nat.reduceSub, Nat.reduceMul, Nat.reduceLeDiff, Nat.reduceLT, loadA, rdCells, storeA, setAt, binA]
      refine WO_callx [.int .i64 i] (by simp only [go_sem, ↓reduceIte, reduceCtorEq, Nat.reduceEqDiff, Nat.reduceAdd, Nat.reduceSub, Nat.reduceMul, Nat.reduceLeDiff, Nat.reduceLT, loadA, rdCells, storeA, setAt, binA]) ((var_law hX i S).mono ?_)
      rintro v2 S2 ⟨rfl, hk2⟩
      obtain ⟨v', S4, hap, hg4, hz4, hk4⟩ := (grw_k hg hk2).app tycP (by have := hkp.1; have := hk2.1; omega) (vtm i) (bytes := 56) (by rw [vars_len]; omega)
      rw [vtm_c] at hap
      simp only [e12, e13, e4, e3, hap, wrapn (n := i) (by omega), go_sem, ↓reduceIte, reduceCtorEq, Nat.reduceEqDiff, Nat.reduceAdd, Nat.reduceSub, Nat.reduceMul, Nat.reduceLeDiff, Nat.reduceLT, loadA, rdCells, storeA, setAt, binA]
      exact ⟨kk - 1, by omega, i + 1, v', _, by omega, rfl, rfl, by rw [vars_succ]; exact hg4, grw_stay (grw_k hg hk2) (hkp.trans hk2) hz4 hk4⟩
    · obtain rfl : i = 12 := by omega
      have hd : decide (((12 : Nat) : Int) < (12 : Int)) = false := rfl
      simp only [cf44_l0, e12, e13, e4, e3, hd, go_sem, ↓reduceIte, reduceCtorEq, Nat.reduceEqDiff, Nat.reduceAdd, Nat.reduceSub, Nat.reduceMul, Nat.reduceLeDiff, Nat.reduceLT, loadA, rdCells, storeA, setAt, binA]
      exact ⟨by simp, _, rfl, ov, rfl, hg.isl, by rcases hg with ⟨-, h, -⟩ | ⟨k, -, rfl, -⟩; (exact absurd (congrArg List.length h) (by rw [vars_len]; simp)); simp, hkp⟩
  · simp only [go_sem, ↓reduceIte, reduceCtorEq, Nat.reduceEqDiff, Nat.reduceAdd, Nat.reduceSub, Nat.reduceMul, Nat.reduceLeDiff, Nat.reduceLT, loadA, rdCells, storeA, setAt, binA]
  · simp only [go_sem, ↓reduceIte, reduceCtorEq, Nat.reduceEqDiff, Nat.reduceAdd, Nat.reduceSub, Nat.reduceMul, Nat.reduceLeDiff, Nat.reduceLT, loadA, rdCells, storeA, setAt, binA]; rfl
  · simp only [go_sem, ↓reduceIte, reduceCtorEq, Nat.reduceEqDiff, Nat.reduceAdd, Nat.reduceSub, Nat.reduceMul, Nat.reduceLeDiff, Nat.reduceLT, loadA, rdCells, storeA, setAt, binA]
  · simp only [go_sem, ↓reduceIte, reduceCtorEq, Nat.reduceEqDiff, Nat.reduceAdd, Nat.reduceSub, Nat.reduceMul, Nat.reduceLeDiff, Nat.reduceLT, loadA, rdCells, storeA, setAt, binA]
end Go.Am.U1

/- A part of the proof of unifyInstances. Conditions: none. -/
namespace Go.Am.U1
open Go.Am.Un
set_option maxRecDepth 100000
set_option linter.unusedSimpArgs false
attribute [local go_sem] wseq COp.isStore wreg wdreg wret wskip wexit wblock wcnd cnd_t cnd_f then_n then_x then_r catch_n rnd_n rnd_x rnd_r catch_x catch_r wo_nil wo_grd grdO_t grdO_f wo_ops stpO wr_nil wr_alloc wr_guards grdR_t grdR_f wr_ops stpR evAllocs evOp env0_app eput_some eput_none eset_app Opd.ev wantedA faddrA snew_obj snew_size sput_obj sput_size av_cells av_one av_strip av_still unA eqbA fillA fldA lensA mmA mm2 mmFold List.getD_cons_zero List.getD_cons_succ List.getD_nil List.length_cons List.length_nil List.drop_zero List.drop_succ_cons List.take_succ_cons List.take_zero List.map_cons List.map_nil List.set_cons_zero List.set_cons_succ List.all_cons List.all_nil List.getElem?_cons_zero List.getElem?_cons_succ List.nil_append List.cons_append Nat.zero_add Nat.add_zero beq_self_eq_true bt bf Bool.not_true Bool.not_false Bool.and_true Bool.true_and Bool.and_false Bool.false_and and_self and_true true_and n0 n1 n2 n3 n4 m0 m1 m2 m3 c1 retA resAs resA undefA Option.map_some Option.map_none
variable {X : Ext}

theorem ne_a {q n : Nat} (h : q < n) : (q = n) = False := eq_false (by omega)
theorem ne_b {q n : Nat} (h : q < n) : (n = q) = False := eq_false (by omega)
theorem ne_c {q n : Nat} (h : q < n) (k : Nat) : (q = n + k) = False := eq_false (by omega)
theorem ne_d {q n : Nat} (h : q < n) (k : Nat) : (n + k = q) = False := eq_false (by omega)
theorem chk_vtm {i : Nat} (hi : i < 12) : chk false 1 4096 (vtm i) = (0, 4095) := by
  rw [vtm, Un.chk0 (by omega)]
  have h1 : decide ((i : Int) < 0) = false := by simp
  have h2 : decide ((i : Int) ≥ 4096) = false := by simp; omega
  rw [h1, h2, chks]
  have h3 : (({ data := #[] } : ByteArray).toList == ({ data := #[] } : ByteArray).toList) = true := by simp
  rw [h3]; rfl

end Go.Am.U1
