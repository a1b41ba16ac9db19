/- Same, sortedRows, CheckRow. Conditions: none. -/
import Derived.Test.YtfleakoephmgaaaDoorUoH
import Derived.Test.YtfleakoephmgaaaDoorUoH
import Derived.Test.YtfleakoephmgaaaDoorUoL
import Derived.Test.YtfleakoephmgaaaDoorUnP
set_option linter.unusedSimpArgs false
set_option linter.unusedVariables false
namespace Go.Am.U2
open Go.Am.Un Go.So
open Go.Am.U1 (tycP isl_tycs drop_at tyw tyc_w NoX vtm vtm_c len_tszs tsz_pos ne_a ne_b ne_c ne_d ne_e ne_f avr)
set_option maxRecDepth 100000
set_option linter.unusedSimpArgs false
attribute [local go_sem] wseq COp.isStore wreg wdreg wret wskip wexit wblock wcnd cnd_t cnd_f then_n then_x then_r catch_n rnd_n rnd_x rnd_r catch_x catch_r wo_nil wo_grd grdO_t grdO_f wo_ops stpO wr_nil wr_alloc wr_guards grdR_t grdR_f wr_ops stpR evAllocs evOp env0_app eput_some eput_none eset_app Opd.ev wantedA faddrA snew_obj snew_size sput_obj sput_size av_cells av_one av_strip av_still unA eqbA fillA fldA lensA mmA mm2 mmFold List.getD_cons_zero List.getD_cons_succ List.getD_nil List.length_cons List.length_nil List.drop_zero List.drop_succ_cons List.take_succ_cons List.take_zero List.map_cons List.map_nil List.set_cons_zero List.set_cons_succ List.all_cons List.all_nil List.getElem?_cons_zero List.getElem?_cons_succ List.nil_append List.cons_append Nat.zero_add Nat.add_zero beq_self_eq_true bt bf Bool.not_true Bool.not_false Bool.and_true Bool.true_and Bool.and_false Bool.false_and and_self and_true true_and n0 n1 n2 n3 n4 m0 m1 m2 m3 c1 retA resAs resA undefA Option.map_some Option.map_none
variable {X : Ext}

theorem mem_tszs {l : List Tm} {x : Tm} (h : x ∈ l) : tsz x ≤ tszs l := by
  obtain ⟨i, hi⟩ := List.getElem?_of_mem h
  exact tsz_at hi

theorem eqf_law (hX : NoX X) {l m : List Tm} {v u : AV} (hv : ISl tyc v l) (hu : ISl tyc u m) (hb : l.length ≤ big) (hb2 : m.length ≤ big) (s : St)
    (hg : ∀ x y S, x ∈ l → y ∈ m → WC T X 54 [.agg (tyc x), .agg (tyc y)] S (fun r S' => r = .bool (eqb x y) ∧ Keep S S')) :
    WC T X 74 [v, u, .func 54 []] s (fun r s' => r = .bool (eqbs l m) ∧ Keep s s') := by
  refine WC_fn cf74 (hX 74 (by decide)) T74 (by simp [cf74]) ?_
  have l1 := hv.len
  have l2 := hu.len
  simp only [cf74, l1, l2, go_sem, ↓reduceIte, reduceCtorEq, Nat.reduceEqDiff, Nat.reduceAdd, Nat.reduceSub, Nat.reduceMul, Nat.reduceLeDiff, Nat.reduceLT, loadA, rdCells, storeA, setAt, binA]
  cases hne : ((l.length : Int) != (m.length : Int))
  · have hlm : l.length = m.length := by
      have : (l.length : Int) = m.length := by simpa using hne
      omega
    simp only [l1, l2, go_sem, ↓reduceIte, reduceCtorEq, Nat.reduceEqDiff, Nat.reduceAdd, Nat.reduceSub, Nat.reduceMul, Nat.reduceLeDiff, Nat.reduceLT, loadA, rdCells, storeA, setAt, binA]
    refine W_loop_nat (fun k e S => ∃ i, i + k = l.length ∧ e 1 = u ∧ e 2 = .func 54 [] ∧ e 15 = v ∧ e 16 = .int .i64 l.length ∧ e 17 = .int .i64 i ∧ eqbs l m = eqbs (l.drop i) (m.drop i) ∧ Keep s S) ?_ l.length _ _ ⟨0, by simp, ?_⟩
    · rintro k e S ⟨i, hik, e1, e2, e15, e16, e17, hf, hk⟩
      by_cases hi : i < l.length
      · have hd : decide ((i : Int) < (l.length : Int)) = true := by simp; omega
        obtain ⟨x, hx⟩ : ∃ x, l[i]? = some x := ⟨_, List.getElem?_eq_getElem hi⟩
        obtain ⟨y, hy⟩ : ∃ y, m[i]? = some y := ⟨_, List.getElem?_eq_getElem (by omega)⟩
        have a1 := hv.at tyc_len hx
        have a2 := hu.at tyc_len hy
        have hgx := fun S => hg x y S (List.mem_of_getElem? hx) (List.mem_of_getElem? hy)
        rw [drop_at hx, drop_at hy, eqbs] at hf
        rw [tyc_w, tyw] at a1 a2
        rw [tyc_w x, tyc_w y, tyw, tyw] at hgx
        have hwr := U1.wrapn (n := i) (by unfold big at hb; omega)
        simp only [cf74_l0, e1, e2, e15, e16, e17, hd, a1, a2, Nat.le_add_left, go_sem, ↓reduceIte, reduceCtorEq, Nat.reduceEqDiff, Nat.reduceAdd, Nat.reduceSub, Nat.reduceMul, Nat.reduceLeDiff, Nat.reduceLT, loadA, rdCells, storeA, setAt, binA]
        refine WO_callvx 54 [] _ (by simp only [go_sem, ↓reduceIte, reduceCtorEq, Nat.reduceEqDiff, Nat.reduceAdd, Nat.reduceSub, Nat.reduceMul, Nat.reduceLeDiff, Nat.reduceLT, loadA, rdCells, storeA, setAt, binA]) rfl ((by simpa only [go_sem, ↓reduceIte, reduceCtorEq, Nat.reduceEqDiff, Nat.reduceAdd, Nat.reduceSub, Nat.reduceMul, Nat.reduceLeDiff, Nat.reduceLT, loadA, rdCells, storeA, setAt, binA] using hgx _ : WC T X 54 _ _ _).mono ?_)
        rintro w S2 ⟨rfl, hk2⟩
        have hk02 : Keep S S2 := ((((Keep.refl S).new' _).put' (Nat.le_refl _) _).new' _ |>.put' (by omega) _).trans hk2
        cases hq : eqb x y
        · simp only [hq, e1, e2, e15, e16, e17, go_sem, ↓reduceIte, reduceCtorEq, Nat.reduceEqDiff, Nat.reduceAdd, Nat.reduceSub, Nat.reduceMul, Nat.reduceLeDiff, Nat.reduceLT, loadA, rdCells, storeA, setAt, binA]
          refine ⟨by simp, _, rfl, ?_, hk.trans hk02⟩
          rw [hf, hq]; rfl
        · simp only [hq, e1, e2, e15, e16, e17, hwr, go_sem, ↓reduceIte, reduceCtorEq, Nat.reduceEqDiff, Nat.reduceAdd, Nat.reduceSub, Nat.reduceMul, Nat.reduceLeDiff, Nat.reduceLT, loadA, rdCells, storeA, setAt, binA]
          exact ⟨k - 1, by omega, i + 1, by omega, rfl, by rw [hf, hq, Bool.true_and], hk.trans hk02⟩
      · have hd : decide ((i : Int) < (l.length : Int)) = false := by simp; omega
        simp only [cf74_l0, e1, e2, e15, e16, e17, hd, go_sem, ↓reduceIte, reduceCtorEq, Nat.reduceEqDiff, Nat.reduceAdd, Nat.reduceSub, Nat.reduceMul, Nat.reduceLeDiff, Nat.reduceLT, loadA, rdCells, storeA, setAt, binA]
        refine ⟨by simp, _, rfl, ?_, hk⟩
        rw [hf, List.drop_eq_nil_of_le (by omega), List.drop_eq_nil_of_le (by omega)]; rfl
    · simp only [go_sem, ↓reduceIte, reduceCtorEq, Nat.reduceEqDiff, Nat.reduceAdd, Nat.reduceSub, Nat.reduceMul, Nat.reduceLeDiff, Nat.reduceLT, loadA, rdCells, storeA, setAt, binA]
      exact ⟨rfl, Keep.refl s⟩
  · simp only [go_sem, ↓reduceIte, reduceCtorEq, Nat.reduceEqDiff, Nat.reduceAdd, Nat.reduceSub, Nat.reduceMul, Nat.reduceLeDiff, Nat.reduceLT, loadA, rdCells, storeA, setAt, binA]
    have hlm : l.length ≠ m.length := fun h => by simp [h] at hne
    have : eqbs l m = false := by
      cases h : eqbs l m with
      | false => rfl
      | true => exact absurd (congrArg List.length ((eqbs_iff l m).1 h)) hlm
    rw [this]
    exact ⟨by simp, _, rfl, rfl, Keep.refl s⟩

theorem eq_law (hX : NoX X) : ∀ (n : Nat) (a b : Tm), tsz a ≤ n → tsz a ≤ big → tsz b ≤ big → ∀ s, WC T X 54 [.agg (tyc a), .agg (tyc b)] s (fun r s' => r = .bool (eqb a b) ∧ Keep s s') := by
  intro n
  induction n with
  | zero => intro a b h; have := tsz_pos a; omega
  | succ n ih =>
    rintro ⟨k, nm, v, l⟩ ⟨k', nm', v', l'⟩ hn hb1 hb2 s
    rw [tsz] at hn hb1 hb2
    have hl1 := len_tszs l
    have hl2 := len_tszs l'
    refine WC_fn cf54 (hX 54 (by decide)) T54 (by simp [cf54]) ?_
    have hq := fun S => eqf_law hX (isl_tycs l) (isl_tycs l') (by omega) (by omega) S (fun x y S hx hy => ih x y (by have := mem_tszs hx; omega) (by have := mem_tszs hx; omega) (by have := mem_tszs hy; omega) S)
    rw [tyc, tyc]
    simp only [cf54, Nat.le_add_left, go_sem, ↓reduceIte, reduceCtorEq, Nat.reduceEqDiff, Nat.reduceAdd, Nat.reduceSub, Nat.reduceMul, Nat.reduceLeDiff, Nat.reduceLT, loadA, rdCells, storeA, setAt, binA]
    cases c1 : (k == k') <;> simp only [c1, Nat.le_add_left, go_sem, ↓reduceIte, reduceCtorEq, Nat.reduceEqDiff, Nat.reduceAdd, Nat.reduceSub, Nat.reduceMul, Nat.reduceLeDiff, Nat.reduceLT, loadA, rdCells, storeA, setAt, binA]
    · exact ⟨by simp, _, rfl, by simp [eqb, c1], ((Keep.refl s).new' _).new' _⟩
    cases c2 : (nm.toList == nm'.toList) <;> simp only [c2, Nat.le_add_left, go_sem, ↓reduceIte, reduceCtorEq, Nat.reduceEqDiff, Nat.reduceAdd, Nat.reduceSub, Nat.reduceMul, Nat.reduceLeDiff, Nat.reduceLT, loadA, rdCells, storeA, setAt, binA]
    · exact ⟨by simp, _, rfl, by simp [eqb, c1, c2], ((Keep.refl s).new' _).new' _⟩
    cases c3 : (v == v') <;> simp only [c3, Nat.le_add_left, go_sem, ↓reduceIte, reduceCtorEq, Nat.reduceEqDiff, Nat.reduceAdd, Nat.reduceSub, Nat.reduceMul, Nat.reduceLeDiff, Nat.reduceLT, loadA, rdCells, storeA, setAt, binA]
    · exact ⟨by simp, _, rfl, by simp [eqb, c1, c2, c3], ((Keep.refl s).new' _).new' _⟩
    refine WO_callx [.sl (tycs l) l.length false none, .sl (tycs l') l'.length false none, .func 54 []] (by simp only [go_sem, ↓reduceIte, reduceCtorEq, Nat.reduceEqDiff, Nat.reduceAdd, Nat.reduceSub, Nat.reduceMul, Nat.reduceLeDiff, Nat.reduceLT, loadA, rdCells, storeA, setAt, binA]) ((hq _).mono ?_)
    rintro w S2 ⟨rfl, hk2⟩
    simp only [go_sem, ↓reduceIte, reduceCtorEq, Nat.reduceEqDiff, Nat.reduceAdd, Nat.reduceSub, Nat.reduceMul, Nat.reduceLeDiff, Nat.reduceLT, loadA, rdCells, storeA, setAt, binA]
    exact ⟨by simp, _, rfl, by simp [eqb, c1, c2, c3], (((Keep.refl s).new' _).new' _).trans hk2⟩

theorem same_law {a b : Tm} {wa wb : AV} (ha : ISl tyc wa (lof a)) (hb : ISl tyc wb (lof b)) (va : Val a) (vb : Val b) (ta : tsz a < big) (tb : tsz b < big) (s : St) :
    WC T Xb 26 [.agg (tyw a wa), .agg (tyw b wb)] s (fun r s' => r = .bool (eqb (nf a) (nf b)) ∧ Keep s s') := by
  refine WC_fn cf26 (Xb_none 26 (by decide)) T26 (by simp [cf26]) ?_
  have na := fun S => norm_law (isl_tycs (lof a)) va ta S
  have nb := fun S => norm_law (isl_tycs (lof b)) vb tb S
  have he := fun S => eq_law Xb_none (tsz (nf a)) (nf a) (nf b) (Nat.le_refl _) (by rw [nf_tsz _ a (Nat.le_refl _) va]; omega) (by rw [nf_tsz _ b (Nat.le_refl _) vb]; omega) S
  have sa : AV.strip wa = .sl (tycs (lof a)) (lof a).length false none := by
    rcases ha with ⟨rfl, h⟩ | ⟨f, tk, rfl⟩
    · rw [h, tycs]; rfl
    · rw [tycs_flat]; rfl
  have sb : AV.strip wb = .sl (tycs (lof b)) (lof b).length false none := by
    rcases hb with ⟨rfl, h⟩ | ⟨f, tk, rfl⟩
    · rw [h, tycs]; rfl
    · rw [tycs_flat]; rfl
  simp only [tyw, U1.tyw] at na nb ⊢
  simp only [cf26, go_sem, ↓reduceIte, reduceCtorEq, Nat.reduceEqDiff, Nat.reduceAdd, Nat.reduceSub, Nat.reduceMul, Nat.reduceLeDiff, Nat.reduceLT, loadA, rdCells, storeA, setAt, binA]
  refine W_dreg ?_
  simp only [wt_ops, stpT, Tr, sa, sb, wt_alloc, wt_nil, chk1, avr, Bool.or_true, Nat.le_add_left, go_sem, ↓reduceIte, reduceCtorEq, Nat.reduceEqDiff, Nat.reduceAdd, Nat.reduceSub, Nat.reduceMul, Nat.reduceLeDiff, Nat.reduceLT, loadA, rdCells, storeA, setAt, binA]
  refine WT_callx _ rfl ((na _).mono ?_)
  rintro w S2 ⟨rfl, rfl⟩
  simp only [wt_ops, stpT, Tr, sa, sb, wt_alloc, wt_nil, chk1, avr, Bool.or_true, Bool.false_or, Nat.le_add_left, go_sem, ↓reduceIte, reduceCtorEq, Nat.reduceEqDiff, Nat.reduceAdd, Nat.reduceSub, Nat.reduceMul, Nat.reduceLeDiff, Nat.reduceLT, loadA, rdCells, storeA, setAt, binA]
  refine WT_callx _ rfl ((nb _).mono ?_)
  rintro w S3 ⟨rfl, rfl⟩
  simp only [wt_ops, stpT, Tr, sa, sb, wt_alloc, wt_nil, chk1, avr, Bool.or_true, Bool.false_or, Nat.le_add_left, go_sem, ↓reduceIte, reduceCtorEq, Nat.reduceEqDiff, Nat.reduceAdd, Nat.reduceSub, Nat.reduceMul, Nat.reduceLeDiff, Nat.reduceLT, loadA, rdCells, storeA, setAt, binA]
  refine WT_callx [.agg (tyc (nf a)), .agg (tyc (nf b))] (by simp only [go_sem, ↓reduceIte, reduceCtorEq, Nat.reduceEqDiff, Nat.reduceAdd, Nat.reduceSub, Nat.reduceMul, Nat.reduceLeDiff, Nat.reduceLT, loadA, rdCells, storeA, setAt, binA]) ((he _).mono ?_)
  rintro w S4 ⟨rfl, hk⟩
  simp only [wt_ops, stpT, Tr, sa, sb, wt_alloc, wt_nil, chk1, avr, Bool.or_true, Bool.false_or, Nat.le_add_left, go_sem, ↓reduceIte, reduceCtorEq, Nat.reduceEqDiff, Nat.reduceAdd, Nat.reduceSub, Nat.reduceMul, Nat.reduceLeDiff, Nat.reduceLT, loadA, rdCells, storeA, setAt, binA]
  exact ⟨by simp, _, rfl, rfl, (((Keep.refl s).new' _).new' _).trans hk⟩

end Go.Am.U2
