/- Same, sortedRows, CheckRow. Conditions: none. -/
import Derived.Test.YtfleakoephmgaaaDoorUoH
import Derived.Test.YtfleakoephmgaaaDoorUoK
import Derived.Test.YtfleakoephmgaaaDoorUoL
import Derived.Test.YtfleakoephmgaaaDoorUnO
import Derived.Test.YtfleakoephmgaaaDoorAmY2
set_option linter.unusedSimpArgs false
set_option linter.unusedVariables false
namespace Go.Am.U2
open Go.Am.Un Go.So
open Go.Am.U1 (tycP isl_tycs drop_at tyw tyc_w NoX vtm vtm_c len_tszs tsz_pos ne_a ne_b ne_c ne_d ne_e ne_f avr)
set_option maxRecDepth 100000
set_option linter.unusedSimpArgs false
attribute [local go_sem] wseq COp.isStore wreg wdreg wret wskip wexit wblock wcnd cnd_t cnd_f then_n then_x then_r catch_n rnd_n rnd_x rnd_r catch_x catch_r wo_nil wo_grd grdO_t grdO_f wo_ops stpO wr_nil wr_alloc wr_guards grdR_t grdR_f wr_ops stpR evAllocs evOp env0_app eput_some eput_none eset_app Opd.ev wantedA faddrA snew_obj snew_size sput_obj sput_size av_cells av_one av_strip av_still unA eqbA fillA fldA lensA mmA mm2 mmFold List.getD_cons_zero List.getD_cons_succ List.getD_nil List.length_cons List.length_nil List.drop_zero List.drop_succ_cons List.take_succ_cons List.take_zero List.map_cons List.map_nil List.set_cons_zero List.set_cons_succ List.all_cons List.all_nil List.getElem?_cons_zero List.getElem?_cons_succ List.nil_append List.cons_append Nat.zero_add Nat.add_zero beq_self_eq_true bt bf Bool.not_true Bool.not_false Bool.and_true Bool.true_and Bool.and_false Bool.false_and and_self and_true true_and n0 n1 n2 n3 n4 m0 m1 m2 m3 c1 retA resAs resA undefA Option.map_some Option.map_none
variable {X : Ext}

def numT : Tm := .mk 1 ⟨#[80, 114, 101, 108, 117, 100, 101, 46, 73, 110, 116]⟩ 0 []
theorem num_law (hX : NoX X) (s : St) : WC T X 23 [] s (fun v s' => v = .agg (tyc numT) ∧ Keep s s') := by
  refine WC.sub sub (T := U1.T) ?_
  refine WC_fn U1.cf23 (hX 23 (by decide)) U1.T23 (by simp [U1.cf23]) ?_
  have : tyc numT = [.int .i64 1, .str ⟨#[80, 114, 101, 108, 117, 100, 101, 46, 73, 110, 116]⟩, .int .i64 0, .sl [] 0 false none] := by rw [numT, tyc, tycs]; rfl
  rw [this]
  simp only [U1.cf23, Nat.le_add_left, go_sem, ↓reduceIte, reduceCtorEq, Nat.reduceEqDiff, Nat.reduceAdd, Nat.reduceSub, Nat.reduceMul, Nat.reduceLeDiff, Nat.reduceLT, loadA, rdCells, storeA, setAt, binA]
  exact ⟨by simp, _, rfl, rfl, ((Keep.refl s).new' _).put' (Nat.le_refl _) _⟩

theorem mem_tszs {l : List Tm} {x : Tm} (h : x ∈ l) : tsz x ≤ tszs l := by
  obtain ⟨i, hi⟩ := List.getElem?_of_mem h
  exact tsz_at hi

theorem eqf_law (hX : NoX X) {l m : List Tm} {v u : AV} (hv : ISl tyc v l) (hu : ISl tyc u m) (hb : l.length ≤ big) (hb2 : m.length ≤ big) (s : St)
    (hg : ∀ x y S, x ∈ l → y ∈ m → WC T X 54 [.agg (tyc x), .agg (tyc y)] S (fun r S' => r = .bool (eqb x y) ∧ Keep S S')) :
    WC T X 74 [v, u, .func 54 []] s (fun r s' => r = .bool (eqbs l m) ∧ Keep s s') := by
  refine WC_fn cf74 (hX 74 (by decide)) T74 (by simp [cf74]) ?_
  have l1 := hv.len
  have l2 := hu.len
  simp only [cf74, l1, l2, go_sem, ↓reduceIte, reduceCtorEq, Nat.reduceEqDiff, Nat.reduceAdd, Nat.reduceSub, Nat.reduceMul, Nat.reduceLeDiff, Nat.reduceLT, loadA, rdCells, storeA, setAt, binA]
  cases hne : ((l.length : Int) != (m.length : Int))
  · have hlm : l.length = m.length := by
      have : (l.length : Int) = m.length := by simpa using hne
      omega
    simp only [l1, l2, go_sem, ↓reduceIte, reduceCtorEq, Nat.reduceEqDiff, Nat.reduceAdd, Nat.reduceSub, Nat.reduceMul, Nat.reduceLeDiff, Nat.reduceLT, loadA, rdCells, storeA, setAt, binA]
    refine W_loop_nat (fun k e S => ∃ i, i + k = l.length ∧ e 1 = u ∧ e 2 = .func 54 [] ∧ e 15 = v ∧ e 16 = .int .i64 l.length ∧ e 17 = .int .i64 i ∧ eqbs l m = eqbs (l.drop i) (m.drop i) ∧ Keep s S) ?_ l.length _ _ ⟨0, by simp, ?_⟩
    · rintro k e S ⟨i, hik, e1, e2, e15, e16, e17, hf, hk⟩
      by_cases hi : i < l.length
      · have hd : decide ((i : Int) < (l.length : Int)) = true := by simp; omega
        obtain ⟨x, hx⟩ : ∃ x, l[i]? = some x := ⟨_, List.getElem?_eq_getElem hi⟩
        obtain ⟨y, hy⟩ : ∃ y, m[i]? = some y := ⟨_, List.getElem?_eq_getElem (by omega)⟩
        have a1 := hv.at tyc_len hx
        have a2 := hu.at tyc_len hy
        have hgx := fun S => hg x y S (List.mem_of_getElem? hx) (List.mem_of_getElem? hy)
        rw [drop_at hx, drop_at hy, eqbs] at hf
        rw [tyc_w, tyw] at a1 a2
        rw [tyc_w x, tyc_w y, tyw, tyw] at hgx
        have hwr := U1.wrapn (n := i) (by unfold big at hb; omega)
        simp only [cf74_l0, e1, e2, e15, e16, e17, hd, a1, a2, Nat.le_add_left, go_sem, ↓reduceIte, reduceCtorEq, Nat.reduceEqDiff, Nat.reduceAdd, Nat.reduceSub, Nat.reduceMul, Nat.reduceLeDiff, Nat.reduceLT, loadA, rdCells, storeA, setAt, binA]
        refine WO_callvx 54 [] _ (by simp only [go_sem, ↓reduceIte, reduceCtorEq, Nat.reduceEqDiff, Nat.reduceAdd, Nat.reduceSub, Nat.reduceMul, Nat.reduceLeDiff, Nat.reduceLT, loadA, rdCells, storeA, setAt, binA]) rfl ((by simpa only [go_sem, ↓reduceIte, reduceCtorEq, Nat.reduceEqDiff, Nat.reduceAdd, Nat.reduceSub, Nat.reduceMul, Nat.reduceLeDiff, Nat.reduceLT, loadA, rdCells, storeA, setAt, binA] using hgx _ : WC T X 54 _ _ _).mono ?_)
        rintro w S2 ⟨rfl, hk2⟩
        have hk02 : Keep S S2 := ((((Keep.refl S).new' _).put' (Nat.le_refl _) _).new' _ |>.put' (by omega) _).trans hk2
        cases hq : eqb x y
        · simp only [hq, e1, e2, e15, e16, e17, go_sem, ↓reduceIte, reduceCtorEq, Nat.reduceEqDiff, Nat.reduceAdd, Nat.reduceSub, Nat.reduceMul, Nat.reduceLeDiff, Nat.reduceLT, loadA, rdCells, storeA, setAt, binA]
          refine ⟨by simp, _, rfl, ?_, hk.trans hk02⟩
          rw [hf, hq]; rfl
        · simp only [hq, e1, e2, e15, e16, e17, hwr, go_sem, ↓reduceIte, reduceCtorEq, Nat.reduceEqDiff, Nat.reduceAdd, Nat.reduceSub, Nat.reduceMul, Nat.reduceLeDiff, Nat.reduceLT, loadA, rdCells, storeA, setAt, binA]
          exact ⟨k - 1, by omega, i + 1, by omega, rfl, by rw [hf, hq, Bool.true_and], hk.trans hk02⟩
      · have hd : decide ((i : Int) < (l.length : Int)) = false := by simp; omega
        simp only [cf74_l0, e1, e2, e15, e16, e17, hd, go_sem, ↓reduceIte, reduceCtorEq, Nat.reduceEqDiff, Nat.reduceAdd, Nat.reduceSub, Nat.reduceMul, Nat.reduceLeDiff, Nat.reduceLT, loadA, rdCells, storeA, setAt, binA]
        refine ⟨by simp, _, rfl, ?_, hk⟩
        rw [hf, List.drop_eq_nil_of_le (by omega), List.drop_eq_nil_of_le (by omega)]; rfl
    · simp only [go_sem, ↓reduceIte, reduceCtorEq, Nat.reduceEqDiff, Nat.reduceAdd, Nat.reduceSub, Nat.reduceMul, Nat.reduceLeDiff, Nat.reduceLT, loadA, rdCells, storeA, setAt, binA]
      exact ⟨rfl, Keep.refl s⟩
  · simp only [go_sem, ↓reduceIte, reduceCtorEq, Nat.reduceEqDiff, Nat.reduceAdd, Nat.reduceSub, Nat.reduceMul, Nat.reduceLeDiff, Nat.reduceLT, loadA, rdCells, storeA, setAt, binA]
    have hlm : l.length ≠ m.length := fun h => by simp [h] at hne
    have : eqbs l m = false := by
      cases h : eqbs l m with
      | false => rfl
      | true => exact absurd (congrArg List.length ((eqbs_iff l m).1 h)) hlm
    rw [this]
    exact ⟨by simp, _, rfl, rfl, Keep.refl s⟩

theorem eq_law (hX : NoX X) : ∀ (n : Nat) (a b : Tm), tsz a ≤ n → tsz a ≤ big → tsz b ≤ big → ∀ s, WC T X 54 [.agg (tyc a), .agg (tyc b)] s (fun r s' => r = .bool (eqb a b) ∧ Keep s s') := by
  intro n
  induction n with
  | zero => intro a b h; have := tsz_pos a; omega
  | succ n ih =>
    rintro ⟨k, nm, v, l⟩ ⟨k', nm', v', l'⟩ hn hb1 hb2 s
    rw [tsz] at hn hb1 hb2
    have hl1 := len_tszs l
    have hl2 := len_tszs l'
    refine WC_fn cf54 (hX 54 (by decide)) T54 (by simp [cf54]) ?_
    have hq := fun S => eqf_law hX (isl_tycs l) (isl_tycs l') (by omega) (by omega) S (fun x y S hx hy => ih x y (by have := mem_tszs hx; omega) (by have := mem_tszs hx; omega) (by have := mem_tszs hy; omega) S)
    rw [tyc, tyc]
    simp only [cf54, Nat.le_add_left, go_sem, ↓reduceIte, reduceCtorEq, Nat.reduceEqDiff, Nat.reduceAdd, Nat.reduceSub, Nat.reduceMul, Nat.reduceLeDiff, Nat.reduceLT, loadA, rdCells, storeA, setAt, binA]
    cases c1 : (k == k') <;> simp only [c1, Nat.le_add_left, go_sem, ↓reduceIte, reduceCtorEq, Nat.reduceEqDiff, Nat.reduceAdd, Nat.reduceSub, Nat.reduceMul, Nat.reduceLeDiff, Nat.reduceLT, loadA, rdCells, storeA, setAt, binA]
    · exact ⟨by simp, _, rfl, by simp [eqb, c1], ((Keep.refl s).new' _).new' _⟩
    cases c2 : (nm.toList == nm'.toList) <;> simp only [c2, Nat.le_add_left, go_sem, ↓reduceIte, reduceCtorEq, Nat.reduceEqDiff, Nat.reduceAdd, Nat.reduceSub, Nat.reduceMul, Nat.reduceLeDiff, Nat.reduceLT, loadA, rdCells, storeA, setAt, binA]
    · exact ⟨by simp, _, rfl, by simp [eqb, c1, c2], ((Keep.refl s).new' _).new' _⟩
    cases c3 : (v == v') <;> simp only [c3, Nat.le_add_left, go_sem, ↓reduceIte, reduceCtorEq, Nat.reduceEqDiff, Nat.reduceAdd, Nat.reduceSub, Nat.reduceMul, Nat.reduceLeDiff, Nat.reduceLT, loadA, rdCells, storeA, setAt, binA]
    · exact ⟨by simp, _, rfl, by simp [eqb, c1, c2, c3], ((Keep.refl s).new' _).new' _⟩
    refine WO_callx [.sl (tycs l) l.length false none, .sl (tycs l') l'.length false none, .func 54 []] (by simp only [go_sem, ↓reduceIte, reduceCtorEq, Nat.reduceEqDiff, Nat.reduceAdd, Nat.reduceSub, Nat.reduceMul, Nat.reduceLeDiff, Nat.reduceLT, loadA, rdCells, storeA, setAt, binA]) ((hq _).mono ?_)
    rintro w S2 ⟨rfl, hk2⟩
    simp only [go_sem, ↓reduceIte, reduceCtorEq, Nat.reduceEqDiff, Nat.reduceAdd, Nat.reduceSub, Nat.reduceMul, Nat.reduceLeDiff, Nat.reduceLT, loadA, rdCells, storeA, setAt, binA]
    exact ⟨by simp, _, rfl, by simp [eqb, c1, c2, c3], (((Keep.refl s).new' _).new' _).trans hk2⟩

theorem same_law {a b : Tm} {wa wb : AV} (ha : ISl tyc wa (lof a)) (hb : ISl tyc wb (lof b)) (va : Val a) (vb : Val b) (ta : tsz a < big) (tb : tsz b < big) (s : St) :
    WC T Xb 26 [.agg (tyw a wa), .agg (tyw b wb)] s (fun r s' => r = .bool (eqb (nf a) (nf b)) ∧ Keep s s') := by
  refine WC_fn cf26 (Xb_none 26 (by decide)) T26 (by simp [cf26]) ?_
  have na := fun S => norm_law (isl_tycs (lof a)) va ta S
  have nb := fun S => norm_law (isl_tycs (lof b)) vb tb S
  have he := fun S => eq_law Xb_none (tsz (nf a)) (nf a) (nf b) (Nat.le_refl _) (by rw [nf_tsz _ a (Nat.le_refl _) va]; omega) (by rw [nf_tsz _ b (Nat.le_refl _) vb]; omega) S
  have sa : AV.strip wa = .sl (tycs (lof a)) (lof a).length false none := by
    rcases ha with ⟨rfl, h⟩ | ⟨f, tk, rfl⟩
    · rw [h, tycs]; rfl
    · rw [tycs_flat]; rfl
  have sb : AV.strip wb = .sl (tycs (lof b)) (lof b).length false none := by
    rcases hb with ⟨rfl, h⟩ | ⟨f, tk, rfl⟩
    · rw [h, tycs]; rfl
    · rw [tycs_flat]; rfl
  simp only [tyw, U1.tyw] at na nb ⊢
  simp only [cf26, go_sem, ↓reduceIte, reduceCtorEq, Nat.reduceEqDiff, Nat.reduceAdd, Nat.reduceSub, Nat.reduceMul, Nat.reduceLeDiff, Nat.reduceLT, loadA, rdCells, storeA, setAt, binA]
  refine W_dreg ?_
  simp only [wt_ops, stpT, Tr, sa, sb, wt_alloc, wt_nil, chk1, avr, Bool.or_true, Nat.le_add_left, go_sem, ↓reduceIte, reduceCtorEq, Nat.reduceEqDiff, Nat.reduceAdd, Nat.reduceSub, Nat.reduceMul, Nat.reduceLeDiff, Nat.reduceLT, loadA, rdCells, storeA, setAt, binA]
  refine WT_callx _ rfl ((na _).mono ?_)
  rintro w S2 ⟨rfl, rfl⟩
  simp only [wt_ops, stpT, Tr, sa, sb, wt_alloc, wt_nil, chk1, avr, Bool.or_true, Bool.false_or, Nat.le_add_left, go_sem, ↓reduceIte, reduceCtorEq, Nat.reduceEqDiff, Nat.reduceAdd, Nat.reduceSub, Nat.reduceMul, Nat.reduceLeDiff, Nat.reduceLT, loadA, rdCells, storeA, setAt, binA]
  refine WT_callx _ rfl ((nb _).mono ?_)
  rintro w S3 ⟨rfl, rfl⟩
  simp only [wt_ops, stpT, Tr, sa, sb, wt_alloc, wt_nil, chk1, avr, Bool.or_true, Bool.false_or, Nat.le_add_left, go_sem, ↓reduceIte, reduceCtorEq, Nat.reduceEqDiff, Nat.reduceAdd, Nat.reduceSub, Nat.reduceMul, Nat.reduceLeDiff, Nat.reduceLT, loadA, rdCells, storeA, setAt, binA]
  refine WT_callx [.agg (tyc (nf a)), .agg (tyc (nf b))] (by simp only [go_sem, ↓reduceIte, reduceCtorEq, Nat.reduceEqDiff, Nat.reduceAdd, Nat.reduceSub, Nat.reduceMul, Nat.reduceLeDiff, Nat.reduceLT, loadA, rdCells, storeA, setAt, binA]) ((he _).mono ?_)
  rintro w S4 ⟨rfl, hk⟩
  simp only [wt_ops, stpT, Tr, sa, sb, wt_alloc, wt_nil, chk1, avr, Bool.or_true, Bool.false_or, Nat.le_add_left, go_sem, ↓reduceIte, reduceCtorEq, Nat.reduceEqDiff, Nat.reduceAdd, Nat.reduceSub, Nat.reduceMul, Nat.reduceLeDiff, Nat.reduceLT, loadA, rdCells, storeA, setAt, binA]
  exact ⟨by simp, _, rfl, rfl, (((Keep.refl s).new' _).new' _).trans hk⟩

theorem strip_isl {l : List Tm} {w : AV} (h : ISl tyc w l) : AV.strip w = .sl (tycs l) l.length false none := by
  rcases h with ⟨rfl, h⟩ | ⟨f, tk, rfl⟩
  · rw [h, tycs]; rfl
  · rw [tycs_flat]; rfl

theorem bl_tri : ∀ (a b : List UInt8), (!(Op.bytesLess a b || a == b)) = Op.bytesLess b a
  | [], [] => by simp [Op.bytesLess]
  | [], _ :: _ => by simp [Op.bytesLess]
  | _ :: _, [] => by simp [Op.bytesLess]
  | x :: a, y :: b => by
    have ih := bl_tri a b
    simp only [Op.bytesLess, List.cons_beq_cons]
    rw [← ih]
    rcases Nat.lt_trichotomy x.toNat y.toNat with h | h | h
    · have h1 : x < y := by rw [UInt8.lt_iff_toNat_lt]; exact h
      have h2 : ¬ y < x := by rw [UInt8.lt_iff_toNat_lt]; omega
      have h3 : y ≠ x := fun e => by subst e; omega
      simp [h1, h2, h3]
    · have h1 : x = y := UInt8.toNat_inj.1 h
      subst h1
      have h2 : ¬ x < x := by rw [UInt8.lt_iff_toNat_lt]; omega
      simp [h2]
    · have h1 : y < x := by rw [UInt8.lt_iff_toNat_lt]; exact h
      have h2 : ¬ x < y := by rw [UInt8.lt_iff_toNat_lt]; omega
      have h3 : x ≠ y := fun e => by subst e; omega
      simp [h1, h2, h3]
end Go.Am.U2

/- UnifyNormal. Conditions: none. -/
namespace Go.Am.U2
open Go.Am.Un Go.So Go.Proofs
open Go.Am.U1 (tycP isl_tycs drop_at tyw tyc_w NoX vtm vtm_c len_tszs tsz_pos ne_a ne_b ne_c ne_d ne_e ne_f avr chks_cons chk_tsz)
set_option maxRecDepth 100000
set_option linter.unusedSimpArgs false
attribute [local go_sem] wseq COp.isStore wreg wdreg wret wskip wexit wblock wcnd cnd_t cnd_f then_n then_x then_r catch_n rnd_n rnd_x rnd_r catch_x catch_r wo_nil wo_grd grdO_t grdO_f wo_ops stpO wr_nil wr_alloc wr_guards grdR_t grdR_f wr_ops stpR evAllocs evOp env0_app eput_some eput_none eset_app Opd.ev wantedA faddrA snew_obj snew_size sput_obj sput_size av_cells av_one av_strip av_still unA eqbA fillA fldA lensA mmA mm2 mmFold List.getD_cons_zero List.getD_cons_succ List.getD_nil List.length_cons List.length_nil List.drop_zero List.drop_succ_cons List.take_succ_cons List.take_zero List.map_cons List.map_nil List.set_cons_zero List.set_cons_succ List.all_cons List.all_nil List.getElem?_cons_zero List.getElem?_cons_succ List.nil_append List.cons_append Nat.zero_add Nat.add_zero beq_self_eq_true bt bf Bool.not_true Bool.not_false Bool.and_true Bool.true_and Bool.and_false Bool.false_and and_self and_true true_and n0 n1 n2 n3 n4 m0 m1 m2 m3 c1 retA resAs resA undefA Option.map_some Option.map_none
variable {X : Ext}

mutual
theorem chk_val (row : Bool) (d left : Int) : ∀ t : Tm, (chk row d left t).1 = 0 → Val t
  | .mk k n v l => by
    intro h
    rw [chk] at h
    split at h
    · simp at h
    split at h
    · simp at h
    split at h
    · simp at h
    split at h
    · simp at h
    split at h
    · simp at h
    rename_i h1 h2 h3 h4 h5
    rw [Val]
    have h31 : ¬ (szK k ≥ 0 ∧ (l.length : Int) ≠ szK k) := fun hh => h3 (Or.inl hh)
    refine ⟨by omega, by omega, fun hk => ?_, fun hk => ?_, fun hk => ?_, fun hk => ?_, fun hk => ?_, vals_of fun i t hi => chks_val k 0 (d + 1) (left - 1) l h t (List.mem_of_getElem? hi)⟩
    · subst hk; simp only [szK, if_true] at h31; omega
    · subst hk; simp [szK] at h31; omega
    · subst hk; simp [szK] at h31; omega
    · subst hk; simp [szK] at h31; simp [h31]
    · subst hk; simp [szK] at h31; omega
theorem chks_val (k : Int) (i : Nat) (d left : Int) : ∀ l : List Tm, (chks k i d left l).1 = 0 → ∀ a, a ∈ l → Val a
  | [] => fun _ a ha => by simp at ha
  | a :: r => fun h b hb => by
    rcases List.mem_cons.1 hb with hb' | hb'
    · rw [hb']; exact chk_val _ d left a (chks_cons h).1
    · exact chks_val k (i + 1) d _ r (chks_cons h).2.1 b hb'
end

theorem val_bld : ∀ (L : List Lb) (e : Tm), Val e → (∀ x, x ∈ L → Val x.2) → Val (bld L e)
  | [], e, he, _ => he
  | x :: L, e, he, hL => by
    rw [bld, Val]
    simp only [Vals]
    exact ⟨by decide, by decide, by simp, by simp, by simp, by simp, by simp, hL x (by simp), val_bld L e he fun y hy => hL y (by simp [hy]), trivial⟩
def bA : ByteArray := ⟨#[97]⟩
def bB : ByteArray := ⟨#[98]⟩
def emp : Tm := .mk 4 ⟨#[]⟩ 0 []
theorem val_numT : Val numT := by rw [numT, Val]; simp [Vals]
theorem val_emp : Val emp := by rw [emp, Val]; simp [Vals]
theorem ext_law2 (hX : NoX X) (l : ByteArray) (a b : Tm) (wa wb : AV) (ha : ISl tyc wa (lof a)) (hb : ISl tyc wb (lof b)) (s : St) : WC T X 22 [.str l, .agg (tyw a wa), .agg (tyw b wb)] s (fun v s' => v = .agg (tyc (.mk 5 l 0 [a, b])) ∧ Keep s s') := by
  refine WC.sub sub (T := U1.T) ?_
  refine WC_fn U1.cf22 (hX 22 (by decide)) U1.T22 (by simp [U1.cf22]) ?_
  have hr : tyc (.mk 5 l 0 [a, b]) = [.int .i64 5, .str l, .int .i64 0, .sl (tyc a ++ tyc b) 2 false none] := by
    rw [tyc, tycs, tycs, tycs, List.append_nil]; rfl
  have sa := strip_isl ha
  have sb := strip_isl hb
  have t1 : AV.still (.sl (tycs (lof a)) (lof a).length false none) = true := rfl
  have sa2 : AV.still wa = true := by rcases ha with ⟨rfl, -⟩ | ⟨f, tk, rfl⟩ <;> rfl
  have sb2 : AV.still wb = true := by rcases hb with ⟨rfl, -⟩ | ⟨f, tk, rfl⟩ <;> rfl
  rw [hr, tyc_w a, tyc_w b]
  simp only [U1.tyw]
  simp only [U1.cf22, sa, sb, sa2, sb2, Nat.le_add_left, go_sem, ↓reduceIte, reduceCtorEq, Nat.reduceEqDiff, Nat.reduceAdd, Nat.reduceSub, Nat.reduceMul, Nat.reduceLeDiff, Nat.reduceLT, loadA, rdCells, storeA, setAt, binA]
  exact ⟨by simp, _, rfl, rfl, ((((Keep.refl s).new' _).new' _).new' _).put' (by show s.size ≤ s.size + 1 + 1; omega) _⟩
end Go.Am.U2

/- Strings in the machine, and rows of labels. Conditions: none. -/
namespace Go.Am.U2
open Go.Am.Un
open Go.Am.U1 (drop_at tyw tyc_w NoX vtm vtm_c isl_tycs ne_a ne_b ne_c ne_d ne_e ne_f)
set_option maxRecDepth 100000
set_option linter.unusedSimpArgs false
attribute [local go_sem] wseq COp.isStore wreg wdreg wret wskip wexit wblock wcnd cnd_t cnd_f then_n then_x then_r catch_n rnd_n rnd_x rnd_r catch_x catch_r wo_nil wo_grd grdO_t grdO_f wo_ops stpO wr_nil wr_alloc wr_guards grdR_t grdR_f wr_ops stpR evAllocs evOp env0_app eput_some eput_none eset_app Opd.ev wantedA faddrA snew_obj snew_size sput_obj sput_size av_cells av_one av_strip av_still unA eqbA fillA fldA lensA mmA mm2 mmFold List.getD_cons_zero List.getD_cons_succ List.getD_nil List.length_cons List.length_nil List.drop_zero List.drop_succ_cons List.take_succ_cons List.take_zero List.map_cons List.map_nil List.set_cons_zero List.set_cons_succ List.all_cons List.all_nil List.getElem?_cons_zero List.getElem?_cons_succ List.nil_append List.cons_append Nat.zero_add Nat.add_zero beq_self_eq_true bt bf Bool.not_true Bool.not_false Bool.and_true Bool.true_and Bool.and_false Bool.false_and and_self and_true true_and n0 n1 n2 n3 n4 m0 m1 m2 m3 c1 retA resAs resA undefA Option.map_some Option.map_none
variable {X : Ext}

def sc (b : ByteArray) : List AV := [.str b]
theorem sc_len (b : ByteArray) : (sc b).length = 1 := rfl
theorem scP : Plain sc 1 := ⟨sc_len, fun _ => rfl, fun _ => rfl, fun _ => rfl⟩

theorem index_s (hX : NoX X) {v : AV} {l : List ByteArray} (h : ISl sc v l) (hb : l.length ≤ 4398046511104) (x : ByteArray) (s : St) :
    WC T X 58 [v, .str x] s (fun v s' => (∃ m : Int, v = .int .i64 m ∧ decide (m ≥ 0) = l.any (fun y => x.toList == y.toList)) ∧ Keep s s') := by
  refine WC_fn cf58 (hX 58 (by decide)) T58 (by simp [cf58]) ?_
  have hlen := h.len
  simp only [cf58, hlen, go_sem, ↓reduceIte, reduceCtorEq, Nat.reduceEqDiff, Nat.reduceAdd, Nat.reduceSub, Nat.reduceMul, Nat.reduceLeDiff, Nat.reduceLT, loadA, rdCells, storeA, setAt, binA]
  refine W_loop_nat (fun k e s1 => ∃ i, i + k = l.length ∧ e 0 = v ∧ e 1 = .str x ∧ e 7 = .int .i64 l.length ∧ e 8 = .int .i64 i ∧ l.any (fun y => x.toList == y.toList) = (l.drop i).any (fun y => x.toList == y.toList) ∧ Keep s s1) ?_ l.length _ _ ⟨0, by simp, ?_⟩
  · rintro k e s1 ⟨i, hik, h0, h1, h7, h8, hf, hk⟩
    by_cases hi : i < l.length
    · obtain ⟨y, hy⟩ : ∃ y, l[i]? = some y := ⟨_, List.getElem?_eq_getElem hi⟩
      have hd : decide ((i : Int) < (l.length : Int)) = true := by simp; omega
      have ha := h.at sc_len hy
      cases hp : (x.toList == y.toList)
      · simp only [cf58_l0, h0, h1, h7, h8, hd, ha, sc, hp, U1.wrapn (n := i) (by omega), Nat.le_add_left, go_sem, ↓reduceIte, reduceCtorEq, Nat.reduceEqDiff, Nat.reduceAdd, Nat.reduceSub, Nat.reduceMul, Nat.reduceLeDiff, Nat.reduceLT, loadA, rdCells, storeA, setAt, binA]
        exact ⟨k - 1, by omega, i + 1, by omega, by first | rfl | rw [U1.wrapn (by omega)], by rw [hf, drop_at hy, List.any_cons, hp, Bool.false_or], hk⟩
      · simp only [cf58_l0, h0, h1, h7, h8, hd, ha, sc, hp, Nat.le_add_left, go_sem, ↓reduceIte, reduceCtorEq, Nat.reduceEqDiff, Nat.reduceAdd, Nat.reduceSub, Nat.reduceMul, Nat.reduceLeDiff, Nat.reduceLT, loadA, rdCells, storeA, setAt, binA]
        exact ⟨by simp, _, rfl, ⟨(i : Int), rfl, by rw [hf, drop_at hy, List.any_cons, hp, Bool.true_or]; simp⟩, hk⟩
    · have hd : decide ((i : Int) < (l.length : Int)) = false := by simp; omega
      simp only [cf58_l0, h0, h1, h7, h8, hd, go_sem, ↓reduceIte, reduceCtorEq, Nat.reduceEqDiff, Nat.reduceAdd, Nat.reduceSub, Nat.reduceMul, Nat.reduceLeDiff, Nat.reduceLT, loadA, rdCells, storeA, setAt, binA]
      exact ⟨by simp, _, rfl, ⟨-1, rfl, by rw [hf, List.drop_eq_nil_of_le (by omega)]; rfl⟩, hk⟩
  · simp only [go_sem, ↓reduceIte, reduceCtorEq, Nat.reduceEqDiff, Nat.reduceAdd, Nat.reduceSub, Nat.reduceMul, Nat.reduceLeDiff, Nat.reduceLT, loadA, rdCells, storeA, setAt, binA]
    exact ⟨rfl, Keep.refl s⟩

theorem contains_s (hX : NoX X) {v : AV} {l : List ByteArray} (h : ISl sc v l) (hb : l.length ≤ 4398046511104) (x : ByteArray) (s : St) :
    WC T X 29 [v, .str x] s (fun v s' => v = .bool (l.any (fun y => x.toList == y.toList)) ∧ Keep s s') := by
  refine WC_fn cf29 (hX 29 (by decide)) T29 (by simp [cf29]) ?_
  simp only [cf29, go_sem, ↓reduceIte, reduceCtorEq, Nat.reduceEqDiff, Nat.reduceAdd, Nat.reduceSub, Nat.reduceMul, Nat.reduceLeDiff, Nat.reduceLT, loadA, rdCells, storeA, setAt, binA]
  refine WO_callx [v, .str x] (by simp only [go_sem, ↓reduceIte, reduceCtorEq, Nat.reduceEqDiff, Nat.reduceAdd, Nat.reduceSub, Nat.reduceMul, Nat.reduceLeDiff, Nat.reduceLT, loadA, rdCells, storeA, setAt, binA]) ((index_s hX h hb x s).mono ?_)
  rintro w s2 ⟨⟨m, rfl, hm⟩, hk⟩
  simp only [go_sem, ↓reduceIte, reduceCtorEq, Nat.reduceEqDiff, Nat.reduceAdd, Nat.reduceSub, Nat.reduceMul, Nat.reduceLeDiff, Nat.reduceLT, loadA, rdCells, storeA, setAt, binA]
  exact ⟨by simp, _, rfl, by rw [hm], hk⟩

theorem clone_s (hX : NoX X) {v : AV} {l : List ByteArray} (h : ISl sc v l) (h0 : 0 < l.length) (hb : l.length ≤ 100) (S : St) : WC T X 31 [v] S (fun r s' => RSl sc S.size s' r l ∧ Keep S s') := by
  have hn : eqnilA false false v = some (.bool false) := by
    rcases h with ⟨-, rfl⟩ | ⟨full, tok, rfl⟩
    · simp at h0
    · simp only [eqnilA]
      rw [if_neg (by simp), if_pos (Or.inl h0)]
  have ha : appendA S false 1 16 (.sl [] 0 true none) v = some (.sl (l.flatMap sc) l.length false (some S.size), S.new .right) := by
    simp only [appendA, h.contents scP, freshA]
    rw [if_neg (by omega), if_pos ⟨by simp, by omega⟩, if_pos trivial, if_neg (by simp), List.nil_append, if_pos (scP.stills l), scP.strips, Nat.zero_add]
  refine WC_fn cf31 (hX 31 (by decide)) T31 (by simp [cf31]) ?_
  simp only [cf31, hn, ha, go_sem, ↓reduceIte, reduceCtorEq, Nat.reduceEqDiff, Nat.reduceAdd, Nat.reduceSub, Nat.reduceMul, Nat.reduceLeDiff, Nat.reduceLT, loadA, rdCells, storeA, setAt, binA]
  refine ⟨by simp, _, rfl, ⟨h0, false, some S.size, rfl, Or.inr ⟨S.size, rfl, new_eq rfl, Nat.le_refl _, by simp [St.new]⟩⟩, Keep.new _ _⟩
theorem clone_nil (hX : NoX X) (S : St) : WC T X 31 [.nils] S (fun r s' => r = .nils ∧ Keep S s') := by
  refine WC_fn cf31 (hX 31 (by decide)) T31 (by simp [cf31]) ?_
  have hn : eqnilA false false .nils = some (.bool true) := rfl
  simp only [cf31, hn, go_sem, ↓reduceIte, reduceCtorEq, Nat.reduceEqDiff, Nat.reduceAdd, Nat.reduceSub, Nat.reduceMul, Nat.reduceLeDiff, Nat.reduceLT, loadA, rdCells, storeA, setAt, binA]
  exact ⟨by simp, _, rfl, rfl, Keep.refl _⟩

/-- The row of these labels, the last outermost. -/
def bldr (l : List ByteArray) : Tm := l.foldl (fun out n => .mk 5 n 0 [vtm (n.size % 12), out]) emp
theorem bldr_snoc (l : List ByteArray) (n : ByteArray) : bldr (l ++ [n]) = .mk 5 n 0 [vtm (n.size % 12), bldr l] := by simp [bldr, List.foldl_append]

theorem build_law (hX : NoX X) {v : AV} {l : List ByteArray} (h : ISl sc v l) (hb : l.length ≤ 4398046511104) (s : St) :
    WC T X 30 [v] s (fun r s' => r = .agg (tyc (bldr l)) ∧ Keep s s') := by
  refine WC_fn cf30 (hX 30 (by decide)) T30 (by simp [cf30]) ?_
  have hlen := h.len
  simp only [cf30, hlen, Nat.le_add_left, go_sem, ↓reduceIte, reduceCtorEq, Nat.reduceEqDiff, Nat.reduceAdd, Nat.reduceSub, Nat.reduceMul, Nat.reduceLeDiff, Nat.reduceLT, loadA, rdCells, storeA, setAt, binA]
  refine W_loop_nat (fun k e S => ∃ (i : Nat) (w : AV), i + k = l.length ∧ e 2 = .ptr s.size 0 ∧ e 3 = .ptr (s.size + 1) 0 ∧ e 7 = v ∧ e 8 = .int .i64 l.length ∧ e 9 = .int .i64 i ∧ ISl tyc w (lof (bldr (l.take i))) ∧ S.obj s.size = some (.cells [.int .i64 0, .str ⟨#[]⟩, .int .i64 0, .nils]) ∧ S.obj (s.size + 1) = some (.cells (tyw (bldr (l.take i)) w)) ∧ s.size + 1 < S.size ∧ Keep s S) ?_ l.length _ _ ⟨0, .nils, by simp, ?_, ?_, ?_, ?_, ?_, Or.inl ⟨rfl, rfl⟩, ?_, ?_, ?_, ?_⟩
  · rintro k e S ⟨i, w, hik, e2, e3, e7, e8, e9, hw, o0, o1, hz, hk⟩
    by_cases hi : i < l.length
    · obtain ⟨x, hx⟩ : ∃ y, l[i]? = some y := ⟨_, List.getElem?_eq_getElem hi⟩
      have hd : decide ((i : Int) < (l.length : Int)) = true := by simp; omega
      have ha := h.at sc_len hx
      have hwr := U1.wrapn (n := i) (by omega)
      have hex := fun S => ext_law2 hX x (vtm (x.size % 12)) (bldr (l.take i)) .nils (.sl (tycs (lof (bldr (l.take i)))) (lof (bldr (l.take i))).length false none) (Or.inl ⟨rfl, rfl⟩) (isl_tycs _) S
      have htk : l.take (i + 1) = l.take i ++ [x] := by rw [List.take_add_one, hx]; rfl
      have hsw := strip_isl hw
      simp only [tyw] at o1
      simp only [tyw, vtm, U1.kof_mk, U1.nof_mk, U1.vof_mk] at hex
      have hrem : ((x.size : Int)).tmod 12 = ((x.size % 12 : Nat) : Int) := by rw [Int.tmod_eq_emod_of_nonneg (by omega)]; omega
      have hwm : IntKind.i64.wrap (((x.size % 12 : Nat) : Int)) = ((x.size % 12 : Nat) : Int) := by rw [IntKind.wrap_i64]; omega
      have n12 : ((12 : Int) ≠ 0) = True := by simp
      simp only [cf30_l0, e2, e3, e7, e8, e9, hd, ha, sc, o1, hsw, hrem, hwm, n12, if_true, Nat.le_add_left, go_sem, ↓reduceIte, reduceCtorEq, Nat.reduceEqDiff, Nat.reduceAdd, Nat.reduceSub, Nat.reduceMul, Nat.reduceLeDiff, Nat.reduceLT, loadA, rdCells, storeA, setAt, binA]
      refine WO_callx _ rfl ((hex _).mono ?_)
      rintro w2 S2 ⟨rfl, hk2⟩
      have p1 := hk2.obj hz o1
      have p0 := hk2.obj (by omega : s.size < S.size) o0
      have hz2 := hk2.lt hz
      rw [tyc_w, tyw]
      simp only [e2, e3, e7, e8, e9, p1, hwr, Nat.le_add_left, go_sem, ↓reduceIte, reduceCtorEq, Nat.reduceEqDiff, Nat.reduceAdd, Nat.reduceSub, Nat.reduceMul, Nat.reduceLeDiff, Nat.reduceLT, loadA, rdCells, storeA, setAt, binA]
      exact ⟨k - 1, by omega, i + 1, _, by omega, rfl, by rw [htk, bldr_snoc]; exact isl_tycs _, by first | exact p0 | (rw [put_ne (by omega)]; exact p0), by rw [htk, bldr_snoc]; rfl, hz2, (hk.trans hk2).put' (by omega) _⟩
    · have hd : decide ((i : Int) < (l.length : Int)) = false := by simp; omega
      rw [List.take_of_length_le (by omega)] at o1 hw
      have hsw := strip_isl hw
      simp only [tyw] at o1
      rw [tyc_w, tyw]
      simp only [cf30_l0, e2, e3, e7, e8, e9, hd, o1, o0, hsw, ne_a hz, ne_b hz, Nat.le_add_left, go_sem, ↓reduceIte, reduceCtorEq, Nat.reduceEqDiff, Nat.reduceAdd, Nat.reduceSub, Nat.reduceMul, Nat.reduceLeDiff, Nat.reduceLT, loadA, rdCells, storeA, setAt, binA]
      exact ⟨by simp, _, rfl, rfl, hk.put' (Nat.le_refl _) _⟩
  · simp only [go_sem, ↓reduceIte, reduceCtorEq, Nat.reduceEqDiff, Nat.reduceAdd, Nat.reduceSub, Nat.reduceMul, Nat.reduceLeDiff, Nat.reduceLT, loadA, rdCells, storeA, setAt, binA]
  · simp only [go_sem, ↓reduceIte, reduceCtorEq, Nat.reduceEqDiff, Nat.reduceAdd, Nat.reduceSub, Nat.reduceMul, Nat.reduceLeDiff, Nat.reduceLT, loadA, rdCells, storeA, setAt, binA]
  · simp only [go_sem, ↓reduceIte, reduceCtorEq, Nat.reduceEqDiff, Nat.reduceAdd, Nat.reduceSub, Nat.reduceMul, Nat.reduceLeDiff, Nat.reduceLT, loadA, rdCells, storeA, setAt, binA]
  · simp only [go_sem, ↓reduceIte, reduceCtorEq, Nat.reduceEqDiff, Nat.reduceAdd, Nat.reduceSub, Nat.reduceMul, Nat.reduceLeDiff, Nat.reduceLT, loadA, rdCells, storeA, setAt, binA]
  · simp only [go_sem, ↓reduceIte, reduceCtorEq, Nat.reduceEqDiff, Nat.reduceAdd, Nat.reduceSub, Nat.reduceMul, Nat.reduceLeDiff, Nat.reduceLT, loadA, rdCells, storeA, setAt, binA]; rfl
  · simp only [go_sem, ↓reduceIte, reduceCtorEq, Nat.reduceEqDiff, Nat.reduceAdd, Nat.reduceSub, Nat.reduceMul, Nat.reduceLeDiff, Nat.reduceLT, loadA, rdCells, storeA, setAt, binA]
  · simp only [go_sem, ↓reduceIte, reduceCtorEq, Nat.reduceEqDiff, Nat.reduceAdd, Nat.reduceSub, Nat.reduceMul, Nat.reduceLeDiff, Nat.reduceLT, loadA, rdCells, storeA, setAt, binA]; rfl
  · simp only [St.new, St.put]; omega
  · exact (((Keep.refl s).new' _).new' _).put' (by omega) _
end Go.Am.U2
