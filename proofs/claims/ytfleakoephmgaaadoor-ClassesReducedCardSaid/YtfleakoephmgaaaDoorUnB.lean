/- Types in the machine: variables, Contains, Free. Conditions: none. -/
import Derived.Test.YtfleakoephmgaaaDoorAmTu
import Derived.Test.YtfleakoephmgaaaDoorAmSq
import Derived.Test.YtfleakoephmgaaaDoorUnA
set_option linter.unusedSimpArgs false
set_option linter.unusedVariables false
namespace Go.Am.U1
open Go.Am.Un
set_option maxRecDepth 100000
set_option linter.unusedSimpArgs false
attribute [local go_sem] wseq COp.isStore wreg wdreg wret wskip wexit wblock wcnd cnd_t cnd_f then_n then_x then_r catch_n rnd_n rnd_x rnd_r catch_x catch_r wo_nil wo_grd grdO_t grdO_f wo_ops stpO wr_nil wr_alloc wr_guards grdR_t grdR_f wr_ops stpR evAllocs evOp env0_app eput_some eput_none eset_app Opd.ev wantedA faddrA snew_obj snew_size sput_obj sput_size av_cells av_one av_strip av_still unA eqbA fillA fldA lensA mmA mm2 mmFold List.getD_cons_zero List.getD_cons_succ List.getD_nil List.length_cons List.length_nil List.drop_zero List.drop_succ_cons List.take_succ_cons List.take_zero List.map_cons List.map_nil List.set_cons_zero List.set_cons_succ List.all_cons List.all_nil List.getElem?_cons_zero List.getElem?_cons_succ List.nil_append List.cons_append Nat.zero_add Nat.add_zero beq_self_eq_true bt bf Bool.not_true Bool.not_false Bool.and_true Bool.true_and Bool.and_false Bool.false_and and_self and_true true_and n0 n1 n2 n3 n4 m0 m1 m2 m3 c1 retA resAs resA undefA Option.map_some Option.map_none

/-- Nothing is told but what a type's normal form is. -/
def NoX (X : Ext) : Prop := ∀ f, f ≠ 24 → X f = none

theorem tycP : Plain tyc 4 where
  len := tyc_len
  one := fun t => by cases t; rw [tyc]; rfl
  still := fun t => by cases t; rw [tyc]; rfl
  strip := fun t => by cases t; rw [tyc]; rfl
def ic (x : Int) : List AV := [.int .i64 x]
theorem ic_len (x : Int) : (ic x).length = 1 := rfl
theorem icP : Plain ic 1 := ⟨ic_len, fun _ => rfl, fun _ => rfl, fun _ => rfl⟩

theorem isl_tycs (l : List Tm) : ISl tyc (.sl (tycs l) l.length false none) l := Or.inr ⟨false, none, by rw [tycs_flat]⟩
theorem wrapn {n : Nat} (h : n ≤ 4398046511104) : IntKind.i64.wrap ((n : Int) + 1) = ((n + 1 : Nat) : Int) := by rw [IntKind.wrap_i64]; omega
theorem drop_at {α : Type} {l : List α} {i : Nat} {x : α} (hx : l[i]? = some x) : l.drop i = x :: l.drop (i + 1) := by
  obtain ⟨hi, hl⟩ := List.getElem?_eq_some_iff.1 hx
  rw [List.drop_eq_getElem_cons hi, hl]

/-- A type's cells, whose arguments are this slice. -/
def tyw (t : Tm) (w : AV) : List AV := [.int .i64 (kof t), .str (nof t), .int .i64 (vof t), w]
theorem tyc_w (t : Tm) : tyc t = tyw t (.sl (tycs (lof t)) (lof t).length false none) := by cases t; rw [tyc]; rfl

variable {X : Ext}

theorem index_int (hX : NoX X) {v : AV} {l : List Int} (h : ISl ic v l) (hb : l.length ≤ 4398046511104) (x : Int) (s : St) :
    WC T X 70 [v, .int .i64 x] s (fun r s' => (∃ m : Int, r = .int .i64 m ∧ decide (m ≥ 0) = l.contains x) ∧ s' = s) := by
  refine WC_fn cf70 (hX 70 (by decide)) T70 (by simp [cf70]) ?_
  have hlen := h.len
  simp only [cf70, hlen, go_sem, ↓reduceIte, reduceCtorEq, Nat.reduceEqDiff, Nat.reduceAdd, Nat.reduceSub, Nat.reduceMul, Nat.reduceLeDiff, Nat.reduceLT, loadA, rdCells, storeA, setAt, binA]
  refine W_loop_nat (fun k e s1 => ∃ i, i + k = l.length ∧ e 0 = v ∧ e 1 = .int .i64 x ∧ e 7 = .int .i64 l.length ∧ e 8 = .int .i64 i ∧ l.contains x = (l.drop i).contains x ∧ s1 = s) ?_ l.length _ _ ⟨0, by simp, ?_⟩
  · rintro k e s1 ⟨i, hik, h0, h1, h7, h8, hf, rfl⟩
    by_cases hi : i < l.length
    · obtain ⟨y, hy⟩ : ∃ x, l[i]? = some x := ⟨_, List.getElem?_eq_getElem hi⟩
      have hd : decide ((i : Int) < (l.length : Int)) = true := by simp; omega
      simp only [cf70_l0, h0, h1, h7, h8, hd, h.at ic_len hy, ic, Nat.le_add_left, go_sem, ↓reduceIte, reduceCtorEq, Nat.reduceEqDiff, Nat.reduceAdd, Nat.reduceSub, Nat.reduceMul, Nat.reduceLeDiff, Nat.reduceLT, loadA, rdCells, storeA, setAt, binA]
      cases hp : (x == y) <;> simp only [h0, h1, h7, h8, wrapn (n := i) (by omega), go_sem, ↓reduceIte, reduceCtorEq, Nat.reduceEqDiff, Nat.reduceAdd, Nat.reduceSub, Nat.reduceMul, Nat.reduceLeDiff, Nat.reduceLT, loadA, rdCells, storeA, setAt, binA]
      · exact ⟨k - 1, by omega, i + 1, by omega, rfl, by rw [hf, drop_at hy, List.contains_cons, hp, Bool.false_or]⟩
      · exact ⟨by simp, _, rfl, (i : Int), rfl, by rw [hf, drop_at hy, List.contains_cons, hp, Bool.true_or]; simp⟩
    · have hd : decide ((i : Int) < (l.length : Int)) = false := by simp; omega
      simp only [cf70_l0, h0, h1, h7, h8, hd, go_sem, ↓reduceIte, reduceCtorEq, Nat.reduceEqDiff, Nat.reduceAdd, Nat.reduceSub, Nat.reduceMul, Nat.reduceLeDiff, Nat.reduceLT, loadA, rdCells, storeA, setAt, binA]
      exact ⟨by simp, _, rfl, -1, rfl, by rw [hf, List.drop_eq_nil_of_le (by omega)]; rfl⟩
  · simp only [go_sem, ↓reduceIte, reduceCtorEq, Nat.reduceEqDiff, Nat.reduceAdd, Nat.reduceSub, Nat.reduceMul, Nat.reduceLeDiff, Nat.reduceLT, loadA, rdCells, storeA, setAt, binA]; rfl

theorem contains_int (hX : NoX X) {v : AV} {l : List Int} (h : ISl ic v l) (hb : l.length ≤ 4398046511104) (x : Int) (s : St) :
    WC T X 49 [v, .int .i64 x] s (fun r s' => r = .bool (l.contains x) ∧ s' = s) := by
  refine WC_fn cf49 (hX 49 (by decide)) T49 (by simp [cf49]) ?_
  simp only [cf49, go_sem, ↓reduceIte, reduceCtorEq, Nat.reduceEqDiff, Nat.reduceAdd, Nat.reduceSub, Nat.reduceMul, Nat.reduceLeDiff, Nat.reduceLT, loadA, rdCells, storeA, setAt, binA]
  refine WO_callx [v, .int .i64 x] (by simp only [go_sem, ↓reduceIte, reduceCtorEq, Nat.reduceEqDiff, Nat.reduceAdd, Nat.reduceSub, Nat.reduceMul, Nat.reduceLeDiff, Nat.reduceLT, loadA, rdCells, storeA, setAt, binA]) ((index_int hX h hb x s).mono ?_)
  rintro r s2 ⟨⟨m, rfl, hm⟩, rfl⟩
  simp only [go_sem, ↓reduceIte, reduceCtorEq, Nat.reduceEqDiff, Nat.reduceAdd, Nat.reduceSub, Nat.reduceMul, Nat.reduceLeDiff, Nat.reduceLT, loadA, rdCells, storeA, setAt, binA]
  exact ⟨by simp, _, rfl, by rw [hm]⟩
end Go.Am.U1

/- A part of the proof of Go. Conditions: none. -/
namespace Go.Am.U1
open Go.Am.Un
set_option maxRecDepth 100000
set_option linter.unusedSimpArgs false
attribute [local go_sem] wseq COp.isStore wreg wdreg wret wskip wexit wblock wcnd cnd_t cnd_f then_n then_x then_r catch_n rnd_n rnd_x rnd_r catch_x catch_r wo_nil wo_grd grdO_t grdO_f wo_ops stpO wr_nil wr_alloc wr_guards grdR_t grdR_f wr_ops stpR evAllocs evOp env0_app eput_some eput_none eset_app Opd.ev wantedA faddrA snew_obj snew_size sput_obj sput_size av_cells av_one av_strip av_still unA eqbA fillA fldA lensA mmA mm2 mmFold List.getD_cons_zero List.getD_cons_succ List.getD_nil List.length_cons List.length_nil List.drop_zero List.drop_succ_cons List.take_succ_cons List.take_zero List.map_cons List.map_nil List.set_cons_zero List.set_cons_succ List.all_cons List.all_nil List.getElem?_cons_zero List.getElem?_cons_succ List.nil_append List.cons_append Nat.zero_add Nat.add_zero beq_self_eq_true bt bf Bool.not_true Bool.not_false Bool.and_true Bool.true_and Bool.and_false Bool.false_and and_self and_true true_and n0 n1 n2 n3 n4 m0 m1 m2 m3 c1 retA resAs resA undefA Option.map_some Option.map_none
variable {X : Ext}

theorem adds_len : ∀ (f out : List Int), (adds out f).length ≤ out.length + f.length
  | [], out => by rw [adds]; simp
  | v :: r, out => by
    rw [adds]
    have := adds_len r (if out.contains v then out else out ++ [v])
    have h2 : (if out.contains v then out else out ++ [v]).length ≤ out.length + 1 := by split <;> simp
    simp only [List.length_cons]
    omega
mutual
theorem fre_len : ∀ t : Tm, (fre t).length ≤ tsz t
  | .mk k n v l => by
    rw [fre, tsz]
    split
    · simp
    · have := fres_len l []
      simp only [List.length_nil] at this
      omega
theorem fres_len : ∀ (l : List Tm) (out : List Int), (fres out l).length ≤ out.length + tszs l
  | [], out => by rw [fres]; omega
  | a :: r, out => by
    rw [fres, tszs]
    have h1 := fres_len r (adds out (fre a))
    have h2 := adds_len (fre a) out
    have h3 := fre_len a
    omega
end

theorem tsz_pos (t : Tm) : 1 ≤ tsz t := by cases t; rw [tsz]; omega
theorem len_tszs : ∀ l : List Tm, l.length ≤ tszs l
  | [] => Nat.zero_le _
  | a :: r => by rw [tszs, List.length_cons]; have := len_tszs r; have := tsz_pos a; omega

set_option maxHeartbeats 2000000 in
theorem free_law (hX : NoX X) : ∀ (n : Nat) (t : Tm), tsz t ≤ n → n ≤ 1099511627776 → ∀ (w : AV) (s : St), ISl tyc w (lof t) →
    WC T X 20 [.agg (tyw t w)] s (fun v s' => ISl ic v (fre t) ∧ Keep s s') := by
  intro n
  induction n with
  | zero => intro t ht; cases t; rw [tsz] at ht; omega
  | succ n ih =>
    rintro ⟨k, nm, vv, l⟩ ht hn w s hw
    rw [tsz] at ht
    refine WC_fn cf20 (hX 20 (by decide)) T20 (by simp [cf20]) ?_
    simp only [lof] at hw
    have hll := len_tszs l
    have hlen := hw.len
    simp only [cf20, tyw, kof, nof, vof, lof, go_sem, ↓reduceIte, reduceCtorEq, Nat.reduceEqDiff, Nat.reduceAdd, Nat.reduceSub, Nat.reduceMul, Nat.reduceLeDiff, Nat.reduceLT, loadA, rdCells, storeA, setAt, binA]
    cases hk : (k == 0)
    · simp only [hlen, go_sem, ↓reduceIte, reduceCtorEq, Nat.reduceEqDiff, Nat.reduceAdd, Nat.reduceSub, Nat.reduceMul, Nat.reduceLeDiff, Nat.reduceLT, loadA, rdCells, storeA, setAt, binA]
      have hf : fre (.mk k nm vv l) = fres [] l := by rw [fre, if_neg (by simpa using hk)]
      rw [hf]
      refine W_loop_nat (fun kk e S => ∃ (i : Nat) (ov : AV) (cur : List Int) (tok : Option Nat), i + kk = l.length ∧ e 15 = w ∧ e 16 = .int .i64 l.length ∧ e 17 = .int .i64 i ∧ e 3 = ov ∧ Grw ic s.size S ov cur tok ∧ fres [] l = fres cur (l.drop i) ∧ Keep s S ∧ cur.length + tszs (l.drop i) ≤ tszs l) ?_ l.length _ _
        ⟨0, .nils, [], none, by simp, ?_, ?_, ?_, ?_, Or.inl ⟨rfl, rfl, rfl⟩, by simp, ?_, by simp⟩
      · rintro kk e S ⟨i, ov, cur, tok, hik, e15, e16, e17, e3, hg, hfr, hkp, hcl⟩
        by_cases hi : i < l.length
        · obtain ⟨a, ha⟩ : ∃ a, l[i]? = some a := ⟨_, List.getElem?_eq_getElem hi⟩
          have hd : decide ((i : Int) < (l.length : Int)) = true := by simp; omega
          have hts : tszs (l.drop i) = tsz a + tszs (l.drop (i + 1)) := by rw [drop_at ha, tszs]
          have hfd : fres cur (l.drop i) = fres (adds cur (fre a)) (l.drop (i + 1)) := by rw [drop_at ha, fres]
          have hat := hw.at tyc_len ha
          rw [tyc_w, tyw] at hat
          have hca := fun S1 => ih a (by have := tsz_at ha; omega) (by omega) _ S1 (isl_tycs (lof a))
          simp only [tyw] at hca
          simp only [cf20_l1, e15, e16, e17, e3, hd, hat, Nat.le_add_left, go_sem, ↓reduceIte, reduceCtorEq, Nat.reduceEqDiff, Nat.reduceAdd, Nat.reduceSub, Nat.reduceMul, Nat.reduceLeDiff, Nat.reduceLT, loadA, rdCells, storeA, setAt, binA]
          refine WO_callx _ rfl ((hca _).mono ?_)
          rintro fv S2 ⟨hfv, hk2⟩
          simp only [e15, e16, e17, e3, hfv.len, go_sem, ↓reduceIte, reduceCtorEq, Nat.reduceEqDiff, Nat.reduceAdd, Nat.reduceSub, Nat.reduceMul, Nat.reduceLeDiff, Nat.reduceLT, loadA, rdCells, storeA, setAt, binA]
          have hk02 : Keep s S2 := (hkp.trans (((Keep.refl S).new' _).put' (Nat.le_refl _) _)).trans hk2
          have hg2 : Grw ic s.size S2 ov cur tok := hg.keep (Nat.le_trans (by simp [St.new, St.put]) hk2.1) (fun kk hkk => by
            rcases hg with ⟨-, -, h⟩ | ⟨k2, h, -, -, -, h5, -⟩
            · rw [h] at hkk; cases hkk
            · rw [h] at hkk; cases hkk
              rw [hk2.2 kk (by simp [St.new, St.put]; omega), put_ne (by omega), new_ne (by omega)])
          have hfl := fre_len a
          have hta := tsz_at ha
          refine W_loop_nat (fun kk e S => ∃ (j : Nat) (ov : AV) (cur : List Int) (tok : Option Nat), j + kk = (fre a).length ∧ e 15 = w ∧ e 16 = .int .i64 l.length ∧ e 17 = .int .i64 i ∧ e 22 = fv ∧ e 23 = .int .i64 (fre a).length ∧ e 24 = .int .i64 j ∧ e 3 = ov ∧ Grw ic s.size S ov cur tok ∧ fres [] l = fres (adds cur ((fre a).drop j)) (l.drop (i + 1)) ∧ Keep s S ∧ cur.length + ((fre a).drop j).length + tszs (l.drop (i + 1)) ≤ tszs l) ?_ (fre a).length _ _
            ⟨0, ov, cur, tok, by simp, ?_, ?_, ?_, ?_, ?_, ?_, ?_, hg2, ?_, hk02, ?_⟩
          · clear hcl hfr hg hg2 hk02 hk2 hkp e15 e16 e17 e3 hca
            rintro k2 e S ⟨j, ov, cur, tok, hjk, e15, e16, e17, e22, e23, e24, e3, hg, hfr, hkp, hcl⟩
            by_cases hj : j < (fre a).length
            · obtain ⟨x, hx⟩ : ∃ x, (fre a)[j]? = some x := ⟨_, List.getElem?_eq_getElem hj⟩
              have hdj : decide ((j : Int) < ((fre a).length : Int)) = true := by simp; omega
              have hdx := drop_at hx
              rw [hdx, adds] at hfr
              rw [hdx, List.length_cons] at hcl
              simp only [cf20_l0, e22, e23, e24, e3, hdj, hfv.at ic_len hx, ic, Nat.le_add_left, go_sem, ↓reduceIte, reduceCtorEq, Nat.reduceEqDiff, Nat.reduceAdd, Nat.reduceSub, Nat.reduceMul, Nat.reduceLeDiff, Nat.reduceLT, loadA, rdCells, storeA, setAt, binA]
              refine WO_callx [ov, .int .i64 x] (by simp only [go_sem, ↓reduceIte, reduceCtorEq, Nat.reduceEqDiff, Nat.reduceAdd, Nat.reduceSub, Nat.reduceMul, Nat.reduceLeDiff, Nat.reduceLT, loadA, rdCells, storeA, setAt, binA]) ((contains_int hX hg.isl (by omega) x S).mono ?_)
              rintro r S3 ⟨rfl, hS3⟩
              subst hS3
              cases hc : cur.contains x
              · obtain ⟨v', S4, hap, hg4, hz4, hk4⟩ := hg.app icP (by exact hkp.1) x (bytes := 8) (by omega)
                simp only [ic] at hap
                rw [hc, if_neg (by simp)] at hfr
                have hkk : Keep s S4 := ⟨by have := hkp.1; omega, fun q hq => by
                  rw [hk4 q (Nat.lt_of_lt_of_le hq hkp.1) (fun h => by
                    rcases hg with ⟨-, -, h0⟩ | ⟨k3, h0, -, -, -, -, h6⟩
                    · rw [h0] at h; cases h
                    · rw [h0] at h; cases h; omega)]
                  exact hkp.2 q hq⟩
                simp only [hc, e15, e16, e17, e22, e23, e24, e3, hap, wrapn (n := j) (by omega), go_sem, ↓reduceIte, reduceCtorEq, Nat.reduceEqDiff, Nat.reduceAdd, Nat.reduceSub, Nat.reduceMul, Nat.reduceLeDiff, Nat.reduceLT, loadA, rdCells, storeA, setAt, binA]
                exact ⟨k2 - 1, by omega, j + 1, v', _, _, by omega, rfl, rfl, hg4, hfr, hkk, by simp only [List.length_append, List.length_cons, List.length_nil]; omega⟩
              · rw [hc, if_pos rfl] at hfr
                simp only [hc, e15, e16, e17, e22, e23, e24, e3, wrapn (n := j) (by omega), go_sem, ↓reduceIte, reduceCtorEq, Nat.reduceEqDiff, Nat.reduceAdd, Nat.reduceSub, Nat.reduceMul, Nat.reduceLeDiff, Nat.reduceLT, loadA, rdCells, storeA, setAt, binA]
                exact ⟨k2 - 1, by omega, j + 1, ov, cur, tok, by omega, rfl, rfl, hg, hfr, hkp, by omega⟩
            · have hdj : decide ((j : Int) < ((fre a).length : Int)) = false := by simp; omega
              have hd0 : (fre a).drop j = [] := List.drop_eq_nil_of_le (by omega)
              rw [hd0, adds] at hfr
              rw [hd0] at hcl
              simp only [cf20_l0, e15, e16, e17, e22, e23, e24, e3, hdj, wrapn (n := i) (by omega), go_sem, ↓reduceIte, reduceCtorEq, Nat.reduceEqDiff, Nat.reduceAdd, Nat.reduceSub, Nat.reduceMul, Nat.reduceLeDiff, Nat.reduceLT, loadA, rdCells, storeA, setAt, binA]
              exact ⟨kk - 1, by omega, i + 1, ov, cur, tok, by omega, rfl, rfl, hg, hfr, hkp, by simpa using hcl⟩
          · simp only [e15, go_sem, ↓reduceIte, reduceCtorEq, Nat.reduceEqDiff, Nat.reduceAdd, Nat.reduceSub, Nat.reduceMul, Nat.reduceLeDiff, Nat.reduceLT, loadA, rdCells, storeA, setAt, binA]
          · simp only [e16, go_sem, ↓reduceIte, reduceCtorEq, Nat.reduceEqDiff, Nat.reduceAdd, Nat.reduceSub, Nat.reduceMul, Nat.reduceLeDiff, Nat.reduceLT, loadA, rdCells, storeA, setAt, binA]
          · simp only [e17, go_sem, ↓reduceIte, reduceCtorEq, Nat.reduceEqDiff, Nat.reduceAdd, Nat.reduceSub, Nat.reduceMul, Nat.reduceLeDiff, Nat.reduceLT, loadA, rdCells, storeA, setAt, binA]
          · simp only [go_sem, ↓reduceIte, reduceCtorEq, Nat.reduceEqDiff, Nat.reduceAdd, Nat.reduceSub, Nat.reduceMul, Nat.reduceLeDiff, Nat.reduceLT, loadA, rdCells, storeA, setAt, binA]
          · simp only [go_sem, ↓reduceIte, reduceCtorEq, Nat.reduceEqDiff, Nat.reduceAdd, Nat.reduceSub, Nat.reduceMul, Nat.reduceLeDiff, Nat.reduceLT, loadA, rdCells, storeA, setAt, binA]
          · simp only [go_sem, ↓reduceIte, reduceCtorEq, Nat.reduceEqDiff, Nat.reduceAdd, Nat.reduceSub, Nat.reduceMul, Nat.reduceLeDiff, Nat.reduceLT, loadA, rdCells, storeA, setAt, binA]; rfl
          · simp only [e3, go_sem, ↓reduceIte, reduceCtorEq, Nat.reduceEqDiff, Nat.reduceAdd, Nat.reduceSub, Nat.reduceMul, Nat.reduceLeDiff, Nat.reduceLT, loadA, rdCells, storeA, setAt, binA]
          · simpa using hfr.trans hfd
          · simp only [List.drop_zero]; omega
        · have hd : decide ((i : Int) < (l.length : Int)) = false := by simp; omega
          have hd0 : l.drop i = [] := List.drop_eq_nil_of_le (by omega)
          rw [hd0, fres] at hfr
          simp only [cf20_l1, e15, e16, e17, e3, hd, go_sem, ↓reduceIte, reduceCtorEq, Nat.reduceEqDiff, Nat.reduceAdd, Nat.reduceSub, Nat.reduceMul, Nat.reduceLeDiff, Nat.reduceLT, loadA, rdCells, storeA, setAt, binA]
          exact ⟨by simp, _, rfl, by rw [hfr]; exact hg.isl, hkp⟩
      · simp only [go_sem, ↓reduceIte, reduceCtorEq, Nat.reduceEqDiff, Nat.reduceAdd, Nat.reduceSub, Nat.reduceMul, Nat.reduceLeDiff, Nat.reduceLT, loadA, rdCells, storeA, setAt, binA]
      · simp only [go_sem, ↓reduceIte, reduceCtorEq, Nat.reduceEqDiff, Nat.reduceAdd, Nat.reduceSub, Nat.reduceMul, Nat.reduceLeDiff, Nat.reduceLT, loadA, rdCells, storeA, setAt, binA]
      · simp only [go_sem, ↓reduceIte, reduceCtorEq, Nat.reduceEqDiff, Nat.reduceAdd, Nat.reduceSub, Nat.reduceMul, Nat.reduceLeDiff, Nat.reduceLT, loadA, rdCells, storeA, setAt, binA]; rfl
      · simp only [go_sem, ↓reduceIte, reduceCtorEq, Nat.reduceEqDiff, Nat.reduceAdd, Nat.reduceSub, Nat.reduceMul, Nat.reduceLeDiff, Nat.reduceLT, loadA, rdCells, storeA, setAt, binA]
      · exact (Keep.refl s).new' _
    · have hf : fre (.mk k nm vv l) = [vv] := by rw [fre, if_pos (by simpa using hk)]
      rw [hf]
      simp only [go_sem, ↓reduceIte, reduceCtorEq, Nat.reduceEqDiff, Nat.reduceAdd, Nat.reduceSub, Nat.reduceMul, Nat.reduceLeDiff, Nat.reduceLT, loadA, rdCells, storeA, setAt, binA]
      exact ⟨by simp, _, rfl, Or.inr ⟨true, none, rfl⟩, (Keep.refl s).new' _⟩
end Go.Am.U1

/- A part of the proof of Go. Conditions: none. -/
namespace Go.Am.U1
open Go.Am.Un
set_option maxRecDepth 100000
set_option linter.unusedSimpArgs false
attribute [local go_sem] wseq COp.isStore wreg wdreg wret wskip wexit wblock wcnd cnd_t cnd_f then_n then_x then_r catch_n rnd_n rnd_x rnd_r catch_x catch_r wo_nil wo_grd grdO_t grdO_f wo_ops stpO wr_nil wr_alloc wr_guards grdR_t grdR_f wr_ops stpR evAllocs evOp env0_app eput_some eput_none eset_app Opd.ev wantedA faddrA snew_obj snew_size sput_obj sput_size av_cells av_one av_strip av_still unA eqbA fillA fldA lensA mmA mm2 mmFold List.getD_cons_zero List.getD_cons_succ List.getD_nil List.length_cons List.length_nil List.drop_zero List.drop_succ_cons List.take_succ_cons List.take_zero List.map_cons List.map_nil List.set_cons_zero List.set_cons_succ List.all_cons List.all_nil List.getElem?_cons_zero List.getElem?_cons_succ List.nil_append List.cons_append Nat.zero_add Nat.add_zero beq_self_eq_true bt bf Bool.not_true Bool.not_false Bool.and_true Bool.true_and Bool.and_false Bool.false_and and_self and_true true_and n0 n1 n2 n3 n4 m0 m1 m2 m3 c1 retA resAs resA undefA Option.map_some Option.map_none
variable {X : Ext}

theorem index_fi (hX : NoX X) {v : AV} {l : List Int} (h : ISl ic v l) (hb : l.length ≤ 4398046511104) (g : Nat) (cap : List AV) (p : Int → Bool) (s : St)
    (hg : ∀ x s1, x ∈ l → Keep s s1 → WC T X g (.int .i64 x :: cap) s1 (fun v s2 => v = .bool (p x) ∧ Keep s1 s2)) :
    WC T X 48 [v, .func g cap] s (fun v s' => (∃ m : Int, v = .int .i64 m ∧ decide (m ≥ 0) = l.any p) ∧ Keep s s') := by
  refine WC_fn cf48 (hX 48 (by decide)) T48 (by simp [cf48]) ?_
  have hlen := h.len
  simp only [cf48, hlen, go_sem, ↓reduceIte, reduceCtorEq, Nat.reduceEqDiff, Nat.reduceAdd, Nat.reduceSub, Nat.reduceMul, Nat.reduceLeDiff, Nat.reduceLT, loadA, rdCells, storeA, setAt, binA]
  refine W_loop_nat (fun k e s1 => ∃ i, i + k = l.length ∧ e 0 = v ∧ e 1 = .func g cap ∧ e 7 = .int .i64 l.length ∧ e 8 = .int .i64 i ∧ l.any p = (l.drop i).any p ∧ Keep s s1) ?_ l.length _ _ ⟨0, by simp, ?_⟩
  · rintro k e s1 ⟨i, hik, h0, h1, h7, h8, hf, hk⟩
    by_cases hi : i < l.length
    · obtain ⟨x, hx⟩ : ∃ x, l[i]? = some x := ⟨_, List.getElem?_eq_getElem hi⟩
      have hd : decide ((i : Int) < (l.length : Int)) = true := by simp; omega
      simp only [cf48_l0, h0, h1, h7, h8, hd, h.at ic_len hx, ic, Nat.le_add_left, go_sem, ↓reduceIte, reduceCtorEq, Nat.reduceEqDiff, Nat.reduceAdd, Nat.reduceSub, Nat.reduceMul, Nat.reduceLeDiff, Nat.reduceLT, loadA, rdCells, storeA, setAt, binA]
      refine WO_callvx g cap (.int .i64 x :: cap) (by simp only [h0, h1, go_sem, ↓reduceIte, reduceCtorEq, Nat.reduceEqDiff, Nat.reduceAdd, Nat.reduceSub, Nat.reduceMul, Nat.reduceLeDiff, Nat.reduceLT, loadA, rdCells, storeA, setAt, binA]) (by simp only [go_sem, ↓reduceIte, reduceCtorEq, Nat.reduceEqDiff, Nat.reduceAdd, Nat.reduceSub, Nat.reduceMul, Nat.reduceLeDiff, Nat.reduceLT, loadA, rdCells, storeA, setAt, binA]) ((hg x s1 (List.mem_of_getElem? hx) hk).mono ?_)
      rintro w s2 ⟨rfl, hk2⟩
      cases hp : p x <;> simp only [h0, h1, h7, h8, wrapn (n := i) (by omega), go_sem, ↓reduceIte, reduceCtorEq, Nat.reduceEqDiff, Nat.reduceAdd, Nat.reduceSub, Nat.reduceMul, Nat.reduceLeDiff, Nat.reduceLT, loadA, rdCells, storeA, setAt, binA]
      · exact ⟨k - 1, by omega, i + 1, by omega, rfl, by rw [hf, drop_at hx, List.any_cons, hp, Bool.false_or], hk.trans hk2⟩
      · exact ⟨by simp, _, rfl, ⟨(i : Int), rfl, by rw [hf, drop_at hx, List.any_cons, hp, Bool.true_or]; simp⟩, hk.trans hk2⟩
    · have hd : decide ((i : Int) < (l.length : Int)) = false := by simp; omega
      simp only [cf48_l0, h0, h1, h7, h8, hd, go_sem, ↓reduceIte, reduceCtorEq, Nat.reduceEqDiff, Nat.reduceAdd, Nat.reduceSub, Nat.reduceMul, Nat.reduceLeDiff, Nat.reduceLT, loadA, rdCells, storeA, setAt, binA]
      exact ⟨by simp, _, rfl, ⟨-1, rfl, by rw [hf, List.drop_eq_nil_of_le (by omega)]; rfl⟩, hk⟩
  · simp only [go_sem, ↓reduceIte, reduceCtorEq, Nat.reduceEqDiff, Nat.reduceAdd, Nat.reduceSub, Nat.reduceMul, Nat.reduceLeDiff, Nat.reduceLT, loadA, rdCells, storeA, setAt, binA]
    exact ⟨rfl, Keep.refl s⟩

theorem contains_fi (hX : NoX X) {v : AV} {l : List Int} (h : ISl ic v l) (hb : l.length ≤ 4398046511104) (g : Nat) (cap : List AV) (p : Int → Bool) (s : St)
    (hg : ∀ x s1, x ∈ l → Keep s s1 → WC T X g (.int .i64 x :: cap) s1 (fun v s2 => v = .bool (p x) ∧ Keep s1 s2)) :
    WC T X 19 [v, .func g cap] s (fun v s' => v = .bool (l.any p) ∧ Keep s s') := by
  refine WC_fn cf19 (hX 19 (by decide)) T19 (by simp [cf19]) ?_
  simp only [cf19, go_sem, ↓reduceIte, reduceCtorEq, Nat.reduceEqDiff, Nat.reduceAdd, Nat.reduceSub, Nat.reduceMul, Nat.reduceLeDiff, Nat.reduceLT, loadA, rdCells, storeA, setAt, binA]
  refine WO_callx [v, .func g cap] (by simp only [go_sem, ↓reduceIte, reduceCtorEq, Nat.reduceEqDiff, Nat.reduceAdd, Nat.reduceSub, Nat.reduceMul, Nat.reduceLeDiff, Nat.reduceLT, loadA, rdCells, storeA, setAt, binA]) ((index_fi hX h hb g cap p s hg).mono ?_)
  rintro w s2 ⟨⟨m, rfl, hm⟩, hk⟩
  simp only [go_sem, ↓reduceIte, reduceCtorEq, Nat.reduceEqDiff, Nat.reduceAdd, Nat.reduceSub, Nat.reduceMul, Nat.reduceLeDiff, Nat.reduceLT, loadA, rdCells, storeA, setAt, binA]
  exact ⟨by simp, _, rfl, by rw [hm], hk⟩

/-- A type of a list, at a function. -/
theorem index_ft (hX : NoX X) {v : AV} {l : List Tm} (h : ISl tyc v l) (hb : l.length ≤ 4398046511104) (g : Nat) (cap : List AV) (p : Tm → Bool) (I : St → Prop) (s : St) (hI : I s)
    (hg : ∀ (i : Nat) x s1, l[i]? = some x → (l.take i).any p = false → I s1 → WC T X g (.agg (tyc x) :: cap) s1 (fun v s2 => v = .bool (p x) ∧ I s2)) :
    WC T X 75 [v, .func g cap] s (fun v s' => (∃ m : Int, v = .int .i64 m ∧ decide (m ≥ 0) = l.any p) ∧ I s') := by
  refine WC_fn cf75 (hX 75 (by decide)) T75 (by simp [cf75]) ?_
  have hlen := h.len
  simp only [cf75, hlen, go_sem, ↓reduceIte, reduceCtorEq, Nat.reduceEqDiff, Nat.reduceAdd, Nat.reduceSub, Nat.reduceMul, Nat.reduceLeDiff, Nat.reduceLT, loadA, rdCells, storeA, setAt, binA]
  refine W_loop_nat (fun k e s1 => ∃ i, i + k = l.length ∧ e 0 = v ∧ e 1 = .func g cap ∧ e 7 = .int .i64 l.length ∧ e 8 = .int .i64 i ∧ l.any p = (l.drop i).any p ∧ (l.take i).any p = false ∧ I s1) ?_ l.length _ _ ⟨0, by simp, ?_⟩
  · rintro k e s1 ⟨i, hik, h0, h1, h7, h8, hf, hft, hk⟩
    by_cases hi : i < l.length
    · obtain ⟨x, hx⟩ : ∃ x, l[i]? = some x := ⟨_, List.getElem?_eq_getElem hi⟩
      have hd : decide ((i : Int) < (l.length : Int)) = true := by simp; omega
      have hat := h.at tyc_len hx
      have hgx := hg i x s1 hx hft hk
      rw [tyc_w, tyw] at hat hgx
      simp only [cf75_l0, h0, h1, h7, h8, hd, hat, Nat.le_add_left, go_sem, ↓reduceIte, reduceCtorEq, Nat.reduceEqDiff, Nat.reduceAdd, Nat.reduceSub, Nat.reduceMul, Nat.reduceLeDiff, Nat.reduceLT, loadA, rdCells, storeA, setAt, binA]
      refine WO_callvx g cap _ (by simp only [h0, h1, go_sem, ↓reduceIte, reduceCtorEq, Nat.reduceEqDiff, Nat.reduceAdd, Nat.reduceSub, Nat.reduceMul, Nat.reduceLeDiff, Nat.reduceLT, loadA, rdCells, storeA, setAt, binA]) rfl ((by simpa only [go_sem, ↓reduceIte, reduceCtorEq, Nat.reduceEqDiff, Nat.reduceAdd, Nat.reduceSub, Nat.reduceMul, Nat.reduceLeDiff, Nat.reduceLT, loadA, rdCells, storeA, setAt, binA] using hgx : WC T X g _ s1 _).mono ?_)
      rintro w s2 ⟨rfl, hk2⟩
      cases hp : p x <;> simp only [h0, h1, h7, h8, wrapn (n := i) (by omega), go_sem, ↓reduceIte, reduceCtorEq, Nat.reduceEqDiff, Nat.reduceAdd, Nat.reduceSub, Nat.reduceMul, Nat.reduceLeDiff, Nat.reduceLT, loadA, rdCells, storeA, setAt, binA]
      · exact ⟨k - 1, by omega, i + 1, by omega, rfl, by rw [hf, drop_at hx, List.any_cons, hp, Bool.false_or], by rw [List.take_add_one, hx]; simp only [Option.toList_some, List.any_append, hft, List.any_cons, List.any_nil, hp]; rfl, hk2⟩
      · exact ⟨by simp, _, rfl, ⟨(i : Int), rfl, by rw [hf, drop_at hx, List.any_cons, hp, Bool.true_or]; simp⟩, hk2⟩
    · have hd : decide ((i : Int) < (l.length : Int)) = false := by simp; omega
      simp only [cf75_l0, h0, h1, h7, h8, hd, go_sem, ↓reduceIte, reduceCtorEq, Nat.reduceEqDiff, Nat.reduceAdd, Nat.reduceSub, Nat.reduceMul, Nat.reduceLeDiff, Nat.reduceLT, loadA, rdCells, storeA, setAt, binA]
      exact ⟨by simp, _, rfl, ⟨-1, rfl, by rw [hf, List.drop_eq_nil_of_le (by omega)]; rfl⟩, hk⟩
  · simp only [go_sem, ↓reduceIte, reduceCtorEq, Nat.reduceEqDiff, Nat.reduceAdd, Nat.reduceSub, Nat.reduceMul, Nat.reduceLeDiff, Nat.reduceLT, loadA, rdCells, storeA, setAt, binA]
    exact ⟨rfl, by simp, hI⟩

theorem contains_ft (hX : NoX X) {v : AV} {l : List Tm} (h : ISl tyc v l) (hb : l.length ≤ 4398046511104) (g : Nat) (cap : List AV) (p : Tm → Bool) (I : St → Prop) (s : St) (hI : I s)
    (hg : ∀ (i : Nat) x s1, l[i]? = some x → (l.take i).any p = false → I s1 → WC T X g (.agg (tyc x) :: cap) s1 (fun v s2 => v = .bool (p x) ∧ I s2)) :
    WC T X 55 [v, .func g cap] s (fun v s' => v = .bool (l.any p) ∧ I s') := by
  refine WC_fn cf55 (hX 55 (by decide)) T55 (by simp [cf55]) ?_
  simp only [cf55, go_sem, ↓reduceIte, reduceCtorEq, Nat.reduceEqDiff, Nat.reduceAdd, Nat.reduceSub, Nat.reduceMul, Nat.reduceLeDiff, Nat.reduceLT, loadA, rdCells, storeA, setAt, binA]
  refine WO_callx [v, .func g cap] (by simp only [go_sem, ↓reduceIte, reduceCtorEq, Nat.reduceEqDiff, Nat.reduceAdd, Nat.reduceSub, Nat.reduceMul, Nat.reduceLeDiff, Nat.reduceLT, loadA, rdCells, storeA, setAt, binA]) ((index_ft hX h hb g cap p I s hI hg).mono ?_)
  rintro w s2 ⟨⟨m, rfl, hm⟩, hk⟩
  simp only [go_sem, ↓reduceIte, reduceCtorEq, Nat.reduceEqDiff, Nat.reduceAdd, Nat.reduceSub, Nat.reduceMul, Nat.reduceLeDiff, Nat.reduceLT, loadA, rdCells, storeA, setAt, binA]
  exact ⟨by simp, _, rfl, by rw [hm], hk⟩
end Go.Am.U1
