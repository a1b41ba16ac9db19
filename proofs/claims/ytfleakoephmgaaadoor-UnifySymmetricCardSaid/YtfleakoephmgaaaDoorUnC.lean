/- A part of the proof of unifySymmetric. Conditions: none. -/
import Derived.Test.YtfleakoephmgaaaDoorAmWa
set_option linter.unusedSimpArgs false
set_option linter.unusedVariables false
namespace Go.Am.U1
open Go.Am.Un
set_option maxRecDepth 100000
set_option linter.unusedSimpArgs false
attribute [local go_sem] wseq COp.isStore wreg wdreg wret wskip wexit wblock wcnd cnd_t cnd_f then_n then_x then_r catch_n rnd_n rnd_x rnd_r catch_x catch_r wo_nil wo_grd grdO_t grdO_f wo_ops stpO wr_nil wr_alloc wr_guards grdR_t grdR_f wr_ops stpR evAllocs evOp env0_app eput_some eput_none eset_app Opd.ev wantedA faddrA snew_obj snew_size sput_obj sput_size av_cells av_one av_strip av_still unA eqbA fillA fldA lensA mmA mm2 mmFold List.getD_cons_zero List.getD_cons_succ List.getD_nil List.length_cons List.length_nil List.drop_zero List.drop_succ_cons List.take_succ_cons List.take_zero List.map_cons List.map_nil List.set_cons_zero List.set_cons_succ List.all_cons List.all_nil List.getElem?_cons_zero List.getElem?_cons_succ List.nil_append List.cons_append Nat.zero_add Nat.add_zero beq_self_eq_true bt bf Bool.not_true Bool.not_false Bool.and_true Bool.true_and Bool.and_false Bool.false_and and_self and_true true_and n0 n1 n2 n3 n4 m0 m1 m2 m3 c1 retA resAs resA undefA Option.map_some Option.map_none
variable {X : Ext}

theorem adds_len : ∀ (f out : List Int), (adds out f).length ≤ out.length + f.length
  | [], out => by rw [adds]; simp
  | v :: r, out => by
    rw [adds]
    have := adds_len r (if out.contains v then out else out ++ [v])
    have h2 : (if out.contains v then out else out ++ [v]).length ≤ out.length + 1 := by split <;> simp
    simp only [List.length_cons]
    omega
mutual
theorem fre_len : ∀ t : Tm, (fre t).length ≤ tsz t
  | .mk k n v l => by
    rw [fre, tsz]
    split
    · simp
    · have := fres_len l []
      simp only [List.length_nil] at this
      omega
theorem fres_len : ∀ (l : List Tm) (out : List Int), (fres out l).length ≤ out.length + tszs l
  | [], out => by rw [fres]; omega
  | a :: r, out => by
    rw [fres, tszs]
    have h1 := fres_len r (adds out (fre a))
    have h2 := adds_len (fre a) out
    have h3 := fre_len a
    omega
end

theorem tsz_pos (t : Tm) : 1 ≤ tsz t := by cases t; rw [tsz]; omega
theorem len_tszs : ∀ l : List Tm, l.length ≤ tszs l
  | [] => Nat.zero_le _
  | a :: r => by rw [tszs, List.length_cons]; have := len_tszs r; have := tsz_pos a; omega

set_option maxHeartbeats 2000000 in
theorem free_law (hX : NoX X) : ∀ (n : Nat) (t : Tm), tsz t ≤ n → n ≤ 1099511627776 → ∀ (w : AV) (s : St), ISl tyc w (lof t) →
    WC T X 20 [.agg (tyw t w)] s (fun v s' => ISl ic v (fre t) ∧ Keep s s') := by
  intro n
  induction n with
  | zero => intro t ht; cases t; rw [tsz] at ht; omega
  | succ n ih =>
    rintro ⟨k, nm, vv, l⟩ ht hn w s hw
    rw [tsz] at ht
    refine WC_fn cf20 (hX 20 (by decide)) T20 (by simp [cf20]) ?_
    simp only [lof] at hw
    have hll := len_tszs l
    have hlen := hw.len
    simp only [cf20, tyw, kof, nof, vof, lof, go_sem, ↓reduceIte, reduceCtorEq, Nat.reduceEqDiff, Nat.reduceAdd, Nat.reduceSub, Nat.reduceMul, Nat.reduceLeDiff, Nat.reduceLT, loadA, rdCells, storeA, setAt, binA]
    cases hk : (k == 0)
    · simp only [hlen, go_sem, ↓reduceIte, reduceCtorEq, Nat.reduceEqDiff, Nat.reduceAdd, Nat.reduceSub, Nat.reduceMul, Nat.reduceLeDiff, Nat.reduceLT, loadA, rdCells, storeA, setAt, binA]
      have hf : fre (.mk k nm vv l) = fres [] l := by rw [fre, if_neg (by simpa using hk)]
      rw [hf]
      refine W_loop_nat (fun kk e S => ∃ (i : Nat) (ov : AV) (cur : List Int) (tok : Option Nat), i + kk = l.length ∧ e 15 = w ∧ e 16 = .int .i64 l.length ∧ e 17 = .int .i64 i ∧ e 3 = ov ∧ Grw ic s.size S ov cur tok ∧ fres [] l = fres cur (l.drop i) ∧ Keep s S ∧ cur.length + tszs (l.drop i) ≤ tszs l) ?_ l.length _ _
        ⟨0, .nils, [], none, by simp, ?_, ?_, ?_, ?_, Or.inl ⟨rfl, rfl, rfl⟩, by simp, ?_, by simp⟩
      · rintro kk e S ⟨i, ov, cur, tok, hik, e15, e16, e17, e3, hg, hfr, hkp, hcl⟩
        by_cases hi : i < l.length
        · obtain ⟨a, ha⟩ : ∃ a, l[i]? = some a := ⟨_, List.getElem?_eq_getElem hi⟩
          have hd : decide ((i : Int) < (l.length : Int)) = true := by simp; omega
          have hts : tszs (l.drop i) = tsz a + tszs (l.drop (i + 1)) := by rw [drop_at ha, tszs]
          have hfd : fres cur (l.drop i) = fres (adds cur (fre a)) (l.drop (i + 1)) := by rw [drop_at ha, fres]
          have hat := hw.at tyc_len ha
          rw [tyc_w, tyw] at hat
          have hca := fun S1 => ih a (by have := tsz_at ha; omega) (by omega) _ S1 (isl_tycs (lof a))
          simp only [tyw] at hca
          simp only [cf20_l1, e15, e16, e17, e3, hd, hat, Nat.le_add_left, go_sem, ↓reduceIte, reduceCtorEq, Nat.reduceEqDiff, Nat.reduceAdd, Nat.reduceSub, Nat.reduceMul, Nat.reduceLeDiff, Nat.reduceLT, loadA, rdCells, storeA, setAt, binA]
          refine WO_callx _ rfl ((hca _).mono ?_)
          rintro fv S2 ⟨hfv, hk2⟩
          simp only [e15, e16, e17, e3, hfv.len, go_sem, ↓reduceIte, reduceCtorEq, Nat.reduceEqDiff, Nat.reduceAdd, Nat.reduceSub, Nat.reduceMul, Nat.reduceLeDiff, Nat.reduceLT, loadA, rdCells, storeA, setAt, binA]
          have hk02 : Keep s S2 := (hkp.trans (((Keep.refl S).new' _).put' (Nat.le_refl _) _)).trans hk2
          have hg2 : Grw ic s.size S2 ov cur tok := hg.keep (Nat.le_trans (by simp [St.new, St.put]) hk2.1) (fun kk hkk => by
            rcases hg with ⟨-, -, h⟩ | ⟨k2, h, -, -, -, h5, -⟩
            · rw [h] at hkk; cases hkk
            · rw [h] at hkk; cases hkk
              rw [hk2.2 kk (by simp [St.new, St.put]; omega), put_ne (by omega), new_ne (by omega)])
          have hfl := fre_len a
          have hta := tsz_at ha
          refine W_loop_nat (fun kk e S => ∃ (j : Nat) (ov : AV) (cur : List Int) (tok : Option Nat), j + kk = (fre a).length ∧ e 15 = w ∧ e 16 = .int .i64 l.length ∧ e 17 = .int .i64 i ∧ e 22 = fv ∧ e 23 = .int .i64 (fre a).length ∧ e 24 = .int .i64 j ∧ e 3 = ov ∧ Grw ic s.size S ov cur tok ∧ fres [] l = fres (adds cur ((fre a).drop j)) (l.drop (i + 1)) ∧ Keep s S ∧ cur.length + ((fre a).drop j).length + tszs (l.drop (i + 1)) ≤ tszs l) ?_ (fre a).length _ _
            ⟨0, ov, cur, tok, by simp, ?_, ?_, ?_, ?_, ?_, ?_, ?_, hg2, ?_, hk02, ?_⟩
          · clear hcl hfr hg hg2 hk02 hk2 hkp e15 e16 e17 e3 hca
            rintro k2 e S ⟨j, ov, cur, tok, hjk, e15, e16, e17, e22, e23, e24, e3, hg, hfr, hkp, hcl⟩
            by_cases hj : j < (fre a).length
            · obtain ⟨x, hx⟩ : ∃ x, (fre a)[j]? = some x := ⟨_, List.getElem?_eq_getElem hj⟩
              have hdj : decide ((j : Int) < ((fre a).length : Int)) = true := by simp; omega
              have hdx := drop_at hx
              rw [hdx, adds] at hfr
              rw [hdx, List.length_cons] at hcl
              simp only [cf20_l0, e22, e23, e24, e3, hdj, hfv.at ic_len hx, ic, Nat.le_add_left, go_sem, ↓reduceIte, reduceCtorEq, Nat.reduceEqDiff, Nat.reduceAdd, Nat.reduceSub, Nat.reduceMul, Nat.reduceLeDiff, Nat.reduceLT, loadA, rdCells, storeA, setAt, binA]
              refine WO_callx [ov, .int .i64 x] (by simp only [go_sem, ↓reduceIte, reduceCtorEq, Nat.reduceEqDiff, Nat.reduceAdd, Nat.reduceSub, Nat.reduceMul, Nat.reduceLeDiff, Nat.reduceLT, loadA, rdCells, storeA, setAt, binA]) ((contains_int hX hg.isl (by omega) x S).mono ?_)
              rintro r S3 ⟨rfl, hS3⟩
              subst hS3
              cases hc : cur.contains x
              · obtain ⟨v', S4, hap, hg4, hz4, hk4⟩ := hg.app icP (by exact hkp.1) x (bytes := 8) (by omega)
                simp only [ic] at hap
                rw [hc, if_neg (by simp)] at hfr
                have hkk : Keep s S4 := ⟨by have := hkp.1; omega, fun q hq => by
                  rw [hk4 q (Nat.lt_of_lt_of_le hq hkp.1) (fun h => by
                    rcases hg with ⟨-, -, h0⟩ | ⟨k3, h0, -, -, -, -, h6⟩
                    · rw [h0] at h; cases h
                    · rw [h0] at h; cases h; omega)]
                  exact hkp.2 q hq⟩
                simp only [hc, e15, e16, e17, e22, e23, e24, e3, hap, wrapn (n := j) (by omega), go_sem, ↓reduceIte, reduceCtorEq, Nat.reduceEqDiff, Nat.reduceAdd, Nat.reduceSub, Nat.reduceMul, Nat.reduceLeDiff, Nat.reduceLT, loadA, rdCells, storeA, setAt, binA]
                exact ⟨k2 - 1, by omega, j + 1, v', _, _, by omega, rfl, rfl, hg4, hfr, hkk, by simp only [List.length_append, List.length_cons, List.length_nil]; omega⟩
              · rw [hc, if_pos rfl] at hfr
                simp only [hc, e15, e16, e17, e22, e23, e24, e3, wrapn (n := j) (by omega), go_sem, ↓reduceIte, reduceCtorEq, Nat.reduceEqDiff, Nat.reduceAdd, Nat.reduceSub, Nat.reduceMul, Nat.reduceLeDiff, Nat.reduceLT, loadA, rdCells, storeA, setAt, binA]
                exact ⟨k2 - 1, by omega, j + 1, ov, cur, tok, by omega, rfl, rfl, hg, hfr, hkp, by omega⟩
            · have hdj : decide ((j : Int) < ((fre a).length : Int)) = false := by simp; omega
              have hd0 : (fre a).drop j = [] := List.drop_eq_nil_of_le (by omega)
              rw [hd0, adds] at hfr
              rw [hd0] at hcl
              simp only [cf20_l0, e15, e16, e17, e22, e23, e24, e3, hdj, wrapn (n := i) (by omega), go_sem, ↓reduceIte, reduceCtorEq, Nat.reduceEqDiff, Nat.reduceAdd, Nat.reduceSub, Nat.reduceMul, Nat.reduceLeDiff, Nat.reduceLT, loadA, rdCells, storeA, setAt, binA]
              exact ⟨kk - 1, by omega, i + 1, ov, cur, tok, by omega, rfl, rfl, hg, hfr, hkp, by simpa using hcl⟩
          · simp only [e15, go_sem, ↓reduceIte, reduceCtorEq, Nat.reduceEqDiff, Nat.reduceAdd, Nat.reduceSub, Nat.reduceMul, Nat.reduceLeDiff, Nat.reduceLT, loadA, rdCells, storeA, setAt, binA]
          · simp only [e16, go_sem, ↓reduceIte, reduceCtorEq, Nat.reduceEqDiff, Nat.reduceAdd, Nat.reduceSub, Nat.reduceMul, Nat.reduceLeDiff, Nat.reduceLT, loadA, rdCells, storeA, setAt, binA]
          · simp only [e17, go_sem, ↓reduceIte, reduceCtorEq, Nat.reduceEqDiff, Nat.reduceAdd, Nat.reduceSub, Nat.reduceMul, Nat.reduceLeDiff, Nat.reduceLT, loadA, rdCells, storeA, setAt, binA]
          · simp only [go_sem, ↓reduceIte, reduceCtorEq, Nat.reduceEqDiff, Nat.reduceAdd, Nat.reduceSub, Nat.reduceMul, Nat.reduceLeDiff, Nat.reduceLT, loadA, rdCells, storeA, setAt, binA]
          · simp only [go_sem, ↓reduceIte, reduceCtorEq, Nat.reduceEqDiff, Nat.reduceAdd, Nat.reduceSub, Nat.reduceMul, Nat.reduceLeDiff, Nat.reduceLT, loadA, rdCells, storeA, setAt, binA]
          · simp only [go_sem, ↓reduceIte, reduceCtorEq, Nat.reduceEqDiff, Nat.reduceAdd, Nat.reduceSub, Nat.reduceMul, Nat.reduceLeDiff, Nat.reduceLT, loadA, rdCells, storeA, setAt, binA]; rfl
          · simp only [e3, go_sem, ↓reduceIte, reduceCtorEq, Nat.reduceEqDiff, Nat.reduceAdd, Nat.reduceSub, Nat.reduceMul, Nat.reduceLeDiff, Nat.reduceLT, loadA, rdCells, storeA, setAt, binA]
          · simpa using hfr.trans hfd
          · simp only [List.drop_zero]; omega
        · have hd : decide ((i : Int) < (l.length : Int)) = false := by simp; omega
          have hd0 : l.drop i = [] := List.drop_eq_nil_of_le (by omega)
          rw [hd0, fres] at hfr
          simp only [cf20_l1, e15, e16, e17, e3, hd, go_sem, ↓reduceIte, reduceCtorEq, Nat.reduceEqDiff, Nat.reduceAdd, Nat.reduceSub, Nat.reduceMul, Nat.reduceLeDiff, Nat.reduceLT, loadA, rdCells, storeA, setAt, binA]
          exact ⟨by simp, _, rfl, by rw [hfr]; exact hg.isl, hkp⟩
      · simp only [go_sem, ↓reduceIte, reduceCtorEq, Nat.reduceEqDiff, Nat.reduceAdd, Nat.reduceSub, Nat.reduceMul, Nat.reduceLeDiff, Nat.reduceLT, loadA, rdCells, storeA, setAt, binA]
      · simp only [go_sem, ↓reduceIte, reduceCtorEq, Nat.reduceEqDiff, Nat.reduceAdd, Nat.reduceSub, Nat.reduceMul, Nat.reduceLeDiff, Nat.reduceLT, loadA, rdCells, storeA, setAt, binA]
      · simp only [go_sem, ↓reduceIte, reduceCtorEq, Nat.reduceEqDiff, Nat.reduceAdd, Nat.reduceSub, Nat.reduceMul, Nat.reduceLeDiff, Nat.reduceLT, loadA, rdCells, storeA, setAt, binA]; rfl
      · simp only [go_sem, ↓reduceIte, reduceCtorEq, Nat.reduceEqDiff, Nat.reduceAdd, Nat.reduceSub, Nat.reduceMul, Nat.reduceLeDiff, Nat.reduceLT, loadA, rdCells, storeA, setAt, binA]
      · exact (Keep.refl s).new' _
    · have hf : fre (.mk k nm vv l) = [vv] := by rw [fre, if_pos (by simpa using hk)]
      rw [hf]
      simp only [go_sem, ↓reduceIte, reduceCtorEq, Nat.reduceEqDiff, Nat.reduceAdd, Nat.reduceSub, Nat.reduceMul, Nat.reduceLeDiff, Nat.reduceLT, loadA, rdCells, storeA, setAt, binA]
      exact ⟨by simp, _, rfl, Or.inr ⟨true, none, rfl⟩, (Keep.refl s).new' _⟩
end Go.Am.U1

/- A part of the proof of unifySymmetric. Conditions: none. -/
namespace Go.Am.U1
open Go.Am.Un
set_option maxRecDepth 100000
set_option linter.unusedSimpArgs false
attribute [local go_sem] wseq COp.isStore wreg wdreg wret wskip wexit wblock wcnd cnd_t cnd_f then_n then_x then_r catch_n rnd_n rnd_x rnd_r catch_x catch_r wo_nil wo_grd grdO_t grdO_f wo_ops stpO wr_nil wr_alloc wr_guards grdR_t grdR_f wr_ops stpR evAllocs evOp env0_app eput_some eput_none eset_app Opd.ev wantedA faddrA snew_obj snew_size sput_obj sput_size av_cells av_one av_strip av_still unA eqbA fillA fldA lensA mmA mm2 mmFold List.getD_cons_zero List.getD_cons_succ List.getD_nil List.length_cons List.length_nil List.drop_zero List.drop_succ_cons List.take_succ_cons List.take_zero List.map_cons List.map_nil List.set_cons_zero List.set_cons_succ List.all_cons List.all_nil List.getElem?_cons_zero List.getElem?_cons_succ List.nil_append List.cons_append Nat.zero_add Nat.add_zero beq_self_eq_true bt bf Bool.not_true Bool.not_false Bool.and_true Bool.true_and Bool.and_false Bool.false_and and_self and_true true_and n0 n1 n2 n3 n4 m0 m1 m2 m3 c1 retA resAs resA undefA Option.map_some Option.map_none
variable {X : Ext}

theorem index_fi (hX : NoX X) {v : AV} {l : List Int} (h : ISl ic v l) (hb : l.length ≤ 4398046511104) (g : Nat) (cap : List AV) (p : Int → Bool) (s : St)
    (hg : ∀ x s1, x ∈ l → Keep s s1 → WC T X g (.int .i64 x :: cap) s1 (fun v s2 => v = .bool (p x) ∧ Keep s1 s2)) :
    WC T X 48 [v, .func g cap] s (fun v s' => (∃ m : Int, v = .int .i64 m ∧ decide (m ≥ 0) = l.any p) ∧ Keep s s') := by
  refine WC_fn cf48 (hX 48 (by decide)) T48 (by simp [cf48]) ?_
  have hlen := h.len
  simp only [cf48, hlen, go_sem, ↓reduceIte, reduceCtorEq, Nat.reduceEqDiff, Nat.reduceAdd, Nat.reduceSub, Nat.reduceMul, Nat.reduceLeDiff, Nat.reduceLT, loadA, rdCells, storeA, setAt, binA]
  refine W_loop_nat (fun k e s1 => ∃ i, i + k = l.length ∧ e 0 = v ∧ e 1 = .func g cap ∧ e 7 = .int .i64 l.length ∧ e 8 = .int .i64 i ∧ l.any p = (l.drop i).any p ∧ Keep s s1) ?_ l.length _ _ ⟨0, by simp, ?_⟩
  · rintro k e s1 ⟨i, hik, h0, h1, h7, h8, hf, hk⟩
    by_cases hi : i < l.length
    · obtain ⟨x, hx⟩ : ∃ x, l[i]? = some x := ⟨_, List.getElem?_eq_getElem hi⟩
      have hd : decide ((i : Int) < (l.length : Int)) = true := by simp; omega
      simp only [cf48_l0, h0, h1, h7, h8, hd, h.at ic_len hx, ic, Nat.le_add_left, go_sem, ↓reduceIte, reduceCtorEq, Nat.reduceEqDiff, Nat.reduceAdd, Nat.reduceSub, Nat.reduceMul, Nat.reduceLeDiff, Nat.reduceLT, loadA, rdCells, storeA, setAt, binA]
      refine WO_callvx g cap (.int .i64 x :: cap) (by simp only [h0, h1, go_sem, ↓reduceIte, reduceCtorEq, Nat.reduceEqDiff, Nat.reduceAdd, Nat.reduceSub, Nat.reduceMul, Nat.reduceLeDiff, Nat.reduceLT, loadA, rdCells, storeA, setAt, binA]) (by simp only [go_sem, ↓reduceIte, reduceCtorEq, Nat.reduceEqDiff, Nat.reduceAdd, Nat.reduceSub, Nat.reduceMul, Nat.reduceLeDiff, Nat.reduceLT, loadA, rdCells, storeA, setAt, binA]) ((hg x s1 (List.mem_of_getElem? hx) hk).mono ?_)
      rintro w s2 ⟨rfl, hk2⟩
      cases hp : p x <;> simp only [h0, h1, h7, h8, wrapn (n := i) (by omega), go_sem, ↓reduceIte, reduceCtorEq, Nat.reduceEqDiff, Nat.reduceAdd, Nat.reduceSub, Nat.reduceMul, Nat.reduceLeDiff, Nat.reduceLT, loadA, rdCells, storeA, setAt, binA]
      · exact ⟨k - 1, by omega, i + 1, by omega, rfl, by rw [hf, drop_at hx, List.any_cons, hp, Bool.false_or], hk.trans hk2⟩
      · exact ⟨by simp, _, rfl, ⟨(i : Int), rfl, by rw [hf, drop_at hx, List.any_cons, hp, Bool.true_or]; simp⟩, hk.trans hk2⟩
    · have hd : decide ((i : Int) < (l.length : Int)) = false := by simp; omega
      simp only [cf48_l0, h0, h1, h7, h8, hd, go_sem, ↓reduceIte, reduceCtorEq, Nat.reduceEqDiff, Nat.reduceAdd, Nat.reduceSub, Nat.reduceMul, Nat.reduceLeDiff, Nat.reduceLT, loadA, rdCells, storeA, setAt, binA]
      exact ⟨by simp, _, rfl, ⟨-1, rfl, by rw [hf, List.drop_eq_nil_of_le (by omega)]; rfl⟩, hk⟩
  · simp only [go_sem, ↓reduceIte, reduceCtorEq, Nat.reduceEqDiff, Nat.reduceAdd, Nat.reduceSub, Nat.reduceMul, Nat.reduceLeDiff, Nat.reduceLT, loadA, rdCells, storeA, setAt, binA]
    exact ⟨rfl, Keep.refl s⟩

theorem contains_fi (hX : NoX X) {v : AV} {l : List Int} (h : ISl ic v l) (hb : l.length ≤ 4398046511104) (g : Nat) (cap : List AV) (p : Int → Bool) (s : St)
    (hg : ∀ x s1, x ∈ l → Keep s s1 → WC T X g (.int .i64 x :: cap) s1 (fun v s2 => v = .bool (p x) ∧ Keep s1 s2)) :
    WC T X 19 [v, .func g cap] s (fun v s' => v = .bool (l.any p) ∧ Keep s s') := by
  refine WC_fn cf19 (hX 19 (by decide)) T19 (by simp [cf19]) ?_
  simp only [cf19, go_sem, ↓reduceIte, reduceCtorEq, Nat.reduceEqDiff, Nat.reduceAdd, Nat.reduceSub, Nat.reduceMul, Nat.reduceLeDiff, Nat.reduceLT, loadA, rdCells, storeA, setAt, binA]
  refine WO_callx [v, .func g cap] (by simp only [go_sem, ↓reduceIte, reduceCtorEq, Nat.reduceEqDiff, Nat.reduceAdd, Nat.reduceSub, Nat.reduceMul, Nat.reduceLeDiff, Nat.reduceLT, loadA, rdCells, storeA, setAt, binA]) ((index_fi hX h hb g cap p s hg).mono ?_)
  rintro w s2 ⟨⟨m, rfl, hm⟩, hk⟩
  simp only [go_sem, ↓reduceIte, reduceCtorEq, Nat.reduceEqDiff, Nat.reduceAdd, Nat.reduceSub, Nat.reduceMul, Nat.reduceLeDiff, Nat.reduceLT, loadA, rdCells, storeA, setAt, binA]
  exact ⟨by simp, _, rfl, by rw [hm], hk⟩

theorem clo46_law (hX : NoX X) (x n : Int) (p : Nat) (sv : AV) (hl : lenA sv = some (.int .i64 n)) (s : St) (ho : s.obj p = some (.cells [sv])) : WC T X 46 [.int .i64 x, .ptr p 0] s (fun v s2 => v = .bool (decide (x ≥ n)) ∧ Keep s s2) := by
  refine WC_fn cf46 (hX 46 (by decide)) T46 (by simp [cf46]) ?_
  simp only [cf46, ho, hl, go_sem, ↓reduceIte, reduceCtorEq, Nat.reduceEqDiff, Nat.reduceAdd, Nat.reduceSub, Nat.reduceMul, Nat.reduceLeDiff, Nat.reduceLT, loadA, rdCells, storeA, setAt, binA]
  exact ⟨by simp, _, rfl, rfl, Keep.refl s⟩
theorem clo59_law (hX : NoX X) (x n : Int) (p : Nat) (sv : AV) (hl : lenA sv = some (.int .i64 n)) (s : St) (ho : s.obj p = some (.cells [sv])) : WC T X 59 [.int .i64 x, .ptr p 0] s (fun v s2 => v = .bool (decide (x ≥ n)) ∧ Keep s s2) := by
  refine WC_fn cf59 (hX 59 (by decide)) T59 (by simp [cf59]) ?_
  simp only [cf59, ho, hl, go_sem, ↓reduceIte, reduceCtorEq, Nat.reduceEqDiff, Nat.reduceAdd, Nat.reduceSub, Nat.reduceMul, Nat.reduceLeDiff, Nat.reduceLT, loadA, rdCells, storeA, setAt, binA]
  exact ⟨by simp, _, rfl, rfl, Keep.refl s⟩

/-- A type of a list, at a function. -/
theorem index_ft (hX : NoX X) {v : AV} {l : List Tm} (h : ISl tyc v l) (hb : l.length ≤ 4398046511104) (g : Nat) (cap : List AV) (p : Tm → Bool) (I : St → Prop) (s : St) (hI : I s)
    (hg : ∀ (i : Nat) x s1, l[i]? = some x → (l.take i).any p = false → I s1 → WC T X g (.agg (tyc x) :: cap) s1 (fun v s2 => v = .bool (p x) ∧ I s2)) :
    WC T X 75 [v, .func g cap] s (fun v s' => (∃ m : Int, v = .int .i64 m ∧ decide (m ≥ 0) = l.any p) ∧ I s') := by
  refine WC_fn cf75 (hX 75 (by decide)) T75 (by simp [cf75]) ?_
  have hlen := h.len
  simp only [cf75, hlen, go_sem, ↓reduceIte, reduceCtorEq, Nat.reduceEqDiff, Nat.reduceAdd, Nat.reduceSub, Nat.reduceMul, Nat.reduceLeDiff, Nat.reduceLT, loadA, rdCells, storeA, setAt, binA]
  refine W_loop_nat (fun k e s1 => ∃ i, i + k = l.length ∧ e 0 = v ∧ e 1 = .func g cap ∧ e 7 = .int .i64 l.length ∧ e 8 = .int .i64 i ∧ l.any p = (l.drop i).any p ∧ (l.take i).any p = false ∧ I s1) ?_ l.length _ _ ⟨0, by simp, ?_⟩
  · rintro k e s1 ⟨i, hik, h0, h1, h7, h8, hf, hft, hk⟩
    by_cases hi : i < l.length
    · obtain ⟨x, hx⟩ : ∃ x, l[i]? = some x := ⟨_, List.getElem?_eq_getElem hi⟩
      have hd : decide ((i : Int) < (l.length : Int)) = true := by simp; omega
      have hat := h.at tyc_len hx
      have hgx := hg i x s1 hx hft hk
      rw [tyc_w, tyw] at hat hgx
      simp only [cf75_l0, h0, h1, h7, h8, hd, hat, Nat.le_add_left, go_sem, ↓reduceIte, reduceCtorEq, Nat.reduceEqDiff, Nat.reduceAdd, Nat.reduceSub, Nat.reduceMul, Nat.reduceLeDiff, Nat.reduceLT, loadA, rdCells, storeA, setAt, binA]
      refine WO_callvx g cap _ (by simp only [h0, h1, go_sem, ↓reduceIte, reduceCtorEq, Nat.reduceEqDiff, Nat.reduceAdd, Nat.reduceSub, Nat.reduceMul, Nat.reduceLeDiff, Nat.reduceLT, loadA, rdCells, storeA, setAt, binA]) rfl ((by simpa only [go_sem, ↓reduceIte, reduceCtorEq, Nat.reduceEqDiff, Nat.reduceAdd, Nat.reduceSub, Nat.reduceMul, Nat.reduceLeDiff, Nat.reduceLT, loadA, rdCells, storeA, setAt, binA] using hgx : WC T X g _ s1 _).mono ?_)
      rintro w s2 ⟨rfl, hk2⟩
      cases hp : p x <;> simp only [h0, h1, h7, h8, wrapn (n := i) (by omega), go_sem, ↓reduceIte, reduceCtorEq, Nat.reduceEqDiff, Nat.reduceAdd, Nat.reduceSub, Nat.reduceMul, Nat.reduceLeDiff, Nat.reduceLT, loadA, rdCells, storeA, setAt, binA]
      · exact ⟨k - 1, by omega, i + 1, by omega, rfl, by rw [hf, drop_at hx, List.any_cons, hp, Bool.false_or], by rw [List.take_add_one, hx]; simp only [Option.toList_some, List.any_append, hft, List.any_cons, List.any_nil, hp]; rfl, hk2⟩
      · exact ⟨by simp, _, rfl, ⟨(i : Int), rfl, by rw [hf, drop_at hx, List.any_cons, hp, Bool.true_or]; simp⟩, hk2⟩
    · have hd : decide ((i : Int) < (l.length : Int)) = false := by simp; omega
      simp only [cf75_l0, h0, h1, h7, h8, hd, go_sem, ↓reduceIte, reduceCtorEq, Nat.reduceEqDiff, Nat.reduceAdd, Nat.reduceSub, Nat.reduceMul, Nat.reduceLeDiff, Nat.reduceLT, loadA, rdCells, storeA, setAt, binA]
      exact ⟨by simp, _, rfl, ⟨-1, rfl, by rw [hf, List.drop_eq_nil_of_le (by omega)]; rfl⟩, hk⟩
  · simp only [go_sem, ↓reduceIte, reduceCtorEq, Nat.reduceEqDiff, Nat.reduceAdd, Nat.reduceSub, Nat.reduceMul, Nat.reduceLeDiff, Nat.reduceLT, loadA, rdCells, storeA, setAt, binA]
    exact ⟨rfl, by simp, hI⟩

theorem contains_ft (hX : NoX X) {v : AV} {l : List Tm} (h : ISl tyc v l) (hb : l.length ≤ 4398046511104) (g : Nat) (cap : List AV) (p : Tm → Bool) (I : St → Prop) (s : St) (hI : I s)
    (hg : ∀ (i : Nat) x s1, l[i]? = some x → (l.take i).any p = false → I s1 → WC T X g (.agg (tyc x) :: cap) s1 (fun v s2 => v = .bool (p x) ∧ I s2)) :
    WC T X 55 [v, .func g cap] s (fun v s' => v = .bool (l.any p) ∧ I s') := by
  refine WC_fn cf55 (hX 55 (by decide)) T55 (by simp [cf55]) ?_
  simp only [cf55, go_sem, ↓reduceIte, reduceCtorEq, Nat.reduceEqDiff, Nat.reduceAdd, Nat.reduceSub, Nat.reduceMul, Nat.reduceLeDiff, Nat.reduceLT, loadA, rdCells, storeA, setAt, binA]
  refine WO_callx [v, .func g cap] (by simp only [go_sem, ↓reduceIte, reduceCtorEq, Nat.reduceEqDiff, Nat.reduceAdd, Nat.reduceSub, Nat.reduceMul, Nat.reduceLeDiff, Nat.reduceLT, loadA, rdCells, storeA, setAt, binA]) ((index_ft hX h hb g cap p I s hI hg).mono ?_)
  rintro w s2 ⟨⟨m, rfl, hm⟩, hk⟩
  simp only [go_sem, ↓reduceIte, reduceCtorEq, Nat.reduceEqDiff, Nat.reduceAdd, Nat.reduceSub, Nat.reduceMul, Nat.reduceLeDiff, Nat.reduceLT, loadA, rdCells, storeA, setAt, binA]
  exact ⟨by simp, _, rfl, by rw [hm], hk⟩
end Go.Am.U1

/- A part of the proof of unifySymmetric. Conditions: none. -/
namespace Go.Am.U1
open Go.Am.Un
set_option maxRecDepth 100000
set_option linter.unusedSimpArgs false
attribute [local go_sem] wseq COp.isStore wreg wdreg wret wskip wexit wblock wcnd cnd_t cnd_f then_n then_x then_r catch_n rnd_n rnd_x rnd_r catch_x catch_r wo_nil wo_grd grdO_t grdO_f wo_ops stpO wr_nil wr_alloc wr_guards grdR_t grdR_f wr_ops stpR evAllocs evOp env0_app eput_some eput_none eset_app Opd.ev wantedA faddrA snew_obj snew_size sput_obj sput_size av_cells av_one av_strip av_still unA eqbA fillA fldA lensA mmA mm2 mmFold List.getD_cons_zero List.getD_cons_succ List.getD_nil List.length_cons List.length_nil List.drop_zero List.drop_succ_cons List.take_succ_cons List.take_zero List.map_cons List.map_nil List.set_cons_zero List.set_cons_succ List.all_cons List.all_nil List.getElem?_cons_zero List.getElem?_cons_succ List.nil_append List.cons_append Nat.zero_add Nat.add_zero beq_self_eq_true bt bf Bool.not_true Bool.not_false Bool.and_true Bool.true_and Bool.and_false Bool.false_and and_self and_true true_and n0 n1 n2 n3 n4 m0 m1 m2 m3 c1 retA resAs resA undefA Option.map_some Option.map_none
variable {X : Ext}

/-- What a check says and leaves. -/
def ChkQ (b : Nat) (R : Int × Int) (s : St) (v : AV) (s' : St) : Prop :=
  v = .int .i64 R.1 ∧ s'.obj b = some (.cells [.int .i64 R.2]) ∧ KeepBut b s s'

def sizesA : AV := .eptr [.int .i64 0, .int .i64 (-1), .int .i64 3, .int .i64 1, .int .i64 0, .int .i64 2]
set_option maxHeartbeats 8000000 in
/-- The check of the arguments. -/
theorem check_loop (hX : NoX X) {b : Nat} {k v depth : Int} {n : ByteArray} {l : List Tm} {w : AV} (hiw : ISl tyc w l) (hd0 : 0 ≤ depth) (hd : depth ≤ 400)
    (ih : ∀ t, tsz t < 1 + tszs l → ∀ (left : Int) (row : Bool) (s : St), 0 ≤ left → left ≤ 4096 → s.obj b = some (.cells [.int .i64 left]) → b < s.size →
      WC T X 45 [.ptr b 0, .agg (tyc t), .bool row, .int .i64 (depth + 1)] s (ChkQ b (chk row (depth + 1) left t) s))
    :
    ∀ (m i : Nat) (e : Env) (S : St) (left : Int) (pt : Nat), i + m = l.length → e 0 = .ptr b 0 → e 3 = .int .i64 depth → e 5 = .ptr pt 0 → e 8 = .int .i64 0 → e 102 = w → e 103 = .int .i64 l.length → e 104 = .int .i64 i →
      S.obj pt = some (.cells [.int .i64 k, .str n, .int .i64 v, w]) → pt < S.size → pt ≠ b → S.obj b = some (.cells [.int .i64 left]) → b < S.size → 0 ≤ left → (i : Int) + left ≤ 4096 →
      W T X (.loop cf45_l0) e S (fun x e' S' => ((x = .exit 1 ∧ (chks k i (depth + 1) left (l.drop i)).1 = 0) ∨ (x = .ret ∧ e' 8 = .int .i64 (chks k i (depth + 1) left (l.drop i)).1 ∧ (chks k i (depth + 1) left (l.drop i)).1 ≠ 0)) ∧ S'.obj b = some (.cells [.int .i64 (chks k i (depth + 1) left (l.drop i)).2]) ∧ KeepBut b S S') := by
  intro m
  induction m with
  | zero =>
    intro i e S left pt him e0 e3 e5 e8 e102 e103 e104 hop hpt hpb hob hb h0 h1
    have hdi : decide ((i : Int) < (l.length : Int)) = false := by simp; omega
    refine W_loop ?_
    simp only [cf45_l0, e0, e3, e5, e8, e102, e103, e104, hdi, go_sem, ↓reduceIte, reduceCtorEq, Nat.reduceEqDiff, Nat.reduceAdd, Nat.reduceSub, Nat.reduceMul, Nat.reduceLeDiff, Nat.reduceLT, loadA, rdCells, storeA, setAt, binA]
    rw [List.drop_eq_nil_of_le (by omega), chks]
    exact ⟨Or.inl rfl, hob, ⟨Nat.le_refl _, fun _ _ _ => rfl⟩⟩
  | succ m ihm =>
    intro i e S left pt him e0 e3 e5 e8 e102 e103 e104 hop hpt hpb hob hb h0 h1
    have hi : i < l.length := by omega
    have hdi : decide ((i : Int) < (l.length : Int)) = true := by simp; omega
    obtain ⟨a, ha⟩ : ∃ a, l[i]? = some a := ⟨_, List.getElem?_eq_getElem hi⟩
    have hia : iaddrA 4 (w) (.int .i64 i) = some (.eptr (tyc a ++ (l.drop (i + 1)).flatMap tyc)) := by
      exact hiw.at tyc_len ha
    have hwi := wrapn (n := i) (by omega)
    have hwd : IntKind.i64.wrap (depth + 1) = depth + 1 := by rw [IntKind.wrap_i64]; omega
    have hiha := ih a (by have := tsz_at ha; omega) left
    have hcs0 : chks k i (depth + 1) left (l.drop i) = if (chk (rowed k i a) (depth + 1) left a).1 ≠ 0 then chk (rowed k i a) (depth + 1) left a else chks k (i + 1) (depth + 1) (chk (rowed k i a) (depth + 1) left a).2 (l.drop (i + 1)) := by rw [drop_at ha, chks]
    have hle := chk_le (rowed k i a) (depth + 1) left a
    have hok := chk_ok (rowed k i a) (depth + 1) left a
    rw [hcs0]
    obtain ⟨ka, na, va, la⟩ := a
    simp only [tyc] at hia hiha
    refine W_loop ?_
    generalize hL : CC.loop cf45_l0 = L
    have e5b : (pt = S.size) = False := eq_false (by omega)
    have e5c : (S.size = pt) = False := eq_false (by omega)
    have eb1 : (b = S.size) = False := eq_false (by omega)
    have eb2 : (S.size = b) = False := eq_false (by omega)
    have hS1 : ∀ s1, s1 = (S.new (.cells [.int .i64 0, .str ⟨#[]⟩, .int .i64 0, .nils])).put S.size (some (.cells [.int .i64 ka, .str na, .int .i64 va, .sl (tycs la) la.length false none])) → s1.obj b = some (.cells [.int .i64 left]) ∧ b < s1.size ∧ s1.obj pt = some (.cells [.int .i64 k, .str n, .int .i64 v, w]) ∧ pt < s1.size ∧ Keep S s1 := by
      rintro s1 rfl
      refine ⟨?_, ?_, ?_, ?_, ((Keep.refl S).new' _).put' (Nat.le_refl _) _⟩
      · rw [put_ne (by omega), new_ne (by omega)]; exact hob
      · simp only [St.put, St.new]; omega
      · rw [put_ne (by omega), new_ne (by omega)]; exact hop
      · simp only [St.put, St.new]; omega
    simp only [cf45_l0, e0, e3, e5, e8, e102, e103, e104, hdi, hia, hop, e5b, e5c, eb1, eb2, Nat.le_add_left, go_sem, ↓reduceIte, reduceCtorEq, Nat.reduceEqDiff, Nat.reduceAdd, Nat.reduceSub, Nat.reduceMul, Nat.reduceLeDiff, Nat.reduceLT, loadA, rdCells, storeA, setAt, binA]
    have hcs : ((k == 2) = true ∧ (k == 3) = false ∧ (k == 5) = false ∧ (k == 1) = false) ∨ ((k == 2) = false ∧ (k == 3) = true ∧ (k == 5) = false ∧ (k == 1) = false) ∨ ((k == 2) = false ∧ (k == 3) = false ∧ (k == 5) = true ∧ (k == 1) = false) ∨ ((k == 2) = false ∧ (k == 3) = false ∧ (k == 5) = false ∧ (k == 1) = true) ∨ ((k == 2) = false ∧ (k == 3) = false ∧ (k == 5) = false ∧ (k == 1) = false) := by
      simp only [beq_iff_eq, beq_eq_false_iff_ne]; omega
    rcases hcs with ⟨d1, d3, d4, d5⟩ | ⟨d1, d3, d4, d5⟩ | ⟨d1, d3, d4, d5⟩ | ⟨d1, d3, d4, d5⟩ | ⟨d1, d3, d4, d5⟩ <;> cases d2 : ((i : Int) == 1) <;>
      simp only [d1, d2, d3, d4, d5, e0, e3, e5, e8, e102, e103, e104, hop, e5b, e5c, eb1, eb2, hwd, Nat.le_add_left, go_sem, ↓reduceIte, reduceCtorEq, Nat.reduceEqDiff, Nat.reduceAdd, Nat.reduceSub, Nat.reduceMul, Nat.reduceLeDiff, Nat.reduceLT, loadA, rdCells, storeA, setAt, binA]
    all_goals
      generalize hs1 : (S.new (.cells [.int .i64 0, .str ⟨#[]⟩, .int .i64 0, .nils])).put S.size (some (.cells [.int .i64 ka, .str na, .int .i64 va, .sl (tycs la) la.length false none])) = s1
      obtain ⟨q1, q2, q3, q4, q5⟩ := hS1 s1 hs1.symm
      have hrw : ∀ t, rowed k i t = bif k == 1 then decide (kof t ≥ 4) else (k == 2 && (i : Int) == 1) || (k == 3) || (k == 5 && (i : Int) == 1) := fun t => rfl
      simp only [d1, d2, d3, d4, d5, kof, Bool.or_false, Bool.false_or, Bool.or_true, Bool.true_or, cond_true, cond_false, go_sem, ↓reduceIte, reduceCtorEq, Nat.reduceEqDiff, Nat.reduceAdd, Nat.reduceSub, Nat.reduceMul, Nat.reduceLeDiff, Nat.reduceLT, loadA, rdCells, storeA, setAt, binA] at hrw
      generalize hR : chk (rowed k i (Tm.mk ka na va la)) (depth + 1) left (Tm.mk ka na va la) = R at hle hok ⊢
      rw [hrw] at hR
      try simp only [kof] at hR
      refine WO_callx [.ptr b 0, .agg [.int .i64 ka, .str na, .int .i64 va, .sl (tycs la) la.length false none], .bool _, .int .i64 (depth + 1)] (by simp only [go_sem, ↓reduceIte, reduceCtorEq, Nat.reduceEqDiff, Nat.reduceAdd, Nat.reduceSub, Nat.reduceMul, Nat.reduceLeDiff, Nat.reduceLT, loadA, rdCells, storeA, setAt, binA]; rfl) ((hiha _ s1 h0 (by omega) q1 q2).mono ?_)
      rintro w2 s2 ⟨rfl, hob2, hk2⟩
      first
        | rw [hR] at hob2 ⊢
        | (have hR2 : chk (decide (ka ≥ 4)) (depth + 1) left (Tm.mk ka na va la) = R := hR; rw [hR2] at hob2 ⊢)
      have hkb : KeepBut b S s2 := q5.but.trans hk2
      simp only [e0, e3, e5, e8, e102, e103, e104, go_sem, ↓reduceIte, reduceCtorEq, Nat.reduceEqDiff, Nat.reduceAdd, Nat.reduceSub, Nat.reduceMul, Nat.reduceLeDiff, Nat.reduceLT, loadA, rdCells, storeA, setAt, binA]
      obtain ⟨R1, R2⟩ := R
      simp only [] at hle hok hob2 ⊢
      cases hz : (R1 != 0)
      · have h00 : R1 = 0 := by simpa using hz
        have g1 := hok h00
        simp only [e0, e3, e5, e8, e102, e103, e104, hwi, go_sem, ↓reduceIte, reduceCtorEq, Nat.reduceEqDiff, Nat.reduceAdd, Nat.reduceSub, Nat.reduceMul, Nat.reduceLeDiff, Nat.reduceLT, loadA, rdCells, storeA, setAt, binA]
        rw [if_neg (by simpa using h00)]
        subst hL
        refine (ihm (i + 1) _ s2 R2 pt (by omega) ?_ ?_ ?_ ?_ ?_ ?_ ?_ ?_ ?_ hpb hob2 ?_ g1 (by simp only [Int.natCast_add]; omega)).mono ?_
        · simp only [e0, go_sem, ↓reduceIte, reduceCtorEq, Nat.reduceEqDiff, Nat.reduceAdd, Nat.reduceSub, Nat.reduceMul, Nat.reduceLeDiff, Nat.reduceLT, loadA, rdCells, storeA, setAt, binA]
        · simp only [e3, go_sem, ↓reduceIte, reduceCtorEq, Nat.reduceEqDiff, Nat.reduceAdd, Nat.reduceSub, Nat.reduceMul, Nat.reduceLeDiff, Nat.reduceLT, loadA, rdCells, storeA, setAt, binA]
        · simp only [e5, go_sem, ↓reduceIte, reduceCtorEq, Nat.reduceEqDiff, Nat.reduceAdd, Nat.reduceSub, Nat.reduceMul, Nat.reduceLeDiff, Nat.reduceLT, loadA, rdCells, storeA, setAt, binA]
        · simp only [e8, go_sem, ↓reduceIte, reduceCtorEq, Nat.reduceEqDiff, Nat.reduceAdd, Nat.reduceSub, Nat.reduceMul, Nat.reduceLeDiff, Nat.reduceLT, loadA, rdCells, storeA, setAt, binA]
        · simp only [e102, go_sem, ↓reduceIte, reduceCtorEq, Nat.reduceEqDiff, Nat.reduceAdd, Nat.reduceSub, Nat.reduceMul, Nat.reduceLeDiff, Nat.reduceLT, loadA, rdCells, storeA, setAt, binA]
        · simp only [e103, go_sem, ↓reduceIte, reduceCtorEq, Nat.reduceEqDiff, Nat.reduceAdd, Nat.reduceSub, Nat.reduceMul, Nat.reduceLeDiff, Nat.reduceLT, loadA, rdCells, storeA, setAt, binA]
        · simp only [go_sem, ↓reduceIte, reduceCtorEq, Nat.reduceEqDiff, Nat.reduceAdd, Nat.reduceSub, Nat.reduceMul, Nat.reduceLeDiff, Nat.reduceLT, loadA, rdCells, storeA, setAt, binA]
        · rw [hk2.2 pt q4 hpb]; exact q3
        · exact Nat.lt_of_lt_of_le q4 hk2.1
        · exact Nat.lt_of_lt_of_le q2 hk2.1
        · rintro x e' S' ⟨hx, y3, y4⟩
          exact ⟨hx, y3, hkb.trans y4⟩
      · simp only [e0, e3, e5, e8, e102, e103, e104, go_sem, ↓reduceIte, reduceCtorEq, Nat.reduceEqDiff, Nat.reduceAdd, Nat.reduceSub, Nat.reduceMul, Nat.reduceLeDiff, Nat.reduceLT, loadA, rdCells, storeA, setAt, binA]
        rw [if_pos (by simpa using hz)]
        exact ⟨Or.inr ⟨rfl, by simpa using hz⟩, hob2, hkb⟩
end Go.Am.U1
