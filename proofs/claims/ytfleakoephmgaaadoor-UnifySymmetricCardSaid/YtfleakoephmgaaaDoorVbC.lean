/- CheckSubst, Extend and Unify at any substitution. Conditions: none. -/
import Derived.Test.YtfleakoephmgaaaDoorVbB
import Derived.Test.YtfleakoephmgaaaDoorUnN
import Derived.Test.YtfleakoephmgaaaDoorUtI
import Derived.Test.YtfleakoephmgaaaDoorAmR
set_option linter.unusedSimpArgs false
set_option linter.unusedVariables false
namespace Go.Am.U1
open Go.Am.Un
set_option maxRecDepth 100000
set_option linter.unusedSimpArgs false
attribute [local go_sem] wseq COp.isStore wreg wdreg wret wskip wexit wblock wcnd cnd_t cnd_f then_n then_x then_r catch_n rnd_n rnd_x rnd_r catch_x catch_r wo_nil wo_grd grdO_t grdO_f wo_ops stpO wr_nil wr_alloc wr_guards grdR_t grdR_f wr_ops stpR evAllocs evOp env0_app eput_some eput_none eset_app Opd.ev wantedA faddrA snew_obj snew_size sput_obj sput_size av_cells av_one av_strip av_still unA eqbA fillA fldA lensA mmA mm2 mmFold List.getD_cons_zero List.getD_cons_succ List.getD_nil List.length_cons List.length_nil List.drop_zero List.drop_succ_cons List.take_succ_cons List.take_zero List.map_cons List.map_nil List.set_cons_zero List.set_cons_succ List.all_cons List.all_nil List.getElem?_cons_zero List.getElem?_cons_succ List.nil_append List.cons_append Nat.zero_add Nat.add_zero beq_self_eq_true bt bf Bool.not_true Bool.not_false Bool.and_true Bool.true_and Bool.and_false Bool.false_and and_self and_true true_and n0 n1 n2 n3 n4 m0 m1 m2 m3 c1 retA resAs resA undefA Option.map_some Option.map_none
variable {X : Ext}

/-- A type, or a row, that is valid and has variables below N. -/
def TyOk (N : Nat) (t : Tm) : Prop := (chk (decide (kof t ≥ 4)) 1 4096 t).1 = 0 ∧ (fre t).any (fun x => decide (x ≥ (N : Int))) = false
/-- A substitution that is valid. -/
def CkOk (ss : List Tm) : Prop := ss.length ≤ 4096 ∧ (∀ (i : Nat) u, ss[i]? = some u → TyOk ss.length u) ∧ (∃ rk, Acy ss rk) ∧ Small ss
theorem tyok_wt {N : Nat} {t : Tm} (h : TyOk N t) : Wt N t := by
  have := chk_tsz h.1
  refine wt_of_chk N _ 1 4096 t h.1 (fun x hx => ?_) (by omega)
  have := List.any_eq_false.1 h.2 x hx
  simpa using this
theorem tyok_tsz {N : Nat} {t : Tm} (h : TyOk N t) : tsz t ≤ 4096 := chk_tsz h.1
theorem ckok_fine {ss : List Tm} (h : CkOk ss) : Fine ss := ⟨h.2.2.1, by have := h.1; omega⟩

set_option maxHeartbeats 8000000 in
theorem checkG_law (hX : NoX X) {sv : AV} {ss : List Tm} (hsv : ISl tyc sv ss) (hb : ss.length ≤ 4398046511104) (s : St) : WC T X 34 [sv] s (fun v s' => ∃ e, v = .int .i64 e ∧ (e = 0 ↔ CkOk ss) ∧ Keep s s') := by
  refine WC_fn cf34 (hX 34 (by decide)) T34 (by simp [cf34]) ?_
  have hlen := hsv.len
  have hcl : sv.cells = [sv] := by rcases hsv with ⟨rfl, -⟩ | ⟨f, t, rfl⟩ <;> rfl
  cases hg : decide ((ss.length : Int) > 4096)
  · have hl : ss.length ≤ 4096 := by have : ¬ ((ss.length : Int) > 4096) := of_decide_eq_false hg; omega
    simp only [cf34, hlen, hcl, hg, go_sem, ↓reduceIte, reduceCtorEq, Nat.reduceEqDiff, Nat.reduceAdd, Nat.reduceSub, Nat.reduceMul, Nat.reduceLeDiff, Nat.reduceLT, loadA, rdCells, storeA, setAt, binA]
    refine W_loop_nat (fun kk e S => ∃ (i : Nat), i + kk = ss.length ∧ e 1 = .ptr s.size 0 ∧ e 11 = sv ∧ e 12 = .int .i64 ss.length ∧ e 13 = .int .i64 i ∧ S.obj s.size = some (.cells [sv]) ∧ s.size < S.size ∧ Keep s S ∧ ∀ (j : Nat) u, j < i → ss[j]? = some u → TyOk ss.length u) ?_ ss.length _ _
      ⟨0, by simp, ?_, ?_, ?_, ?_, new_eq rfl, by simp [St.new], (Keep.refl s).new' _, fun j u hj => by omega⟩
    · rintro kk e S ⟨i, hik, e1, e11, e12, e13, hob, hz, hkp, hok⟩
      by_cases hi : i < ss.length
      · have hd : decide ((i : Int) < (ss.length : Int)) = true := by simp; omega
        obtain ⟨u, hu⟩ : ∃ u, ss[i]? = some u := ⟨_, List.getElem?_eq_getElem hi⟩
        obtain ⟨r, hat⟩ := isl_ent hsv hu
        have hck := fun S1 b ho hb => check_law hX b (tsz u) u (Nat.le_refl _) _ 1 4096 (decide (kof u ≥ 4)) S1 (isl_tycs (lof u)) (by omega) (by omega) (by omega) (by omega) ho hb
        simp only [tyw] at hck
        simp only [cf34_l1, e1, e11, e12, e13, hd, hat, Nat.le_add_left, go_sem, ↓reduceIte, reduceCtorEq, Nat.reduceEqDiff, Nat.reduceAdd, Nat.reduceSub, Nat.reduceMul, Nat.reduceLeDiff, Nat.reduceLT, loadA, rdCells, storeA, setAt, binA]
        refine WO_callx _ rfl ((hck _ (S.size + 1) (new_eq (by simp [St.new, St.put])) (by simp [St.new, St.put])).mono ?_)
        rintro v2 S2 ⟨rfl, -, hk2⟩
        have hz2 : S.size + 1 < S2.size := Nat.lt_of_lt_of_le (by simp [St.new, St.put]) hk2.1
        have ho4 : S2.obj S.size = some (.cells [.int .i64 (kof u), .str (nof u), .int .i64 (vof u), .sl (tycs (lof u)) (lof u).length false none]) := by
          rw [hk2.2 _ (by simp only [St.new, St.put]; omega) (by omega), new_ne (by simp only [St.new, St.put]; omega), put_eq]
        have hk02 : Keep S S2 := ⟨by omega, fun j hj => by
          rw [hk2.2 _ (by simp only [St.new, St.put]; omega) (by omega), new_ne (by simp only [St.new, St.put]; omega), put_ne (by omega), new_ne (by omega)]⟩
        cases hc : ((chk (decide (kof u ≥ 4)) 1 4096 u).1 != 0)
        · have hc0 : (chk (decide (kof u ≥ 4)) 1 4096 u).1 = 0 := by simpa using hc
          have hts := chk_tsz hc0
          have hfl := fre_len u
          have hfr := fun S => free_law hX (tsz u) u (Nat.le_refl _) (by omega) _ S (isl_tycs (lof u))
          simp only [tyw] at hfr
          simp only [hc, ho4, Nat.le_add_left, go_sem, ↓reduceIte, reduceCtorEq, Nat.reduceEqDiff, Nat.reduceAdd, Nat.reduceSub, Nat.reduceMul, Nat.reduceLeDiff, Nat.reduceLT, loadA, rdCells, storeA, setAt, binA]
          refine WO_callx _ rfl ((hfr _).mono ?_)
          rintro fv S3 ⟨hfv, hk3⟩
          simp only [e1, e11, e12, e13, go_sem, ↓reduceIte, reduceCtorEq, Nat.reduceEqDiff, Nat.reduceAdd, Nat.reduceSub, Nat.reduceMul, Nat.reduceLeDiff, Nat.reduceLT, loadA, rdCells, storeA, setAt, binA]
          have hob3 := (hk02.trans hk3).obj hz hob
          refine WO_callx _ rfl ((contains_fi hX hfv (by omega) 59 [.ptr s.size 0] (fun x => decide (x ≥ (ss.length : Int))) S3 (fun x S4 _ hk4 => clo59_law hX x ss.length s.size sv hlen S4 (hk4.obj ((hk02.trans hk3).lt hz) hob3))).mono ?_)
          rintro v5 S5 ⟨rfl, hk5⟩
          have hk05 := (hk02.trans hk3).trans hk5
          cases hf : (fre u).any (fun x => decide (x ≥ (ss.length : Int)))
          · simp only [e1, e11, e12, e13, hf, wrapn (n := i) (by omega), go_sem, ↓reduceIte, reduceCtorEq, Nat.reduceEqDiff, Nat.reduceAdd, Nat.reduceSub, Nat.reduceMul, Nat.reduceLeDiff, Nat.reduceLT, loadA, rdCells, storeA, setAt, binA]
            refine ⟨kk - 1, by omega, i + 1, by omega, rfl, hk05.obj hz hob, hk05.lt hz, hkp.trans hk05, fun j w hj hw => ?_⟩
            by_cases hji : j = i
            · subst hji; rw [hu] at hw; cases hw; exact ⟨hc0, hf⟩
            · exact hok j w (by omega) hw
          · simp only [hf, go_sem, ↓reduceIte, reduceCtorEq, Nat.reduceEqDiff, Nat.reduceAdd, Nat.reduceSub, Nat.reduceMul, Nat.reduceLeDiff, Nat.reduceLT, loadA, rdCells, storeA, setAt, binA]
            refine ⟨by simp, _, rfl, 4, rfl, ⟨(fun h => by cases h), fun h => ?_⟩, hkp.trans hk05⟩
            have := (h.2.1 i u hu).2
            rw [hf] at this; cases this
        · simp only [hc, go_sem, ↓reduceIte, reduceCtorEq, Nat.reduceEqDiff, Nat.reduceAdd, Nat.reduceSub, Nat.reduceMul, Nat.reduceLeDiff, Nat.reduceLT, loadA, rdCells, storeA, setAt, binA]
          refine ⟨by simp, _, rfl, _, rfl, ⟨fun h => ?_, fun h => (h.2.1 i u hu).1⟩, hkp.trans hk02⟩
          rw [h] at hc; simp at hc
      · obtain rfl : i = ss.length := by omega
        have hd : decide (((ss.length : Nat) : Int) < (ss.length : Int)) = false := by simp
        have hmk := mk_i S ss.length (by omega)
        have hall : ∀ (j : Nat) u, ss[j]? = some u → TyOk ss.length u := fun j u hu => hok j u (List.getElem?_eq_some_iff.1 hu).1 hu
        have hrg : Rng ss := fun j u hu x hx => by
          have hw := tyok_wt (hall j u hu)
          exact wt_occ _ u (Nat.le_refl _) hw ((fre_mem _ _).1 hx)
        simp only [cf34_l1, e1, e11, e12, e13, hob, hlen, hmk, hd, ne_a hz, ne_b hz, Nat.le_add_left, go_sem, ↓reduceIte, reduceCtorEq, Nat.reduceEqDiff, Nat.reduceAdd, Nat.reduceSub, Nat.reduceMul, Nat.reduceLeDiff, Nat.reduceLT, loadA, rdCells, storeA, setAt, binA]
        refine W_loop_nat (fun kk e S2 => ∃ (i : Nat) (st : List Int), i + kk = ss.length ∧ e 1 = .ptr s.size 0 ∧ e 6 = .msl S.size 0 ss.length 1 ∧ e 36 = .int .i64 ss.length ∧ e 37 = .int .i64 i ∧ S2.obj S.size = some (.cells (icells st)) ∧ S.size < S2.size ∧ Keep S S2 ∧
          st.length = ss.length ∧ S3 st ∧ (∃ rk, Dn ss st rk) ∧ (∀ v, v < i → st[v]? = some 2 ∨ Self ss v) ∧ ∀ rk, Acy ss rk → ∀ w : Nat, st[w]? ≠ some 1) ?_ ss.length _ _
          ⟨0, List.replicate ss.length 0, by simp, ?_, ?_, ?_, ?_, new_eq rfl, by simp [St.new], (Keep.refl S).new' _, by simp, ?_, ⟨fun _ => 0, ?_⟩, fun v hv => by omega, ?_⟩
        · clear e1 e11 e12 e13
          rintro kk e S2 ⟨i, st, hik, e1, e6, e36, e37, hst, hzz, hk2, hsl, hs3, ⟨rk, hdn⟩, hdone, hno1⟩
          have hob2 := hk2.obj hz hob
          by_cases hi : i < ss.length
          · have hd : decide ((i : Int) < (ss.length : Int)) = true := by simp; omega
            obtain ⟨b, st', hcy⟩ := (cy_ex hrg (zc st) st (Nat.le_refl _) hs3 hsl).1 i hi
            have hlaw := cy_law hX hsv (fun j u hu => tyok_tsz (hall j u hu)) hcy hsl S2 hst hzz
            simp only [cf34_l0, e1, e6, e36, e37, hd, hob2, Nat.le_add_left, go_sem, ↓reduceIte, reduceCtorEq, Nat.reduceEqDiff, Nat.reduceAdd, Nat.reduceSub, Nat.reduceMul, Nat.reduceLeDiff, Nat.reduceLT, loadA, rdCells, storeA, setAt, binA]
            refine WO_callx _ rfl (hlaw.mono ?_)
            rintro v3 S3' ⟨rfl, ho3, hk3⟩
            have hk03 : Keep S S3' := ⟨by have := hk2.1; have := hk3.1; omega, fun j hj => (hk3.2 j (Nat.lt_of_lt_of_le hj hk2.1) (by omega)).trans (hk2.2 j hj)⟩
            cases b
            · simp only [e1, e6, e36, e37, wrapn (n := i) (by omega), go_sem, ↓reduceIte, reduceCtorEq, Nat.reduceEqDiff, Nat.reduceAdd, Nat.reduceSub, Nat.reduceMul, Nat.reduceLeDiff, Nat.reduceLT, loadA, rdCells, storeA, setAt, binA]
              obtain ⟨hdn', hone⟩ := cy_snd hcy rfl hsl hs3 rk hdn
              refine ⟨kk - 1, by omega, i + 1, st', by omega, rfl, ho3, by have := hk3.1; omega, hk03, (cy_len hcy).trans hsl, (cy_mono hcy hs3).1, hdn', fun v hv => ?_, fun rk' hac w hw => ?_⟩
              · by_cases hvi : v = i
                · subst hvi; exact hone
                · rcases hdone v (by omega) with h | h
                  · exact Or.inl ((cy_stay hcy v).2 h)
                  · exact Or.inr h
              · exact hno1 rk' hac w ((cy_acl hac hcy (fun x hx => absurd hx (hno1 rk' hac x))).2 w hw)
            · simp only [go_sem, ↓reduceIte, reduceCtorEq, Nat.reduceEqDiff, Nat.reduceAdd, Nat.reduceSub, Nat.reduceMul, Nat.reduceLeDiff, Nat.reduceLT, loadA, rdCells, storeA, setAt, binA]
              refine ⟨by simp, _, rfl, 8, rfl, ⟨(fun h => by cases h), fun h => ?_⟩, hkp.trans hk03⟩
              obtain ⟨rk', hac⟩ := h.2.2.1
              have := (cy_acl hac hcy (fun x hx => absurd hx (hno1 rk' hac x))).1
              cases this
          · obtain rfl : i = ss.length := by omega
            have hd : decide (((ss.length : Nat) : Int) < (ss.length : Int)) = false := by simp
            obtain ⟨rk', hac⟩ := cy_acy (fun j u hu => tyok_wt (hall j u hu)) hdn hdone
            simp only [cf34_l0, e1, e6, e36, e37, hd, hob2, Nat.le_add_left, go_sem, ↓reduceIte, reduceCtorEq, Nat.reduceEqDiff, Nat.reduceAdd, Nat.reduceSub, Nat.reduceMul, Nat.reduceLeDiff, Nat.reduceLT, loadA, rdCells, storeA, setAt, binA]
            refine WO_callx _ rfl ((sized_all hX hac (by omega) S2 (Or.inl hsv)).mono ?_)
            rintro v3 S3' ⟨rfl, hk3⟩
            simp only [go_sem, ↓reduceIte, reduceCtorEq, Nat.reduceEqDiff, Nat.reduceAdd, Nat.reduceSub, Nat.reduceMul, Nat.reduceLeDiff, Nat.reduceLT, loadA, rdCells, storeA, setAt, binA]
            exact ⟨by simp, _, rfl, _, rfl, ⟨fun h => ⟨hl, hall, ⟨rk', hac⟩, szd_0.1 h⟩, fun h => szd_0.2 h.2.2.2⟩, (hkp.trans hk2).trans hk3⟩
        · simp only [e1, go_sem, ↓reduceIte, reduceCtorEq, Nat.reduceEqDiff, Nat.reduceAdd, Nat.reduceSub, Nat.reduceMul, Nat.reduceLeDiff, Nat.reduceLT, loadA, rdCells, storeA, setAt, binA]
        · simp only [go_sem, ↓reduceIte, reduceCtorEq, Nat.reduceEqDiff, Nat.reduceAdd, Nat.reduceSub, Nat.reduceMul, Nat.reduceLeDiff, Nat.reduceLT, loadA, rdCells, storeA, setAt, binA]
        · simp only [go_sem, ↓reduceIte, reduceCtorEq, Nat.reduceEqDiff, Nat.reduceAdd, Nat.reduceSub, Nat.reduceMul, Nat.reduceLeDiff, Nat.reduceLT, loadA, rdCells, storeA, setAt, binA]
        · simp only [go_sem, ↓reduceIte, reduceCtorEq, Nat.reduceEqDiff, Nat.reduceAdd, Nat.reduceSub, Nat.reduceMul, Nat.reduceLeDiff, Nat.reduceLT, loadA, rdCells, storeA, setAt, binA]; rfl
        · intro v x hx
          rw [List.getElem?_replicate] at hx
          split at hx
          · cases hx; exact Or.inl rfl
          · cases hx
        · intro v u hx
          rw [List.getElem?_replicate] at hx
          split at hx <;> cases hx
        · intro rk' _ w hx
          rw [List.getElem?_replicate] at hx
          split at hx <;> cases hx
    · simp only [go_sem, ↓reduceIte, reduceCtorEq, Nat.reduceEqDiff, Nat.reduceAdd, Nat.reduceSub, Nat.reduceMul, Nat.reduceLeDiff, Nat.reduceLT, loadA, rdCells, storeA, setAt, binA]
    · simp only [go_sem, ↓reduceIte, reduceCtorEq, Nat.reduceEqDiff, Nat.reduceAdd, Nat.reduceSub, Nat.reduceMul, Nat.reduceLeDiff, Nat.reduceLT, loadA, rdCells, storeA, setAt, binA]
    · simp only [go_sem, ↓reduceIte, reduceCtorEq, Nat.reduceEqDiff, Nat.reduceAdd, Nat.reduceSub, Nat.reduceMul, Nat.reduceLeDiff, Nat.reduceLT, loadA, rdCells, storeA, setAt, binA]
    · simp only [go_sem, ↓reduceIte, reduceCtorEq, Nat.reduceEqDiff, Nat.reduceAdd, Nat.reduceSub, Nat.reduceMul, Nat.reduceLeDiff, Nat.reduceLT, loadA, rdCells, storeA, setAt, binA]; rfl
  · simp only [cf34, hlen, hcl, hg, go_sem, ↓reduceIte, reduceCtorEq, Nat.reduceEqDiff, Nat.reduceAdd, Nat.reduceSub, Nat.reduceMul, Nat.reduceLeDiff, Nat.reduceLT, loadA, rdCells, storeA, setAt, binA]
    refine ⟨by simp, _, rfl, 2, rfl, ⟨(fun h => by cases h), fun h => ?_⟩, (Keep.refl s).new' _⟩
    have := h.1
    have : (ss.length : Int) > 4096 := of_decide_eq_true hg
    omega
end Go.Am.U1

/- Extend and Unify at any substitution. Conditions: none. -/
namespace Go.Am.U1
open Go.Am.Un
set_option maxRecDepth 100000
set_option linter.unusedSimpArgs false
attribute [local go_sem] wseq COp.isStore wreg wdreg wret wskip wexit wblock wcnd cnd_t cnd_f then_n then_x then_r catch_n rnd_n rnd_x rnd_r catch_x catch_r wo_nil wo_grd grdO_t grdO_f wo_ops stpO wr_nil wr_alloc wr_guards grdR_t grdR_f wr_ops stpR evAllocs evOp env0_app eput_some eput_none eset_app Opd.ev wantedA faddrA snew_obj snew_size sput_obj sput_size av_cells av_one av_strip av_still unA eqbA fillA fldA lensA mmA mm2 mmFold List.getD_cons_zero List.getD_cons_succ List.getD_nil List.length_cons List.length_nil List.drop_zero List.drop_succ_cons List.take_succ_cons List.take_zero List.map_cons List.map_nil List.set_cons_zero List.set_cons_succ List.all_cons List.all_nil List.getElem?_cons_zero List.getElem?_cons_succ List.nil_append List.cons_append Nat.zero_add Nat.add_zero beq_self_eq_true bt bf Bool.not_true Bool.not_false Bool.and_true Bool.true_and Bool.and_false Bool.false_and and_self and_true true_and n0 n1 n2 n3 n4 m0 m1 m2 m3 c1 retA resAs resA undefA Option.map_some Option.map_none
variable {X : Ext}

/-- What Extend and Unify answer: the error, and the substitution then, or none. -/
def ExtN (ss' : List Tm) (e : Int) (s : St) (v : AV) (s' : St) : Prop :=
  ∃ rv, v = .tup [rv, .int .i64 e] ∧ (e = 0 → ∃ q, rv = .msl q 0 ss'.length 4 ∧ s'.obj q = some (.cells (ss'.flatMap tyc)) ∧ q < s'.size ∧ s.size ≤ q) ∧ (e ≠ 0 → rv = .nils) ∧ Keep s s'

theorem extN_law (hX : NoX X) {sv : AV} {ss ss' : List Tm} (hsv : ISl tyc sv ss) (h0 : 0 < ss.length) (hf : Fine ss) (hl : ss.length ≤ 4096) (a b : Tm) (e : Int) (hu : Un ss (.un a b) e ss') (hj : JWt ss.length (.un a b)) (s : St) :
    WC T X 47 [sv, .agg (tyc a), .agg (tyc b)] s (ExtN ss' e s) := by
  refine WC_fn cf47 (hX 47 (by decide)) T47 (by simp [cf47]) ?_
  have hcl := fun S => clone_law hX hsv h0 (by omega) S
  have hU := fun (b' p' : Nat) (S : St) (hne : b' ≠ p') (h : US S b' p' ss) => (un_law (b := b') hX hu hf hl hj) p' S hne h
  rw [tyc_w a, tyc_w b, tyw, tyw] at hU ⊢
  simp only [cf47, go_sem, ↓reduceIte, reduceCtorEq, Nat.reduceEqDiff, Nat.reduceAdd, Nat.reduceSub, Nat.reduceMul, Nat.reduceLeDiff, Nat.reduceLT, loadA, rdCells, storeA, setAt, binA]
  have hk1 := (((Keep.refl s).new' (.cells [.int .i64 (kof a), .str (nof a), .int .i64 (vof a), .sl (tycs (lof a)) (lof a).length false none])).new' (.cells [.int .i64 (kof b), .str (nof b), .int .i64 (vof b), .sl (tycs (lof b)) (lof b).length false none]))
  refine WO_callx _ rfl ((hcl _).mono ?_)
  rintro w S2 ⟨rfl, ho, hz, hk2⟩
  have hz2 := hk2.1
  simp only [St.new] at hz2 hz ho
  have e1 := hk2.2 s.size (by simp only [St.new]; omega)
  have e2 := hk2.2 (s.size + 1) (by simp only [St.new]; omega)
  simp only [go_sem, ↓reduceIte, reduceCtorEq, Nat.reduceEqDiff, Nat.reduceAdd, Nat.reduceSub, Nat.reduceMul, Nat.reduceLeDiff, Nat.reduceLT, loadA, rdCells, storeA, setAt, binA] at e1 e2
  have q1 : s.size < S2.size := by omega
  have q2 : s.size + 1 < S2.size := by omega
  simp only [e1, e2, ne_a q1, ne_b q1, ne_a q2, ne_b q2, Nat.le_add_left, go_sem, ↓reduceIte, reduceCtorEq, Nat.reduceEqDiff, Nat.reduceAdd, Nat.reduceSub, Nat.reduceMul, Nat.reduceLeDiff, Nat.reduceLT, loadA, rdCells, storeA, setAt, binA]
  refine WO_callx _ rfl ((hU S2.size (s.size + 1 + 1) _ (by omega) ⟨new_eq rfl, ?_, ?_, ?_⟩).mono ?_)
  · rw [new_ne (by omega)]; exact ho
  · simp [St.new]
  · simp only [St.new]; omega
  rintro w3 S3 ⟨rfl, p3, u3, hbp3, hpp3, k3⟩
  have g1 := u3.1
  have hk12 := hk1.trans hk2
  have hz3 := k3.1
  simp only [St.new] at hz3 hpp3
  have hkk : Keep s S3 := ⟨by omega, fun j hj => by
    rw [k3.2 j (by simp only [St.new]; omega) (by omega) (by omega), new_ne (by omega)]; exact hk12.2 j hj⟩
  simp only [go_sem, ↓reduceIte, reduceCtorEq, Nat.reduceEqDiff, Nat.reduceAdd, Nat.reduceSub, Nat.reduceMul, Nat.reduceLeDiff, Nat.reduceLT, loadA, rdCells, storeA, setAt, binA]
  cases hc : (e != 0)
  · simp only [g1, Nat.le_add_left, go_sem, ↓reduceIte, reduceCtorEq, Nat.reduceEqDiff, Nat.reduceAdd, Nat.reduceSub, Nat.reduceMul, Nat.reduceLeDiff, Nat.reduceLT, loadA, rdCells, storeA, setAt, binA]
    have he : e = 0 := by simpa using hc
    refine ⟨by simp, _, rfl, _, by rw [he], fun _ => ⟨_, rfl, u3.2.1, u3.2.2.2, by omega⟩, fun h => absurd he h, hkk⟩
  · simp only [go_sem, ↓reduceIte, reduceCtorEq, Nat.reduceEqDiff, Nat.reduceAdd, Nat.reduceSub, Nat.reduceMul, Nat.reduceLeDiff, Nat.reduceLT, loadA, rdCells, storeA, setAt, binA]
    have hne : e ≠ 0 := by simpa using hc
    exact ⟨by simp, _, rfl, _, rfl, fun h => absurd h hne, fun _ => rfl, hkk⟩

/-- What Unify answers: as Extend, if all is valid; otherwise an error. -/
def UniN (ss : List Tm) (a b : Tm) (e : Int) (ss' : List Tm) (s : St) (v : AV) (s' : St) : Prop :=
  ∃ e2, ExtN ss' e2 s v s' ∧ (CkOk ss ∧ TyOk ss.length a ∧ TyOk ss.length b → e2 = e) ∧ (¬ (CkOk ss ∧ TyOk ss.length a ∧ TyOk ss.length b) → e2 ≠ 0)

set_option maxHeartbeats 8000000 in
theorem unifyN_law (hX : NoX X) {sv : AV} {ss : List Tm} (hsv : ISl tyc sv ss) (h0 : 0 < ss.length) (hbl : ss.length ≤ 4398046511104) (ss' : List Tm) (a b : Tm) (wa wb : AV) (hwa : ISl tyc wa (lof a)) (hwb : ISl tyc wb (lof b)) (e : Int)
    (hun : CkOk ss → TyOk ss.length a → TyOk ss.length b → Un ss (.un a b) e ss') (s : St) :
    WC T X 15 [sv, .agg (tyw a wa), .agg (tyw b wb)] s (UniN ss a b e ss' s) := by
  refine WC_fn cf15 (hX 15 (by decide)) T15 (by simp [cf15]) ?_
  have hcl : sv.cells = [sv] := by rcases hsv with ⟨rfl, -⟩ | ⟨f, t, rfl⟩ <;> rfl
  have hck := fun S => checkG_law hX hsv hbl S
  have sa : AV.strip wa = .sl (tycs (lof a)) (lof a).length false none := by
    rcases hwa with ⟨rfl, h⟩ | ⟨f, tk, rfl⟩
    · rw [h, tycs]; rfl
    · rw [tycs_flat]; rfl
  have sb : AV.strip wb = .sl (tycs (lof b)) (lof b).length false none := by
    rcases hwb with ⟨rfl, h⟩ | ⟨f, tk, rfl⟩
    · rw [h, tycs]; rfl
    · rw [tycs_flat]; rfl
  simp only [cf15, tyw, hcl, go_sem, ↓reduceIte, reduceCtorEq, Nat.reduceEqDiff, Nat.reduceAdd, Nat.reduceSub, Nat.reduceMul, Nat.reduceLeDiff, Nat.reduceLT, loadA, rdCells, storeA, setAt, binA]
  refine WO_callx _ rfl ((hck _).mono ?_)
  rintro w S1 ⟨c, rfl, hcok, hk1⟩
  have hk01 := (((Keep.refl s).new' (.cells [sv])).new' (.cells [.int .i64 (kof a), .str (nof a), .int .i64 (vof a), wa])).new' (.cells [.int .i64 (kof b), .str (nof b), .int .i64 (vof b), wb]) |>.trans hk1
  cases hc : (c != 0)
  · have hc0 : c = 0 := by simpa using hc
    have hcs := hcok.1 hc0
    have hz1 := hk1.1
    simp only [St.new] at hz1
    have e0 := hk1.2 s.size (by simp only [St.new]; omega)
    have e1 := hk1.2 (s.size + 1) (by simp only [St.new]; omega)
    have e2 := hk1.2 (s.size + 1 + 1) (by simp only [St.new]; omega)
    simp only [go_sem, ↓reduceIte, reduceCtorEq, Nat.reduceEqDiff, Nat.reduceAdd, Nat.reduceSub, Nat.reduceMul, Nat.reduceLeDiff, Nat.reduceLT, loadA, rdCells, storeA, setAt, binA] at e0 e1 e2
    simp only [hc, e0, e1, e2, sa, sb, Nat.le_add_left, go_sem, ↓reduceIte, reduceCtorEq, Nat.reduceEqDiff, Nat.reduceAdd, Nat.reduceSub, Nat.reduceMul, Nat.reduceLeDiff, Nat.reduceLT, loadA, rdCells, storeA, setAt, binA]
    have hsl : lenA sv = some (.int .i64 ss.length) := hsv.len
    refine W_loop_nat (fun kk e S => ∃ (i : Nat), i + kk = 2 ∧ e 3 = .ptr s.size 0 ∧ e 4 = .ptr (s.size + 1) 0 ∧ e 5 = .ptr (s.size + 1 + 1) 0 ∧ e 19 = .agg [.int .i64 (kof a), .str (nof a), .int .i64 (vof a), .sl (tycs (lof a)) (lof a).length false none, .int .i64 (kof b), .str (nof b), .int .i64 (vof b), .sl (tycs (lof b)) (lof b).length false none] ∧ e 20 = .int .i64 i ∧ s.size + 1 + 1 < S.size ∧
        S.obj s.size = some (.cells [sv]) ∧ S.obj (s.size + 1) = some (.cells [.int .i64 (kof a), .str (nof a), .int .i64 (vof a), wa]) ∧ S.obj (s.size + 1 + 1) = some (.cells [.int .i64 (kof b), .str (nof b), .int .i64 (vof b), wb]) ∧ Keep s S ∧ (0 < i → TyOk ss.length a) ∧ (1 < i → TyOk ss.length b)) ?_ 2 _ _
      ⟨0, by simp, ?_, ?_, ?_, ?_, ?_, by omega, e0, e1, e2, hk01, fun h => by omega, fun h => by omega⟩
    · rintro kk e' S ⟨i, hik, i3, i4, i5, i19, i20, hz, o0, o1, o2, hkp, oka, okb⟩
      by_cases hi : i < 2
      · have hd : decide ((i : Int) < (2 : Int)) = true := by simp; omega
        obtain ⟨t, ht, htt⟩ : ∃ t, idxaA true 2 4 (.agg [.int .i64 (kof a), .str (nof a), .int .i64 (vof a), .sl (tycs (lof a)) (lof a).length false none, .int .i64 (kof b), .str (nof b), .int .i64 (vof b), .sl (tycs (lof b)) (lof b).length false none]) (.int .i64 i) = some (.agg [.int .i64 (kof t), .str (nof t), .int .i64 (vof t), .sl (tycs (lof t)) (lof t).length false none]) ∧ ((i = 0 ∧ t = a) ∨ (i = 1 ∧ t = b)) := by
          have : i = 0 ∨ i = 1 := by omega
          rcases this with rfl | rfl
          · exact ⟨a, rfl, Or.inl ⟨rfl, rfl⟩⟩
          · exact ⟨b, rfl, Or.inr ⟨rfl, rfl⟩⟩
        have hckt := fun S1 b ho hb => check_law hX b (tsz t) t (Nat.le_refl _) _ 1 4096 (decide (kof t ≥ 4)) S1 (isl_tycs (lof t)) (by omega) (by omega) (by omega) (by omega) ho hb
        simp only [tyw] at hckt
        have p0 : s.size < S.size := by omega
        have p1 : s.size + 1 < S.size := by omega
        have hnot : ¬ TyOk ss.length t → ¬ (CkOk ss ∧ TyOk ss.length a ∧ TyOk ss.length b) := by
          rintro h ⟨-, h1, h2⟩
          rcases htt with ⟨-, rfl⟩ | ⟨-, rfl⟩
          · exact h h1
          · exact h h2
        simp only [cf15_l0, i3, i4, i5, i19, i20, hd, ht, Nat.le_add_left, go_sem, ↓reduceIte, reduceCtorEq, Nat.reduceEqDiff, Nat.reduceAdd, Nat.reduceSub, Nat.reduceMul, Nat.reduceLeDiff, Nat.reduceLT, loadA, rdCells, storeA, setAt, binA]
        refine WO_callx _ rfl ((hckt _ (S.size + 1) (new_eq (by simp [St.new, St.put])) (by simp [St.new, St.put])).mono ?_)
        rintro w2 S2 ⟨rfl, -, hk2⟩
        have hz2 := hk2.1
        simp only [St.new, St.put] at hz2
        have c0 := hk2.2 S.size (by simp only [St.new, St.put]; omega) (by omega)
        simp only [go_sem, ↓reduceIte, reduceCtorEq, Nat.reduceEqDiff, Nat.reduceAdd, Nat.reduceSub, Nat.reduceMul, Nat.reduceLeDiff, Nat.reduceLT, loadA, rdCells, storeA, setAt, binA] at c0
        have hk02 : Keep S S2 := ⟨by omega, fun j hj => by
          rw [hk2.2 _ (by simp only [St.new, St.put]; omega) (by omega), new_ne (by simp only [St.new, St.put]; omega), put_ne (by omega), new_ne (by omega)]⟩
        cases hct : ((chk (decide (kof t ≥ 4)) 1 4096 t).1 != 0)
        · have hct0 : (chk (decide (kof t ≥ 4)) 1 4096 t).1 = 0 := by simpa using hct
          have hts := chk_tsz hct0
          have hfl := fre_len t
          have hfrt := fun S1 => free_law hX (tsz t) t (Nat.le_refl _) (by omega) _ S1 (isl_tycs (lof t))
          simp only [tyw] at hfrt
          simp only [i3, i4, i5, i19, i20, hct, c0, Nat.le_add_left, go_sem, ↓reduceIte, reduceCtorEq, Nat.reduceEqDiff, Nat.reduceAdd, Nat.reduceSub, Nat.reduceMul, Nat.reduceLeDiff, Nat.reduceLT, loadA, rdCells, storeA, setAt, binA]
          refine WO_callx _ rfl ((hfrt _).mono ?_)
          rintro fv S3 ⟨hfv, hk3⟩
          have hk03 := hk02.trans hk3
          simp only [i3, i4, i5, i19, i20, go_sem, ↓reduceIte, reduceCtorEq, Nat.reduceEqDiff, Nat.reduceAdd, Nat.reduceSub, Nat.reduceMul, Nat.reduceLeDiff, Nat.reduceLT, loadA, rdCells, storeA, setAt, binA]
          refine WO_callx _ rfl ((contains_fi hX hfv (by omega) 46 [.ptr s.size 0] (fun x => decide (x ≥ (ss.length : Int))) S3 (fun x S4 _ hk4 => clo46_law hX x ss.length s.size sv hsl S4 (hk4.obj (hk03.lt p0) (hk03.obj p0 o0)))).mono ?_)
          rintro v5 S5 ⟨rfl, hk5⟩
          have hk05 := hk03.trans hk5
          cases hft : (fre t).any (fun x => decide (x ≥ (ss.length : Int)))
          · simp only [i3, i4, i5, i19, i20, hft, wrapn (n := i) (by omega), go_sem, ↓reduceIte, reduceCtorEq, Nat.reduceEqDiff, Nat.reduceAdd, Nat.reduceSub, Nat.reduceMul, Nat.reduceLeDiff, Nat.reduceLT, loadA, rdCells, storeA, setAt, binA]
            refine ⟨kk - 1, by omega, i + 1, by omega, rfl, hk05.lt hz, hk05.obj p0 o0, hk05.obj p1 o1, hk05.obj hz o2, hkp.trans hk05, fun _ => ?_, fun h => ?_⟩
            · rcases htt with ⟨-, rfl⟩ | ⟨rfl, -⟩
              · exact ⟨hct0, hft⟩
              · exact oka (by omega)
            · rcases htt with ⟨rfl, -⟩ | ⟨-, rfl⟩
              · omega
              · exact ⟨hct0, hft⟩
          · simp only [hft, go_sem, ↓reduceIte, reduceCtorEq, Nat.reduceEqDiff, Nat.reduceAdd, Nat.reduceSub, Nat.reduceMul, Nat.reduceLeDiff, Nat.reduceLT, loadA, rdCells, storeA, setAt, binA]
            refine ⟨by simp, _, rfl, 4, ⟨_, rfl, (fun h => by cases h), fun _ => rfl, hkp.trans hk05⟩, fun h => absurd h (hnot fun h => by have := h.2; rw [hft] at this; cases this), fun _ => by decide⟩
        · simp only [hct, go_sem, ↓reduceIte, reduceCtorEq, Nat.reduceEqDiff, Nat.reduceAdd, Nat.reduceSub, Nat.reduceMul, Nat.reduceLeDiff, Nat.reduceLT, loadA, rdCells, storeA, setAt, binA]
          have hne : (chk (decide (kof t ≥ 4)) 1 4096 t).1 ≠ 0 := by simpa using hct
          exact ⟨by simp, _, rfl, _, ⟨_, rfl, (fun h => absurd h hne), fun _ => rfl, hkp.trans hk02⟩, fun h => absurd h (hnot fun h => hne h.1), fun _ => hne⟩
      · obtain rfl : i = 2 := by omega
        have hd : decide (((2 : Nat) : Int) < (2 : Int)) = false := rfl
        have hA := oka (by omega)
        have hB := okb (by omega)
        have hE' := extN_law hX hsv h0 (ckok_fine hcs) hcs.1 a b e (hun hcs hA hB) ⟨tyok_wt hA, tyok_wt hB⟩ S
        rw [tyc_w a, tyc_w b, tyw, tyw] at hE'
        simp only [cf15_l0, i3, i4, i5, i19, i20, hd, o0, o1, o2, sa, sb, Nat.le_add_left, go_sem, ↓reduceIte, reduceCtorEq, Nat.reduceEqDiff, Nat.reduceAdd, Nat.reduceSub, Nat.reduceMul, Nat.reduceLeDiff, Nat.reduceLT, loadA, rdCells, storeA, setAt, binA]
        refine WO_callx _ rfl (hE'.mono ?_)
        rintro w2 S2 ⟨rv, rfl, hq, hqn, hk2⟩
        simp only [go_sem, ↓reduceIte, reduceCtorEq, Nat.reduceEqDiff, Nat.reduceAdd, Nat.reduceSub, Nat.reduceMul, Nat.reduceLeDiff, Nat.reduceLT, loadA, rdCells, storeA, setAt, binA]
        refine ⟨by simp, _, rfl, e, ⟨rv, rfl, fun h => ?_, hqn, hkp.trans hk2⟩, fun _ => rfl, fun h => absurd ⟨hcs, hA, hB⟩ h⟩
        obtain ⟨q, q1, q2, q3, q4⟩ := hq h
        exact ⟨q, q1, q2, q3, by have := hkp.1; omega⟩
    · simp only [go_sem, ↓reduceIte, reduceCtorEq, Nat.reduceEqDiff, Nat.reduceAdd, Nat.reduceSub, Nat.reduceMul, Nat.reduceLeDiff, Nat.reduceLT, loadA, rdCells, storeA, setAt, binA]
    · simp only [go_sem, ↓reduceIte, reduceCtorEq, Nat.reduceEqDiff, Nat.reduceAdd, Nat.reduceSub, Nat.reduceMul, Nat.reduceLeDiff, Nat.reduceLT, loadA, rdCells, storeA, setAt, binA]
    · simp only [go_sem, ↓reduceIte, reduceCtorEq, Nat.reduceEqDiff, Nat.reduceAdd, Nat.reduceSub, Nat.reduceMul, Nat.reduceLeDiff, Nat.reduceLT, loadA, rdCells, storeA, setAt, binA]
    · simp only [go_sem, ↓reduceIte, reduceCtorEq, Nat.reduceEqDiff, Nat.reduceAdd, Nat.reduceSub, Nat.reduceMul, Nat.reduceLeDiff, Nat.reduceLT, loadA, rdCells, storeA, setAt, binA]
    · simp only [go_sem, ↓reduceIte, reduceCtorEq, Nat.reduceEqDiff, Nat.reduceAdd, Nat.reduceSub, Nat.reduceMul, Nat.reduceLeDiff, Nat.reduceLT, loadA, rdCells, storeA, setAt, binA]; rfl
  · have hne : c ≠ 0 := by simpa using hc
    simp only [hc, go_sem, ↓reduceIte, reduceCtorEq, Nat.reduceEqDiff, Nat.reduceAdd, Nat.reduceSub, Nat.reduceMul, Nat.reduceLeDiff, Nat.reduceLT, loadA, rdCells, storeA, setAt, binA]
    exact ⟨by simp, _, rfl, c, ⟨_, rfl, (fun h => absurd h hne), fun _ => rfl, hk01⟩, fun h => absurd (hcok.2 h.1) hne, fun _ => hne⟩
end Go.Am.U1

/- A law of a table's function holds in a table with more functions. Conditions: none. -/
namespace Go.Am

/-- A table with more functions. -/
structure Sub (T : Nat → Option CF) (X : Ext) (T' : Nat → Option CF) (X' : Ext) : Prop where
  ext : ∀ f h, X f = some h → ∃ h', X' f = some h' ∧ ∀ a s r, h a s = some r → h' a s = some r
  fn : ∀ f cf, X f = none → T f = some cf → X' f = none ∧ T' f = some cf

theorem sub1 {T T' : Nat → Option CF} {X X' : Ext} (hs : Sub T X T' X') : ∀ n, (∀ c e s r, ev T X n c e s = some r → ev T' X' n c e s = some r) ∧ CLe (evCall T X n) (evCall T' X' n)
  | 0 => ⟨fun c e s r h => by simp [ev] at h, fun f a s r h => by simp [evCall] at h⟩
  | n + 1 => by
    obtain ⟨h1, h2⟩ := sub1 hs n
    refine ⟨fun c e s r h => ?_, fun f a s r h => ?_⟩
    · cases c with
      | skip => simpa [ev] using h
      | exit => simpa [ev] using h
      | ret => simpa [ev] using h
      | bad => simp [ev] at h
      | back => simp [ev] at h
      | reg ops =>
        simp only [ev] at h ⊢
        split at h
        · rename_i e' s' ho
          have := evOps_mono h2 _ _ _ _ ho
          simp only [this]; exact h
        · cases h
      | dreg ops chk =>
        simp only [ev] at h ⊢
        split at h
        · rename_i e' s' ho
          have := evRest_mono h2 _ _ _ _ ho
          simp only [this]
          split at h
          · rename_i hc
            rw [if_pos]
            · exact h
            · rw [List.all_eq_true] at hc ⊢
              exact fun p hp => chk1_mono h2 (fun k x hk => evTr_mono h2 _ _ _ _ _ hk) (hc p hp)
          · cases h
        · cases h
      | seq a b =>
        rw [ev] at h ⊢
        split at h
        · rename_i e' s' ha
          rw [h1 _ _ _ _ ha]
          exact h1 _ _ _ _ h
        · rename_i hn
          cases ho : ev T X n a e s with
          | none => rw [ho] at h; cases h
          | some q =>
            rw [ho] at h
            rw [h1 _ _ _ _ ho]
            obtain ⟨x, e', s'⟩ := q
            cases x with
            | normal => exact absurd ho (by simpa using hn e' s')
            | exit j => exact h
            | ret => exact h
      | cond c a b =>
        rw [ev] at h ⊢
        split at h
        · exact h1 _ _ _ _ h
        · exact h1 _ _ _ _ h
        · cases h
      | block id b =>
        rw [ev] at h ⊢
        cases ho : ev T X n b e s with
        | none => rw [ho] at h; cases h
        | some q => rw [ho] at h; rw [h1 _ _ _ _ ho]; exact h
      | loop b =>
        rw [ev] at h ⊢
        split at h
        · rename_i e' s' ha
          rw [h1 _ _ _ _ ha]
          exact h1 _ _ _ _ h
        · rename_i hn
          cases ho : ev T X n b e s with
          | none => rw [ho] at h; cases h
          | some q =>
            rw [ho] at h
            rw [h1 _ _ _ _ ho]
            obtain ⟨x, e', s'⟩ := q
            cases x with
            | normal => exact absurd ho (by simpa using hn e' s')
            | exit j => exact h
            | ret => exact h
    · rw [evCall] at h ⊢
      split at h
      · rename_i g hX
        obtain ⟨h', hX', hle⟩ := hs.ext _ _ hX
        rw [hX']
        exact hle _ _ _ h
      · rename_i hX
        split at h
        · cases h
        · rename_i cf hT
          obtain ⟨hX', hT'⟩ := hs.fn _ _ hX hT
          simp only [hX', hT']
          split at h
          · rename_i hl
            rw [if_pos hl]
            cases ho : ev T X n cf.body (env0 a) s with
            | none => rw [ho] at h; cases h
            | some q => rw [ho] at h; rw [h1 _ _ _ _ ho]; exact h
          · cases h

theorem WC.sub {T T' : Nat → Option CF} {X X' : Ext} (hs : Sub T X T' X') {f : Nat} {args : List AV} {s : St} {Q : AV → St → Prop} (h : WC T X f args s Q) : WC T' X' f args s Q :=
  let ⟨n, v, s', h1, h2⟩ := h
  ⟨n, v, s', (sub1 hs n).2 _ _ _ _ h1, h2⟩
end Go.Am
