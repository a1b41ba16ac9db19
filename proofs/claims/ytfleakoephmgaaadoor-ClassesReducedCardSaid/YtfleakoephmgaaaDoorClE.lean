/- Instances: its check. Conditions: none. -/
import Derived.Test.YtfleakoephmgaaaDoorClD
set_option linter.unusedSimpArgs false
set_option linter.unusedVariables false
namespace Go.Am.U3
open Go.Am.Un Go.So
open Go.Am.U1 (NoX drop_at ne_a ne_b ne_c ne_d avr tyw tyc_w tycP isl_tycs len_tszs tsz_pos)
set_option maxRecDepth 100000
set_option linter.unusedSimpArgs false
attribute [local go_sem] wseq COp.isStore wreg wdreg wret wskip wexit wblock wcnd cnd_t cnd_f then_n then_x then_r catch_n rnd_n rnd_x rnd_r catch_x catch_r wo_nil wo_grd grdO_t grdO_f wo_ops stpO wr_nil wr_alloc wr_guards grdR_t grdR_f wr_ops stpR evAllocs evOp env0_app eput_some eput_none eset_app Opd.ev wantedA faddrA snew_obj snew_size sput_obj sput_size av_cells av_one av_strip av_still unA eqbA fillA fldA lensA mmA mm2 mmFold List.getD_cons_zero List.getD_cons_succ List.getD_nil List.length_cons List.length_nil List.drop_zero List.drop_succ_cons List.take_succ_cons List.take_zero List.map_cons List.map_nil List.set_cons_zero List.set_cons_succ List.all_cons List.all_nil List.getElem?_cons_zero List.getElem?_cons_succ List.nil_append List.cons_append Nat.zero_add Nat.add_zero beq_self_eq_true bt bf Bool.not_true Bool.not_false Bool.and_true Bool.true_and Bool.and_false Bool.false_and and_self and_true true_and n0 n1 n2 n3 n4 m0 m1 m2 m3 c1 retA resAs resA undefA Option.map_some Option.map_none
variable {X : Ext}

theorem chk_tsz' {t : Tm} (h : (chk false 1 4096 t).1 = 0) : tsz t ≤ 4096 := U1.chk_tsz h
theorem wt_un {T : Nat → Option CF} {X : Ext} {d : Option Nat} {r : List CO} {g : Option Nat × Bool} {e : Env} {s : St} {U : List (Env × St) → Env → St → Prop} {x0 : UnOp} {x1 : Opd} : WT T X (⟨d, some g, .un x0 x1⟩ :: r) e s U ↔ GrdT T X (wantedA e (some g)) d (.un x0 x1) r e s U := wt_grd rfl
theorem clo81_law (hX : NoX X) (x y : In) (p : Nat) (s : St) (ho : s.obj p = some (.cells (inc y))) (hp : p < s.size) : WC T X 81 [.agg (inc x), .ptr p 0] s (fun v s' => v = .bool (sq x.cls y.cls && sq (nof x.hd) (nof y.hd)) ∧ Keep s s') := by
  refine WC_fn cf81 (hX 81 (by decide)) T81 (by simp [cf81]) ?_
  simp only [inc] at ho ⊢
  cases h1 : (x.cls.toList == y.cls.toList)
  · simp only [cf81, ho, h1, ne_a hp, ne_b hp, Nat.le_add_left, go_sem, ↓reduceIte, reduceCtorEq, Nat.reduceEqDiff, Nat.reduceAdd, Nat.reduceSub, Nat.reduceMul, Nat.reduceLeDiff, Nat.reduceLT, loadA, rdCells, storeA, setAt, binA]
    exact ⟨by simp, _, rfl, by unfold sq; rw [h1]; rfl, (Keep.refl s).new' _⟩
  · simp only [cf81, ho, h1, ne_a hp, ne_b hp, Nat.le_add_left, go_sem, ↓reduceIte, reduceCtorEq, Nat.reduceEqDiff, Nat.reduceAdd, Nat.reduceSub, Nat.reduceMul, Nat.reduceLeDiff, Nat.reduceLT, loadA, rdCells, storeA, setAt, binA]
    exact ⟨by simp, _, rfl, by unfold sq; rw [h1]; rfl, (Keep.refl s).new' _⟩

set_option maxHeartbeats 16000000 in
theorem inst_law (hX : NoX X) {lv iv : AV} {l : List Cl} {ins : List In} (hl : ISl clc lv l) (hi : ISl inc iv ins) (hs : ∀ c, c ∈ l → c.sup.length ≤ 8796093022208) (hbl : l.length ≤ 8796093022208) (hbi : ins.length ≤ 8796093022208) (hpl : ∀ x, x ∈ ins → x.pre.length ≤ 8796093022208) (s : St) :
    WC T X 62 [lv, iv] s (fun v s' => v = .int .i64 (inst l ins) ∧ Keep s s') := by
  refine WC_fn cf62 (hX 62 (by decide)) T62 (by simp [cf62]) ?_
  have hilen := hi.len
  simp only [cf62, go_sem, ↓reduceIte, reduceCtorEq, Nat.reduceEqDiff, Nat.reduceAdd, Nat.reduceSub, Nat.reduceMul, Nat.reduceLeDiff, Nat.reduceLT, loadA, rdCells, storeA, setAt, binA]
  refine WO_callx _ rfl ((chkC_law hX hl hs s hbl).mono ?_)
  rintro w S1 ⟨rfl, hk1⟩
  cases hc : (chkC l != 0)
  · cases hg : decide ((ins.length : Int) > 4096)
    · have hi4 : ins.length ≤ 4096 := by have : ¬ ((ins.length : Int) > 4096) := of_decide_eq_false hg; omega
      simp only [hc, hilen, hg, go_sem, ↓reduceIte, reduceCtorEq, Nat.reduceEqDiff, Nat.reduceAdd, Nat.reduceSub, Nat.reduceMul, Nat.reduceLeDiff, Nat.reduceLT, loadA, rdCells, storeA, setAt, binA]
      refine W_loop_nat (fun k e S => ∃ i, i + k = ins.length ∧ e 0 = lv ∧ e 1 = iv ∧ e 23 = iv ∧ e 24 = .int .i64 ins.length ∧ e 25 = .int .i64 i ∧ insA l [] ins = insA l (ins.take i) (ins.drop i) ∧ Keep s S) ?_ ins.length _ _ ⟨0, by simp, ?_, ?_, ?_, ?_, ?_, by simp, hk1⟩
      · rintro k e S ⟨i, hik, e0, e1, e23, e24, e25, hf, hk⟩
        by_cases hin : i < ins.length
        · obtain ⟨x, hx⟩ : ∃ x, ins[i]? = some x := ⟨_, List.getElem?_eq_getElem hin⟩
          have hd : decide ((i : Int) < (ins.length : Int)) = true := by simp; omega
          have hat := hi.at incP.len hx
          have hpx := hpl x (List.mem_of_getElem? hx)
          obtain ⟨w, hsl, hw⟩ := hi.take incP.len (Nat.le_of_lt hin)
          have hlt : (ins.take i).length ≤ 8796093022208 := by rw [List.length_take]; omega
          have hfd : insA l (ins.take i) (ins.drop i) = bif (ins1 l (ins.take i) x != 0) then ins1 l (ins.take i) x else insA l (ins.take (i + 1)) (ins.drop (i + 1)) := by
            rw [drop_at hx, insA, List.take_add_one, hx]; rfl
          have hres : ∀ r, ins1 l (ins.take i) x = r → r ≠ 0 → inst l ins = r := fun r h1 h2 => by
            have h3 : (r != 0) = true := by simpa using h2
            rw [inst, hc, hg, hf, hfd, h1, h3]; rfl
          simp only [inc, List.cons_append, List.nil_append] at hat
          obtain ⟨S', hS'⟩ : ∃ S', S' = (S.new (.cells [.str ⟨#[]⟩, .int .i64 0, .str ⟨#[]⟩, .int .i64 0, .nils, .nils])).put S.size (some (.cells [.str x.cls, .int .i64 (kof x.hd), .str (nof x.hd), .int .i64 (vof x.hd), .sl (tycs (lof x.hd)) (lof x.hd).length false none, .sl (x.pre.flatMap prc) x.pre.length false none])) := ⟨_, rfl⟩
          have hkS : Keep S S' := by rw [hS']; exact ((Keep.refl S).new' _).put' (Nat.le_refl _) _
          have oS : S'.obj S.size = some (.cells [.str x.cls, .int .i64 (kof x.hd), .str (nof x.hd), .int .i64 (vof x.hd), .sl (tycs (lof x.hd)) (lof x.hd).length false none, .sl (x.pre.flatMap prc) x.pre.length false none]) := by rw [hS', put_eq]
          have zS : S.size < S'.size := by rw [hS']; simp [St.new, St.put]
          simp only [cf62_l1, e0, e1, e23, e24, e25, hd, hat, Nat.le_add_left, go_sem, ↓reduceIte, reduceCtorEq, Nat.reduceEqDiff, Nat.reduceAdd, Nat.reduceSub, Nat.reduceMul, Nat.reduceLeDiff, Nat.reduceLT, loadA, rdCells, storeA, setAt, binA]
          rw [← hS']
          refine WO_callx _ rfl ((find_law hX hl hbl x.cls S').mono ?_)
          rintro w2 S2 ⟨rfl, hk2⟩
          have oS2 := hk2.obj zS oS
          have zS2 := hk2.lt zS
          have hk02 := (hk.trans hkS).trans hk2
          simp only [clc, e0, e1, e23, e24, e25, Nat.le_add_left, go_sem, ↓reduceIte, reduceCtorEq, Nat.reduceEqDiff, Nat.reduceAdd, Nat.reduceSub, Nat.reduceMul, Nat.reduceLeDiff, Nat.reduceLT, loadA, rdCells, storeA, setAt, binA]
          obtain ⟨S3, hS3⟩ : ∃ S3, S3 = (S2.new (.cells [.str ⟨#[]⟩, .nils, .nils])).put S2.size (some (.cells [.str (fnd l x.cls).name, .sl ((fnd l x.cls).sup.flatMap scc) (fnd l x.cls).sup.length false none, .sl (fnd l x.cls).ops (fnd l x.cls).opn false none])) := ⟨_, rfl⟩
          have hk23 : Keep S2 S3 := by rw [hS3]; exact ((Keep.refl S2).new' _).put' (Nat.le_refl _) _
          rw [← hS3]
          have oS3 := hk23.obj zS2 oS2
          have zS3 := hk23.lt zS2
          have hk03 := hk02.trans hk23
          cases hq : isC l x.cls
          · simp only [hq, go_sem, ↓reduceIte, reduceCtorEq, Nat.reduceEqDiff, Nat.reduceAdd, Nat.reduceSub, Nat.reduceMul, Nat.reduceLeDiff, Nat.reduceLT, loadA, rdCells, storeA, setAt, binA]
            exact ⟨by simp, _, rfl, by rw [hres 6 (by rw [ins1, hq]; rfl) (by decide)], hk03⟩
          · have hck := fun S => (U1.check18_law hX x.hd _ (isl_tycs (lof x.hd)) S).sub U2.sub |>.sub sub
            simp only [tyw] at hck
            simp only [hq, oS3, e0, e1, e23, e24, e25, Nat.le_add_left, go_sem, ↓reduceIte, reduceCtorEq, Nat.reduceEqDiff, Nat.reduceAdd, Nat.reduceSub, Nat.reduceMul, Nat.reduceLeDiff, Nat.reduceLT, loadA, rdCells, storeA, setAt, binA]
            refine WO_callx _ rfl ((hck _).mono ?_)
            rintro w4 S4 ⟨rfl, hk34⟩
            have oS4 := hk34.obj zS3 oS3
            have zS4 := hk34.lt zS3
            have hk04 := hk03.trans hk34
            cases hch : ((chk false 1 4096 x.hd).1 != 0)
            · have htz := chk_tsz' (t := x.hd) (by simpa using hch)
              have hhd := fun S => headed_law hX x.hd htz S
              rw [tyc_w, tyw] at hhd
              simp only [hch, oS4, e0, e1, e23, e24, e25, Nat.le_add_left, go_sem, ↓reduceIte, reduceCtorEq, Nat.reduceEqDiff, Nat.reduceAdd, Nat.reduceSub, Nat.reduceMul, Nat.reduceLeDiff, Nat.reduceLT, loadA, rdCells, storeA, setAt, binA]
              refine WO_callx _ rfl ((hhd _).mono ?_)
              rintro w5 S5 ⟨rfl, hk45⟩
              have oS5 := hk45.obj zS4 oS4
              have zS5 := hk45.lt zS4
              have hk05 := hk04.trans hk45
              cases hh : headed x.hd
              · simp only [hh, go_sem, ↓reduceIte, reduceCtorEq, Nat.reduceEqDiff, Nat.reduceAdd, Nat.reduceSub, Nat.reduceMul, Nat.reduceLeDiff, Nat.reduceLT, loadA, rdCells, storeA, setAt, binA]
                exact ⟨by simp, _, rfl, by rw [hres 3 (by rw [ins1, hq, hch, hh]; rfl) (by decide)], hk05⟩
              · have hprs : ISl prc (.sl (x.pre.flatMap prc) x.pre.length false none) x.pre := Or.inr ⟨_, _, rfl⟩
                have hplen := hprs.len
                simp only [hh, oS5, hplen, e0, e1, e23, e24, e25, Nat.le_add_left, go_sem, ↓reduceIte, reduceCtorEq, Nat.reduceEqDiff, Nat.reduceAdd, Nat.reduceSub, Nat.reduceMul, Nat.reduceLeDiff, Nat.reduceLT, loadA, rdCells, storeA, setAt, binA]
                have hfr := fun S => ((U1.free_law hX (tsz x.hd) x.hd (Nat.le_refl _) (by omega) _ S (isl_tycs (lof x.hd))).sub U2.sub).sub sub
                simp only [tyw] at hfr
                have hfl := U1.fre_len x.hd
                refine W_loop_nat (fun kk e T0 => ∃ j, j + kk = x.pre.length ∧ e 0 = lv ∧ e 1 = iv ∧ e 6 = .int .i64 i ∧ e 7 = .ptr S.size 0 ∧ e 23 = iv ∧ e 24 = .int .i64 ins.length ∧ e 25 = .int .i64 i ∧ e 50 = .sl (x.pre.flatMap prc) x.pre.length false none ∧ e 51 = .int .i64 x.pre.length ∧ e 52 = .int .i64 j ∧ prs l x.hd x.pre = prs l x.hd (x.pre.drop j) ∧ Keep S5 T0) ?_ x.pre.length _ _
                  ⟨0, by simp, ?_, ?_, ?_, ?_, ?_, ?_, ?_, ?_, ?_, ?_, by simp, Keep.refl S5⟩
                · clear e0 e1 e23 e24 e25
                  rintro kk e T0 ⟨j, hjk, e0, e1, e6, e7, e23, e24, e25, e50, e51, e52, hfp, hkT⟩
                  have oT := hkT.obj zS5 oS5
                  have zT := hkT.lt zS5
                  by_cases hj : j < x.pre.length
                  · obtain ⟨p, hp⟩ : ∃ p, x.pre[j]? = some p := ⟨_, List.getElem?_eq_getElem hj⟩
                    have hdj : decide ((j : Int) < (x.pre.length : Int)) = true := by simp; omega
                    have hatp := hprs.at prcP.len hp
                    have hfx : prs l x.hd (x.pre.drop j) = bif !(isC l p.cls) then 6 else bif (kof p.ty != 0) then 3 else bif !((fre x.hd).contains (vof p.ty)) then 3 else prs l x.hd (x.pre.drop (j + 1)) := by rw [drop_at hp, prs]
                    have hresp : ∀ r, prs l x.hd x.pre = r → r ≠ 0 → inst l ins = r := fun r h1 h2 => by
                      have h3 : (r != 0) = true := by simpa using h2
                      exact hres r (by rw [ins1, hq, hch, hh, h1, h3]; rfl) h2
                    simp only [prc, List.cons_append, List.nil_append] at hatp
                    simp only [cf62_l0, e0, e1, e6, e7, e23, e24, e25, e50, e51, e52, hdj, hatp, Nat.le_add_left, go_sem, ↓reduceIte, reduceCtorEq, Nat.reduceEqDiff, Nat.reduceAdd, Nat.reduceSub, Nat.reduceMul, Nat.reduceLeDiff, Nat.reduceLT, loadA, rdCells, storeA, setAt, binA]
                    obtain ⟨T1, hT1⟩ : ∃ T1, T1 = (T0.new (.cells [.str ⟨#[]⟩, .int .i64 0, .str ⟨#[]⟩, .int .i64 0, .nils])).put T0.size (some (.cells [.str p.cls, .int .i64 (kof p.ty), .str (nof p.ty), .int .i64 (vof p.ty), .sl (tycs (lof p.ty)) (lof p.ty).length false none])) := ⟨_, rfl⟩
                    have hk1 : Keep T0 T1 := by rw [hT1]; exact ((Keep.refl T0).new' _).put' (Nat.le_refl _) _
                    have oP : T1.obj T0.size = some (.cells [.str p.cls, .int .i64 (kof p.ty), .str (nof p.ty), .int .i64 (vof p.ty), .sl (tycs (lof p.ty)) (lof p.ty).length false none]) := by rw [hT1, put_eq]
                    have zP : T0.size < T1.size := by rw [hT1]; simp [St.new, St.put]
                    rw [← hT1]
                    refine WO_callx _ rfl ((find_law hX hl hbl p.cls T1).mono ?_)
                    rintro w6 T2 ⟨rfl, hk2'⟩
                    obtain ⟨T3, hT3⟩ : ∃ T3, T3 = (T2.new (.cells [.str ⟨#[]⟩, .nils, .nils])).put T2.size (some (.cells [.str (fnd l p.cls).name, .sl ((fnd l p.cls).sup.flatMap scc) (fnd l p.cls).sup.length false none, .sl (fnd l p.cls).ops (fnd l p.cls).opn false none])) := ⟨_, rfl⟩
                    have hk3' : Keep T2 T3 := by rw [hT3]; exact ((Keep.refl T2).new' _).put' (Nat.le_refl _) _
                    simp only [clc, e0, e1, e6, e7, e23, e24, e25, e50, e51, e52, Nat.le_add_left, go_sem, ↓reduceIte, reduceCtorEq, Nat.reduceEqDiff, Nat.reduceAdd, Nat.reduceSub, Nat.reduceMul, Nat.reduceLeDiff, Nat.reduceLT, loadA, rdCells, storeA, setAt, binA]
                    rw [← hT3]
                    have hk13 := hk2'.trans hk3'
                    have oP3 := hk13.obj zP oP
                    have zP3 := hk13.lt zP
                    have oT3 := (hk1.trans hk13).obj zT oT
                    have zT3 := (hk1.trans hk13).lt zT
                    have hkk3 := ((hk05.trans hkT).trans hk1).trans hk13
                    cases hqp : isC l p.cls
                    · simp only [hqp, go_sem, ↓reduceIte, reduceCtorEq, Nat.reduceEqDiff, Nat.reduceAdd, Nat.reduceSub, Nat.reduceMul, Nat.reduceLeDiff, Nat.reduceLT, loadA, rdCells, storeA, setAt, binA]
                      exact ⟨by simp, _, rfl, by rw [hresp 6 (by rw [hfp, hfx, hqp]; rfl) (by decide)], hkk3⟩
                    · simp only [hqp, e0, e1, e6, e7, e23, e24, e25, e50, e51, e52, go_sem, ↓reduceIte, reduceCtorEq, Nat.reduceEqDiff, Nat.reduceAdd, Nat.reduceSub, Nat.reduceMul, Nat.reduceLeDiff, Nat.reduceLT, loadA, rdCells, storeA, setAt, binA]
                      refine W_dreg ?_
                      cases hkp : (kof p.ty != 0)
                      · simp only [wt_ops, stpT, Tr, wt_gs, wt_un, grdT_t, grdT_f, hkp, oP3, oT3, e0, e1, e6, e7, e23, e24, e25, e50, e51, e52, wt_nil, chk1, avr, Bool.or_true, Nat.le_add_left, go_sem, ↓reduceIte, reduceCtorEq, Nat.reduceEqDiff, Nat.reduceAdd, Nat.reduceSub, Nat.reduceMul, Nat.reduceLeDiff, Nat.reduceLT, loadA, rdCells, storeA, setAt, binA]
                        refine WT_callg _ (by simp only [go_sem, ↓reduceIte, reduceCtorEq, Nat.reduceEqDiff, Nat.reduceAdd, Nat.reduceSub, Nat.reduceMul, Nat.reduceLeDiff, Nat.reduceLT, loadA, rdCells, storeA, setAt, binA]) rfl ((hfr _).mono ?_)
                        rintro fv T4 ⟨hfv, hk4'⟩
                        have oP4 := hk4'.obj zP3 oP3
                        simp only [wt_ops, stpT, Tr, wt_gs, wt_un, grdT_t, grdT_f, oP4, oP3, oT3, e0, e1, e6, e7, e23, e24, e25, e50, e51, e52, wt_nil, chk1, avr, Bool.or_true, Nat.le_add_left, go_sem, ↓reduceIte, reduceCtorEq, Nat.reduceEqDiff, Nat.reduceAdd, Nat.reduceSub, Nat.reduceMul, Nat.reduceLeDiff, Nat.reduceLT, loadA, rdCells, storeA, setAt, binA]
                        refine WT_callg [fv, .int .i64 (vof p.ty)] (by simp only [go_sem, ↓reduceIte, reduceCtorEq, Nat.reduceEqDiff, Nat.reduceAdd, Nat.reduceSub, Nat.reduceMul, Nat.reduceLeDiff, Nat.reduceLT, loadA, rdCells, storeA, setAt, binA]) (by simp only [go_sem, ↓reduceIte, reduceCtorEq, Nat.reduceEqDiff, Nat.reduceAdd, Nat.reduceSub, Nat.reduceMul, Nat.reduceLeDiff, Nat.reduceLT, loadA, rdCells, storeA, setAt, binA]) (((((U1.contains_int (X := X) hX hfv (by omega) (vof p.ty) T4).sub U2.sub).sub sub)).mono ?_)
                        rintro w7 T5 ⟨rfl, hT5⟩
                        subst hT5
                        cases hct : (fre x.hd).contains (vof p.ty)
                        · simp only [wt_ops, stpT, Tr, wt_gs, wt_un, grdT_t, grdT_f, hct, oP4, oP3, oT3, e0, e1, e6, e7, e23, e24, e25, e50, e51, e52, wt_nil, chk1, avr, Bool.or_true, Bool.false_or, Nat.le_add_left, go_sem, ↓reduceIte, reduceCtorEq, Nat.reduceEqDiff, Nat.reduceAdd, Nat.reduceSub, Nat.reduceMul, Nat.reduceLeDiff, Nat.reduceLT, loadA, rdCells, storeA, setAt, binA]
                          exact ⟨by simp, _, rfl, by rw [hresp 3 (by rw [hfp, hfx, hqp, hkp, hct]; rfl) (by decide)], hkk3.trans hk4'⟩
                        · simp only [wt_ops, stpT, Tr, wt_gs, wt_un, grdT_t, grdT_f, hct, oP4, oP3, oT3, e0, e1, e6, e7, e23, e24, e25, e50, e51, e52, wrapc (n := j) (by omega), wt_nil, chk1, avr, Bool.or_true, Bool.false_or, Nat.le_add_left, go_sem, ↓reduceIte, reduceCtorEq, Nat.reduceEqDiff, Nat.reduceAdd, Nat.reduceSub, Nat.reduceMul, Nat.reduceLeDiff, Nat.reduceLT, loadA, rdCells, storeA, setAt, binA]
                          exact ⟨kk - 1, by omega, j + 1, by omega, rfl, by rw [hfp, hfx, hqp, hkp, hct]; rfl, ((hkT.trans hk1).trans hk13).trans hk4'⟩
                      · simp only [wt_ops, stpT, Tr, wt_gs, wt_un, grdT_t, grdT_f, hkp, oP3, oT3, e0, e1, e6, e7, e23, e24, e25, e50, e51, e52, wt_nil, chk1, avr, Bool.or_true, Bool.false_or, Nat.le_add_left, go_sem, ↓reduceIte, reduceCtorEq, Nat.reduceEqDiff, Nat.reduceAdd, Nat.reduceSub, Nat.reduceMul, Nat.reduceLeDiff, Nat.reduceLT, loadA, rdCells, storeA, setAt, binA]
                        refine WT_off rfl (by simp only [go_sem, ↓reduceIte, reduceCtorEq, Nat.reduceEqDiff, Nat.reduceAdd, Nat.reduceSub, Nat.reduceMul, Nat.reduceLeDiff, Nat.reduceLT, loadA, rdCells, storeA, setAt, binA]) ?_
                        simp only [wt_ops, stpT, Tr, wt_gs, wt_un, grdT_t, grdT_f, oP3, oT3, e0, e1, e6, e7, e23, e24, e25, e50, e51, e52, wt_nil, chk1, avr, Bool.or_true, Bool.false_or, Nat.le_add_left, go_sem, ↓reduceIte, reduceCtorEq, Nat.reduceEqDiff, Nat.reduceAdd, Nat.reduceSub, Nat.reduceMul, Nat.reduceLeDiff, Nat.reduceLT, loadA, rdCells, storeA, setAt, binA]
                        refine WT_off rfl (by simp only [go_sem, ↓reduceIte, reduceCtorEq, Nat.reduceEqDiff, Nat.reduceAdd, Nat.reduceSub, Nat.reduceMul, Nat.reduceLeDiff, Nat.reduceLT, loadA, rdCells, storeA, setAt, binA]) ?_
                        simp only [wt_ops, stpT, Tr, wt_gs, wt_un, grdT_t, grdT_f, oP3, oT3, e0, e1, e6, e7, e23, e24, e25, e50, e51, e52, wt_nil, chk1, avr, Bool.or_true, Bool.false_or, Nat.le_add_left, go_sem, ↓reduceIte, reduceCtorEq, Nat.reduceEqDiff, Nat.reduceAdd, Nat.reduceSub, Nat.reduceMul, Nat.reduceLeDiff, Nat.reduceLT, loadA, rdCells, storeA, setAt, binA]
                        exact ⟨rfl, by simp, _, rfl, by rw [hresp 3 (by rw [hfp, hfx, hqp, hkp]; rfl) (by decide)], hkk3⟩
                  · have hdj : decide ((j : Int) < (x.pre.length : Int)) = false := by simp; omega
                    have hz : prs l x.hd x.pre = 0 := by rw [hfp, List.drop_eq_nil_of_le (by omega), prs]
                    simp only [cf62_l0, e0, e1, e6, e7, e23, e24, e25, e50, e51, e52, hdj, hsl, Nat.le_add_left, go_sem, ↓reduceIte, reduceCtorEq, Nat.reduceEqDiff, Nat.reduceAdd, Nat.reduceSub, Nat.reduceMul, Nat.reduceLeDiff, Nat.reduceLT, loadA, rdCells, storeA, setAt, binA]
                    refine WO_callx _ rfl ((has_in hX hw hlt 81 [.ptr S.size 0] (fun y => sq y.cls x.cls && sq (nof y.hd) (nof x.hd)) T0 (fun y s1 _ hk1 => clo81_law hX y x S.size s1 (hk1.obj zT oT) (hk1.lt zT))).mono ?_)
                    rintro w8 T6 ⟨rfl, hk6⟩
                    cases hdp : (ins.take i).any (fun y => sq y.cls x.cls && sq (nof y.hd) (nof x.hd))
                    · simp only [hdp, e0, e1, e6, e7, e23, e24, e25, wrapc (n := i) (by omega), go_sem, ↓reduceIte, reduceCtorEq, Nat.reduceEqDiff, Nat.reduceAdd, Nat.reduceSub, Nat.reduceMul, Nat.reduceLeDiff, Nat.reduceLT, loadA, rdCells, storeA, setAt, binA]
                      exact ⟨k - 1, by omega, i + 1, by omega, rfl, by rw [hf, hfd, ins1, hq, hch, hh, hz, hdp]; rfl, (hk05.trans hkT).trans hk6⟩
                    · simp only [hdp, go_sem, ↓reduceIte, reduceCtorEq, Nat.reduceEqDiff, Nat.reduceAdd, Nat.reduceSub, Nat.reduceMul, Nat.reduceLeDiff, Nat.reduceLT, loadA, rdCells, storeA, setAt, binA]
                      exact ⟨by simp, _, rfl, by rw [hres 7 (by rw [ins1, hq, hch, hh, hz, hdp]; rfl) (by decide)], (hk05.trans hkT).trans hk6⟩
                · simp only [e0, go_sem, ↓reduceIte, reduceCtorEq, Nat.reduceEqDiff, Nat.reduceAdd, Nat.reduceSub, Nat.reduceMul, Nat.reduceLeDiff, Nat.reduceLT, loadA, rdCells, storeA, setAt, binA]
                · simp only [e1, go_sem, ↓reduceIte, reduceCtorEq, Nat.reduceEqDiff, Nat.reduceAdd, Nat.reduceSub, Nat.reduceMul, Nat.reduceLeDiff, Nat.reduceLT, loadA, rdCells, storeA, setAt, binA]
                · simp only [go_sem, ↓reduceIte, reduceCtorEq, Nat.reduceEqDiff, Nat.reduceAdd, Nat.reduceSub, Nat.reduceMul, Nat.reduceLeDiff, Nat.reduceLT, loadA, rdCells, storeA, setAt, binA]
                · simp only [go_sem, ↓reduceIte, reduceCtorEq, Nat.reduceEqDiff, Nat.reduceAdd, Nat.reduceSub, Nat.reduceMul, Nat.reduceLeDiff, Nat.reduceLT, loadA, rdCells, storeA, setAt, binA]
                · simp only [e23, go_sem, ↓reduceIte, reduceCtorEq, Nat.reduceEqDiff, Nat.reduceAdd, Nat.reduceSub, Nat.reduceMul, Nat.reduceLeDiff, Nat.reduceLT, loadA, rdCells, storeA, setAt, binA]
                · simp only [e24, go_sem, ↓reduceIte, reduceCtorEq, Nat.reduceEqDiff, Nat.reduceAdd, Nat.reduceSub, Nat.reduceMul, Nat.reduceLeDiff, Nat.reduceLT, loadA, rdCells, storeA, setAt, binA]
                · simp only [e25, go_sem, ↓reduceIte, reduceCtorEq, Nat.reduceEqDiff, Nat.reduceAdd, Nat.reduceSub, Nat.reduceMul, Nat.reduceLeDiff, Nat.reduceLT, loadA, rdCells, storeA, setAt, binA]
                · simp only [go_sem, ↓reduceIte, reduceCtorEq, Nat.reduceEqDiff, Nat.reduceAdd, Nat.reduceSub, Nat.reduceMul, Nat.reduceLeDiff, Nat.reduceLT, loadA, rdCells, storeA, setAt, binA]
                · simp only [go_sem, ↓reduceIte, reduceCtorEq, Nat.reduceEqDiff, Nat.reduceAdd, Nat.reduceSub, Nat.reduceMul, Nat.reduceLeDiff, Nat.reduceLT, loadA, rdCells, storeA, setAt, binA]
                · simp only [go_sem, ↓reduceIte, reduceCtorEq, Nat.reduceEqDiff, Nat.reduceAdd, Nat.reduceSub, Nat.reduceMul, Nat.reduceLeDiff, Nat.reduceLT, loadA, rdCells, storeA, setAt, binA]; rfl
            · have hne : (chk false 1 4096 x.hd).1 ≠ 0 := by simpa using hch
              simp only [hch, go_sem, ↓reduceIte, reduceCtorEq, Nat.reduceEqDiff, Nat.reduceAdd, Nat.reduceSub, Nat.reduceMul, Nat.reduceLeDiff, Nat.reduceLT, loadA, rdCells, storeA, setAt, binA]
              exact ⟨by simp, _, rfl, by rw [hres _ (by rw [ins1, hq, hch]; rfl) hne], hk04⟩
        · have hd : decide ((i : Int) < (ins.length : Int)) = false := by simp; omega
          simp only [cf62_l1, e0, e1, e23, e24, e25, hd, go_sem, ↓reduceIte, reduceCtorEq, Nat.reduceEqDiff, Nat.reduceAdd, Nat.reduceSub, Nat.reduceMul, Nat.reduceLeDiff, Nat.reduceLT, loadA, rdCells, storeA, setAt, binA]
          exact ⟨by simp, _, rfl, by rw [inst, hc, hg, hf, List.drop_eq_nil_of_le (by omega), insA]; rfl, hk⟩
      · simp only [go_sem, ↓reduceIte, reduceCtorEq, Nat.reduceEqDiff, Nat.reduceAdd, Nat.reduceSub, Nat.reduceMul, Nat.reduceLeDiff, Nat.reduceLT, loadA, rdCells, storeA, setAt, binA]
      · simp only [go_sem, ↓reduceIte, reduceCtorEq, Nat.reduceEqDiff, Nat.reduceAdd, Nat.reduceSub, Nat.reduceMul, Nat.reduceLeDiff, Nat.reduceLT, loadA, rdCells, storeA, setAt, binA]
      · simp only [go_sem, ↓reduceIte, reduceCtorEq, Nat.reduceEqDiff, Nat.reduceAdd, Nat.reduceSub, Nat.reduceMul, Nat.reduceLeDiff, Nat.reduceLT, loadA, rdCells, storeA, setAt, binA]
      · simp only [go_sem, ↓reduceIte, reduceCtorEq, Nat.reduceEqDiff, Nat.reduceAdd, Nat.reduceSub, Nat.reduceMul, Nat.reduceLeDiff, Nat.reduceLT, loadA, rdCells, storeA, setAt, binA]
      · simp only [go_sem, ↓reduceIte, reduceCtorEq, Nat.reduceEqDiff, Nat.reduceAdd, Nat.reduceSub, Nat.reduceMul, Nat.reduceLeDiff, Nat.reduceLT, loadA, rdCells, storeA, setAt, binA]; rfl
    · simp only [hc, hilen, hg, go_sem, ↓reduceIte, reduceCtorEq, Nat.reduceEqDiff, Nat.reduceAdd, Nat.reduceSub, Nat.reduceMul, Nat.reduceLeDiff, Nat.reduceLT, loadA, rdCells, storeA, setAt, binA]
      exact ⟨by simp, _, rfl, by rw [inst, hc, hg]; rfl, hk1⟩
  · simp only [hc, go_sem, ↓reduceIte, reduceCtorEq, Nat.reduceEqDiff, Nat.reduceAdd, Nat.reduceSub, Nat.reduceMul, Nat.reduceLeDiff, Nat.reduceLT, loadA, rdCells, storeA, setAt, binA]
    exact ⟨by simp, _, rfl, by rw [inst, hc]; rfl, hk1⟩
end Go.Am.U3
