/- Instance: the instance of a class for a type. Conditions: none. -/
import Derived.Test.YtfleakoephmgaaaDoorClE
set_option linter.unusedSimpArgs false
set_option linter.unusedVariables false
namespace Go.Am.U3
open Go.Am.Un Go.So
open Go.Am.U1 (NoX drop_at ne_a ne_b ne_c ne_d avr tyw tyc_w tycP isl_tycs len_tszs tsz_pos)
set_option maxRecDepth 100000
set_option linter.unusedSimpArgs false
attribute [local go_sem] wseq COp.isStore wreg wdreg wret wskip wexit wblock wcnd cnd_t cnd_f then_n then_x then_r catch_n rnd_n rnd_x rnd_r catch_x catch_r wo_nil wo_grd grdO_t grdO_f wo_ops stpO wr_nil wr_alloc wr_guards grdR_t grdR_f wr_ops stpR evAllocs evOp env0_app eput_some eput_none eset_app Opd.ev wantedA faddrA snew_obj snew_size sput_obj sput_size av_cells av_one av_strip av_still unA eqbA fillA fldA lensA mmA mm2 mmFold List.getD_cons_zero List.getD_cons_succ List.getD_nil List.length_cons List.length_nil List.drop_zero List.drop_succ_cons List.take_succ_cons List.take_zero List.map_cons List.map_nil List.set_cons_zero List.set_cons_succ List.all_cons List.all_nil List.getElem?_cons_zero List.getElem?_cons_succ List.nil_append List.cons_append Nat.zero_add Nat.add_zero beq_self_eq_true bt bf Bool.not_true Bool.not_false Bool.and_true Bool.true_and Bool.and_false Bool.false_and and_self and_true true_and n0 n1 n2 n3 n4 m0 m1 m2 m3 c1 retA resAs resA undefA Option.map_some Option.map_none
variable {X : Ext}

theorem tsz_lof (t : Tm) : tsz t = 1 + tszs (lof t) := by cases t; rw [tsz]; rfl
theorem fits_split (w : Pr) (x : In) : fits w x = (sq x.cls w.cls && (kof w.ty == 1) && sq (nof x.hd) (nof w.ty) && ((lof x.hd).length == (lof w.ty).length)) := rfl

set_option maxHeartbeats 16000000 in
theorem instance_law (hX : NoX X) {iv : AV} {ins : List In} (hi : ISl inc iv ins) (hbi : ins.length ≤ 4096) (hpl : ∀ x, x ∈ ins → x.pre.length * 72 ≤ 140737488355328 ∧ tsz x.hd ≤ 4096 ∧ ∀ t, (needs x t).length ≤ x.pre.length) (w : Pr) (s : St) :
    WC T X 83 [iv, .agg (prc w)] s (fun v s' => (∃ nv, v = (match instAt w 0 ins with | some (i, x) => .tup [.int .i64 (i : Nat), nv, .bool true] | none => .tup [.int .i64 0, nv, .bool false]) ∧ ISl prc nv (match instAt w 0 ins with | some (_, x) => needs x w.ty | none => [])) ∧ Keep s s') := by
  refine WC_fn cf83 (hX 83 (by decide)) T83 (by simp [cf83]) ?_
  have hilen := hi.len
  simp only [prc]
  simp only [cf83, hilen, Nat.le_add_left, go_sem, ↓reduceIte, reduceCtorEq, Nat.reduceEqDiff, Nat.reduceAdd, Nat.reduceSub, Nat.reduceMul, Nat.reduceLeDiff, Nat.reduceLT, loadA, rdCells, storeA, setAt, binA]
  refine W_loop_nat (fun k e S => ∃ i, i + k = ins.length ∧ e 3 = .ptr s.size 0 ∧ e 14 = iv ∧ e 15 = .int .i64 ins.length ∧ e 16 = .int .i64 i ∧ instAt w 0 ins = instAt w i (ins.drop i) ∧ S.obj s.size = some (.cells [.str w.cls, .int .i64 (kof w.ty), .str (nof w.ty), .int .i64 (vof w.ty), .sl (tycs (lof w.ty)) (lof w.ty).length false none]) ∧ s.size < S.size ∧ Keep s S) ?_ ins.length _ _
    ⟨0, by simp, ?_, ?_, ?_, ?_, by simp, new_eq rfl, by simp [St.new], (Keep.refl s).new' _⟩
  · rintro k e S ⟨i, hik, e3, e14, e15, e16, hf, ho, hz, hk⟩
    by_cases hin : i < ins.length
    · obtain ⟨x, hx⟩ : ∃ x, ins[i]? = some x := ⟨_, List.getElem?_eq_getElem hin⟩
      have hd : decide ((i : Int) < (ins.length : Int)) = true := by simp; omega
      have hat := hi.at incP.len hx
      obtain ⟨hpx, hhx, hnl⟩ := hpl x (List.mem_of_getElem? hx)
      have hfd : instAt w i (ins.drop i) = bif fits w x then some (i, x) else instAt w (i + 1) (ins.drop (i + 1)) := by rw [drop_at hx, instAt]
      simp only [inc, List.cons_append, List.nil_append] at hat
      obtain ⟨S', hS'⟩ : ∃ S', S' = (S.new (.cells [.str ⟨#[]⟩, .int .i64 0, .str ⟨#[]⟩, .int .i64 0, .nils, .nils])).put S.size (some (.cells [.str x.cls, .int .i64 (kof x.hd), .str (nof x.hd), .int .i64 (vof x.hd), .sl (tycs (lof x.hd)) (lof x.hd).length false none, .sl (x.pre.flatMap prc) x.pre.length false none])) := ⟨_, rfl⟩
      have hkS : Keep S S' := by rw [hS']; exact ((Keep.refl S).new' _).put' (Nat.le_refl _) _
      have oS : S'.obj S.size = some (.cells [.str x.cls, .int .i64 (kof x.hd), .str (nof x.hd), .int .i64 (vof x.hd), .sl (tycs (lof x.hd)) (lof x.hd).length false none, .sl (x.pre.flatMap prc) x.pre.length false none]) := by rw [hS', put_eq]
      have zS : S.size < S'.size := by rw [hS']; simp [St.new, St.put]
      have ho' := hkS.obj hz ho
      have hz' := hkS.lt hz
      have hl1 := (isl_tycs (lof x.hd)).len
      have hl2 := (isl_tycs (lof w.ty)).len
      have hprs : ISl prc (.sl (x.pre.flatMap prc) x.pre.length false none) x.pre := Or.inr ⟨_, _, rfl⟩
      have hplen := hprs.len
      have skip : fits w x = false → instAt w 0 ins = instAt w (i + 1) (ins.drop (i + 1)) := fun h => by rw [hf, hfd, h]; rfl
      have hwr := wrapc (n := i) (by omega)
      have hks := hk.trans hkS
      simp only [cf83_l2, e3, e14, e15, e16, hd, hat, Nat.le_add_left, go_sem, ↓reduceIte, reduceCtorEq, Nat.reduceEqDiff, Nat.reduceAdd, Nat.reduceSub, Nat.reduceMul, Nat.reduceLeDiff, Nat.reduceLT, loadA, rdCells, storeA, setAt, binA]
      rw [← hS']
      cases c1 : (x.cls.toList == w.cls.toList)
      · have d1 : (x.cls.toList != w.cls.toList) = true := by simp only [bne, c1]; rfl
        have hfit : fits w x = false := by rw [fits_split]; unfold sq; rw [c1]; simp
        simp only [c1, d1, oS, ho, ho', hl1, hl2, ne_a hz, ne_b hz, e3, e14, e15, e16, hwr, Nat.le_add_left, go_sem, ↓reduceIte, reduceCtorEq, Nat.reduceEqDiff, Nat.reduceAdd, Nat.reduceSub, Nat.reduceMul, Nat.reduceLeDiff, Nat.reduceLT, loadA, rdCells, storeA, setAt, binA]
        exact ⟨k - 1, by omega, i + 1, by omega, rfl, skip hfit, hz', hks⟩
      have d1 : (x.cls.toList != w.cls.toList) = false := by simp only [bne, c1]; rfl
      cases c2 : (kof w.ty == 1)
      · have d2 : (kof w.ty != 1) = true := by simp only [bne, c2]; rfl
        have hfit : fits w x = false := by rw [fits_split]; unfold sq; rw [c2]; simp
        simp only [c1, d1, c2, d2, oS, ho, ho', hl1, hl2, ne_a hz, ne_b hz, e3, e14, e15, e16, hwr, Nat.le_add_left, go_sem, ↓reduceIte, reduceCtorEq, Nat.reduceEqDiff, Nat.reduceAdd, Nat.reduceSub, Nat.reduceMul, Nat.reduceLeDiff, Nat.reduceLT, loadA, rdCells, storeA, setAt, binA]
        exact ⟨k - 1, by omega, i + 1, by omega, rfl, skip hfit, hz', hks⟩
      have d2 : (kof w.ty != 1) = false := by simp only [bne, c2]; rfl
      cases c3 : ((nof x.hd).toList == (nof w.ty).toList)
      · have d3 : ((nof x.hd).toList != (nof w.ty).toList) = true := by simp only [bne, c3]; rfl
        have hfit : fits w x = false := by rw [fits_split]; unfold sq; rw [c3]; simp
        simp only [c1, d1, c2, d2, c3, d3, oS, ho, ho', hl1, hl2, ne_a hz, ne_b hz, e3, e14, e15, e16, hwr, Nat.le_add_left, go_sem, ↓reduceIte, reduceCtorEq, Nat.reduceEqDiff, Nat.reduceAdd, Nat.reduceSub, Nat.reduceMul, Nat.reduceLeDiff, Nat.reduceLT, loadA, rdCells, storeA, setAt, binA]
        exact ⟨k - 1, by omega, i + 1, by omega, rfl, skip hfit, hz', hks⟩
      have d3 : ((nof x.hd).toList != (nof w.ty).toList) = false := by simp only [bne, c3]; rfl
      cases c4 : (((lof x.hd).length : Int) == ((lof w.ty).length : Int))
      · have d4 : (((lof x.hd).length : Int) != ((lof w.ty).length : Int)) = true := by simp only [bne, c4]; rfl
        have c4' : ((lof x.hd).length == (lof w.ty).length) = false := by
          have : ((lof x.hd).length : Int) ≠ ((lof w.ty).length : Int) := by simpa using c4
          simp; omega
        have hfit : fits w x = false := by rw [fits_split, c4', Bool.and_false]
        simp only [c1, d1, c2, d2, c3, d3, c4, d4, oS, ho, ho', hl1, hl2, ne_a hz, ne_b hz, e3, e14, e15, e16, hwr, Nat.le_add_left, go_sem, ↓reduceIte, reduceCtorEq, Nat.reduceEqDiff, Nat.reduceAdd, Nat.reduceSub, Nat.reduceMul, Nat.reduceLeDiff, Nat.reduceLT, loadA, rdCells, storeA, setAt, binA]
        exact ⟨k - 1, by omega, i + 1, by omega, rfl, skip hfit, hz', hks⟩
      have d4 : (((lof x.hd).length : Int) != ((lof w.ty).length : Int)) = false := by simp only [bne, c4]; rfl
      have hll : (lof x.hd).length = (lof w.ty).length := by
        have : ((lof x.hd).length : Int) = ((lof w.ty).length : Int) := by simpa using c4
        omega
      have hfit : fits w x = true := by rw [fits_split]; unfold sq; rw [c1, c2, c3]; simpa using hll
      have hres : instAt w 0 ins = some (i, x) := by rw [hf, hfd, hfit]; rfl
      rw [hres]
      simp only [c1, d1, c2, d2, c3, d3, c4, d4, hplen, oS, ho, ho', hl1, hl2, ne_a hz, ne_b hz, e3, e14, e15, e16, hwr, Nat.le_add_left, go_sem, ↓reduceIte, reduceCtorEq, Nat.reduceEqDiff, Nat.reduceAdd, Nat.reduceSub, Nat.reduceMul, Nat.reduceLeDiff, Nat.reduceLT, loadA, rdCells, storeA, setAt, binA]
      have hnw := hnl w.ty
      have htl := len_tszs (lof x.hd)
      have htz : tszs (lof x.hd) ≤ 4096 := by have := tsz_lof x.hd; omega
      obtain ⟨Z, hZ⟩ : ∃ Z, Z = (lof x.hd).zip (lof w.ty) := ⟨_, rfl⟩
      have hZl : Z.length = (lof x.hd).length := by rw [hZ, List.length_zip]; omega
      have hneed : ∀ p, need1 x w.ty p = Z.filterMap fun q => bif vof q.1 == vof p.ty then some ⟨p.cls, q.2⟩ else none := fun p => by rw [need1, hZ]
      refine W_loop_nat (fun kk e S2 => ∃ (j : Nat) (nv : AV) (cur : List Pr) (tok : Option Nat), j + kk = x.pre.length ∧ e 3 = .ptr s.size 0 ∧ e 7 = .int .i64 i ∧ e 8 = .ptr S.size 0 ∧ e 9 = nv ∧ e 53 = .sl (x.pre.flatMap prc) x.pre.length false none ∧ e 54 = .int .i64 x.pre.length ∧ e 55 = .int .i64 j ∧ Grw prc S'.size S2 nv cur tok ∧ needs x w.ty = cur ++ (x.pre.drop j).flatMap (need1 x w.ty) ∧ Keep S' S2) ?_ x.pre.length _ _
        ⟨0, .nils, [], none, by simp, ?_, ?_, ?_, ?_, ?_, ?_, ?_, Or.inl ⟨rfl, rfl, rfl⟩, rfl, Keep.refl S'⟩
      · clear e3 e14 e15 e16
        rintro kk e S2 ⟨j, nv, cur, tok, hjk, e3, e7, e8, e9, e53, e54, e55, hgr, hnd, hk2⟩
        by_cases hj : j < x.pre.length
        · obtain ⟨p, hp⟩ : ∃ p, x.pre[j]? = some p := ⟨_, List.getElem?_eq_getElem hj⟩
          have hdj : decide ((j : Int) < (x.pre.length : Int)) = true := by simp; omega
          have hatp := hprs.at prcP.len hp
          rw [drop_at hp, List.flatMap_cons, hneed] at hnd
          simp only [prc, List.cons_append, List.nil_append] at hatp
          have oS2 := hk2.obj zS oS
          have zS2 := hk2.lt zS
          simp only [cf83_l1, e3, e7, e8, e9, e53, e54, e55, hdj, hatp, oS2, hl1, ne_a zS2, ne_b zS2, Nat.le_add_left, go_sem, ↓reduceIte, reduceCtorEq, Nat.reduceEqDiff, Nat.reduceAdd, Nat.reduceSub, Nat.reduceMul, Nat.reduceLeDiff, Nat.reduceLT, loadA, rdCells, storeA, setAt, binA]
          obtain ⟨T1, hT1⟩ : ∃ T1, T1 = (S2.new (.cells [.str ⟨#[]⟩, .int .i64 0, .str ⟨#[]⟩, .int .i64 0, .nils])).put S2.size (some (.cells [.str p.cls, .int .i64 (kof p.ty), .str (nof p.ty), .int .i64 (vof p.ty), .sl (tycs (lof p.ty)) (lof p.ty).length false none])) := ⟨_, rfl⟩
          have hk1 : Keep S2 T1 := by rw [hT1]; exact ((Keep.refl S2).new' _).put' (Nat.le_refl _) _
          have oP : T1.obj S2.size = some (.cells [.str p.cls, .int .i64 (kof p.ty), .str (nof p.ty), .int .i64 (vof p.ty), .sl (tycs (lof p.ty)) (lof p.ty).length false none]) := by rw [hT1, put_eq]
          have zP : S2.size < T1.size := by rw [hT1]; simp [St.new, St.put]
          have gr1 : Grw prc S'.size T1 nv cur tok := hgr.keep hk1.1 (fun q hq => hk1.2 q (by
            rcases hgr with ⟨-, -, h⟩ | ⟨k2, h, -, -, -, h5, -⟩
            · rw [h] at hq; cases hq
            · rw [h] at hq; cases hq; exact h5))
          rw [← hT1]
          refine W_loop_nat (fun k2 e T2 => ∃ (q : Nat) (nv : AV) (cur : List Pr) (tok : Option Nat), q + k2 = (lof x.hd).length ∧ e 3 = .ptr s.size 0 ∧ e 7 = .int .i64 i ∧ e 8 = .ptr S.size 0 ∧ e 9 = nv ∧ e 11 = .ptr S2.size 0 ∧ e 53 = .sl (x.pre.flatMap prc) x.pre.length false none ∧ e 54 = .int .i64 x.pre.length ∧ e 55 = .int .i64 j ∧ e 61 = .sl (tycs (lof x.hd)) (lof x.hd).length false none ∧ e 62 = .int .i64 (lof x.hd).length ∧ e 63 = .int .i64 q ∧ Grw prc S'.size T2 nv cur tok ∧ T2.obj S2.size = some (.cells [.str p.cls, .int .i64 (kof p.ty), .str (nof p.ty), .int .i64 (vof p.ty), .sl (tycs (lof p.ty)) (lof p.ty).length false none]) ∧ S2.size < T2.size ∧
              needs x w.ty = cur ++ (((Z.drop q).filterMap fun q => bif vof q.1 == vof p.ty then some ⟨p.cls, q.2⟩ else none) ++ (x.pre.drop (j + 1)).flatMap (need1 x w.ty)) ∧ Keep S' T2) ?_ (lof x.hd).length _ _
            ⟨0, nv, cur, tok, by simp, ?_, ?_, ?_, ?_, ?_, ?_, ?_, ?_, ?_, ?_, ?_, gr1, oP, zP, hnd, hk2.trans hk1⟩
          · clear e3 e7 e8 e9 e53 e54 e55 gr1 oP zP hnd hgr
            rintro k2 e T2 ⟨q, nv, cur, tok, hqk, e3, e7, e8, e9, e11, e53, e54, e55, e61, e62, e63, hgr, oP, zP, hnd, hkT⟩
            have oW := hkT.obj hz' ho'
            have zW := hkT.lt hz'
            by_cases hq : q < (lof x.hd).length
            · obtain ⟨a, ha⟩ : ∃ a, (lof x.hd)[q]? = some a := ⟨_, List.getElem?_eq_getElem hq⟩
              obtain ⟨b, hb⟩ : ∃ b, (lof w.ty)[q]? = some b := ⟨_, List.getElem?_eq_getElem (by omega)⟩
              have hzq : Z[q]? = some (a, b) := by rw [hZ, List.getElem?_zip_eq_some]; exact ⟨ha, hb⟩
              have hdq : decide ((q : Int) < ((lof x.hd).length : Int)) = true := by simp; omega
              have hata := (isl_tycs (lof x.hd)).at tyc_len ha
              have hatb := (isl_tycs (lof w.ty)).at tyc_len hb
              rw [tyc_w, tyw] at hata hatb
              have hwq := wrapc (n := q) (by omega)
              rw [drop_at hzq, List.filterMap_cons] at hnd
              obtain ⟨TB, hTB⟩ : ∃ TB, TB = (T2.new (.cells [.int .i64 0, .str ⟨#[]⟩, .int .i64 0, .nils])).put T2.size (some (.cells [.int .i64 (kof a), .str (nof a), .int .i64 (vof a), .sl (tycs (lof a)) (lof a).length false none])) := ⟨_, rfl⟩
              have hkB : Keep T2 TB := by rw [hTB]; exact ((Keep.refl T2).new' _).put' (Nat.le_refl _) _
              have grB : Grw prc S'.size TB nv cur tok := hgr.keep hkB.1 (fun q hq => hkB.2 q (by
                rcases hgr with ⟨-, -, h⟩ | ⟨k2, h, -, -, -, h5, -⟩
                · rw [h] at hq; cases hq
                · rw [h] at hq; cases hq; exact h5))
              have oPB := hkB.obj zP oP
              have zPB := hkB.lt zP
              cases hv : (vof a == vof p.ty)
              · simp only [hv, cond_false] at hnd
                simp only [cf83_l0, e3, e7, e8, e9, e11, e53, e54, e55, e61, e62, e63, hdq, hata, hv, hwq, oP, ne_a zP, ne_b zP, Nat.le_add_left, go_sem, ↓reduceIte, reduceCtorEq, Nat.reduceEqDiff, Nat.reduceAdd, Nat.reduceSub, Nat.reduceMul, Nat.reduceLeDiff, Nat.reduceLT, loadA, rdCells, storeA, setAt, binA]
                rw [← hTB]
                exact ⟨k2 - 1, by omega, q + 1, nv, cur, tok, by omega, rfl, rfl, grB, by omega, hnd, hkT.trans hkB⟩
              · simp only [hv, cond_true] at hnd
                simp only [cf83_l0, e3, e7, e8, e9, e11, e53, e54, e55, e61, e62, e63, hdq, hata, hatb, hv, hwq, oP, oW, ne_a zP, ne_b zP, ne_a zW, ne_b zW, Nat.le_add_left, go_sem, ↓reduceIte, reduceCtorEq, Nat.reduceEqDiff, Nat.reduceAdd, Nat.reduceSub, Nat.reduceMul, Nat.reduceLeDiff, Nat.reduceLT, loadA, rdCells, storeA, setAt, binA]
                rw [← hTB]
                have hcl : cur.length + 1 ≤ (needs x w.ty).length := by rw [hnd]; simp only [List.length_append, List.length_cons]; omega
                obtain ⟨v', S4, hap, hg4, hz4, hk4⟩ := grB.app prcP (by have := hkT.1; have := hkB.1; omega) (⟨p.cls, b⟩ : Pr) (bytes := 72) (by omega)
                simp only [prc] at hap
                have ntok : ∀ q, q < S'.size → some q ≠ tok := fun q hq ht => by
                  rcases grB with ⟨-, -, h⟩ | ⟨k2, h, -, -, -, -, h6⟩
                  · rw [h] at ht; cases ht
                  · rw [h] at ht; cases ht; omega
                simp only [hap, e3, e7, e8, e9, e11, e53, e54, e55, e61, e62, e63, hwq, Nat.le_add_left, go_sem, ↓reduceIte, reduceCtorEq, Nat.reduceEqDiff, Nat.reduceAdd, Nat.reduceSub, Nat.reduceMul, Nat.reduceLeDiff, Nat.reduceLT, loadA, rdCells, storeA, setAt, binA]
                have hzB := hkB.1
                have hpt : some S2.size ≠ tok := fun ht => by
                  rcases grB with ⟨-, -, h⟩ | ⟨k2, h, -, -, h4, -, -⟩
                  · rw [h] at ht; cases ht
                  · rw [h] at ht; cases ht; rw [oPB] at h4; cases h4
                have hk04 : Keep S' S4 := ⟨by have := hkT.1; omega, fun q hq => by rw [hk4 q (by have := hkT.1; omega) (ntok q hq)]; exact (hkT.trans hkB).2 q hq⟩
                exact ⟨k2 - 1, by omega, q + 1, v', cur ++ [⟨p.cls, b⟩], some TB.size, by omega, rfl, rfl, hg4, by rw [hk4 _ zPB hpt]; exact oPB, by omega, by rw [hnd]; simp, hk04⟩
            · have hdq : decide ((q : Int) < ((lof x.hd).length : Int)) = false := by simp; omega
              rw [List.drop_eq_nil_of_le (by omega), List.filterMap_nil, List.nil_append] at hnd
              simp only [cf83_l0, e3, e7, e8, e9, e11, e53, e54, e55, e61, e62, e63, hdq, wrapc (n := j) (by omega), Nat.le_add_left, go_sem, ↓reduceIte, reduceCtorEq, Nat.reduceEqDiff, Nat.reduceAdd, Nat.reduceSub, Nat.reduceMul, Nat.reduceLeDiff, Nat.reduceLT, loadA, rdCells, storeA, setAt, binA]
              exact ⟨kk - 1, by omega, j + 1, nv, cur, tok, by omega, rfl, rfl, hgr, hnd, hkT⟩
          · simp only [e3, go_sem, ↓reduceIte, reduceCtorEq, Nat.reduceEqDiff, Nat.reduceAdd, Nat.reduceSub, Nat.reduceMul, Nat.reduceLeDiff, Nat.reduceLT, loadA, rdCells, storeA, setAt, binA]
          · simp only [e7, go_sem, ↓reduceIte, reduceCtorEq, Nat.reduceEqDiff, Nat.reduceAdd, Nat.reduceSub, Nat.reduceMul, Nat.reduceLeDiff, Nat.reduceLT, loadA, rdCells, storeA, setAt, binA]
          · simp only [e8, go_sem, ↓reduceIte, reduceCtorEq, Nat.reduceEqDiff, Nat.reduceAdd, Nat.reduceSub, Nat.reduceMul, Nat.reduceLeDiff, Nat.reduceLT, loadA, rdCells, storeA, setAt, binA]
          · simp only [e9, go_sem, ↓reduceIte, reduceCtorEq, Nat.reduceEqDiff, Nat.reduceAdd, Nat.reduceSub, Nat.reduceMul, Nat.reduceLeDiff, Nat.reduceLT, loadA, rdCells, storeA, setAt, binA]
          · simp only [go_sem, ↓reduceIte, reduceCtorEq, Nat.reduceEqDiff, Nat.reduceAdd, Nat.reduceSub, Nat.reduceMul, Nat.reduceLeDiff, Nat.reduceLT, loadA, rdCells, storeA, setAt, binA]
          · simp only [e53, go_sem, ↓reduceIte, reduceCtorEq, Nat.reduceEqDiff, Nat.reduceAdd, Nat.reduceSub, Nat.reduceMul, Nat.reduceLeDiff, Nat.reduceLT, loadA, rdCells, storeA, setAt, binA]
          · simp only [e54, go_sem, ↓reduceIte, reduceCtorEq, Nat.reduceEqDiff, Nat.reduceAdd, Nat.reduceSub, Nat.reduceMul, Nat.reduceLeDiff, Nat.reduceLT, loadA, rdCells, storeA, setAt, binA]
          · simp only [e55, go_sem, ↓reduceIte, reduceCtorEq, Nat.reduceEqDiff, Nat.reduceAdd, Nat.reduceSub, Nat.reduceMul, Nat.reduceLeDiff, Nat.reduceLT, loadA, rdCells, storeA, setAt, binA]
          · simp only [go_sem, ↓reduceIte, reduceCtorEq, Nat.reduceEqDiff, Nat.reduceAdd, Nat.reduceSub, Nat.reduceMul, Nat.reduceLeDiff, Nat.reduceLT, loadA, rdCells, storeA, setAt, binA]
          · simp only [go_sem, ↓reduceIte, reduceCtorEq, Nat.reduceEqDiff, Nat.reduceAdd, Nat.reduceSub, Nat.reduceMul, Nat.reduceLeDiff, Nat.reduceLT, loadA, rdCells, storeA, setAt, binA]
          · simp only [go_sem, ↓reduceIte, reduceCtorEq, Nat.reduceEqDiff, Nat.reduceAdd, Nat.reduceSub, Nat.reduceMul, Nat.reduceLeDiff, Nat.reduceLT, loadA, rdCells, storeA, setAt, binA]; rfl
        · have hdj : decide ((j : Int) < (x.pre.length : Int)) = false := by simp; omega
          rw [List.drop_eq_nil_of_le (by omega), List.flatMap_nil, List.append_nil] at hnd
          simp only [cf83_l1, e3, e7, e8, e9, e53, e54, e55, hdj, go_sem, ↓reduceIte, reduceCtorEq, Nat.reduceEqDiff, Nat.reduceAdd, Nat.reduceSub, Nat.reduceMul, Nat.reduceLeDiff, Nat.reduceLT, loadA, rdCells, storeA, setAt, binA]
          exact ⟨by simp, _, rfl, ⟨nv, rfl, by rw [hnd]; exact hgr.isl⟩, hks.trans hk2⟩
      · simp only [e3, go_sem, ↓reduceIte, reduceCtorEq, Nat.reduceEqDiff, Nat.reduceAdd, Nat.reduceSub, Nat.reduceMul, Nat.reduceLeDiff, Nat.reduceLT, loadA, rdCells, storeA, setAt, binA]
      · simp only [go_sem, ↓reduceIte, reduceCtorEq, Nat.reduceEqDiff, Nat.reduceAdd, Nat.reduceSub, Nat.reduceMul, Nat.reduceLeDiff, Nat.reduceLT, loadA, rdCells, storeA, setAt, binA]
      · simp only [go_sem, ↓reduceIte, reduceCtorEq, Nat.reduceEqDiff, Nat.reduceAdd, Nat.reduceSub, Nat.reduceMul, Nat.reduceLeDiff, Nat.reduceLT, loadA, rdCells, storeA, setAt, binA]
      · simp only [go_sem, ↓reduceIte, reduceCtorEq, Nat.reduceEqDiff, Nat.reduceAdd, Nat.reduceSub, Nat.reduceMul, Nat.reduceLeDiff, Nat.reduceLT, loadA, rdCells, storeA, setAt, binA]
      · simp only [go_sem, ↓reduceIte, reduceCtorEq, Nat.reduceEqDiff, Nat.reduceAdd, Nat.reduceSub, Nat.reduceMul, Nat.reduceLeDiff, Nat.reduceLT, loadA, rdCells, storeA, setAt, binA]
      · simp only [go_sem, ↓reduceIte, reduceCtorEq, Nat.reduceEqDiff, Nat.reduceAdd, Nat.reduceSub, Nat.reduceMul, Nat.reduceLeDiff, Nat.reduceLT, loadA, rdCells, storeA, setAt, binA]
      · simp only [go_sem, ↓reduceIte, reduceCtorEq, Nat.reduceEqDiff, Nat.reduceAdd, Nat.reduceSub, Nat.reduceMul, Nat.reduceLeDiff, Nat.reduceLT, loadA, rdCells, storeA, setAt, binA]; rfl
    · have hd : decide ((i : Int) < (ins.length : Int)) = false := by simp; omega
      have hn : instAt w 0 ins = none := by rw [hf, List.drop_eq_nil_of_le (by omega), instAt]
      simp only [cf83_l2, e3, e14, e15, e16, hd, go_sem, ↓reduceIte, reduceCtorEq, Nat.reduceEqDiff, Nat.reduceAdd, Nat.reduceSub, Nat.reduceMul, Nat.reduceLeDiff, Nat.reduceLT, loadA, rdCells, storeA, setAt, binA]
      rw [hn]
      exact ⟨by simp, _, rfl, ⟨.nils, rfl, Or.inl ⟨rfl, rfl⟩⟩, hk⟩
  · simp only [go_sem, ↓reduceIte, reduceCtorEq, Nat.reduceEqDiff, Nat.reduceAdd, Nat.reduceSub, Nat.reduceMul, Nat.reduceLeDiff, Nat.reduceLT, loadA, rdCells, storeA, setAt, binA]
  · simp only [go_sem, ↓reduceIte, reduceCtorEq, Nat.reduceEqDiff, Nat.reduceAdd, Nat.reduceSub, Nat.reduceMul, Nat.reduceLeDiff, Nat.reduceLT, loadA, rdCells, storeA, setAt, binA]
  · simp only [go_sem, ↓reduceIte, reduceCtorEq, Nat.reduceEqDiff, Nat.reduceAdd, Nat.reduceSub, Nat.reduceMul, Nat.reduceLeDiff, Nat.reduceLT, loadA, rdCells, storeA, setAt, binA]
  · simp only [go_sem, ↓reduceIte, reduceCtorEq, Nat.reduceEqDiff, Nat.reduceAdd, Nat.reduceSub, Nat.reduceMul, Nat.reduceLeDiff, Nat.reduceLT, loadA, rdCells, storeA, setAt, binA]; rfl
end Go.Am.U3
