/- LexerLines: words and numbers scanned. Conditions: none. -/
import Derived.Test.YtjhbakfgoaeeoaaDoorAmLc
set_option linter.unusedSimpArgs false
set_option linter.unusedVariables false
namespace Go.Am.L1
set_option maxRecDepth 100000
set_option linter.unusedSimpArgs false

theorem bts_extract (u : ByteArray) (a i : Nat) : bts (u.extract a i) = ((bts u).drop a).take (i - a) := by rw [ext_eq]; rfl
theorem sls_hi (u : ByteArray) {i : Nat} (hi : i ≤ u.size) : slsA (.str u) none (some (.int .i64 i)) = some (.str (u.extract 0 i)) := by
  simp only [slsA, optOf, natOf]
  rw [if_pos ⟨by omega, by omega⟩]
  simp only [Int.toNat_natCast]
theorem sls_lo (u : ByteArray) {i : Nat} (hi : i ≤ u.size) : slsA (.str u) (some (.int .i64 i)) none = some (.str (u.extract i u.size)) := by
  simp only [slsA, optOf, natOf]
  rw [if_pos ⟨by omega, by omega⟩]
  simp only [Int.toNat_natCast]

/-- The last ones are cut off. -/
theorem trimR_law (t : ByteArray) (c : UInt8) (ht : t.size ≤ 100000) (s : St) :
    WC T xs 119 [.str t, .int .u8 c.toNat] s (fun v s' => s' = s ∧ ∃ u n, v = .str u ∧ n ≤ t.size ∧ bts u = (bts t).take n ∧ (∀ (j : Nat) b, n ≤ j → (bts t)[j]? = some b → b = c) ∧ (∀ b, 0 < n → (bts t)[n - 1]? = some b → b ≠ c)) := by
  refine WC_fn cf119 rfl T119 (by simp [cf119]) ?_
  have hl := bts_len t
  simp only [cf119, wseq, wreg, wdreg, wret, wskip, wexit, wblock, wcnd, cnd_t, cnd_f, then_n, then_x, then_r, catch_n, rnd_n, rnd_x, rnd_r, catch_x, catch_r, wo_nil, wo_grd, grdO_t, grdO_f, wo_ops, stpO, wr_nil, wr_alloc, wr_guards, grdR_t, grdR_f, wr_ops, stpR, evAllocs, evOp, env0_app, eput_some, eput_none, eset_app, Opd.ev, wantedA, faddrA, loadA, storeA, setAt, rdCells, snew_obj, snew_size, sput_obj, sput_size, av_cells, av_one, av_strip, av_still, binA, unA, eqbA, fillA, fldA, lensA, mmA, mm2, mmFold, List.getD_cons_zero, List.getD_cons_succ, List.getD_nil, List.length_cons, List.length_nil, List.drop_zero, List.drop_succ_cons, List.take_succ_cons, List.take_zero, List.map_cons, List.map_nil, List.set_cons_zero, List.set_cons_succ, List.all_cons, List.all_nil, List.getElem?_cons_zero, List.getElem?_cons_succ, List.nil_append, List.cons_append, ↓reduceIte, reduceCtorEq, Nat.reduceEqDiff, Nat.reduceAdd, Nat.reduceSub, Nat.reduceMul, Nat.reduceLeDiff, Nat.reduceLT, Nat.zero_add, Nat.add_zero, beq_self_eq_true, bt, bf, Bool.not_true, Bool.not_false, Bool.and_true, Bool.true_and, Bool.and_false, Bool.false_and, and_self, and_true, true_and, n0, n1, n2, n3, n4, m0, m1, m2, m3, c1, retA, resAs, resA, undefA, Option.map_some, Option.map_none]
  refine W_loop_nat (fun k e S2 => S2 = s ∧ ∃ u, e 0 = .str u ∧ e 1 = .int .u8 c.toNat ∧ k ≤ t.size ∧ u.size = k ∧ bts u = (bts t).take k ∧ (∀ (j : Nat) b, k ≤ j → (bts t)[j]? = some b → b = c)) ?_ t.size _ _ ⟨rfl, t, by simp only [wseq, wreg, wdreg, wret, wskip, wexit, wblock, wcnd, cnd_t, cnd_f, then_n, then_x, then_r, catch_n, rnd_n, rnd_x, rnd_r, catch_x, catch_r, wo_nil, wo_grd, grdO_t, grdO_f, wo_ops, stpO, wr_nil, wr_alloc, wr_guards, grdR_t, grdR_f, wr_ops, stpR, evAllocs, evOp, env0_app, eput_some, eput_none, eset_app, Opd.ev, wantedA, faddrA, loadA, storeA, setAt, rdCells, snew_obj, snew_size, sput_obj, sput_size, av_cells, av_one, av_strip, av_still, binA, unA, eqbA, fillA, fldA, lensA, mmA, mm2, mmFold, List.getD_cons_zero, List.getD_cons_succ, List.getD_nil, List.length_cons, List.length_nil, List.drop_zero, List.drop_succ_cons, List.take_succ_cons, List.take_zero, List.map_cons, List.map_nil, List.set_cons_zero, List.set_cons_succ, List.all_cons, List.all_nil, List.getElem?_cons_zero, List.getElem?_cons_succ, List.nil_append, List.cons_append, ↓reduceIte, reduceCtorEq, Nat.reduceEqDiff, Nat.reduceAdd, Nat.reduceSub, Nat.reduceMul, Nat.reduceLeDiff, Nat.reduceLT, Nat.zero_add, Nat.add_zero, beq_self_eq_true, bt, bf, Bool.not_true, Bool.not_false, Bool.and_true, Bool.true_and, Bool.and_false, Bool.false_and, and_self, and_true, true_and, n0, n1, n2, n3, n4, m0, m1, m2, m3, c1, retA, resAs, resA, undefA, Option.map_some, Option.map_none], by simp only [wseq, wreg, wdreg, wret, wskip, wexit, wblock, wcnd, cnd_t, cnd_f, then_n, then_x, then_r, catch_n, rnd_n, rnd_x, rnd_r, catch_x, catch_r, wo_nil, wo_grd, grdO_t, grdO_f, wo_ops, stpO, wr_nil, wr_alloc, wr_guards, grdR_t, grdR_f, wr_ops, stpR, evAllocs, evOp, env0_app, eput_some, eput_none, eset_app, Opd.ev, wantedA, faddrA, loadA, storeA, setAt, rdCells, snew_obj, snew_size, sput_obj, sput_size, av_cells, av_one, av_strip, av_still, binA, unA, eqbA, fillA, fldA, lensA, mmA, mm2, mmFold, List.getD_cons_zero, List.getD_cons_succ, List.getD_nil, List.length_cons, List.length_nil, List.drop_zero, List.drop_succ_cons, List.take_succ_cons, List.take_zero, List.map_cons, List.map_nil, List.set_cons_zero, List.set_cons_succ, List.all_cons, List.all_nil, List.getElem?_cons_zero, List.getElem?_cons_succ, List.nil_append, List.cons_append, ↓reduceIte, reduceCtorEq, Nat.reduceEqDiff, Nat.reduceAdd, Nat.reduceSub, Nat.reduceMul, Nat.reduceLeDiff, Nat.reduceLT, Nat.zero_add, Nat.add_zero, beq_self_eq_true, bt, bf, Bool.not_true, Bool.not_false, Bool.and_true, Bool.true_and, Bool.and_false, Bool.false_and, and_self, and_true, true_and, n0, n1, n2, n3, n4, m0, m1, m2, m3, c1, retA, resAs, resA, undefA, Option.map_some, Option.map_none], Nat.le_refl _, rfl, by rw [List.take_of_length_le (by omega)], fun j b hj hb => by have := (List.getElem?_eq_some_iff.1 hb).1; omega⟩
  rintro k e S2 ⟨rfl, u, e0, e1, hk, hu, hbu, hall⟩
  cases hd : decide ((u.size : Int) > 0)
  · have hk0 : k = 0 := by have := of_decide_eq_false hd; omega
    simp only [cf119_l0, e0, e1, hd, wseq, wreg, wdreg, wret, wskip, wexit, wblock, wcnd, cnd_t, cnd_f, then_n, then_x, then_r, catch_n, rnd_n, rnd_x, rnd_r, catch_x, catch_r, wo_nil, wo_grd, grdO_t, grdO_f, wo_ops, stpO, wr_nil, wr_alloc, wr_guards, grdR_t, grdR_f, wr_ops, stpR, evAllocs, evOp, env0_app, eput_some, eput_none, eset_app, Opd.ev, wantedA, faddrA, loadA, storeA, setAt, rdCells, snew_obj, snew_size, sput_obj, sput_size, av_cells, av_one, av_strip, av_still, binA, unA, eqbA, fillA, fldA, lensA, mmA, mm2, mmFold, List.getD_cons_zero, List.getD_cons_succ, List.getD_nil, List.length_cons, List.length_nil, List.drop_zero, List.drop_succ_cons, List.take_succ_cons, List.take_zero, List.map_cons, List.map_nil, List.set_cons_zero, List.set_cons_succ, List.all_cons, List.all_nil, List.getElem?_cons_zero, List.getElem?_cons_succ, List.nil_append, List.cons_append, ↓reduceIte, reduceCtorEq, Nat.reduceEqDiff, Nat.reduceAdd, Nat.reduceSub, Nat.reduceMul, Nat.reduceLeDiff, Nat.reduceLT, Nat.zero_add, Nat.add_zero, beq_self_eq_true, bt, bf, Bool.not_true, Bool.not_false, Bool.and_true, Bool.true_and, Bool.and_false, Bool.false_and, and_self, and_true, true_and, n0, n1, n2, n3, n4, m0, m1, m2, m3, c1, retA, resAs, resA, undefA, Option.map_some, Option.map_none]
    exact ⟨by simp, _, rfl, u, k, rfl, hk, hbu, hall, fun b h0 => by omega⟩
  · have hk0 : 0 < k := by have := of_decide_eq_true hd; omega
    have hw : IntKind.i64.wrap ((u.size : Int) - 1) = ((k - 1 : Nat) : Int) := by rw [IntKind.wrap_i64]; omega
    obtain ⟨b, hb⟩ : ∃ b, (bts t)[k - 1]? = some b := ⟨_, List.getElem?_eq_getElem (by omega)⟩
    have hbu' : (bts u)[k - 1]? = some b := by rw [hbu, List.getElem?_take]; rw [if_pos (by omega)]; exact hb
    have hls : slsA (.str u) none (some (.int .i64 ((k - 1 : Nat) : Int))) = some (.str (u.extract 0 (k - 1))) := sls_hi u (by omega)
    simp only [cf119_l0, e0, e1, hd, hw, idx_at hbu', wseq, wreg, wdreg, wret, wskip, wexit, wblock, wcnd, cnd_t, cnd_f, then_n, then_x, then_r, catch_n, rnd_n, rnd_x, rnd_r, catch_x, catch_r, wo_nil, wo_grd, grdO_t, grdO_f, wo_ops, stpO, wr_nil, wr_alloc, wr_guards, grdR_t, grdR_f, wr_ops, stpR, evAllocs, evOp, env0_app, eput_some, eput_none, eset_app, Opd.ev, wantedA, faddrA, loadA, storeA, setAt, rdCells, snew_obj, snew_size, sput_obj, sput_size, av_cells, av_one, av_strip, av_still, binA, unA, eqbA, fillA, fldA, lensA, mmA, mm2, mmFold, List.getD_cons_zero, List.getD_cons_succ, List.getD_nil, List.length_cons, List.length_nil, List.drop_zero, List.drop_succ_cons, List.take_succ_cons, List.take_zero, List.map_cons, List.map_nil, List.set_cons_zero, List.set_cons_succ, List.all_cons, List.all_nil, List.getElem?_cons_zero, List.getElem?_cons_succ, List.nil_append, List.cons_append, ↓reduceIte, reduceCtorEq, Nat.reduceEqDiff, Nat.reduceAdd, Nat.reduceSub, Nat.reduceMul, Nat.reduceLeDiff, Nat.reduceLT, Nat.zero_add, Nat.add_zero, beq_self_eq_true, bt, bf, Bool.not_true, Bool.not_false, Bool.and_true, Bool.true_and, Bool.and_false, Bool.false_and, and_self, and_true, true_and, n0, n1, n2, n3, n4, m0, m1, m2, m3, c1, retA, resAs, resA, undefA, Option.map_some, Option.map_none]
    cases hbc : ((b.toNat : Int) == (c.toNat : Int))
    · simp only [e0, wseq, wreg, wdreg, wret, wskip, wexit, wblock, wcnd, cnd_t, cnd_f, then_n, then_x, then_r, catch_n, rnd_n, rnd_x, rnd_r, catch_x, catch_r, wo_nil, wo_grd, grdO_t, grdO_f, wo_ops, stpO, wr_nil, wr_alloc, wr_guards, grdR_t, grdR_f, wr_ops, stpR, evAllocs, evOp, env0_app, eput_some, eput_none, eset_app, Opd.ev, wantedA, faddrA, loadA, storeA, setAt, rdCells, snew_obj, snew_size, sput_obj, sput_size, av_cells, av_one, av_strip, av_still, binA, unA, eqbA, fillA, fldA, lensA, mmA, mm2, mmFold, List.getD_cons_zero, List.getD_cons_succ, List.getD_nil, List.length_cons, List.length_nil, List.drop_zero, List.drop_succ_cons, List.take_succ_cons, List.take_zero, List.map_cons, List.map_nil, List.set_cons_zero, List.set_cons_succ, List.all_cons, List.all_nil, List.getElem?_cons_zero, List.getElem?_cons_succ, List.nil_append, List.cons_append, ↓reduceIte, reduceCtorEq, Nat.reduceEqDiff, Nat.reduceAdd, Nat.reduceSub, Nat.reduceMul, Nat.reduceLeDiff, Nat.reduceLT, Nat.zero_add, Nat.add_zero, beq_self_eq_true, bt, bf, Bool.not_true, Bool.not_false, Bool.and_true, Bool.true_and, Bool.and_false, Bool.false_and, and_self, and_true, true_and, n0, n1, n2, n3, n4, m0, m1, m2, m3, c1, retA, resAs, resA, undefA, Option.map_some, Option.map_none]
      have hne : b ≠ c := by rintro rfl; simp at hbc
      exact ⟨by simp, _, rfl, u, k, rfl, hk, hbu, hall, fun b' _ hb' => by rw [hb] at hb'; cases hb'; exact hne⟩
    · have heq : b = c := by
        rw [beq_iff_eq] at hbc
        exact UInt8.toNat_inj.1 (by omega)
      simp only [e0, e1, hw, hls, wseq, wreg, wdreg, wret, wskip, wexit, wblock, wcnd, cnd_t, cnd_f, then_n, then_x, then_r, catch_n, rnd_n, rnd_x, rnd_r, catch_x, catch_r, wo_nil, wo_grd, grdO_t, grdO_f, wo_ops, stpO, wr_nil, wr_alloc, wr_guards, grdR_t, grdR_f, wr_ops, stpR, evAllocs, evOp, env0_app, eput_some, eput_none, eset_app, Opd.ev, wantedA, faddrA, loadA, storeA, setAt, rdCells, snew_obj, snew_size, sput_obj, sput_size, av_cells, av_one, av_strip, av_still, binA, unA, eqbA, fillA, fldA, lensA, mmA, mm2, mmFold, List.getD_cons_zero, List.getD_cons_succ, List.getD_nil, List.length_cons, List.length_nil, List.drop_zero, List.drop_succ_cons, List.take_succ_cons, List.take_zero, List.map_cons, List.map_nil, List.set_cons_zero, List.set_cons_succ, List.all_cons, List.all_nil, List.getElem?_cons_zero, List.getElem?_cons_succ, List.nil_append, List.cons_append, ↓reduceIte, reduceCtorEq, Nat.reduceEqDiff, Nat.reduceAdd, Nat.reduceSub, Nat.reduceMul, Nat.reduceLeDiff, Nat.reduceLT, Nat.zero_add, Nat.add_zero, beq_self_eq_true, bt, bf, Bool.not_true, Bool.not_false, Bool.and_true, Bool.true_and, Bool.and_false, Bool.false_and, and_self, and_true, true_and, n0, n1, n2, n3, n4, m0, m1, m2, m3, c1, retA, resAs, resA, undefA, Option.map_some, Option.map_none]
      refine ⟨k - 1, by omega, u.extract 0 (k - 1), rfl, by omega, ?_, ?_, ?_⟩
      · rw [← bts_len, bts_extract, List.drop_zero, List.length_take, bts_len]; omega
      · rw [bts_extract, List.drop_zero, hbu, List.take_take]; congr 1; omega
      · intro j b' hj hb'
        by_cases hjk : k ≤ j
        · exact hall j b' hjk hb'
        · obtain rfl : j = k - 1 := by omega
          rw [hb] at hb'; cases hb'; exact heq

/-- The first ones are cut off. -/
theorem trimL_law (t : ByteArray) (c : UInt8) (ht : t.size ≤ 100000) (s : St) :
    WC T xs 118 [.str t, .int .u8 c.toNat] s (fun v s' => s' = s ∧ ∃ u n, v = .str u ∧ n ≤ t.size ∧ bts u = (bts t).drop n ∧ (∀ (j : Nat) b, j < n → (bts t)[j]? = some b → b = c)) := by
  refine WC_fn cf118 rfl T118 (by simp [cf118]) ?_
  have hl := bts_len t
  simp only [cf118, wseq, wreg, wdreg, wret, wskip, wexit, wblock, wcnd, cnd_t, cnd_f, then_n, then_x, then_r, catch_n, rnd_n, rnd_x, rnd_r, catch_x, catch_r, wo_nil, wo_grd, grdO_t, grdO_f, wo_ops, stpO, wr_nil, wr_alloc, wr_guards, grdR_t, grdR_f, wr_ops, stpR, evAllocs, evOp, env0_app, eput_some, eput_none, eset_app, Opd.ev, wantedA, faddrA, loadA, storeA, setAt, rdCells, snew_obj, snew_size, sput_obj, sput_size, av_cells, av_one, av_strip, av_still, binA, unA, eqbA, fillA, fldA, lensA, mmA, mm2, mmFold, List.getD_cons_zero, List.getD_cons_succ, List.getD_nil, List.length_cons, List.length_nil, List.drop_zero, List.drop_succ_cons, List.take_succ_cons, List.take_zero, List.map_cons, List.map_nil, List.set_cons_zero, List.set_cons_succ, List.all_cons, List.all_nil, List.getElem?_cons_zero, List.getElem?_cons_succ, List.nil_append, List.cons_append, ↓reduceIte, reduceCtorEq, Nat.reduceEqDiff, Nat.reduceAdd, Nat.reduceSub, Nat.reduceMul, Nat.reduceLeDiff, Nat.reduceLT, Nat.zero_add, Nat.add_zero, beq_self_eq_true, bt, bf, Bool.not_true, Bool.not_false, Bool.and_true, Bool.true_and, Bool.and_false, Bool.false_and, and_self, and_true, true_and, n0, n1, n2, n3, n4, m0, m1, m2, m3, c1, retA, resAs, resA, undefA, Option.map_some, Option.map_none]
  refine W_loop_nat (fun k e S2 => S2 = s ∧ ∃ u n, e 0 = .str u ∧ e 1 = .int .u8 c.toNat ∧ n + k = t.size ∧ u.size = k ∧ bts u = (bts t).drop n ∧ (∀ (j : Nat) b, j < n → (bts t)[j]? = some b → b = c)) ?_ t.size _ _ ⟨rfl, t, 0, by simp only [wseq, wreg, wdreg, wret, wskip, wexit, wblock, wcnd, cnd_t, cnd_f, then_n, then_x, then_r, catch_n, rnd_n, rnd_x, rnd_r, catch_x, catch_r, wo_nil, wo_grd, grdO_t, grdO_f, wo_ops, stpO, wr_nil, wr_alloc, wr_guards, grdR_t, grdR_f, wr_ops, stpR, evAllocs, evOp, env0_app, eput_some, eput_none, eset_app, Opd.ev, wantedA, faddrA, loadA, storeA, setAt, rdCells, snew_obj, snew_size, sput_obj, sput_size, av_cells, av_one, av_strip, av_still, binA, unA, eqbA, fillA, fldA, lensA, mmA, mm2, mmFold, List.getD_cons_zero, List.getD_cons_succ, List.getD_nil, List.length_cons, List.length_nil, List.drop_zero, List.drop_succ_cons, List.take_succ_cons, List.take_zero, List.map_cons, List.map_nil, List.set_cons_zero, List.set_cons_succ, List.all_cons, List.all_nil, List.getElem?_cons_zero, List.getElem?_cons_succ, List.nil_append, List.cons_append, ↓reduceIte, reduceCtorEq, Nat.reduceEqDiff, Nat.reduceAdd, Nat.reduceSub, Nat.reduceMul, Nat.reduceLeDiff, Nat.reduceLT, Nat.zero_add, Nat.add_zero, beq_self_eq_true, bt, bf, Bool.not_true, Bool.not_false, Bool.and_true, Bool.true_and, Bool.and_false, Bool.false_and, and_self, and_true, true_and, n0, n1, n2, n3, n4, m0, m1, m2, m3, c1, retA, resAs, resA, undefA, Option.map_some, Option.map_none], by simp only [wseq, wreg, wdreg, wret, wskip, wexit, wblock, wcnd, cnd_t, cnd_f, then_n, then_x, then_r, catch_n, rnd_n, rnd_x, rnd_r, catch_x, catch_r, wo_nil, wo_grd, grdO_t, grdO_f, wo_ops, stpO, wr_nil, wr_alloc, wr_guards, grdR_t, grdR_f, wr_ops, stpR, evAllocs, evOp, env0_app, eput_some, eput_none, eset_app, Opd.ev, wantedA, faddrA, loadA, storeA, setAt, rdCells, snew_obj, snew_size, sput_obj, sput_size, av_cells, av_one, av_strip, av_still, binA, unA, eqbA, fillA, fldA, lensA, mmA, mm2, mmFold, List.getD_cons_zero, List.getD_cons_succ, List.getD_nil, List.length_cons, List.length_nil, List.drop_zero, List.drop_succ_cons, List.take_succ_cons, List.take_zero, List.map_cons, List.map_nil, List.set_cons_zero, List.set_cons_succ, List.all_cons, List.all_nil, List.getElem?_cons_zero, List.getElem?_cons_succ, List.nil_append, List.cons_append, ↓reduceIte, reduceCtorEq, Nat.reduceEqDiff, Nat.reduceAdd, Nat.reduceSub, Nat.reduceMul, Nat.reduceLeDiff, Nat.reduceLT, Nat.zero_add, Nat.add_zero, beq_self_eq_true, bt, bf, Bool.not_true, Bool.not_false, Bool.and_true, Bool.true_and, Bool.and_false, Bool.false_and, and_self, and_true, true_and, n0, n1, n2, n3, n4, m0, m1, m2, m3, c1, retA, resAs, resA, undefA, Option.map_some, Option.map_none], by omega, rfl, rfl, fun j b hj => by omega⟩
  rintro k e S2 ⟨rfl, u, n, e0, e1, hk, hu, hbu, hall⟩
  cases hd : decide ((u.size : Int) > 0)
  · simp only [cf118_l0, e0, e1, hd, wseq, wreg, wdreg, wret, wskip, wexit, wblock, wcnd, cnd_t, cnd_f, then_n, then_x, then_r, catch_n, rnd_n, rnd_x, rnd_r, catch_x, catch_r, wo_nil, wo_grd, grdO_t, grdO_f, wo_ops, stpO, wr_nil, wr_alloc, wr_guards, grdR_t, grdR_f, wr_ops, stpR, evAllocs, evOp, env0_app, eput_some, eput_none, eset_app, Opd.ev, wantedA, faddrA, loadA, storeA, setAt, rdCells, snew_obj, snew_size, sput_obj, sput_size, av_cells, av_one, av_strip, av_still, binA, unA, eqbA, fillA, fldA, lensA, mmA, mm2, mmFold, List.getD_cons_zero, List.getD_cons_succ, List.getD_nil, List.length_cons, List.length_nil, List.drop_zero, List.drop_succ_cons, List.take_succ_cons, List.take_zero, List.map_cons, List.map_nil, List.set_cons_zero, List.set_cons_succ, List.all_cons, List.all_nil, List.getElem?_cons_zero, List.getElem?_cons_succ, List.nil_append, List.cons_append, ↓reduceIte, reduceCtorEq, Nat.reduceEqDiff, Nat.reduceAdd, Nat.reduceSub, Nat.reduceMul, Nat.reduceLeDiff, Nat.reduceLT, Nat.zero_add, Nat.add_zero, beq_self_eq_true, bt, bf, Bool.not_true, Bool.not_false, Bool.and_true, Bool.true_and, Bool.and_false, Bool.false_and, and_self, and_true, true_and, n0, n1, n2, n3, n4, m0, m1, m2, m3, c1, retA, resAs, resA, undefA, Option.map_some, Option.map_none]
    exact ⟨by simp, _, rfl, u, n, rfl, by omega, hbu, hall⟩
  · have hk0 : 0 < k := by have := of_decide_eq_true hd; omega
    obtain ⟨b, hb⟩ : ∃ b, (bts t)[n]? = some b := ⟨_, List.getElem?_eq_getElem (by omega)⟩
    have hbu' : (bts u)[0]? = some b := by rw [hbu, List.getElem?_drop]; exact hb
    have hix : idxA (.str u) (.int .i64 0) = some (.int .u8 b.toNat) := idx_at (i := 0) hbu'
    have hls : slsA (.str u) (some (.int .i64 1)) none = some (.str (u.extract 1 u.size)) := sls_lo u (i := 1) (by omega)
    simp only [cf118_l0, e0, e1, hd, hix, wseq, wreg, wdreg, wret, wskip, wexit, wblock, wcnd, cnd_t, cnd_f, then_n, then_x, then_r, catch_n, rnd_n, rnd_x, rnd_r, catch_x, catch_r, wo_nil, wo_grd, grdO_t, grdO_f, wo_ops, stpO, wr_nil, wr_alloc, wr_guards, grdR_t, grdR_f, wr_ops, stpR, evAllocs, evOp, env0_app, eput_some, eput_none, eset_app, Opd.ev, wantedA, faddrA, loadA, storeA, setAt, rdCells, snew_obj, snew_size, sput_obj, sput_size, av_cells, av_one, av_strip, av_still, binA, unA, eqbA, fillA, fldA, lensA, mmA, mm2, mmFold, List.getD_cons_zero, List.getD_cons_succ, List.getD_nil, List.length_cons, List.length_nil, List.drop_zero, List.drop_succ_cons, List.take_succ_cons, List.take_zero, List.map_cons, List.map_nil, List.set_cons_zero, List.set_cons_succ, List.all_cons, List.all_nil, List.getElem?_cons_zero, List.getElem?_cons_succ, List.nil_append, List.cons_append, ↓reduceIte, reduceCtorEq, Nat.reduceEqDiff, Nat.reduceAdd, Nat.reduceSub, Nat.reduceMul, Nat.reduceLeDiff, Nat.reduceLT, Nat.zero_add, Nat.add_zero, beq_self_eq_true, bt, bf, Bool.not_true, Bool.not_false, Bool.and_true, Bool.true_and, Bool.and_false, Bool.false_and, and_self, and_true, true_and, n0, n1, n2, n3, n4, m0, m1, m2, m3, c1, retA, resAs, resA, undefA, Option.map_some, Option.map_none]
    cases hbc : ((b.toNat : Int) == (c.toNat : Int))
    · simp only [e0, wseq, wreg, wdreg, wret, wskip, wexit, wblock, wcnd, cnd_t, cnd_f, then_n, then_x, then_r, catch_n, rnd_n, rnd_x, rnd_r, catch_x, catch_r, wo_nil, wo_grd, grdO_t, grdO_f, wo_ops, stpO, wr_nil, wr_alloc, wr_guards, grdR_t, grdR_f, wr_ops, stpR, evAllocs, evOp, env0_app, eput_some, eput_none, eset_app, Opd.ev, wantedA, faddrA, loadA, storeA, setAt, rdCells, snew_obj, snew_size, sput_obj, sput_size, av_cells, av_one, av_strip, av_still, binA, unA, eqbA, fillA, fldA, lensA, mmA, mm2, mmFold, List.getD_cons_zero, List.getD_cons_succ, List.getD_nil, List.length_cons, List.length_nil, List.drop_zero, List.drop_succ_cons, List.take_succ_cons, List.take_zero, List.map_cons, List.map_nil, List.set_cons_zero, List.set_cons_succ, List.all_cons, List.all_nil, List.getElem?_cons_zero, List.getElem?_cons_succ, List.nil_append, List.cons_append, ↓reduceIte, reduceCtorEq, Nat.reduceEqDiff, Nat.reduceAdd, Nat.reduceSub, Nat.reduceMul, Nat.reduceLeDiff, Nat.reduceLT, Nat.zero_add, Nat.add_zero, beq_self_eq_true, bt, bf, Bool.not_true, Bool.not_false, Bool.and_true, Bool.true_and, Bool.and_false, Bool.false_and, and_self, and_true, true_and, n0, n1, n2, n3, n4, m0, m1, m2, m3, c1, retA, resAs, resA, undefA, Option.map_some, Option.map_none]
      have hne : b ≠ c := by rintro rfl; simp at hbc
      exact ⟨by simp, _, rfl, u, n, rfl, by omega, hbu, hall⟩
    · have heq : b = c := by
        rw [beq_iff_eq] at hbc
        exact UInt8.toNat_inj.1 (by omega)
      simp only [e0, e1, hls, wseq, wreg, wdreg, wret, wskip, wexit, wblock, wcnd, cnd_t, cnd_f, then_n, then_x, then_r, catch_n, rnd_n, rnd_x, rnd_r, catch_x, catch_r, wo_nil, wo_grd, grdO_t, grdO_f, wo_ops, stpO, wr_nil, wr_alloc, wr_guards, grdR_t, grdR_f, wr_ops, stpR, evAllocs, evOp, env0_app, eput_some, eput_none, eset_app, Opd.ev, wantedA, faddrA, loadA, storeA, setAt, rdCells, snew_obj, snew_size, sput_obj, sput_size, av_cells, av_one, av_strip, av_still, binA, unA, eqbA, fillA, fldA, lensA, mmA, mm2, mmFold, List.getD_cons_zero, List.getD_cons_succ, List.getD_nil, List.length_cons, List.length_nil, List.drop_zero, List.drop_succ_cons, List.take_succ_cons, List.take_zero, List.map_cons, List.map_nil, List.set_cons_zero, List.set_cons_succ, List.all_cons, List.all_nil, List.getElem?_cons_zero, List.getElem?_cons_succ, List.nil_append, List.cons_append, ↓reduceIte, reduceCtorEq, Nat.reduceEqDiff, Nat.reduceAdd, Nat.reduceSub, Nat.reduceMul, Nat.reduceLeDiff, Nat.reduceLT, Nat.zero_add, Nat.add_zero, beq_self_eq_true, bt, bf, Bool.not_true, Bool.not_false, Bool.and_true, Bool.true_and, Bool.and_false, Bool.false_and, and_self, and_true, true_and, n0, n1, n2, n3, n4, m0, m1, m2, m3, c1, retA, resAs, resA, undefA, Option.map_some, Option.map_none]
      refine ⟨k - 1, by omega, u.extract 1 u.size, n + 1, rfl, by omega, ?_, ?_, ?_⟩
      · rw [← bts_len, bts_extract, List.length_take, List.length_drop, bts_len]; omega
      · rw [bts_extract, hbu, List.take_of_length_le (by rw [List.length_drop, List.length_drop]; omega), List.drop_drop]
      · intro j b' hj hb'
        by_cases hjn : j < n
        · exact hall j b' hjn hb'
        · obtain rfl : j = n := by omega
          rw [hb] at hb'; cases hb'; exact heq

theorem trim_law (t : ByteArray) (h0 : 0 < t.size) (ht : t.size ≤ 100000) (s : St) :
    WC T xs 92 [.str t, .str ⟨#[45]⟩] s (fun v s' => s' = s ∧ ∃ u, v = .str u ∧ (u.toList == (⟨#[]⟩ : ByteArray).toList) = (bts t).all (· == 45)) := by
  refine WC_fn cf92 rfl T92 (by simp [cf92]) ?_
  have hne : (t.toList == (⟨#[]⟩ : ByteArray).toList) = false := by
    rw [beq_eq_false_iff_ne, ByteArray.toList_eq, ByteArray.toList_eq]
    intro he
    have h1 : (bts t).length = 0 := congrArg List.length he
    rw [bts_len] at h1; omega
  have hi : idxA (.str ⟨#[45]⟩) (.int .i64 0) = some (.int .u8 45) := idx_at (s := ⟨#[45]⟩) (i := 0) (b := 45) rfl
  have hd : ((⟨#[45]⟩ : ByteArray).toList == (⟨#[]⟩ : ByteArray).toList) = false := by
    rw [beq_eq_false_iff_ne, ByteArray.toList_eq, ByteArray.toList_eq]; simp
  have hs1 : (((⟨#[45]⟩ : ByteArray).size : Int) == 1) = true := rfl
  have hs2 : decide ((45 : Int) < 128) = true := by decide
  simp only [cf92, hne, hd, hs1, hs2, hi, wseq, wreg, wdreg, wret, wskip, wexit, wblock, wcnd, cnd_t, cnd_f, then_n, then_x, then_r, catch_n, rnd_n, rnd_x, rnd_r, catch_x, catch_r, wo_nil, wo_grd, grdO_t, grdO_f, wo_ops, stpO, wr_nil, wr_alloc, wr_guards, grdR_t, grdR_f, wr_ops, stpR, evAllocs, evOp, env0_app, eput_some, eput_none, eset_app, Opd.ev, wantedA, faddrA, loadA, storeA, setAt, rdCells, snew_obj, snew_size, sput_obj, sput_size, av_cells, av_one, av_strip, av_still, binA, unA, eqbA, fillA, fldA, lensA, mmA, mm2, mmFold, List.getD_cons_zero, List.getD_cons_succ, List.getD_nil, List.length_cons, List.length_nil, List.drop_zero, List.drop_succ_cons, List.take_succ_cons, List.take_zero, List.map_cons, List.map_nil, List.set_cons_zero, List.set_cons_succ, List.all_cons, List.all_nil, List.getElem?_cons_zero, List.getElem?_cons_succ, List.nil_append, List.cons_append, ↓reduceIte, reduceCtorEq, Nat.reduceEqDiff, Nat.reduceAdd, Nat.reduceSub, Nat.reduceMul, Nat.reduceLeDiff, Nat.reduceLT, Nat.zero_add, Nat.add_zero, beq_self_eq_true, bt, bf, Bool.not_true, Bool.not_false, Bool.and_true, Bool.true_and, Bool.and_false, Bool.false_and, and_self, and_true, true_and, n0, n1, n2, n3, n4, m0, m1, m2, m3, c1, retA, resAs, resA, undefA, Option.map_some, Option.map_none]
  refine WR_callx [.str t, .int .u8 45] (by simp only [wseq, wreg, wdreg, wret, wskip, wexit, wblock, wcnd, cnd_t, cnd_f, then_n, then_x, then_r, catch_n, rnd_n, rnd_x, rnd_r, catch_x, catch_r, wo_nil, wo_grd, grdO_t, grdO_f, wo_ops, stpO, wr_nil, wr_alloc, wr_guards, grdR_t, grdR_f, wr_ops, stpR, evAllocs, evOp, env0_app, eput_some, eput_none, eset_app, Opd.ev, wantedA, faddrA, loadA, storeA, setAt, rdCells, snew_obj, snew_size, sput_obj, sput_size, av_cells, av_one, av_strip, av_still, binA, unA, eqbA, fillA, fldA, lensA, mmA, mm2, mmFold, List.getD_cons_zero, List.getD_cons_succ, List.getD_nil, List.length_cons, List.length_nil, List.drop_zero, List.drop_succ_cons, List.take_succ_cons, List.take_zero, List.map_cons, List.map_nil, List.set_cons_zero, List.set_cons_succ, List.all_cons, List.all_nil, List.getElem?_cons_zero, List.getElem?_cons_succ, List.nil_append, List.cons_append, ↓reduceIte, reduceCtorEq, Nat.reduceEqDiff, Nat.reduceAdd, Nat.reduceSub, Nat.reduceMul, Nat.reduceLeDiff, Nat.reduceLT, Nat.zero_add, Nat.add_zero, beq_self_eq_true, bt, bf, Bool.not_true, Bool.not_false, Bool.and_true, Bool.true_and, Bool.and_false, Bool.false_and, and_self, and_true, true_and, n0, n1, n2, n3, n4, m0, m1, m2, m3, c1, retA, resAs, resA, undefA, Option.map_some, Option.map_none]) ((trimR_law t 45 ht s).mono ?_)
  rintro v s1 ⟨rfl, u1, n, rfl, hn, hb1, hall, hlast⟩
  simp only [hi, wseq, wreg, wdreg, wret, wskip, wexit, wblock, wcnd, cnd_t, cnd_f, then_n, then_x, then_r, catch_n, rnd_n, rnd_x, rnd_r, catch_x, catch_r, wo_nil, wo_grd, grdO_t, grdO_f, wo_ops, stpO, wr_nil, wr_alloc, wr_guards, grdR_t, grdR_f, wr_ops, stpR, evAllocs, evOp, env0_app, eput_some, eput_none, eset_app, Opd.ev, wantedA, faddrA, loadA, storeA, setAt, rdCells, snew_obj, snew_size, sput_obj, sput_size, av_cells, av_one, av_strip, av_still, binA, unA, eqbA, fillA, fldA, lensA, mmA, mm2, mmFold, List.getD_cons_zero, List.getD_cons_succ, List.getD_nil, List.length_cons, List.length_nil, List.drop_zero, List.drop_succ_cons, List.take_succ_cons, List.take_zero, List.map_cons, List.map_nil, List.set_cons_zero, List.set_cons_succ, List.all_cons, List.all_nil, List.getElem?_cons_zero, List.getElem?_cons_succ, List.nil_append, List.cons_append, ↓reduceIte, reduceCtorEq, Nat.reduceEqDiff, Nat.reduceAdd, Nat.reduceSub, Nat.reduceMul, Nat.reduceLeDiff, Nat.reduceLT, Nat.zero_add, Nat.add_zero, beq_self_eq_true, bt, bf, Bool.not_true, Bool.not_false, Bool.and_true, Bool.true_and, Bool.and_false, Bool.false_and, and_self, and_true, true_and, n0, n1, n2, n3, n4, m0, m1, m2, m3, c1, retA, resAs, resA, undefA, Option.map_some, Option.map_none]
  have hu1 : u1.size = n := by rw [← bts_len, hb1, List.length_take, bts_len]; omega
  refine WR_callx [.str u1, .int .u8 45] (by simp only [wseq, wreg, wdreg, wret, wskip, wexit, wblock, wcnd, cnd_t, cnd_f, then_n, then_x, then_r, catch_n, rnd_n, rnd_x, rnd_r, catch_x, catch_r, wo_nil, wo_grd, grdO_t, grdO_f, wo_ops, stpO, wr_nil, wr_alloc, wr_guards, grdR_t, grdR_f, wr_ops, stpR, evAllocs, evOp, env0_app, eput_some, eput_none, eset_app, Opd.ev, wantedA, faddrA, loadA, storeA, setAt, rdCells, snew_obj, snew_size, sput_obj, sput_size, av_cells, av_one, av_strip, av_still, binA, unA, eqbA, fillA, fldA, lensA, mmA, mm2, mmFold, List.getD_cons_zero, List.getD_cons_succ, List.getD_nil, List.length_cons, List.length_nil, List.drop_zero, List.drop_succ_cons, List.take_succ_cons, List.take_zero, List.map_cons, List.map_nil, List.set_cons_zero, List.set_cons_succ, List.all_cons, List.all_nil, List.getElem?_cons_zero, List.getElem?_cons_succ, List.nil_append, List.cons_append, ↓reduceIte, reduceCtorEq, Nat.reduceEqDiff, Nat.reduceAdd, Nat.reduceSub, Nat.reduceMul, Nat.reduceLeDiff, Nat.reduceLT, Nat.zero_add, Nat.add_zero, beq_self_eq_true, bt, bf, Bool.not_true, Bool.not_false, Bool.and_true, Bool.true_and, Bool.and_false, Bool.false_and, and_self, and_true, true_and, n0, n1, n2, n3, n4, m0, m1, m2, m3, c1, retA, resAs, resA, undefA, Option.map_some, Option.map_none]) ((trimL_law u1 45 (by omega) s1).mono ?_)
  rintro v s2 ⟨rfl, u2, m, rfl, hm, hb2, hall2⟩
  simp only [wseq, wreg, wdreg, wret, wskip, wexit, wblock, wcnd, cnd_t, cnd_f, then_n, then_x, then_r, catch_n, rnd_n, rnd_x, rnd_r, catch_x, catch_r, wo_nil, wo_grd, grdO_t, grdO_f, wo_ops, stpO, wr_nil, wr_alloc, wr_guards, grdR_t, grdR_f, wr_ops, stpR, evAllocs, evOp, env0_app, eput_some, eput_none, eset_app, Opd.ev, wantedA, faddrA, loadA, storeA, setAt, rdCells, snew_obj, snew_size, sput_obj, sput_size, av_cells, av_one, av_strip, av_still, binA, unA, eqbA, fillA, fldA, lensA, mmA, mm2, mmFold, List.getD_cons_zero, List.getD_cons_succ, List.getD_nil, List.length_cons, List.length_nil, List.drop_zero, List.drop_succ_cons, List.take_succ_cons, List.take_zero, List.map_cons, List.map_nil, List.set_cons_zero, List.set_cons_succ, List.all_cons, List.all_nil, List.getElem?_cons_zero, List.getElem?_cons_succ, List.nil_append, List.cons_append, ↓reduceIte, reduceCtorEq, Nat.reduceEqDiff, Nat.reduceAdd, Nat.reduceSub, Nat.reduceMul, Nat.reduceLeDiff, Nat.reduceLT, Nat.zero_add, Nat.add_zero, beq_self_eq_true, bt, bf, Bool.not_true, Bool.not_false, Bool.and_true, Bool.true_and, Bool.and_false, Bool.false_and, and_self, and_true, true_and, n0, n1, n2, n3, n4, m0, m1, m2, m3, c1, retA, resAs, resA, undefA, Option.map_some, Option.map_none]
  refine ⟨by simp, _, rfl, u2, rfl, ?_⟩
  have hem : (u2.toList == (⟨#[]⟩ : ByteArray).toList) = decide (u2.size = 0) := by
    rw [ByteArray.toList_eq, ByteArray.toList_eq]
    have h1 := bts_len u2
    by_cases hz : u2.size = 0
    · have : bts u2 = [] := List.eq_nil_of_length_eq_zero (by omega)
      have h2 : u2.data.toList = [] := this
      rw [h2]; simp [hz]
    · have : u2.data.toList ≠ [] := fun he => by
        have : (bts u2).length = 0 := congrArg List.length he
        omega
      rw [show decide (u2.size = 0) = false by simp [hz], beq_eq_false_iff_ne]
      exact this
  have hz : u2.size = n - m := by rw [← bts_len, hb2, List.length_drop, bts_len]; omega
  rw [hem, Bool.eq_iff_iff, decide_eq_true_eq, List.all_eq_true]
  constructor
  · intro h2 b hb
    rw [beq_iff_eq]
    obtain ⟨j, hj⟩ := List.mem_iff_getElem?.1 hb
    by_cases hjn : n ≤ j
    · exact hall j b hjn hj
    · exfalso
      have hn0 : 0 < n := by omega
      obtain ⟨b', hb'⟩ : ∃ b', (bts t)[n - 1]? = some b' := ⟨_, List.getElem?_eq_getElem (by rw [bts_len]; omega)⟩
      refine hlast b' hn0 hb' (hall2 (n - 1) b' (by omega) ?_)
      rw [hb1, List.getElem?_take, if_pos (by omega)]; exact hb'
  · intro h2
    by_cases hn0 : n = 0
    · omega
    · exfalso
      obtain ⟨b', hb'⟩ : ∃ b', (bts t)[n - 1]? = some b' := ⟨_, List.getElem?_eq_getElem (by rw [bts_len]; omega)⟩
      have := h2 b' (List.mem_of_getElem? hb')
      rw [beq_iff_eq] at this
      exact hlast b' (by omega) hb' this
end Go.Am.L1

/- LexerLines: one token scanned. Conditions: none. -/
namespace Go.Am.L1
set_option maxRecDepth 100000
set_option linter.unusedSimpArgs false
attribute [local go_sem] wseq wreg wdreg wret wskip wexit wblock wcnd cnd_t cnd_f then_n then_x then_r catch_n rnd_n rnd_x rnd_r catch_x catch_r wo_nil wo_grd grdO_t grdO_f wo_ops stpO wr_nil wr_alloc wr_guards grdR_t grdR_f wr_ops stpR evAllocs evOp env0_app eput_some eput_none eset_app Opd.ev wantedA faddrA storeA setAt snew_obj snew_size sput_obj sput_size av_cells av_one av_strip av_still unA eqbA fillA fldA lensA mmA mm2 mmFold List.getD_cons_zero List.getD_cons_succ List.getD_nil List.length_cons List.length_nil List.drop_zero List.drop_succ_cons List.take_succ_cons List.take_zero List.map_cons List.map_nil List.set_cons_zero List.set_cons_succ List.all_cons List.all_nil List.getElem?_cons_zero List.getElem?_cons_succ List.nil_append List.cons_append Nat.zero_add Nat.add_zero beq_self_eq_true bt bf Bool.not_true Bool.not_false Bool.and_true Bool.true_and Bool.and_false Bool.false_and and_self and_true true_and n0 n1 n2 n3 n4 m0 m1 m2 m3 c1 retA resAs resA undefA Option.map_some Option.map_none

/-! ### What stands at the head of a text -/
inductive It where
  | nl
  | gap (k : Nat)
  | tok (kind : Int) (t : List UInt8) (n : Int) (bad : Bool)
  | err

def puS : ByteArray := ⟨#[40, 41, 123, 125, 44, 59]⟩
def puncB (b : UInt8) : Bool := decide (Lib.indexByte (bts puS) b ≥ 0)

def item (b : UInt8) (r : List UInt8) : It :=
  if b == 10 then .nl
  else if b == 32 then .gap 1
  else if smallZ b.toNat then .tok (if kwB (ofB (r.takeWhile innB)) then 4 else 0) (r.takeWhile innB) 0 false
  else if largeZ b.toNat then .tok 1 (r.takeWhile innB) 0 false
  else if digB b then .tok 2 (r.takeWhile digB) (if numL (r.takeWhile digB) > 1073741823 then 0 else numL (r.takeWhile digB)) (decide (numL (r.takeWhile digB) > 1073741823))
  else if puncB b then .tok 5 [b] 0 false
  else if mrkB b then (if decide ((r.takeWhile mrkB).length > 1) && (r.takeWhile mrkB).all (· == 45) then .gap (r.takeWhile nnlB).length
    else .tok (if kwB (ofB (r.takeWhile mrkB)) then 4 else 3) (r.takeWhile mrkB) 0 false)
  else .err

def It.len : It → Nat
  | .nl => 1
  | .gap k => k
  | .tok _ t _ _ => t.length
  | .err => 1
def It.line (l : Nat) : It → Nat
  | .nl => l + 1
  | _ => l
def It.col (c : Nat) : It → Nat
  | .nl => 1
  | .gap k => c + k
  | .tok _ t _ _ => c + t.length
  | .err => c + 1
def It.toks (l c : Nat) : It → List Tk
  | .tok k t n _ => [⟨k, ofB t, n, l, c⟩]
  | _ => []
def It.bads (l c : Nat) : It → List Dg
  | .tok _ _ _ true => [⟨4, l, c⟩]
  | .err => [⟨5, l, c⟩]
  | _ => []

theorem ofB_size (t : List UInt8) : (ofB t).size = t.length := by rw [← bts_len]; rfl
theorem bts_ofB (t : List UInt8) : bts (ofB t) = t := rfl
theorem tw_len (q : UInt8 → Bool) (s : ByteArray) (a : Nat) (ha : a ≤ s.size) : a + (((bts s).drop a).takeWhile q).length ≤ s.size := by
  have := (List.takeWhile_sublist q (l := (bts s).drop a)).length_le
  rw [List.length_drop, bts_len] at this; omega

theorem step_inv {N : Nat} {S : St} {p : Nat} {s : ByteArray} {a l c : Nat} {tk : List Tk} {ds : List Dg} (h : Inv N S p s a l c tk ds) (hb : s.size ≤ 8192) {b : UInt8} (hbi : (bts s)[a]? = some b) (hc : c ≤ 9000) (hl : tk.length ≤ 100000) (hd : ds.length ≤ 100000) (hln : l ≤ 9000) :
    WC T xs 60 [.ptr p 0] S (fun _ S' => Inv N S' p s (a + (item b ((bts s).drop a)).len) ((item b ((bts s).drop a)).line l) ((item b ((bts s).drop a)).col c) (tk ++ (item b ((bts s).drop a)).toks l c) (ds ++ (item b ((bts s).drop a)).bads l c) ∧ Low N S S') := by
  refine WC_fn cf60 rfl T60 (by simp [cf60]) ?_
  obtain ⟨ov, bv, hT, hB, hp, hf⟩ := h.ex
  have ha : a < s.size := by have := (List.getElem?_eq_some_iff.1 hbi).1; rwa [bts_len] at this
  obtain ⟨hl0, hl1, hl2, hl3, hl4, hl5⟩ := loads hT.scn
  have tl := fun q => tw_len q s a (Nat.le_of_lt ha)
  have hob := hT.scn.obj
  have w1 : IntKind.i64.wrap ((a : Int) + 1) = ((a + 1 : Nat) : Int) := by rw [IntKind.wrap_i64]; omega
  have w2 : IntKind.i64.wrap ((l : Int) + 1) = ((l + 1 : Nat) : Int) := by rw [IntKind.wrap_i64]; omega
  have e10 : (((b.toNat : Int)) == 10) = (b == 10) := by
    rw [Bool.eq_iff_iff, beq_iff_eq, beq_iff_eq]
    constructor
    · intro hh; apply UInt8.toNat_inj.1; show b.toNat = 10; omega
    · rintro rfl; rfl
  have e32 : (((b.toNat : Int)) == 32) = (b == 32) := by
    rw [Bool.eq_iff_iff, beq_iff_eq, beq_iff_eq]
    constructor
    · intro hh; apply UInt8.toNat_inj.1; show b.toNat = 32; omega
    · rintro rfl; rfl
  simp only [cf60, hob, idx_at hbi, e10, e32, go_sem, ↓reduceIte, reduceCtorEq, Nat.reduceEqDiff, Nat.reduceAdd, Nat.reduceSub, Nat.reduceMul, Nat.reduceLeDiff, Nat.reduceLT, loadA, rdCells, binA]
  cases h1 : (b == 10)
  · simp only [e32, go_sem, ↓reduceIte, reduceCtorEq, Nat.reduceEqDiff, Nat.reduceAdd, Nat.reduceSub, Nat.reduceMul, Nat.reduceLeDiff, Nat.reduceLT, loadA, rdCells, binA]
    cases h2 : (b == 32)
    · simp only [go_sem, ↓reduceIte, reduceCtorEq, Nat.reduceEqDiff, Nat.reduceAdd, Nat.reduceSub, Nat.reduceMul, Nat.reduceLeDiff, Nat.reduceLT, loadA, rdCells, binA]
      refine WO_callx [.int .u8 b.toNat] (by simp only [go_sem, ↓reduceIte, reduceCtorEq, Nat.reduceEqDiff, Nat.reduceAdd, Nat.reduceSub, Nat.reduceMul, Nat.reduceLeDiff, Nat.reduceLT, loadA, rdCells, binA]) ((small_law b.toNat S).mono ?_)
      rintro v S1 ⟨rfl, rfl⟩
      simp only [go_sem, ↓reduceIte, reduceCtorEq, Nat.reduceEqDiff, Nat.reduceAdd, Nat.reduceSub, Nat.reduceMul, Nat.reduceLeDiff, Nat.reduceLT, loadA, rdCells, binA]
      cases h3 : smallZ b.toNat
      · simp only [go_sem, ↓reduceIte, reduceCtorEq, Nat.reduceEqDiff, Nat.reduceAdd, Nat.reduceSub, Nat.reduceMul, Nat.reduceLeDiff, Nat.reduceLT, loadA, rdCells, binA]
        refine WO_callx [.int .u8 b.toNat] (by simp only [go_sem, ↓reduceIte, reduceCtorEq, Nat.reduceEqDiff, Nat.reduceAdd, Nat.reduceSub, Nat.reduceMul, Nat.reduceLeDiff, Nat.reduceLT, loadA, rdCells, binA]) ((large_law b.toNat S1).mono ?_)
        rintro v S2 ⟨rfl, rfl⟩
        simp only [go_sem, ↓reduceIte, reduceCtorEq, Nat.reduceEqDiff, Nat.reduceAdd, Nat.reduceSub, Nat.reduceMul, Nat.reduceLeDiff, Nat.reduceLT, loadA, rdCells, binA]
        cases h4 : largeZ b.toNat
        · simp only [go_sem, ↓reduceIte, reduceCtorEq, Nat.reduceEqDiff, Nat.reduceAdd, Nat.reduceSub, Nat.reduceMul, Nat.reduceLeDiff, Nat.reduceLT, loadA, rdCells, binA]
          refine WO_callx [.int .u8 b.toNat] (by simp only [go_sem, ↓reduceIte, reduceCtorEq, Nat.reduceEqDiff, Nat.reduceAdd, Nat.reduceSub, Nat.reduceMul, Nat.reduceLeDiff, Nat.reduceLT, loadA, rdCells, binA]) ((digit_law b.toNat S2).mono ?_)
          rintro v S3 ⟨rfl, rfl⟩
          simp only [go_sem, ↓reduceIte, reduceCtorEq, Nat.reduceEqDiff, Nat.reduceAdd, Nat.reduceSub, Nat.reduceMul, Nat.reduceLeDiff, Nat.reduceLT, loadA, rdCells, binA]
          cases h5 : digitZ b.toNat
          · simp only [go_sem, ↓reduceIte, reduceCtorEq, Nat.reduceEqDiff, Nat.reduceAdd, Nat.reduceSub, Nat.reduceMul, Nat.reduceLeDiff, Nat.reduceLT, loadA, rdCells, binA]
            have hbb : (b.toNat : Int).toNat.toUInt8 = b := by simp
            refine WO_callx [.str puS, .int .u8 b.toNat] (by simp only [go_sem, ↓reduceIte, reduceCtorEq, Nat.reduceEqDiff, Nat.reduceAdd, Nat.reduceSub, Nat.reduceMul, Nat.reduceLeDiff, Nat.reduceLT, loadA, rdCells, binA]; rfl) (WC_ext (h := idx2X) rfl (by simp only [idx2X, hbb]; rfl) ?_)
            simp only [go_sem, ↓reduceIte, reduceCtorEq, Nat.reduceEqDiff, Nat.reduceAdd, Nat.reduceSub, Nat.reduceMul, Nat.reduceLeDiff, Nat.reduceLT, loadA, rdCells, binA]
            cases h6 : decide (Lib.indexByte (bts puS) b ≥ 0)
            · simp only [go_sem, ↓reduceIte, reduceCtorEq, Nat.reduceEqDiff, Nat.reduceAdd, Nat.reduceSub, Nat.reduceMul, Nat.reduceLeDiff, Nat.reduceLT, loadA, rdCells, binA]
              refine WO_callx [.int .u8 b.toNat] (by simp only [go_sem, ↓reduceIte, reduceCtorEq, Nat.reduceEqDiff, Nat.reduceAdd, Nat.reduceSub, Nat.reduceMul, Nat.reduceLeDiff, Nat.reduceLT, loadA, rdCells, binA]) ((mark_law b.toNat S3).mono ?_)
              rintro v S4 ⟨rfl, rfl⟩
              simp only [go_sem, ↓reduceIte, reduceCtorEq, Nat.reduceEqDiff, Nat.reduceAdd, Nat.reduceSub, Nat.reduceMul, Nat.reduceLeDiff, Nat.reduceLT, loadA, rdCells, binA]
              have hmk : markZ b.toNat = mrkB b := rfl
              have hd5 : digB b = false := h5
              have hp6 : puncB b = false := h6
              cases h7 : markZ b.toNat
              · simp only [go_sem, ↓reduceIte, reduceCtorEq, Nat.reduceEqDiff, Nat.reduceAdd, Nat.reduceSub, Nat.reduceMul, Nat.reduceLeDiff, Nat.reduceLT, loadA, rdCells, binA]
                refine WO_callx [.ptr p 0, .int .i64 5] (by simp only [go_sem, ↓reduceIte, reduceCtorEq, Nat.reduceEqDiff, Nat.reduceAdd, Nat.reduceSub, Nat.reduceMul, Nat.reduceLeDiff, Nat.reduceLT, loadA, rdCells, binA]) ((fail_inv h 5 hd).mono ?_)
                rintro v S5 ⟨g1, g2⟩
                simp only [go_sem, ↓reduceIte, reduceCtorEq, Nat.reduceEqDiff, Nat.reduceAdd, Nat.reduceSub, Nat.reduceMul, Nat.reduceLeDiff, Nat.reduceLT, loadA, rdCells, binA]
                refine WO_callx [.ptr p 0, .int .i64 1] (by simp only [go_sem, ↓reduceIte, reduceCtorEq, Nat.reduceEqDiff, Nat.reduceAdd, Nat.reduceSub, Nat.reduceMul, Nat.reduceLeDiff, Nat.reduceLT, loadA, rdCells, binA]) ((skip_inv g1 1 (by omega) (by omega)).mono ?_)
                rintro v S6 ⟨g3, g4⟩
                simp only [go_sem, ↓reduceIte, reduceCtorEq, Nat.reduceEqDiff, Nat.reduceAdd, Nat.reduceSub, Nat.reduceMul, Nat.reduceLeDiff, Nat.reduceLT, loadA, rdCells, binA]
                have hit : item b ((bts s).drop a) = .err := by simp only [item, h1, h2, h3, h4, hd5, hp6, ← hmk, h7, if_true, Bool.false_eq_true, if_false]
                rw [hit]
                simp only [It.len, It.line, It.col, It.toks, It.bads, List.append_nil]
                exact ⟨by simp, _, rfl, g3, g2.trans g4⟩
              · simp only [go_sem, ↓reduceIte, reduceCtorEq, Nat.reduceEqDiff, Nat.reduceAdd, Nat.reduceSub, Nat.reduceMul, Nat.reduceLeDiff, Nat.reduceLT, loadA, rdCells, binA]
                refine WO_callx [.ptr p 0, .func 91 []] (by simp only [go_sem, ↓reduceIte, reduceCtorEq, Nat.reduceEqDiff, Nat.reduceAdd, Nat.reduceSub, Nat.reduceMul, Nat.reduceLeDiff, Nat.reduceLT, loadA, rdCells, binA]) ((run_law hT.scn (by omega) (by omega) (q := mrkB) (fun b S => mark_law b.toNat S)).mono ?_)
                rintro v S5 ⟨rfl, rfl⟩
                have hts : (ofB (((bts s).drop a).takeWhile mrkB)).size = (((bts s).drop a).takeWhile mrkB).length := ofB_size _
                have hm7 : mrkB b = true := by rw [← hmk]; exact h7
                have hlm := tl mrkB
                have fin : ∀ S6, (decide ((((bts s).drop a).takeWhile mrkB).length > 1) && (((bts s).drop a).takeWhile mrkB).all (· == 45)) = false → Inv N S6 p s (a + (ofB (((bts s).drop a).takeWhile mrkB)).size) l (c + (ofB (((bts s).drop a).takeWhile mrkB)).size) (tk ++ [⟨if kwB (ofB (((bts s).drop a).takeWhile mrkB)) then 4 else 3, ofB (((bts s).drop a).takeWhile mrkB), 0, l, c⟩]) ds → Inv N S6 p s (a + (item b ((bts s).drop a)).len) ((item b ((bts s).drop a)).line l) ((item b ((bts s).drop a)).col c) (tk ++ (item b ((bts s).drop a)).toks l c) (ds ++ (item b ((bts s).drop a)).bads l c) := by
                  intro S6 hcm g
                  have hit : item b ((bts s).drop a) = .tok (if kwB (ofB (((bts s).drop a).takeWhile mrkB)) then 4 else 3) (((bts s).drop a).takeWhile mrkB) 0 false := by simp only [item, h1, h2, h3, h4, hd5, hp6, hm7, hcm, if_true, Bool.false_eq_true, if_false]
                  rw [hit]
                  simp only [It.len, It.line, It.col, It.toks, It.bads, List.append_nil]
                  rw [hts] at g; exact g
                have word : ∀ k, WC T xs 85 [.ptr p 0, .int .i64 3, .str (ofB (((bts s).drop a).takeWhile mrkB))] S5 (fun _ S' => Inv N S' p s (a + (ofB (((bts s).drop a).takeWhile mrkB)).size) l (c + (ofB (((bts s).drop a).takeWhile mrkB)).size) (tk ++ [⟨if kwB (ofB (((bts s).drop a).takeWhile mrkB)) then 4 else 3, ofB (((bts s).drop a).takeWhile mrkB), 0, l, c⟩]) ds ∧ Low N S5 S') := fun _ : Nat => word_inv h 3 _ (by omega) (by omega) hl
                simp only [go_sem, ↓reduceIte, reduceCtorEq, Nat.reduceEqDiff, Nat.reduceAdd, Nat.reduceSub, Nat.reduceMul, Nat.reduceLeDiff, Nat.reduceLT, loadA, rdCells, binA]
                cases h8 : decide (((ofB (((bts s).drop a).takeWhile mrkB)).size : Int) > 1)
                · simp only [go_sem, ↓reduceIte, reduceCtorEq, Nat.reduceEqDiff, Nat.reduceAdd, Nat.reduceSub, Nat.reduceMul, Nat.reduceLeDiff, Nat.reduceLT, loadA, rdCells, binA]
                  refine WO_callx [.ptr p 0, .int .i64 3, .str (ofB (((bts s).drop a).takeWhile mrkB))] (by simp only [go_sem, ↓reduceIte, reduceCtorEq, Nat.reduceEqDiff, Nat.reduceAdd, Nat.reduceSub, Nat.reduceMul, Nat.reduceLeDiff, Nat.reduceLT, loadA, rdCells, binA]) ((word 0).mono ?_)
                  rintro v S6 ⟨g1, g2⟩
                  simp only [go_sem, ↓reduceIte, reduceCtorEq, Nat.reduceEqDiff, Nat.reduceAdd, Nat.reduceSub, Nat.reduceMul, Nat.reduceLeDiff, Nat.reduceLT, loadA, rdCells, binA]
                  refine ⟨by simp, _, rfl, fin S6 ?_ g1, g2⟩
                  have := of_decide_eq_false h8
                  rw [show decide ((((bts s).drop a).takeWhile mrkB).length > 1) = false by simp; omega, Bool.false_and]
                · simp only [go_sem, ↓reduceIte, reduceCtorEq, Nat.reduceEqDiff, Nat.reduceAdd, Nat.reduceSub, Nat.reduceMul, Nat.reduceLeDiff, Nat.reduceLT, loadA, rdCells, binA]
                  have h8' := of_decide_eq_true h8
                  refine WO_callx [.str (ofB (((bts s).drop a).takeWhile mrkB)), .str ⟨#[45]⟩] (by simp only [go_sem, ↓reduceIte, reduceCtorEq, Nat.reduceEqDiff, Nat.reduceAdd, Nat.reduceSub, Nat.reduceMul, Nat.reduceLeDiff, Nat.reduceLT, loadA, rdCells, binA]) ((trim_law (ofB (((bts s).drop a).takeWhile mrkB)) (by omega) (by omega) S5).mono ?_)
                  rintro v S6 ⟨rfl, u, rfl, hu⟩
                  rw [bts_ofB] at hu
                  have hl1' : decide ((((bts s).drop a).takeWhile mrkB).length > 1) = true := by simp; omega
                  simp only [hu, go_sem, ↓reduceIte, reduceCtorEq, Nat.reduceEqDiff, Nat.reduceAdd, Nat.reduceSub, Nat.reduceMul, Nat.reduceLeDiff, Nat.reduceLT, loadA, rdCells, binA]
                  cases h9 : (((bts s).drop a).takeWhile mrkB).all (· == 45)
                  · simp only [go_sem, ↓reduceIte, reduceCtorEq, Nat.reduceEqDiff, Nat.reduceAdd, Nat.reduceSub, Nat.reduceMul, Nat.reduceLeDiff, Nat.reduceLT, loadA, rdCells, binA]
                    refine WO_callx [.ptr p 0, .int .i64 3, .str (ofB (((bts s).drop a).takeWhile mrkB))] (by simp only [go_sem, ↓reduceIte, reduceCtorEq, Nat.reduceEqDiff, Nat.reduceAdd, Nat.reduceSub, Nat.reduceMul, Nat.reduceLeDiff, Nat.reduceLT, loadA, rdCells, binA]) ((word 0).mono ?_)
                    rintro v S7 ⟨g1, g2⟩
                    simp only [go_sem, ↓reduceIte, reduceCtorEq, Nat.reduceEqDiff, Nat.reduceAdd, Nat.reduceSub, Nat.reduceMul, Nat.reduceLeDiff, Nat.reduceLT, loadA, rdCells, binA]
                    exact ⟨by simp, _, rfl, fin S7 (by rw [h9, Bool.and_false]) g1, g2⟩
                  · simp only [go_sem, ↓reduceIte, reduceCtorEq, Nat.reduceEqDiff, Nat.reduceAdd, Nat.reduceSub, Nat.reduceMul, Nat.reduceLeDiff, Nat.reduceLT, loadA, rdCells, binA]
                    refine WO_callx [.ptr p 0, .func 93 []] (by simp only [go_sem, ↓reduceIte, reduceCtorEq, Nat.reduceEqDiff, Nat.reduceAdd, Nat.reduceSub, Nat.reduceMul, Nat.reduceLeDiff, Nat.reduceLT, loadA, rdCells, binA]) ((run_law hT.scn (by omega) (by omega) (q := nnlB) (fun b S => nonl_law b.toNat S)).mono ?_)
                    rintro v S7 ⟨rfl, rfl⟩
                    simp only [go_sem, ↓reduceIte, reduceCtorEq, Nat.reduceEqDiff, Nat.reduceAdd, Nat.reduceSub, Nat.reduceMul, Nat.reduceLeDiff, Nat.reduceLT, loadA, rdCells, binA]
                    have hln2 := tl nnlB
                    refine WO_callx [.ptr p 0, .int .i64 (ofB (((bts s).drop a).takeWhile nnlB)).size] (by simp only [go_sem, ↓reduceIte, reduceCtorEq, Nat.reduceEqDiff, Nat.reduceAdd, Nat.reduceSub, Nat.reduceMul, Nat.reduceLeDiff, Nat.reduceLT, loadA, rdCells, binA]) ((skip_inv h (ofB (((bts s).drop a).takeWhile nnlB)).size (by rw [ofB_size]; omega) (by rw [ofB_size]; omega)).mono ?_)
                    rintro v S8 ⟨g1, g2⟩
                    simp only [go_sem, ↓reduceIte, reduceCtorEq, Nat.reduceEqDiff, Nat.reduceAdd, Nat.reduceSub, Nat.reduceMul, Nat.reduceLeDiff, Nat.reduceLT, loadA, rdCells, binA]
                    have hit : item b ((bts s).drop a) = .gap (((bts s).drop a).takeWhile nnlB).length := by simp only [item, h1, h2, h3, h4, hd5, hp6, hm7, hl1', h9, if_true, Bool.false_eq_true, if_false, Bool.and_self]
                    rw [hit]
                    rw [ofB_size] at g1
                    simp only [It.len, It.line, It.col, It.toks, It.bads, List.append_nil]
                    exact ⟨by simp, _, rfl, g1, g2⟩
            · have hp6 : puncB b = true := h6
              have hd5 : digB b = false := h5
              have hone : ((bts s).drop a).take (a + 1 - a) = [b] := by
                rw [show a + 1 - a = 1 by omega, List.take_one, List.head?_drop, hbi]; rfl
              have hsl : slsA (.str s) (some (.int .i64 a)) (some (.int .i64 ((a + 1 : Nat) : Int))) = some (.str (ofB [b])) := by
                rw [← hone, ← ext_eq]
                simp only [slsA, optOf, natOf]
                rw [if_pos ⟨by omega, by omega⟩]
                simp only [Int.toNat_natCast]
                rw [if_pos ⟨by omega, by omega⟩]
              simp only [hl0, hl1, w1, hsl, go_sem, ↓reduceIte, reduceCtorEq, Nat.reduceEqDiff, Nat.reduceAdd, Nat.reduceSub, Nat.reduceMul, Nat.reduceLeDiff, Nat.reduceLT, binA]
              refine WR_callx [.ptr p 0, .int .i64 5, .str (ofB [b]), .int .i64 0] (by simp only [go_sem, ↓reduceIte, reduceCtorEq, Nat.reduceEqDiff, Nat.reduceAdd, Nat.reduceSub, Nat.reduceMul, Nat.reduceLeDiff, Nat.reduceLT, loadA, rdCells, binA]) ((put_inv h 5 0 _ (by rw [ofB_size]; simp; omega) (by rw [ofB_size]; simp; omega) hl).mono ?_)
              rintro v S4 ⟨g1, g2⟩
              simp only [go_sem, ↓reduceIte, reduceCtorEq, Nat.reduceEqDiff, Nat.reduceAdd, Nat.reduceSub, Nat.reduceMul, Nat.reduceLeDiff, Nat.reduceLT, loadA, rdCells, binA]
              have hit : item b ((bts s).drop a) = .tok 5 [b] 0 false := by simp only [item, h1, h2, h3, h4, hd5, hp6, if_true, Bool.false_eq_true, if_false]
              rw [hit]
              rw [ofB_size] at g1
              simp only [It.len, It.line, It.col, It.toks, It.bads, List.append_nil]
              exact ⟨by simp, _, rfl, g1, g2⟩
          · simp only [go_sem, ↓reduceIte, reduceCtorEq, Nat.reduceEqDiff, Nat.reduceAdd, Nat.reduceSub, Nat.reduceMul, Nat.reduceLeDiff, Nat.reduceLT, loadA, rdCells, binA]
            have hd5 : digB b = true := h5
            refine WO_callx [.ptr p 0] (by simp only [go_sem, ↓reduceIte, reduceCtorEq, Nat.reduceEqDiff, Nat.reduceAdd, Nat.reduceSub, Nat.reduceMul, Nat.reduceLeDiff, Nat.reduceLT, loadA, rdCells, binA]) ((number_inv h (by omega) (Nat.le_of_lt ha) (by omega) hl hd (t := ofB (((bts s).drop a).takeWhile digB)) rfl).mono ?_)
            rintro v S4 ⟨g1, g2⟩
            simp only [go_sem, ↓reduceIte, reduceCtorEq, Nat.reduceEqDiff, Nat.reduceAdd, Nat.reduceSub, Nat.reduceMul, Nat.reduceLeDiff, Nat.reduceLT, loadA, rdCells, binA]
            have hit : item b ((bts s).drop a) = .tok 2 (((bts s).drop a).takeWhile digB) (if numL (((bts s).drop a).takeWhile digB) > 1073741823 then 0 else numL (((bts s).drop a).takeWhile digB)) (decide (numL (((bts s).drop a).takeWhile digB) > 1073741823)) := by simp only [item, h1, h2, h3, h4, hd5, if_true, Bool.false_eq_true, if_false]
            rw [hit]
            rw [ofB_size, bts_ofB] at g1
            simp only [It.len, It.line, It.col, It.toks]
            refine ⟨by simp, _, rfl, ?_, g2⟩
            by_cases hbig : numL (((bts s).drop a).takeWhile digB) > 1073741823
            · rw [if_pos hbig] at g1 ⊢
              rw [if_pos hbig] at g1
              simp only [hbig, decide_true, It.bads]
              exact g1
            · rw [if_neg hbig] at g1 ⊢
              rw [if_neg hbig] at g1
              simp only [hbig, decide_false, It.bads, List.append_nil]
              exact g1
        · simp only [go_sem, ↓reduceIte, reduceCtorEq, Nat.reduceEqDiff, Nat.reduceAdd, Nat.reduceSub, Nat.reduceMul, Nat.reduceLeDiff, Nat.reduceLT, loadA, rdCells, binA]
          refine WO_callx [.ptr p 0, .func 87 []] (by simp only [go_sem, ↓reduceIte, reduceCtorEq, Nat.reduceEqDiff, Nat.reduceAdd, Nat.reduceSub, Nat.reduceMul, Nat.reduceLeDiff, Nat.reduceLT, loadA, rdCells, binA]) ((run_law hT.scn (by omega) (by omega) (q := innB) (fun b S => inner_law b.toNat S)).mono ?_)
          rintro v S3 ⟨rfl, rfl⟩
          simp only [go_sem, ↓reduceIte, reduceCtorEq, Nat.reduceEqDiff, Nat.reduceAdd, Nat.reduceSub, Nat.reduceMul, Nat.reduceLeDiff, Nat.reduceLT, loadA, rdCells, binA]
          refine WO_callx [.ptr p 0, .int .i64 1, .str (ofB (((bts s).drop a).takeWhile innB)), .int .i64 0] (by simp only [go_sem, ↓reduceIte, reduceCtorEq, Nat.reduceEqDiff, Nat.reduceAdd, Nat.reduceSub, Nat.reduceMul, Nat.reduceLeDiff, Nat.reduceLT, loadA, rdCells, binA]) ((put_inv h 1 0 _ (by rw [ofB_size]; have := tl innB; omega) (by rw [ofB_size]; have := tl innB; omega) hl).mono ?_)
          rintro v S4 ⟨h5, h6⟩
          simp only [go_sem, ↓reduceIte, reduceCtorEq, Nat.reduceEqDiff, Nat.reduceAdd, Nat.reduceSub, Nat.reduceMul, Nat.reduceLeDiff, Nat.reduceLT, loadA, rdCells, binA]
          have hit : item b ((bts s).drop a) = .tok 1 (((bts s).drop a).takeWhile innB) 0 false := by simp only [item, h1, h2, h3, h4, if_true, Bool.false_eq_true, if_false]
          rw [hit]
          simp only [It.len, It.line, It.col, It.toks, It.bads, List.append_nil]
          rw [ofB_size] at h5
          exact ⟨by simp, _, rfl, h5, h6⟩
      · simp only [go_sem, ↓reduceIte, reduceCtorEq, Nat.reduceEqDiff, Nat.reduceAdd, Nat.reduceSub, Nat.reduceMul, Nat.reduceLeDiff, Nat.reduceLT, loadA, rdCells, binA]
        refine WO_callx [.ptr p 0, .func 87 []] (by simp only [go_sem, ↓reduceIte, reduceCtorEq, Nat.reduceEqDiff, Nat.reduceAdd, Nat.reduceSub, Nat.reduceMul, Nat.reduceLeDiff, Nat.reduceLT, loadA, rdCells, binA]) ((run_law hT.scn (by omega) (by omega) (q := innB) (fun b S => inner_law b.toNat S)).mono ?_)
        rintro v S2 ⟨rfl, rfl⟩
        simp only [go_sem, ↓reduceIte, reduceCtorEq, Nat.reduceEqDiff, Nat.reduceAdd, Nat.reduceSub, Nat.reduceMul, Nat.reduceLeDiff, Nat.reduceLT, loadA, rdCells, binA]
        refine WO_callx [.ptr p 0, .int .i64 0, .str (ofB (((bts s).drop a).takeWhile innB))] (by simp only [go_sem, ↓reduceIte, reduceCtorEq, Nat.reduceEqDiff, Nat.reduceAdd, Nat.reduceSub, Nat.reduceMul, Nat.reduceLeDiff, Nat.reduceLT, loadA, rdCells, binA]) ((word_inv h 0 _ (by rw [ofB_size]; have := tl innB; omega) (by rw [ofB_size]; have := tl innB; omega) hl).mono ?_)
        rintro v S3 ⟨h5, h6⟩
        simp only [go_sem, ↓reduceIte, reduceCtorEq, Nat.reduceEqDiff, Nat.reduceAdd, Nat.reduceSub, Nat.reduceMul, Nat.reduceLeDiff, Nat.reduceLT, loadA, rdCells, binA]
        have hit : item b ((bts s).drop a) = .tok (if kwB (ofB (((bts s).drop a).takeWhile innB)) then 4 else 0) (((bts s).drop a).takeWhile innB) 0 false := by simp only [item, h1, h2, h3, if_true, Bool.false_eq_true, if_false]
        rw [hit]
        simp only [It.len, It.line, It.col, It.toks, It.bads, List.append_nil]
        rw [ofB_size] at h5
        exact ⟨by simp, _, rfl, h5, h6⟩
    · simp only [go_sem, ↓reduceIte, reduceCtorEq, Nat.reduceEqDiff, Nat.reduceAdd, Nat.reduceSub, Nat.reduceMul, Nat.reduceLeDiff, Nat.reduceLT, loadA, rdCells, binA]
      refine WO_callx [.ptr p 0, .int .i64 1] (by simp only [go_sem, ↓reduceIte, reduceCtorEq, Nat.reduceEqDiff, Nat.reduceAdd, Nat.reduceSub, Nat.reduceMul, Nat.reduceLeDiff, Nat.reduceLT, loadA, rdCells, binA]) ((skip_inv h 1 (by omega) (by omega)).mono ?_)
      rintro v S1 ⟨h3, h4⟩
      simp only [go_sem, ↓reduceIte, reduceCtorEq, Nat.reduceEqDiff, Nat.reduceAdd, Nat.reduceSub, Nat.reduceMul, Nat.reduceLeDiff, Nat.reduceLT, loadA, rdCells, binA]
      have hit : item b ((bts s).drop a) = .gap 1 := by simp only [item, h1, h2]; rfl
      rw [hit]
      simp only [It.len, It.line, It.col, It.toks, It.bads, List.append_nil]
      exact ⟨by simp, _, rfl, h3, h4⟩
  · simp only [hob, w1, w2, go_sem, ↓reduceIte, reduceCtorEq, Nat.reduceEqDiff, Nat.reduceAdd, Nat.reduceSub, Nat.reduceMul, Nat.reduceLeDiff, Nat.reduceLT, loadA, rdCells, binA]
    have hit : item b ((bts s).drop a) = .nl := by simp only [item, h1, if_true]
    rw [hit]
    simp only [It.len, It.line, It.col, It.toks, It.bads, List.append_nil]
    refine ⟨by simp, _, rfl, ?_⟩
    refine but_inv hT hB hp hf ⟨by have := hT.scn.lt; simpa [St.put] using this, put_eq⟩ ⟨by simp [St.put], fun j _ hj => by rw [put_ne hj, put_ne hj, put_ne hj]⟩
end Go.Am.L1
