/- A part of the proof of fixityRenamed. Conditions: none. -/
import Derived.Test.YtpeghecmojlcgaaAmT1
import Derived.Test.YtpeghecmojlcgaaAmW
namespace Go.Am.R1
set_option maxRecDepth 100000
set_option linter.unusedSimpArgs false

structure Fx where
  op : ByteArray
  side : Int
  level : Int

def fxc (x : Fx) : List AV := [.str x.op, .int .i64 x.side, .int .i64 x.level]
theorem fxc_len (x : Fx) : (fxc x).length = 3 := rfl

def againstF (x y : Fx) : Bool := x.level == y.level && (x.side != y.side || x.side == 2)

abbrev nx : Ext := fun _ => none

theorem against_law (x y : Fx) (s : St) : WC T nx 35 [.agg (fxc x), .agg (fxc y)] s (fun v s' => v = .bool (againstF x y) ∧ Keep s s') := by
  refine WC_fn cf35 rfl T35 (by simp [cf35]) ?_
  obtain ⟨o1, s1, l1⟩ := x
  obtain ⟨o2, s2, l2⟩ := y
  simp only [cf35, fxc, againstF, wseq, wreg, wdreg, wret, wskip, wexit, wblock, wcnd, cnd_t, cnd_f, then_n, then_x, then_r, catch_n, rnd_n, rnd_x, rnd_r, catch_x, catch_r, wo_nil, wo_grd, grdO_t, grdO_f, wo_ops, stpO, wr_nil, wr_alloc, wr_guards, grdR_t, grdR_f, wr_ops, stpR, evAllocs, evOp, env0_app, eput_some, eput_none, eset_app, Opd.ev, wantedA, faddrA, loadA, storeA, setAt, rdCells, snew_obj, snew_size, sput_obj, sput_size, av_cells, av_one, av_strip, av_still, binA, unA, eqbA, fillA, fldA, lensA, mmA, mm2, mmFold, List.getD_cons_zero, List.getD_cons_succ, List.getD_nil, List.length_cons, List.length_nil, List.drop_zero, List.drop_succ_cons, List.take_succ_cons, List.take_zero, List.map_cons, List.map_nil, List.set_cons_zero, List.set_cons_succ, List.all_cons, List.all_nil, List.getElem?_cons_zero, List.getElem?_cons_succ, List.nil_append, List.cons_append, ↓reduceIte, reduceCtorEq, Nat.reduceEqDiff, Nat.reduceAdd, Nat.reduceSub, Nat.reduceMul, Nat.reduceLeDiff, Nat.reduceLT, Nat.zero_add, Nat.add_zero, beq_self_eq_true, bt, bf, Bool.not_true, Bool.not_false, Bool.and_true, Bool.true_and, Bool.and_false, Bool.false_and, and_self, and_true, true_and, n0, n1, n2, n3, n4, m0, m1, m2, m3, c1, retA, resAs, resA, undefA, Option.map_some, Option.map_none]
  have hk : Keep s ((s.new (AO.cells [AV.str o1, AV.int IntKind.i64 s1, AV.int IntKind.i64 l1])).new (AO.cells [AV.str o2, AV.int IntKind.i64 s2, AV.int IntKind.i64 l2])) := ((Keep.refl s).new' _).new' _
  cases h1 : (l1 == l2) <;> simp only [wseq, wreg, wdreg, wret, wskip, wexit, wblock, wcnd, cnd_t, cnd_f, then_n, then_x, then_r, catch_n, rnd_n, rnd_x, rnd_r, catch_x, catch_r, wo_nil, wo_grd, grdO_t, grdO_f, wo_ops, stpO, wr_nil, wr_alloc, wr_guards, grdR_t, grdR_f, wr_ops, stpR, evAllocs, evOp, env0_app, eput_some, eput_none, eset_app, Opd.ev, wantedA, faddrA, loadA, storeA, setAt, rdCells, snew_obj, snew_size, sput_obj, sput_size, av_cells, av_one, av_strip, av_still, binA, unA, eqbA, fillA, fldA, lensA, mmA, mm2, mmFold, List.getD_cons_zero, List.getD_cons_succ, List.getD_nil, List.length_cons, List.length_nil, List.drop_zero, List.drop_succ_cons, List.take_succ_cons, List.take_zero, List.map_cons, List.map_nil, List.set_cons_zero, List.set_cons_succ, List.all_cons, List.all_nil, List.getElem?_cons_zero, List.getElem?_cons_succ, List.nil_append, List.cons_append, ↓reduceIte, reduceCtorEq, Nat.reduceEqDiff, Nat.reduceAdd, Nat.reduceSub, Nat.reduceMul, Nat.reduceLeDiff, Nat.reduceLT, Nat.zero_add, Nat.add_zero, beq_self_eq_true, bt, bf, Bool.not_true, Bool.not_false, Bool.and_true, Bool.true_and, Bool.and_false, Bool.false_and, and_self, and_true, true_and, n0, n1, n2, n3, n4, m0, m1, m2, m3, c1, retA, resAs, resA, undefA, Option.map_some, Option.map_none]
  · exact ⟨by simp, _, rfl, rfl, hk⟩
  · cases h2 : (s1 != s2) <;> simp only [wseq, wreg, wdreg, wret, wskip, wexit, wblock, wcnd, cnd_t, cnd_f, then_n, then_x, then_r, catch_n, rnd_n, rnd_x, rnd_r, catch_x, catch_r, wo_nil, wo_grd, grdO_t, grdO_f, wo_ops, stpO, wr_nil, wr_alloc, wr_guards, grdR_t, grdR_f, wr_ops, stpR, evAllocs, evOp, env0_app, eput_some, eput_none, eset_app, Opd.ev, wantedA, faddrA, loadA, storeA, setAt, rdCells, snew_obj, snew_size, sput_obj, sput_size, av_cells, av_one, av_strip, av_still, binA, unA, eqbA, fillA, fldA, lensA, mmA, mm2, mmFold, List.getD_cons_zero, List.getD_cons_succ, List.getD_nil, List.length_cons, List.length_nil, List.drop_zero, List.drop_succ_cons, List.take_succ_cons, List.take_zero, List.map_cons, List.map_nil, List.set_cons_zero, List.set_cons_succ, List.all_cons, List.all_nil, List.getElem?_cons_zero, List.getElem?_cons_succ, List.nil_append, List.cons_append, ↓reduceIte, reduceCtorEq, Nat.reduceEqDiff, Nat.reduceAdd, Nat.reduceSub, Nat.reduceMul, Nat.reduceLeDiff, Nat.reduceLT, Nat.zero_add, Nat.add_zero, beq_self_eq_true, bt, bf, Bool.not_true, Bool.not_false, Bool.and_true, Bool.true_and, Bool.and_false, Bool.false_and, and_self, and_true, true_and, n0, n1, n2, n3, n4, m0, m1, m2, m3, c1, retA, resAs, resA, undefA, Option.map_some, Option.map_none]
    · exact ⟨by simp, _, rfl, by simp, hk⟩
    · exact ⟨by simp, _, rfl, by simp, hk⟩

def TabAV (v : AV) (l : List Fx) : Prop := (v = .nils ∧ l = []) ∨ ∃ full tok, v = .sl (l.flatMap fxc) l.length full tok

def zfx : List AV := [.str ⟨#[]⟩, .int .i64 0, .int .i64 0]

def findF (l : List Fx) (op : ByteArray) : Fx := (l.find? (fun x => x.op.toList == op.toList)).getD ⟨op, 0, 9⟩

def big : Nat := 4611686018427387904

theorem wrap_nat {n : Nat} (h : n ≤ big) : IntKind.i64.wrap ((n : Int) + 1) = ((n + 1 : Nat) : Int) := by
  rw [IntKind.wrap_i64]; simp only [big] at h; omega

theorem find_law (tv : AV) (l : List Fx) (ht : TabAV tv l) (hb : l.length ≤ big) (op : ByteArray) (s : St) : WC T nx 17 [tv, .str op] s (fun v s' => v = .agg (fxc (findF l op)) ∧ Keep s s') := by
  refine WC_fn cf17 rfl T17 (by simp [cf17]) ?_
  have hlen : lenA tv = some (.int .i64 l.length) := by
    rcases ht with ⟨rfl, rfl⟩ | ⟨full, tok, rfl⟩ <;> rfl
  have hia : ∀ (i : Nat) (x : Fx), l[i]? = some x → iaddrA 3 tv (.int .i64 i) = some (.eptr (fxc x ++ (l.drop (i + 1)).flatMap fxc)) := by
    intro i x hi
    rcases ht with ⟨rfl, rfl⟩ | ⟨full, tok, rfl⟩
    · simp at hi
    · have := (List.getElem?_eq_some_iff.1 hi).1
      simp only [iaddrA]
      rw [if_pos (by omega), Int.toNat_natCast, flat_at fxc_len hi]
  simp only [cf17, hlen, wseq, wreg, wdreg, wret, wskip, wexit, wblock, wcnd, cnd_t, cnd_f, then_n, then_x, then_r, catch_n, rnd_n, rnd_x, rnd_r, catch_x, catch_r, wo_nil, wo_grd, grdO_t, grdO_f, wo_ops, stpO, wr_nil, wr_alloc, wr_guards, grdR_t, grdR_f, wr_ops, stpR, evAllocs, evOp, env0_app, eput_some, eput_none, eset_app, Opd.ev, wantedA, faddrA, loadA, storeA, setAt, rdCells, snew_obj, snew_size, sput_obj, sput_size, av_cells, av_one, av_strip, av_still, binA, unA, eqbA, fillA, fldA, lensA, mmA, mm2, mmFold, List.getD_cons_zero, List.getD_cons_succ, List.getD_nil, List.length_cons, List.length_nil, List.drop_zero, List.drop_succ_cons, List.take_succ_cons, List.take_zero, List.map_cons, List.map_nil, List.set_cons_zero, List.set_cons_succ, List.all_cons, List.all_nil, List.getElem?_cons_zero, List.getElem?_cons_succ, List.nil_append, List.cons_append, ↓reduceIte, reduceCtorEq, Nat.reduceEqDiff, Nat.reduceAdd, Nat.reduceSub, Nat.reduceMul, Nat.reduceLeDiff, Nat.reduceLT, Nat.zero_add, Nat.add_zero, beq_self_eq_true, bt, bf, Bool.not_true, Bool.not_false, Bool.and_true, Bool.true_and, Bool.and_false, Bool.false_and, and_self, and_true, true_and, n0, n1, n2, n3, n4, m0, m1, m2, m3, c1, retA, resAs, resA, undefA, Option.map_some, Option.map_none]
  refine W_loop_nat (fun k e s1 => ∃ i, i + k = l.length ∧ e 0 = tv ∧ e 1 = .str op ∧ e 4 = .ptr s.size 0 ∧ e 7 = tv ∧ e 8 = .int .i64 l.length ∧ e 9 = .int .i64 i ∧ findF l op = findF (l.drop i) op ∧ Keep s s1 ∧ s.size < s1.size ∧
    s1.obj s.size = some (.cells zfx)) ?_ l.length _ _ ⟨0, by simp, ?_⟩
  · rintro k e s1 ⟨i, hik, h0, h1, h4, h7, h8, h9, hf, hk, hlt, ho⟩
    simp only [zfx] at ho
    by_cases hi : i < l.length
    · obtain ⟨x, hx⟩ : ∃ x, l[i]? = some x := ⟨_, List.getElem?_eq_getElem hi⟩
      have hd : decide ((i : Int) < (l.length : Int)) = true := by simp; omega
      have hdr : l.drop i = x :: l.drop (i + 1) := by
        obtain ⟨hl, hx⟩ := List.getElem?_eq_some_iff.1 hx
        rw [List.drop_eq_getElem_cons hl, hx]
      simp only [cf17_l0, h0, h1, h4, h7, h8, h9, hd, hia i x hx, fxc, ho, hlt, wrap_nat (Nat.le_trans (Nat.le_of_lt hi) hb), Nat.le_add_left, wseq, wreg, wdreg, wret, wskip, wexit, wblock, wcnd, cnd_t, cnd_f, then_n, then_x, then_r, catch_n, rnd_n, rnd_x, rnd_r, catch_x, catch_r, wo_nil, wo_grd, grdO_t, grdO_f, wo_ops, stpO, wr_nil, wr_alloc, wr_guards, grdR_t, grdR_f, wr_ops, stpR, evAllocs, evOp, env0_app, eput_some, eput_none, eset_app, Opd.ev, wantedA, faddrA, loadA, storeA, setAt, rdCells, snew_obj, snew_size, sput_obj, sput_size, av_cells, av_one, av_strip, av_still, binA, unA, eqbA, fillA, fldA, lensA, mmA, mm2, mmFold, List.getD_cons_zero, List.getD_cons_succ, List.getD_nil, List.length_cons, List.length_nil, List.drop_zero, List.drop_succ_cons, List.take_succ_cons, List.take_zero, List.map_cons, List.map_nil, List.set_cons_zero, List.set_cons_succ, List.all_cons, List.all_nil, List.getElem?_cons_zero, List.getElem?_cons_succ, List.nil_append, List.cons_append, ↓reduceIte, reduceCtorEq, Nat.reduceEqDiff, Nat.reduceAdd, Nat.reduceSub, Nat.reduceMul, Nat.reduceLeDiff, Nat.reduceLT, Nat.zero_add, Nat.add_zero, beq_self_eq_true, bt, bf, Bool.not_true, Bool.not_false, Bool.and_true, Bool.true_and, Bool.and_false, Bool.false_and, and_self, and_true, true_and, n0, n1, n2, n3, n4, m0, m1, m2, m3, c1, retA, resAs, resA, undefA, Option.map_some, Option.map_none]
      cases hop : (x.op.toList == op.toList)
      · simp only [cf17_l0, h0, h1, h4, h7, h8, h9, hd, hia i x hx, fxc, ho, hlt, l0 hlt, wrap_nat (Nat.le_trans (Nat.le_of_lt hi) hb), Nat.le_add_left, wseq, wreg, wdreg, wret, wskip, wexit, wblock, wcnd, cnd_t, cnd_f, then_n, then_x, then_r, catch_n, rnd_n, rnd_x, rnd_r, catch_x, catch_r, wo_nil, wo_grd, grdO_t, grdO_f, wo_ops, stpO, wr_nil, wr_alloc, wr_guards, grdR_t, grdR_f, wr_ops, stpR, evAllocs, evOp, env0_app, eput_some, eput_none, eset_app, Opd.ev, wantedA, faddrA, loadA, storeA, setAt, rdCells, snew_obj, snew_size, sput_obj, sput_size, av_cells, av_one, av_strip, av_still, binA, unA, eqbA, fillA, fldA, lensA, mmA, mm2, mmFold, List.getD_cons_zero, List.getD_cons_succ, List.getD_nil, List.length_cons, List.length_nil, List.drop_zero, List.drop_succ_cons, List.take_succ_cons, List.take_zero, List.map_cons, List.map_nil, List.set_cons_zero, List.set_cons_succ, List.all_cons, List.all_nil, List.getElem?_cons_zero, List.getElem?_cons_succ, List.nil_append, List.cons_append, ↓reduceIte, reduceCtorEq, Nat.reduceEqDiff, Nat.reduceAdd, Nat.reduceSub, Nat.reduceMul, Nat.reduceLeDiff, Nat.reduceLT, Nat.zero_add, Nat.add_zero, beq_self_eq_true, bt, bf, Bool.not_true, Bool.not_false, Bool.and_true, Bool.true_and, Bool.and_false, Bool.false_and, and_self, and_true, true_and, n0, n1, n2, n3, n4, m0, m1, m2, m3, c1, retA, resAs, resA, undefA, Option.map_some, Option.map_none]
        refine ⟨k - 1, by omega, i + 1, by omega, rfl, ?_, (hk.new' _).put' hk.1 _, by omega, rfl⟩
        rw [hf, hdr]; simp only [findF, List.find?_cons, hop]
      · simp only [cf17_l0, h0, h1, h4, h7, h8, h9, hd, hia i x hx, fxc, ho, hlt, l0 hlt, Nat.le_add_left, wseq, wreg, wdreg, wret, wskip, wexit, wblock, wcnd, cnd_t, cnd_f, then_n, then_x, then_r, catch_n, rnd_n, rnd_x, rnd_r, catch_x, catch_r, wo_nil, wo_grd, grdO_t, grdO_f, wo_ops, stpO, wr_nil, wr_alloc, wr_guards, grdR_t, grdR_f, wr_ops, stpR, evAllocs, evOp, env0_app, eput_some, eput_none, eset_app, Opd.ev, wantedA, faddrA, loadA, storeA, setAt, rdCells, snew_obj, snew_size, sput_obj, sput_size, av_cells, av_one, av_strip, av_still, binA, unA, eqbA, fillA, fldA, lensA, mmA, mm2, mmFold, List.getD_cons_zero, List.getD_cons_succ, List.getD_nil, List.length_cons, List.length_nil, List.drop_zero, List.drop_succ_cons, List.take_succ_cons, List.take_zero, List.map_cons, List.map_nil, List.set_cons_zero, List.set_cons_succ, List.all_cons, List.all_nil, List.getElem?_cons_zero, List.getElem?_cons_succ, List.nil_append, List.cons_append, ↓reduceIte, reduceCtorEq, Nat.reduceEqDiff, Nat.reduceAdd, Nat.reduceSub, Nat.reduceMul, Nat.reduceLeDiff, Nat.reduceLT, Nat.zero_add, Nat.add_zero, beq_self_eq_true, bt, bf, Bool.not_true, Bool.not_false, Bool.and_true, Bool.true_and, Bool.and_false, Bool.false_and, and_self, and_true, true_and, n0, n1, n2, n3, n4, m0, m1, m2, m3, c1, retA, resAs, resA, undefA, Option.map_some, Option.map_none]
        refine ⟨by simp, _, rfl, ?_, ((hk.new' _).put' hk.1 _).put' (Nat.le_refl _) _⟩
        rw [hf, hdr]; simp only [findF, List.find?_cons, hop, Option.getD_some]
    · have hd : decide ((i : Int) < (l.length : Int)) = false := by simp; omega
      simp only [cf17_l0, h0, h1, h4, h7, h8, h9, hd, fxc, ho, hlt, Nat.le_add_left, wseq, wreg, wdreg, wret, wskip, wexit, wblock, wcnd, cnd_t, cnd_f, then_n, then_x, then_r, catch_n, rnd_n, rnd_x, rnd_r, catch_x, catch_r, wo_nil, wo_grd, grdO_t, grdO_f, wo_ops, stpO, wr_nil, wr_alloc, wr_guards, grdR_t, grdR_f, wr_ops, stpR, evAllocs, evOp, env0_app, eput_some, eput_none, eset_app, Opd.ev, wantedA, faddrA, loadA, storeA, setAt, rdCells, snew_obj, snew_size, sput_obj, sput_size, av_cells, av_one, av_strip, av_still, binA, unA, eqbA, fillA, fldA, lensA, mmA, mm2, mmFold, List.getD_cons_zero, List.getD_cons_succ, List.getD_nil, List.length_cons, List.length_nil, List.drop_zero, List.drop_succ_cons, List.take_succ_cons, List.take_zero, List.map_cons, List.map_nil, List.set_cons_zero, List.set_cons_succ, List.all_cons, List.all_nil, List.getElem?_cons_zero, List.getElem?_cons_succ, List.nil_append, List.cons_append, ↓reduceIte, reduceCtorEq, Nat.reduceEqDiff, Nat.reduceAdd, Nat.reduceSub, Nat.reduceMul, Nat.reduceLeDiff, Nat.reduceLT, Nat.zero_add, Nat.add_zero, beq_self_eq_true, bt, bf, Bool.not_true, Bool.not_false, Bool.and_true, Bool.true_and, Bool.and_false, Bool.false_and, and_self, and_true, true_and, n0, n1, n2, n3, n4, m0, m1, m2, m3, c1, retA, resAs, resA, undefA, Option.map_some, Option.map_none]
      refine ⟨by simp, _, rfl, ?_, hk.put' (Nat.le_refl _) _⟩
      rw [hf, List.drop_eq_nil_of_le (by omega)]; rfl
  · simp only [wseq, wreg, wdreg, wret, wskip, wexit, wblock, wcnd, cnd_t, cnd_f, then_n, then_x, then_r, catch_n, rnd_n, rnd_x, rnd_r, catch_x, catch_r, wo_nil, wo_grd, grdO_t, grdO_f, wo_ops, stpO, wr_nil, wr_alloc, wr_guards, grdR_t, grdR_f, wr_ops, stpR, evAllocs, evOp, env0_app, eput_some, eput_none, eset_app, Opd.ev, wantedA, faddrA, loadA, storeA, setAt, rdCells, snew_obj, snew_size, sput_obj, sput_size, av_cells, av_one, av_strip, av_still, binA, unA, eqbA, fillA, fldA, lensA, mmA, mm2, mmFold, List.getD_cons_zero, List.getD_cons_succ, List.getD_nil, List.length_cons, List.length_nil, List.drop_zero, List.drop_succ_cons, List.take_succ_cons, List.take_zero, List.map_cons, List.map_nil, List.set_cons_zero, List.set_cons_succ, List.all_cons, List.all_nil, List.getElem?_cons_zero, List.getElem?_cons_succ, List.nil_append, List.cons_append, ↓reduceIte, reduceCtorEq, Nat.reduceEqDiff, Nat.reduceAdd, Nat.reduceSub, Nat.reduceMul, Nat.reduceLeDiff, Nat.reduceLT, Nat.zero_add, Nat.add_zero, beq_self_eq_true, bt, bf, Bool.not_true, Bool.not_false, Bool.and_true, Bool.true_and, Bool.and_false, Bool.false_and, and_self, and_true, true_and, n0, n1, n2, n3, n4, m0, m1, m2, m3, c1, retA, resAs, resA, undefA, Option.map_some, Option.map_none]
    exact ⟨rfl, (Keep.refl s).new' _, by omega, rfl⟩
end Go.Am.R1
