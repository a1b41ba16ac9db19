/- Ways and cycles of imports; the library's calls of Cycle. Conditions: none. -/
import Derived.Test.YtjhbakfgoaeeoaaAmM3
import Derived.Test.YtjhbakfgoaeeoaaAmMb
import Derived.Test.YtjhbakfgoaeeoaaAmTn
import Derived.Test.YtjhbakfgoaeeoaaAmYc
import Derived.Test.YtjhbakfgoaeeoaaAmY5
import Derived.Sort.Walk0
namespace Go.Am.M2
open Go.Am.M1 (Rd memB memB_iff memB_f Idx impc impc_len ChkP big wrap_nat strP ims_rd keep_of sort_step compact_step drop_at ba_ext sortB_nil)
set_option maxRecDepth 100000
set_option linter.unusedSimpArgs false

def xn : Ext := fun f => if f = 16 then some sortX else if f = 17 then some compactX else if f = 27 then some (collectX 28) else none
theorem subM : Sub M1.T M1.xm T xn := by
  refine ⟨fun f h hx => ⟨h, ?_, fun _ _ _ hh => hh⟩, fun f cf hx ht => ?_⟩
  · unfold M1.xm at hx
    split at hx
    · rename_i hf; subst hf; exact hx
    split at hx
    · rename_i hf; subst hf; exact hx
    · cases hx
  · unfold M1.T at ht
    split at ht
    all_goals first
      | (cases ht; exact ⟨rfl, rfl⟩)
      | cases ht

/-! ### Ways -/
section
variable (names : List ByteArray) (ims : List (List ByteArray))
def Imp (x y : ByteArray) : Prop := ∃ (i : Nat) (l : List ByteArray), names[i]? = some x ∧ ims[i]? = some l ∧ y ∈ l
inductive Steps : Nat → ByteArray → ByteArray → Prop
  | one {x y : ByteArray} (h : Imp names ims x y) : Steps 1 x y
  | succ {k : Nat} {x y z : ByteArray} (h : Steps k x y) (hi : Imp names ims y z) : Steps (k + 1) x z
structure Way (w : List ByteArray) : Prop where
  pos : 0 < w.length
  mem : ∀ x, x ∈ w → x ∈ names
  chain : ∀ (i : Nat) x y, w[i]? = some x → w[i + 1]? = some y → Imp names ims x y
  nodup : w.Nodup
  head : ∀ (i : Nat) x y, w[0]? = some x → w[i + 1]? = some y → bts x < bts y
structure Cyc (w : List ByteArray) : Prop where
  way : Way names ims w
  back : ∀ x y, w[w.length - 1]? = some x → w[0]? = some y → Imp names ims x y
end

variable {names : List ByteArray} {ims : List (List ByteArray)}

theorem idx_of (hc : ChkP names ims) {x : ByteArray} {m : Int} (hx : x ∈ names) (h : Idx names x m) : ∃ (i : Nat) (l : List ByteArray), m = i ∧ names[i]? = some x ∧ ims[i]? = some l ∧ ∀ y, Imp names ims x y ↔ y ∈ l := by
  rcases h with ⟨i, rfl, hi⟩ | ⟨-, hn⟩
  · have hlt := (List.getElem?_eq_some_iff.1 hi).1
    have hl : ims[i]? = some (ims[i]'(by have := hc.len; omega)) := List.getElem?_eq_getElem _
    refine ⟨i, _, rfl, hi, hl, fun y => ⟨?_, fun hy => ⟨i, _, hi, hl, hy⟩⟩⟩
    rintro ⟨j, l, hj, hjl, hy⟩
    have hjlt := (List.getElem?_eq_some_iff.1 hj).1
    obtain rfl : i = j := (List.getElem?_inj hlt hc.nodup).1 (hi.trans hj.symm)
    rw [hl] at hjl
    cases hjl
    exact hy
  · exact absurd hx hn

theorem imp_mem (hc : ChkP names ims) {x y : ByteArray} (h : Imp names ims x y) : y ∈ names := by
  obtain ⟨i, l, -, h2, h3⟩ := h
  exact hc.imp l (List.mem_of_getElem? h2) y h3

/-! ### Sorted(Values(..)) -/
theorem values_law {v : AV} {l : List ByteArray} (h : ISl strc v l) (S : St) : WC T xn 20 [v] S (fun r s' => r = .func 28 [.ptr S.size 0] ∧ s' = S.new (.cells [v])) := by
  have hc : v.cells = [v] := by
    rcases h with ⟨rfl, -⟩ | ⟨full, tok, rfl⟩ <;> rfl
  refine WC_fn cf20 rfl T20 (by simp [cf20]) ?_
  simp only [cf20, hc, wseq, wreg, wdreg, wret, wskip, wexit, wblock, wcnd, cnd_t, cnd_f, then_n, then_x, then_r, catch_n, rnd_n, rnd_x, rnd_r, catch_x, catch_r, wo_nil, wo_grd, grdO_t, grdO_f, wo_ops, stpO, wr_nil, wr_alloc, wr_guards, grdR_t, grdR_f, wr_ops, stpR, evAllocs, evOp, env0_app, eput_some, eput_none, eset_app, Opd.ev, wantedA, faddrA, loadA, storeA, setAt, rdCells, snew_obj, snew_size, sput_obj, sput_size, av_cells, av_one, av_strip, av_still, binA, unA, eqbA, fillA, fldA, lensA, mmA, mm2, mmFold, List.getD_cons_zero, List.getD_cons_succ, List.getD_nil, List.length_cons, List.length_nil, List.drop_zero, List.drop_succ_cons, List.take_succ_cons, List.take_zero, List.map_cons, List.map_nil, List.set_cons_zero, List.set_cons_succ, List.all_cons, List.all_nil, List.getElem?_cons_zero, List.getElem?_cons_succ, List.nil_append, List.cons_append, ↓reduceIte, reduceCtorEq, Nat.reduceEqDiff, Nat.reduceAdd, Nat.reduceSub, Nat.reduceMul, Nat.reduceLeDiff, Nat.reduceLT, Nat.zero_add, Nat.add_zero, beq_self_eq_true, bt, bf, Bool.not_true, Bool.not_false, Bool.and_true, Bool.true_and, Bool.and_false, Bool.false_and, and_self, and_true, true_and, n0, n1, n2, n3, n4, m0, m1, m2, m3, c1, retA, resAs, resA, undefA, Option.map_some, Option.map_none]
  exact ⟨by simp, _, rfl, rfl⟩

theorem sorted_law {v : AV} {l : List ByteArray} (h : ISl strc v l) (hb : l.length * 16 ≤ 140737488351232) (S : St) {p : Nat} (ho : S.obj p = some (.cells [v])) :
    WC T xn 19 [.func 28 [.ptr p 0]] S (fun r s' => Rd s' r (sortB l) ∧ Keep S s') := by
  have hcol : ∃ r s1, collectX 28 [.func 28 [.ptr p 0]] S = some (r, s1) ∧ MSl strc 1 s1 r l ∧ Keep S s1 ∧ freshO S.size r := by
    rcases h with ⟨rfl, rfl⟩ | ⟨full, tok, rfl⟩
    · exact ⟨.nils, S, by simp [collectX, ho], Or.inl ⟨rfl, rfl⟩, Keep.refl S, freshO_nils _⟩
    · by_cases h0 : l.length = 0
      · obtain rfl := List.eq_nil_of_length_eq_zero h0
        exact ⟨.nils, S, by simp [collectX, ho, strsOf], Or.inl ⟨rfl, rfl⟩, Keep.refl S, freshO_nils _⟩
      · refine ⟨.msl S.size 0 l.length 1, S.new (.cells (l.flatMap strc)), ?_, Or.inr (Or.inr ⟨S.size, rfl, new_eq rfl, by simp [St.new]⟩), Keep.new _ _, ?_⟩
        · simp only [collectX, ho, strsOf_flat]
          rw [if_pos trivial, if_pos ⟨trivial, hb⟩, if_neg h0]
        · intro q o n z he; cases he; exact Nat.le_refl _
  obtain ⟨r, s1, hcl, hM, hk, hf⟩ := hcol
  obtain ⟨s2, hso, hM2, hx⟩ := sort_step hM (by omega)
  refine WC_fn cf19 rfl T19 (by simp [cf19]) ?_
  simp only [cf19, wseq, wreg, wdreg, wret, wskip, wexit, wblock, wcnd, cnd_t, cnd_f, then_n, then_x, then_r, catch_n, rnd_n, rnd_x, rnd_r, catch_x, catch_r, wo_nil, wo_grd, grdO_t, grdO_f, wo_ops, stpO, wr_nil, wr_alloc, wr_guards, grdR_t, grdR_f, wr_ops, stpR, evAllocs, evOp, env0_app, eput_some, eput_none, eset_app, Opd.ev, wantedA, faddrA, loadA, storeA, setAt, rdCells, snew_obj, snew_size, sput_obj, sput_size, av_cells, av_one, av_strip, av_still, binA, unA, eqbA, fillA, fldA, lensA, mmA, mm2, mmFold, List.getD_cons_zero, List.getD_cons_succ, List.getD_nil, List.length_cons, List.length_nil, List.drop_zero, List.drop_succ_cons, List.take_succ_cons, List.take_zero, List.map_cons, List.map_nil, List.set_cons_zero, List.set_cons_succ, List.all_cons, List.all_nil, List.getElem?_cons_zero, List.getElem?_cons_succ, List.nil_append, List.cons_append, ↓reduceIte, reduceCtorEq, Nat.reduceEqDiff, Nat.reduceAdd, Nat.reduceSub, Nat.reduceMul, Nat.reduceLeDiff, Nat.reduceLT, Nat.zero_add, Nat.add_zero, beq_self_eq_true, bt, bf, Bool.not_true, Bool.not_false, Bool.and_true, Bool.true_and, Bool.and_false, Bool.false_and, and_self, and_true, true_and, n0, n1, n2, n3, n4, m0, m1, m2, m3, c1, retA, resAs, resA, undefA, Option.map_some, Option.map_none]
  refine WO_callx [.func 28 [.ptr p 0]] (by simp only [wseq, wreg, wdreg, wret, wskip, wexit, wblock, wcnd, cnd_t, cnd_f, then_n, then_x, then_r, catch_n, rnd_n, rnd_x, rnd_r, catch_x, catch_r, wo_nil, wo_grd, grdO_t, grdO_f, wo_ops, stpO, wr_nil, wr_alloc, wr_guards, grdR_t, grdR_f, wr_ops, stpR, evAllocs, evOp, env0_app, eput_some, eput_none, eset_app, Opd.ev, wantedA, faddrA, loadA, storeA, setAt, rdCells, snew_obj, snew_size, sput_obj, sput_size, av_cells, av_one, av_strip, av_still, binA, unA, eqbA, fillA, fldA, lensA, mmA, mm2, mmFold, List.getD_cons_zero, List.getD_cons_succ, List.getD_nil, List.length_cons, List.length_nil, List.drop_zero, List.drop_succ_cons, List.take_succ_cons, List.take_zero, List.map_cons, List.map_nil, List.set_cons_zero, List.set_cons_succ, List.all_cons, List.all_nil, List.getElem?_cons_zero, List.getElem?_cons_succ, List.nil_append, List.cons_append, ↓reduceIte, reduceCtorEq, Nat.reduceEqDiff, Nat.reduceAdd, Nat.reduceSub, Nat.reduceMul, Nat.reduceLeDiff, Nat.reduceLT, Nat.zero_add, Nat.add_zero, beq_self_eq_true, bt, bf, Bool.not_true, Bool.not_false, Bool.and_true, Bool.true_and, Bool.and_false, Bool.false_and, and_self, and_true, true_and, n0, n1, n2, n3, n4, m0, m1, m2, m3, c1, retA, resAs, resA, undefA, Option.map_some, Option.map_none]) (WC_ext (h := collectX 28) rfl hcl ?_)
  simp only [wseq, wreg, wdreg, wret, wskip, wexit, wblock, wcnd, cnd_t, cnd_f, then_n, then_x, then_r, catch_n, rnd_n, rnd_x, rnd_r, catch_x, catch_r, wo_nil, wo_grd, grdO_t, grdO_f, wo_ops, stpO, wr_nil, wr_alloc, wr_guards, grdR_t, grdR_f, wr_ops, stpR, evAllocs, evOp, env0_app, eput_some, eput_none, eset_app, Opd.ev, wantedA, faddrA, loadA, storeA, setAt, rdCells, snew_obj, snew_size, sput_obj, sput_size, av_cells, av_one, av_strip, av_still, binA, unA, eqbA, fillA, fldA, lensA, mmA, mm2, mmFold, List.getD_cons_zero, List.getD_cons_succ, List.getD_nil, List.length_cons, List.length_nil, List.drop_zero, List.drop_succ_cons, List.take_succ_cons, List.take_zero, List.map_cons, List.map_nil, List.set_cons_zero, List.set_cons_succ, List.all_cons, List.all_nil, List.getElem?_cons_zero, List.getElem?_cons_succ, List.nil_append, List.cons_append, ↓reduceIte, reduceCtorEq, Nat.reduceEqDiff, Nat.reduceAdd, Nat.reduceSub, Nat.reduceMul, Nat.reduceLeDiff, Nat.reduceLT, Nat.zero_add, Nat.add_zero, beq_self_eq_true, bt, bf, Bool.not_true, Bool.not_false, Bool.and_true, Bool.true_and, Bool.and_false, Bool.false_and, and_self, and_true, true_and, n0, n1, n2, n3, n4, m0, m1, m2, m3, c1, retA, resAs, resA, undefA, Option.map_some, Option.map_none]
  refine WO_callx [r] (by simp only [wseq, wreg, wdreg, wret, wskip, wexit, wblock, wcnd, cnd_t, cnd_f, then_n, then_x, then_r, catch_n, rnd_n, rnd_x, rnd_r, catch_x, catch_r, wo_nil, wo_grd, grdO_t, grdO_f, wo_ops, stpO, wr_nil, wr_alloc, wr_guards, grdR_t, grdR_f, wr_ops, stpR, evAllocs, evOp, env0_app, eput_some, eput_none, eset_app, Opd.ev, wantedA, faddrA, loadA, storeA, setAt, rdCells, snew_obj, snew_size, sput_obj, sput_size, av_cells, av_one, av_strip, av_still, binA, unA, eqbA, fillA, fldA, lensA, mmA, mm2, mmFold, List.getD_cons_zero, List.getD_cons_succ, List.getD_nil, List.length_cons, List.length_nil, List.drop_zero, List.drop_succ_cons, List.take_succ_cons, List.take_zero, List.map_cons, List.map_nil, List.set_cons_zero, List.set_cons_succ, List.all_cons, List.all_nil, List.getElem?_cons_zero, List.getElem?_cons_succ, List.nil_append, List.cons_append, ↓reduceIte, reduceCtorEq, Nat.reduceEqDiff, Nat.reduceAdd, Nat.reduceSub, Nat.reduceMul, Nat.reduceLeDiff, Nat.reduceLT, Nat.zero_add, Nat.add_zero, beq_self_eq_true, bt, bf, Bool.not_true, Bool.not_false, Bool.and_true, Bool.true_and, Bool.and_false, Bool.false_and, and_self, and_true, true_and, n0, n1, n2, n3, n4, m0, m1, m2, m3, c1, retA, resAs, resA, undefA, Option.map_some, Option.map_none]) (WC_ext (h := sortX) rfl hso ?_)
  simp only [wseq, wreg, wdreg, wret, wskip, wexit, wblock, wcnd, cnd_t, cnd_f, then_n, then_x, then_r, catch_n, rnd_n, rnd_x, rnd_r, catch_x, catch_r, wo_nil, wo_grd, grdO_t, grdO_f, wo_ops, stpO, wr_nil, wr_alloc, wr_guards, grdR_t, grdR_f, wr_ops, stpR, evAllocs, evOp, env0_app, eput_some, eput_none, eset_app, Opd.ev, wantedA, faddrA, loadA, storeA, setAt, rdCells, snew_obj, snew_size, sput_obj, sput_size, av_cells, av_one, av_strip, av_still, binA, unA, eqbA, fillA, fldA, lensA, mmA, mm2, mmFold, List.getD_cons_zero, List.getD_cons_succ, List.getD_nil, List.length_cons, List.length_nil, List.drop_zero, List.drop_succ_cons, List.take_succ_cons, List.take_zero, List.map_cons, List.map_nil, List.set_cons_zero, List.set_cons_succ, List.all_cons, List.all_nil, List.getElem?_cons_zero, List.getElem?_cons_succ, List.nil_append, List.cons_append, ↓reduceIte, reduceCtorEq, Nat.reduceEqDiff, Nat.reduceAdd, Nat.reduceSub, Nat.reduceMul, Nat.reduceLeDiff, Nat.reduceLT, Nat.zero_add, Nat.add_zero, beq_self_eq_true, bt, bf, Bool.not_true, Bool.not_false, Bool.and_true, Bool.true_and, Bool.and_false, Bool.false_and, and_self, and_true, true_and, n0, n1, n2, n3, n4, m0, m1, m2, m3, c1, retA, resAs, resA, undefA, Option.map_some, Option.map_none]
  exact ⟨by simp, _, rfl, M1.MSl.rd hM2, keep_of hk hx.1 hf hx.2⟩

theorem sortB_mem {l : List ByteArray} {x : ByteArray} : x ∈ sortB l ↔ x ∈ l := by
  unfold sortB
  rw [List.mem_map]
  constructor
  · rintro ⟨y, hy, rfl⟩
    obtain ⟨z, hz, rfl⟩ := List.mem_map.1 (List.mem_mergeSort.1 hy)
    exact hz
  · intro hx
    exact ⟨bts x, List.mem_mergeSort.2 (List.mem_map.2 ⟨x, hx, rfl⟩), rfl⟩

/-! ### slices.Clone, and one more -/
theorem clone_law {v : AV} {l : List ByteArray} (h : ISl strc v l) (h0 : 0 < l.length) (hb : l.length ≤ 100) (S : St) : WC T xn 30 [v] S (fun r s' => RSl strc S.size s' r l ∧ Keep S s') := by
  have hn : eqnilA false false v = some (.bool false) := by
    rcases h with ⟨-, rfl⟩ | ⟨full, tok, rfl⟩
    · simp at h0
    · simp only [eqnilA]
      rw [if_neg (by simp), if_pos (Or.inl h0)]
  have ha : appendA S false 1 16 (.sl [] 0 true none) v = some (.sl (l.flatMap strc) l.length false (some S.size), S.new .right) := by
    simp only [appendA, h.contents strP, freshA]
    rw [if_neg (by omega), if_pos ⟨by simp, by omega⟩, if_pos trivial, if_neg (by simp), List.nil_append, if_pos (strP.stills l), strP.strips, Nat.zero_add]
  refine WC_fn cf30 rfl T30 (by simp [cf30]) ?_
  simp only [cf30, hn, ha, wseq, wreg, wdreg, wret, wskip, wexit, wblock, wcnd, cnd_t, cnd_f, then_n, then_x, then_r, catch_n, rnd_n, rnd_x, rnd_r, catch_x, catch_r, wo_nil, wo_grd, grdO_t, grdO_f, wo_ops, stpO, wr_nil, wr_alloc, wr_guards, grdR_t, grdR_f, wr_ops, stpR, evAllocs, evOp, env0_app, eput_some, eput_none, eset_app, Opd.ev, wantedA, faddrA, loadA, storeA, setAt, rdCells, snew_obj, snew_size, sput_obj, sput_size, av_cells, av_one, av_strip, av_still, binA, unA, eqbA, fillA, fldA, lensA, mmA, mm2, mmFold, List.getD_cons_zero, List.getD_cons_succ, List.getD_nil, List.length_cons, List.length_nil, List.drop_zero, List.drop_succ_cons, List.take_succ_cons, List.take_zero, List.map_cons, List.map_nil, List.set_cons_zero, List.set_cons_succ, List.all_cons, List.all_nil, List.getElem?_cons_zero, List.getElem?_cons_succ, List.nil_append, List.cons_append, ↓reduceIte, reduceCtorEq, Nat.reduceEqDiff, Nat.reduceAdd, Nat.reduceSub, Nat.reduceMul, Nat.reduceLeDiff, Nat.reduceLT, Nat.zero_add, Nat.add_zero, beq_self_eq_true, bt, bf, Bool.not_true, Bool.not_false, Bool.and_true, Bool.true_and, Bool.and_false, Bool.false_and, and_self, and_true, true_and, n0, n1, n2, n3, n4, m0, m1, m2, m3, c1, retA, resAs, resA, undefA, Option.map_some, Option.map_none]
  refine ⟨by simp, _, rfl, ⟨h0, false, some S.size, rfl, Or.inr ⟨S.size, rfl, new_eq rfl, Nat.le_refl _, by simp [St.new]⟩⟩, Keep.new _ _⟩

theorem less_eq (x y : ByteArray) : Op.bytesLess x.toList y.toList = decide (bts x < bts y) := by
  rw [Go.Proofs.bytesLess_eq, Lib.toList_data, Lib.toList_data]; rfl

/-- A row of strings appended to an array that is written. -/
theorem appN {S : St} {v u : AV} {l m : List ByteArray} (h : MSl strc 1 S v l) (hu : ISl strc u m) (hb : (l.length + m.length) * 16 ≤ 140737488355328) {N : Nat} (hf : freshO N v) (hN : N ≤ S.size) :
    ∃ v' s1, appendA S true 1 16 v u = some (v', s1) ∧ MSl strc 1 s1 v' (l ++ m) ∧ freshO N v' ∧ S.size ≤ s1.size ∧ ∀ j, j < S.size → notO v j → s1.obj j = S.obj j := by
  have hc := hu.contents strP (s := S)
  by_cases h0 : m.length = 0
  · obtain rfl := List.eq_nil_of_length_eq_zero h0
    refine ⟨v, S, ?_, by rw [List.append_nil]; exact h, hf, Nat.le_refl _, fun _ _ _ => rfl⟩
    rcases h with ⟨rfl, rfl⟩ | ⟨rfl, rfl⟩ | ⟨t, rfl, ht, hlt⟩
    · simp only [appendA, hc]; rw [if_pos h0]
    · simp only [appendA, hc]; rw [if_pos h0]
    · simp only [appendA, hc, ht]; rw [if_pos h0]
  · rcases h with ⟨rfl, rfl⟩ | ⟨rfl, rfl⟩ | ⟨t, rfl, ht, hlt⟩
    · refine ⟨.msl S.size 0 m.length 1, S.new (.cells (m.flatMap strc)), ?_, Or.inr (Or.inr ⟨S.size, rfl, new_eq rfl, by simp [St.new]⟩), ?_, by simp [St.new], fun j hj _ => new_ne (by omega)⟩
      · simp only [appendA, hc, freshA]
        rw [if_neg h0, if_pos (by simpa using hb), if_pos trivial, if_pos (strP.ones m)]
      · intro p o n y he; cases he; exact hN
    · refine ⟨.msl S.size 0 m.length 1, S.new (.cells (m.flatMap strc)), ?_, Or.inr (Or.inr ⟨S.size, rfl, new_eq rfl, by simp [St.new]⟩), ?_, by simp [St.new], fun j hj _ => new_ne (by omega)⟩
      · simp only [appendA, hc, freshA]
        rw [if_neg h0, if_pos ⟨by simp, by simpa using hb⟩, if_pos trivial, if_pos trivial, List.nil_append, if_pos (strP.ones m), Nat.zero_add]
      · intro p o n y he; cases he; exact hN
    · refine ⟨.msl S.size 0 (l.length + m.length) 1, (S.put t none).new (.cells (l.flatMap strc ++ m.flatMap strc)), ?_, Or.inr (Or.inr ⟨S.size, by simp, ?_, by simp [St.new, St.put]⟩), ?_, by simp [St.new, St.put], fun j hj hn => ?_⟩
      · simp only [appendA, hc, ht]
        rw [if_neg h0, if_pos ⟨trivial, trivial, by rw [strP.lens], hb, strP.ones m⟩]
      · rw [new_eq (by simp [St.put]), List.flatMap_append]
      · intro p o n y he; cases he; exact hN
      · rw [new_ne (by simp only [St.put]; omega), put_ne (by intro h; subst h; exact hn _ _ _ rfl)]

theorem rise_nodup {l : List ByteArray} (h : Rise l) : l.Nodup := by
  unfold Rise at h
  rw [List.pairwise_map] at h
  exact h.imp fun hab he => by subst he; exact bl_irrefl _ hab
end Go.Am.M2
