/- ScopeSorted: the law itself. Conditions: none. -/
import Derived.Test.YtepgbpohmljedaaScD
set_option linter.unusedSimpArgs false
set_option linter.unusedVariables false
namespace Go.Am.W1
open Go.So (Ord Srt ins isort)
open Go.Sc (cpt)
set_option maxRecDepth 100000
set_option linter.unusedSimpArgs false
attribute [local go_sem] wseq wreg wdreg wret wskip wexit wblock wcnd cnd_t cnd_f then_n then_x then_r catch_n rnd_n rnd_x rnd_r catch_x catch_r wo_nil wo_grd grdO_t grdO_f wo_ops stpO wr_nil wr_alloc wr_guards grdR_t grdR_f wr_ops stpR evAllocs evOp env0_app eput_some eput_none eset_app Opd.ev wantedA faddrA snew_obj snew_size sput_obj sput_size av_cells av_one av_strip av_still unA eqbA fillA fldA lensA mmA mm2 mmFold List.getD_cons_zero List.getD_cons_succ List.getD_nil List.length_cons List.length_nil List.drop_zero List.drop_succ_cons List.take_succ_cons List.take_zero List.map_cons List.map_nil List.set_cons_zero List.set_cons_succ List.all_cons List.all_nil List.getElem?_cons_zero List.getElem?_cons_succ List.nil_append List.cons_append Nat.zero_add Nat.add_zero beq_self_eq_true bt bf Bool.not_true Bool.not_false Bool.and_true Bool.true_and Bool.and_false Bool.false_and and_self and_true true_and n0 n1 n2 n3 n4 m0 m1 m2 m3 c1 retA resAs resA undefA Option.map_some Option.map_none

theorem wt_alloc {T : Nat → Option CF} {X : Ext} {d : Option Nat} {g : Option (Option Nat × Bool)} {zs : List AV} {r : List CO} {e : Env} {s : St} {U : List (Env × St) → Env → St → Prop} : WT T X (⟨d, g, .alloc zs⟩ :: r) e s U ↔ WT T X r e s (Tr e s U) := by
  refine ⟨fun ⟨n, e', s', h1, h2⟩ => ⟨n, e', s', by simpa [evRest, isAlloc] using h1, by have := h2; simp only [evTr, isAlloc, if_true] at this; exact this⟩, WT_alloc⟩
def dA : Dg := ⟨1, 2, 1, ⟨#[]⟩⟩
def dB : Dg := ⟨1, 1, 9, ⟨#[]⟩⟩
theorem dAB : cpt dgq (isort dlt [dA, dB, dA]) = [dB, dA] := by
  have h1 : isort dlt [dA, dB, dA] = [dB, dA, dA] := rfl
  have h2 : dgq dA dB = false := by simp [dgq, dA, dB]
  rw [h1]
  simp [cpt, Sc.add, h2, dgq_self]

set_option maxHeartbeats 2000000 in
theorem scope_law {v : AV} {l : List Dg} (hi : ISl dgc v l) (hkn : Known v) (hb : l.length * 40 ≤ 140737488355328) (S : St) : WC T xw 4 [v] S (fun r _ => r = .bool true) := by
  refine WC_fn cf4 rfl T4 (by simp [cf4]) ?_
  simp only [cf4, go_sem, ↓reduceIte, reduceCtorEq, Nat.reduceEqDiff, Nat.reduceAdd, Nat.reduceSub, Nat.reduceMul, Nat.reduceLeDiff, Nat.reduceLT, loadA, rdCells, storeA, setAt, binA]
  refine WO_callx [.sl ([dA, dB, dA].flatMap dgc) 3 true none] (by simp only [dA, dB, dgc, List.flatMap_cons, List.flatMap_nil, go_sem, ↓reduceIte, reduceCtorEq, Nat.reduceEqDiff, Nat.reduceAdd, Nat.reduceSub, Nat.reduceMul, Nat.reduceLeDiff, Nat.reduceLT, loadA, rdCells, storeA, setAt, binA]) ((sorted_law (l := [dA, dB, dA]) (Or.inr ⟨true, none, rfl⟩) (Or.inr ⟨_, _, _, _, rfl, Or.inl (by decide)⟩) (by simp) _).mono ?_)
  rintro r s1 ⟨h1, k1⟩
  rw [dAB] at h1
  have oA : s1.obj S.size = some (.cells (dgc dA)) := by
    rw [k1.2 S.size (by simp only [sput_size, snew_size]; omega)]
    simp [St.new, St.put, dgc, dA]
  have oB : s1.obj (S.size + 1) = some (.cells (dgc dB)) := by
    rw [k1.2 (S.size + 1) (by simp only [sput_size, snew_size]; omega)]
    simp [St.new, St.put, dgc, dB]
  have lA : loadA s1 true 4 (.ptr S.size 0) = some (.agg (dgc dA)) := by simp [loadA, rdCells, oA, dgc, AV.strip]
  have lB : loadA s1 true 4 (.ptr (S.size + 1) 0) = some (.agg (dgc dB)) := by simp [loadA, rdCells, oB, dgc, AV.strip]
  simp only [dgc, dA, dB] at lA lB
  simp only [lA, lB, go_sem, ↓reduceIte, reduceCtorEq, Nat.reduceEqDiff, Nat.reduceAdd, Nat.reduceSub, Nat.reduceMul, Nat.reduceLeDiff, Nat.reduceLT, storeA, setAt, binA]
  refine WO_callx [r, .sl ([dB, dA].flatMap dgc) 2 true none] (by simp only [dA, dB, dgc, List.flatMap_cons, List.flatMap_nil, go_sem, ↓reduceIte, reduceCtorEq, Nat.reduceEqDiff, Nat.reduceAdd, Nat.reduceSub, Nat.reduceMul, Nat.reduceLeDiff, Nat.reduceLT, loadA, rdCells, storeA, setAt, binA]) ((equal_law h1 (Or.inl (Or.inr ⟨true, none, rfl⟩)) (by simp)).mono ?_)
  rintro q s2 ⟨rfl, rfl⟩
  simp only [go_sem, ↓reduceIte, reduceCtorEq, Nat.reduceEqDiff, Nat.reduceAdd, Nat.reduceSub, Nat.reduceMul, Nat.reduceLeDiff, Nat.reduceLT, loadA, rdCells, storeA, setAt, binA]
  refine WO_callx [v] (by simp only [go_sem, ↓reduceIte, reduceCtorEq, Nat.reduceEqDiff, Nat.reduceAdd, Nat.reduceSub, Nat.reduceMul, Nat.reduceLeDiff, Nat.reduceLT, loadA, rdCells, storeA, setAt, binA]) ((sorted_law hi hkn hb _).mono ?_)
  clear h1 k1 oA oB lA lB
  rintro out s3 ⟨hR, -⟩
  obtain ⟨R, hRd⟩ : ∃ R, R = cpt dgq (isort dlt l) := ⟨_, rfl⟩
  rw [← hRd] at hR
  have hsub : R.Sublist (isort dlt l) := by rw [hRd]; exact Go.Sc.cpt_sub _
  have hsrt : Srt dlt R := List.Pairwise.sublist hsub (Go.So.isort_srt dord l)
  have hRl : R.length ≤ l.length := by have := hsub.length_le; rw [Go.So.isort_len] at this; exact this
  have hmem : ∀ x, x ∈ l → x ∈ R := fun x hx => by rw [hRd]; exact Go.Sc.cpt_mem (fun x y h => dgq_eq h) _ _ ((Go.So.isort_mem l x).2 hx)
  have hdiff : ∀ (i : Nat) (x y : Dg), R[i]? = some x → R[i + 1]? = some y → dgq y x = false := by rw [hRd]; exact Go.Sc.cpt_diff _
  simp only [go_sem, ↓reduceIte, reduceCtorEq, Nat.reduceEqDiff, Nat.reduceAdd, Nat.reduceSub, Nat.reduceMul, Nat.reduceLeDiff, Nat.reduceLT, loadA, rdCells, storeA, setAt, binA]
  refine W_loop_nat (fun k e s => ∃ i : Nat, 1 ≤ i ∧ i + k = R.length + 1 ∧ e 0 = v ∧ e 6 = out ∧ e 7 = .int .i64 i ∧ RdS dgc 4 s out R) ?_ R.length _ _ ⟨1, Nat.le_refl _, by omega, by simp only [go_sem, ↓reduceIte, reduceCtorEq, Nat.reduceEqDiff, Nat.reduceAdd, Nat.reduceSub, Nat.reduceMul, Nat.reduceLeDiff, Nat.reduceLT, loadA, rdCells, storeA, setAt, binA], by simp only [go_sem, ↓reduceIte, reduceCtorEq, Nat.reduceEqDiff, Nat.reduceAdd, Nat.reduceSub, Nat.reduceMul, Nat.reduceLeDiff, Nat.reduceLT, loadA, rdCells, storeA, setAt, binA], by simp only [go_sem, ↓reduceIte, reduceCtorEq, Nat.reduceEqDiff, Nat.reduceAdd, Nat.reduceSub, Nat.reduceMul, Nat.reduceLeDiff, Nat.reduceLT, loadA, rdCells, storeA, setAt, binA]; rfl, hR⟩
  rintro k e s ⟨i, hi1, hik, e0, e6, e7, hRs⟩
  have hlen := hRs.len
  by_cases hlt : i < R.length
  · have hd : decide ((i : Int) < (R.length : Int)) = true := by simp; omega
    obtain ⟨j, rfl⟩ : ∃ j, i = j + 1 := ⟨i - 1, by omega⟩
    obtain ⟨x, hx⟩ : ∃ x, R[j]? = some x := ⟨_, List.getElem?_eq_getElem (by omega)⟩
    obtain ⟨y, hy⟩ : ∃ y, R[j + 1]? = some y := ⟨_, List.getElem?_eq_getElem (by omega)⟩
    have hRs2 : RdS dgc 4 ((s.new (.cells [.int .i64 0, .int .i64 0, .int .i64 0, .str ⟨#[]⟩])).new (.cells [.int .i64 0, .int .i64 0, .int .i64 0, .str ⟨#[]⟩])) out R := hRs.keep (((Keep.refl s).new' _).new' _)
    obtain ⟨qx, hqx, hlx⟩ := hRs2.at dgP hx
    obtain ⟨qy, hqy, hly⟩ := hRs2.at dgP hy
    have hy0 := hy
    have hxy : dgq x y = false := by
      cases h : dgq x y with
      | false => rfl
      | true => have := hdiff j x y hx hy; rw [dgq_eq h, dgq_self] at this; cases this
    have hord := List.pairwise_iff_getElem.1 hsrt j (j + 1) (by omega) hlt (by omega)
    rw [List.getElem?_eq_getElem (by omega)] at hx
    rw [List.getElem?_eq_getElem (by omega)] at hy
    rw [Option.some.inj hx, Option.some.inj hy, dlt_f] at hord
    have d1 : decide (x.line > y.line) = false := by simp; omega
    have w1 := wrapm1 (n := j) (by omega)
    have w2 := wrapn1 (n := j + 1) (by omega)
    have hqe := eqs_is false x y
    rw [hxy] at hqe
    simp only [dgc] at hqe hlx hly
    have k1 : Keep s (((s.new (.cells [.int .i64 0, .int .i64 0, .int .i64 0, .str ⟨#[]⟩])).new (.cells [.int .i64 0, .int .i64 0, .int .i64 0, .str ⟨#[]⟩])).put s.size (some (.cells [.int .i64 x.code, .int .i64 x.line, .int .i64 x.col, .str x.text]))) := (((Keep.refl s).new' _).new' _).put' (Nat.le_refl _) _
    obtain ⟨qz, hqz, hlz⟩ := (hRs.keep k1).at dgP hy0
    obtain rfl : qz = qy := Option.some.inj (hqz.symm.trans hqy)
    simp only [dgc] at hlz
    have stb := hRs.keep (k1.put' (p := s.size + 1) (Nat.le_succ _) (some (.cells [.int .i64 y.code, .int .i64 y.line, .int .i64 y.col, .str y.text])))
    have bq : AV.beq (.agg [.int .i64 y.code, .int .i64 y.line, .int .i64 y.col, .str y.text]) (.agg [.int .i64 y.code, .int .i64 y.line, .int .i64 y.col, .str y.text]) = true := beq_self _
    simp only [cf4_l1, e0, e6, e7, hlen, hd, go_sem, ↓reduceIte, reduceCtorEq, Nat.reduceEqDiff, Nat.reduceAdd, Nat.reduceSub, Nat.reduceMul, Nat.reduceLeDiff, Nat.reduceLT, loadA, rdCells, storeA, setAt, binA]
    refine W_dreg ?_
    simp only [wt_ops, wt_alloc, stpT, Tr, wt_nil, chk1, e0, e6, e7, w1, hqx, hlx, hqy, hly, hlz, bq, go_sem, ↓reduceIte, reduceCtorEq, Nat.reduceEqDiff, Nat.reduceAdd, Nat.reduceSub, Nat.reduceMul, Nat.reduceLeDiff, Nat.reduceLT, storeA, setAt, binA]
    refine ⟨rfl, ?_⟩
    simp only [hqe, d1, e0, e6, e7, w2, go_sem, ↓reduceIte, reduceCtorEq, Nat.reduceEqDiff, Nat.reduceAdd, Nat.reduceSub, Nat.reduceMul, Nat.reduceLeDiff, Nat.reduceLT, loadA, rdCells, storeA, setAt, binA]
    cases hll : (x.line == y.line) with
    | false =>
      simp only [hqe, d1, e0, e6, e7, w2, go_sem, ↓reduceIte, reduceCtorEq, Nat.reduceEqDiff, Nat.reduceAdd, Nat.reduceSub, Nat.reduceMul, Nat.reduceLeDiff, Nat.reduceLT, loadA, rdCells, storeA, setAt, binA]
      exact ⟨k - 1, by omega, j + 1 + 1, by omega, by omega, rfl, stb⟩
    | true =>
      have hxl : x.line = y.line := by simpa using hll
      have d2 : decide (x.col > y.col) = false := by simp; omega
      simp only [hqe, d1, d2, e0, e6, e7, w2, go_sem, ↓reduceIte, reduceCtorEq, Nat.reduceEqDiff, Nat.reduceAdd, Nat.reduceSub, Nat.reduceMul, Nat.reduceLeDiff, Nat.reduceLT, loadA, rdCells, storeA, setAt, binA]
      exact ⟨k - 1, by omega, j + 1 + 1, by omega, by omega, rfl, stb⟩
  · have hd : decide ((i : Int) < (R.length : Int)) = false := by simp; omega
    simp only [cf4_l1, e0, e6, e7, hlen, hd, hi.len, go_sem, ↓reduceIte, reduceCtorEq, Nat.reduceEqDiff, Nat.reduceAdd, Nat.reduceSub, Nat.reduceMul, Nat.reduceLeDiff, Nat.reduceLT, loadA, rdCells, storeA, setAt, binA]
    refine W_loop_nat (fun k e s => ∃ i : Nat, i + k = l.length ∧ e 0 = v ∧ e 6 = out ∧ e 66 = v ∧ e 67 = .int .i64 l.length ∧ e 68 = .int .i64 i ∧ RdS dgc 4 s out R) ?_ l.length _ _ ⟨0, by simp, by simp only [e0, go_sem, ↓reduceIte, reduceCtorEq, Nat.reduceEqDiff, Nat.reduceAdd, Nat.reduceSub, Nat.reduceMul, Nat.reduceLeDiff, Nat.reduceLT, loadA, rdCells, storeA, setAt, binA], by simp only [e6, go_sem, ↓reduceIte, reduceCtorEq, Nat.reduceEqDiff, Nat.reduceAdd, Nat.reduceSub, Nat.reduceMul, Nat.reduceLeDiff, Nat.reduceLT, loadA, rdCells, storeA, setAt, binA], by simp only [e0, go_sem, ↓reduceIte, reduceCtorEq, Nat.reduceEqDiff, Nat.reduceAdd, Nat.reduceSub, Nat.reduceMul, Nat.reduceLeDiff, Nat.reduceLT, loadA, rdCells, storeA, setAt, binA], by simp only [go_sem, ↓reduceIte, reduceCtorEq, Nat.reduceEqDiff, Nat.reduceAdd, Nat.reduceSub, Nat.reduceMul, Nat.reduceLeDiff, Nat.reduceLT, loadA, rdCells, storeA, setAt, binA], by simp only [go_sem, ↓reduceIte, reduceCtorEq, Nat.reduceEqDiff, Nat.reduceAdd, Nat.reduceSub, Nat.reduceMul, Nat.reduceLeDiff, Nat.reduceLT, loadA, rdCells, storeA, setAt, binA]; rfl, hRs⟩
    clear e0 e6 e7 hlen hRs hd hlt hik hi1
    rintro k e s ⟨i, hik, e0, e6, e66, e67, e68, hRs⟩
    have hlen := hRs.len
    by_cases hlt : i < l.length
    · have hd : decide ((i : Int) < (l.length : Int)) = true := by simp; omega
      obtain ⟨x, hx⟩ : ∃ x, l[i]? = some x := ⟨_, List.getElem?_eq_getElem hlt⟩
      have w2 := wrapn1 (n := i) (by omega)
      obtain ⟨qx, hqx, hlx⟩ := RdS.at dgP (S := s) (Or.inl hi) hx
      have hRs3 : RdS dgc 4 ((s.new (.cells [.int .i64 0, .int .i64 0, .int .i64 0, .str ⟨#[]⟩])).put s.size (some (.cells [.int .i64 x.code, .int .i64 x.line, .int .i64 x.col, .str x.text]))) out R := hRs.keep (((Keep.refl s).new' _).put' (Nat.le_refl _) _)
      obtain ⟨qx2, hqx2, hlx2⟩ := RdS.at dgP (S := s.new (.cells [.int .i64 0, .int .i64 0, .int .i64 0, .str ⟨#[]⟩])) (Or.inl hi) hx
      obtain rfl : qx2 = qx := Option.some.inj (hqx2.symm.trans hqx)
      simp only [dgc] at hlx hlx2
      have lb : loadA ((s.new (.cells [.int .i64 0, .int .i64 0, .int .i64 0, .str ⟨#[]⟩])).put s.size (some (.cells [.int .i64 x.code, .int .i64 x.line, .int .i64 x.col, .str x.text]))) true 4 (.ptr s.size 0) = some (.agg [.int .i64 x.code, .int .i64 x.line, .int .i64 x.col, .str x.text]) := by simp [loadA, rdCells, put_eq, AV.strip]
      simp only [cf4_l0, e0, e6, e66, e67, e68, hd, hqx, hlx, hlx2, lb, go_sem, ↓reduceIte, reduceCtorEq, Nat.reduceEqDiff, Nat.reduceAdd, Nat.reduceSub, Nat.reduceMul, Nat.reduceLeDiff, Nat.reduceLT, storeA, setAt, binA]
      refine WO_callx [out, .agg (dgc x)] (by simp only [e6, dgc, go_sem, ↓reduceIte, reduceCtorEq, Nat.reduceEqDiff, Nat.reduceAdd, Nat.reduceSub, Nat.reduceMul, Nat.reduceLeDiff, Nat.reduceLT, loadA, rdCells, storeA, setAt, binA]) ((contains_law hRs3 (by omega) x (hmem x (List.mem_of_getElem? hx))).mono ?_)
      rintro q s4 ⟨rfl, k4⟩
      simp only [e0, e6, e66, e67, e68, w2, go_sem, ↓reduceIte, reduceCtorEq, Nat.reduceEqDiff, Nat.reduceAdd, Nat.reduceSub, Nat.reduceMul, Nat.reduceLeDiff, Nat.reduceLT, loadA, rdCells, storeA, setAt, binA]
      exact ⟨k - 1, by omega, i + 1, by omega, rfl, hRs3.keep k4⟩
    · have hd : decide ((i : Int) < (l.length : Int)) = false := by simp; omega
      have hle : decide ((R.length : Int) ≤ (l.length : Int)) = true := by simp; omega
      simp only [cf4_l0, e0, e6, e66, e67, e68, hd, hlen, hi.len, hle, go_sem, ↓reduceIte, reduceCtorEq, Nat.reduceEqDiff, Nat.reduceAdd, Nat.reduceSub, Nat.reduceMul, Nat.reduceLeDiff, Nat.reduceLT, loadA, rdCells, storeA, setAt, binA]
      exact ⟨by simp, _, rfl, rfl⟩
end Go.Am.W1
