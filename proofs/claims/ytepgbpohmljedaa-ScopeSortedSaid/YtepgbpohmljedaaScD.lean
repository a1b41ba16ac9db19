/- ScopeSorted: the law. Conditions: none. -/
import Derived.Test.YtepgbpohmljedaaScC
set_option linter.unusedSimpArgs false
set_option linter.unusedVariables false
namespace Go.Am.W1
open Go.So (Ord Srt ins isort)
open Go.Sc (cpt)
set_option maxRecDepth 100000
set_option linter.unusedSimpArgs false
attribute [local go_sem] wseq wreg wdreg wret wskip wexit wblock wcnd cnd_t cnd_f then_n then_x then_r catch_n rnd_n rnd_x rnd_r catch_x catch_r wo_nil wo_grd grdO_t grdO_f wo_ops stpO wr_nil wr_alloc wr_guards grdR_t grdR_f wr_ops stpR evAllocs evOp env0_app eput_some eput_none eset_app Opd.ev wantedA faddrA snew_obj snew_size sput_obj sput_size av_cells av_one av_strip av_still unA eqbA fillA fldA lensA mmA mm2 mmFold List.getD_cons_zero List.getD_cons_succ List.getD_nil List.length_cons List.length_nil List.drop_zero List.drop_succ_cons List.take_succ_cons List.take_zero List.map_cons List.map_nil List.set_cons_zero List.set_cons_succ List.all_cons List.all_nil List.getElem?_cons_zero List.getElem?_cons_succ List.nil_append List.cons_append Nat.zero_add Nat.add_zero beq_self_eq_true bt bf Bool.not_true Bool.not_false Bool.and_true Bool.true_and Bool.and_false Bool.false_and and_self and_true true_and n0 n1 n2 n3 n4 m0 m1 m2 m3 c1 retA resAs resA undefA Option.map_some Option.map_none

theorem sorted_law {v : AV} {l : List Dg} (hi : ISl dgc v l) (hkn : Known v) (hb : l.length * 40 ≤ 140737488355328) (S : St) : WC T xw 12 [v] S (fun r S' => RdS dgc 4 S' r (cpt dgq (isort dlt l)) ∧ Keep S S') := by
  refine WC_fn cf12 rfl T12 (by simp [cf12]) ?_
  have hil : (isort dlt l).length = l.length := Go.So.isort_len l
  simp only [cf12, go_sem, ↓reduceIte, reduceCtorEq, Nat.reduceEqDiff, Nat.reduceAdd, Nat.reduceSub, Nat.reduceMul, Nat.reduceLeDiff, Nat.reduceLT, loadA, rdCells, storeA, setAt, binA]
  refine WO_callx [v] (by simp only [go_sem, ↓reduceIte, reduceCtorEq, Nat.reduceEqDiff, Nat.reduceAdd, Nat.reduceSub, Nat.reduceMul, Nat.reduceLeDiff, Nat.reduceLT, loadA, rdCells, storeA, setAt, binA]) ((clone_law2 hi hkn hb S).mono ?_)
  rintro r s1 ⟨h1, hf1, k1⟩
  simp only [go_sem, ↓reduceIte, reduceCtorEq, Nat.reduceEqDiff, Nat.reduceAdd, Nat.reduceSub, Nat.reduceMul, Nat.reduceLeDiff, Nat.reduceLT, loadA, rdCells, storeA, setAt, binA]
  refine WO_callx [r, .func 23 []] (by simp only [go_sem, ↓reduceIte, reduceCtorEq, Nat.reduceEqDiff, Nat.reduceAdd, Nat.reduceSub, Nat.reduceMul, Nat.reduceLeDiff, Nat.reduceLT, loadA, rdCells, storeA, setAt, binA]) ((sort_law h1 (by omega) S.size hf1).mono ?_)
  rintro r2 s2 ⟨h2, hs2, k2⟩
  simp only [go_sem, ↓reduceIte, reduceCtorEq, Nat.reduceEqDiff, Nat.reduceAdd, Nat.reduceSub, Nat.reduceMul, Nat.reduceLeDiff, Nat.reduceLT, loadA, rdCells, storeA, setAt, binA]
  refine WO_callx [r] (by simp only [go_sem, ↓reduceIte, reduceCtorEq, Nat.reduceEqDiff, Nat.reduceAdd, Nat.reduceSub, Nat.reduceMul, Nat.reduceLeDiff, Nat.reduceLT, loadA, rdCells, storeA, setAt, binA]) ((compact_law h2 (by omega) S.size (fun p hp => hf1 p (by rw [hil] at hp; exact hp))).mono ?_)
  rintro r3 s3 ⟨h3, hs3, k3⟩
  simp only [go_sem, ↓reduceIte, reduceCtorEq, Nat.reduceEqDiff, Nat.reduceAdd, Nat.reduceSub, Nat.reduceMul, Nat.reduceLeDiff, Nat.reduceLT, loadA, rdCells, storeA, setAt, binA]
  refine ⟨by simp, _, rfl, h3, by have := k1.1; omega, fun j hj => ?_⟩
  have := k1.1
  rw [k3 j hj (by omega), k2 j hj (by omega), k1.2 j hj]

theorem wrap_nat {n : Nat} (h : n ≤ 4611686018427387904) : IntKind.i64.wrap ((n : Int) + 1) = ((n + 1 : Nat) : Int) := by rw [IntKind.wrap_i64]; omega

theorem index_law {v : AV} {l : List Dg} {S : St} (h : RdS dgc 4 S v l) (hb : l.length ≤ 4398046511104) (x : Dg) (hx : x ∈ l) : WC T xw 28 [v, .agg (dgc x)] S (fun r S' => (∃ m : Nat, r = .int .i64 m) ∧ Keep S S') := by
  refine WC_fn cf28 rfl T28 (by simp [cf28]) ?_
  simp only [cf28, dgc, h.len, go_sem, ↓reduceIte, reduceCtorEq, Nat.reduceEqDiff, Nat.reduceAdd, Nat.reduceSub, Nat.reduceMul, Nat.reduceLeDiff, Nat.reduceLT, loadA, rdCells, storeA, setAt, binA]
  have hx0 : ∀ s, Keep (S.new (.cells (dgc x))) s → loadA s true 4 (.ptr S.size 0) = some (.agg (dgc x)) := by
    intro s hk
    have ho : s.obj S.size = some (.cells (dgc x)) := (hk.2 S.size (by simp [St.new])).trans (new_eq rfl)
    simp [loadA, rdCells, ho, dgc, AV.strip]
  have kn : Keep S (S.new (.cells (dgc x))) := Keep.new _ _
  refine W_loop_nat (fun k e s1 => ∃ i, i + k = l.length ∧ e 0 = v ∧ e 3 = .ptr S.size 0 ∧ e 7 = .int .i64 l.length ∧ e 8 = .int .i64 i ∧ x ∈ l.drop i ∧ Keep (S.new (.cells (dgc x))) s1) ?_ l.length _ _ ⟨0, by simp, by simp only [go_sem, ↓reduceIte, reduceCtorEq, Nat.reduceEqDiff, Nat.reduceAdd, Nat.reduceSub, Nat.reduceMul, Nat.reduceLeDiff, Nat.reduceLT, loadA, rdCells, storeA, setAt, binA], by simp only [go_sem, ↓reduceIte, reduceCtorEq, Nat.reduceEqDiff, Nat.reduceAdd, Nat.reduceSub, Nat.reduceMul, Nat.reduceLeDiff, Nat.reduceLT, loadA, rdCells, storeA, setAt, binA], by simp only [go_sem, ↓reduceIte, reduceCtorEq, Nat.reduceEqDiff, Nat.reduceAdd, Nat.reduceSub, Nat.reduceMul, Nat.reduceLeDiff, Nat.reduceLT, loadA, rdCells, storeA, setAt, binA], by simp only [go_sem, ↓reduceIte, reduceCtorEq, Nat.reduceEqDiff, Nat.reduceAdd, Nat.reduceSub, Nat.reduceMul, Nat.reduceLeDiff, Nat.reduceLT, loadA, rdCells, storeA, setAt, binA]; rfl, by simpa using hx, Keep.refl _⟩
  rintro k e s1 ⟨i, hik, h0, h3, h7, h8, hm, hk⟩
  by_cases hi : i < l.length
  · obtain ⟨y, hy⟩ : ∃ y, l[i]? = some y := ⟨_, List.getElem?_eq_getElem hi⟩
    have hd : decide ((i : Int) < (l.length : Int)) = true := by simp; omega
    have hwi := wrap_nat (n := i) (by omega)
    obtain ⟨q, hq, hr⟩ := (h.keep (kn.trans hk)).at dgP hy
    have lx := hx0 s1 hk
    cases hxy : dgq x y with
    | false =>
      have hqe := eqs_is false x y
      rw [hxy] at hqe
      simp only [cf28_l0, h0, h3, h7, h8, hd, hq, hr, lx, hqe, hwi, go_sem, ↓reduceIte, reduceCtorEq, Nat.reduceEqDiff, Nat.reduceAdd, Nat.reduceSub, Nat.reduceMul, Nat.reduceLeDiff, Nat.reduceLT, storeA, setAt, binA]
      refine ⟨k - 1, by omega, i + 1, by omega, rfl, ?_, hk⟩
      rw [List.drop_eq_getElem_cons hi] at hm
      rcases List.mem_cons.1 hm with hm | hm
      · exfalso
        rw [List.getElem?_eq_getElem hi] at hy
        cases hy
        rw [hm, dgq_self] at hxy; cases hxy
      · exact hm
    | true =>
      have hqe := eqs_is false x y
      rw [hxy] at hqe
      simp only [cf28_l0, h0, h3, h7, h8, hd, hq, hr, lx, hqe, go_sem, ↓reduceIte, reduceCtorEq, Nat.reduceEqDiff, Nat.reduceAdd, Nat.reduceSub, Nat.reduceMul, Nat.reduceLeDiff, Nat.reduceLT, storeA, setAt, binA]
      exact ⟨by simp, _, rfl, ⟨i, rfl⟩, kn.trans hk⟩
  · rw [List.drop_eq_nil_of_le (by omega)] at hm; simp at hm
theorem contains_law {v : AV} {l : List Dg} {S : St} (h : RdS dgc 4 S v l) (hb : l.length ≤ 4398046511104) (x : Dg) (hx : x ∈ l) : WC T xw 14 [v, .agg (dgc x)] S (fun r S' => r = .bool true ∧ Keep S S') := by
  refine WC_fn cf14 rfl T14 (by simp [cf14]) ?_
  have kn : Keep S (S.new (.cells (dgc x))) := Keep.new _ _
  have lx : loadA (S.new (.cells (dgc x))) true 4 (.ptr S.size 0) = some (.agg (dgc x)) := by simp [loadA, rdCells, new_eq, dgc, AV.strip]
  simp only [dgc] at lx
  simp only [cf14, dgc, lx, go_sem, ↓reduceIte, reduceCtorEq, Nat.reduceEqDiff, Nat.reduceAdd, Nat.reduceSub, Nat.reduceMul, Nat.reduceLeDiff, Nat.reduceLT, storeA, setAt, binA]
  refine WO_callx [v, .agg (dgc x)] (by simp only [dgc, go_sem, ↓reduceIte, reduceCtorEq, Nat.reduceEqDiff, Nat.reduceAdd, Nat.reduceSub, Nat.reduceMul, Nat.reduceLeDiff, Nat.reduceLT, loadA, rdCells, storeA, setAt, binA]) ((index_law (h.keep kn) hb x hx).mono ?_)
  rintro r s1 ⟨⟨m, rfl⟩, hk⟩
  have hd : decide ((m : Int) ≥ 0) = true := by simp
  simp only [hd, go_sem, ↓reduceIte, reduceCtorEq, Nat.reduceEqDiff, Nat.reduceAdd, Nat.reduceSub, Nat.reduceMul, Nat.reduceLeDiff, Nat.reduceLT, loadA, rdCells, storeA, setAt, binA]
  exact ⟨by simp, _, rfl, rfl, kn.trans hk⟩

theorem equal_law {u v : AV} {l : List Dg} {S : St} (h : RdS dgc 4 S u l) (hv : RdS dgc 4 S v l) (hb : l.length ≤ 4398046511104) : WC T xw 13 [u, v] S (fun r S' => r = .bool true ∧ S' = S) := by
  refine WC_fn cf13 rfl T13 (by simp [cf13]) ?_
  have hne : ((l.length : Int) != (l.length : Int)) = false := bne_self_eq_false _
  simp only [cf13, h.len, hv.len, hne, go_sem, ↓reduceIte, reduceCtorEq, Nat.reduceEqDiff, Nat.reduceAdd, Nat.reduceSub, Nat.reduceMul, Nat.reduceLeDiff, Nat.reduceLT, loadA, rdCells, storeA, setAt, binA]
  refine W_loop_nat (fun k e s1 => ∃ i, i + k = l.length ∧ e 0 = u ∧ e 1 = v ∧ e 12 = .int .i64 l.length ∧ e 13 = .int .i64 i ∧ s1 = S) ?_ l.length _ _ ⟨0, by simp, by simp only [go_sem, ↓reduceIte, reduceCtorEq, Nat.reduceEqDiff, Nat.reduceAdd, Nat.reduceSub, Nat.reduceMul, Nat.reduceLeDiff, Nat.reduceLT, loadA, rdCells, storeA, setAt, binA], by simp only [go_sem, ↓reduceIte, reduceCtorEq, Nat.reduceEqDiff, Nat.reduceAdd, Nat.reduceSub, Nat.reduceMul, Nat.reduceLeDiff, Nat.reduceLT, loadA, rdCells, storeA, setAt, binA], by simp only [go_sem, ↓reduceIte, reduceCtorEq, Nat.reduceEqDiff, Nat.reduceAdd, Nat.reduceSub, Nat.reduceMul, Nat.reduceLeDiff, Nat.reduceLT, loadA, rdCells, storeA, setAt, binA], by simp only [go_sem, ↓reduceIte, reduceCtorEq, Nat.reduceEqDiff, Nat.reduceAdd, Nat.reduceSub, Nat.reduceMul, Nat.reduceLeDiff, Nat.reduceLT, loadA, rdCells, storeA, setAt, binA]; rfl, rfl⟩
  rintro k e s1 ⟨i, hik, h0, h1, h12, h13, rfl⟩
  by_cases hi : i < l.length
  · obtain ⟨y, hy⟩ : ∃ y, l[i]? = some y := ⟨_, List.getElem?_eq_getElem hi⟩
    have hd : decide ((i : Int) < (l.length : Int)) = true := by simp; omega
    have hwi := wrap_nat (n := i) (by omega)
    obtain ⟨q, hq, hr⟩ := h.at dgP hy
    obtain ⟨q2, hq2, hr2⟩ := hv.at dgP hy
    have hqe := eqs_is true y y
    rw [dgq_self] at hqe
    simp only [cf13_l0, h0, h1, h12, h13, hd, hq, hr, hq2, hr2, hqe, hwi, go_sem, ↓reduceIte, reduceCtorEq, Nat.reduceEqDiff, Nat.reduceAdd, Nat.reduceSub, Nat.reduceMul, Nat.reduceLeDiff, Nat.reduceLT, storeA, setAt, binA]
    exact ⟨k - 1, by omega, i + 1, by omega, rfl⟩
  · have hd : decide ((i : Int) < (l.length : Int)) = false := by simp; omega
    simp only [cf13_l0, h0, h1, h12, h13, hd, go_sem, ↓reduceIte, reduceCtorEq, Nat.reduceEqDiff, Nat.reduceAdd, Nat.reduceSub, Nat.reduceMul, Nat.reduceLeDiff, Nat.reduceLT, loadA, rdCells, storeA, setAt, binA]
    exact ⟨by simp, _, rfl, rfl⟩
end Go.Am.W1
