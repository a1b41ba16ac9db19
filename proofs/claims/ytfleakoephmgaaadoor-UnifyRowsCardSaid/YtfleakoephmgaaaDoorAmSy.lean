/- The stable sort: the whole. Conditions: none. -/
import Derived.Test.YtfleakoephmgaaaDoorAmSv
import Derived.Test.YtfleakoephmgaaaDoorAmTo
import Derived.Test.YtfleakoephmgaaaDoorSoA
import Derived.Test.YtfleakoephmgaaaDoorUnJ
import Derived.Test.YtfleakoephmgaaaDoorAmY2
set_option linter.unusedSimpArgs false
set_option linter.unusedVariables false
namespace Go.Am
open Go.So (Ord Srt ins isort)
set_option maxRecDepth 100000
set_option linter.unusedSimpArgs false
attribute [local go_sem] wseq COp.isStore wreg wdreg wret wskip wexit wblock wcnd cnd_t cnd_f then_n then_x then_r catch_n rnd_n rnd_x rnd_r catch_x catch_r wo_nil wo_grd grdO_t grdO_f wo_ops stpO wr_nil wr_alloc wr_guards grdR_t grdR_f wr_ops stpR evAllocs evOp env0_app eput_some eput_none eset_app Opd.ev wantedA faddrA snew_obj snew_size sput_obj sput_size av_cells av_one av_strip av_still unA eqbA fillA fldA lensA mmA mm2 mmFold List.getD_cons_zero List.getD_cons_succ List.getD_nil List.length_cons List.length_nil List.drop_zero List.drop_succ_cons List.take_succ_cons List.take_zero List.map_cons List.map_nil List.set_cons_zero List.set_cons_succ List.all_cons List.all_nil List.getElem?_cons_zero List.getElem?_cons_succ List.nil_append List.cons_append Nat.zero_add Nat.add_zero beq_self_eq_true bt bf Bool.not_true Bool.not_false Bool.and_true Bool.true_and Bool.and_false Bool.false_and and_self and_true true_and n0 n1 n2 n3 n4 m0 m1 m2 m3 c1 retA resAs resA undefA Option.map_some Option.map_none

section
variable {α : Type} {f : α → List AV} {T : Nat → Option CF} {X : Ext} {nI nM nR nS : Nat}

/-- Blocks of this length, each sorted. -/
inductive FB (lt : α → α → Bool) (k : Nat) : List α → Prop
  | nil : FB lt k []
  | snoc (D c : List α) (h : FB lt k D) (hc : c.length = k) (hs : Srt lt c) : FB lt k (D ++ c)
/-- The last one may be shorter. -/
inductive Bks (lt : α → α → Bool) (k : Nat) : List α → Prop
  | last (c : List α) (hc : c.length ≤ k) (hs : Srt lt c) : Bks lt k c
  | cons (c r : List α) (hc : c.length = k) (hs : Srt lt c) (h : Bks lt k r) : Bks lt k (c ++ r)
theorem FB.to {lt : α → α → Bool} {k : Nat} {D R : List α} (h : FB lt k D) (hR : Bks lt k R) : Bks lt k (D ++ R) := by
  induction h generalizing R with
  | nil => exact hR
  | snoc D c _ hc hs ih => rw [List.append_assoc]; exact ih (.cons c R hc hs hR)
theorem Bks.two {lt : α → α → Bool} {k : Nat} {R : List α} (h : Bks lt k R) (hk : 0 < k) (hl : 2 * k ≤ R.length) : ∃ c1 c2 R', R = c1 ++ c2 ++ R' ∧ c1.length = k ∧ c2.length = k ∧ Srt lt c1 ∧ Srt lt c2 ∧ Bks lt k R' := by
  cases h with
  | last c hc hs => omega
  | cons c r hc hs h =>
    simp only [List.length_append] at hl
    cases h with
    | last d hd hsd => exact ⟨c, r, [], by simp, hc, by omega, hs, hsd, .last [] (by simp) (by simp [Srt])⟩
    | cons d r hd hsd h => exact ⟨c, d, r, by simp, hc, hd, hs, hsd, h⟩
theorem Bks.one {lt : α → α → Bool} {k : Nat} {R : List α} (h : Bks lt k R) (hk : k < R.length) (hl : R.length < 2 * k) : ∃ c1 c2, R = c1 ++ c2 ∧ c1.length = k ∧ Srt lt c1 ∧ Srt lt c2 := by
  cases h with
  | last c hc hs => omega
  | cons c r hc hs h =>
    simp only [List.length_append] at hl hk
    cases h with
    | last d hd hsd => exact ⟨c, r, rfl, hc, hs, hsd⟩
    | cons d r hd hsd h => simp only [List.length_append] at hl hk; omega
theorem Bks.srt {lt : α → α → Bool} {k : Nat} {R : List α} (h : Bks lt k R) (hl : R.length ≤ k) : Srt lt R := by
  cases h with
  | last c hc hs => exact hs
  | cons c r hc hs h =>
    simp only [List.length_append] at hl
    have : r = [] := nil_of (by omega)
    subst this
    simpa using hs

theorem ins_none (hT : SortT T X nI nM nR nS) (v : AV) (cv : AV) (S : St) : WC T X nI [v, .int .i64 0, .int .i64 0, cv] S (fun _ S' => S' = S) := by
  refine WC_fn sIns hT.xI hT.tI (by simp [sIns]) ?_
  have w1 : IntKind.i64.wrap ((0 : Int) + 1) = 1 := by rw [IntKind.wrap_i64]; omega
  have hd : decide ((1 : Int) < 0) = false := rfl
  simp only [sIns, w1, go_sem, ↓reduceIte, reduceCtorEq, Nat.reduceEqDiff, Nat.reduceAdd, Nat.reduceSub, Nat.reduceMul, Nat.reduceLeDiff, Nat.reduceLT, loadA, rdCells, storeA, setAt, binA]
  refine W_loop_nat (fun k e s => e 2 = .int .i64 0 ∧ e 8 = .int .i64 1 ∧ s = S) ?_ 0 _ _ ⟨by simp only [go_sem, ↓reduceIte, reduceCtorEq, Nat.reduceEqDiff, Nat.reduceAdd, Nat.reduceSub, Nat.reduceMul, Nat.reduceLeDiff, Nat.reduceLT, loadA, rdCells, storeA, setAt, binA], by simp only [go_sem, ↓reduceIte, reduceCtorEq, Nat.reduceEqDiff, Nat.reduceAdd, Nat.reduceSub, Nat.reduceMul, Nat.reduceLeDiff, Nat.reduceLT, loadA, rdCells, storeA, setAt, binA], rfl⟩
  rintro k e s ⟨e2, e8, rfl⟩
  simp only [sIns_l1, e2, e8, hd, go_sem, ↓reduceIte, reduceCtorEq, Nat.reduceEqDiff, Nat.reduceAdd, Nat.reduceSub, Nat.reduceMul, Nat.reduceLeDiff, Nat.reduceLT, loadA, rdCells, storeA, setAt, binA]
  exact ⟨by simp, _, rfl⟩

theorem stb_none (hT : SortT T X nI nM nR nS) {nB : Nat} (hB : T nB = some (sStb nI nM)) (xB : X nB = none) (v cv : AV) (S : St) : WC T X nB [v, .int .i64 0, cv] S (fun _ S' => S' = S) := by
  refine WC_fn (sStb nI nM) xB hB (by simp [sStb]) ?_
  have hd : decide ((20 : Int) ≤ 0) = false := rfl
  have hd2 : decide ((20 : Int) < 0) = false := rfl
  simp only [sStb, go_sem, ↓reduceIte, reduceCtorEq, Nat.reduceEqDiff, Nat.reduceAdd, Nat.reduceSub, Nat.reduceMul, Nat.reduceLeDiff, Nat.reduceLT, loadA, rdCells, storeA, setAt, binA]
  refine W_loop_nat (fun k e s => e 0 = v ∧ e 1 = .int .i64 0 ∧ e 2 = cv ∧ e 6 = .int .i64 20 ∧ e 7 = .int .i64 0 ∧ e 8 = .int .i64 20 ∧ s = S) ?_ 0 _ _ ⟨by simp only [go_sem, ↓reduceIte, reduceCtorEq, Nat.reduceEqDiff, Nat.reduceAdd, Nat.reduceSub, Nat.reduceMul, Nat.reduceLeDiff, Nat.reduceLT, loadA, rdCells, storeA, setAt, binA], by simp only [go_sem, ↓reduceIte, reduceCtorEq, Nat.reduceEqDiff, Nat.reduceAdd, Nat.reduceSub, Nat.reduceMul, Nat.reduceLeDiff, Nat.reduceLT, loadA, rdCells, storeA, setAt, binA], by simp only [go_sem, ↓reduceIte, reduceCtorEq, Nat.reduceEqDiff, Nat.reduceAdd, Nat.reduceSub, Nat.reduceMul, Nat.reduceLeDiff, Nat.reduceLT, loadA, rdCells, storeA, setAt, binA], by simp only [go_sem, ↓reduceIte, reduceCtorEq, Nat.reduceEqDiff, Nat.reduceAdd, Nat.reduceSub, Nat.reduceMul, Nat.reduceLeDiff, Nat.reduceLT, loadA, rdCells, storeA, setAt, binA], by simp only [go_sem, ↓reduceIte, reduceCtorEq, Nat.reduceEqDiff, Nat.reduceAdd, Nat.reduceSub, Nat.reduceMul, Nat.reduceLeDiff, Nat.reduceLT, loadA, rdCells, storeA, setAt, binA], by simp only [go_sem, ↓reduceIte, reduceCtorEq, Nat.reduceEqDiff, Nat.reduceAdd, Nat.reduceSub, Nat.reduceMul, Nat.reduceLeDiff, Nat.reduceLT, loadA, rdCells, storeA, setAt, binA], rfl⟩
  rintro k e s ⟨e0, e1, e2, e6, e7, e8, rfl⟩
  simp only [sStb_l2, e0, e1, e2, e6, e7, e8, hd, go_sem, ↓reduceIte, reduceCtorEq, Nat.reduceEqDiff, Nat.reduceAdd, Nat.reduceSub, Nat.reduceMul, Nat.reduceLeDiff, Nat.reduceLT, loadA, rdCells, storeA, setAt, binA]
  refine WO_callx [v, .int .i64 0, .int .i64 0, cv] (by simp only [e2, go_sem, ↓reduceIte, reduceCtorEq, Nat.reduceEqDiff, Nat.reduceAdd, Nat.reduceSub, Nat.reduceMul, Nat.reduceLeDiff, Nat.reduceLT, loadA, rdCells, storeA, setAt, binA]) ((ins_none hT v cv s).mono ?_)
  rintro w s1 rfl
  simp only [e0, e1, e2, e6, e7, e8, hd, go_sem, ↓reduceIte, reduceCtorEq, Nat.reduceEqDiff, Nat.reduceAdd, Nat.reduceSub, Nat.reduceMul, Nat.reduceLeDiff, Nat.reduceLT, loadA, rdCells, storeA, setAt, binA]
  refine W_loop_nat (fun k e s => e 1 = .int .i64 0 ∧ e 6 = .int .i64 20 ∧ s = s1) ?_ 0 _ _ ⟨by simp only [e1, go_sem, ↓reduceIte, reduceCtorEq, Nat.reduceEqDiff, Nat.reduceAdd, Nat.reduceSub, Nat.reduceMul, Nat.reduceLeDiff, Nat.reduceLT, loadA, rdCells, storeA, setAt, binA], by simp only [e6, go_sem, ↓reduceIte, reduceCtorEq, Nat.reduceEqDiff, Nat.reduceAdd, Nat.reduceSub, Nat.reduceMul, Nat.reduceLeDiff, Nat.reduceLT, loadA, rdCells, storeA, setAt, binA], rfl⟩
  rintro k e s ⟨e1, e6, rfl⟩
  simp only [sStb_l1, e1, e6, hd2, go_sem, ↓reduceIte, reduceCtorEq, Nat.reduceEqDiff, Nat.reduceAdd, Nat.reduceSub, Nat.reduceMul, Nat.reduceLeDiff, Nat.reduceLT, loadA, rdCells, storeA, setAt, binA]
  exact ⟨by simp, _, rfl⟩

set_option maxHeartbeats 4000000 in
theorem stb_law (hT : SortT T X nI nM nR nS) {nB : Nat} (hB : T nB = some (sStb nI nM)) (xB : X nB = none) (hP : Plain f 4) {lt : α → α → Bool} (O : Ord lt) {g : Nat} {cap : List AV} (hc : Cmps T X f g cap lt) (l : List α) (hb : l.length ≤ 4398046511104) {p : Nat} {S : St} (hp : p < S.size) (ho : S.obj p = some (.cells (l.flatMap f))) :
    WC T X nB [.msl p 0 l.length 4, .int .i64 (l.length : Nat), .func g cap] S (fun _ S' => S'.obj p = some (.cells ((isort lt l).flatMap f)) ∧ KeepBut p S S') := by
  refine WC_fn (sStb nI nM) xB hB (by simp [sStb]) ?_
  obtain ⟨n, hn⟩ : ∃ n, n = l.length := ⟨_, rfl⟩
  rw [← hn] at hb ⊢
  simp only [sStb, go_sem, ↓reduceIte, reduceCtorEq, Nat.reduceEqDiff, Nat.reduceAdd, Nat.reduceSub, Nat.reduceMul, Nat.reduceLeDiff, Nat.reduceLT, loadA, rdCells, storeA, setAt, binA]
  refine W_loop_nat (fun k e s => ∃ D R, k = R.length ∧ FB lt 20 D ∧ (D ++ R).length = n ∧ isort lt (D ++ R) = isort lt l ∧ e 0 = .msl p 0 n 4 ∧ e 1 = .int .i64 n ∧ e 2 = .func g cap ∧ e 6 = .int .i64 20 ∧ e 7 = .int .i64 (D.length : Nat) ∧ e 8 = .int .i64 (D.length + 20 : Nat) ∧ s.obj p = some (.cells ((D ++ R).flatMap f)) ∧ KeepBut p S s) ?_ n _ _
    ⟨[], l, hn, .nil, by simp [hn], rfl, by simp only [go_sem, ↓reduceIte, reduceCtorEq, Nat.reduceEqDiff, Nat.reduceAdd, Nat.reduceSub, Nat.reduceMul, Nat.reduceLeDiff, Nat.reduceLT, loadA, rdCells, storeA, setAt, binA], by simp only [go_sem, ↓reduceIte, reduceCtorEq, Nat.reduceEqDiff, Nat.reduceAdd, Nat.reduceSub, Nat.reduceMul, Nat.reduceLeDiff, Nat.reduceLT, loadA, rdCells, storeA, setAt, binA], by simp only [go_sem, ↓reduceIte, reduceCtorEq, Nat.reduceEqDiff, Nat.reduceAdd, Nat.reduceSub, Nat.reduceMul, Nat.reduceLeDiff, Nat.reduceLT, loadA, rdCells, storeA, setAt, binA], by simp only [go_sem, ↓reduceIte, reduceCtorEq, Nat.reduceEqDiff, Nat.reduceAdd, Nat.reduceSub, Nat.reduceMul, Nat.reduceLeDiff, Nat.reduceLT, loadA, rdCells, storeA, setAt, binA], by simp only [go_sem, ↓reduceIte, reduceCtorEq, Nat.reduceEqDiff, Nat.reduceAdd, Nat.reduceSub, Nat.reduceMul, Nat.reduceLeDiff, Nat.reduceLT, loadA, rdCells, storeA, setAt, binA]; rfl, by simp only [go_sem, ↓reduceIte, reduceCtorEq, Nat.reduceEqDiff, Nat.reduceAdd, Nat.reduceSub, Nat.reduceMul, Nat.reduceLeDiff, Nat.reduceLT, loadA, rdCells, storeA, setAt, binA]; rfl, by simpa using ho, KeepBut.refl _ _⟩
  rintro k e s ⟨D, R, rfl, hD, hl, hE, e0, e1, e2, e6, e7, e8, hs, hk⟩
  have hl' : D.length + R.length = n := by rw [← List.length_append]; exact hl
  by_cases h20 : 20 ≤ R.length
  · have hd : decide (((D.length + 20 : Nat) : Int) ≤ (n : Int)) = true := by simp; omega
    have hR : R = R.take 20 ++ R.drop 20 := (List.take_append_drop _ _).symm
    have hl1 : (R.take 20).length = 20 := by simp; omega
    have hs' : s.obj p = some (.cells ((D ++ R.take 20 ++ R.drop 20).flatMap f)) := by rw [hs]; conv => lhs; rw [hR]
                                                                                       simp
    have w2 : IntKind.i64.wrap (((D.length + 20 : Nat) : Int) + 20) = ((D.length + 20 + 20 : Nat) : Int) := by rw [IntKind.wrap_i64]; omega
    have call := ins_law hT hP O hc D (R.take 20) (R.drop 20) (by simp only [List.length_append, hl1, List.length_drop]; omega) (Nat.lt_of_lt_of_le hp hk.1) hs' (n := n) (a := D.length) (b := D.length + 20) (by simp only [List.length_append, hl1, List.length_drop]; omega) rfl (by rw [hl1])
    simp only [sStb_l2, e0, e1, e2, e6, e7, e8, hd, go_sem, ↓reduceIte, reduceCtorEq, Nat.reduceEqDiff, Nat.reduceAdd, Nat.reduceSub, Nat.reduceMul, Nat.reduceLeDiff, Nat.reduceLT, loadA, rdCells, storeA, setAt, binA]
    refine WO_callx [.msl p 0 n 4, .int .i64 D.length, .int .i64 (D.length + 20 : Nat), .func g cap] (by simp only [e2, go_sem, ↓reduceIte, reduceCtorEq, Nat.reduceEqDiff, Nat.reduceAdd, Nat.reduceSub, Nat.reduceMul, Nat.reduceLeDiff, Nat.reduceLT, loadA, rdCells, storeA, setAt, binA]) (call.mono ?_)
    rintro v s1 ⟨h1, k1⟩
    simp only [e0, e1, e2, e6, e7, e8, w2, go_sem, ↓reduceIte, reduceCtorEq, Nat.reduceEqDiff, Nat.reduceAdd, Nat.reduceSub, Nat.reduceMul, Nat.reduceLeDiff, Nat.reduceLT, loadA, rdCells, storeA, setAt, binA]
    have hil : (isort lt (R.take 20)).length = 20 := by rw [Go.So.isort_len, hl1]
    refine ⟨(R.drop 20).length, by simp; omega, D ++ isort lt (R.take 20), R.drop 20, rfl, .snoc _ _ hD hil (Go.So.isort_srt O _), by simp only [List.length_append, hil, List.length_drop]; omega, ?_, by simp only [List.length_append, hil], by simp only [List.length_append, hil]; try omega, h1, hk.trans k1⟩
    rw [← hE, Go.So.isort_congr O (Go.So.isort_idem O (R.take 20)), List.append_assoc, List.take_append_drop]
  · have hd : decide (((D.length + 20 : Nat) : Int) ≤ (n : Int)) = false := by simp; omega
    have hs' : s.obj p = some (.cells ((D ++ R ++ []).flatMap f)) := by rw [hs]; simp
    have call := ins_law hT hP O hc D R [] (by simp only [List.append_nil, hl]; exact hb) (Nat.lt_of_lt_of_le hp hk.1) hs' (n := n) (a := D.length) (b := n) (by simp only [List.append_nil, hl]) rfl (by omega)
    simp only [sStb_l2, e0, e1, e2, e6, e7, e8, hd, go_sem, ↓reduceIte, reduceCtorEq, Nat.reduceEqDiff, Nat.reduceAdd, Nat.reduceSub, Nat.reduceMul, Nat.reduceLeDiff, Nat.reduceLT, loadA, rdCells, storeA, setAt, binA]
    refine WO_callx [.msl p 0 n 4, .int .i64 D.length, .int .i64 n, .func g cap] (by simp only [e2, go_sem, ↓reduceIte, reduceCtorEq, Nat.reduceEqDiff, Nat.reduceAdd, Nat.reduceSub, Nat.reduceMul, Nat.reduceLeDiff, Nat.reduceLT, loadA, rdCells, storeA, setAt, binA]) (call.mono ?_)
    rintro v s1 ⟨h1, k1⟩
    rw [List.append_nil] at h1
    have hil : (isort lt R).length = R.length := Go.So.isort_len R
    have hB1 : Bks lt 20 (D ++ isort lt R) := hD.to (.last _ (by omega) (Go.So.isort_srt O R))
    have hE1 : isort lt (D ++ isort lt R) = isort lt l := by
      have := Go.So.isort_congr O (X := D) (Y := []) (Go.So.isort_idem O R)
      simp only [List.append_nil] at this
      rw [this, hE]
    have hl1 : (D ++ isort lt R).length = n := by rw [List.length_append, hil]; exact hl'
    have hk1 := hk.trans k1
    simp only [e0, e1, e2, e6, go_sem, ↓reduceIte, reduceCtorEq, Nat.reduceEqDiff, Nat.reduceAdd, Nat.reduceSub, Nat.reduceMul, Nat.reduceLeDiff, Nat.reduceLT, loadA, rdCells, storeA, setAt, binA]
    clear hD hl hE hs hs' hk hl' h20 hd call k1 hil e7 e8
    generalize D ++ isort lt R = L at *
    refine W_loop_nat (fun k e s => ∃ (bs : Nat) (L : List α), k = n - bs ∧ 20 ≤ bs ∧ bs ≤ 17592186044416 ∧ Bks lt bs L ∧ isort lt L = isort lt l ∧ L.length = n ∧ e 0 = .msl p 0 n 4 ∧ e 1 = .int .i64 n ∧ e 2 = .func g cap ∧ e 6 = .int .i64 bs ∧ s.obj p = some (.cells (L.flatMap f)) ∧ KeepBut p S s) ?_ (n - 20) _ _
      ⟨20, L, rfl, Nat.le_refl _, by omega, hB1, hE1, hl1, by simp only [e0, go_sem, ↓reduceIte, reduceCtorEq, Nat.reduceEqDiff, Nat.reduceAdd, Nat.reduceSub, Nat.reduceMul, Nat.reduceLeDiff, Nat.reduceLT, loadA, rdCells, storeA, setAt, binA], by simp only [e1, go_sem, ↓reduceIte, reduceCtorEq, Nat.reduceEqDiff, Nat.reduceAdd, Nat.reduceSub, Nat.reduceMul, Nat.reduceLeDiff, Nat.reduceLT, loadA, rdCells, storeA, setAt, binA], by simp only [e2, go_sem, ↓reduceIte, reduceCtorEq, Nat.reduceEqDiff, Nat.reduceAdd, Nat.reduceSub, Nat.reduceMul, Nat.reduceLeDiff, Nat.reduceLT, loadA, rdCells, storeA, setAt, binA], by simp only [e6, go_sem, ↓reduceIte, reduceCtorEq, Nat.reduceEqDiff, Nat.reduceAdd, Nat.reduceSub, Nat.reduceMul, Nat.reduceLeDiff, Nat.reduceLT, loadA, rdCells, storeA, setAt, binA]; rfl, h1, hk1⟩
    clear hB1 hE1 hl1 h1 hk1 e0 e1 e2 e6
    rintro k e s ⟨bs, L, rfl, hbs, hbs2, hB1, hE1, hl1, e0, e1, e2, e6, hs, hk⟩
    by_cases hlt : bs < n
    · have hd : decide ((bs : Int) < (n : Int)) = true := by simp; omega
      have w3 : IntKind.i64.wrap (2 * (bs : Int)) = ((2 * bs : Nat) : Int) := by rw [IntKind.wrap_i64]; omega
      simp only [sStb_l1, e0, e1, e2, e6, hd, w3, go_sem, ↓reduceIte, reduceCtorEq, Nat.reduceEqDiff, Nat.reduceAdd, Nat.reduceSub, Nat.reduceMul, Nat.reduceLeDiff, Nat.reduceLT, loadA, rdCells, storeA, setAt, binA]
      refine W_loop_nat (fun k e' s' => ∃ D R, k = R.length ∧ FB lt (2 * bs) D ∧ Bks lt bs R ∧ (D ++ R).length = n ∧ isort lt (D ++ R) = isort lt l ∧ e' 0 = .msl p 0 n 4 ∧ e' 1 = .int .i64 n ∧ e' 2 = .func g cap ∧ e' 6 = .int .i64 bs ∧ e' 7 = .int .i64 (D.length : Nat) ∧ e' 8 = .int .i64 (D.length + 2 * bs : Nat) ∧ s'.obj p = some (.cells ((D ++ R).flatMap f)) ∧ KeepBut p S s') ?_ n _ _
        ⟨[], L, hl1.symm, .nil, hB1, by simpa using hl1, by simpa using hE1, by simp only [e0, go_sem, ↓reduceIte, reduceCtorEq, Nat.reduceEqDiff, Nat.reduceAdd, Nat.reduceSub, Nat.reduceMul, Nat.reduceLeDiff, Nat.reduceLT, loadA, rdCells, storeA, setAt, binA], by simp only [e1, go_sem, ↓reduceIte, reduceCtorEq, Nat.reduceEqDiff, Nat.reduceAdd, Nat.reduceSub, Nat.reduceMul, Nat.reduceLeDiff, Nat.reduceLT, loadA, rdCells, storeA, setAt, binA], by simp only [e2, go_sem, ↓reduceIte, reduceCtorEq, Nat.reduceEqDiff, Nat.reduceAdd, Nat.reduceSub, Nat.reduceMul, Nat.reduceLeDiff, Nat.reduceLT, loadA, rdCells, storeA, setAt, binA], by simp only [e6, go_sem, ↓reduceIte, reduceCtorEq, Nat.reduceEqDiff, Nat.reduceAdd, Nat.reduceSub, Nat.reduceMul, Nat.reduceLeDiff, Nat.reduceLT, loadA, rdCells, storeA, setAt, binA], by simp only [go_sem, ↓reduceIte, reduceCtorEq, Nat.reduceEqDiff, Nat.reduceAdd, Nat.reduceSub, Nat.reduceMul, Nat.reduceLeDiff, Nat.reduceLT, loadA, rdCells, storeA, setAt, binA]; rfl, by simp only [go_sem, ↓reduceIte, reduceCtorEq, Nat.reduceEqDiff, Nat.reduceAdd, Nat.reduceSub, Nat.reduceMul, Nat.reduceLeDiff, Nat.reduceLT, loadA, rdCells, storeA, setAt, binA, List.length_nil, Nat.zero_add], by simpa using hs, hk⟩
      clear hB1 hE1 hl1 hs hk
      rintro k' e' s' ⟨D, R, rfl, hD, hR, hl, hE, f0, f1, f2, f6, f7, f8, hs, hk⟩
      have hl' : D.length + R.length = n := by rw [← List.length_append]; exact hl
      have v1 : IntKind.i64.wrap ((D.length : Int) + (bs : Int)) = ((D.length + bs : Nat) : Int) := by rw [IntKind.wrap_i64]; omega
      by_cases h2 : 2 * bs ≤ R.length
      · have hd2 : decide (((D.length + 2 * bs : Nat) : Int) ≤ (n : Int)) = true := by simp; omega
        obtain ⟨c1, c2, R', rfl, l1, l2, s1, s2, hR'⟩ := hR.two (by omega) h2
        have v2 : IntKind.i64.wrap (((D.length + 2 * bs : Nat) : Int) + ((2 * bs : Nat) : Int)) = ((D.length + 2 * bs + 2 * bs : Nat) : Int) := by rw [IntKind.wrap_i64]; omega
        have hs' : s'.obj p = some (.cells ((D ++ c1 ++ c2 ++ R').flatMap f)) := by rw [hs]; simp
        simp only [List.length_append, l1, l2] at hl'
        have call := sym_law hT hP O hc (c1.length + c2.length) c1 c2 (Nat.le_refl _) D R' (by omega) (by omega) s1 s2 (by simp only [List.length_append, l1, l2]; omega) (Nat.lt_of_lt_of_le hp hk.1) hs'
        unfold Mrg at call
        have g1 : (D ++ c1 ++ c2 ++ R').length = n := by simp only [List.length_append, l1, l2]; omega
        rw [g1, l1, l2, show D.length + bs + bs = D.length + 2 * bs by omega] at call
        simp only [sStb_l0, f0, f1, f2, f6, f7, f8, hd2, v1, w3, go_sem, ↓reduceIte, reduceCtorEq, Nat.reduceEqDiff, Nat.reduceAdd, Nat.reduceSub, Nat.reduceMul, Nat.reduceLeDiff, Nat.reduceLT, loadA, rdCells, storeA, setAt, binA]
        refine WO_callx [.msl p 0 n 4, .int .i64 D.length, .int .i64 (D.length + bs : Nat), .int .i64 (D.length + 2 * bs : Nat), .func g cap] (by simp only [f2, go_sem, ↓reduceIte, reduceCtorEq, Nat.reduceEqDiff, Nat.reduceAdd, Nat.reduceSub, Nat.reduceMul, Nat.reduceLeDiff, Nat.reduceLT, loadA, rdCells, storeA, setAt, binA]) (call.mono ?_)
        rintro v s3 ⟨h1, k1⟩
        have hil : (isort lt (c1 ++ c2)).length = 2 * bs := by rw [Go.So.isort_len, List.length_append]; omega
        simp only [f0, f1, f2, f6, f7, f8, v2, w3, go_sem, ↓reduceIte, reduceCtorEq, Nat.reduceEqDiff, Nat.reduceAdd, Nat.reduceSub, Nat.reduceMul, Nat.reduceLeDiff, Nat.reduceLT, loadA, rdCells, storeA, setAt, binA]
        refine ⟨R'.length, by simp only [List.length_append]; omega, D ++ isort lt (c1 ++ c2), R', rfl, .snoc _ _ hD hil (Go.So.isort_srt O _), hR', by simp only [List.length_append, hil]; omega, ?_, by simp only [List.length_append, hil], by simp only [List.length_append, hil]; try omega, h1, hk.trans k1⟩
        rw [← hE, Go.So.isort_congr O (Go.So.isort_idem O (c1 ++ c2))]; simp
      · have hd2 : decide (((D.length + 2 * bs : Nat) : Int) ≤ (n : Int)) = false := by simp; omega
        have w4 : IntKind.i64.wrap ((bs : Int) * 2) = ((2 * bs : Nat) : Int) := by rw [IntKind.wrap_i64]; omega
        by_cases h3 : bs < R.length
        · have hd3 : decide (((D.length + bs : Nat) : Int) < (n : Int)) = true := by simp; omega
          obtain ⟨c1, c2, rfl, l1, s1, s2⟩ := hR.one h3 (by omega)
          have hs' : s'.obj p = some (.cells ((D ++ c1 ++ c2 ++ []).flatMap f)) := by rw [hs]; simp
          simp only [List.length_append, l1] at hl' h3 h2
          have call := sym_law hT hP O hc (c1.length + c2.length) c1 c2 (Nat.le_refl _) D [] (by omega) (by omega) s1 s2 (by simp only [List.append_nil, List.length_append, l1]; omega) (Nat.lt_of_lt_of_le hp hk.1) hs'
          unfold Mrg at call
          have g1 : (D ++ c1 ++ c2 ++ []).length = n := by simp only [List.append_nil, List.length_append, l1]; omega
          rw [g1, l1, show D.length + bs + c2.length = n by omega] at call
          simp only [sStb_l0, f0, f1, f2, f6, f7, f8, hd2, hd3, v1, w3, go_sem, ↓reduceIte, reduceCtorEq, Nat.reduceEqDiff, Nat.reduceAdd, Nat.reduceSub, Nat.reduceMul, Nat.reduceLeDiff, Nat.reduceLT, loadA, rdCells, storeA, setAt, binA]
          refine WO_callx [.msl p 0 n 4, .int .i64 D.length, .int .i64 (D.length + bs : Nat), .int .i64 n, .func g cap] (by simp only [f2, go_sem, ↓reduceIte, reduceCtorEq, Nat.reduceEqDiff, Nat.reduceAdd, Nat.reduceSub, Nat.reduceMul, Nat.reduceLeDiff, Nat.reduceLT, loadA, rdCells, storeA, setAt, binA]) (call.mono ?_)
          rintro v s3 ⟨h1, k1⟩
          have hil : (isort lt (c1 ++ c2)).length = bs + c2.length := by rw [Go.So.isort_len, List.length_append]; omega
          simp only [f0, f1, f2, f6, f7, f8, w4, go_sem, ↓reduceIte, reduceCtorEq, Nat.reduceEqDiff, Nat.reduceAdd, Nat.reduceSub, Nat.reduceMul, Nat.reduceLeDiff, Nat.reduceLT, loadA, rdCells, storeA, setAt, binA]
          refine ⟨n - 2 * bs, by omega, 2 * bs, D ++ isort lt (c1 ++ c2), rfl, by omega, by omega, hD.to (.last _ (by omega) (Go.So.isort_srt O _)), ?_, by rw [List.length_append, hil]; omega, rfl, by rw [h1]; simp, hk.trans k1⟩
          have := Go.So.isort_congr O (X := D) (Y := []) (Go.So.isort_idem O (c1 ++ c2))
          simp only [List.append_nil] at this
          rw [this, ← hE]
        · have hd3 : decide (((D.length + bs : Nat) : Int) < (n : Int)) = false := by simp; omega
          simp only [sStb_l0, f0, f1, f2, f6, f7, f8, hd2, hd3, v1, w3, w4, go_sem, ↓reduceIte, reduceCtorEq, Nat.reduceEqDiff, Nat.reduceAdd, Nat.reduceSub, Nat.reduceMul, Nat.reduceLeDiff, Nat.reduceLT, loadA, rdCells, storeA, setAt, binA]
          exact ⟨n - 2 * bs, by omega, 2 * bs, D ++ R, rfl, by omega, by omega, hD.to (.last _ (by omega) (hR.srt (by omega))), hE, hl, rfl, hs, hk⟩
    · have hd : decide ((bs : Int) < (n : Int)) = false := by simp; omega
      simp only [sStb_l1, e0, e1, e2, e6, hd, go_sem, ↓reduceIte, reduceCtorEq, Nat.reduceEqDiff, Nat.reduceAdd, Nat.reduceSub, Nat.reduceMul, Nat.reduceLeDiff, Nat.reduceLT, loadA, rdCells, storeA, setAt, binA]
      refine ⟨by simp, _, rfl, ?_, hk⟩
      rw [hs, ← hE1, Go.So.isort_of (hB1.srt (by omega))]
end
end Go.Am

/- Norm's text up to its range over a function, run by the machine. Conditions: none. -/
namespace Go.Am.U2
open Go.Am.Un Go.So
open Go.Am.U1 (tycP isl_tycs drop_at tyw tyc_w NoX vtm vtm_c len_tszs tsz_pos ne_a ne_b ne_c ne_d ne_e ne_f avr)
set_option maxRecDepth 100000
set_option linter.unusedSimpArgs false
attribute [local go_sem] wseq COp.isStore wreg wdreg wret wskip wexit wblock wcnd cnd_t cnd_f then_n then_x then_r catch_n rnd_n rnd_x rnd_r catch_x catch_r wo_nil wo_grd grdO_t grdO_f wo_ops stpO wr_nil wr_alloc wr_guards grdR_t grdR_f wr_ops stpR evAllocs evOp env0_app eput_some eput_none eset_app Opd.ev wantedA faddrA snew_obj snew_size sput_obj sput_size av_cells av_one av_strip av_still unA eqbA fillA fldA lensA mmA mm2 mmFold List.getD_cons_zero List.getD_cons_succ List.getD_nil List.length_cons List.length_nil List.drop_zero List.drop_succ_cons List.take_succ_cons List.take_zero List.map_cons List.map_nil List.set_cons_zero List.set_cons_succ List.all_cons List.all_nil List.getElem?_cons_zero List.getElem?_cons_succ List.nil_append List.cons_append Nat.zero_add Nat.add_zero beq_self_eq_true bt bf Bool.not_true Bool.not_false Bool.and_true Bool.true_and Bool.and_false Bool.false_and and_self and_true true_and n0 n1 n2 n3 n4 m0 m1 m2 m3 c1 retA resAs resA undefA Option.map_some Option.map_none

def big : Nat := 1099511627776

/-- A label of a row that is sorted. -/
def lc (x : Lb) : List AV := tyc (.mk 0 x.1 0 [x.2])
theorem lcP : Plain lc 4 := ⟨fun _ => tycP.len _, fun _ => tycP.one _, fun _ => tycP.still _, fun _ => tycP.strip _⟩
theorem lc_c (x : Lb) : lc x = [.int .i64 0, .str x.1, .int .i64 0, .sl (tyc x.2) 1 false none] := by
  rw [lc, tyc, tycs, tycs, List.append_nil]; rfl

/-! ### What is told of Norm -/
mutual
theorem tyc_inj : ∀ a b : Tm, tyc a = tyc b → a = b
  | .mk k n v l, .mk k' n' v' l' => fun h => by
    rw [tyc, tyc] at h
    simp only [List.cons.injEq, AV.int.injEq, AV.str.injEq, AV.sl.injEq, and_true, true_and] at h
    obtain ⟨h1, h2, h3, h4, h5⟩ := h
    rw [h1, h2, h3, tycs_inj l l' h4 h5]
theorem tycs_inj : ∀ l l' : List Tm, tycs l = tycs l' → l.length = l'.length → l = l'
  | [], [], _, _ => rfl
  | [], _ :: _, _, h => by simp at h
  | _ :: _, [], _, h => by simp at h
  | a :: l, b :: l', h, hl => by
    rw [tycs, tycs] at h
    obtain ⟨h1, h2⟩ := List.append_inj h (by rw [tyc_len, tyc_len])
    rw [tyc_inj a b h1, tycs_inj l l' h2 (by simpa using hl)]
end
theorem tyw_inj {t t' : Tm} {w w' : AV} (h : tyw t w = tyw t' w') (h1 : ISl tyc w (lof t)) (h2 : ISl tyc w' (lof t')) : t = t' := by
  obtain ⟨k, n, v, l⟩ := t
  obtain ⟨k', n', v', l'⟩ := t'
  simp only [tyw, U1.tyw, kof, nof, vof, lof, List.cons.injEq, AV.int.injEq, AV.str.injEq, and_true, true_and] at h h1 h2
  obtain ⟨e1, e2, e3, rfl⟩ := h
  have : l = l' := by
    rcases h1 with ⟨rfl, rfl⟩ | ⟨f, tk, rfl⟩
    · rcases h2 with ⟨-, rfl⟩ | ⟨f, tk, h⟩
      · rfl
      · cases h
    · rcases h2 with ⟨h, -⟩ | ⟨f, tk, h⟩
      · cases h
      · simp only [AV.sl.injEq] at h
        exact tycs_inj l l' (by rw [tycs_flat, tycs_flat]; exact h.1) h.2.1
  rw [e1, e2, e3, this]

open Classical in
/-- Norm, at types of fewer than n nodes. -/
noncomputable def normX (n : Nat) (args : List AV) (s : St) : Option (AV × St) :=
  if h : ∃ t, (∃ w, args = [.agg (tyw t w)] ∧ ISl tyc w (lof t)) ∧ Val t ∧ tsz t < n then some (.agg (tyc (nf h.choose)), s) else none
theorem normX_of {n : Nat} {t : Tm} {w : AV} (h1 : ISl tyc w (lof t)) (h2 : Val t) (h3 : tsz t < n) (s : St) : normX n [.agg (tyw t w)] s = some (.agg (tyc (nf t)), s) := by
  have h : ∃ t', (∃ w', [AV.agg (tyw t w)] = [.agg (tyw t' w')] ∧ ISl tyc w' (lof t')) ∧ Val t' ∧ tsz t' < n := ⟨t, ⟨w, rfl, h1⟩, h2, h3⟩
  unfold normX
  rw [dif_pos h]
  obtain ⟨⟨w', e, h4⟩, -, -⟩ := h.choose_spec
  have := tyw_inj (AV.agg.inj (List.cons.inj e).1) h1 h4
  rw [← this]
theorem normX_inv {n : Nat} {args : List AV} {s : St} {v : AV} {s' : St} (h : normX n args s = some (v, s')) : ∃ t w, args = [.agg (tyw t w)] ∧ ISl tyc w (lof t) ∧ Val t ∧ tsz t < n ∧ v = .agg (tyc (nf t)) ∧ s' = s := by
  unfold normX at h
  split at h
  · rename_i hh
    cases h
    obtain ⟨⟨w', e, h4⟩, h5, h6⟩ := hh.choose_spec
    exact ⟨_, w', e, h4, h5, h6, rfl, rfl⟩
  · cases h
noncomputable def Xn (n : Nat) : Ext := fun f => if f = 24 then some (normX n) else none
theorem Xn_none (n f : Nat) (h : f ≠ 24) : Xn n f = none := if_neg h
theorem norm_wc {n : Nat} {t : Tm} {w : AV} (h1 : ISl tyc w (lof t)) (h2 : Val t) (h3 : tsz t < n) (s : St) : WC T (Xn n) 24 [.agg (tyw t w)] s (fun v s' => v = .agg (tyc (nf t)) ∧ s' = s) :=
  WC_ext (h := normX n) (if_pos rfl) (normX_of h1 h2 h3 s) ⟨rfl, rfl⟩

theorem W_loop_eq {X : Ext} {b L : CC} (hL : CC.loop b = L) {e : Env} {s : St} {Q : CX → Env → St → Prop} (h : W T X b e s (Then T X L Q)) : W T X L e s Q := by
  subst hL; exact W_loop h

/-! ### The rows' loop -/
theorem ia0w {w : AV} {a r : Tm} (h : ISl tyc w [a, r]) : iaddrA 4 w (.int .i64 0) = some (.eptr (tyw a (.sl (tycs (lof a)) (lof a).length false none) ++ tyw r (.sl (tycs (lof r)) (lof r).length false none))) := by
  have := h.at tyc_len (i := 0) (x := a) rfl
  rw [tyc_w] at this
  simpa [tyc_w r] using this
theorem ia1w {w : AV} {a r : Tm} (h : ISl tyc w [a, r]) : iaddrA 4 w (.int .i64 1) = some (.eptr (tyw r (.sl (tycs (lof r)) (lof r).length false none))) := by
  have := h.at tyc_len (i := 1) (x := r) rfl
  simpa [tyc_w r] using this

/-- The labels so far, in an array of their own. -/
def Labs (N : Nat) (S : St) (v : AV) (l : List Lb) : Prop := MSl lc 4 S v l ∧ freshO N v

set_option maxHeartbeats 4000000 in
theorem lab_loop {n b N : Nat} : ∀ (t : Tm) (L : List Lb) (z : Tm), Spn t L z → Val t → tsz t < n + 1 → n ≤ big → ∀ (e : Env) (S : St) (cur : List Lb) (lv w : AV), cur.length + tsz t ≤ big → e 1 = .ptr b 0 → S.obj b = some (.cells (tyw t w)) → b < N → N ≤ S.size → ISl tyc w (lof t) → e 3 = lv → Labs N S lv cur →
    W T (Xn n) (.loop cf24_l1) e S (fun x e' S' => x = .exit 0 ∧ e' 1 = .ptr b 0 ∧ e' 2 = e 2 ∧ (∃ lv', e' 3 = lv' ∧ Labs N S' lv' (cur ++ L.map nfl)) ∧ (∃ w', S'.obj b = some (.cells (tyw z w')) ∧ ISl tyc w' (lof z)) ∧ S.size ≤ S'.size ∧ ∀ j, j < N → j ≠ b → S'.obj j = S.obj j) := by
  intro t L z h
  induction h with
  | nil t h =>
    intro hv ht hn e S cur lv w hc e1 ho hb hN hw e3 hl
    have hk : (kof t == 5) = false := by simpa using h
    refine W_loop ?_
    simp only [tyw, U1.tyw] at ho
    simp only [cf24_l1, e1, ho, hk, Nat.le_add_left, go_sem, ↓reduceIte, reduceCtorEq, Nat.reduceEqDiff, Nat.reduceAdd, Nat.reduceSub, Nat.reduceMul, Nat.reduceLeDiff, Nat.reduceLT, loadA, rdCells, storeA, setAt, binA]
    exact ⟨⟨lv, e3, by simpa using hl⟩, ⟨w, by simp only [tyw, U1.tyw], hw⟩, Nat.le_refl _, fun _ _ _ => trivial⟩
  | cons m v a r L z h ih =>
    intro hv ht hn e S cur lv w hc e1 ho hb hN hw e3 hl
    have hs : tsz (.mk 5 m v [a, r]) = 1 + (tsz a + (tsz r + 0)) := by rw [tsz, tszs, tszs, tszs]
    have hva : Val a ∧ Val r := by
      rw [Val] at hv
      exact ⟨vals_at hv.2.2.2.2.2.2.2 (i := 0) rfl, vals_at hv.2.2.2.2.2.2.2 (i := 1) rfl⟩
    have pa := tsz_pos a
    have pr := tsz_pos r
    generalize hL : CC.loop cf24_l1 = LL at ih ⊢
    refine W_loop_eq hL ?_
    have i0 := ia0w hw
    have i1 := ia1w hw
    have hnc := norm_wc (n := n) (isl_tycs (lof a)) hva.1 (by omega) S
    simp only [U1.tyw, U1.kof_mk, U1.nof_mk, U1.vof_mk, U1.lof_mk, List.cons_append, List.nil_append] at ho i0 i1 hnc
    obtain ⟨lv1, S1, hap, hm1, hf1, hz1, -, -, hk1⟩ := hl.1.app1 lcP (m, nf a) (bytes := 56) (by unfold big at *; omega)
    rw [lc_c] at hap
    have hbn : notO lv b := hl.2.ne hb
    have hob1 : S1.obj b = some (.cells [.int .i64 5, .str m, .int .i64 v, w]) := by rw [hk1 b (by omega) hbn]; exact ho
    simp only [cf24_l1, e1, e3, ho, i0, Nat.le_add_left, go_sem, ↓reduceIte, reduceCtorEq, Nat.reduceEqDiff, Nat.reduceAdd, Nat.reduceSub, Nat.reduceMul, Nat.reduceLeDiff, Nat.reduceLT, loadA, rdCells, storeA, setAt, binA]
    refine W_dreg ?_
    simp only [wt_ops, stpT, Tr, e1, e3, ho, i0, wt_nil, chk1, avr, Bool.or_true, Nat.le_add_left, go_sem, ↓reduceIte, reduceCtorEq, Nat.reduceEqDiff, Nat.reduceAdd, Nat.reduceSub, Nat.reduceMul, Nat.reduceLeDiff, Nat.reduceLT, loadA, rdCells, storeA, setAt, binA]
    refine WT_callx _ rfl (hnc.mono ?_)
    rintro w2 S2 ⟨rfl, rfl⟩
    rw [tyc_w (nf a), U1.tyw] at hap ⊢
    simp only [wt_ops, stpT, Tr, e1, e3, ho, i0, hap, wt_nil, chk1, avr, Bool.or_true, Nat.le_add_left, go_sem, ↓reduceIte, reduceCtorEq, Nat.reduceEqDiff, Nat.reduceAdd, Nat.reduceSub, Nat.reduceMul, Nat.reduceLeDiff, Nat.reduceLT, loadA, rdCells, storeA, setAt, binA]
    simp only [e1, hob1, i1, Nat.le_add_left, go_sem, ↓reduceIte, reduceCtorEq, Nat.reduceEqDiff, Nat.reduceAdd, Nat.reduceSub, Nat.reduceMul, Nat.reduceLeDiff, Nat.reduceLT, loadA, rdCells, storeA, setAt, binA]
    subst hL
    refine (ih hva.2 (by omega) hn _ _ (cur ++ [(m, nf a)]) lv1 (.sl (tycs (lof r)) (lof r).length false none) ?_ ?_ ?_ hb ?_ (isl_tycs (lof r)) ?_ ⟨hm1.of (fun p hp hl2 => ?_) ?_, ?_⟩).mono ?_
    · rw [List.length_append, List.length_cons, List.length_nil]; omega
    · simp only [e1, go_sem, ↓reduceIte, reduceCtorEq, Nat.reduceEqDiff, Nat.reduceAdd, Nat.reduceSub, Nat.reduceMul, Nat.reduceLeDiff, Nat.reduceLT, loadA, rdCells, storeA, setAt, binA]
    · rw [put_eq, U1.tyw]
    · simp only [St.put]; omega
    · simp only [go_sem, ↓reduceIte, reduceCtorEq, Nat.reduceEqDiff, Nat.reduceAdd, Nat.reduceSub, Nat.reduceMul, Nat.reduceLeDiff, Nat.reduceLT, loadA, rdCells, storeA, setAt, binA]
    · have := hf1 _ _ _ _ hp; exact put_ne (by omega)
    · exact Nat.le_refl _
    · exact hf1.le (by omega)
    · rintro x e' S' ⟨rfl, g1, g2, ⟨lv', g3, g4⟩, g5, g6, g7⟩
      refine ⟨rfl, g1, ?_, ⟨lv', g3, ?_⟩, g5, ?_, fun j hj hjb => ?_⟩
      · rw [g2]; simp only [go_sem, ↓reduceIte, reduceCtorEq, Nat.reduceEqDiff, Nat.reduceAdd, Nat.reduceSub, Nat.reduceMul, Nat.reduceLeDiff, Nat.reduceLT, loadA, rdCells, storeA, setAt, binA]
      · simpa [nfl] using g4
      · simp only [St.put] at g6; omega
      · rw [g7 j hj hjb, put_ne hjb, hk1 j (by omega) (hl.2.ne hj)]

/-! ### The loop over the arguments -/
set_option maxHeartbeats 4000000 in
theorem arg_loop {n q : Nat} {k v : Int} {m : ByteArray} {l : List Tm} {w : AV} (hw : ISl tyc w l) (hv : ∀ a, a ∈ l → Val a ∧ tsz a < n) (hl : l.length ≤ big) (e : Env) (S0 S : St) (e4 : e 4 = .ptr q 0) (e31 : e 31 = w) (e32 : e 32 = .int .i64 l.length) (e33 : e 33 = .int .i64 0)
    (ho : S.obj q = some (.cells [.int .i64 k, .str m, .int .i64 v, .nils])) (hq : q < S.size) :
    W T (Xn n) (.loop cf24_l0) e S (fun x e' S' => x = .exit 2 ∧ e' 1 = e 1 ∧ e' 2 = e 2 ∧ e' 3 = e 3 ∧ e' 4 = .ptr q 0 ∧ (∃ ov, S'.obj q = some (.cells [.int .i64 k, .str m, .int .i64 v, ov]) ∧ MSl tyc 4 S' ov (l.map nf) ∧ freshO S.size ov) ∧ KeepBut q S S') := by
  refine W_loop_nat (fun kk e' S' => ∃ (i : Nat) (ov : AV), i + kk = l.length ∧ e' 1 = e 1 ∧ e' 2 = e 2 ∧ e' 3 = e 3 ∧ e' 4 = .ptr q 0 ∧ e' 31 = w ∧ e' 32 = .int .i64 l.length ∧ e' 33 = .int .i64 i ∧ S'.obj q = some (.cells [.int .i64 k, .str m, .int .i64 v, ov]) ∧ MSl tyc 4 S' ov ((l.take i).map nf) ∧ freshO S.size ov ∧ KeepBut q S S') ?_ l.length _ _
    ⟨0, .nils, by simp, rfl, rfl, rfl, e4, e31, e32, e33, ho, Or.inl ⟨rfl, by simp⟩, freshO_nils _, KeepBut.refl _ _⟩
  clear e4 e31 e32 e33 ho
  rintro kk e' S' ⟨i, ov, hik, e1, e2, e3, e4, e31, e32, e33, ho, hm, hf, hk⟩
  have hq' : q < S'.size := Nat.lt_of_lt_of_le hq hk.1
  by_cases hi : i < l.length
  · obtain ⟨a, ha⟩ : ∃ a, l[i]? = some a := ⟨_, List.getElem?_eq_getElem hi⟩
    have hd : decide ((i : Int) < (l.length : Int)) = true := by simp; omega
    have hat := hw.at tyc_len ha
    obtain ⟨va, sa⟩ := hv a (List.mem_of_getElem? ha)
    rw [tyc_w, U1.tyw] at hat
    have hnc := fun S1 => norm_wc (n := n) (isl_tycs (lof a)) va sa S1
    simp only [U1.tyw] at hnc
    simp only [cf24_l0, e1, e2, e3, e4, e31, e32, e33, hd, hat, Nat.le_add_left, go_sem, ↓reduceIte, reduceCtorEq, Nat.reduceEqDiff, Nat.reduceAdd, Nat.reduceSub, Nat.reduceMul, Nat.reduceLeDiff, Nat.reduceLT, loadA, rdCells, storeA, setAt, binA]
    refine W_dreg ?_
    simp only [wt_ops, stpT, Tr, e1, e2, e3, e4, e31, e32, e33, ho, ne_a hq', ne_b hq', ne_c hq', ne_d hq', wt_nil, chk1, avr, Bool.or_true, Nat.le_add_left, go_sem, ↓reduceIte, reduceCtorEq, Nat.reduceEqDiff, Nat.reduceAdd, Nat.reduceSub, Nat.reduceMul, Nat.reduceLeDiff, Nat.reduceLT, loadA, rdCells, storeA, setAt, binA]
    refine WT_callx _ rfl ((hnc _).mono ?_)
    rintro w2 S2 ⟨rfl, rfl⟩
    obtain ⟨SA, hSA⟩ : ∃ SA, SA = (S'.new (.cells [.int .i64 0, .str ⟨#[]⟩, .int .i64 0, .nils])).put S'.size (some (.cells [.int .i64 (kof a), .str (nof a), .int .i64 (vof a), .sl (tycs (lof a)) (lof a).length false none])) := ⟨_, rfl⟩
    have hzA : SA.size = S'.size + 1 := by rw [hSA]; rfl
    have hkA : ∀ j, j < S'.size → SA.obj j = S'.obj j := fun j hj => by rw [hSA, put_ne (by omega), new_ne (by omega)]
    have hoA : SA.obj q = some (.cells [.int .i64 k, .str m, .int .i64 v, ov]) := by rw [hkA q hq']; exact ho
    have hmA : MSl tyc 4 SA ov ((l.take i).map nf) := hm.of (fun p _ hp => hkA p hp) (by omega)
    obtain ⟨nv, SB, hap, hmB, hfB, hzB, -, -, hkB⟩ := hmA.app1 tycP (vtm 0) (bytes := 56) (by rw [List.length_map, List.length_take]; unfold big at hl; omega)
    have hln := hmA.len
    have hll : ((l.take i).map nf).length = i := by rw [List.length_map, List.length_take]; omega
    rw [hll] at hln
    rcases hmB with ⟨-, h⟩ | ⟨-, h⟩ | ⟨p', rfl, hoB, hpB⟩
    · simp at h
    · simp at h
    have hp' := hfB _ _ _ _ rfl
    have hlB : ((l.take i).map nf ++ [vtm 0]).length = i + 1 := by rw [List.length_append, hll]; rfl
    rw [hlB] at hap
    have hma := maddr (p := p') (n := i + 1) (i := i) (by omega)
    have hst := mstore tycP hoB (i := i) (by omega) (nf a)
    have hset : ((l.take i).map nf ++ [vtm 0]).set i (nf a) = (l.take (i + 1)).map nf := by
      rw [List.take_add_one, ha, List.set_append_right _ _ (by omega), hll]
      simp
    rw [hset] at hst
    have hqp : (q != p') = true := by simp; omega
    have hqp2 : (q = p') = False := eq_false (by omega)
    have hqp3 : (p' = q) = False := eq_false (by omega)
    have hoq : SB.obj q = some (.cells [.int .i64 k, .str m, .int .i64 v, ov]) := by rw [hkB q (by omega) (hf.ne hq)]; exact hoA
    have vt : tyc (vtm 0) = [.int .i64 0, .str ⟨#[]⟩, .int .i64 0, .sl [] 0 false none] := by rw [vtm_c]; rfl
    rw [vt] at hap
    have hwr := U1.wrapn (n := i) (by unfold big at hl; omega)
    obtain ⟨SC, hSC⟩ : ∃ SC, SC = SB.put p' (some (.cells (((l.take (i + 1)).map nf).flatMap tyc))) := ⟨_, rfl⟩
    have hoC : SC.obj q = some (.cells [.int .i64 k, .str m, .int .i64 v, ov]) := by rw [hSC, put_ne (by omega)]; exact hoq
    have hst2 : storeA SC 1 (.ptr q 3) (.msl p' 0 (i + 1) 4) = some (SC.put q (some (.cells [.int .i64 k, .str m, .int .i64 v, .msl p' 0 (i + 1) 4]))) := by
      simp [storeA, hoC, AV.cells, AV.one, setAt]
    have hl1 : loadA S' false 1 (.ptr q 3) = some ov := by simp [loadA, rdCells, ho]
    have hl2 : loadA SA false 1 (.ptr q 3) = some ov := by simp [loadA, rdCells, hoA]
    rw [← hSC] at hst
    rw [← hSA]
    simp only [wt_ops, stpT, Tr, e1, e2, e3, e4, e31, e32, e33, hln, hap, hma, hst, hst2, hl1, hl2, hoA, hqp, hqp2, hqp3, wt_nil, chk1, apartS, avr, Bool.or_true, Bool.false_or, hwr, Nat.le_add_left, setAt, go_sem, ↓reduceIte, reduceCtorEq, Nat.reduceEqDiff, Nat.reduceAdd, Nat.reduceSub, Nat.reduceMul, Nat.reduceLeDiff, Nat.reduceLT, binA]
    refine ⟨kk - 1, by omega, i + 1, .msl p' 0 (i + 1) 4, by omega, rfl, rfl, ?_, ?_, ?_⟩
    · refine Or.inr (Or.inr ⟨p', by rw [List.length_map, List.length_take, Nat.min_eq_left (by omega)], ?_, ?_⟩)
      · rw [put_ne (by omega), hSC, put_eq]
      · rw [hSC]; exact hpB
    · intro p o l z he; cases he; have := hk.1; omega
    · refine ⟨by rw [hSC]; simp only [St.put]; have := hk.1; omega, fun j hj hjq => ?_⟩
      rw [put_ne hjq, hSC, put_ne (by have := hk.1; omega), hkB j (by have := hk.1; omega) (hf.ne hj), hkA j (by have := hk.1; omega)]
      exact hk.2 j hj hjq
  · have hd : decide ((i : Int) < (l.length : Int)) = false := by simp; omega
    simp only [cf24_l0, e1, e2, e3, e4, e31, e32, e33, hd, go_sem, ↓reduceIte, reduceCtorEq, Nat.reduceEqDiff, Nat.reduceAdd, Nat.reduceSub, Nat.reduceMul, Nat.reduceLeDiff, Nat.reduceLT, loadA, rdCells, storeA, setAt, binA]
    exact ⟨⟨ov, ho, by simpa [List.take_of_length_le (show l.length ≤ i by omega)] using hm, hf⟩, hk⟩
end Go.Am.U2
