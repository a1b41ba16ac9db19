/- The stable sort: the whole. Conditions: none. -/
import Derived.Test.YtfleakoephmgaaaDoorAmSx
set_option linter.unusedSimpArgs false
set_option linter.unusedVariables false
namespace Go.Am
open Go.So (Ord Srt ins isort)
set_option maxRecDepth 100000
set_option linter.unusedSimpArgs false
attribute [local go_sem] wseq COp.isStore wreg wdreg wret wskip wexit wblock wcnd cnd_t cnd_f then_n then_x then_r catch_n rnd_n rnd_x rnd_r catch_x catch_r wo_nil wo_grd grdO_t grdO_f wo_ops stpO wr_nil wr_alloc wr_guards grdR_t grdR_f wr_ops stpR evAllocs evOp env0_app eput_some eput_none eset_app Opd.ev wantedA faddrA snew_obj snew_size sput_obj sput_size av_cells av_one av_strip av_still unA eqbA fillA fldA lensA mmA mm2 mmFold List.getD_cons_zero List.getD_cons_succ List.getD_nil List.length_cons List.length_nil List.drop_zero List.drop_succ_cons List.take_succ_cons List.take_zero List.map_cons List.map_nil List.set_cons_zero List.set_cons_succ List.all_cons List.all_nil List.getElem?_cons_zero List.getElem?_cons_succ List.nil_append List.cons_append Nat.zero_add Nat.add_zero beq_self_eq_true bt bf Bool.not_true Bool.not_false Bool.and_true Bool.true_and Bool.and_false Bool.false_and and_self and_true true_and n0 n1 n2 n3 n4 m0 m1 m2 m3 c1 retA resAs resA undefA Option.map_some Option.map_none

section
variable {α : Type} {f : α → List AV} {T : Nat → Option CF} {X : Ext} {nI nM nR nS : Nat}

/-- Blocks of this length, each sorted. -/
inductive FB (lt : α → α → Bool) (k : Nat) : List α → Prop
  | nil : FB lt k []
  | snoc (D c : List α) (h : FB lt k D) (hc : c.length = k) (hs : Srt lt c) : FB lt k (D ++ c)
/-- The last one may be shorter. -/
inductive Bks (lt : α → α → Bool) (k : Nat) : List α → Prop
  | last (c : List α) (hc : c.length ≤ k) (hs : Srt lt c) : Bks lt k c
  | cons (c r : List α) (hc : c.length = k) (hs : Srt lt c) (h : Bks lt k r) : Bks lt k (c ++ r)
theorem FB.to {lt : α → α → Bool} {k : Nat} {D R : List α} (h : FB lt k D) (hR : Bks lt k R) : Bks lt k (D ++ R) := by
  induction h generalizing R with
  | nil => exact hR
  | snoc D c _ hc hs ih => rw [List.append_assoc]; exact ih (.cons c R hc hs hR)
theorem Bks.two {lt : α → α → Bool} {k : Nat} {R : List α} (h : Bks lt k R) (hk : 0 < k) (hl : 2 * k ≤ R.length) : ∃ c1 c2 R', R = c1 ++ c2 ++ R' ∧ c1.length = k ∧ c2.length = k ∧ Srt lt c1 ∧ Srt lt c2 ∧ Bks lt k R' := by
  cases h with
  | last c hc hs => omega
  | cons c r hc hs h =>
    simp only [List.length_append] at hl
    cases h with
    | last d hd hsd => exact ⟨c, r, [], by simp, hc, by omega, hs, hsd, .last [] (by simp) (by simp [Srt])⟩
    | cons d r hd hsd h => exact ⟨c, d, r, by simp, hc, hd, hs, hsd, h⟩
theorem Bks.one {lt : α → α → Bool} {k : Nat} {R : List α} (h : Bks lt k R) (hk : k < R.length) (hl : R.length < 2 * k) : ∃ c1 c2, R = c1 ++ c2 ∧ c1.length = k ∧ Srt lt c1 ∧ Srt lt c2 := by
  cases h with
  | last c hc hs => omega
  | cons c r hc hs h =>
    simp only [List.length_append] at hl hk
    cases h with
    | last d hd hsd => exact ⟨c, r, rfl, hc, hs, hsd⟩
    | cons d r hd hsd h => simp only [List.length_append] at hl hk; omega
theorem Bks.srt {lt : α → α → Bool} {k : Nat} {R : List α} (h : Bks lt k R) (hl : R.length ≤ k) : Srt lt R := by
  cases h with
  | last c hc hs => exact hs
  | cons c r hc hs h =>
    simp only [List.length_append] at hl
    have : r = [] := nil_of (by omega)
    subst this
    simpa using hs

theorem ins_none (hT : SortT T X nI nM nR nS) (v : AV) (cv : AV) (S : St) : WC T X nI [v, .int .i64 0, .int .i64 0, cv] S (fun _ S' => S' = S) := by
  refine WC_fn sIns hT.xI hT.tI (by simp [sIns]) ?_
  have w1 : IntKind.i64.wrap ((0 : Int) + 1) = 1 := by rw [IntKind.wrap_i64]; omega
  have hd : decide ((1 : Int) < 0) = false := rfl
  simp only [sIns, w1, go_sem, ↓reduceIte, reduceCtorEq, Nat.reduceEqDiff, Nat.reduceAdd, Nat.reduceSub, Nat.reduceMul, Nat.reduceLeDiff, Nat.reduceLT, loadA, rdCells, storeA, setAt, binA]
  refine W_loop_nat (fun k e s => e 2 = .int .i64 0 ∧ e 8 = .int .i64 1 ∧ s = S) ?_ 0 _ _ ⟨by simp only [go_sem, ↓reduceIte, reduceCtorEq, Nat.reduceEqDiff, Nat.reduceAdd, Nat.reduceSub, Nat.reduceMul, Nat.reduceLeDiff, Nat.reduceLT, loadA, rdCells, storeA, setAt, binA], by simp only [go_sem, ↓reduceIte, reduceCtorEq, Nat.reduceEqDiff, Nat.reduceAdd, Nat.reduceSub, Nat.reduceMul, Nat.reduceLeDiff, Nat.reduceLT, loadA, rdCells, storeA, setAt, binA], rfl⟩
  rintro k e s ⟨e2, e8, rfl⟩
  simp only [sIns_l1, e2, e8, hd, go_sem, ↓reduceIte, reduceCtorEq, Nat.reduceEqDiff, Nat.reduceAdd, Nat.reduceSub, Nat.reduceMul, Nat.reduceLeDiff, Nat.reduceLT, loadA, rdCells, storeA, setAt, binA]
  exact ⟨by simp, _, rfl⟩

theorem stb_none (hT : SortT T X nI nM nR nS) {nB : Nat} (hB : T nB = some (sStb nI nM)) (xB : X nB = none) (v cv : AV) (S : St) : WC T X nB [v, .int .i64 0, cv] S (fun _ S' => S' = S) := by
  refine WC_fn (sStb nI nM) xB hB (by simp [sStb]) ?_
  have hd : decide ((20 : Int) ≤ 0) = false := rfl
  have hd2 : decide ((20 : Int) < 0) = false := rfl
  simp only [sStb, go_sem, ↓reduceIte, reduceCtorEq, Nat.reduceEqDiff, Nat.reduceAdd, Nat.reduceSub, Nat.reduceMul, Nat.reduceLeDiff, Nat.reduceLT, loadA, rdCells, storeA, setAt, binA]
  refine W_loop_nat (fun k e s => e 0 = v ∧ e 1 = .int .i64 0 ∧ e 2 = cv ∧ e 6 = .int .i64 20 ∧ e 7 = .int .i64 0 ∧ e 8 = .int .i64 20 ∧ s = S) ?_ 0 _ _ ⟨by simp only [go_sem, ↓reduceIte, reduceCtorEq, Nat.reduceEqDiff, Nat.reduceAdd, Nat.reduceSub, Nat.reduceMul, Nat.reduceLeDiff, Nat.reduceLT, loadA, rdCells, storeA, setAt, binA], by simp only [go_sem, ↓reduceIte, reduceCtorEq, Nat.reduceEqDiff, Nat.reduceAdd, Nat.reduceSub, Nat.reduceMul, Nat.reduceLeDiff, Nat.reduceLT, loadA, rdCells, storeA, setAt, binA], by simp only [go_sem, ↓reduceIte, reduceCtorEq, Nat.reduceEqDiff, Nat.reduceAdd, Nat.reduceSub, Nat.reduceMul, Nat.reduceLeDiff, Nat.reduceLT, loadA, rdCells, storeA, setAt, binA], by simp only [go_sem, ↓reduceIte, reduceCtorEq, Nat.reduceEqDiff, Nat.reduceAdd, Nat.reduceSub, Nat.reduceMul, Nat.reduceLeDiff, Nat.reduceLT, loadA, rdCells, storeA, setAt, binA], by simp only [go_sem, ↓reduceIte, reduceCtorEq, Nat.reduceEqDiff, Nat.reduceAdd, Nat.reduceSub, Nat.reduceMul, Nat.reduceLeDiff, Nat.reduceLT, loadA, rdCells, storeA, setAt, binA], by simp only [go_sem, ↓reduceIte, reduceCtorEq, Nat.reduceEqDiff, Nat.reduceAdd, Nat.reduceSub, Nat.reduceMul, Nat.reduceLeDiff, Nat.reduceLT, loadA, rdCells, storeA, setAt, binA], rfl⟩
  rintro k e s ⟨e0, e1, e2, e6, e7, e8, rfl⟩
  simp only [sStb_l2, e0, e1, e2, e6, e7, e8, hd, go_sem, ↓reduceIte, reduceCtorEq, Nat.reduceEqDiff, Nat.reduceAdd, Nat.reduceSub, Nat.reduceMul, Nat.reduceLeDiff, Nat.reduceLT, loadA, rdCells, storeA, setAt, binA]
  refine WO_callx [v, .int .i64 0, .int .i64 0, cv] (by simp only [e2, go_sem, ↓reduceIte, reduceCtorEq, Nat.reduceEqDiff, Nat.reduceAdd, Nat.reduceSub, Nat.reduceMul, Nat.reduceLeDiff, Nat.reduceLT, loadA, rdCells, storeA, setAt, binA]) ((ins_none hT v cv s).mono ?_)
  rintro w s1 rfl
  simp only [e0, e1, e2, e6, e7, e8, hd, go_sem, ↓reduceIte, reduceCtorEq, Nat.reduceEqDiff, Nat.reduceAdd, Nat.reduceSub, Nat.reduceMul, Nat.reduceLeDiff, Nat.reduceLT, loadA, rdCells, storeA, setAt, binA]
  refine W_loop_nat (fun k e s => e 1 = .int .i64 0 ∧ e 6 = .int .i64 20 ∧ s = s1) ?_ 0 _ _ ⟨by simp only [e1, go_sem, ↓reduceIte, reduceCtorEq, Nat.reduceEqDiff, Nat.reduceAdd, Nat.reduceSub, Nat.reduceMul, Nat.reduceLeDiff, Nat.reduceLT, loadA, rdCells, storeA, setAt, binA], by simp only [e6, go_sem, ↓reduceIte, reduceCtorEq, Nat.reduceEqDiff, Nat.reduceAdd, Nat.reduceSub, Nat.reduceMul, Nat.reduceLeDiff, Nat.reduceLT, loadA, rdCells, storeA, setAt, binA], rfl⟩
  rintro k e s ⟨e1, e6, rfl⟩
  simp only [sStb_l1, e1, e6, hd2, go_sem, ↓reduceIte, reduceCtorEq, Nat.reduceEqDiff, Nat.reduceAdd, Nat.reduceSub, Nat.reduceMul, Nat.reduceLeDiff, Nat.reduceLT, loadA, rdCells, storeA, setAt, binA]
  exact ⟨by simp, _, rfl⟩

set_option maxHeartbeats 4000000 in
theorem stb_law (hT : SortT T X nI nM nR nS) {nB : Nat} (hB : T nB = some (sStb nI nM)) (xB : X nB = none) (hP : Plain f 4) {lt : α → α → Bool} (O : Ord lt) {g : Nat} {cap : List AV} (hc : Cmps T X f g cap lt) (l : List α) (hb : l.length ≤ 4398046511104) {p : Nat} {S : St} (hp : p < S.size) (ho : S.obj p = some (.cells (l.flatMap f))) :
    WC T X nB [.msl p 0 l.length 4, .int .i64 (l.length : Nat), .func g cap] S (fun _ S' => S'.obj p = some (.cells ((isort lt l).flatMap f)) ∧ KeepBut p S S') := by
  refine WC_fn (sStb nI nM) xB hB (by simp [sStb]) ?_
  obtain ⟨n, hn⟩ : ∃ n, n = l.length := ⟨_, rfl⟩
  rw [← hn] at hb ⊢
  simp only [sStb, go_sem, ↓reduceIte, reduceCtorEq, Nat.reduceEqDiff, Nat.reduceAdd, Nat.reduceSub, Nat.reduceMul, Nat.reduceLeDiff, Nat.reduceLT, loadA, rdCells, storeA, setAt, binA]
  refine W_loop_nat (fun k e s => ∃ D R, k = R.length ∧ FB lt 20 D ∧ (D ++ R).length = n ∧ isort lt (D ++ R) = isort lt l ∧ e 0 = .msl p 0 n 4 ∧ e 1 = .int .i64 n ∧ e 2 = .func g cap ∧ e 6 = .int .i64 20 ∧ e 7 = .int .i64 (D.length : Nat) ∧ e 8 = .int .i64 (D.length + 20 : Nat) ∧ s.obj p = some (.cells ((D ++ R).flatMap f)) ∧ KeepBut p S s) ?_ n _ _
    ⟨[], l, hn, .nil, by simp [hn], rfl, by simp only [go_sem, ↓reduceIte, reduceCtorEq, Nat.reduceEqDiff, Nat.reduceAdd, Nat.reduceSub, Nat.reduceMul, Nat.reduceLeDiff, Nat.reduceLT, loadA, rdCells, storeA, setAt, binA], by simp only [go_sem, ↓reduceIte, reduceCtorEq, Nat.reduceEqDiff, Nat.reduceAdd, Nat.reduceSub, Nat.reduceMul, Nat.reduceLeDiff, Nat.reduceLT, loadA, rdCells, storeA, setAt, binA], by simp only [go_sem, ↓reduceIte, reduceCtorEq, Nat.reduceEqDiff, Nat.reduceAdd, Nat.reduceSub, Nat.reduceMul, Nat.reduceLeDiff, Nat.reduceLT, loadA, rdCells, storeA, setAt, binA], by simp only [go_sem, ↓reduceIte, reduceCtorEq, Nat.reduceEqDiff, Nat.reduceAdd, Nat.reduceSub, Nat.reduceMul, Nat.reduceLeDiff, Nat.reduceLT, loadA, rdCells, storeA, setAt, binA], by simp only [go_sem, ↓reduceIte, reduceCtorEq, Nat.reduceEqDiff, Nat.reduceAdd, Nat.reduceSub, Nat.reduceMul, Nat.reduceLeDiff, Nat.reduceLT, loadA, rdCells, storeA, setAt, binA]; rfl, by simp only [go_sem, ↓reduceIte, reduceCtorEq, Nat.reduceEqDiff, Nat.reduceAdd, Nat.reduceSub, Nat.reduceMul, Nat.reduceLeDiff, Nat.reduceLT, loadA, rdCells, storeA, setAt, binA]; rfl, by simpa using ho, KeepBut.refl _ _⟩
  rintro k e s ⟨D, R, rfl, hD, hl, hE, e0, e1, e2, e6, e7, e8, hs, hk⟩
  have hl' : D.length + R.length = n := by rw [← List.length_append]; exact hl
  by_cases h20 : 20 ≤ R.length
  · have hd : decide (((D.length + 20 : Nat) : Int) ≤ (n : Int)) = true := by simp; omega
    have hR : R = R.take 20 ++ R.drop 20 := (List.take_append_drop _ _).symm
    have hl1 : (R.take 20).length = 20 := by simp; omega
    have hs' : s.obj p = some (.cells ((D ++ R.take 20 ++ R.drop 20).flatMap f)) := by rw [hs]; conv => lhs; rw [hR]
                                                                                       simp
    have w2 : IntKind.i64.wrap (((D.length + 20 : Nat) : Int) + 20) = ((D.length + 20 + 20 : Nat) : Int) := by rw [IntKind.wrap_i64]; omega
    have call := ins_law hT hP O hc D (R.take 20) (R.drop 20) (by simp only [List.length_append, hl1, List.length_drop]; omega) (Nat.lt_of_lt_of_le hp hk.1) hs' (n := n) (a := D.length) (b := D.length + 20) (by simp only [List.length_append, hl1, List.length_drop]; omega) rfl (by rw [hl1])
    simp only [sStb_l2, e0, e1, e2, e6, e7, e8, hd, go_sem, ↓reduceIte, reduceCtorEq, Nat.reduceEqDiff, Nat.reduceAdd, Nat.reduceSub, Nat.reduceMul, Nat.reduceLeDiff, Nat.reduceLT, loadA, rdCells, storeA, setAt, binA]
    refine WO_callx [.msl p 0 n 4, .int .i64 D.length, .int .i64 (D.length + 20 : Nat), .func g cap] (by simp only [e2, go_sem, ↓reduceIte, reduceCtorEq, Nat.reduceEqDiff, Nat.reduceAdd, Nat.reduceSub, Nat.reduceMul, Nat.reduceLeDiff, Nat.reduceLT, loadA, rdCells, storeA, setAt, binA]) (call.mono ?_)
    rintro v s1 ⟨h1, k1⟩
    simp only [e0, e1, e2, e6, e7, e8, w2, go_sem, ↓reduceIte, reduceCtorEq, Nat.reduceEqDiff, Nat.reduceAdd, Nat.reduceSub, Nat.reduceMul, Nat.reduceLeDiff, Nat.reduceLT, loadA, rdCells, storeA, setAt, binA]
    have hil : (isort lt (R.take 20)).length = 20 := by rw [Go.So.isort_len, hl1]
    refine ⟨(R.drop 20).length, by simp; omega, D ++ isort lt (R.take 20), R.drop 20, rfl, .snoc _ _ hD hil (Go.So.isort_srt O _), by simp only [List.length_append, hil, List.length_drop]; omega, ?_, by simp only [List.length_append, hil], by simp only [List.length_append, hil]; try omega, h1, hk.trans k1⟩
    rw [← hE, Go.So.isort_congr O (Go.So.isort_idem O (R.take 20)), List.append_assoc, List.take_append_drop]
  · have hd : decide (((D.length + 20 : Nat) : Int) ≤ (n : Int)) = false := by simp; omega
    have hs' : s.obj p = some (.cells ((D ++ R ++ []).flatMap f)) := by rw [hs]; simp
    have call := ins_law hT hP O hc D R [] (by simp only [List.append_nil, hl]; exact hb) (Nat.lt_of_lt_of_le hp hk.1) hs' (n := n) (a := D.length) (b := n) (by simp only [List.append_nil, hl]) rfl (by omega)
    simp only [sStb_l2, e0, e1, e2, e6, e7, e8, hd, go_sem, ↓reduceIte, reduceCtorEq, Nat.reduceEqDiff, Nat.reduceAdd, Nat.reduceSub, Nat.reduceMul, Nat.reduceLeDiff, Nat.reduceLT, loadA, rdCells, storeA, setAt, binA]
    refine WO_callx [.msl p 0 n 4, .int .i64 D.length, .int .i64 n, .func g cap] (by simp only [e2, go_sem, ↓reduceIte, reduceCtorEq, Nat.reduceEqDiff, Nat.reduceAdd, Nat.reduceSub, Nat.reduceMul, Nat.reduceLeDiff, Nat.reduceLT, loadA, rdCells, storeA, setAt, binA]) (call.mono ?_)
    rintro v s1 ⟨h1, k1⟩
    rw [List.append_nil] at h1
    have hil : (isort lt R).length = R.length := Go.So.isort_len R
    have hB1 : Bks lt 20 (D ++ isort lt R) := hD.to (.last _ (by omega) (Go.So.isort_srt O R))
    have hE1 : isort lt (D ++ isort lt R) = isort lt l := by
      have := Go.So.isort_congr O (X := D) (Y := []) (Go.So.isort_idem O R)
      simp only [List.append_nil] at this
      rw [this, hE]
    have hl1 : (D ++ isort lt R).length = n := by rw [List.length_append, hil]; exact hl'
    have hk1 := hk.trans k1
    simp only [e0, e1, e2, e6, go_sem, ↓reduceIte, reduceCtorEq, Nat.reduceEqDiff, Nat.reduceAdd, Nat.reduceSub, Nat.reduceMul, Nat.reduceLeDiff, Nat.reduceLT, loadA, rdCells, storeA, setAt, binA]
    clear hD hl hE hs hs' hk hl' h20 hd call k1 hil e7 e8
    generalize D ++ isort lt R = L at *
    refine W_loop_nat (fun k e s => ∃ (bs : Nat) (L : List α), k = n - bs ∧ 20 ≤ bs ∧ bs ≤ 17592186044416 ∧ Bks lt bs L ∧ isort lt L = isort lt l ∧ L.length = n ∧ e 0 = .msl p 0 n 4 ∧ e 1 = .int .i64 n ∧ e 2 = .func g cap ∧ e 6 = .int .i64 bs ∧ s.obj p = some (.cells (L.flatMap f)) ∧ KeepBut p S s) ?_ (n - 20) _ _
      ⟨20, L, rfl, Nat.le_refl _, by omega, hB1, hE1, hl1, by simp only [e0, go_sem, ↓reduceIte, reduceCtorEq, Nat.reduceEqDiff, Nat.reduceAdd, Nat.reduceSub, Nat.reduceMul, Nat.reduceLeDiff, Nat.reduceLT, loadA, rdCells, storeA, setAt, binA], by simp only [e1, go_sem, ↓reduceIte, reduceCtorEq, Nat.reduceEqDiff, Nat.reduceAdd, Nat.reduceSub, Nat.reduceMul, Nat.reduceLeDiff, Nat.reduceLT, loadA, rdCells, storeA, setAt, binA], by simp only [e2, go_sem, ↓reduceIte, reduceCtorEq, Nat.reduceEqDiff, Nat.reduceAdd, Nat.reduceSub, Nat.reduceMul, Nat.reduceLeDiff, Nat.reduceLT, loadA, rdCells, storeA, setAt, binA], by simp only [e6, go_sem, ↓reduceIte, reduceCtorEq, Nat.reduceEqDiff, Nat.reduceAdd, Nat.reduceSub, Nat.reduceMul, Nat.reduceLeDiff, Nat.reduceLT, loadA, rdCells, storeA, setAt, binA]; rfl, h1, hk1⟩
    clear hB1 hE1 hl1 h1 hk1 e0 e1 e2 e6
    rintro k e s ⟨bs, L, rfl, hbs, hbs2, hB1, hE1, hl1, e0, e1, e2, e6, hs, hk⟩
    by_cases hlt : bs < n
    · have hd : decide ((bs : Int) < (n : Int)) = true := by simp; omega
      have w3 : IntKind.i64.wrap (2 * (bs : Int)) = ((2 * bs : Nat) : Int) := by rw [IntKind.wrap_i64]; omega
      simp only [sStb_l1, e0, e1, e2, e6, hd, w3, go_sem, ↓reduceIte, reduceCtorEq, Nat.reduceEqDiff, Nat.reduceAdd, Nat.reduceSub, Nat.reduceMul, Nat.reduceLeDiff, Nat.reduceLT, loadA, rdCells, storeA, setAt, binA]
      refine W_loop_nat (fun k e' s' => ∃ D R, k = R.length ∧ FB lt (2 * bs) D ∧ Bks lt bs R ∧ (D ++ R).length = n ∧ isort lt (D ++ R) = isort lt l ∧ e' 0 = .msl p 0 n 4 ∧ e' 1 = .int .i64 n ∧ e' 2 = .func g cap ∧ e' 6 = .int .i64 bs ∧ e' 7 = .int .i64 (D.length : Nat) ∧ e' 8 = .int .i64 (D.length + 2 * bs : Nat) ∧ s'.obj p = some (.cells ((D ++ R).flatMap f)) ∧ KeepBut p S s') ?_ n _ _
        ⟨[], L, hl1.symm, .nil, hB1, by simpa using hl1, by simpa using hE1, by simp only [e0, go_sem, ↓reduceIte, reduceCtorEq, Nat.reduceEqDiff, Nat.reduceAdd, Nat.reduceSub, Nat.reduceMul, Nat.reduceLeDiff, Nat.reduceLT, loadA, rdCells, storeA, setAt, binA], by simp only [e1, go_sem, ↓reduceIte, reduceCtorEq, Nat.reduceEqDiff, Nat.reduceAdd, Nat.reduceSub, Nat.reduceMul, Nat.reduceLeDiff, Nat.reduceLT, loadA, rdCells, storeA, setAt, binA], by simp only [e2, go_sem, ↓reduceIte, reduceCtorEq, Nat.reduceEqDiff, Nat.reduceAdd, Nat.reduceSub, Nat.reduceMul, Nat.reduceLeDiff, Nat.reduceLT, loadA, rdCells, storeA, setAt, binA], by simp only [e6, go_sem, ↓reduceIte, reduceCtorEq, Nat.reduceEqDiff, Nat.reduceAdd, Nat.reduceSub, Nat.reduceMul, Nat.reduceLeDiff, Nat.reduceLT, loadA, rdCells, storeA, setAt, binA], by simp only [go_sem, ↓reduceIte, reduceCtorEq, Nat.reduceEqDiff, Nat.reduceAdd, Nat.reduceSub, Nat.reduceMul, Nat.reduceLeDiff, Nat.reduceLT, loadA, rdCells, storeA, setAt, binA]; rfl, by simp only [go_sem, ↓reduceIte, reduceCtorEq, Nat.reduceEqDiff, Nat.reduceAdd, Nat.reduceSub, Nat.reduceMul, Nat.reduceLeDiff, Nat.reduceLT, loadA, rdCells, storeA, setAt, binA, List.length_nil, Nat.zero_add], by simpa using hs, hk⟩
      clear hB1 hE1 hl1 hs hk
      rintro k' e' s' ⟨D, R, rfl, hD, hR, hl, hE, f0, f1, f2, f6, f7, f8, hs, hk⟩
      have hl' : D.length + R.length = n := by rw [← List.length_append]; exact hl
      have v1 : IntKind.i64.wrap ((D.length : Int) + (bs : Int)) = ((D.length + bs : Nat) : Int) := by rw [IntKind.wrap_i64]; omega
      by_cases h2 : 2 * bs ≤ R.length
      · have hd2 : decide (((D.length + 2 * bs : Nat) : Int) ≤ (n : Int)) = true := by simp; omega
        obtain ⟨c1, c2, R', rfl, l1, l2, s1, s2, hR'⟩ := hR.two (by omega) h2
        have v2 : IntKind.i64.wrap (((D.length + 2 * bs : Nat) : Int) + ((2 * bs : Nat) : Int)) = ((D.length + 2 * bs + 2 * bs : Nat) : Int) := by rw [IntKind.wrap_i64]; omega
        have hs' : s'.obj p = some (.cells ((D ++ c1 ++ c2 ++ R').flatMap f)) := by rw [hs]; simp
        simp only [List.length_append, l1, l2] at hl'
        have call := sym_law hT hP O hc (c1.length + c2.length) c1 c2 (Nat.le_refl _) D R' (by omega) (by omega) s1 s2 (by simp only [List.length_append, l1, l2]; omega) (Nat.lt_of_lt_of_le hp hk.1) hs'
        unfold Mrg at call
        have g1 : (D ++ c1 ++ c2 ++ R').length = n := by simp only [List.length_append, l1, l2]; omega
        rw [g1, l1, l2, show D.length + bs + bs = D.length + 2 * bs by omega] at call
        simp only [sStb_l0, f0, f1, f2, f6, f7, f8, hd2, v1, w3, go_sem, ↓reduceIte, reduceCtorEq, Nat.reduceEqDiff, Nat.reduceAdd, Nat.reduceSub, Nat.reduceMul, Nat.reduceLeDiff, Nat.reduceLT, loadA, rdCells, storeA, setAt, binA]
        refine WO_callx [.msl p 0 n 4, .int .i64 D.length, .int .i64 (D.length + bs : Nat), .int .i64 (D.length + 2 * bs : Nat), .func g cap] (by simp only [f2, go_sem, ↓reduceIte, reduceCtorEq, Nat.reduceEqDiff, Nat.reduceAdd, Nat.reduceSub, Nat.reduceMul, Nat.reduceLeDiff, Nat.reduceLT, loadA, rdCells, storeA, setAt, binA]) (call.mono ?_)
        rintro v s3 ⟨h1, k1⟩
        have hil : (isort lt (c1 ++ c2)).length = 2 * bs := by rw [Go.So.isort_len, List.length_append]; omega
        simp only [f0, f1, f2, f6, f7, f8, v2, w3, go_sem, ↓reduceIte, reduceCtorEq, Nat.reduceEqDiff, Nat.reduceAdd, Nat.reduceSub, Nat.reduceMul, Nat.reduceLeDiff, Nat.reduceLT, loadA, rdCells, storeA, setAt, binA]
        refine ⟨R'.length, by simp only [List.length_append]; omega, D ++ isort lt (c1 ++ c2), R', rfl, .snoc _ _ hD hil (Go.So.isort_srt O _), hR', by simp only [List.length_append, hil]; omega, ?_, by simp only [List.length_append, hil], by simp only [List.length_append, hil]; try omega, h1, hk.trans k1⟩
        rw [← hE, Go.So.isort_congr O (Go.So.isort_idem O (c1 ++ c2))]; simp
      · have hd2 : decide (((D.length + 2 * bs : Nat) : Int) ≤ (n : Int)) = false := by simp; omega
        have w4 : IntKind.i64.wrap ((bs : Int) * 2) = ((2 * bs : Nat) : Int) := by rw [IntKind.wrap_i64]; omega
        by_cases h3 : bs < R.length
        · have hd3 : decide (((D.length + bs : Nat) : Int) < (n : Int)) = true := by simp; omega
          obtain ⟨c1, c2, rfl, l1, s1, s2⟩ := hR.one h3 (by omega)
          have hs' : s'.obj p = some (.cells ((D ++ c1 ++ c2 ++ []).flatMap f)) := by rw [hs]; simp
          simp only [List.length_append, l1] at hl' h3 h2
          have call := sym_law hT hP O hc (c1.length + c2.length) c1 c2 (Nat.le_refl _) D [] (by omega) (by omega) s1 s2 (by simp only [List.append_nil, List.length_append, l1]; omega) (Nat.lt_of_lt_of_le hp hk.1) hs'
          unfold Mrg at call
          have g1 : (D ++ c1 ++ c2 ++ []).length = n := by simp only [List.append_nil, List.length_append, l1]; omega
          rw [g1, l1, show D.length + bs + c2.length = n by omega] at call
          simp only [sStb_l0, f0, f1, f2, f6, f7, f8, hd2, hd3, v1, w3, go_sem, ↓reduceIte, reduceCtorEq, Nat.reduceEqDiff, Nat.reduceAdd, Nat.reduceSub, Nat.reduceMul, Nat.reduceLeDiff, Nat.reduceLT, loadA, rdCells, storeA, setAt, binA]
          refine WO_callx [.msl p 0 n 4, .int .i64 D.length, .int .i64 (D.length + bs : Nat), .int .i64 n, .func g cap] (by simp only [f2, go_sem, ↓reduceIte, reduceCtorEq, Nat.reduceEqDiff, Nat.reduceAdd, Nat.reduceSub, Nat.reduceMul, Nat.reduceLeDiff, Nat.reduceLT, loadA, rdCells, storeA, setAt, binA]) (call.mono ?_)
          rintro v s3 ⟨h1, k1⟩
          have hil : (isort lt (c1 ++ c2)).length = bs + c2.length := by rw [Go.So.isort_len, List.length_append]; omega
          simp only [f0, f1, f2, f6, f7, f8, w4, go_sem, ↓reduceIte, reduceCtorEq, Nat.reduceEqDiff, Nat.reduceAdd, Nat.reduceSub, Nat.reduceMul, Nat.reduceLeDiff, Nat.reduceLT, loadA, rdCells, storeA, setAt, binA]
          refine ⟨n - 2 * bs, by omega, 2 * bs, D ++ isort lt (c1 ++ c2), rfl, by omega, by omega, hD.to (.last _ (by omega) (Go.So.isort_srt O _)), ?_, by rw [List.length_append, hil]; omega, rfl, by rw [h1]; simp, hk.trans k1⟩
          have := Go.So.isort_congr O (X := D) (Y := []) (Go.So.isort_idem O (c1 ++ c2))
          simp only [List.append_nil] at this
          rw [this, ← hE]
        · have hd3 : decide (((D.length + bs : Nat) : Int) < (n : Int)) = false := by simp; omega
          simp only [sStb_l0, f0, f1, f2, f6, f7, f8, hd2, hd3, v1, w3, w4, go_sem, ↓reduceIte, reduceCtorEq, Nat.reduceEqDiff, Nat.reduceAdd, Nat.reduceSub, Nat.reduceMul, Nat.reduceLeDiff, Nat.reduceLT, loadA, rdCells, storeA, setAt, binA]
          exact ⟨n - 2 * bs, by omega, 2 * bs, D ++ R, rfl, by omega, by omega, hD.to (.last _ (by omega) (hR.srt (by omega))), hE, hl, rfl, hs, hk⟩
    · have hd : decide ((bs : Int) < (n : Int)) = false := by simp; omega
      simp only [sStb_l1, e0, e1, e2, e6, hd, go_sem, ↓reduceIte, reduceCtorEq, Nat.reduceEqDiff, Nat.reduceAdd, Nat.reduceSub, Nat.reduceMul, Nat.reduceLeDiff, Nat.reduceLT, loadA, rdCells, storeA, setAt, binA]
      refine ⟨by simp, _, rfl, ?_, hk⟩
      rw [hs, ← hE1, Go.So.isort_of (hB1.srt (by omega))]
end
end Go.Am
