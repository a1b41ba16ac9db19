/- Located errors copied, sorted, without repetitions. Conditions: none. -/
import Derived.Test.YtepgbpohmljedaaScA
import Derived.Test.YtepgbpohmljedaaScP
set_option linter.unusedSimpArgs false
set_option linter.unusedVariables false
namespace Go.Am.W1
open Go.So (Ord Srt ins isort)
open Go.Sc (cpt)
set_option maxRecDepth 100000
set_option linter.unusedSimpArgs false
attribute [local go_sem] wseq wreg wdreg wret wskip wexit wblock wcnd cnd_t cnd_f then_n then_x then_r catch_n rnd_n rnd_x rnd_r catch_x catch_r wo_nil wo_grd grdO_t grdO_f wo_ops stpO wr_nil wr_alloc wr_guards grdR_t grdR_f wr_ops stpR evAllocs evOp env0_app eput_some eput_none eset_app Opd.ev wantedA faddrA snew_obj snew_size sput_obj sput_size av_cells av_one av_strip av_still unA eqbA fillA fldA lensA mmA mm2 mmFold List.getD_cons_zero List.getD_cons_succ List.getD_nil List.length_cons List.length_nil List.drop_zero List.drop_succ_cons List.take_succ_cons List.take_zero List.map_cons List.map_nil List.set_cons_zero List.set_cons_succ List.all_cons List.all_nil List.getElem?_cons_zero List.getElem?_cons_succ List.nil_append List.cons_append Nat.zero_add Nat.add_zero beq_self_eq_true bt bf Bool.not_true Bool.not_false Bool.and_true Bool.true_and Bool.and_false Bool.false_and and_self and_true true_and n0 n1 n2 n3 n4 m0 m1 m2 m3 c1 retA resAs resA undefA Option.map_some Option.map_none

/-- A slice that can be read. -/
def RdS {α : Type} (f : α → List AV) (z : Nat) (S : St) (v : AV) (l : List α) : Prop := ISl f v l ∨ ∃ p rest, v = .msl p 0 l.length z ∧ S.obj p = some (.cells (l.flatMap f ++ rest)) ∧ p < S.size
section
variable {α : Type} {f : α → List AV} {z : Nat} {S : St} {v : AV} {l : List α}
theorem _root_.Go.Am.W1.RdS.len (h : RdS f z S v l) : lenA v = some (.int .i64 l.length) := by
  rcases h with h | ⟨p, rest, rfl, -, -⟩
  · exact h.len
  · rfl
theorem _root_.Go.Am.W1.RdS.keep {S' : St} (h : RdS f z S v l) (hk : Keep S S') : RdS f z S' v l := by
  rcases h with h | ⟨p, rest, rfl, h1, h2⟩
  · exact Or.inl h
  · exact Or.inr ⟨p, rest, rfl, (hk.2 p h2).trans h1, hk.lt h2⟩
theorem rd_of (h : MSl f z S v l) : RdS f z S v l := by
  rcases h with ⟨rfl, rfl⟩ | ⟨rfl, rfl⟩ | ⟨p, rfl, h1, h2⟩
  · exact Or.inl (Or.inl ⟨rfl, rfl⟩)
  · exact Or.inl (Or.inr ⟨_, _, rfl⟩)
  · exact Or.inr ⟨p, [], rfl, by simpa using h1, h2⟩
theorem _root_.Go.Am.W1.RdS.at (hP : Plain f z) (h : RdS f z S v l) {i : Nat} {x : α} (hi : l[i]? = some x) : ∃ q, iaddrA z v (.int .i64 i) = some q ∧ loadA S true z q = some (.agg (f x)) := by
  have h3 : (f x).map AV.strip = f x := by have := hP.strips [x]; simpa using this
  rcases h with h | ⟨p, rest, rfl, h1, h2⟩
  · refine ⟨_, h.at hP.len hi, ?_⟩
    have hl : z ≤ (f x ++ (l.drop (i + 1)).flatMap f).length := by rw [List.length_append, hP.len]; omega
    simp only [loadA, rdCells]
    rw [if_pos hl, List.take_append_of_le_length (by rw [hP.len]; omega), List.take_of_length_le (by rw [hP.len]; omega)]
    simp [h3]
  · have hlt : i < l.length := (List.getElem?_eq_some_iff.1 hi).1
    refine ⟨.ptr p (i * z), ?_, ?_⟩
    · simp only [iaddrA]
      rw [if_pos ⟨by omega, by omega, trivial⟩]; simp
    · have hle := flat_le hP.len hi z (Nat.le_refl _)
      have hr := flat_row hP.len hi
      simp only [loadA, rdCells, h1]
      rw [if_pos (by rw [List.length_append]; omega), List.drop_append_of_le_length (by omega), List.take_append_of_le_length (by rw [List.length_drop]; omega), hr]
      simp [h3]
end

def dgq (x y : Dg) : Bool := x.code == y.code && (x.line == y.line && (x.col == y.col && (x.text.toList == y.text.toList && true)))
theorem dgq_is (x y : Dg) : eqCells [0, 0, 0, 2] (dgc x) (dgc y) = some (dgq x y) := rfl
theorem dgq_eq {x y : Dg} (h : dgq x y = true) : x = y := by
  simp only [dgq, Bool.and_eq_true, beq_iff_eq, and_true] at h
  obtain ⟨h1, h2, h3, h4⟩ := h
  cases x; cases y
  simp only at h1 h2 h3 h4
  subst h1 h2 h3
  simp only [ByteArray.toList_eq] at h4
  congr 1
  exact ByteArray.ext (Array.toList_inj.1 h4)
theorem dgq_self (x : Dg) : dgq x x = true := by simp [dgq]
theorem eqs_is (neg : Bool) (x y : Dg) : eqsA [0, 0, 0, 2] neg (.agg (dgc x)) (.agg (dgc y)) = some (.bool (if neg then !(dgq x y) else dgq x y)) := rfl

theorem clone_law2 {v : AV} {l : List Dg} (hi : ISl dgc v l) (hkn : Known v) (hb : l.length * 40 ≤ 140737488355328) (S : St) : WC T xw 21 [v] S (fun r S' => MSl dgc 4 S' r l ∧ (∀ p, r = .msl p 0 l.length 4 → S.size ≤ p) ∧ Keep S S') := by
  refine WC_fn cf21 rfl T21 (by simp [cf21]) ?_
  rcases hkn with rfl | ⟨cs, len, full, tok, rfl, hk⟩
  · have hl : l = [] := by
      rcases hi with ⟨-, h⟩ | ⟨full, tok, h⟩
      · exact h
      · cases h
    have hq : eqnilA false false .nils = some (.bool true) := rfl
    simp only [cf21, hq, go_sem, ↓reduceIte, reduceCtorEq, Nat.reduceEqDiff, Nat.reduceAdd, Nat.reduceSub, Nat.reduceMul, Nat.reduceLeDiff, Nat.reduceLT, loadA, rdCells, storeA, setAt, binA]
    exact ⟨by simp, _, rfl, Or.inl ⟨rfl, hl⟩, (fun p hp => by cases hp), Keep.refl S⟩
  · have hq : eqnilA false false (.sl cs len full tok) = some (.bool false) := by
      simp only [eqnilA]
      rw [if_neg (by simp), if_pos hk]
    obtain ⟨v', s1, ha, hm, hf, hk1⟩ := clone_app dgP (s := S) hi hb
    simp only [cf21, hq, go_sem, ↓reduceIte, reduceCtorEq, Nat.reduceEqDiff, Nat.reduceAdd, Nat.reduceSub, Nat.reduceMul, Nat.reduceLeDiff, Nat.reduceLT, loadA, rdCells, storeA, setAt, binA]
    simp only [List.all_nil, List.map_nil, ha, go_sem, ↓reduceIte, reduceCtorEq, Nat.reduceEqDiff, Nat.reduceAdd, Nat.reduceSub, Nat.reduceMul, Nat.reduceLeDiff, Nat.reduceLT, loadA, rdCells, storeA, setAt, binA]
    exact ⟨by simp, _, rfl, hm, fun p hp => hf p _ _ _ hp, hk1⟩

theorem sortT : SortT T xw 33 34 35 36 := ⟨T33, rfl, T34, rfl, T35, rfl, T36, rfl⟩
theorem stableT : T 30 = some (sStb 33 34) := T30

theorem sort_law {v : AV} {l : List Dg} {S : St} (h : MSl dgc 4 S v l) (hb : l.length ≤ 4398046511104) (N : Nat) (hf : ∀ p, v = .msl p 0 l.length 4 → N ≤ p) : WC T xw 22 [v, .func 23 []] S (fun _ S' => MSl dgc 4 S' v (isort dlt l) ∧ S.size ≤ S'.size ∧ ∀ j, j < N → j < S.size → S'.obj j = S.obj j) := by
  refine WC_fn cf22 rfl T22 (by simp [cf22]) ?_
  have hl := h.len
  have hil : (isort dlt l).length = l.length := Go.So.isort_len l
  by_cases h0 : l = []
  · subst h0
    simp only [List.length_nil] at hl
    simp only [cf22, hl, go_sem, ↓reduceIte, reduceCtorEq, Nat.reduceEqDiff, Nat.reduceAdd, Nat.reduceSub, Nat.reduceMul, Nat.reduceLeDiff, Nat.reduceLT, loadA, rdCells, storeA, setAt, binA]
    refine WO_callx [v, .int .i64 0, .func 23 []] (by simp only [go_sem, ↓reduceIte, reduceCtorEq, Nat.reduceEqDiff, Nat.reduceAdd, Nat.reduceSub, Nat.reduceMul, Nat.reduceLeDiff, Nat.reduceLT, loadA, rdCells, storeA, setAt, binA]; trivial) ((stb_none sortT stableT rfl v (.func 23 []) S).mono ?_)
    rintro r s1 rfl
    simp only [go_sem, ↓reduceIte, reduceCtorEq, Nat.reduceEqDiff, Nat.reduceAdd, Nat.reduceSub, Nat.reduceMul, Nat.reduceLeDiff, Nat.reduceLT, loadA, rdCells, storeA, setAt, binA]
    exact ⟨by simp, _, rfl, h, Nat.le_refl _, fun _ _ _ => trivial⟩
  · have hpos : 0 < l.length := by cases l with | nil => exact absurd rfl h0 | cons => simp
    rcases h with ⟨-, h⟩ | ⟨-, h⟩ | ⟨p, rfl, ho, hp⟩
    · exact absurd h h0
    · exact absurd h h0
    · simp only [cf22, hl, go_sem, ↓reduceIte, reduceCtorEq, Nat.reduceEqDiff, Nat.reduceAdd, Nat.reduceSub, Nat.reduceMul, Nat.reduceLeDiff, Nat.reduceLT, loadA, rdCells, storeA, setAt, binA]
      refine WO_callx [.msl p 0 l.length 4, .int .i64 l.length, .func 23 []] (by simp only [go_sem, ↓reduceIte, reduceCtorEq, Nat.reduceEqDiff, Nat.reduceAdd, Nat.reduceSub, Nat.reduceMul, Nat.reduceLeDiff, Nat.reduceLT, loadA, rdCells, storeA, setAt, binA]) ((stb_law sortT stableT rfl dgP dord dcmps l hb hp ho).mono ?_)
      rintro r s1 ⟨h1, k1⟩
      simp only [go_sem, ↓reduceIte, reduceCtorEq, Nat.reduceEqDiff, Nat.reduceAdd, Nat.reduceSub, Nat.reduceMul, Nat.reduceLeDiff, Nat.reduceLT, loadA, rdCells, storeA, setAt, binA]
      refine ⟨by simp, _, rfl, Or.inr (Or.inr ⟨p, by rw [hil], h1, Nat.lt_of_lt_of_le hp k1.1⟩), k1.1, fun j hj hjs => k1.2 j hjs ?_⟩
      have := hf p rfl
      omega
end Go.Am.W1
