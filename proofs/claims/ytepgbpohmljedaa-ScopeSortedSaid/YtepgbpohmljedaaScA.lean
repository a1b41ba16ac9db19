/- Located errors, and how they are compared. Conditions: none. -/
import Derived.Test.YtepgbpohmljedaaAmTw
import Derived.Test.YtepgbpohmljedaaAmSy
import Derived.Test.YtepgbpohmljedaaAmY4
set_option linter.unusedSimpArgs false
set_option linter.unusedVariables false
namespace Go.Am.W1
open Go.So (Ord Srt ins isort)
set_option maxRecDepth 100000
set_option linter.unusedSimpArgs false
attribute [local go_sem] wseq wreg wdreg wret wskip wexit wblock wcnd cnd_t cnd_f then_n then_x then_r catch_n rnd_n rnd_x rnd_r catch_x catch_r wo_nil wo_grd grdO_t grdO_f wo_ops stpO wr_nil wr_alloc wr_guards grdR_t grdR_f wr_ops stpR evAllocs evOp env0_app eput_some eput_none eset_app Opd.ev wantedA faddrA snew_obj snew_size sput_obj sput_size av_cells av_one av_strip av_still unA eqbA fillA fldA lensA mmA mm2 mmFold List.getD_cons_zero List.getD_cons_succ List.getD_nil List.length_cons List.length_nil List.drop_zero List.drop_succ_cons List.take_succ_cons List.take_zero List.map_cons List.map_nil List.set_cons_zero List.set_cons_succ List.all_cons List.all_nil List.getElem?_cons_zero List.getElem?_cons_succ List.nil_append List.cons_append Nat.zero_add Nat.add_zero beq_self_eq_true bt bf Bool.not_true Bool.not_false Bool.and_true Bool.true_and Bool.and_false Bool.false_and and_self and_true true_and n0 n1 n2 n3 n4 m0 m1 m2 m3 c1 retA resAs resA undefA Option.map_some Option.map_none

def xw : Ext := fun _ => none
structure Dg where
  code : Int
  line : Int
  col : Int
  text : ByteArray
def dgc (d : Dg) : List AV := [.int .i64 d.code, .int .i64 d.line, .int .i64 d.col, .str d.text]
theorem dgP : Plain dgc 4 := ⟨fun _ => rfl, fun _ => rfl, fun _ => rfl, fun _ => rfl⟩
def dcmp (x y : Int) : Int := if x < y then -1 else if x > y then 1 else 0
def dor (a b c : Int) : Int := if a ≠ 0 then a else if b ≠ 0 then b else c
def dlt (x y : Dg) : Bool := decide (dor (dcmp x.line y.line) (dcmp x.col y.col) (dcmp x.code y.code) < 0)
theorem dcmp_is (x y : Int) : (x < y ∧ dcmp x y = -1) ∨ (x = y ∧ dcmp x y = 0) ∨ (y < x ∧ dcmp x y = 1) := by
  unfold dcmp
  by_cases h : x < y
  · exact Or.inl ⟨h, by simp [h]⟩
  · by_cases h2 : x > y
    · exact Or.inr (Or.inr ⟨h2, by simp [h, h2]⟩)
    · exact Or.inr (Or.inl ⟨by omega, by simp [h, h2]⟩)
theorem dlt_iff (x y : Dg) : dlt x y = true ↔ x.line < y.line ∨ (x.line = y.line ∧ (x.col < y.col ∨ (x.col = y.col ∧ x.code < y.code))) := by
  simp only [dlt, decide_eq_true_eq]
  rcases dcmp_is x.line y.line with ⟨h1, e1⟩ | ⟨h1, e1⟩ | ⟨h1, e1⟩ <;> rcases dcmp_is x.col y.col with ⟨h2, e2⟩ | ⟨h2, e2⟩ | ⟨h2, e2⟩ <;> rcases dcmp_is x.code y.code with ⟨h3, e3⟩ | ⟨h3, e3⟩ | ⟨h3, e3⟩ <;> rw [e1, e2, e3] <;> simp [dor] <;> omega
theorem dlt_f (x y : Dg) : dlt x y = false ↔ ¬ (x.line < y.line ∨ (x.line = y.line ∧ (x.col < y.col ∨ (x.col = y.col ∧ x.code < y.code)))) := by
  rw [← dlt_iff]; simp
theorem dord : Ord dlt := ⟨fun a b h => by rw [dlt_iff] at h; rw [dlt_f]; omega, fun a b c h1 h2 => by rw [dlt_f] at h1 h2 ⊢; omega⟩

theorem nan_law (x : Int) (S : St) : WC T xw 31 [.int .i64 x] S (fun v S' => v = .bool false ∧ S' = S) := by
  refine WC_fn cf31 rfl T31 (by simp [cf31]) ?_
  have h : (x != x) = false := bne_self_eq_false x
  simp only [cf31, h, go_sem, ↓reduceIte, reduceCtorEq, Nat.reduceEqDiff, Nat.reduceAdd, Nat.reduceSub, Nat.reduceMul, Nat.reduceLeDiff, Nat.reduceLT, loadA, rdCells, storeA, setAt, binA]
  exact ⟨by simp, _, rfl, rfl⟩
theorem nan_law2 (x : Int) (S : St) : WC T xw 32 [.int .i64 x] S (fun v S' => v = .bool false ∧ S' = S) := by
  refine WC_fn cf32 rfl T32 (by simp [cf32]) ?_
  have h : (x != x) = false := bne_self_eq_false x
  simp only [cf32, h, go_sem, ↓reduceIte, reduceCtorEq, Nat.reduceEqDiff, Nat.reduceAdd, Nat.reduceSub, Nat.reduceMul, Nat.reduceLeDiff, Nat.reduceLT, loadA, rdCells, storeA, setAt, binA]
  exact ⟨by simp, _, rfl, rfl⟩
theorem cmp_law (x y : Int) (S : St) : WC T xw 25 [.int .i64 x, .int .i64 y] S (fun v S' => v = .int .i64 (dcmp x y) ∧ S' = S) := by
  refine WC_fn cf25 rfl T25 (by simp [cf25]) ?_
  simp only [cf25, go_sem, ↓reduceIte, reduceCtorEq, Nat.reduceEqDiff, Nat.reduceAdd, Nat.reduceSub, Nat.reduceMul, Nat.reduceLeDiff, Nat.reduceLT, loadA, rdCells, storeA, setAt, binA]
  refine WO_callx [.int .i64 x] (by simp only [go_sem, ↓reduceIte, reduceCtorEq, Nat.reduceEqDiff, Nat.reduceAdd, Nat.reduceSub, Nat.reduceMul, Nat.reduceLeDiff, Nat.reduceLT, loadA, rdCells, storeA, setAt, binA]) ((nan_law x S).mono ?_)
  rintro v s1 ⟨rfl, rfl⟩
  simp only [go_sem, ↓reduceIte, reduceCtorEq, Nat.reduceEqDiff, Nat.reduceAdd, Nat.reduceSub, Nat.reduceMul, Nat.reduceLeDiff, Nat.reduceLT, loadA, rdCells, storeA, setAt, binA]
  refine WO_callx [.int .i64 y] (by simp only [go_sem, ↓reduceIte, reduceCtorEq, Nat.reduceEqDiff, Nat.reduceAdd, Nat.reduceSub, Nat.reduceMul, Nat.reduceLeDiff, Nat.reduceLT, loadA, rdCells, storeA, setAt, binA]) ((nan_law y s1).mono ?_)
  rintro v s2 ⟨rfl, rfl⟩
  simp only [go_sem, ↓reduceIte, reduceCtorEq, Nat.reduceEqDiff, Nat.reduceAdd, Nat.reduceSub, Nat.reduceMul, Nat.reduceLeDiff, Nat.reduceLT, loadA, rdCells, storeA, setAt, binA]
  unfold dcmp
  by_cases h1 : x < y
  · have d1 : decide (x < y) = true := by simp [h1]
    simp only [d1, go_sem, ↓reduceIte, reduceCtorEq, Nat.reduceEqDiff, Nat.reduceAdd, Nat.reduceSub, Nat.reduceMul, Nat.reduceLeDiff, Nat.reduceLT, loadA, rdCells, storeA, setAt, binA]
    exact ⟨by simp, _, rfl, by simp [h1]⟩
  · have d1 : decide (x < y) = false := by simp [h1]
    by_cases h2 : x > y
    · have d2 : decide (x > y) = true := by simp [h2]
      simp only [d1, d2, go_sem, ↓reduceIte, reduceCtorEq, Nat.reduceEqDiff, Nat.reduceAdd, Nat.reduceSub, Nat.reduceMul, Nat.reduceLeDiff, Nat.reduceLT, loadA, rdCells, storeA, setAt, binA]
      exact ⟨by simp, _, rfl, by simp [h1, h2]⟩
    · have d2 : decide (x > y) = false := by simp at h2 ⊢; omega
      simp only [d1, d2, go_sem, ↓reduceIte, reduceCtorEq, Nat.reduceEqDiff, Nat.reduceAdd, Nat.reduceSub, Nat.reduceMul, Nat.reduceLeDiff, Nat.reduceLT, loadA, rdCells, storeA, setAt, binA]
      exact ⟨by simp, _, rfl, by simp [h1, h2]⟩
theorem cmp_law2 (x y : Int) (S : St) : WC T xw 26 [.int .i64 x, .int .i64 y] S (fun v S' => v = .int .i64 (dcmp x y) ∧ S' = S) := by
  refine WC_fn cf26 rfl T26 (by simp [cf26]) ?_
  simp only [cf26, go_sem, ↓reduceIte, reduceCtorEq, Nat.reduceEqDiff, Nat.reduceAdd, Nat.reduceSub, Nat.reduceMul, Nat.reduceLeDiff, Nat.reduceLT, loadA, rdCells, storeA, setAt, binA]
  refine WO_callx [.int .i64 x] (by simp only [go_sem, ↓reduceIte, reduceCtorEq, Nat.reduceEqDiff, Nat.reduceAdd, Nat.reduceSub, Nat.reduceMul, Nat.reduceLeDiff, Nat.reduceLT, loadA, rdCells, storeA, setAt, binA]) ((nan_law2 x S).mono ?_)
  rintro v s1 ⟨rfl, rfl⟩
  simp only [go_sem, ↓reduceIte, reduceCtorEq, Nat.reduceEqDiff, Nat.reduceAdd, Nat.reduceSub, Nat.reduceMul, Nat.reduceLeDiff, Nat.reduceLT, loadA, rdCells, storeA, setAt, binA]
  refine WO_callx [.int .i64 y] (by simp only [go_sem, ↓reduceIte, reduceCtorEq, Nat.reduceEqDiff, Nat.reduceAdd, Nat.reduceSub, Nat.reduceMul, Nat.reduceLeDiff, Nat.reduceLT, loadA, rdCells, storeA, setAt, binA]) ((nan_law2 y s1).mono ?_)
  rintro v s2 ⟨rfl, rfl⟩
  simp only [go_sem, ↓reduceIte, reduceCtorEq, Nat.reduceEqDiff, Nat.reduceAdd, Nat.reduceSub, Nat.reduceMul, Nat.reduceLeDiff, Nat.reduceLT, loadA, rdCells, storeA, setAt, binA]
  unfold dcmp
  by_cases h1 : x < y
  · have d1 : decide (x < y) = true := by simp [h1]
    simp only [d1, go_sem, ↓reduceIte, reduceCtorEq, Nat.reduceEqDiff, Nat.reduceAdd, Nat.reduceSub, Nat.reduceMul, Nat.reduceLeDiff, Nat.reduceLT, loadA, rdCells, storeA, setAt, binA]
    exact ⟨by simp, _, rfl, by simp [h1]⟩
  · have d1 : decide (x < y) = false := by simp [h1]
    by_cases h2 : x > y
    · have d2 : decide (x > y) = true := by simp [h2]
      simp only [d1, d2, go_sem, ↓reduceIte, reduceCtorEq, Nat.reduceEqDiff, Nat.reduceAdd, Nat.reduceSub, Nat.reduceMul, Nat.reduceLeDiff, Nat.reduceLT, loadA, rdCells, storeA, setAt, binA]
      exact ⟨by simp, _, rfl, by simp [h1, h2]⟩
    · have d2 : decide (x > y) = false := by simp at h2 ⊢; omega
      simp only [d1, d2, go_sem, ↓reduceIte, reduceCtorEq, Nat.reduceEqDiff, Nat.reduceAdd, Nat.reduceSub, Nat.reduceMul, Nat.reduceLeDiff, Nat.reduceLT, loadA, rdCells, storeA, setAt, binA]
      exact ⟨by simp, _, rfl, by simp [h1, h2]⟩

def ic (x : Int) : List AV := [.int .i64 x]
theorem ic_len (x : Int) : (ic x).length = 1 := rfl
theorem or_law {v : AV} (a b c : Int) (h : ISl ic v [a, b, c]) (S : St) : WC T xw 24 [v] S (fun r S' => r = .int .i64 (dor a b c) ∧ S' = S) := by
  refine WC_fn cf24 rfl T24 (by simp [cf24]) ?_
  have hl : lenA v = some (.int .i64 (3 : Int)) := h.len
  have a0 : iaddrA 1 v (.int .i64 0) = some (.eptr [.int .i64 a, .int .i64 b, .int .i64 c]) := h.at ic_len (i := 0) rfl
  have a1 : iaddrA 1 v (.int .i64 1) = some (.eptr [.int .i64 b, .int .i64 c]) := h.at ic_len (i := 1) rfl
  have a2 : iaddrA 1 v (.int .i64 2) = some (.eptr [.int .i64 c]) := h.at ic_len (i := 2) rfl
  have w1 : IntKind.i64.wrap (0 + 1) = 1 := rfl
  have w2 : IntKind.i64.wrap (1 + 1) = 2 := rfl
  have w3 : IntKind.i64.wrap (2 + 1) = 3 := rfl
  have l0 : decide ((0 : Int) < 3) = true := rfl
  have l1 : decide ((1 : Int) < 3) = true := rfl
  have l2 : decide ((2 : Int) < 3) = true := rfl
  have l3 : decide ((3 : Int) < 3) = false := rfl
  simp only [cf24, hl, go_sem, ↓reduceIte, reduceCtorEq, Nat.reduceEqDiff, Nat.reduceAdd, Nat.reduceSub, Nat.reduceMul, Nat.reduceLeDiff, Nat.reduceLT, loadA, rdCells, storeA, setAt, binA]
  unfold dor
  refine W_loop_nat (fun k e s => e 3 = .int .i64 0 ∧ e 6 = v ∧ e 7 = .int .i64 3 ∧ s = S ∧ ((k = 3 ∧ e 8 = .int .i64 0) ∨ (k = 2 ∧ e 8 = .int .i64 1 ∧ a = 0) ∨ (k = 1 ∧ e 8 = .int .i64 2 ∧ a = 0 ∧ b = 0) ∨ (k = 0 ∧ e 8 = .int .i64 3 ∧ a = 0 ∧ b = 0 ∧ c = 0))) ?_ 3 _ _
    ⟨by simp only [go_sem, ↓reduceIte, reduceCtorEq, Nat.reduceEqDiff, Nat.reduceAdd, Nat.reduceSub, Nat.reduceMul, Nat.reduceLeDiff, Nat.reduceLT, loadA, rdCells, storeA, setAt, binA], by simp only [go_sem, ↓reduceIte, reduceCtorEq, Nat.reduceEqDiff, Nat.reduceAdd, Nat.reduceSub, Nat.reduceMul, Nat.reduceLeDiff, Nat.reduceLT, loadA, rdCells, storeA, setAt, binA], by simp only [go_sem, ↓reduceIte, reduceCtorEq, Nat.reduceEqDiff, Nat.reduceAdd, Nat.reduceSub, Nat.reduceMul, Nat.reduceLeDiff, Nat.reduceLT, loadA, rdCells, storeA, setAt, binA], rfl, Or.inl ⟨rfl, by simp only [go_sem, ↓reduceIte, reduceCtorEq, Nat.reduceEqDiff, Nat.reduceAdd, Nat.reduceSub, Nat.reduceMul, Nat.reduceLeDiff, Nat.reduceLT, loadA, rdCells, storeA, setAt, binA]⟩⟩
  rintro k e s ⟨e3, e6, e7, rfl, h⟩
  rcases h with ⟨rfl, e8⟩ | ⟨rfl, e8, rfl⟩ | ⟨rfl, e8, rfl, rfl⟩ | ⟨rfl, e8, rfl, rfl, rfl⟩
  · by_cases ha : a = 0
    · have hd : (a != 0) = false := by simp [ha]
      simp only [cf24_l0, e3, e6, e7, e8, a0, l0, w1, hd, go_sem, ↓reduceIte, reduceCtorEq, Nat.reduceEqDiff, Nat.reduceAdd, Nat.reduceSub, Nat.reduceMul, Nat.reduceLeDiff, Nat.reduceLT, loadA, rdCells, storeA, setAt, binA]
      exact ⟨2, by omega, Or.inr (Or.inl ⟨rfl, ha⟩)⟩
    · have hd : (a != 0) = true := by simp [ha]
      simp only [cf24_l0, e3, e6, e7, e8, a0, l0, hd, go_sem, ↓reduceIte, reduceCtorEq, Nat.reduceEqDiff, Nat.reduceAdd, Nat.reduceSub, Nat.reduceMul, Nat.reduceLeDiff, Nat.reduceLT, loadA, rdCells, storeA, setAt, binA]
      exact ⟨by simp, _, rfl, by simp [ha]⟩
  · by_cases ha : b = 0
    · have hd : (b != 0) = false := by simp [ha]
      simp only [cf24_l0, e3, e6, e7, e8, a1, l1, w2, hd, go_sem, ↓reduceIte, reduceCtorEq, Nat.reduceEqDiff, Nat.reduceAdd, Nat.reduceSub, Nat.reduceMul, Nat.reduceLeDiff, Nat.reduceLT, loadA, rdCells, storeA, setAt, binA]
      exact ⟨1, by omega, Or.inr (Or.inr (Or.inl ⟨rfl, ha⟩))⟩
    · have hd : (b != 0) = true := by simp [ha]
      simp only [cf24_l0, e3, e6, e7, e8, a1, l1, hd, go_sem, ↓reduceIte, reduceCtorEq, Nat.reduceEqDiff, Nat.reduceAdd, Nat.reduceSub, Nat.reduceMul, Nat.reduceLeDiff, Nat.reduceLT, loadA, rdCells, storeA, setAt, binA]
      exact ⟨by simp, _, rfl, by simp [ha]⟩
  · by_cases ha : c = 0
    · have hd : (c != 0) = false := by simp [ha]
      simp only [cf24_l0, e3, e6, e7, e8, a2, l2, w3, hd, go_sem, ↓reduceIte, reduceCtorEq, Nat.reduceEqDiff, Nat.reduceAdd, Nat.reduceSub, Nat.reduceMul, Nat.reduceLeDiff, Nat.reduceLT, loadA, rdCells, storeA, setAt, binA]
      exact ⟨0, by omega, Or.inr (Or.inr (Or.inr ⟨rfl, ha⟩))⟩
    · have hd : (c != 0) = true := by simp [ha]
      simp only [cf24_l0, e3, e6, e7, e8, a2, l2, hd, go_sem, ↓reduceIte, reduceCtorEq, Nat.reduceEqDiff, Nat.reduceAdd, Nat.reduceSub, Nat.reduceMul, Nat.reduceLeDiff, Nat.reduceLT, loadA, rdCells, storeA, setAt, binA]
      exact ⟨by simp, _, rfl, by simp⟩
  · simp only [cf24_l0, e3, e6, e7, e8, l3, go_sem, ↓reduceIte, reduceCtorEq, Nat.reduceEqDiff, Nat.reduceAdd, Nat.reduceSub, Nat.reduceMul, Nat.reduceLeDiff, Nat.reduceLT, loadA, rdCells, storeA, setAt, binA]
    exact ⟨by simp, _, rfl, by simp⟩

theorem dcmps : Cmps T xw dgc 23 [] dlt := by
  intro x y S
  refine WC_fn cf23 rfl T23 (by simp [cf23]) ?_
  simp only [cf23, dgc, go_sem, ↓reduceIte, reduceCtorEq, Nat.reduceEqDiff, Nat.reduceAdd, Nat.reduceSub, Nat.reduceMul, Nat.reduceLeDiff, Nat.reduceLT, loadA, rdCells, storeA, setAt, binA]
  refine W_dreg ?_
  simp only [wt_ops, stpT, Tr, go_sem, ↓reduceIte, reduceCtorEq, Nat.reduceEqDiff, Nat.reduceAdd, Nat.reduceSub, Nat.reduceMul, Nat.reduceLeDiff, Nat.reduceLT, loadA, rdCells, storeA, setAt, binA]
  have bq : ∀ n : Int, AV.beq (.int .i64 n) (.int .i64 n) = true := fun n => by simp [AV.beq]
  refine WT_callx [.int .i64 x.line, .int .i64 y.line] (by simp only [go_sem, ↓reduceIte, reduceCtorEq, Nat.reduceEqDiff, Nat.reduceAdd, Nat.reduceSub, Nat.reduceMul, Nat.reduceLeDiff, Nat.reduceLT, loadA, rdCells, storeA, setAt, binA]) ((cmp_law _ _ _).mono ?_)
  rintro v s1 ⟨rfl, rfl⟩
  simp only [wt_ops, stpT, Tr, wt_nil, chk1, go_sem, ↓reduceIte, reduceCtorEq, Nat.reduceEqDiff, Nat.reduceAdd, Nat.reduceSub, Nat.reduceMul, Nat.reduceLeDiff, Nat.reduceLT, loadA, rdCells, storeA, setAt, binA]
  refine WT_callx [.int .i64 x.col, .int .i64 y.col] (by simp only [go_sem, ↓reduceIte, reduceCtorEq, Nat.reduceEqDiff, Nat.reduceAdd, Nat.reduceSub, Nat.reduceMul, Nat.reduceLeDiff, Nat.reduceLT, loadA, rdCells, storeA, setAt, binA]) ((cmp_law _ _ _).mono ?_)
  rintro v s2 ⟨rfl, rfl⟩
  simp only [wt_ops, stpT, Tr, wt_nil, chk1, go_sem, ↓reduceIte, reduceCtorEq, Nat.reduceEqDiff, Nat.reduceAdd, Nat.reduceSub, Nat.reduceMul, Nat.reduceLeDiff, Nat.reduceLT, loadA, rdCells, storeA, setAt, binA]
  refine WT_callx [.int .i64 x.code, .int .i64 y.code] (by simp only [go_sem, ↓reduceIte, reduceCtorEq, Nat.reduceEqDiff, Nat.reduceAdd, Nat.reduceSub, Nat.reduceMul, Nat.reduceLeDiff, Nat.reduceLT, loadA, rdCells, storeA, setAt, binA]) ((cmp_law2 _ _ _).mono ?_)
  rintro v s3 ⟨rfl, rfl⟩
  simp only [wt_ops, stpT, Tr, wt_nil, chk1, go_sem, ↓reduceIte, reduceCtorEq, Nat.reduceEqDiff, Nat.reduceAdd, Nat.reduceSub, Nat.reduceMul, Nat.reduceLeDiff, Nat.reduceLT, loadA, rdCells, storeA, setAt, binA]
  refine WT_callx [.sl [.int .i64 (dcmp x.line y.line), .int .i64 (dcmp x.col y.col), .int .i64 (dcmp x.code y.code)] 3 true none] (by simp only [go_sem, ↓reduceIte, reduceCtorEq, Nat.reduceEqDiff, Nat.reduceAdd, Nat.reduceSub, Nat.reduceMul, Nat.reduceLeDiff, Nat.reduceLT, loadA, rdCells, storeA, setAt, binA]) ((or_law (dcmp x.line y.line) (dcmp x.col y.col) (dcmp x.code y.code) (Or.inr ⟨true, none, rfl⟩) _).mono ?_)
  rintro v s4 ⟨rfl, rfl⟩
  simp only [wt_ops, stpT, Tr, wt_nil, chk1, bq, go_sem, ↓reduceIte, reduceCtorEq, Nat.reduceEqDiff, Nat.reduceAdd, Nat.reduceSub, Nat.reduceMul, Nat.reduceLeDiff, Nat.reduceLT, loadA, rdCells, storeA, setAt, binA]
  exact ⟨rfl, by simp, _, rfl, _, rfl, rfl, ((Keep.refl S).new' _).new' _⟩
end Go.Am.W1
