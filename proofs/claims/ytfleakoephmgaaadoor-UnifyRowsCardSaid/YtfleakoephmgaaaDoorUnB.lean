/- Types in the machine: variables, Contains, Free. Conditions: none. -/
import Derived.Test.YtfleakoephmgaaaDoorAmTu
import Derived.Test.YtfleakoephmgaaaDoorAmSq
import Derived.Test.YtfleakoephmgaaaDoorAmWa
import Derived.Test.YtfleakoephmgaaaDoorAmYg
import Derived.Test.YtfleakoephmgaaaDoorUnA
set_option linter.unusedSimpArgs false
set_option linter.unusedVariables false
namespace Go.Am.U1
open Go.Am.Un
set_option maxRecDepth 100000
set_option linter.unusedSimpArgs false
attribute [local go_sem] wseq COp.isStore wreg wdreg wret wskip wexit wblock wcnd cnd_t cnd_f then_n then_x then_r catch_n rnd_n rnd_x rnd_r catch_x catch_r wo_nil wo_grd grdO_t grdO_f wo_ops stpO wr_nil wr_alloc wr_guards grdR_t grdR_f wr_ops stpR evAllocs evOp env0_app eput_some eput_none eset_app Opd.ev wantedA faddrA snew_obj snew_size sput_obj sput_size av_cells av_one av_strip av_still unA eqbA fillA fldA lensA mmA mm2 mmFold List.getD_cons_zero List.getD_cons_succ List.getD_nil List.length_cons List.length_nil List.drop_zero List.drop_succ_cons List.take_succ_cons List.take_zero List.map_cons List.map_nil List.set_cons_zero List.set_cons_succ List.all_cons List.all_nil List.getElem?_cons_zero List.getElem?_cons_succ List.nil_append List.cons_append Nat.zero_add Nat.add_zero beq_self_eq_true bt bf Bool.not_true Bool.not_false Bool.and_true Bool.true_and Bool.and_false Bool.false_and and_self and_true true_and n0 n1 n2 n3 n4 m0 m1 m2 m3 c1 retA resAs resA undefA Option.map_some Option.map_none

/-- Nothing is told but what a type's normal form is. -/
def NoX (X : Ext) : Prop := ∀ f, f ≠ 24 → X f = none

theorem tycP : Plain tyc 4 where
  len := tyc_len
  one := fun t => by cases t; rw [tyc]; rfl
  still := fun t => by cases t; rw [tyc]; rfl
  strip := fun t => by cases t; rw [tyc]; rfl
def ic (x : Int) : List AV := [.int .i64 x]
theorem ic_len (x : Int) : (ic x).length = 1 := rfl
theorem icP : Plain ic 1 := ⟨ic_len, fun _ => rfl, fun _ => rfl, fun _ => rfl⟩

theorem isl_tycs (l : List Tm) : ISl tyc (.sl (tycs l) l.length false none) l := Or.inr ⟨false, none, by rw [tycs_flat]⟩
theorem wrapn {n : Nat} (h : n ≤ 4398046511104) : IntKind.i64.wrap ((n : Int) + 1) = ((n + 1 : Nat) : Int) := by rw [IntKind.wrap_i64]; omega
theorem drop_at {α : Type} {l : List α} {i : Nat} {x : α} (hx : l[i]? = some x) : l.drop i = x :: l.drop (i + 1) := by
  obtain ⟨hi, hl⟩ := List.getElem?_eq_some_iff.1 hx
  rw [List.drop_eq_getElem_cons hi, hl]

/-- A type's cells, whose arguments are this slice. -/
def tyw (t : Tm) (w : AV) : List AV := [.int .i64 (kof t), .str (nof t), .int .i64 (vof t), w]
theorem tyc_w (t : Tm) : tyc t = tyw t (.sl (tycs (lof t)) (lof t).length false none) := by cases t; rw [tyc]; rfl

variable {X : Ext}

theorem var_law (hX : NoX X) (n : Int) (s : St) : WC T X 68 [.int .i64 n] s (fun v s' => v = .agg [.int .i64 0, .str ⟨#[]⟩, .int .i64 n, .sl [] 0 false none] ∧ Keep s s') := by
  refine WC_fn cf68 (hX 68 (by decide)) T68 (by simp [cf68]) ?_
  simp only [cf68, go_sem, ↓reduceIte, reduceCtorEq, Nat.reduceEqDiff, Nat.reduceAdd, Nat.reduceSub, Nat.reduceMul, Nat.reduceLeDiff, Nat.reduceLT, loadA, rdCells, storeA, setAt, binA]
  exact ⟨by simp, _, rfl, rfl, ((Keep.refl s).new' _).put' (Nat.le_refl _) _⟩

theorem index_int (hX : NoX X) {v : AV} {l : List Int} (h : ISl ic v l) (hb : l.length ≤ 4398046511104) (x : Int) (s : St) :
    WC T X 70 [v, .int .i64 x] s (fun r s' => (∃ m : Int, r = .int .i64 m ∧ decide (m ≥ 0) = l.contains x) ∧ s' = s) := by
  refine WC_fn cf70 (hX 70 (by decide)) T70 (by simp [cf70]) ?_
  have hlen := h.len
  simp only [cf70, hlen, go_sem, ↓reduceIte, reduceCtorEq, Nat.reduceEqDiff, Nat.reduceAdd, Nat.reduceSub, Nat.reduceMul, Nat.reduceLeDiff, Nat.reduceLT, loadA, rdCells, storeA, setAt, binA]
  refine W_loop_nat (fun k e s1 => ∃ i, i + k = l.length ∧ e 0 = v ∧ e 1 = .int .i64 x ∧ e 7 = .int .i64 l.length ∧ e 8 = .int .i64 i ∧ l.contains x = (l.drop i).contains x ∧ s1 = s) ?_ l.length _ _ ⟨0, by simp, ?_⟩
  · rintro k e s1 ⟨i, hik, h0, h1, h7, h8, hf, rfl⟩
    by_cases hi : i < l.length
    · obtain ⟨y, hy⟩ : ∃ x, l[i]? = some x := ⟨_, List.getElem?_eq_getElem hi⟩
      have hd : decide ((i : Int) < (l.length : Int)) = true := by simp; omega
      simp only [cf70_l0, h0, h1, h7, h8, hd, h.at ic_len hy, ic, Nat.le_add_left, go_sem, ↓reduceIte, reduceCtorEq, Nat.reduceEqDiff, Nat.reduceAdd, Nat.reduceSub, Nat.reduceMul, Nat.reduceLeDiff, Nat.reduceLT, loadA, rdCells, storeA, setAt, binA]
      cases hp : (x == y) <;> simp only [h0, h1, h7, h8, wrapn (n := i) (by omega), go_sem, ↓reduceIte, reduceCtorEq, Nat.reduceEqDiff, Nat.reduceAdd, Nat.reduceSub, Nat.reduceMul, Nat.reduceLeDiff, Nat.reduceLT, loadA, rdCells, storeA, setAt, binA]
      · exact ⟨k - 1, by omega, i + 1, by omega, rfl, by rw [hf, drop_at hy, List.contains_cons, hp, Bool.false_or]⟩
      · exact ⟨by simp, _, rfl, (i : Int), rfl, by rw [hf, drop_at hy, List.contains_cons, hp, Bool.true_or]; simp⟩
    · have hd : decide ((i : Int) < (l.length : Int)) = false := by simp; omega
      simp only [cf70_l0, h0, h1, h7, h8, hd, go_sem, ↓reduceIte, reduceCtorEq, Nat.reduceEqDiff, Nat.reduceAdd, Nat.reduceSub, Nat.reduceMul, Nat.reduceLeDiff, Nat.reduceLT, loadA, rdCells, storeA, setAt, binA]
      exact ⟨by simp, _, rfl, -1, rfl, by rw [hf, List.drop_eq_nil_of_le (by omega)]; rfl⟩
  · simp only [go_sem, ↓reduceIte, reduceCtorEq, Nat.reduceEqDiff, Nat.reduceAdd, Nat.reduceSub, Nat.reduceMul, Nat.reduceLeDiff, Nat.reduceLT, loadA, rdCells, storeA, setAt, binA]; rfl

theorem contains_int (hX : NoX X) {v : AV} {l : List Int} (h : ISl ic v l) (hb : l.length ≤ 4398046511104) (x : Int) (s : St) :
    WC T X 49 [v, .int .i64 x] s (fun r s' => r = .bool (l.contains x) ∧ s' = s) := by
  refine WC_fn cf49 (hX 49 (by decide)) T49 (by simp [cf49]) ?_
  simp only [cf49, go_sem, ↓reduceIte, reduceCtorEq, Nat.reduceEqDiff, Nat.reduceAdd, Nat.reduceSub, Nat.reduceMul, Nat.reduceLeDiff, Nat.reduceLT, loadA, rdCells, storeA, setAt, binA]
  refine WO_callx [v, .int .i64 x] (by simp only [go_sem, ↓reduceIte, reduceCtorEq, Nat.reduceEqDiff, Nat.reduceAdd, Nat.reduceSub, Nat.reduceMul, Nat.reduceLeDiff, Nat.reduceLT, loadA, rdCells, storeA, setAt, binA]) ((index_int hX h hb x s).mono ?_)
  rintro r s2 ⟨⟨m, rfl, hm⟩, rfl⟩
  simp only [go_sem, ↓reduceIte, reduceCtorEq, Nat.reduceEqDiff, Nat.reduceAdd, Nat.reduceSub, Nat.reduceMul, Nat.reduceLeDiff, Nat.reduceLT, loadA, rdCells, storeA, setAt, binA]
  exact ⟨by simp, _, rfl, by rw [hm]⟩
end Go.Am.U1
