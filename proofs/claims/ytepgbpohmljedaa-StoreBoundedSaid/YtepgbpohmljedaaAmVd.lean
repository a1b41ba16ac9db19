/- The store: New, Get, Used, Keys. Conditions: none. -/
import Derived.Test.YtepgbpohmljedaaAmVc
set_option linter.unusedSimpArgs false
set_option linter.unusedVariables false
namespace Go.Am.V1
open Go.St (up up_same up_ne Ring)
set_option maxRecDepth 100000
set_option linter.unusedSimpArgs false
attribute [local go_sem] wseq wreg wdreg wret wskip wexit wblock wcnd cnd_t cnd_f then_n then_x then_r catch_n rnd_n rnd_x rnd_r catch_x catch_r wo_nil wo_grd grdO_t grdO_f wo_ops stpO wr_nil wr_alloc wr_guards grdR_t grdR_f wr_ops stpR evAllocs evOp env0_app eput_some eput_none eset_app Opd.ev wantedA faddrA snew_obj snew_size sput_obj sput_size av_cells av_one av_strip av_still unA eqbA fillA fldA lensA mmA mm2 mmFold List.getD_cons_zero List.getD_cons_succ List.getD_nil List.length_cons List.length_nil List.drop_zero List.drop_succ_cons List.take_succ_cons List.take_zero List.map_cons List.map_nil List.set_cons_zero List.set_cons_succ List.all_cons List.all_nil List.getElem?_cons_zero List.getElem?_cons_succ List.nil_append List.cons_append Nat.zero_add Nat.add_zero beq_self_eq_true bt bf Bool.not_true Bool.not_false Bool.and_true Bool.true_and Bool.and_false Bool.false_and and_self and_true true_and n0 n1 n2 n3 n4 m0 m1 m2 m3 c1 retA resAs resA undefA Option.map_some Option.map_none

theorem new_law (room : Nat) (hr : room ≤ 1000) (S : St) : WC T xv 5 [.int .i64 room] S (fun v S' => ∃ q r m ky vl la ol es, v = .tup [.ptr q 0, .int .i64 0] ∧ Sto S' q r m room [] ky vl la ol es ∧ Keep S S') := by
  refine WC_fn cf5 rfl T5 (by simp [cf5]) ?_
  have h1 : decide ((room : Int) < 0) = false := by simp
  have h2 : decide ((room : Int) > 16777216) = false := by simp; omega
  simp only [cf5, wo_mmk, mapv_cells, mapv_one, mapv_strip, mapv_still, go_sem, ↓reduceIte, reduceCtorEq, Nat.reduceEqDiff, Nat.reduceAdd, Nat.reduceSub, Nat.reduceMul, Nat.reduceLeDiff, Nat.reduceLT, loadA, rdCells, storeA, setAt, binA, h1, h2]
  refine ⟨by simp, _, rfl, S.size + 1 + 1, S.size, S.size + 1, fun _ => ⟨#[]⟩, fun _ => ⟨#[]⟩, fun _ => S.size, fun _ => S.size, [], rfl, ⟨?_, ?_, ⟨by simp, by simp [Go.St.Lk]⟩, ?_, by simp, by simp, fun _ _ => rfl, by simp, by simp [tot], hr, by simp [St.new, St.put], by simp [St.new, St.put]⟩, ?_⟩
  · simp [St.new, St.put, tot, stc]
  · intro b hb
    obtain rfl : b = S.size := by simpa using hb
    refine ⟨?_, by simp only [snew_size, sput_size]; omega⟩
    rw [new_ne (by simp only [snew_size, sput_size]; omega), new_ne (by simp only [snew_size, sput_size]; omega), put_eq]
    rfl
  · rw [new_ne (by simp only [snew_size, sput_size]; omega), new_eq (by simp only [snew_size, sput_size])]
  · exact ((((Keep.refl S).new' _).put' (Nat.le_refl _) _).put' (Nat.le_refl _) _).new' _ |>.new' _

theorem used_law {S : St} {q r m room : Nat} {bs : List Nat} {ky vl : Nat → ByteArray} {la ol : Nat → Nat} {es : List (ByteArray × AV)} (h : Sto S q r m room bs ky vl la ol es) :
    WC T xv 9 [.ptr q 0] S (fun v S' => v = .int .i64 (tot ky vl bs) ∧ S' = S) := by
  refine WC_fn cf9 rfl T9 (by simp [cf9]) ?_
  obtain ⟨-, lu, -, -⟩ := stc_lds h.own
  simp only [cf9, go_sem, ↓reduceIte, reduceCtorEq, Nat.reduceEqDiff, Nat.reduceAdd, Nat.reduceSub, Nat.reduceMul, Nat.reduceLeDiff, Nat.reduceLT, binA, lu]
  exact ⟨by simp, _, rfl, rfl⟩

theorem get_law {S : St} {q r m room x : Nat} {l2 : List Nat} {ky vl : Nat → ByteArray} {la ol : Nat → Nat} {es : List (ByteArray × AV)} (h : Sto S q r m room (x :: l2) ky vl la ol es) :
    WC T xv 8 [.ptr q 0, .str (ky x)] S (fun v S' => v = .tup [.str (vl x), .int .i64 0] ∧ (∃ la' ol', Sto S' q r m room (x :: l2) ky vl la' ol' es) ∧ KeepR S S') := by
  refine WC_fn cf8 rfl T8 (by simp [cf8]) ?_
  obtain ⟨-, -, -, lm⟩ := stc_lds h.own
  have hf := h.fits
  have hsm := h.small
  have hkx : (ky x).size ≤ maxKey := by
    simp only [tot, List.map_cons, List.sum_cons] at hf
    simp only [maxKey]; omega
  have hget := h.get x (by simp)
  simp only [cf8, wo_mlk, go_sem, ↓reduceIte, reduceCtorEq, Nat.reduceEqDiff, Nat.reduceAdd, Nat.reduceSub, Nat.reduceMul, Nat.reduceLeDiff, Nat.reduceLT, binA, lm, mapOf, keyA, h.map, hkx, hget, Option.getD_some, eqnilA]
  have hqc := h.qc
  have hmc := h.mc
  have mx : x ∈ r :: x :: l2 := by simp
  obtain ⟨i1, i2⟩ := ring_mem (l1 := []) h.ring
  obtain ⟨-, i4, hring⟩ := h.ring.out (l1 := [])
  have hnd := h.ring.nd
  refine WO_callx [.ptr x 0] (by simp only [go_sem, ↓reduceIte, reduceCtorEq, Nat.reduceEqDiff, Nat.reduceAdd, Nat.reduceSub, Nat.reduceMul, Nat.reduceLeDiff, Nat.reduceLT, loadA, rdCells, storeA, setAt, binA]) ((out_law h.nds mx i1 i2).mono ?_)
  rintro v S1 ⟨n1, k1⟩
  simp only [go_sem, ↓reduceIte, reduceCtorEq, Nat.reduceEqDiff, Nat.reduceAdd, Nat.reduceSub, Nat.reduceMul, Nat.reduceLeDiff, Nat.reduceLT, loadA, rdCells, storeA, setAt, binA]
  have q1 := (k1.2 q hqc).trans h.own
  have m1 := (k1.2 m hmc).trans h.map
  have hxl : x ∉ r :: ([] ++ l2) := by
    simp only [List.nodup_cons, List.mem_cons, not_or, List.nil_append] at hnd ⊢
    exact ⟨fun he => hnd.1.1 he.symm, hnd.2.1⟩
  have hsub : ∀ b, b ∈ r :: ([] ++ l2) → b ∈ r :: x :: l2 := by
    intro b hb; simp only [List.nil_append, List.mem_cons] at hb ⊢; rcases hb with h | h <;> simp [h]
  have hor : up ol (la x) (ol x) r ∈ r :: ([] ++ l2) := by
    cases l2 with
    | nil => rw [hring.alone.1]; simp
    | cons y l => rw [hring.older.1]; simp
  refine WO_callx [.ptr q 0, .ptr x 0] (by simp only [go_sem, ↓reduceIte, reduceCtorEq, Nat.reduceEqDiff, Nat.reduceAdd, Nat.reduceSub, Nat.reduceMul, Nat.reduceLeDiff, Nat.reduceLT, loadA, rdCells, storeA, setAt, binA]) ((front_law q1 (fun hb => hqc (hsub q hb)) (n1.less hsub) hxl (n1 x mx).1 (n1 x mx).2 (by simp) hor).mono ?_)
  rintro v S2 ⟨n2, k2⟩
  obtain ⟨-, lv, -, -⟩ := n2.lds (b := x) (by simp)
  simp only [go_sem, ↓reduceIte, reduceCtorEq, Nat.reduceEqDiff, Nat.reduceAdd, Nat.reduceSub, Nat.reduceMul, Nat.reduceLeDiff, Nat.reduceLT, binA, lv]
  have hsub2 : ∀ b, b ∈ x :: r :: ([] ++ l2) → b ∈ r :: x :: l2 := by
    intro b hb; simp only [List.nil_append, List.mem_cons] at hb ⊢; rcases hb with h | h | h <;> simp [h]
  have hsub3 : ∀ b, b ∈ r :: x :: l2 → b ∈ x :: r :: ([] ++ l2) := by
    intro b hb; simp only [List.nil_append, List.mem_cons] at hb ⊢; rcases hb with h | h | h <;> simp [h]
  refine ⟨by simp, _, rfl, rfl, ⟨_, _, (k2.2 q (fun hb => hqc (hsub2 q hb))).trans q1, n2.less hsub3, hring.front hxl, (k2.2 m (fun hb => hmc (hsub2 m hb))).trans m1, h.nd, h.get, h.non, h.keys, h.fits, h.small, ?_, ?_⟩, ?_⟩
  · rw [k2.1, k1.1]; exact h.ql
  · rw [k2.1, k1.1]; exact h.ml
  · refine ⟨by rw [k2.1, k1.1]; omega, fun j hj => ?_⟩
    by_cases hc : j ∈ r :: x :: l2
    · rw [(h.nds j hc).1] at hj; cases hj
    · rw [k2.2 j (fun hb => hc (hsub2 j hb)), k1.2 j hc]; exact hj

theorem _root_.Go.Am.Keep.trans' {S s s3 : St} (hk : Keep S s) {v : AV} {l : List ByteArray} {t : Option Nat} (hg : Grw strc S.size s v l t) (hz : s3.size = s.size + 1) (h3 : ∀ j, j < s.size → some j ≠ t → s3.obj j = s.obj j) : Keep S s3 := by
  refine ⟨by have := hk.1; omega, fun j hj => (h3 j (Nat.lt_of_lt_of_le hj hk.1) ?_).trans (hk.2 j hj)⟩
  rintro rfl
  rcases hg with ⟨-, -, hg⟩ | ⟨p, hp, -, -, -, -, hN⟩
  · cases hg
  · cases hp; omega
theorem ring_next {la ol : Nat → Nat} {r x : Nat} {A B : List Nat} (h : Ring la ol r (A ++ x :: B)) : ol x = B.headD r := by
  have hl := h.lk
  have e : r :: (A ++ x :: B) ++ [r] = (r :: A) ++ x :: (B ++ [r]) := by simp
  rw [e, Go.St.Lk.split] at hl
  cases B with
  | nil => exact hl.2.1
  | cons y B => exact hl.2.1
theorem ring_first {la ol : Nat → Nat} {r : Nat} {B : List Nat} (h : Ring la ol r B) : ol r = B.headD r := by
  cases B with
  | nil => exact h.alone.1
  | cons y B => exact h.older.1

theorem slc_clip {gv : AV} {l : List ByteArray} (h : ISl strc gv l) : ∃ v, slcA 1 gv none (some (.int .i64 l.length)) (some (.int .i64 l.length)) = some v ∧ ISl strc v l := by
  have hn : natOf l.length (.int .i64 (l.length : Int)) = some l.length := by simp [natOf]
  rcases h with ⟨rfl, rfl⟩ | ⟨full, tok, rfl⟩
  · exact ⟨.nils, by simp [slcA, optOf, natOf], Or.inl ⟨rfl, rfl⟩⟩
  · have hl : (l.flatMap strc).length = l.length := by rw [flat_len strc_len]; omega
    refine ⟨.sl (l.flatMap strc) l.length true none, ?_, Or.inr ⟨_, _, rfl⟩⟩
    simp only [slcA, optOf, hn, hl]
    simp [List.take_of_length_le (Nat.le_of_eq hl)]
theorem clip_law {gv : AV} {l : List ByteArray} (h : ISl strc gv l) (S : St) : WC T xv 19 [gv] S (fun v S' => ISl strc v l ∧ S' = S) := by
  refine WC_fn cf19 rfl T19 (by simp [cf19]) ?_
  obtain ⟨v, hv, hl⟩ := slc_clip h
  simp only [cf19, go_sem, ↓reduceIte, reduceCtorEq, Nat.reduceEqDiff, Nat.reduceAdd, Nat.reduceSub, Nat.reduceMul, Nat.reduceLeDiff, Nat.reduceLT, loadA, rdCells, storeA, setAt, binA, h.len, hv]
  exact ⟨by simp, _, rfl, hl⟩

theorem keys_law {S : St} {q r m room : Nat} {bs : List Nat} {ky vl : Nat → ByteArray} {la ol : Nat → Nat} {es : List (ByteArray × AV)} (h : Sto S q r m room bs ky vl la ol es) (hb : bs.length * 16 ≤ 140737488355328) :
    WC T xv 10 [.ptr q 0] S (fun v S' => ISl strc v (bs.map ky) ∧ Sto S' q r m room bs ky vl la ol es ∧ Keep S S') := by
  refine WC_fn cf10 rfl T10 (by simp [cf10]) ?_
  obtain ⟨-, -, lp, -⟩ := stc_lds h.own
  obtain ⟨-, -, -, lo⟩ := h.nds.lds (b := r) (by simp)
  simp only [cf10, go_sem, ↓reduceIte, reduceCtorEq, Nat.reduceEqDiff, Nat.reduceAdd, Nat.reduceSub, Nat.reduceMul, Nat.reduceLeDiff, Nat.reduceLT, binA, lp, lo]
  refine W_loop_nat (fun k e s => ∃ A B gv t, bs = A ++ B ∧ k = B.length ∧ e 0 = .ptr q 0 ∧ e 3 = gv ∧ e 4 = .ptr (B.headD r) 0 ∧ Grw strc S.size s gv (A.map ky) t ∧ Keep S s) ?_ bs.length _ _
    ⟨[], bs, .nils, none, rfl, rfl, by simp only [go_sem, ↓reduceIte, reduceCtorEq, Nat.reduceEqDiff, Nat.reduceAdd, Nat.reduceSub, Nat.reduceMul, Nat.reduceLeDiff, Nat.reduceLT, loadA, rdCells, storeA, setAt, binA], by simp only [go_sem, ↓reduceIte, reduceCtorEq, Nat.reduceEqDiff, Nat.reduceAdd, Nat.reduceSub, Nat.reduceMul, Nat.reduceLeDiff, Nat.reduceLT, loadA, rdCells, storeA, setAt, binA], by simp only [go_sem, ↓reduceIte, reduceCtorEq, Nat.reduceEqDiff, Nat.reduceAdd, Nat.reduceSub, Nat.reduceMul, Nat.reduceLeDiff, Nat.reduceLT, loadA, rdCells, storeA, setAt, binA, ring_first h.ring], Or.inl ⟨rfl, rfl, rfl⟩, Keep.refl S⟩
  rintro k e s ⟨A, B, gv, t, hAB, rfl, e0, e3, e4, hg, hk⟩
  have h2 : Sto s q r m room bs ky vl la ol es := h.of hk.1 fun j hj _ => hk.2 j hj
  obtain ⟨-, -, lp2, -⟩ := stc_lds h2.own
  have or := (h2.nds r (by simp)).1
  cases B with
  | nil =>
    have hp : eqpA true s (.ptr r 0) (.ptr r 0) = some (.bool false) := by simp [eqpA, or]
    simp only [List.headD_nil] at e4
    simp only [cf10_l0, wo_eqp, e0, e3, e4, go_sem, ↓reduceIte, reduceCtorEq, Nat.reduceEqDiff, Nat.reduceAdd, Nat.reduceSub, Nat.reduceMul, Nat.reduceLeDiff, Nat.reduceLT, binA, lp2, hp]
    rw [List.append_nil] at hAB
    subst hAB
    refine WO_callx [gv] (by simp only [go_sem, ↓reduceIte, reduceCtorEq, Nat.reduceEqDiff, Nat.reduceAdd, Nat.reduceSub, Nat.reduceMul, Nat.reduceLeDiff, Nat.reduceLT, loadA, rdCells, storeA, setAt, binA]) ((clip_law hg.isl s).mono ?_)
    rintro v s1 ⟨hv, rfl⟩
    simp only [go_sem, ↓reduceIte, reduceCtorEq, Nat.reduceEqDiff, Nat.reduceAdd, Nat.reduceSub, Nat.reduceMul, Nat.reduceLeDiff, Nat.reduceLT, loadA, rdCells, storeA, setAt, binA]
    exact ⟨by simp, _, rfl, hv, h2, hk⟩
  | cons x B =>
    have mx : x ∈ r :: bs := by rw [hAB]; simp
    have ox := (h2.nds x mx).1
    have hne : x ≠ r := by
      have := h2.ring.nd
      simp only [List.nodup_cons] at this
      rintro rfl; exact this.1 (by rw [hAB]; simp)
    have hp : eqpA true s (.ptr x 0) (.ptr r 0) = some (.bool true) := by simp [eqpA, or, ox, hne]
    obtain ⟨lk, -, -, -⟩ := h2.nds.lds mx
    have hAl : (A.map ky).length + 1 ≤ bs.length := by rw [hAB]; simp
    obtain ⟨gv', s3, ha, hg3, hz3, hk3⟩ := hg.app strcP hk.1 (ky x) (bytes := 16) (by omega)
    have ha' : appendA s false 1 16 gv (.sl [.str (ky x)] 1 true none) = some (gv', s3) := ha
    have hks3 : Keep S s3 := hk.trans' hg hz3 hk3
    have h3 : Sto s3 q r m room bs ky vl la ol es := h.of hks3.1 fun j hj _ => hks3.2 j hj
    obtain ⟨-, -, -, lo3⟩ := h3.nds.lds mx
    have hnx : ol x = B.headD r := ring_next (by rw [← hAB]; exact h.ring)
    simp only [List.headD_cons] at e4
    simp only [cf10_l0, wo_eqp, e0, e3, e4, go_sem, ↓reduceIte, reduceCtorEq, Nat.reduceEqDiff, Nat.reduceAdd, Nat.reduceSub, Nat.reduceMul, Nat.reduceLeDiff, Nat.reduceLT, binA, setAt, lp2, hp, lk, ha', lo3]
    exact ⟨B.length, by simp, A ++ [x], B, gv', _, by simp [hAB], rfl, rfl, hnx ▸ rfl, by simpa using hg3, hks3⟩
end Go.Am.V1
