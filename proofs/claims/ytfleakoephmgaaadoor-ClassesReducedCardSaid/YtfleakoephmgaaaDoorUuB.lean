/- Strings in the machine, and rows of labels. Conditions: none. -/
import Derived.Test.YtfleakoephmgaaaDoorUoM
import Derived.Test.YtfleakoephmgaaaDoorAmW
set_option linter.unusedSimpArgs false
set_option linter.unusedVariables false
namespace Go.Am.U2
open Go.Am.Un
open Go.Am.U1 (drop_at tyw tyc_w NoX vtm vtm_c isl_tycs ne_a ne_b ne_c ne_d ne_e ne_f)
set_option maxRecDepth 100000
set_option linter.unusedSimpArgs false
attribute [local go_sem] wseq COp.isStore wreg wdreg wret wskip wexit wblock wcnd cnd_t cnd_f then_n then_x then_r catch_n rnd_n rnd_x rnd_r catch_x catch_r wo_nil wo_grd grdO_t grdO_f wo_ops stpO wr_nil wr_alloc wr_guards grdR_t grdR_f wr_ops stpR evAllocs evOp env0_app eput_some eput_none eset_app Opd.ev wantedA faddrA snew_obj snew_size sput_obj sput_size av_cells av_one av_strip av_still unA eqbA fillA fldA lensA mmA mm2 mmFold List.getD_cons_zero List.getD_cons_succ List.getD_nil List.length_cons List.length_nil List.drop_zero List.drop_succ_cons List.take_succ_cons List.take_zero List.map_cons List.map_nil List.set_cons_zero List.set_cons_succ List.all_cons List.all_nil List.getElem?_cons_zero List.getElem?_cons_succ List.nil_append List.cons_append Nat.zero_add Nat.add_zero beq_self_eq_true bt bf Bool.not_true Bool.not_false Bool.and_true Bool.true_and Bool.and_false Bool.false_and and_self and_true true_and n0 n1 n2 n3 n4 m0 m1 m2 m3 c1 retA resAs resA undefA Option.map_some Option.map_none
variable {X : Ext}

def sc (b : ByteArray) : List AV := [.str b]
theorem sc_len (b : ByteArray) : (sc b).length = 1 := rfl
end Go.Am.U2

/- Contains at classes, strings, instances and requirements; Find. Conditions: none. -/
namespace Go.Am.U3
open Go.Am.Un Go.So
open Go.Am.U1 (NoX drop_at ne_a ne_b ne_c ne_d avr tyw tyc_w tycP isl_tycs)
set_option maxRecDepth 100000
set_option linter.unusedSimpArgs false
attribute [local go_sem] wseq COp.isStore wreg wdreg wret wskip wexit wblock wcnd cnd_t cnd_f then_n then_x then_r catch_n rnd_n rnd_x rnd_r catch_x catch_r wo_nil wo_grd grdO_t grdO_f wo_ops stpO wr_nil wr_alloc wr_guards grdR_t grdR_f wr_ops stpR evAllocs evOp env0_app eput_some eput_none eset_app Opd.ev wantedA faddrA snew_obj snew_size sput_obj sput_size av_cells av_one av_strip av_still unA eqbA fillA fldA lensA mmA mm2 mmFold List.getD_cons_zero List.getD_cons_succ List.getD_nil List.length_cons List.length_nil List.drop_zero List.drop_succ_cons List.take_succ_cons List.take_zero List.map_cons List.map_nil List.set_cons_zero List.set_cons_succ List.all_cons List.all_nil List.getElem?_cons_zero List.getElem?_cons_succ List.nil_append List.cons_append Nat.zero_add Nat.add_zero beq_self_eq_true bt bf Bool.not_true Bool.not_false Bool.and_true Bool.true_and Bool.and_false Bool.false_and and_self and_true true_and n0 n1 n2 n3 n4 m0 m1 m2 m3 c1 retA resAs resA undefA Option.map_some Option.map_none
variable {X : Ext}

theorem index_cl (hX : NoX X) {v : AV} {l : List Cl} (h : ISl clc v l) (hb : l.length ≤ 8796093022208) (g : Nat) (cap : List AV) (p : Cl → Bool) (s : St)
    (hg : ∀ x s1, x ∈ l → Keep s s1 → WC T X g ((.agg (clc x)) :: cap) s1 (fun v s2 => v = .bool (p x) ∧ Keep s1 s2)) :
    WC T X 101 [v, .func g cap] s (fun v s' => (∃ m : Int, v = .int .i64 m ∧ decide (m ≥ 0) = l.any p) ∧ Keep s s') := by
  refine WC_fn cf101 (hX 101 (by decide)) T101 (by simp [cf101]) ?_
  have hlen := h.len
  simp only [cf101, hlen, go_sem, ↓reduceIte, reduceCtorEq, Nat.reduceEqDiff, Nat.reduceAdd, Nat.reduceSub, Nat.reduceMul, Nat.reduceLeDiff, Nat.reduceLT, loadA, rdCells, storeA, setAt, binA]
  refine W_loop_nat (fun k e s1 => ∃ i, i + k = l.length ∧ e 0 = v ∧ e 1 = .func g cap ∧ e 7 = .int .i64 l.length ∧ e 8 = .int .i64 i ∧ l.any p = (l.drop i).any p ∧ Keep s s1) ?_ l.length _ _ ⟨0, by simp, ?_⟩
  · rintro k e s1 ⟨i, hik, h0, h1, h7, h8, hf, hk⟩
    by_cases hi : i < l.length
    · obtain ⟨x, hx⟩ : ∃ x, l[i]? = some x := ⟨_, List.getElem?_eq_getElem hi⟩
      have hd : decide ((i : Int) < (l.length : Int)) = true := by simp; omega
      have hat := h.at clcP.len hx
      have hgx := hg x s1 (List.mem_of_getElem? hx) hk
      simp only [clc, List.cons_append, List.nil_append] at hat hgx
      simp only [cf101_l0, h0, h1, h7, h8, hd, hat, Nat.le_add_left, go_sem, ↓reduceIte, reduceCtorEq, Nat.reduceEqDiff, Nat.reduceAdd, Nat.reduceSub, Nat.reduceMul, Nat.reduceLeDiff, Nat.reduceLT, loadA, rdCells, storeA, setAt, binA]
      refine WO_callvx g cap _ (by simp only [h0, h1, go_sem, ↓reduceIte, reduceCtorEq, Nat.reduceEqDiff, Nat.reduceAdd, Nat.reduceSub, Nat.reduceMul, Nat.reduceLeDiff, Nat.reduceLT, loadA, rdCells, storeA, setAt, binA]) rfl ((by simpa only [go_sem, ↓reduceIte, reduceCtorEq, Nat.reduceEqDiff, Nat.reduceAdd, Nat.reduceSub, Nat.reduceMul, Nat.reduceLeDiff, Nat.reduceLT, loadA, rdCells, storeA, setAt, binA] using hgx : WC T X g _ s1 _).mono ?_)
      rintro w s2 ⟨rfl, hk2⟩
      cases hp : p x <;> simp only [h0, h1, h7, h8, wrapc (n := i) (by omega), go_sem, ↓reduceIte, reduceCtorEq, Nat.reduceEqDiff, Nat.reduceAdd, Nat.reduceSub, Nat.reduceMul, Nat.reduceLeDiff, Nat.reduceLT, loadA, rdCells, storeA, setAt, binA]
      · exact ⟨k - 1, by omega, i + 1, by omega, rfl, by rw [hf, drop_at hx, List.any_cons, hp, Bool.false_or], hk.trans hk2⟩
      · exact ⟨by simp, _, rfl, ⟨(i : Int), rfl, by rw [hf, drop_at hx, List.any_cons, hp, Bool.true_or]; simp⟩, hk.trans hk2⟩
    · have hd : decide ((i : Int) < (l.length : Int)) = false := by simp; omega
      simp only [cf101_l0, h0, h1, h7, h8, hd, go_sem, ↓reduceIte, reduceCtorEq, Nat.reduceEqDiff, Nat.reduceAdd, Nat.reduceSub, Nat.reduceMul, Nat.reduceLeDiff, Nat.reduceLT, loadA, rdCells, storeA, setAt, binA]
      exact ⟨by simp, _, rfl, ⟨-1, rfl, by rw [hf, List.drop_eq_nil_of_le (by omega)]; rfl⟩, hk⟩
  · simp only [go_sem, ↓reduceIte, reduceCtorEq, Nat.reduceEqDiff, Nat.reduceAdd, Nat.reduceSub, Nat.reduceMul, Nat.reduceLeDiff, Nat.reduceLT, loadA, rdCells, storeA, setAt, binA]
    exact ⟨rfl, Keep.refl s⟩
theorem has_cl (hX : NoX X) {v : AV} {l : List Cl} (h : ISl clc v l) (hb : l.length ≤ 8796093022208) (g : Nat) (cap : List AV) (p : Cl → Bool) (s : St)
    (hg : ∀ x s1, x ∈ l → Keep s s1 → WC T X g ((.agg (clc x)) :: cap) s1 (fun v s2 => v = .bool (p x) ∧ Keep s1 s2)) :
    WC T X 90 [v, .func g cap] s (fun v s' => v = .bool (l.any p) ∧ Keep s s') := by
  refine WC_fn cf90 (hX 90 (by decide)) T90 (by simp [cf90]) ?_
  simp only [cf90, go_sem, ↓reduceIte, reduceCtorEq, Nat.reduceEqDiff, Nat.reduceAdd, Nat.reduceSub, Nat.reduceMul, Nat.reduceLeDiff, Nat.reduceLT, loadA, rdCells, storeA, setAt, binA]
  refine WO_callx [v, .func g cap] (by simp only [go_sem, ↓reduceIte, reduceCtorEq, Nat.reduceEqDiff, Nat.reduceAdd, Nat.reduceSub, Nat.reduceMul, Nat.reduceLeDiff, Nat.reduceLT, loadA, rdCells, storeA, setAt, binA]) ((index_cl hX h hb g cap p s hg).mono ?_)
  rintro w s2 ⟨⟨m, rfl, hm⟩, hk⟩
  simp only [go_sem, ↓reduceIte, reduceCtorEq, Nat.reduceEqDiff, Nat.reduceAdd, Nat.reduceSub, Nat.reduceMul, Nat.reduceLeDiff, Nat.reduceLT, loadA, rdCells, storeA, setAt, binA]
  exact ⟨by simp, _, rfl, by rw [hm], hk⟩

theorem index_st (hX : NoX X) {v : AV} {l : List ByteArray} (h : ISl scc v l) (hb : l.length ≤ 8796093022208) (g : Nat) (cap : List AV) (p : ByteArray → Bool) (s : St)
    (hg : ∀ x s1, x ∈ l → Keep s s1 → WC T X g ((.str x) :: cap) s1 (fun v s2 => v = .bool (p x) ∧ Keep s1 s2)) :
    WC T X 102 [v, .func g cap] s (fun v s' => (∃ m : Int, v = .int .i64 m ∧ decide (m ≥ 0) = l.any p) ∧ Keep s s') := by
  refine WC_fn cf102 (hX 102 (by decide)) T102 (by simp [cf102]) ?_
  have hlen := h.len
  simp only [cf102, hlen, go_sem, ↓reduceIte, reduceCtorEq, Nat.reduceEqDiff, Nat.reduceAdd, Nat.reduceSub, Nat.reduceMul, Nat.reduceLeDiff, Nat.reduceLT, loadA, rdCells, storeA, setAt, binA]
  refine W_loop_nat (fun k e s1 => ∃ i, i + k = l.length ∧ e 0 = v ∧ e 1 = .func g cap ∧ e 7 = .int .i64 l.length ∧ e 8 = .int .i64 i ∧ l.any p = (l.drop i).any p ∧ Keep s s1) ?_ l.length _ _ ⟨0, by simp, ?_⟩
  · rintro k e s1 ⟨i, hik, h0, h1, h7, h8, hf, hk⟩
    by_cases hi : i < l.length
    · obtain ⟨x, hx⟩ : ∃ x, l[i]? = some x := ⟨_, List.getElem?_eq_getElem hi⟩
      have hd : decide ((i : Int) < (l.length : Int)) = true := by simp; omega
      have hat := h.at sccP.len hx
      have hgx := hg x s1 (List.mem_of_getElem? hx) hk
      simp only [scc, List.cons_append, List.nil_append] at hat hgx
      simp only [cf102_l0, h0, h1, h7, h8, hd, hat, Nat.le_add_left, go_sem, ↓reduceIte, reduceCtorEq, Nat.reduceEqDiff, Nat.reduceAdd, Nat.reduceSub, Nat.reduceMul, Nat.reduceLeDiff, Nat.reduceLT, loadA, rdCells, storeA, setAt, binA]
      refine WO_callvx g cap _ (by simp only [h0, h1, go_sem, ↓reduceIte, reduceCtorEq, Nat.reduceEqDiff, Nat.reduceAdd, Nat.reduceSub, Nat.reduceMul, Nat.reduceLeDiff, Nat.reduceLT, loadA, rdCells, storeA, setAt, binA]) rfl ((by simpa only [go_sem, ↓reduceIte, reduceCtorEq, Nat.reduceEqDiff, Nat.reduceAdd, Nat.reduceSub, Nat.reduceMul, Nat.reduceLeDiff, Nat.reduceLT, loadA, rdCells, storeA, setAt, binA] using hgx : WC T X g _ s1 _).mono ?_)
      rintro w s2 ⟨rfl, hk2⟩
      cases hp : p x <;> simp only [h0, h1, h7, h8, wrapc (n := i) (by omega), go_sem, ↓reduceIte, reduceCtorEq, Nat.reduceEqDiff, Nat.reduceAdd, Nat.reduceSub, Nat.reduceMul, Nat.reduceLeDiff, Nat.reduceLT, loadA, rdCells, storeA, setAt, binA]
      · exact ⟨k - 1, by omega, i + 1, by omega, rfl, by rw [hf, drop_at hx, List.any_cons, hp, Bool.false_or], hk.trans hk2⟩
      · exact ⟨by simp, _, rfl, ⟨(i : Int), rfl, by rw [hf, drop_at hx, List.any_cons, hp, Bool.true_or]; simp⟩, hk.trans hk2⟩
    · have hd : decide ((i : Int) < (l.length : Int)) = false := by simp; omega
      simp only [cf102_l0, h0, h1, h7, h8, hd, go_sem, ↓reduceIte, reduceCtorEq, Nat.reduceEqDiff, Nat.reduceAdd, Nat.reduceSub, Nat.reduceMul, Nat.reduceLeDiff, Nat.reduceLT, loadA, rdCells, storeA, setAt, binA]
      exact ⟨by simp, _, rfl, ⟨-1, rfl, by rw [hf, List.drop_eq_nil_of_le (by omega)]; rfl⟩, hk⟩
  · simp only [go_sem, ↓reduceIte, reduceCtorEq, Nat.reduceEqDiff, Nat.reduceAdd, Nat.reduceSub, Nat.reduceMul, Nat.reduceLeDiff, Nat.reduceLT, loadA, rdCells, storeA, setAt, binA]
    exact ⟨rfl, Keep.refl s⟩
theorem has_st (hX : NoX X) {v : AV} {l : List ByteArray} (h : ISl scc v l) (hb : l.length ≤ 8796093022208) (g : Nat) (cap : List AV) (p : ByteArray → Bool) (s : St)
    (hg : ∀ x s1, x ∈ l → Keep s s1 → WC T X g ((.str x) :: cap) s1 (fun v s2 => v = .bool (p x) ∧ Keep s1 s2)) :
    WC T X 92 [v, .func g cap] s (fun v s' => v = .bool (l.any p) ∧ Keep s s') := by
  refine WC_fn cf92 (hX 92 (by decide)) T92 (by simp [cf92]) ?_
  simp only [cf92, go_sem, ↓reduceIte, reduceCtorEq, Nat.reduceEqDiff, Nat.reduceAdd, Nat.reduceSub, Nat.reduceMul, Nat.reduceLeDiff, Nat.reduceLT, loadA, rdCells, storeA, setAt, binA]
  refine WO_callx [v, .func g cap] (by simp only [go_sem, ↓reduceIte, reduceCtorEq, Nat.reduceEqDiff, Nat.reduceAdd, Nat.reduceSub, Nat.reduceMul, Nat.reduceLeDiff, Nat.reduceLT, loadA, rdCells, storeA, setAt, binA]) ((index_st hX h hb g cap p s hg).mono ?_)
  rintro w s2 ⟨⟨m, rfl, hm⟩, hk⟩
  simp only [go_sem, ↓reduceIte, reduceCtorEq, Nat.reduceEqDiff, Nat.reduceAdd, Nat.reduceSub, Nat.reduceMul, Nat.reduceLeDiff, Nat.reduceLT, loadA, rdCells, storeA, setAt, binA]
  exact ⟨by simp, _, rfl, by rw [hm], hk⟩

theorem index_in (hX : NoX X) {v : AV} {l : List In} (h : ISl inc v l) (hb : l.length ≤ 8796093022208) (g : Nat) (cap : List AV) (p : In → Bool) (s : St)
    (hg : ∀ x s1, x ∈ l → Keep s s1 → WC T X g ((.agg (inc x)) :: cap) s1 (fun v s2 => v = .bool (p x) ∧ Keep s1 s2)) :
    WC T X 95 [v, .func g cap] s (fun v s' => (∃ m : Int, v = .int .i64 m ∧ decide (m ≥ 0) = l.any p) ∧ Keep s s') := by
  refine WC_fn cf95 (hX 95 (by decide)) T95 (by simp [cf95]) ?_
  have hlen := h.len
  simp only [cf95, hlen, go_sem, ↓reduceIte, reduceCtorEq, Nat.reduceEqDiff, Nat.reduceAdd, Nat.reduceSub, Nat.reduceMul, Nat.reduceLeDiff, Nat.reduceLT, loadA, rdCells, storeA, setAt, binA]
  refine W_loop_nat (fun k e s1 => ∃ i, i + k = l.length ∧ e 0 = v ∧ e 1 = .func g cap ∧ e 7 = .int .i64 l.length ∧ e 8 = .int .i64 i ∧ l.any p = (l.drop i).any p ∧ Keep s s1) ?_ l.length _ _ ⟨0, by simp, ?_⟩
  · rintro k e s1 ⟨i, hik, h0, h1, h7, h8, hf, hk⟩
    by_cases hi : i < l.length
    · obtain ⟨x, hx⟩ : ∃ x, l[i]? = some x := ⟨_, List.getElem?_eq_getElem hi⟩
      have hd : decide ((i : Int) < (l.length : Int)) = true := by simp; omega
      have hat := h.at incP.len hx
      have hgx := hg x s1 (List.mem_of_getElem? hx) hk
      simp only [inc, List.cons_append, List.nil_append] at hat hgx
      simp only [cf95_l0, h0, h1, h7, h8, hd, hat, Nat.le_add_left, go_sem, ↓reduceIte, reduceCtorEq, Nat.reduceEqDiff, Nat.reduceAdd, Nat.reduceSub, Nat.reduceMul, Nat.reduceLeDiff, Nat.reduceLT, loadA, rdCells, storeA, setAt, binA]
      refine WO_callvx g cap _ (by simp only [h0, h1, go_sem, ↓reduceIte, reduceCtorEq, Nat.reduceEqDiff, Nat.reduceAdd, Nat.reduceSub, Nat.reduceMul, Nat.reduceLeDiff, Nat.reduceLT, loadA, rdCells, storeA, setAt, binA]) rfl ((by simpa only [go_sem, ↓reduceIte, reduceCtorEq, Nat.reduceEqDiff, Nat.reduceAdd, Nat.reduceSub, Nat.reduceMul, Nat.reduceLeDiff, Nat.reduceLT, loadA, rdCells, storeA, setAt, binA] using hgx : WC T X g _ s1 _).mono ?_)
      rintro w s2 ⟨rfl, hk2⟩
      cases hp : p x <;> simp only [h0, h1, h7, h8, wrapc (n := i) (by omega), go_sem, ↓reduceIte, reduceCtorEq, Nat.reduceEqDiff, Nat.reduceAdd, Nat.reduceSub, Nat.reduceMul, Nat.reduceLeDiff, Nat.reduceLT, loadA, rdCells, storeA, setAt, binA]
      · exact ⟨k - 1, by omega, i + 1, by omega, rfl, by rw [hf, drop_at hx, List.any_cons, hp, Bool.false_or], hk.trans hk2⟩
      · exact ⟨by simp, _, rfl, ⟨(i : Int), rfl, by rw [hf, drop_at hx, List.any_cons, hp, Bool.true_or]; simp⟩, hk.trans hk2⟩
    · have hd : decide ((i : Int) < (l.length : Int)) = false := by simp; omega
      simp only [cf95_l0, h0, h1, h7, h8, hd, go_sem, ↓reduceIte, reduceCtorEq, Nat.reduceEqDiff, Nat.reduceAdd, Nat.reduceSub, Nat.reduceMul, Nat.reduceLeDiff, Nat.reduceLT, loadA, rdCells, storeA, setAt, binA]
      exact ⟨by simp, _, rfl, ⟨-1, rfl, by rw [hf, List.drop_eq_nil_of_le (by omega)]; rfl⟩, hk⟩
  · simp only [go_sem, ↓reduceIte, reduceCtorEq, Nat.reduceEqDiff, Nat.reduceAdd, Nat.reduceSub, Nat.reduceMul, Nat.reduceLeDiff, Nat.reduceLT, loadA, rdCells, storeA, setAt, binA]
    exact ⟨rfl, Keep.refl s⟩
theorem has_in (hX : NoX X) {v : AV} {l : List In} (h : ISl inc v l) (hb : l.length ≤ 8796093022208) (g : Nat) (cap : List AV) (p : In → Bool) (s : St)
    (hg : ∀ x s1, x ∈ l → Keep s s1 → WC T X g ((.agg (inc x)) :: cap) s1 (fun v s2 => v = .bool (p x) ∧ Keep s1 s2)) :
    WC T X 80 [v, .func g cap] s (fun v s' => v = .bool (l.any p) ∧ Keep s s') := by
  refine WC_fn cf80 (hX 80 (by decide)) T80 (by simp [cf80]) ?_
  simp only [cf80, go_sem, ↓reduceIte, reduceCtorEq, Nat.reduceEqDiff, Nat.reduceAdd, Nat.reduceSub, Nat.reduceMul, Nat.reduceLeDiff, Nat.reduceLT, loadA, rdCells, storeA, setAt, binA]
  refine WO_callx [v, .func g cap] (by simp only [go_sem, ↓reduceIte, reduceCtorEq, Nat.reduceEqDiff, Nat.reduceAdd, Nat.reduceSub, Nat.reduceMul, Nat.reduceLeDiff, Nat.reduceLT, loadA, rdCells, storeA, setAt, binA]) ((index_in hX h hb g cap p s hg).mono ?_)
  rintro w s2 ⟨⟨m, rfl, hm⟩, hk⟩
  simp only [go_sem, ↓reduceIte, reduceCtorEq, Nat.reduceEqDiff, Nat.reduceAdd, Nat.reduceSub, Nat.reduceMul, Nat.reduceLeDiff, Nat.reduceLT, loadA, rdCells, storeA, setAt, binA]
  exact ⟨by simp, _, rfl, by rw [hm], hk⟩

theorem index_pr (hX : NoX X) {v : AV} {l : List Pr} (h : ISl prc v l) (hb : l.length ≤ 8796093022208) (g : Nat) (cap : List AV) (p : Pr → Bool) (s : St)
    (hg : ∀ x s1, x ∈ l → Keep s s1 → WC T X g ((.agg (prc x)) :: cap) s1 (fun v s2 => v = .bool (p x) ∧ Keep s1 s2)) :
    WC T X 66 [v, .func g cap] s (fun v s' => (∃ m : Int, v = .int .i64 m ∧ decide (m ≥ 0) = l.any p) ∧ Keep s s') := by
  refine WC_fn cf66 (hX 66 (by decide)) T66 (by simp [cf66]) ?_
  have hlen := h.len
  simp only [cf66, hlen, go_sem, ↓reduceIte, reduceCtorEq, Nat.reduceEqDiff, Nat.reduceAdd, Nat.reduceSub, Nat.reduceMul, Nat.reduceLeDiff, Nat.reduceLT, loadA, rdCells, storeA, setAt, binA]
  refine W_loop_nat (fun k e s1 => ∃ i, i + k = l.length ∧ e 0 = v ∧ e 1 = .func g cap ∧ e 7 = .int .i64 l.length ∧ e 8 = .int .i64 i ∧ l.any p = (l.drop i).any p ∧ Keep s s1) ?_ l.length _ _ ⟨0, by simp, ?_⟩
  · rintro k e s1 ⟨i, hik, h0, h1, h7, h8, hf, hk⟩
    by_cases hi : i < l.length
    · obtain ⟨x, hx⟩ : ∃ x, l[i]? = some x := ⟨_, List.getElem?_eq_getElem hi⟩
      have hd : decide ((i : Int) < (l.length : Int)) = true := by simp; omega
      have hat := h.at prcP.len hx
      have hgx := hg x s1 (List.mem_of_getElem? hx) hk
      simp only [prc, List.cons_append, List.nil_append] at hat hgx
      simp only [cf66_l0, h0, h1, h7, h8, hd, hat, Nat.le_add_left, go_sem, ↓reduceIte, reduceCtorEq, Nat.reduceEqDiff, Nat.reduceAdd, Nat.reduceSub, Nat.reduceMul, Nat.reduceLeDiff, Nat.reduceLT, loadA, rdCells, storeA, setAt, binA]
      refine WO_callvx g cap _ (by simp only [h0, h1, go_sem, ↓reduceIte, reduceCtorEq, Nat.reduceEqDiff, Nat.reduceAdd, Nat.reduceSub, Nat.reduceMul, Nat.reduceLeDiff, Nat.reduceLT, loadA, rdCells, storeA, setAt, binA]) rfl ((by simpa only [go_sem, ↓reduceIte, reduceCtorEq, Nat.reduceEqDiff, Nat.reduceAdd, Nat.reduceSub, Nat.reduceMul, Nat.reduceLeDiff, Nat.reduceLT, loadA, rdCells, storeA, setAt, binA] using hgx : WC T X g _ s1 _).mono ?_)
      rintro w s2 ⟨rfl, hk2⟩
      cases hp : p x <;> simp only [h0, h1, h7, h8, wrapc (n := i) (by omega), go_sem, ↓reduceIte, reduceCtorEq, Nat.reduceEqDiff, Nat.reduceAdd, Nat.reduceSub, Nat.reduceMul, Nat.reduceLeDiff, Nat.reduceLT, loadA, rdCells, storeA, setAt, binA]
      · exact ⟨k - 1, by omega, i + 1, by omega, rfl, by rw [hf, drop_at hx, List.any_cons, hp, Bool.false_or], hk.trans hk2⟩
      · exact ⟨by simp, _, rfl, ⟨(i : Int), rfl, by rw [hf, drop_at hx, List.any_cons, hp, Bool.true_or]; simp⟩, hk.trans hk2⟩
    · have hd : decide ((i : Int) < (l.length : Int)) = false := by simp; omega
      simp only [cf66_l0, h0, h1, h7, h8, hd, go_sem, ↓reduceIte, reduceCtorEq, Nat.reduceEqDiff, Nat.reduceAdd, Nat.reduceSub, Nat.reduceMul, Nat.reduceLeDiff, Nat.reduceLT, loadA, rdCells, storeA, setAt, binA]
      exact ⟨by simp, _, rfl, ⟨-1, rfl, by rw [hf, List.drop_eq_nil_of_le (by omega)]; rfl⟩, hk⟩
  · simp only [go_sem, ↓reduceIte, reduceCtorEq, Nat.reduceEqDiff, Nat.reduceAdd, Nat.reduceSub, Nat.reduceMul, Nat.reduceLeDiff, Nat.reduceLT, loadA, rdCells, storeA, setAt, binA]
    exact ⟨rfl, Keep.refl s⟩
theorem has_pr (hX : NoX X) {v : AV} {l : List Pr} (h : ISl prc v l) (hb : l.length ≤ 8796093022208) (g : Nat) (cap : List AV) (p : Pr → Bool) (s : St)
    (hg : ∀ x s1, x ∈ l → Keep s s1 → WC T X g ((.agg (prc x)) :: cap) s1 (fun v s2 => v = .bool (p x) ∧ Keep s1 s2)) :
    WC T X 41 [v, .func g cap] s (fun v s' => v = .bool (l.any p) ∧ Keep s s') := by
  refine WC_fn cf41 (hX 41 (by decide)) T41 (by simp [cf41]) ?_
  simp only [cf41, go_sem, ↓reduceIte, reduceCtorEq, Nat.reduceEqDiff, Nat.reduceAdd, Nat.reduceSub, Nat.reduceMul, Nat.reduceLeDiff, Nat.reduceLT, loadA, rdCells, storeA, setAt, binA]
  refine WO_callx [v, .func g cap] (by simp only [go_sem, ↓reduceIte, reduceCtorEq, Nat.reduceEqDiff, Nat.reduceAdd, Nat.reduceSub, Nat.reduceMul, Nat.reduceLeDiff, Nat.reduceLT, loadA, rdCells, storeA, setAt, binA]) ((index_pr hX h hb g cap p s hg).mono ?_)
  rintro w s2 ⟨⟨m, rfl, hm⟩, hk⟩
  simp only [go_sem, ↓reduceIte, reduceCtorEq, Nat.reduceEqDiff, Nat.reduceAdd, Nat.reduceSub, Nat.reduceMul, Nat.reduceLeDiff, Nat.reduceLT, loadA, rdCells, storeA, setAt, binA]
  exact ⟨by simp, _, rfl, by rw [hm], hk⟩

theorem find_law (hX : NoX X) {lv : AV} {l : List Cl} (hl : ISl clc lv l) (hb : l.length ≤ 8796093022208) (n : ByteArray) (s : St) : WC T X 39 [lv, .str n] s (fun v s' => v = .tup [.agg (clc (fnd l n)), .bool (isC l n)] ∧ Keep s s') := by
  refine WC_fn cf39 (hX 39 (by decide)) T39 (by simp [cf39]) ?_
  have hlen := hl.len
  simp only [cf39, hlen, go_sem, ↓reduceIte, reduceCtorEq, Nat.reduceEqDiff, Nat.reduceAdd, Nat.reduceSub, Nat.reduceMul, Nat.reduceLeDiff, Nat.reduceLT, loadA, rdCells, storeA, setAt, binA]
  refine W_loop_nat (fun k e S => ∃ i, i + k = l.length ∧ e 1 = .str n ∧ e 4 = .ptr s.size 0 ∧ e 8 = lv ∧ e 9 = .int .i64 l.length ∧ e 10 = .int .i64 i ∧ find l n = find (l.drop i) n ∧ S.obj s.size = some (.cells [.str ⟨#[]⟩, .nils, .nils]) ∧ s.size < S.size ∧ Keep s S) ?_ l.length _ _
    ⟨0, by simp, ?_, ?_, ?_, ?_, ?_, by simp, new_eq rfl, by simp [St.new], (Keep.refl s).new' _⟩
  · rintro k e S ⟨i, hik, e1, e4, e8, e9, e10, hf, ho, hz, hk⟩
    by_cases hi : i < l.length
    · obtain ⟨x, hx⟩ : ∃ x, l[i]? = some x := ⟨_, List.getElem?_eq_getElem hi⟩
      have hd : decide ((i : Int) < (l.length : Int)) = true := by simp; omega
      have hat := hl.at clcP.len hx
      simp only [clc, List.cons_append, List.nil_append] at hat
      have hfx : find (l.drop i) n = bif sq x.name n then some x else find (l.drop (i + 1)) n := by
        rw [drop_at hx, find, List.find?_cons]
        cases sq x.name n <;> rfl
      cases hq : sq x.name n
      · have hq' : (x.name.toList == n.toList) = false := hq
        rw [hq] at hfx
        simp only [cf39_l0, e1, e4, e8, e9, e10, hd, hat, hq', ne_a hz, ne_b hz, ne_c hz, ne_d hz, wrapc (n := i) (by omega), Nat.le_add_left, go_sem, ↓reduceIte, reduceCtorEq, Nat.reduceEqDiff, Nat.reduceAdd, Nat.reduceSub, Nat.reduceMul, Nat.reduceLeDiff, Nat.reduceLT, loadA, rdCells, storeA, setAt, binA]
        refine ⟨k - 1, by omega, i + 1, by omega, rfl, hf.trans hfx, ?_, ?_, ?_⟩
        · first | exact ho | (rw [put_ne (by omega), new_ne (by omega)]; exact ho)
        · omega
        · exact hk.trans (((Keep.refl S).new' _).put' (Nat.le_refl _) _)
      · have hq' : (x.name.toList == n.toList) = true := hq
        rw [hq] at hfx
        simp only [cf39_l0, e1, e4, e8, e9, e10, hd, hat, hq', ho, ne_a hz, ne_b hz, ne_c hz, ne_d hz, Nat.le_add_left, setAt, go_sem, ↓reduceIte, reduceCtorEq, Nat.reduceEqDiff, Nat.reduceAdd, Nat.reduceSub, Nat.reduceMul, Nat.reduceLeDiff, Nat.reduceLT, loadA, rdCells, storeA, setAt, binA]
        refine ⟨by simp, _, rfl, ?_, (hk.trans (((Keep.refl S).new' _).put' (Nat.le_refl _) _)).put' (Nat.le_refl _) _⟩
        rw [fnd, isC, hf, hfx]; rfl
    · have hd : decide ((i : Int) < (l.length : Int)) = false := by simp; omega
      have hf0 : find l n = none := by rw [hf, List.drop_eq_nil_of_le (by omega)]; rfl
      simp only [cf39_l0, e1, e4, e8, e9, e10, hd, ho, ne_a hz, ne_b hz, ne_c hz, ne_d hz, Nat.le_add_left, setAt, go_sem, ↓reduceIte, reduceCtorEq, Nat.reduceEqDiff, Nat.reduceAdd, Nat.reduceSub, Nat.reduceMul, Nat.reduceLeDiff, Nat.reduceLT, loadA, rdCells, storeA, setAt, binA]
      refine ⟨by simp, _, rfl, ?_, hk.put' (Nat.le_refl _) _⟩
      rw [fnd, isC, hf0]; rfl
  · simp only [go_sem, ↓reduceIte, reduceCtorEq, Nat.reduceEqDiff, Nat.reduceAdd, Nat.reduceSub, Nat.reduceMul, Nat.reduceLeDiff, Nat.reduceLT, loadA, rdCells, storeA, setAt, binA]
  · simp only [go_sem, ↓reduceIte, reduceCtorEq, Nat.reduceEqDiff, Nat.reduceAdd, Nat.reduceSub, Nat.reduceMul, Nat.reduceLeDiff, Nat.reduceLT, loadA, rdCells, storeA, setAt, binA]
  · simp only [go_sem, ↓reduceIte, reduceCtorEq, Nat.reduceEqDiff, Nat.reduceAdd, Nat.reduceSub, Nat.reduceMul, Nat.reduceLeDiff, Nat.reduceLT, loadA, rdCells, storeA, setAt, binA]
  · simp only [go_sem, ↓reduceIte, reduceCtorEq, Nat.reduceEqDiff, Nat.reduceAdd, Nat.reduceSub, Nat.reduceMul, Nat.reduceLeDiff, Nat.reduceLT, loadA, rdCells, storeA, setAt, binA]
  · simp only [go_sem, ↓reduceIte, reduceCtorEq, Nat.reduceEqDiff, Nat.reduceAdd, Nat.reduceSub, Nat.reduceMul, Nat.reduceLeDiff, Nat.reduceLT, loadA, rdCells, storeA, setAt, binA]; rfl
end Go.Am.U3
