/- The stable sort: one behind a sorted row; two sorted rows. Conditions: none. -/
import Derived.Test.YtfleakoephmgaaaDoorUnL
set_option linter.unusedSimpArgs false
set_option linter.unusedVariables false
namespace Go.Am
open Go.So (Ord Srt ins isort)
set_option maxRecDepth 100000
set_option linter.unusedSimpArgs false
attribute [local go_sem] wseq COp.isStore wreg wdreg wret wskip wexit wblock wcnd cnd_t cnd_f then_n then_x then_r catch_n rnd_n rnd_x rnd_r catch_x catch_r wo_nil wo_grd grdO_t grdO_f wo_ops stpO wr_nil wr_alloc wr_guards grdR_t grdR_f wr_ops stpR evAllocs evOp env0_app eput_some eput_none eset_app Opd.ev wantedA faddrA snew_obj snew_size sput_obj sput_size av_cells av_one av_strip av_still unA eqbA fillA fldA lensA mmA mm2 mmFold List.getD_cons_zero List.getD_cons_succ List.getD_nil List.length_cons List.length_nil List.drop_zero List.drop_succ_cons List.take_succ_cons List.take_zero List.map_cons List.map_nil List.set_cons_zero List.set_cons_succ List.all_cons List.all_nil List.getElem?_cons_zero List.getElem?_cons_succ List.nil_append List.cons_append Nat.zero_add Nat.add_zero beq_self_eq_true bt bf Bool.not_true Bool.not_false Bool.and_true Bool.true_and Bool.and_false Bool.false_and and_self and_true true_and n0 n1 n2 n3 n4 m0 m1 m2 m3 c1 retA resAs resA undefA Option.map_some Option.map_none

section
variable {α : Type} {f : α → List AV} {T : Nat → Option CF} {X : Ext} {nI nM nR nS : Nat}

set_option maxHeartbeats 1000000 in
/-- One behind a sorted row. -/
theorem sym_last (hT : SortT T X nI nM nR nS) (hP : Plain f 4) {lt : α → α → Bool} (O : Ord lt) {g : Nat} {cap : List AV} (hc : Cmps T X f g cap lt) (Xs U Y : List α) (x : α) (hU : Srt lt U) (hU0 : 1 < U.length) (hb : (Xs ++ U ++ [x] ++ Y).length ≤ 4398046511104) {p : Nat} {S : St} (hp : p < S.size) (ho : S.obj p = some (.cells ((Xs ++ U ++ [x] ++ Y).flatMap f))) :
    Mrg T X f lt nM g cap Xs U [x] Y p S := by
  refine WC_fn (sSym nM nR) hT.xM hT.tM (by simp [sSym]) ?_
  obtain ⟨n, hn⟩ : ∃ n, n = (Xs ++ U ++ [x] ++ Y).length := ⟨_, rfl⟩
  obtain ⟨a, ha⟩ : ∃ a, a = Xs.length := ⟨_, rfl⟩
  obtain ⟨m, hm⟩ : ∃ m, m = Xs.length + U.length := ⟨_, rfl⟩
  obtain ⟨b, hbb⟩ : ∃ b, b = Xs.length + U.length + [x].length := ⟨_, rfl⟩
  rw [← hbb, ← hm, ← ha, ← hn]
  have hbm : b = m + 1 := by simp at hbb; omega
  have hnl : n = m + 1 + Y.length := by rw [hn]; simp; omega
  have hbn : n ≤ 4398046511104 := by rw [hn]; exact hb
  have w0 : IntKind.i64.wrap ((m : Int) - (a : Int)) = (U.length : Int) := by rw [IntKind.wrap_i64]; omega
  have w1 : IntKind.i64.wrap ((b : Int) - (m : Int)) = 1 := by rw [IntKind.wrap_i64]; omega
  have h10 : ((U.length : Int) == 1) = false := by simp; omega
  have h11 : ((1 : Int) == 1) = true := rfl
  simp only [sSym, w0, w1, h10, h11, go_sem, ↓reduceIte, reduceCtorEq, Nat.reduceEqDiff, Nat.reduceAdd, Nat.reduceSub, Nat.reduceMul, Nat.reduceLeDiff, Nat.reduceLT, loadA, rdCells, storeA, setAt, binA]
  refine W_loop_nat (fun k e s => ∃ i j : Nat, k = j - i ∧ a ≤ i ∧ i ≤ j ∧ j ≤ m ∧ (∀ t v, U[t]? = some v → a + t < i → lt x v = false) ∧ (∀ t v, U[t]? = some v → j ≤ a + t → lt x v = true) ∧ e 0 = .msl p 0 n 4 ∧ e 2 = .int .i64 m ∧ e 4 = .func g cap ∧ e 14 = .int .i64 i ∧ e 15 = .int .i64 j ∧
    s.obj p = some (.cells ((Xs ++ U ++ [x] ++ Y).flatMap f)) ∧ KeepBut p S s) ?_ U.length _ _
    ⟨a, m, by omega, by omega, by omega, by omega, fun t v _ h => by omega, fun t v h1 h2 => by have := (List.getElem?_eq_some_iff.1 h1).1; omega, by simp only [go_sem, ↓reduceIte, reduceCtorEq, Nat.reduceEqDiff, Nat.reduceAdd, Nat.reduceSub, Nat.reduceMul, Nat.reduceLeDiff, Nat.reduceLT, loadA, rdCells, storeA, setAt, binA], by simp only [go_sem, ↓reduceIte, reduceCtorEq, Nat.reduceEqDiff, Nat.reduceAdd, Nat.reduceSub, Nat.reduceMul, Nat.reduceLeDiff, Nat.reduceLT, loadA, rdCells, storeA, setAt, binA], by simp only [go_sem, ↓reduceIte, reduceCtorEq, Nat.reduceEqDiff, Nat.reduceAdd, Nat.reduceSub, Nat.reduceMul, Nat.reduceLeDiff, Nat.reduceLT, loadA, rdCells, storeA, setAt, binA], by simp only [go_sem, ↓reduceIte, reduceCtorEq, Nat.reduceEqDiff, Nat.reduceAdd, Nat.reduceSub, Nat.reduceMul, Nat.reduceLeDiff, Nat.reduceLT, loadA, rdCells, storeA, setAt, binA], by simp only [go_sem, ↓reduceIte, reduceCtorEq, Nat.reduceEqDiff, Nat.reduceAdd, Nat.reduceSub, Nat.reduceMul, Nat.reduceLeDiff, Nat.reduceLT, loadA, rdCells, storeA, setAt, binA], ho, KeepBut.refl _ _⟩
  rintro k e s ⟨i, j, rfl, hmi, hij, hjb, hlo, hhi, e0, e2, e4, e14, e15, hs, hk⟩
  have qx : Xs ++ U ++ [x] ++ Y = (Xs ++ U) ++ x :: Y := by simp
  by_cases hlt : i < j
  · have hd : decide ((i : Int) < (j : Int)) = true := by simp; omega
    obtain ⟨q1, q2, q3, q4⟩ := half (i := i) (j := j) (by omega)
    obtain ⟨c, hcd⟩ : ∃ c, c = (i + j) / 2 := ⟨_, rfl⟩
    have hci : i ≤ c ∧ c < j := by omega
    rw [← hcd] at q3 q4
    obtain ⟨v, hv⟩ : ∃ v, U[c - a]? = some v := ⟨_, List.getElem?_eq_getElem (by omega)⟩
    have a1 := maddr (p := p) (n := n) (i := c) (by omega)
    have a2 := maddr (p := p) (n := n) (i := m) (by omega)
    have g1 := mload hP hs (i := c) (x := v) (by rw [qx, List.getElem?_append_left (by simp; omega), List.getElem?_append_right (by omega), ← hv, ha])
    have g2 := mload hP hs (i := m) (x := x) (by rw [qx]; exact get_mid _ _ x (by simp; omega))
    simp only [sSym_l2, e0, e2, e4, e14, e15, hd, q1, q2, q3, q4, a1, a2, g1, g2, go_sem, ↓reduceIte, reduceCtorEq, Nat.reduceEqDiff, Nat.reduceAdd, Nat.reduceSub, Nat.reduceMul, Nat.reduceLeDiff, Nat.reduceLT, binA]
    refine WR_callv g cap ([.agg (f x), .agg (f v)] ++ cap) (by simp only [e4, go_sem, ↓reduceIte, reduceCtorEq, Nat.reduceEqDiff, Nat.reduceAdd, Nat.reduceSub, Nat.reduceMul, Nat.reduceLeDiff, Nat.reduceLT, loadA, rdCells, storeA, setAt, binA]) (by simp only [go_sem, ↓reduceIte, reduceCtorEq, Nat.reduceEqDiff, Nat.reduceAdd, Nat.reduceSub, Nat.reduceMul, Nat.reduceLeDiff, Nat.reduceLT, loadA, rdCells, storeA, setAt, binA]) ((hc x v s).mono ?_)
    rintro u s1 ⟨z, rfl, hz, hk1⟩
    have hs1 : s1.obj p = some (.cells ((Xs ++ U ++ [x] ++ Y).flatMap f)) := (hk1.2 p (Nat.lt_of_lt_of_le hp hk.1)).trans hs
    cases hvx : lt x v with
    | false =>
      rw [hvx] at hz
      have w2 : IntKind.i64.wrap ((c : Int) + 1) = ((c + 1 : Nat) : Int) := by rw [IntKind.wrap_i64]; omega
      simp only [e0, e2, e4, e14, e15, hz, w2, go_sem, ↓reduceIte, reduceCtorEq, Nat.reduceEqDiff, Nat.reduceAdd, Nat.reduceSub, Nat.reduceMul, Nat.reduceLeDiff, Nat.reduceLT, loadA, rdCells, storeA, setAt, binA]
      refine ⟨j - (c + 1), by omega, c + 1, j, rfl, by omega, by omega, by omega, fun t w hw htc => ?_, hhi, rfl, rfl, hs1, hk.trans hk1.but⟩
      exact O.trans w v x (srt_get O hU hw hv (by omega)) hvx
    | true =>
      rw [hvx] at hz
      simp only [e0, e2, e4, e14, e15, hz, go_sem, ↓reduceIte, reduceCtorEq, Nat.reduceEqDiff, Nat.reduceAdd, Nat.reduceSub, Nat.reduceMul, Nat.reduceLeDiff, Nat.reduceLT, loadA, rdCells, storeA, setAt, binA]
      refine ⟨c - i, by omega, i, c, rfl, by omega, by omega, by omega, hlo, fun t w hw htc => ?_, rfl, rfl, hs1, hk.trans hk1.but⟩
      exact O.strict hvx (srt_get O hU hv hw (by omega))
  · have hd : decide ((i : Int) < (j : Int)) = false := by simp; omega
    obtain rfl : i = j := by omega
    simp only [sSym_l2, e0, e2, e4, e14, e15, hd, go_sem, ↓reduceIte, reduceCtorEq, Nat.reduceEqDiff, Nat.reduceAdd, Nat.reduceSub, Nat.reduceMul, Nat.reduceLeDiff, Nat.reduceLT, loadA, rdCells, storeA, setAt, binA]
    have hfin : Xs ++ isort lt (U ++ [x]) ++ Y = Xs ++ (U.take (i - a) ++ x :: U.drop (i - a)) ++ Y := by
      rw [Go.So.isort_snoc O (U.take (i - a)) (U.drop (i - a)) x]
      · rw [List.take_append_drop]
      · rw [List.take_append_drop]; exact hU
      · intro v hv; obtain ⟨t, ht, hg⟩ := mem_take hv; exact hlo t v hg (by omega)
      · intro v hv; obtain ⟨t, ht, hg⟩ := mem_drop hv; exact hhi t v hg (by omega)
    refine W_loop_nat (fun k e s => ∃ c : Nat, c = i - a + k ∧ c ≤ U.length ∧ e 0 = .msl p 0 n 4 ∧ e 14 = .int .i64 i ∧ e 17 = .int .i64 (a + c : Nat) ∧ s.obj p = some (.cells ((Xs ++ (U.take c ++ x :: U.drop c) ++ Y).flatMap f)) ∧ KeepBut p S s) ?_ (U.length - (i - a)) _ _
      ⟨U.length, by omega, Nat.le_refl _, by simp only [e0, go_sem, ↓reduceIte, reduceCtorEq, Nat.reduceEqDiff, Nat.reduceAdd, Nat.reduceSub, Nat.reduceMul, Nat.reduceLeDiff, Nat.reduceLT, loadA, rdCells, storeA, setAt, binA], by simp only [e14, go_sem, ↓reduceIte, reduceCtorEq, Nat.reduceEqDiff, Nat.reduceAdd, Nat.reduceSub, Nat.reduceMul, Nat.reduceLeDiff, Nat.reduceLT, loadA, rdCells, storeA, setAt, binA], by simp only [hm, ha, e2, go_sem, ↓reduceIte, reduceCtorEq, Nat.reduceEqDiff, Nat.reduceAdd, Nat.reduceSub, Nat.reduceMul, Nat.reduceLeDiff, Nat.reduceLT, loadA, rdCells, storeA, setAt, binA], by rw [hs]; simp, hk⟩
    rintro k e' s' ⟨c, hck, hcU, f0, f14, f17, hs', hk'⟩
    have htl : (U.take c).length = c := by simp; omega
    by_cases hcm : i - a < c
    · have hd2 : decide (((a + c : Nat) : Int) > (i : Int)) = true := by simp; omega
      obtain ⟨d, rfl⟩ : ∃ d, c = d + 1 := ⟨c - 1, by omega⟩
      obtain ⟨v, hv⟩ : ∃ v, U[d]? = some v := ⟨_, List.getElem?_eq_getElem (by omega)⟩
      have dv : U.drop d = v :: U.drop (d + 1) := by rw [List.drop_eq_getElem_cons (by omega)]; congr 1; rw [List.getElem?_eq_getElem (by omega)] at hv; exact Option.some.inj hv
      have tv : U.take (d + 1) = U.take d ++ [v] := by rw [List.take_add_one, hv]; rfl
      have htd : (U.take d).length = d := by simp; omega
      have w4 : IntKind.i64.wrap (((a + (d + 1) : Nat) : Int) - 1) = ((a + d : Nat) : Int) := by rw [IntKind.wrap_i64]; omega
      have a1 := maddr (p := p) (n := n) (i := a + (d + 1)) (by omega)
      have a2 := maddr (p := p) (n := n) (i := a + d) (by omega)
      have r1 : Xs ++ (U.take (d + 1) ++ x :: U.drop (d + 1)) ++ Y = (Xs ++ U.take d) ++ v :: x :: (U.drop (d + 1) ++ Y) := by rw [tv]; simp
      have r2 : Xs ++ (U.take (d + 1) ++ x :: U.drop (d + 1)) ++ Y = (Xs ++ U.take d ++ [v]) ++ x :: (U.drop (d + 1) ++ Y) := by rw [tv]; simp
      have g1 := mload hP hs' (by rw [r1]; exact get_mid _ _ v (n := a + d) (by simp [htd]; omega))
      have g2 := mload hP hs' (by rw [r2]; exact get_mid _ _ x (n := a + (d + 1)) (by simp [htd]; omega))
      have s2 := mstore hP hs' (i := a + (d + 1)) (by rw [r2]; simp; omega) v
      rw [r2, set_mid _ _ x v (n := a + (d + 1)) (by simp [htd]; omega)] at s2
      have o2 : (s'.put p (some (.cells ((Xs ++ U.take d ++ [v] ++ v :: (U.drop (d + 1) ++ Y)).flatMap f)))).obj p = some (.cells ((Xs ++ U.take d ++ [v] ++ v :: (U.drop (d + 1) ++ Y)).flatMap f)) := put_eq
      have s3 := mstore hP o2 (i := a + d) (by simp; omega) x
      have r3 : (Xs ++ U.take d ++ [v] ++ v :: (U.drop (d + 1) ++ Y)).set (a + d) x = Xs ++ (U.take d ++ x :: U.drop d) ++ Y := by
        have : Xs ++ U.take d ++ [v] ++ v :: (U.drop (d + 1) ++ Y) = (Xs ++ U.take d) ++ v :: (v :: (U.drop (d + 1) ++ Y)) := by simp
        rw [this, set_mid _ _ v x (by simp [htd]; omega), dv]; simp
      rw [r3] at s3
      simp only [sSym_l1, f0, f14, f17, w4, hd2, a1, a2, g1, g2, s2, s3, go_sem, ↓reduceIte, reduceCtorEq, Nat.reduceEqDiff, Nat.reduceAdd, Nat.reduceSub, Nat.reduceMul, Nat.reduceLeDiff, Nat.reduceLT, binA]
      exact ⟨k - 1, by omega, d, by omega, by omega, rfl, rfl, (hk'.put _).put _⟩
    · have hd2 : decide (((a + c : Nat) : Int) > (i : Int)) = false := by simp; omega
      simp only [sSym_l1, f0, f14, f17, hd2, go_sem, ↓reduceIte, reduceCtorEq, Nat.reduceEqDiff, Nat.reduceAdd, Nat.reduceSub, Nat.reduceMul, Nat.reduceLeDiff, Nat.reduceLT, loadA, rdCells, storeA, setAt, binA]
      refine ⟨by simp, _, rfl, ?_, hk'⟩
      rw [hfin, hs', show c = i - a by omega]
end
end Go.Am
