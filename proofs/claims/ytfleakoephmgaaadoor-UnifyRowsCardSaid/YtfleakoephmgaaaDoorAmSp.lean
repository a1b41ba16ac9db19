/- The stable sort: rows that change places. Conditions: none. -/
import Derived.Test.YtfleakoephmgaaaDoorSoA
import Derived.Test.YtfleakoephmgaaaDoorSoA
import Derived.IntWalk
set_option linter.unusedSimpArgs false
set_option linter.unusedVariables false
namespace Go.Am
open Go.So (Ord Srt ins isort)
set_option maxRecDepth 100000
set_option linter.unusedSimpArgs false
attribute [local go_sem] wseq COp.isStore wreg wdreg wret wskip wexit wblock wcnd cnd_t cnd_f then_n then_x then_r catch_n rnd_n rnd_x rnd_r catch_x catch_r wo_nil wo_grd grdO_t grdO_f wo_ops stpO wr_nil wr_alloc wr_guards grdR_t grdR_f wr_ops stpR evAllocs evOp env0_app eput_some eput_none eset_app Opd.ev wantedA faddrA snew_obj snew_size sput_obj sput_size av_cells av_one av_strip av_still unA eqbA fillA fldA lensA mmA mm2 mmFold List.getD_cons_zero List.getD_cons_succ List.getD_nil List.length_cons List.length_nil List.drop_zero List.drop_succ_cons List.take_succ_cons List.take_zero List.map_cons List.map_nil List.set_cons_zero List.set_cons_succ List.all_cons List.all_nil List.getElem?_cons_zero List.getElem?_cons_succ List.nil_append List.cons_append Nat.zero_add Nat.add_zero beq_self_eq_true bt bf Bool.not_true Bool.not_false Bool.and_true Bool.true_and Bool.and_false Bool.false_and and_self and_true true_and n0 n1 n2 n3 n4 m0 m1 m2 m3 c1 retA resAs resA undefA Option.map_some Option.map_none

section
variable {α : Type} {f : α → List AV}

theorem setAt_eq : ∀ (vs cs : List AV) (off : Nat), off + vs.length ≤ cs.length → setAt cs off vs = cs.take off ++ vs ++ cs.drop (off + vs.length)
  | [], cs, off, _ => by simp [setAt]
  | v :: vs, cs, off, h => by
    simp only [List.length_cons] at h
    rw [setAt, setAt_eq vs (cs.set off v) (off + 1) (by simp; omega)]
    have h1 : (cs.set off v).take (off + 1) = cs.take off ++ [v] := by
      rw [List.take_succ_eq_append_getElem (by simp; omega), List.take_set_of_le (Nat.le_refl _)]
      simp
    have h2 : (cs.set off v).drop (off + 1 + vs.length) = cs.drop (off + (v :: vs).length) := by
      rw [List.drop_set_of_lt (by omega), List.length_cons]
      congr 1; omega
    rw [h1, h2]; simp

theorem flat_setrow (hf : ∀ a, (f a).length = 4) {l : List α} {i : Nat} (hi : i < l.length) (y : α) : setAt (l.flatMap f) (i * 4) (f y) = (l.set i y).flatMap f := by
  have hl : (l.flatMap f).length = l.length * 4 := flat_len hf l
  rw [setAt_eq _ _ _ (by rw [hl, hf]; omega), flat_take hf, hf, show i * 4 + 4 = (i + 1) * 4 by omega, flat_drop hf]
  rw [List.set_eq_take_append_cons_drop, if_pos hi]
  simp

theorem mload (hP : Plain f 4) {S : St} {p i : Nat} {l : List α} {x : α} (ho : S.obj p = some (.cells (l.flatMap f))) (hi : l[i]? = some x) : loadA S true 4 (.ptr p (i * 4)) = some (.agg (f x)) := by
  have h1 := flat_row hP.len hi
  have h2 := flat_le hP.len hi 4 (Nat.le_refl _)
  have h3 : (f x).map AV.strip = f x := by have := hP.strips [x]; simpa using this
  simp only [loadA, rdCells, ho]
  rw [if_pos h2, h1]
  simp [h3]
theorem mstore (hP : Plain f 4) {S : St} {p i : Nat} {l : List α} (ho : S.obj p = some (.cells (l.flatMap f))) (hi : i < l.length) (y : α) : storeA S 4 (.ptr p (i * 4)) (.agg (f y)) = some (S.put p (some (.cells ((l.set i y).flatMap f)))) := by
  have hl : (l.flatMap f).length = l.length * 4 := flat_len hP.len l
  have h1 : (f y).all AV.one = true := by have := hP.ones [y]; simpa using this
  have h2 : (f y).length = 4 := hP.len y
  have hc : AV.cells (.agg (f y)) = f y := rfl
  unfold storeA
  simp only [ho]
  rw [hc, if_pos ⟨h2, by rw [hl]; omega, h1⟩, flat_setrow hP.len hi]
theorem maddr {p n i : Nat} (hi : i < n) : iaddrA 4 (.msl p 0 n 4) (.int .i64 i) = some (.ptr p (i * 4)) := by
  simp only [iaddrA]
  rw [if_pos ⟨by omega, by omega, trivial⟩]; simp

theorem set_mid (A B : List α) (x y : α) {n : Nat} (h : n = A.length) : (A ++ x :: B).set n y = A ++ y :: B := by subst h; simp
theorem get_mid (A B : List α) (x : α) {n : Nat} (h : n = A.length) : (A ++ x :: B)[n]? = some x := by subst h; simp

/-- The functions of the sort. -/
structure SortT (T : Nat → Option CF) (X : Ext) (nI nM nR nS : Nat) : Prop where
  tI : T nI = some sIns
  xI : X nI = none
  tM : T nM = some (sSym nM nR)
  xM : X nM = none
  tR : T nR = some (sRot nS)
  xR : X nR = none
  tS : T nS = some sSwp
  xS : X nS = none

variable {T : Nat → Option CF} {X : Ext} {nI nM nR nS : Nat}

theorem wrapn {n : Nat} (h : n ≤ 4611686018427387904) : IntKind.i64.wrap (n : Int) = (n : Int) := by rw [IntKind.wrap_i64]; omega

/-- Two rows of the same length change places. -/
theorem swp_law (hT : SortT T X nI nM nR nS) (hP : Plain f 4) (Xs U M V Y : List α) (hl : U.length = V.length) (hb : (Xs ++ U ++ M ++ V ++ Y).length ≤ 4398046511104) {p : Nat} (cv : AV) {S : St} (ho : S.obj p = some (.cells ((Xs ++ U ++ M ++ V ++ Y).flatMap f))) {n a b k : Nat}
    (hn : n = (Xs ++ U ++ M ++ V ++ Y).length) (ha : a = Xs.length) (hbb : b = Xs.length + U.length + M.length) (hk : k = U.length) :
    WC T X nS [.msl p 0 n 4, .int .i64 a, .int .i64 b, .int .i64 k, cv] S (fun _ S' => S'.obj p = some (.cells ((Xs ++ V ++ M ++ U ++ Y).flatMap f)) ∧ KeepBut p S S') := by
  refine WC_fn sSwp hT.xS hT.tS (by simp [sSwp]) ?_
  subst hn ha hbb hk
  simp only [sSwp, go_sem, ↓reduceIte, reduceCtorEq, Nat.reduceEqDiff, Nat.reduceAdd, Nat.reduceSub, Nat.reduceMul, Nat.reduceLeDiff, Nat.reduceLT, loadA, rdCells, storeA, setAt, binA]
  simp only [List.length_append] at hb
  refine W_loop_nat (fun j e s => ∃ i, i + j = U.length ∧ e 0 = .msl p 0 (Xs ++ U ++ M ++ V ++ Y).length 4 ∧ e 1 = .int .i64 (Xs.length : Nat) ∧ e 2 = .int .i64 (Xs.length + U.length + M.length : Nat) ∧ e 3 = .int .i64 (U.length : Nat) ∧ e 10 = .int .i64 i ∧
      s.obj p = some (.cells ((Xs ++ (V.take i ++ U.drop i) ++ M ++ (U.take i ++ V.drop i) ++ Y).flatMap f)) ∧ KeepBut p S s) ?_ U.length _ _ ⟨0, by omega, by simp only [go_sem, ↓reduceIte, reduceCtorEq, Nat.reduceEqDiff, Nat.reduceAdd, Nat.reduceSub, Nat.reduceMul, Nat.reduceLeDiff, Nat.reduceLT, loadA, rdCells, storeA, setAt, binA], by simp only [go_sem, ↓reduceIte, reduceCtorEq, Nat.reduceEqDiff, Nat.reduceAdd, Nat.reduceSub, Nat.reduceMul, Nat.reduceLeDiff, Nat.reduceLT, loadA, rdCells, storeA, setAt, binA], by simp only [go_sem, ↓reduceIte, reduceCtorEq, Nat.reduceEqDiff, Nat.reduceAdd, Nat.reduceSub, Nat.reduceMul, Nat.reduceLeDiff, Nat.reduceLT, loadA, rdCells, storeA, setAt, binA], by simp only [go_sem, ↓reduceIte, reduceCtorEq, Nat.reduceEqDiff, Nat.reduceAdd, Nat.reduceSub, Nat.reduceMul, Nat.reduceLeDiff, Nat.reduceLT, loadA, rdCells, storeA, setAt, binA], by simp only [go_sem, ↓reduceIte, reduceCtorEq, Nat.reduceEqDiff, Nat.reduceAdd, Nat.reduceSub, Nat.reduceMul, Nat.reduceLeDiff, Nat.reduceLT, loadA, rdCells, storeA, setAt, binA]; rfl, by simpa using ho, ⟨Nat.le_refl _, fun _ _ _ => rfl⟩⟩
  rintro j e s ⟨i, hij, e0, e1, e2, e3, e10, hs, hk⟩
  by_cases hi : i < U.length
  · have hd : decide ((i : Int) < (U.length : Int)) = true := by simp; omega
    obtain ⟨u, hu⟩ : ∃ u, U[i]? = some u := ⟨_, List.getElem?_eq_getElem hi⟩
    obtain ⟨v, hv⟩ : ∃ v, V[i]? = some v := ⟨_, List.getElem?_eq_getElem (by omega)⟩
    have du : U.drop i = u :: U.drop (i + 1) := by rw [List.drop_eq_getElem_cons hi]; congr 1; rw [List.getElem?_eq_getElem hi] at hu; exact Option.some.inj hu
    have dv : V.drop i = v :: V.drop (i + 1) := by rw [List.drop_eq_getElem_cons (by omega)]; congr 1; rw [List.getElem?_eq_getElem (by omega)] at hv; exact Option.some.inj hv
    have tu : U.take (i + 1) = U.take i ++ [u] := by rw [List.take_add_one, hu]; rfl
    have tv : V.take (i + 1) = V.take i ++ [v] := by rw [List.take_add_one, hv]; rfl
    have w1 : IntKind.i64.wrap (((Xs.length : Nat) : Int) + (i : Int)) = ((Xs.length + i : Nat) : Int) := by rw [IntKind.wrap_i64]; omega
    have w2 : IntKind.i64.wrap (((Xs.length + U.length + M.length : Nat) : Int) + (i : Int)) = ((Xs.length + U.length + M.length + i : Nat) : Int) := by rw [IntKind.wrap_i64]; omega
    have w3 : IntKind.i64.wrap ((i : Int) + 1) = ((i + 1 : Nat) : Int) := by rw [IntKind.wrap_i64]; omega
    have a1 := maddr (p := p) (n := (Xs ++ U ++ M ++ V ++ Y).length) (i := Xs.length + i) (by simp only [List.length_append]; omega)
    have a2 := maddr (p := p) (n := (Xs ++ U ++ M ++ V ++ Y).length) (i := Xs.length + U.length + M.length + i) (by simp only [List.length_append]; omega)
    have le1 : Xs.length + i = (Xs ++ V.take i).length := by simp; omega
    have le2 : Xs.length + U.length + M.length + i = (Xs ++ V.take i ++ u :: U.drop (i + 1) ++ M ++ U.take i).length := by simp; omega
    have q1 : Xs ++ (V.take i ++ U.drop i) ++ M ++ (U.take i ++ V.drop i) ++ Y = (Xs ++ V.take i) ++ u :: (U.drop (i + 1) ++ M ++ U.take i ++ V.drop i ++ Y) := by rw [du]; simp
    have q2 : Xs ++ (V.take i ++ U.drop i) ++ M ++ (U.take i ++ V.drop i) ++ Y = (Xs ++ V.take i ++ u :: U.drop (i + 1) ++ M ++ U.take i) ++ v :: (V.drop (i + 1) ++ Y) := by rw [du, dv]; simp
    have g1 := mload hP hs (by rw [q1]; exact get_mid _ _ u le1)
    have g2 := mload hP hs (by rw [q2]; exact get_mid _ _ v le2)
    have hlen : (Xs ++ (V.take i ++ U.drop i) ++ M ++ (U.take i ++ V.drop i) ++ Y).length = Xs.length + U.length + M.length + V.length + Y.length := by simp; omega
    have s1 := mstore hP hs (i := Xs.length + i) (by rw [hlen]; omega) v
    have r1 : (Xs ++ (V.take i ++ U.drop i) ++ M ++ (U.take i ++ V.drop i) ++ Y).set (Xs.length + i) v = (Xs ++ V.take i ++ v :: U.drop (i + 1) ++ M ++ U.take i) ++ v :: (V.drop (i + 1) ++ Y) := by rw [q1, set_mid _ _ u v le1, dv]; simp
    rw [r1] at s1
    have o1 : (s.put p (some (.cells (((Xs ++ V.take i ++ v :: U.drop (i + 1) ++ M ++ U.take i) ++ v :: (V.drop (i + 1) ++ Y)).flatMap f)))).obj p = some (.cells (((Xs ++ V.take i ++ v :: U.drop (i + 1) ++ M ++ U.take i) ++ v :: (V.drop (i + 1) ++ Y)).flatMap f)) := put_eq
    have le3 : Xs.length + U.length + M.length + i = (Xs ++ V.take i ++ v :: U.drop (i + 1) ++ M ++ U.take i).length := by simp; omega
    have s2 := mstore hP o1 (i := Xs.length + U.length + M.length + i) (by rw [le3]; simp) u
    rw [set_mid _ _ v u le3] at s2
    simp only [sSwp_l0, e0, e1, e2, e3, e10, hd, w1, w2, w3, a1, a2, g1, g2, s1, s2, go_sem, ↓reduceIte, reduceCtorEq, Nat.reduceEqDiff, Nat.reduceAdd, Nat.reduceSub, Nat.reduceMul, Nat.reduceLeDiff, Nat.reduceLT, binA]
    refine ⟨j - 1, by omega, i + 1, by omega, rfl, ?_, ?_⟩
    · rw [tu, tv]; simp
    · exact (hk.put _).put _
  · have hd : decide ((i : Int) < (U.length : Int)) = false := by simp; omega
    simp only [sSwp_l0, e0, e1, e2, e3, e10, hd, go_sem, ↓reduceIte, reduceCtorEq, Nat.reduceEqDiff, Nat.reduceAdd, Nat.reduceSub, Nat.reduceMul, Nat.reduceLeDiff, Nat.reduceLT, loadA, rdCells, storeA, setAt, binA]
    refine ⟨by simp, _, rfl, ?_, hk⟩
    rw [hs, List.take_of_length_le (by omega), List.drop_eq_nil_of_le (by omega), List.take_of_length_le (by omega), List.drop_eq_nil_of_le (by omega)]
    simp
end
end Go.Am
