/- The stable sort: rotation, and sorting by insertion. Conditions: none. -/
import Derived.Test.YtfleakoephmgaaaDoorAmSo
import Derived.Test.YtfleakoephmgaaaDoorAmW
set_option linter.unusedSimpArgs false
set_option linter.unusedVariables false
namespace Go.Am
open Go.So (Ord Srt ins isort)
set_option maxRecDepth 100000
set_option linter.unusedSimpArgs false
attribute [local go_sem] wseq COp.isStore wreg wdreg wret wskip wexit wblock wcnd cnd_t cnd_f then_n then_x then_r catch_n rnd_n rnd_x rnd_r catch_x catch_r wo_nil wo_grd grdO_t grdO_f wo_ops stpO wr_nil wr_alloc wr_guards grdR_t grdR_f wr_ops stpR evAllocs evOp env0_app eput_some eput_none eset_app Opd.ev wantedA faddrA snew_obj snew_size sput_obj sput_size av_cells av_one av_strip av_still unA eqbA fillA fldA lensA mmA mm2 mmFold List.getD_cons_zero List.getD_cons_succ List.getD_nil List.length_cons List.length_nil List.drop_zero List.drop_succ_cons List.take_succ_cons List.take_zero List.map_cons List.map_nil List.set_cons_zero List.set_cons_succ List.all_cons List.all_nil List.getElem?_cons_zero List.getElem?_cons_succ List.nil_append List.cons_append Nat.zero_add Nat.add_zero beq_self_eq_true bt bf Bool.not_true Bool.not_false Bool.and_true Bool.true_and Bool.and_false Bool.false_and and_self and_true true_and n0 n1 n2 n3 n4 m0 m1 m2 m3 c1 retA resAs resA undefA Option.map_some Option.map_none

section
variable {α : Type} {f : α → List AV} {T : Nat → Option CF} {X : Ext} {nI nM nR nS : Nat}

theorem KeepBut.refl (p : Nat) (S : St) : KeepBut p S S := ⟨Nat.le_refl _, fun _ _ _ => rfl⟩

set_option maxHeartbeats 1000000 in
theorem rot_law (hT : SortT T X nI nM nR nS) (hP : Plain f 4) (Xs U V Y : List α) (hU : 0 < U.length) (hV : 0 < V.length) (hb : (Xs ++ U ++ V ++ Y).length ≤ 4398046511104) {p : Nat} (cv : AV) {S : St} (ho : S.obj p = some (.cells ((Xs ++ U ++ V ++ Y).flatMap f))) {n a m b : Nat}
    (hn : n = (Xs ++ U ++ V ++ Y).length) (ha : a = Xs.length) (hm : m = Xs.length + U.length) (hbb : b = Xs.length + U.length + V.length) :
    WC T X nR [.msl p 0 n 4, .int .i64 a, .int .i64 m, .int .i64 b, cv] S (fun _ S' => S'.obj p = some (.cells ((Xs ++ V ++ U ++ Y).flatMap f)) ∧ KeepBut p S S') := by
  refine WC_fn (sRot nS) hT.xR hT.tR (by simp [sRot]) ?_
  simp only [List.length_append] at hb
  have w1 : IntKind.i64.wrap ((m : Int) - (a : Int)) = (U.length : Int) := by rw [IntKind.wrap_i64]; omega
  have w2 : IntKind.i64.wrap ((b : Int) - (m : Int)) = (V.length : Int) := by rw [IntKind.wrap_i64]; omega
  simp only [sRot, w1, w2, go_sem, ↓reduceIte, reduceCtorEq, Nat.reduceEqDiff, Nat.reduceAdd, Nat.reduceSub, Nat.reduceMul, Nat.reduceLeDiff, Nat.reduceLT, loadA, rdCells, storeA, setAt, binA]
  refine W_loop_nat (fun k e s => ∃ P u v Q, k = u.length + v.length ∧ 0 < u.length ∧ 0 < v.length ∧ P.length + u.length = m ∧ (P ++ u ++ v ++ Q).length = n ∧ e 0 = .msl p 0 n 4 ∧ e 2 = .int .i64 m ∧ e 4 = cv ∧ e 10 = .int .i64 (u.length : Nat) ∧ e 11 = .int .i64 (v.length : Nat) ∧
      P ++ v ++ u ++ Q = Xs ++ V ++ U ++ Y ∧ s.obj p = some (.cells ((P ++ u ++ v ++ Q).flatMap f)) ∧ KeepBut p S s) ?_ (U.length + V.length) _ _ ⟨Xs, U, V, Y, rfl, hU, hV, hm.symm, hn.symm, by simp only [go_sem, ↓reduceIte, reduceCtorEq, Nat.reduceEqDiff, Nat.reduceAdd, Nat.reduceSub, Nat.reduceMul, Nat.reduceLeDiff, Nat.reduceLT, loadA, rdCells, storeA, setAt, binA], by simp only [go_sem, ↓reduceIte, reduceCtorEq, Nat.reduceEqDiff, Nat.reduceAdd, Nat.reduceSub, Nat.reduceMul, Nat.reduceLeDiff, Nat.reduceLT, loadA, rdCells, storeA, setAt, binA], by simp only [go_sem, ↓reduceIte, reduceCtorEq, Nat.reduceEqDiff, Nat.reduceAdd, Nat.reduceSub, Nat.reduceMul, Nat.reduceLeDiff, Nat.reduceLT, loadA, rdCells, storeA, setAt, binA], by simp only [go_sem, ↓reduceIte, reduceCtorEq, Nat.reduceEqDiff, Nat.reduceAdd, Nat.reduceSub, Nat.reduceMul, Nat.reduceLeDiff, Nat.reduceLT, loadA, rdCells, storeA, setAt, binA], by simp only [go_sem, ↓reduceIte, reduceCtorEq, Nat.reduceEqDiff, Nat.reduceAdd, Nat.reduceSub, Nat.reduceMul, Nat.reduceLeDiff, Nat.reduceLT, loadA, rdCells, storeA, setAt, binA], rfl, ho, KeepBut.refl _ _⟩
  rintro k e s ⟨P, u, v, Q, rfl, hu, hv, hPm, hlen, e0, e2, e4, e10, e11, heq, hs, hk⟩
  have hlen2 := hlen
  simp only [List.length_append] at hlen2 hn
  have v1 : IntKind.i64.wrap ((m : Int) - (u.length : Int)) = (P.length : Int) := by rw [IntKind.wrap_i64]; omega
  by_cases hij : u.length = v.length
  · have hd : ((u.length : Int) != (v.length : Int)) = false := by simp [hij]
    have sw := swp_law hT hP P u [] v Q hij (by simp only [List.append_nil, List.length_append]; omega) cv (by simpa using hs) (n := n) (a := P.length) (b := m) (k := u.length) (by simp only [List.append_nil, List.length_append]; omega) rfl (by simp; omega) rfl
    simp only [sRot_l0, e0, e2, e4, e10, e11, hd, v1, go_sem, ↓reduceIte, reduceCtorEq, Nat.reduceEqDiff, Nat.reduceAdd, Nat.reduceSub, Nat.reduceMul, Nat.reduceLeDiff, Nat.reduceLT, loadA, rdCells, storeA, setAt, binA]
    refine WO_callx [.msl p 0 n 4, .int .i64 P.length, .int .i64 m, .int .i64 u.length, cv] (by simp only [e4, go_sem, ↓reduceIte, reduceCtorEq, Nat.reduceEqDiff, Nat.reduceAdd, Nat.reduceSub, Nat.reduceMul, Nat.reduceLeDiff, Nat.reduceLT, loadA, rdCells, storeA, setAt, binA]) (sw.mono ?_)
    rintro w s1 ⟨h1, k1⟩
    simp only [go_sem, ↓reduceIte, reduceCtorEq, Nat.reduceEqDiff, Nat.reduceAdd, Nat.reduceSub, Nat.reduceMul, Nat.reduceLeDiff, Nat.reduceLT, loadA, rdCells, storeA, setAt, binA]
    refine ⟨by simp, _, rfl, ?_, hk.trans k1⟩
    rw [h1, ← heq]; simp
  · have hd : ((u.length : Int) != (v.length : Int)) = true := by simp; omega
    by_cases hgt : v.length < u.length
    · have hg : decide ((u.length : Int) > (v.length : Int)) = true := by simp; omega
      have hd2 : IntKind.i64.wrap ((u.length : Int) - (v.length : Int)) = ((u.length - v.length : Nat) : Int) := by rw [IntKind.wrap_i64]; omega
      have hsp : u = u.take v.length ++ u.drop v.length := (List.take_append_drop _ _).symm
      have hl1 : (u.take v.length).length = v.length := by simp; omega
      have hl2 : (u.drop v.length).length = u.length - v.length := by simp
      have hs' : s.obj p = some (.cells ((P ++ u.take v.length ++ u.drop v.length ++ v ++ Q).flatMap f)) := by
        rw [hs]; conv => lhs; rw [hsp]
        simp
      have sw := swp_law hT hP P (u.take v.length) (u.drop v.length) v Q hl1 (by simp only [List.length_append, hl1, hl2]; omega) cv hs' (n := n) (a := P.length) (b := m) (k := v.length) (by simp only [List.length_append, hl1, hl2]; omega) rfl (by rw [hl1, hl2]; omega) hl1.symm
      simp only [sRot_l0, e0, e2, e4, e10, e11, hd, hg, v1, go_sem, ↓reduceIte, reduceCtorEq, Nat.reduceEqDiff, Nat.reduceAdd, Nat.reduceSub, Nat.reduceMul, Nat.reduceLeDiff, Nat.reduceLT, loadA, rdCells, storeA, setAt, binA]
      refine WO_callx [.msl p 0 n 4, .int .i64 P.length, .int .i64 m, .int .i64 v.length, cv] (by simp only [e4, go_sem, ↓reduceIte, reduceCtorEq, Nat.reduceEqDiff, Nat.reduceAdd, Nat.reduceSub, Nat.reduceMul, Nat.reduceLeDiff, Nat.reduceLT, loadA, rdCells, storeA, setAt, binA]) (sw.mono ?_)
      rintro w s1 ⟨h1, k1⟩
      simp only [e0, e2, e4, e10, e11, hd2, go_sem, ↓reduceIte, reduceCtorEq, Nat.reduceEqDiff, Nat.reduceAdd, Nat.reduceSub, Nat.reduceMul, Nat.reduceLeDiff, Nat.reduceLT, loadA, rdCells, storeA, setAt, binA]
      refine ⟨u.length - v.length + v.length, by omega, P ++ v, u.drop v.length, u.take v.length, Q, by rw [hl1, hl2], by omega, by omega, by simp only [List.length_append, hl2]; omega, by simp only [List.length_append, hl1, hl2]; omega, by rw [hl2], by rw [hl1], ?_, ?_, hk.trans k1⟩
      · rw [← heq]; conv => rhs; rw [hsp]
        simp
      · rw [h1]
    · have hg : decide ((u.length : Int) > (v.length : Int)) = false := by simp; omega
      have hd2 : IntKind.i64.wrap ((v.length : Int) - (u.length : Int)) = ((v.length - u.length : Nat) : Int) := by rw [IntKind.wrap_i64]; omega
      have v2 : IntKind.i64.wrap ((m : Int) + (v.length : Int)) = ((m + v.length : Nat) : Int) := by rw [IntKind.wrap_i64]; omega
      have v3 : IntKind.i64.wrap (((m + v.length : Nat) : Int) - (u.length : Int)) = ((m + v.length - u.length : Nat) : Int) := by rw [IntKind.wrap_i64]; omega
      have hsp : v = v.take (v.length - u.length) ++ v.drop (v.length - u.length) := (List.take_append_drop _ _).symm
      have hl1 : (v.take (v.length - u.length)).length = v.length - u.length := by simp
      have hl2 : (v.drop (v.length - u.length)).length = u.length := by simp; omega
      have hs' : s.obj p = some (.cells ((P ++ u ++ v.take (v.length - u.length) ++ v.drop (v.length - u.length) ++ Q).flatMap f)) := by
        rw [hs]; conv => lhs; rw [hsp]
        simp
      have sw := swp_law hT hP P u (v.take (v.length - u.length)) (v.drop (v.length - u.length)) Q hl2.symm (by simp only [List.length_append, hl1, hl2]; omega) cv hs' (n := n) (a := P.length) (b := m + v.length - u.length) (k := u.length) (by simp only [List.length_append, hl1, hl2]; omega) rfl (by rw [hl1]; omega) rfl
      simp only [sRot_l0, e0, e2, e4, e10, e11, hd, hg, v1, v2, v3, go_sem, ↓reduceIte, reduceCtorEq, Nat.reduceEqDiff, Nat.reduceAdd, Nat.reduceSub, Nat.reduceMul, Nat.reduceLeDiff, Nat.reduceLT, loadA, rdCells, storeA, setAt, binA]
      refine WO_callx [.msl p 0 n 4, .int .i64 P.length, .int .i64 (m + v.length - u.length : Nat), .int .i64 u.length, cv] (by simp only [e4, go_sem, ↓reduceIte, reduceCtorEq, Nat.reduceEqDiff, Nat.reduceAdd, Nat.reduceSub, Nat.reduceMul, Nat.reduceLeDiff, Nat.reduceLT, loadA, rdCells, storeA, setAt, binA]) (sw.mono ?_)
      rintro w s1 ⟨h1, k1⟩
      simp only [e0, e2, e4, e10, e11, hd2, go_sem, ↓reduceIte, reduceCtorEq, Nat.reduceEqDiff, Nat.reduceAdd, Nat.reduceSub, Nat.reduceMul, Nat.reduceLeDiff, Nat.reduceLT, loadA, rdCells, storeA, setAt, binA]
      refine ⟨u.length + (v.length - u.length), by omega, P, v.drop (v.length - u.length), v.take (v.length - u.length), u ++ Q, by rw [hl1, hl2], by omega, by omega, by rw [hl2]; omega, by simp only [List.length_append, hl1, hl2]; omega, by rw [hl2], by rw [hl1], ?_, ?_, hk.trans k1⟩
      · rw [← heq]; conv => rhs; rw [hsp]
        simp
      · rw [h1]; simp

theorem WR_callv {e : Env} {s : St} {R : Env → St → Prop} {d : Option Nat} {x : Opd} {args : List Opd} {r : List CO} (g : Nat) (cap as' : List AV) (hx : x.ev e = .func g cap) (ha : args.map (Opd.ev e) ++ cap = as')
    (h : WC T X g as' s (fun v s1 => WR T X r (e.put d v) s1 R)) : WR T X (⟨d, none, .callv x args⟩ :: r) e s R := by
  subst ha
  obtain ⟨n, v, s1, h1, m, e', s', h2, h3⟩ := h
  refine ⟨max n m, e', s', ?_, h3⟩
  simp only [evRest, isAlloc, wantedA, if_true]
  rw [if_neg (by simp)]
  simp only [evOp, hx]
  rw [call_mono (Nat.le_max_left n m) _ _ _ _ h1]
  exact evRest_mono (call_mono (Nat.le_max_right n m)) _ _ _ _ h2
theorem wr_gcallv {e : Env} {s : St} {R : Env → St → Prop} {d : Option Nat} {x : Opd} {args : List Opd} {r : List CO} {g : Option Nat × Bool} : WR T X (⟨d, some g, .callv x args⟩ :: r) e s R ↔ GrdR T X (wantedA e (some g)) d (.callv x args) r e s R := wr_guard (Or.inr rfl)

/-- The function that compares. -/
def Cmps (T : Nat → Option CF) (X : Ext) (f : α → List AV) (g : Nat) (cap : List AV) (lt : α → α → Bool) : Prop :=
  ∀ x y S, WC T X g ([.agg (f x), .agg (f y)] ++ cap) S (fun v S' => ∃ c : Int, v = .int .i64 c ∧ decide (c < 0) = lt x y ∧ Keep S S')

theorem take1_srt {lt : α → α → Bool} (U : List α) : isort lt (U.take 1) = U.take 1 := by
  cases U <;> rfl

set_option maxHeartbeats 1000000 in
theorem ins_law (hT : SortT T X nI nM nR nS) (hP : Plain f 4) {lt : α → α → Bool} (O : Ord lt) {g : Nat} {cap : List AV} (hc : Cmps T X f g cap lt) (Xs U Y : List α) (hb : (Xs ++ U ++ Y).length ≤ 4398046511104) {p : Nat} {S : St} (hp : p < S.size) (ho : S.obj p = some (.cells ((Xs ++ U ++ Y).flatMap f))) {n a b : Nat}
    (hn : n = (Xs ++ U ++ Y).length) (ha : a = Xs.length) (hbb : b = Xs.length + U.length) :
    WC T X nI [.msl p 0 n 4, .int .i64 a, .int .i64 b, .func g cap] S (fun _ S' => S'.obj p = some (.cells ((Xs ++ isort lt U ++ Y).flatMap f)) ∧ KeepBut p S S') := by
  refine WC_fn sIns hT.xI hT.tI (by simp [sIns]) ?_
  simp only [List.length_append] at hb
  have w1 : IntKind.i64.wrap ((a : Int) + 1) = ((a + 1 : Nat) : Int) := by rw [IntKind.wrap_i64]; omega
  simp only [sIns, w1, go_sem, ↓reduceIte, reduceCtorEq, Nat.reduceEqDiff, Nat.reduceAdd, Nat.reduceSub, Nat.reduceMul, Nat.reduceLeDiff, Nat.reduceLT, loadA, rdCells, storeA, setAt, binA]
  refine W_loop_nat (fun k e s => ∃ c, 1 ≤ c ∧ c + k = U.length + 1 ∧ e 0 = .msl p 0 n 4 ∧ e 1 = .int .i64 a ∧ e 2 = .int .i64 b ∧ e 3 = .func g cap ∧ e 8 = .int .i64 (a + c : Nat) ∧ s.obj p = some (.cells ((Xs ++ isort lt (U.take c) ++ U.drop c ++ Y).flatMap f)) ∧ KeepBut p S s) ?_ U.length _ _
    ⟨1, by omega, by omega, by simp only [go_sem, ↓reduceIte, reduceCtorEq, Nat.reduceEqDiff, Nat.reduceAdd, Nat.reduceSub, Nat.reduceMul, Nat.reduceLeDiff, Nat.reduceLT, loadA, rdCells, storeA, setAt, binA], by simp only [go_sem, ↓reduceIte, reduceCtorEq, Nat.reduceEqDiff, Nat.reduceAdd, Nat.reduceSub, Nat.reduceMul, Nat.reduceLeDiff, Nat.reduceLT, loadA, rdCells, storeA, setAt, binA], by simp only [go_sem, ↓reduceIte, reduceCtorEq, Nat.reduceEqDiff, Nat.reduceAdd, Nat.reduceSub, Nat.reduceMul, Nat.reduceLeDiff, Nat.reduceLT, loadA, rdCells, storeA, setAt, binA], by simp only [go_sem, ↓reduceIte, reduceCtorEq, Nat.reduceEqDiff, Nat.reduceAdd, Nat.reduceSub, Nat.reduceMul, Nat.reduceLeDiff, Nat.reduceLT, loadA, rdCells, storeA, setAt, binA], by simp only [go_sem, ↓reduceIte, reduceCtorEq, Nat.reduceEqDiff, Nat.reduceAdd, Nat.reduceSub, Nat.reduceMul, Nat.reduceLeDiff, Nat.reduceLT, loadA, rdCells, storeA, setAt, binA], by rw [take1_srt, ho, List.append_assoc Xs (List.take 1 U), List.take_append_drop], KeepBut.refl _ _⟩
  rintro k e s ⟨c, hc1, hck, e0, e1, e2, e3, e8, hs, hk⟩
  by_cases hi : c < U.length
  · have hd : decide (((a + c : Nat) : Int) < (b : Int)) = true := by simp; omega
    obtain ⟨x, hx⟩ : ∃ x, U[c]? = some x := ⟨_, List.getElem?_eq_getElem hi⟩
    have dx : U.drop c = x :: U.drop (c + 1) := by rw [List.drop_eq_getElem_cons hi]; congr 1; rw [List.getElem?_eq_getElem hi] at hx; exact Option.some.inj hx
    have tx : U.take (c + 1) = U.take c ++ [x] := by rw [List.take_add_one, hx]; rfl
    have hsl : (isort lt (U.take c)).length = c := by rw [Go.So.isort_len]; simp; omega
    have hss := Go.So.isort_srt O (U.take c)
    have w2 : IntKind.i64.wrap (((a + c : Nat) : Int) + 1) = ((a + (c + 1) : Nat) : Int) := by rw [IntKind.wrap_i64]; omega
    simp only [sIns_l1, e0, e1, e2, e3, e8, hd, go_sem, ↓reduceIte, reduceCtorEq, Nat.reduceEqDiff, Nat.reduceAdd, Nat.reduceSub, Nat.reduceMul, Nat.reduceLeDiff, Nat.reduceLT, loadA, rdCells, storeA, setAt, binA]
    refine W_loop_nat (fun k2 e' s' => ∃ A B, k2 = A.length ∧ A ++ B = isort lt (U.take c) ∧ (∀ b, b ∈ B → lt x b = true) ∧ e' 0 = .msl p 0 n 4 ∧ e' 1 = .int .i64 a ∧ e' 2 = .int .i64 b ∧ e' 3 = .func g cap ∧ e' 8 = .int .i64 (a + c : Nat) ∧ e' 9 = .int .i64 (a + A.length : Nat) ∧
      s'.obj p = some (.cells ((Xs ++ (A ++ x :: B) ++ U.drop (c + 1) ++ Y).flatMap f)) ∧ KeepBut p S s') ?_ c _ _ ⟨isort lt (U.take c), [], hsl.symm, by simp, by simp, by simp only [e0, go_sem, ↓reduceIte, reduceCtorEq, Nat.reduceEqDiff, Nat.reduceAdd, Nat.reduceSub, Nat.reduceMul, Nat.reduceLeDiff, Nat.reduceLT, loadA, rdCells, storeA, setAt, binA], by simp only [e1, go_sem, ↓reduceIte, reduceCtorEq, Nat.reduceEqDiff, Nat.reduceAdd, Nat.reduceSub, Nat.reduceMul, Nat.reduceLeDiff, Nat.reduceLT, loadA, rdCells, storeA, setAt, binA], by simp only [e2, go_sem, ↓reduceIte, reduceCtorEq, Nat.reduceEqDiff, Nat.reduceAdd, Nat.reduceSub, Nat.reduceMul, Nat.reduceLeDiff, Nat.reduceLT, loadA, rdCells, storeA, setAt, binA], by simp only [e3, go_sem, ↓reduceIte, reduceCtorEq, Nat.reduceEqDiff, Nat.reduceAdd, Nat.reduceSub, Nat.reduceMul, Nat.reduceLeDiff, Nat.reduceLT, loadA, rdCells, storeA, setAt, binA], by simp only [e8, go_sem, ↓reduceIte, reduceCtorEq, Nat.reduceEqDiff, Nat.reduceAdd, Nat.reduceSub, Nat.reduceMul, Nat.reduceLeDiff, Nat.reduceLT, loadA, rdCells, storeA, setAt, binA], by simp only [hsl, go_sem, ↓reduceIte, reduceCtorEq, Nat.reduceEqDiff, Nat.reduceAdd, Nat.reduceSub, Nat.reduceMul, Nat.reduceLeDiff, Nat.reduceLT, loadA, rdCells, storeA, setAt, binA], by rw [hs, dx]; simp, hk⟩
    rintro k2 e' s' ⟨A, B, rfl, hAB, hB, f0, f1, f2, f3, f8, f9, hs', hk'⟩
    have hABl : A.length + B.length = c := by rw [← List.length_append, hAB, hsl]
    -- what is left when it stands
    have done : (∀ y, y ∈ A → lt x y = false) → s'.obj p = some (.cells ((Xs ++ isort lt (U.take (c + 1)) ++ U.drop (c + 1) ++ Y).flatMap f)) := by
      intro hA
      rw [hs']
      have h1 := Go.So.isort_snoc O A B x (by rw [hAB]; exact hss) hA hB
      have h2 := Go.So.isort_congr O (X := []) (Y := [x]) (Go.So.isort_idem O (U.take c))
      simp only [List.nil_append] at h2
      rw [h1, hAB, h2, tx]
    rcases List.eq_nil_or_concat A with rfl | ⟨A', y, hAy⟩
    · have hd2 : decide ((a : Int) > (a : Int)) = false := by simp
      simp only [sIns_l0, f0, f1, f2, f3, f8, f9, hd2, wr_guards, wr_gcallv, w2, go_sem, ↓reduceIte, reduceCtorEq, Nat.reduceEqDiff, Nat.reduceAdd, Nat.reduceSub, Nat.reduceMul, Nat.reduceLeDiff, Nat.reduceLT, loadA, rdCells, storeA, setAt, binA]
      exact ⟨k - 1, by omega, c + 1, by omega, by omega, rfl, done (by simp), hk'⟩
    · rw [List.concat_eq_append] at hAy
      subst hAy
      have hAl : (A' ++ [y]).length = A'.length + 1 := by simp
      have hd2 : decide (((a + (A' ++ [y]).length : Nat) : Int) > (a : Int)) = true := by simp; omega
      have w3 : IntKind.i64.wrap (((a + (A' ++ [y]).length : Nat) : Int) - 1) = ((a + A'.length : Nat) : Int) := by rw [IntKind.wrap_i64]; omega
      have hlen : (Xs ++ (A' ++ [y] ++ x :: B) ++ U.drop (c + 1) ++ Y).length = Xs.length + U.length + Y.length := by simp at hABl ⊢; omega
      simp only [List.length_append] at hn
      have a1 := maddr (p := p) (n := n) (i := a + (A' ++ [y]).length) (by rw [hAl]; omega)
      have a2 := maddr (p := p) (n := n) (i := a + A'.length) (by rw [hAl] at hABl; omega)
      have q1 : Xs ++ (A' ++ [y] ++ x :: B) ++ U.drop (c + 1) ++ Y = (Xs ++ A' ++ [y]) ++ x :: (B ++ U.drop (c + 1) ++ Y) := by simp
      have q2 : Xs ++ (A' ++ [y] ++ x :: B) ++ U.drop (c + 1) ++ Y = (Xs ++ A') ++ y :: (x :: B ++ U.drop (c + 1) ++ Y) := by simp
      have g1 := mload hP hs' (by rw [q1]; exact get_mid _ _ x (n := a + (A' ++ [y]).length) (by simp; omega))
      have g2 := mload hP hs' (by rw [q2]; exact get_mid _ _ y (n := a + A'.length) (by simp; omega))
      simp only [sIns_l0, f0, f1, f2, f3, f8, f9, hd2, wr_guards, wr_gcallv, w3, a1, a2, g1, g2, go_sem, ↓reduceIte, reduceCtorEq, Nat.reduceEqDiff, Nat.reduceAdd, Nat.reduceSub, Nat.reduceMul, Nat.reduceLeDiff, Nat.reduceLT, binA]
      refine WR_callv g cap ([.agg (f x), .agg (f y)] ++ cap) (by simp only [f3, go_sem, ↓reduceIte, reduceCtorEq, Nat.reduceEqDiff, Nat.reduceAdd, Nat.reduceSub, Nat.reduceMul, Nat.reduceLeDiff, Nat.reduceLT, loadA, rdCells, storeA, setAt, binA]) (by simp only [go_sem, ↓reduceIte, reduceCtorEq, Nat.reduceEqDiff, Nat.reduceAdd, Nat.reduceSub, Nat.reduceMul, Nat.reduceLeDiff, Nat.reduceLT, loadA, rdCells, storeA, setAt, binA]) ((hc x y s').mono ?_)
      rintro v s1 ⟨z, rfl, hz, hk1⟩
      have hp1 : p < s'.size := Nat.lt_of_lt_of_le hp hk'.1
      have hs1 : s1.obj p = some (.cells ((Xs ++ (A' ++ [y] ++ x :: B) ++ U.drop (c + 1) ++ Y).flatMap f)) := (hk1.2 p hp1).trans hs'
      have hk1' : KeepBut p S s1 := hk'.trans hk1.but
      cases hlt : lt x y with
      | false =>
        rw [hlt] at hz
        simp only [f0, f1, f2, f3, f8, f9, hd2, hz, w2, wr_guards, wr_gcallv, go_sem, ↓reduceIte, reduceCtorEq, Nat.reduceEqDiff, Nat.reduceAdd, Nat.reduceSub, Nat.reduceMul, Nat.reduceLeDiff, Nat.reduceLT, loadA, rdCells, storeA, setAt, binA]
        refine ⟨k - 1, by omega, c + 1, by omega, by omega, rfl, ?_, hk1'⟩
        rw [hs1, ← hs']
        refine done fun u hu => ?_
        have hsA := (Go.So.srt_app.1 (hAB ▸ hss)).1
        have hsA' := (Go.So.srt_app.1 hsA).2.2
        rcases List.mem_append.1 hu with hu | hu
        · exact O.trans u y x (hsA' u hu y (by simp)) hlt
        · rw [List.mem_singleton.1 hu]; exact hlt
      | true =>
        rw [hlt] at hz
        have g1' := mload hP hs1 (by rw [q1]; exact get_mid _ _ x (n := a + (A' ++ [y]).length) (by simp; omega))
        have g2' := mload hP hs1 (by rw [q2]; exact get_mid _ _ y (n := a + A'.length) (by simp; omega))
        have s2 := mstore hP hs1 (i := a + (A' ++ [y]).length) (by rw [hlen, hAl]; omega) y
        rw [q1, set_mid _ _ x y (n := a + (A' ++ [y]).length) (by simp; omega)] at s2
        have o2 : (s1.put p (some (.cells ((Xs ++ A' ++ [y] ++ y :: (B ++ U.drop (c + 1) ++ Y)).flatMap f)))).obj p = some (.cells ((Xs ++ A' ++ [y] ++ y :: (B ++ U.drop (c + 1) ++ Y)).flatMap f)) := put_eq
        have s3 := mstore hP o2 (i := a + A'.length) (by simp; omega) x
        have r3 : (Xs ++ A' ++ [y] ++ y :: (B ++ U.drop (c + 1) ++ Y)).set (a + A'.length) x = Xs ++ (A' ++ x :: y :: B) ++ U.drop (c + 1) ++ Y := by
          have : Xs ++ A' ++ [y] ++ y :: (B ++ U.drop (c + 1) ++ Y) = (Xs ++ A') ++ y :: (y :: (B ++ U.drop (c + 1) ++ Y)) := by simp
          rw [this, set_mid _ _ y x (by simp; omega)]; simp
        rw [r3] at s3
        simp only [f0, f1, f2, f3, f8, f9, hd2, hz, w3, a1, a2, g1', g2', s2, s3, wr_guards, wr_gcallv, go_sem, ↓reduceIte, reduceCtorEq, Nat.reduceEqDiff, Nat.reduceAdd, Nat.reduceSub, Nat.reduceMul, Nat.reduceLeDiff, Nat.reduceLT, binA]
        refine ⟨A'.length, by simp, A', y :: B, rfl, by rw [← hAB]; simp, ?_, rfl, ?_, ?_⟩
        · intro b hb
          rcases List.mem_cons.1 hb with rfl | hb
          · exact hlt
          · exact hB b hb
        · rfl
        · exact (hk1'.put _).put _
  · have hd : decide (((a + c : Nat) : Int) < (b : Int)) = false := by simp; omega
    simp only [sIns_l1, e0, e1, e2, e3, e8, hd, go_sem, ↓reduceIte, reduceCtorEq, Nat.reduceEqDiff, Nat.reduceAdd, Nat.reduceSub, Nat.reduceMul, Nat.reduceLeDiff, Nat.reduceLT, loadA, rdCells, storeA, setAt, binA]
    refine ⟨by simp, _, rfl, ?_, hk⟩
    rw [hs, List.take_of_length_le (by omega), List.drop_eq_nil_of_le (by omega)]
    simp
end
end Go.Am

/- Guarded steps, blocks and clear in regions of no order. Conditions: none. -/
namespace Go.Am
set_option maxRecDepth 100000
set_option linter.unusedSimpArgs false

/-- A guarded step of a region whose order is open. -/
def GrdT (T : Nat → Option CF) (X : Ext) (b : Bool) (d : Option Nat) (o : COp) (r : List CO) (e : Env) (s : St) (U : List (Env × St) → Env → St → Prop) : Prop :=
  if b = true then (∃ v s1, evOp noCall o e s = some (v, s1) ∧ WT T X r (e.put d v) s1 (Tr e s U)) else WT T X r (e.put d undefA) s (Tr e s U)
theorem wt_grd {T : Nat → Option CF} {X : Ext} {d : Option Nat} {o : COp} {r : List CO} {g : Option Nat × Bool} {e : Env} {s : St} {U : List (Env × St) → Env → St → Prop} (hc : opk o = 0) : WT T X (⟨d, some g, o⟩ :: r) e s U ↔ GrdT T X (wantedA e (some g)) d o r e s U := by
  have ha := opk_alloc hc
  unfold GrdT
  constructor
  · rintro ⟨n, e', s', h, hq⟩
    by_cases hg : wantedA e (some g) = true
    · rw [if_pos hg]
      simp only [evRest, ha] at h
      rw [if_neg (by simp), if_pos hg, evOp_pure (by omega)] at h
      split at h
      · rename_i v s1 h1
        refine ⟨v, s1, h1, n, e', s', h, ?_⟩
        simp only [evTr, ha] at hq
        rw [if_neg (by simp), if_pos hg, evOp_pure (by omega), h1] at hq
        exact hq
      · cases h
    · rw [if_neg hg]
      simp only [evRest, ha] at h
      rw [if_neg (by simp), if_neg hg] at h
      refine ⟨n, e', s', h, ?_⟩
      simp only [evTr, ha] at hq
      rw [if_neg (by simp), if_neg hg] at hq
      exact hq
  · intro h
    split at h
    · rename_i hg
      obtain ⟨v, s1, h1, h2⟩ := h
      exact WT_op ha hg h1 h2
    · rename_i hg
      exact WT_off ha (by simpa using hg) h
theorem wt_gs : (∀ (T : Nat → Option CF) (X : Ext) (d : Option Nat) (r : List CO) (g : Option Nat × Bool) (e : Env) (s : St) (U : List (Env × St) → Env → St → Prop) x0, WT T X (⟨d, some g, .mv x0⟩ :: r) e s U ↔ GrdT T X (wantedA e (some g)) d (.mv x0) r e s U) ∧
    (∀ (T : Nat → Option CF) (X : Ext) (d : Option Nat) (r : List CO) (g : Option Nat × Bool) (e : Env) (s : St) (U : List (Env × St) → Env → St → Prop) x0 x1 x2, WT T X (⟨d, some g, .bin x0 x1 x2⟩ :: r) e s U ↔ GrdT T X (wantedA e (some g)) d (.bin x0 x1 x2) r e s U) ∧
    (∀ (T : Nat → Option CF) (X : Ext) (d : Option Nat) (r : List CO) (g : Option Nat × Bool) (e : Env) (s : St) (U : List (Env × St) → Env → St → Prop) x0 x1 x2, WT T X (⟨d, some g, .load x0 x1 x2⟩ :: r) e s U ↔ GrdT T X (wantedA e (some g)) d (.load x0 x1 x2) r e s U) ∧
    (∀ (T : Nat → Option CF) (X : Ext) (d : Option Nat) (r : List CO) (g : Option Nat × Bool) (e : Env) (s : St) (U : List (Env × St) → Env → St → Prop) x0 x1 x2, WT T X (⟨d, some g, .iaddr x0 x1 x2⟩ :: r) e s U ↔ GrdT T X (wantedA e (some g)) d (.iaddr x0 x1 x2) r e s U) ∧
    (∀ (T : Nat → Option CF) (X : Ext) (d : Option Nat) (r : List CO) (g : Option Nat × Bool) (e : Env) (s : St) (U : List (Env × St) → Env → St → Prop) x0 x1 x2, WT T X (⟨d, some g, .pick x0 x1 x2⟩ :: r) e s U ↔ GrdT T X (wantedA e (some g)) d (.pick x0 x1 x2) r e s U) ∧
    (∀ (T : Nat → Option CF) (X : Ext) (d : Option Nat) (r : List CO) (g : Option Nat × Bool) (e : Env) (s : St) (U : List (Env × St) → Env → St → Prop) x0, WT T X (⟨d, some g, .len x0⟩ :: r) e s U ↔ GrdT T X (wantedA e (some g)) d (.len x0) r e s U) ∧
    (∀ (T : Nat → Option CF) (X : Ext) (d : Option Nat) (r : List CO) (g : Option Nat × Bool) (e : Env) (s : St) (U : List (Env × St) → Env → St → Prop) x0, WT T X (⟨d, some g, .lens x0⟩ :: r) e s U ↔ GrdT T X (wantedA e (some g)) d (.lens x0) r e s U) ∧
    (∀ (T : Nat → Option CF) (X : Ext) (d : Option Nat) (r : List CO) (g : Option Nat × Bool) (e : Env) (s : St) (U : List (Env × St) → Env → St → Prop) x0 x1, WT T X (⟨d, some g, .faddr x0 x1⟩ :: r) e s U ↔ GrdT T X (wantedA e (some g)) d (.faddr x0 x1) r e s U) ∧
    (∀ (T : Nat → Option CF) (X : Ext) (d : Option Nat) (r : List CO) (g : Option Nat × Bool) (e : Env) (s : St) (U : List (Env × St) → Env → St → Prop) x0, WT T X (⟨d, some g, .nilc x0⟩ :: r) e s U ↔ GrdT T X (wantedA e (some g)) d (.nilc x0) r e s U) ∧
    (∀ (T : Nat → Option CF) (X : Ext) (d : Option Nat) (r : List CO) (g : Option Nat × Bool) (e : Env) (s : St) (U : List (Env × St) → Env → St → Prop) x0 x1 x2 x3, WT T X (⟨d, some g, .fld x0 x1 x2 x3⟩ :: r) e s U ↔ GrdT T X (wantedA e (some g)) d (.fld x0 x1 x2 x3) r e s U) := by
  refine ⟨?_, ?_, ?_, ?_, ?_, ?_, ?_, ?_, ?_, ?_⟩ <;> intros <;> exact wt_grd rfl
theorem grdT_t {T : Nat → Option CF} {X : Ext} {d : Option Nat} {o : COp} {r : List CO} {e : Env} {s : St} {U : List (Env × St) → Env → St → Prop} : GrdT T X true d o r e s U ↔ StpT T X (evOp noCall o e s) d r e (Tr e s U) := by simp [GrdT, StpT]
theorem grdT_f {T : Nat → Option CF} {X : Ext} {d : Option Nat} {o : COp} {r : List CO} {e : Env} {s : St} {U : List (Env × St) → Env → St → Prop} : GrdT T X false d o r e s U ↔ WT T X r (e.put d undefA) s (Tr e s U) := by simp [GrdT]
theorem WT_callg {T : Nat → Option CF} {X : Ext} {d : Option Nat} {f : Nat} {args : List Opd} {r : List CO} {g : Option (Option Nat × Bool)} {e : Env} {s : St} {U : List (Env × St) → Env → St → Prop} (as' : List AV) (hg : wantedA e g = true) (ha : args.map (Opd.ev e) = as')
    (h : WC T X f as' s (fun v s1 => WT T X r (e.put d v) s1 (Tr e s U))) : WT T X (⟨d, g, .call f args⟩ :: r) e s U := by
  subst ha; exact WT_call hg h

theorem wt_alloc {T : Nat → Option CF} {X : Ext} {d : Option Nat} {g : Option (Option Nat × Bool)} {zs : List AV} {r : List CO} {e : Env} {s : St} {U : List (Env × St) → Env → St → Prop} : WT T X (⟨d, g, .alloc zs⟩ :: r) e s U ↔ WT T X r e s (Tr e s U) := by
  refine ⟨fun ⟨n, e', s', h1, h2⟩ => ⟨n, e', s', by simpa [evRest, isAlloc] using h1, by have := h2; simp only [evTr, isAlloc, if_true] at this; exact this⟩, WT_alloc⟩

end Go.Am

/- A list that grows by appending. Conditions: none. -/
namespace Go.Am
set_option linter.unusedSimpArgs false

/-- A list that grows, with its right. -/
def Grw {α : Type} (f : α → List AV) (N : Nat) (S : St) (v : AV) (l : List α) (t : Option Nat) : Prop :=
  (v = .nils ∧ l = [] ∧ t = none) ∨ ∃ k, t = some k ∧ v = .sl (l.flatMap f) l.length false (some k) ∧ 0 < l.length ∧ S.obj k = some .right ∧ k < S.size ∧ N ≤ k
theorem Grw.isl {α : Type} {f : α → List AV} {N : Nat} {S : St} {v : AV} {l : List α} {t : Option Nat} (h : Grw f N S v l t) : ISl f v l := by
  rcases h with ⟨rfl, rfl, -⟩ | ⟨k, -, rfl, -⟩
  · exact Or.inl ⟨rfl, rfl⟩
  · exact Or.inr ⟨_, _, rfl⟩
theorem Grw.keep {α : Type} {f : α → List AV} {N : Nat} {S S' : St} {v : AV} {l : List α} {t : Option Nat} (h : Grw f N S v l t) (hs : S.size ≤ S'.size) (hk : ∀ k, t = some k → S'.obj k = S.obj k) : Grw f N S' v l t := by
  rcases h with h | ⟨k, rfl, h2, h3, h4, h5, h6⟩
  · exact Or.inl h
  · exact Or.inr ⟨k, rfl, h2, h3, (hk k rfl).trans h4, by omega, h6⟩
theorem Grw.app {α : Type} {f : α → List AV} {z : Nat} (hP : Plain f z) {N : Nat} {S : St} {v : AV} {l : List α} {t : Option Nat} (h : Grw f N S v l t) (hN : N ≤ S.size) (x : α) {bytes : Nat} (hb : (l.length + 1) * bytes ≤ 140737488355328) :
    ∃ v' s1, appendA S false z bytes v (.sl (f x) 1 true none) = some (v', s1) ∧ Grw f N s1 v' (l ++ [x]) (some S.size) ∧ s1.size = S.size + 1 ∧ ∀ j, j < S.size → some j ≠ t → s1.obj j = S.obj j := by
  have hc : contents S z (.sl (f x) 1 true none) = some (1, f x) := by simp only [contents]; rw [if_pos (by rw [hP.len]; omega)]
  have hst : (f x).all AV.still = true := by have := hP.stills [x]; simpa using this
  have hsp : (f x).map AV.strip = f x := by have := hP.strips [x]; simpa using this
  rcases h with ⟨rfl, rfl, rfl⟩ | ⟨k, rfl, rfl, h3, h4, h5, h6⟩
  · refine ⟨.sl (f x) 1 false (some S.size), S.new .right, ?_, Or.inr ⟨S.size, rfl, by simp, by simp, new_eq rfl, by simp [St.new], hN⟩, rfl, fun j hj _ => new_ne (by omega)⟩
    simp only [appendA, hc, freshA]
    rw [if_neg (by omega), if_pos (by simpa using hb), if_neg (by simp), if_pos hst, hsp]
  · refine ⟨.sl (l.flatMap f ++ f x) (l.length + 1) false (some S.size), (S.put k none).new .right, ?_, Or.inr ⟨S.size, rfl, by simp, by simp, new_eq rfl, by simp [St.new, St.put], hN⟩, rfl, fun j hj hn => ?_⟩
    · simp only [appendA, hc, h4]
      rw [if_neg (by omega), if_pos ⟨hP.lens l, hb⟩, if_neg (by simp), if_pos ⟨hst, h3⟩, hsp]
    · rw [new_ne (by simp only [St.put]; omega), put_ne (by intro h; subst h; exact hn rfl)]
end Go.Am
