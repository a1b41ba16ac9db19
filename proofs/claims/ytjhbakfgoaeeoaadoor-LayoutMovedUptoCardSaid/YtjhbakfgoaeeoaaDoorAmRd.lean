/- The marker: blocks that end. Conditions: none. -/
import Derived.Test.YtjhbakfgoaeeoaaDoorAmRc
set_option linter.unusedSimpArgs false
set_option linter.unusedVariables false
namespace Go.Am.Y1
open Go.Am.L1 (bts_len Tk tkc tkP)
set_option maxRecDepth 100000
set_option linter.unusedSimpArgs false
attribute [local go_sem] wseq wreg wdreg wret wskip wexit wblock wcnd cnd_t cnd_f then_n then_x then_r catch_n rnd_n rnd_x rnd_r catch_x catch_r wo_nil wo_grd grdO_t grdO_f wo_ops stpO wr_nil wr_alloc wr_guards grdR_t grdR_f wr_ops stpR evAllocs evOp env0_app eput_some eput_none eset_app Opd.ev wantedA faddrA storeA setAt snew_obj snew_size sput_obj sput_size av_cells av_one av_strip av_still unA eqbA fillA fldA lensA mmA mm2 mmFold List.getD_cons_zero List.getD_cons_succ List.getD_nil List.length_cons List.length_nil List.drop_zero List.drop_succ_cons List.take_succ_cons List.take_zero List.map_cons List.map_nil List.set_cons_zero List.set_cons_succ List.all_cons List.all_nil List.getElem?_cons_zero List.getElem?_cons_succ List.nil_append List.cons_append Nat.zero_add Nat.add_zero beq_self_eq_true bt bf Bool.not_true Bool.not_false Bool.and_true Bool.true_and Bool.and_false Bool.false_and and_self and_true true_and n0 n1 n2 n3 n4 m0 m1 m2 m3 c1 retA resAs resA undefA Option.map_some Option.map_none

def closes (n : Nat) (t : Tk) : List Tk := List.replicate n (mkT 7 t)
theorem closes_snoc (n : Nat) (t : Tk) : closes n t ++ [mkT 7 t] = closes (n + 1) t := by
  rw [closes, closes, List.replicate_succ']
theorem topc_rev (r : List Cx) : topc r.reverse = r.head?.getD (0, ⟨#[]⟩) := by
  rw [topc, List.getLast?_reverse]
def pos (c : Cx) : Bool := decide (c.1 > 0)

/-- The box of a token, beside the marker. -/
structure Bx (B : Nat → Prop) (S : St) (b : Nat) (t : Tk) : Prop where
  obj : S.obj b = some (.cells (tkc t))
  in' : B b
theorem Bx.pr {B : Nat → Prop} {S S' : St} {b : Nat} {t : Tk} (h : Bx B S b t) (hp : Pr B S S') : Bx B S' b t := ⟨(hp.2 b h.in').trans h.obj, h.in'⟩
theorem Bx.lds {B : Nat → Prop} {S : St} {b : Nat} {t : Tk} (h : Bx B S b t) : loadA S true 5 (.ptr b 0) = some (.agg (tkc t)) ∧ loadA S false 1 (.ptr b 0) = some (.int .i64 t.kind) ∧ loadA S false 1 (.ptr b 3) = some (.int .i64 t.line) ∧ loadA S false 1 (.ptr b 4) = some (.int .i64 t.col) := by
  simp [loadA, rdCells, h.obj, tkc, AV.strip]

/-- A box laid in front. -/
theorem Mk.box {B : Nat → Prop} {S : St} {p : Nat} {st : List Cx} {out : List Tk} (h : Mk B S p st out) (t : Tk) :
    Mk (fun j => B j ∨ (S.size ≤ j ∧ j < S.size + 1)) (S.new (.cells (tkc t))) p st out ∧ Bx (fun j => B j ∨ (S.size ≤ j ∧ j < S.size + 1)) (S.new (.cells (tkc t))) S.size t ∧ Pr B S (S.new (.cells (tkc t))) :=
  ⟨h.keep (Keep.new _ _), ⟨new_eq rfl, Or.inr ⟨Nat.le_refl _, Nat.lt_succ_self _⟩⟩, Pr.new h.low _⟩

theorem fld0 (c : Cx) : (cxc c)[0]? = some (.int .i64 c.1) := rfl
theorem fld1 (c : Cx) : (cxc c)[1]? = some (.str c.2) := rfl

/-- One block that ends. -/
theorem close_one {B : Nat → Prop} {S : St} {p : Nat} {c : Cx} {r : List Cx} {out : List Tk} {t : Tk} (h : Mk B S p (c :: r).reverse out) (hl : r.length ≤ 100000) (ho : out.length ≤ 1000000) {Q : AV → St → Prop}
    (hq : ∀ v S', Mk B S' p r.reverse (out ++ [mkT 7 t]) → Pr B S S' → Q v S') : WC T yx 100 [.ptr p 0, .int .i64 7, .agg (tkc t)] S (fun _ S1 => WC T yx 104 [.ptr p 0] S1 Q) := by
  refine (put_law h ho 7 t).mono ?_
  rintro v S1 ⟨h1, k1⟩
  rw [List.reverse_cons] at h1
  refine (pop_law h1 (by simpa using hl)).mono ?_
  rintro v2 S2 ⟨h2, k2⟩
  exact hq v2 S2 h2 (k1.trans k2)

set_option maxHeartbeats 1000000 in
theorem shut_law {B : Nat → Prop} {S : St} {p : Nat} {r : List Cx} {out : List Tk} (h : Mk B S p r.reverse out) (hl : r.length ≤ 100000) (ho : out.length + r.length ≤ 1000000) (t : Tk) :
    WC T yx 126 [.ptr p 0, .agg (tkc t)] S (fun _ S' => Mk B S' p (r.dropWhile pos).reverse (out ++ closes (r.takeWhile pos).length t) ∧ Pr B S S') := by
  refine WC_fn cf126 rfl T126 (by simp [cf126]) ?_
  obtain ⟨hm, hb, hp⟩ := h.box t
  generalize hB : (fun j => B j ∨ (S.size ≤ j ∧ j < S.size + 1)) = B1 at *
  generalize hS1 : S.new (.cells (tkc t)) = S1 at *
  simp only [cf126, go_sem, ↓reduceIte, reduceCtorEq, Nat.reduceEqDiff, Nat.reduceAdd, Nat.reduceSub, Nat.reduceMul, Nat.reduceLeDiff, Nat.reduceLT, binA]
  rw [hS1]
  refine W_loop_nat (fun k e S2 => ∃ (r1 : List Cx) (n : Nat), k = r1.length ∧ e 0 = .ptr p 0 ∧ e 3 = .ptr S.size 0 ∧ Mk B1 S2 p r1.reverse (out ++ closes n t) ∧ Pr B1 S1 S2 ∧ r.dropWhile pos = r1.dropWhile pos ∧ n + (r1.takeWhile pos).length = (r.takeWhile pos).length ∧ n + r1.length = r.length) ?_ r.length _ _
    ⟨r, 0, rfl, by simp only [go_sem, ↓reduceIte, reduceCtorEq, Nat.reduceEqDiff, Nat.reduceAdd, Nat.reduceSub, Nat.reduceMul, Nat.reduceLeDiff, Nat.reduceLT, loadA, rdCells, binA], by simp only [go_sem, ↓reduceIte, reduceCtorEq, Nat.reduceEqDiff, Nat.reduceAdd, Nat.reduceSub, Nat.reduceMul, Nat.reduceLeDiff, Nat.reduceLT, loadA, rdCells, binA], by simpa [closes] using hm, Pr.refl _ _, rfl, by omega, by omega⟩
  rintro k e S2 ⟨r1, n, rfl, e0, e3, hm2, hp2, hd, hn, hln⟩
  have hoc : (out ++ closes n t).length = out.length + n := by simp [closes]
  simp only [cf126_l0, e0, go_sem, ↓reduceIte, reduceCtorEq, Nat.reduceEqDiff, Nat.reduceAdd, Nat.reduceSub, Nat.reduceMul, Nat.reduceLeDiff, Nat.reduceLT, binA]
  refine WO_callx [.ptr p 0] (by simp only [go_sem, ↓reduceIte, reduceCtorEq, Nat.reduceEqDiff, Nat.reduceAdd, Nat.reduceSub, Nat.reduceMul, Nat.reduceLeDiff, Nat.reduceLT, loadA, rdCells, binA]) ((top_law hm2 (by simp; omega)).mono ?_)
  rintro v S3 ⟨rfl, hk3⟩
  have hm3 := hm2.keep' hk3
  have hp3 := hp2.trans (Pr.keep hm2 hk3)
  rw [topc_rev]
  cases r1 with
  | nil =>
    have hg : decide ((0 : Int) > 0) = false := rfl
    simp only [List.head?_nil, Option.getD_none, fld0, hg, go_sem, ↓reduceIte, reduceCtorEq, Nat.reduceEqDiff, Nat.reduceAdd, Nat.reduceSub, Nat.reduceMul, Nat.reduceLeDiff, Nat.reduceLT, binA]
    rw [← hB] at hm3 hp3
    simp only [List.takeWhile_nil, List.length_nil, Nat.add_zero] at hn
    rw [hd, ← hn]
    exact ⟨by simp, _, rfl, hm3.less fun _ hj => Or.inl hj, hp.trans (hp3.less fun _ hj => Or.inl hj)⟩
  | cons c r2 =>
    simp only [List.head?_cons, Option.getD_some, fld0, go_sem, ↓reduceIte, reduceCtorEq, Nat.reduceEqDiff, Nat.reduceAdd, Nat.reduceSub, Nat.reduceMul, Nat.reduceLeDiff, Nat.reduceLT, binA]
    cases hc : decide (c.1 > 0)
    · simp only [go_sem, ↓reduceIte, reduceCtorEq, Nat.reduceEqDiff, Nat.reduceAdd, Nat.reduceSub, Nat.reduceMul, Nat.reduceLeDiff, Nat.reduceLT, binA]
      have hpc : pos c = false := hc
      rw [← hB] at hm3 hp3
      rw [List.takeWhile_cons, hpc] at hn
      simp only [Bool.false_eq_true, if_false, List.length_nil, Nat.add_zero] at hn
      rw [List.dropWhile_cons, hpc] at hd
      simp only [Bool.false_eq_true, if_false] at hd
      rw [hd, ← hn]
      exact ⟨by simp, _, rfl, hm3.less fun _ hj => Or.inl hj, hp.trans (hp3.less fun _ hj => Or.inl hj)⟩
    · have hpc : pos c = true := hc
      have hb3 := hb.pr hp3
      simp only [e0, e3, hb3.lds.1, go_sem, ↓reduceIte, reduceCtorEq, Nat.reduceEqDiff, Nat.reduceAdd, Nat.reduceSub, Nat.reduceMul, Nat.reduceLeDiff, Nat.reduceLT, binA]
      simp only [List.length_cons] at hln
      refine WO_callx [.ptr p 0, .int .i64 7, .agg (tkc t)] (by simp only [go_sem, ↓reduceIte, reduceCtorEq, Nat.reduceEqDiff, Nat.reduceAdd, Nat.reduceSub, Nat.reduceMul, Nat.reduceLeDiff, Nat.reduceLT, loadA, rdCells, binA]) ((close_one hm3 (by omega) (by omega) (Q := fun _ S' => Mk B1 S' p r2.reverse (out ++ closes n t ++ [mkT 7 t]) ∧ Pr B1 S3 S') (fun v S' h1 h2 => ⟨h1, h2⟩)).mono ?_)
      rintro v S4 hq
      simp only [e0, go_sem, ↓reduceIte, reduceCtorEq, Nat.reduceEqDiff, Nat.reduceAdd, Nat.reduceSub, Nat.reduceMul, Nat.reduceLeDiff, Nat.reduceLT, binA]
      refine WO_callx [.ptr p 0] (by simp only [e0, go_sem, ↓reduceIte, reduceCtorEq, Nat.reduceEqDiff, Nat.reduceAdd, Nat.reduceSub, Nat.reduceMul, Nat.reduceLeDiff, Nat.reduceLT, loadA, rdCells, binA]) (hq.mono ?_)
      rintro v S5 ⟨hm5, hp5⟩
      simp only [go_sem, ↓reduceIte, reduceCtorEq, Nat.reduceEqDiff, Nat.reduceAdd, Nat.reduceSub, Nat.reduceMul, Nat.reduceLeDiff, Nat.reduceLT, binA]
      rw [List.append_assoc, closes_snoc] at hm5
      refine ⟨r2.length, by simp, r2, n + 1, rfl, e0, e3, hm5, hp3.trans hp5, ?_, ?_, by omega⟩
      · rw [hd, List.dropWhile_cons, hpc]; simp
      · rw [List.takeWhile_cons, hpc] at hn
        simp only [if_true, List.length_cons] at hn
        omega
end Go.Am.Y1

/- The marker: the first token of a line. Conditions: none. -/
namespace Go.Am.Y1
open Go.Am.L1 (bts_len Tk tkc tkP)
set_option maxRecDepth 100000
set_option linter.unusedSimpArgs false
attribute [local go_sem] wseq wreg wdreg wret wskip wexit wblock wcnd cnd_t cnd_f then_n then_x then_r catch_n rnd_n rnd_x rnd_r catch_x catch_r wo_nil wo_grd grdO_t grdO_f wo_ops stpO wr_nil wr_alloc wr_guards grdR_t grdR_f wr_ops stpR evAllocs evOp env0_app eput_some eput_none eset_app Opd.ev wantedA faddrA storeA setAt snew_obj snew_size sput_obj sput_size av_cells av_one av_strip av_still unA eqbA fillA fldA lensA mmA mm2 mmFold List.getD_cons_zero List.getD_cons_succ List.getD_nil List.length_cons List.length_nil List.drop_zero List.drop_succ_cons List.take_succ_cons List.take_zero List.map_cons List.map_nil List.set_cons_zero List.set_cons_succ List.all_cons List.all_nil List.getElem?_cons_zero List.getElem?_cons_succ List.nil_append List.cons_append Nat.zero_add Nat.add_zero beq_self_eq_true bt bf Bool.not_true Bool.not_false Bool.and_true Bool.true_and Bool.and_false Bool.false_and and_self and_true true_and n0 n1 n2 n3 n4 m0 m1 m2 m3 c1 retA resAs resA undefA Option.map_some Option.map_none

def over (t : Tk) (c : Cx) : Bool := decide (c.1 > (t.col : Int))
def hcol (r : List Cx) : Int := (r.head?.getD (0, ⟨#[]⟩)).1
def semis (r : List Cx) (t : Tk) : List Tk := if hcol r == (t.col : Int) then [mkT 8 t] else []

set_option maxHeartbeats 2000000 in
theorem line_law {B : Nat → Prop} {S : St} {p : Nat} {r : List Cx} {out : List Tk} (h : Mk B S p r.reverse out) (hl : r.length ≤ 100000) (ho : out.length + r.length + 1 ≤ 1000000) (t : Tk) :
    WC T yx 101 [.ptr p 0, .agg (tkc t)] S (fun _ S' => Mk B S' p (r.dropWhile (over t)).reverse (out ++ closes (r.takeWhile (over t)).length t ++ semis (r.dropWhile (over t)) t) ∧ Pr B S S') := by
  refine WC_fn cf101 rfl T101 (by simp [cf101]) ?_
  obtain ⟨hm, hb, hp⟩ := h.box t
  generalize hB : (fun j => B j ∨ (S.size ≤ j ∧ j < S.size + 1)) = B1 at *
  generalize hS1 : S.new (.cells (tkc t)) = S1 at *
  have hq : ∀ z : Int, AV.beq (.int .i64 z) (.int .i64 z) = true := fun z => by simp [AV.beq]
  simp only [cf101, go_sem, ↓reduceIte, reduceCtorEq, Nat.reduceEqDiff, Nat.reduceAdd, Nat.reduceSub, Nat.reduceMul, Nat.reduceLeDiff, Nat.reduceLT, binA]
  rw [hS1]
  refine W_loop_nat (fun k e S2 => ∃ (r1 : List Cx) (n : Nat), k = r1.length ∧ e 0 = .ptr p 0 ∧ e 3 = .ptr S.size 0 ∧ Mk B1 S2 p r1.reverse (out ++ closes n t) ∧ Pr B1 S1 S2 ∧ r.dropWhile (over t) = r1.dropWhile (over t) ∧ n + (r1.takeWhile (over t)).length = (r.takeWhile (over t)).length ∧ n + r1.length = r.length) ?_ r.length _ _
    ⟨r, 0, rfl, by simp only [go_sem, ↓reduceIte, reduceCtorEq, Nat.reduceEqDiff, Nat.reduceAdd, Nat.reduceSub, Nat.reduceMul, Nat.reduceLeDiff, Nat.reduceLT, loadA, rdCells, binA], by simp only [go_sem, ↓reduceIte, reduceCtorEq, Nat.reduceEqDiff, Nat.reduceAdd, Nat.reduceSub, Nat.reduceMul, Nat.reduceLeDiff, Nat.reduceLT, loadA, rdCells, binA], by simpa [closes] using hm, Pr.refl _ _, rfl, by omega, by omega⟩
  rintro k e S2 ⟨r1, n, rfl, e0, e3, hm2, hp2, hd, hn, hln⟩
  have hoc : (out ++ closes n t).length = out.length + n := by simp [closes]
  have hb2 := hb.pr hp2
  simp only [cf101_l0, e0, go_sem, ↓reduceIte, reduceCtorEq, Nat.reduceEqDiff, Nat.reduceAdd, Nat.reduceSub, Nat.reduceMul, Nat.reduceLeDiff, Nat.reduceLT, binA]
  refine W_dreg ?_
  simp only [e0, e3, hb2.lds.2.2.2, wt_ops, stpT, wt_nil, Tr, go_sem, ↓reduceIte, reduceCtorEq, Nat.reduceEqDiff, Nat.reduceAdd, Nat.reduceSub, Nat.reduceMul, Nat.reduceLeDiff, Nat.reduceLT, binA]
  refine WT_callx [.ptr p 0] (by simp only [go_sem, ↓reduceIte, reduceCtorEq, Nat.reduceEqDiff, Nat.reduceAdd, Nat.reduceSub, Nat.reduceMul, Nat.reduceLeDiff, Nat.reduceLT, loadA, rdCells, binA]) ((top_law hm2 (by simp; omega)).mono ?_)
  rintro v S3 ⟨rfl, hk3⟩
  have hm3 := hm2.keep' hk3
  have hp3 := hp2.trans (Pr.keep hm2 hk3)
  have hb3 := hb.pr hp3
  rw [topc_rev]
  simp only [e0, e3, hb2.lds.2.2.2, hb3.lds.2.2.2, fld0, wt_ops, stpT, wt_nil, Tr, chk1, hq, go_sem, ↓reduceIte, reduceCtorEq, Nat.reduceEqDiff, Nat.reduceAdd, Nat.reduceSub, Nat.reduceMul, Nat.reduceLeDiff, Nat.reduceLT, binA]
  refine ⟨by simp [hq], ?_⟩
  cases hc : decide ((r1.head?.getD (0, ⟨#[]⟩)).1 > (t.col : Int))
  · -- no more blocks end
    have hstop : r1.takeWhile (over t) = [] ∧ r1.dropWhile (over t) = r1 := by
      cases r1 with
      | nil => exact ⟨rfl, rfl⟩
      | cons c r2 =>
        have : over t c = false := hc
        rw [List.takeWhile_cons, List.dropWhile_cons, this]
        simp
    rw [hstop.1] at hn
    rw [hstop.2] at hd
    simp only [List.length_nil, Nat.add_zero] at hn
    simp only [e0, e3, go_sem, ↓reduceIte, reduceCtorEq, Nat.reduceEqDiff, Nat.reduceAdd, Nat.reduceSub, Nat.reduceMul, Nat.reduceLeDiff, Nat.reduceLT, binA]
    refine W_dreg ?_
    simp only [e0, e3, hb3.lds.2.2.2, wt_ops, stpT, wt_nil, Tr, go_sem, ↓reduceIte, reduceCtorEq, Nat.reduceEqDiff, Nat.reduceAdd, Nat.reduceSub, Nat.reduceMul, Nat.reduceLeDiff, Nat.reduceLT, binA]
    refine WT_callx [.ptr p 0] (by simp only [go_sem, ↓reduceIte, reduceCtorEq, Nat.reduceEqDiff, Nat.reduceAdd, Nat.reduceSub, Nat.reduceMul, Nat.reduceLeDiff, Nat.reduceLT, loadA, rdCells, binA]) ((top_law hm3 (by simp; omega)).mono ?_)
    rintro v S4 ⟨rfl, hk4⟩
    have hm4 := hm3.keep' hk4
    have hp4 := hp3.trans (Pr.keep hm3 hk4)
    have hb4 := hb.pr hp4
    rw [topc_rev]
    simp only [e0, e3, hb3.lds.2.2.2, hb4.lds.2.2.2, fld0, wt_ops, stpT, wt_nil, Tr, chk1, hq, go_sem, ↓reduceIte, reduceCtorEq, Nat.reduceEqDiff, Nat.reduceAdd, Nat.reduceSub, Nat.reduceMul, Nat.reduceLeDiff, Nat.reduceLT, binA]
    refine ⟨by simp [hq], ?_⟩
    have hsem : semis (r.dropWhile (over t)) t = if ((r1.head?.getD (0, ⟨#[]⟩)).1 == (t.col : Int)) then [mkT 8 t] else [] := by rw [hd]; rfl
    cases hs : ((r1.head?.getD (0, ⟨#[]⟩)).1 == (t.col : Int))
    · rw [hs] at hsem
      simp only [Bool.false_eq_true, if_false] at hsem
      simp only [go_sem, ↓reduceIte, reduceCtorEq, Nat.reduceEqDiff, Nat.reduceAdd, Nat.reduceSub, Nat.reduceMul, Nat.reduceLeDiff, Nat.reduceLT, binA]
      rw [hsem, hd, ← hn, List.append_nil]
      rw [← hB] at hm4 hp4
      exact ⟨by simp, _, rfl, hm4.less fun _ hj => Or.inl hj, hp.trans (hp4.less fun _ hj => Or.inl hj)⟩
    · rw [hs] at hsem
      simp only [if_true] at hsem
      simp only [e0, e3, hb4.lds.1, go_sem, ↓reduceIte, reduceCtorEq, Nat.reduceEqDiff, Nat.reduceAdd, Nat.reduceSub, Nat.reduceMul, Nat.reduceLeDiff, Nat.reduceLT, binA]
      refine WO_callx [.ptr p 0, .int .i64 8, .agg (tkc t)] (by simp only [go_sem, ↓reduceIte, reduceCtorEq, Nat.reduceEqDiff, Nat.reduceAdd, Nat.reduceSub, Nat.reduceMul, Nat.reduceLeDiff, Nat.reduceLT, loadA, rdCells, binA]) ((put_law hm4 (by omega) 8 t).mono ?_)
      rintro v S5 ⟨hm5, hp5⟩
      simp only [go_sem, ↓reduceIte, reduceCtorEq, Nat.reduceEqDiff, Nat.reduceAdd, Nat.reduceSub, Nat.reduceMul, Nat.reduceLeDiff, Nat.reduceLT, binA]
      rw [hsem, hd, ← hn]
      have hp6 := hp4.trans hp5
      rw [← hB] at hm5 hp6
      exact ⟨by simp, _, rfl, hm5.less fun _ hj => Or.inl hj, hp.trans (hp6.less fun _ hj => Or.inl hj)⟩
  · cases r1 with
    | nil =>
      exfalso
      have := of_decide_eq_true hc
      simp at this
      omega
    | cons c r2 =>
      have hpc : over t c = true := hc
      simp only [List.length_cons] at hln
      simp only [e0, e3, hb3.lds.1, go_sem, ↓reduceIte, reduceCtorEq, Nat.reduceEqDiff, Nat.reduceAdd, Nat.reduceSub, Nat.reduceMul, Nat.reduceLeDiff, Nat.reduceLT, binA]
      refine WO_callx [.ptr p 0, .int .i64 7, .agg (tkc t)] (by simp only [go_sem, ↓reduceIte, reduceCtorEq, Nat.reduceEqDiff, Nat.reduceAdd, Nat.reduceSub, Nat.reduceMul, Nat.reduceLeDiff, Nat.reduceLT, loadA, rdCells, binA]) ((close_one hm3 (by omega) (by omega) (Q := fun _ S' => Mk B1 S' p r2.reverse (out ++ closes n t ++ [mkT 7 t]) ∧ Pr B1 S3 S') (fun v S' h1 h2 => ⟨h1, h2⟩)).mono ?_)
      rintro v S4 hqq
      simp only [e0, go_sem, ↓reduceIte, reduceCtorEq, Nat.reduceEqDiff, Nat.reduceAdd, Nat.reduceSub, Nat.reduceMul, Nat.reduceLeDiff, Nat.reduceLT, binA]
      refine WO_callx [.ptr p 0] (by simp only [e0, go_sem, ↓reduceIte, reduceCtorEq, Nat.reduceEqDiff, Nat.reduceAdd, Nat.reduceSub, Nat.reduceMul, Nat.reduceLeDiff, Nat.reduceLT, loadA, rdCells, binA]) (hqq.mono ?_)
      rintro v S5 ⟨hm5, hp5⟩
      simp only [go_sem, ↓reduceIte, reduceCtorEq, Nat.reduceEqDiff, Nat.reduceAdd, Nat.reduceSub, Nat.reduceMul, Nat.reduceLeDiff, Nat.reduceLT, binA]
      rw [List.append_assoc, closes_snoc] at hm5
      refine ⟨r2.length, by simp, r2, n + 1, rfl, e0, e3, hm5, hp3.trans hp5, ?_, ?_, by omega⟩
      · rw [hd, List.dropWhile_cons, hpc]; simp
      · rw [List.takeWhile_cons, hpc] at hn
        simp only [if_true, List.length_cons] at hn
        omega

/-! ### Contexts that are looked through -/
/-- Contexts that can be read. -/
def CR (S : St) (v : AV) (l : List Cx) : Prop := lenA v = some (.int .i64 l.length) ∧ ∀ (j : Nat) c, l[j]? = some c → ∃ q, iaddrA 2 v (.int .i64 j) = some q ∧ ∀ S', Keep S S' → loadA S' true 2 q = some (.agg (cxc c))
theorem Stk.cr {S : St} {v : AV} {l : List Cx} (h : Stk S v l) : CR S v l := by
  refine ⟨h.len, fun j c hj => ?_⟩
  obtain ⟨i, h1, -⟩ := h.at hj
  refine ⟨_, h1, fun S' hk => ?_⟩
  obtain ⟨i', h2, h3, -⟩ := (h.of hk.1 fun i o n z hs => hk.2 i (h.size_lt i o n z hs)).at hj
  rw [h1] at h2
  cases h2
  exact h3

theorem c128_law (c : Cx) (S : St) : WC T yx 128 [.agg (cxc c)] S (fun v S' => v = .bool (c.1 == 0) ∧ Keep S S') := by
  refine WC_fn cf128 rfl T128 (by simp [cf128]) ?_
  have hl0 : loadA (S.new (.cells (cxc c))) false 1 (.ptr S.size 0) = some (.int .i64 c.1) := by simp [loadA, rdCells, St.new, cxc]
  simp only [cf128, hl0, go_sem, ↓reduceIte, reduceCtorEq, Nat.reduceEqDiff, Nat.reduceAdd, Nat.reduceSub, Nat.reduceMul, Nat.reduceLeDiff, Nat.reduceLT, binA]
  exact ⟨by simp, _, rfl, rfl, Keep.new _ _⟩
def isLet (c : Cx) : Bool := c.2.toList == wLet.toList
theorem c130_law (c : Cx) (S : St) : WC T yx 130 [.agg (cxc c)] S (fun v S' => v = .bool (isLet c) ∧ Keep S S') := by
  refine WC_fn cf130 rfl T130 (by simp [cf130]) ?_
  have hl1 : loadA (S.new (.cells (cxc c))) false 1 (.ptr S.size 1) = some (.str c.2) := by simp [loadA, rdCells, St.new, cxc]
  simp only [cf130, hl1, go_sem, ↓reduceIte, reduceCtorEq, Nat.reduceEqDiff, Nat.reduceAdd, Nat.reduceSub, Nat.reduceMul, Nat.reduceLeDiff, Nat.reduceLT, binA]
  exact ⟨by simp, _, rfl, rfl, Keep.new _ _⟩

theorem cindex_law {v : AV} {l : List Cx} (S : St) (h : CR S v l) (hb : l.length ≤ 100000) (g : Nat) (p : Cx → Bool) (hg : ∀ c S', WC T yx g [.agg (cxc c)] S' (fun v S2 => v = .bool (p c) ∧ Keep S' S2)) :
    WC T yx 141 [v, .func g []] S (fun r S' => (∃ m : Int, r = .int .i64 m ∧ decide (m ≥ 0) = l.any p) ∧ Keep S S') := by
  refine WC_fn cf141 rfl T141 (by simp [cf141]) ?_
  simp only [cf141, h.1, go_sem, ↓reduceIte, reduceCtorEq, Nat.reduceEqDiff, Nat.reduceAdd, Nat.reduceSub, Nat.reduceMul, Nat.reduceLeDiff, Nat.reduceLT, binA]
  refine W_loop_nat (fun k e S1 => ∃ i, i + k = l.length ∧ e 0 = v ∧ e 1 = .func g [] ∧ e 7 = .int .i64 l.length ∧ e 8 = .int .i64 i ∧ l.any p = (l.drop i).any p ∧ Keep S S1) ?_ l.length _ _ ⟨0, by omega, by simp only [go_sem, ↓reduceIte, reduceCtorEq, Nat.reduceEqDiff, Nat.reduceAdd, Nat.reduceSub, Nat.reduceMul, Nat.reduceLeDiff, Nat.reduceLT, loadA, rdCells, binA], by simp only [go_sem, ↓reduceIte, reduceCtorEq, Nat.reduceEqDiff, Nat.reduceAdd, Nat.reduceSub, Nat.reduceMul, Nat.reduceLeDiff, Nat.reduceLT, loadA, rdCells, binA], by simp only [go_sem, ↓reduceIte, reduceCtorEq, Nat.reduceEqDiff, Nat.reduceAdd, Nat.reduceSub, Nat.reduceMul, Nat.reduceLeDiff, Nat.reduceLT, loadA, rdCells, binA], by simp only [go_sem, ↓reduceIte, reduceCtorEq, Nat.reduceEqDiff, Nat.reduceAdd, Nat.reduceSub, Nat.reduceMul, Nat.reduceLeDiff, Nat.reduceLT, loadA, rdCells, binA]; rfl, by simp, Keep.refl S⟩
  rintro k e S1 ⟨i, hik, h0, h1, h7, h8, hf, hk⟩
  by_cases hi : i < l.length
  · obtain ⟨c, hc⟩ : ∃ c, l[i]? = some c := ⟨_, List.getElem?_eq_getElem hi⟩
    have hd : decide ((i : Int) < (l.length : Int)) = true := by simp; omega
    obtain ⟨q, hq, hr⟩ := h.2 i c hc
    have hdr : l.drop i = c :: l.drop (i + 1) := by rw [List.drop_eq_getElem_cons hi]; congr 1; exact (List.getElem?_eq_some_iff.1 hc).2
    have hw : IntKind.i64.wrap ((i : Int) + 1) = ((i + 1 : Nat) : Int) := by rw [IntKind.wrap_i64]; omega
    simp only [cf141_l0, h0, h1, h7, h8, hd, hq, hr S1 hk, go_sem, ↓reduceIte, reduceCtorEq, Nat.reduceEqDiff, Nat.reduceAdd, Nat.reduceSub, Nat.reduceMul, Nat.reduceLeDiff, Nat.reduceLT, binA]
    refine WO_callvx g [] [.agg (cxc c)] (by simp only [h1, go_sem, ↓reduceIte, reduceCtorEq, Nat.reduceEqDiff, Nat.reduceAdd, Nat.reduceSub, Nat.reduceMul, Nat.reduceLeDiff, Nat.reduceLT, loadA, rdCells, binA]) (by simp only [go_sem, ↓reduceIte, reduceCtorEq, Nat.reduceEqDiff, Nat.reduceAdd, Nat.reduceSub, Nat.reduceMul, Nat.reduceLeDiff, Nat.reduceLT, loadA, rdCells, binA]) ((hg c S1).mono ?_)
    rintro r S2 ⟨rfl, hk2⟩
    cases hp : p c <;> simp only [h0, h1, h7, h8, hw, go_sem, ↓reduceIte, reduceCtorEq, Nat.reduceEqDiff, Nat.reduceAdd, Nat.reduceSub, Nat.reduceMul, Nat.reduceLeDiff, Nat.reduceLT, loadA, rdCells, binA]
    · exact ⟨k - 1, by omega, i + 1, by omega, rfl, by rw [hf, hdr, List.any_cons, hp, Bool.false_or], hk.trans hk2⟩
    · exact ⟨by simp, _, rfl, ⟨(i : Int), rfl, by rw [hf, hdr, List.any_cons, hp, Bool.true_or]; simp⟩, hk.trans hk2⟩
  · have hd : decide ((i : Int) < (l.length : Int)) = false := by simp; omega
    simp only [cf141_l0, h0, h1, h7, h8, hd, go_sem, ↓reduceIte, reduceCtorEq, Nat.reduceEqDiff, Nat.reduceAdd, Nat.reduceSub, Nat.reduceMul, Nat.reduceLeDiff, Nat.reduceLT, binA]
    exact ⟨by simp, _, rfl, ⟨-1, rfl, by rw [hf, List.drop_eq_nil_of_le (by omega)]; rfl⟩, hk⟩

theorem cany_law {v : AV} {l : List Cx} (S : St) (h : CR S v l) (hb : l.length ≤ 100000) (g : Nat) (p : Cx → Bool) (hg : ∀ c S', WC T yx g [.agg (cxc c)] S' (fun v S2 => v = .bool (p c) ∧ Keep S' S2)) :
    WC T yx 127 [v, .func g []] S (fun r S' => r = .bool (l.any p) ∧ Keep S S') := by
  refine WC_fn cf127 rfl T127 (by simp [cf127]) ?_
  simp only [cf127, go_sem, ↓reduceIte, reduceCtorEq, Nat.reduceEqDiff, Nat.reduceAdd, Nat.reduceSub, Nat.reduceMul, Nat.reduceLeDiff, Nat.reduceLT, loadA, rdCells, binA]
  refine WO_callx [v, .func g []] (by simp only [go_sem, ↓reduceIte, reduceCtorEq, Nat.reduceEqDiff, Nat.reduceAdd, Nat.reduceSub, Nat.reduceMul, Nat.reduceLeDiff, Nat.reduceLT, loadA, rdCells, binA]) ((cindex_law S h hb g p hg).mono ?_)
  rintro r S2 ⟨⟨m, rfl, hm⟩, hk⟩
  simp only [go_sem, ↓reduceIte, reduceCtorEq, Nat.reduceEqDiff, Nat.reduceAdd, Nat.reduceSub, Nat.reduceMul, Nat.reduceLeDiff, Nat.reduceLT, loadA, rdCells, binA]
  exact ⟨by simp, _, rfl, by rw [hm], hk⟩
end Go.Am.Y1

/- The marker: tokens that end blocks. Conditions: none. -/
namespace Go.Am.Y1
open Go.Am.L1 (bts_len Tk tkc tkP)
set_option maxRecDepth 100000
set_option linter.unusedSimpArgs false
attribute [local go_sem] wseq wreg wdreg wret wskip wexit wblock wcnd cnd_t cnd_f then_n then_x then_r catch_n rnd_n rnd_x rnd_r catch_x catch_r wo_nil wo_grd grdO_t grdO_f wo_ops stpO wr_nil wr_alloc wr_guards grdR_t grdR_f wr_ops stpR evAllocs evOp env0_app eput_some eput_none eset_app Opd.ev wantedA faddrA storeA setAt snew_obj snew_size sput_obj sput_size av_cells av_one av_strip av_still unA eqbA fillA fldA lensA mmA mm2 mmFold List.getD_cons_zero List.getD_cons_succ List.getD_nil List.length_cons List.length_nil List.drop_zero List.drop_succ_cons List.take_succ_cons List.take_zero List.map_cons List.map_nil List.set_cons_zero List.set_cons_succ List.all_cons List.all_nil List.getElem?_cons_zero List.getElem?_cons_succ List.nil_append List.cons_append Nat.zero_add Nat.add_zero beq_self_eq_true bt bf Bool.not_true Bool.not_false Bool.and_true Bool.true_and Bool.and_false Bool.false_and and_self and_true true_and n0 n1 n2 n3 n4 m0 m1 m2 m3 c1 retA resAs resA undefA Option.map_some Option.map_none

theorem inner_law {B : Nat → Prop} {S : St} {p : Nat} {r : List Cx} {out : List Tk} (h : Mk B S p r.reverse out) (hl : r.length ≤ 100000) :
    WC T yx 129 [.ptr p 0] S (fun v S' => CR S' v (r.takeWhile pos).reverse ∧ Keep S S') := by
  refine WC_fn cf129 rfl T129 (by simp [cf129]) ?_
  obtain ⟨sv, ov, h1, h2, -⟩ := h.ex
  have hld : loadA S false 1 (.ptr p 0) = some sv := by simp [loadA, rdCells, h1]
  have hlen : lenA sv = some (.int .i64 r.length) := by have := h2.len; simpa using this
  simp only [cf129, hld, hlen, go_sem, ↓reduceIte, reduceCtorEq, Nat.reduceEqDiff, Nat.reduceAdd, Nat.reduceSub, Nat.reduceMul, Nat.reduceLeDiff, Nat.reduceLT, binA]
  refine W_loop_nat (fun k e S1 => S1 = S ∧ ∃ (n : Nat), k = (r.drop n).length ∧ n ≤ r.length ∧ e 0 = .ptr p 0 ∧ e 3 = .int .i64 (((r.drop n).length : Nat) : Int) ∧ n + ((r.drop n).takeWhile pos).length = (r.takeWhile pos).length) ?_ r.length _ _
    ⟨rfl, 0, by simp, by omega, by simp only [go_sem, ↓reduceIte, reduceCtorEq, Nat.reduceEqDiff, Nat.reduceAdd, Nat.reduceSub, Nat.reduceMul, Nat.reduceLeDiff, Nat.reduceLT, loadA, rdCells, binA], by simp only [go_sem, ↓reduceIte, reduceCtorEq, Nat.reduceEqDiff, Nat.reduceAdd, Nat.reduceSub, Nat.reduceMul, Nat.reduceLeDiff, Nat.reduceLT, loadA, rdCells, binA, List.drop_zero], by simp⟩
  rintro k e S1 ⟨rfl, n, hk, hnr, e0, e3, hn⟩
  have hdl : (r.drop n).length = r.length - n := List.length_drop ..
  cases hr : r.drop n with
  | nil =>
    rw [hr] at hn e3 hdl
    simp only [List.takeWhile_nil, List.length_nil, Nat.add_zero] at hn e3 hdl
    have hg : decide ((0 : Int) > 0) = false := rfl
    have e3' : e 3 = .int .i64 0 := e3
    have hall : r.takeWhile pos = r := by
      have : (r.takeWhile pos).length = r.length := by omega
      exact (List.takeWhile_prefix pos).eq_of_length this
    simp only [cf129_l0, e0, e3', hg, hld, go_sem, ↓reduceIte, reduceCtorEq, Nat.reduceEqDiff, Nat.reduceAdd, Nat.reduceSub, Nat.reduceMul, Nat.reduceLeDiff, Nat.reduceLT, binA]
    have hsl : ∃ w, slcA 2 sv (some (.int .i64 0)) none none = some w ∧ CR S1 w r.reverse := by
      rcases h2 with ⟨rfl, he⟩ | ⟨i, C, rfl, g2, g3, g4, g5⟩
      · have : r = [] := by simpa using he
        subst this
        exact ⟨.nils, rfl, rfl, fun j c hj => by cases hj⟩
      · refine ⟨.msl i 0 r.reverse.length 2, ?_, Stk.cr (Or.inr ⟨i, C, rfl, g2, g3, g4, g5⟩)⟩
        simp only [slcA, optOf, natOf]
        rw [if_pos ⟨trivial, rfl⟩, if_pos ⟨by omega, by omega⟩]
        simp only [Int.toNat_zero, Nat.zero_mul, Nat.add_zero, Nat.sub_zero]
        rw [if_pos (by rcases Nat.eq_zero_or_pos r.reverse.length with h0 | h0; exact Or.inr ⟨trivial, h0⟩; exact Or.inl h0)]
    obtain ⟨w, hw, hcr⟩ := hsl
    simp only [hw, go_sem, ↓reduceIte, reduceCtorEq, Nat.reduceEqDiff, Nat.reduceAdd, Nat.reduceSub, Nat.reduceMul, Nat.reduceLeDiff, Nat.reduceLT, binA]
    rw [hall]
    exact ⟨by simp, _, rfl, hcr, Keep.refl _⟩
  | cons c r2 =>
    have hc : r[n]? = some c := by
      have := congrArg (·[0]?) hr
      simpa using this
    rw [hr] at hn e3 hdl hk
    simp only [List.length_cons] at e3 hdl hk
    have hm1 : r.reverse[r2.length]? = some c := by
      rw [List.getElem?_reverse (by omega), show r.length - 1 - r2.length = n by omega]
      exact hc
    obtain ⟨i, hi1, -, hi3, -⟩ := h2.at hm1
    have hg : decide (((r2.length + 1 : Nat) : Int) > 0) = true := decide_eq_true (by omega)
    have hw : IntKind.i64.wrap (((r2.length + 1 : Nat) : Int) - 1) = (r2.length : Int) := by rw [IntKind.wrap_i64]; omega
    simp only [cf129_l0, e0, e3, hg, hld, hw, hi1, hi3, go_sem, ↓reduceIte, reduceCtorEq, Nat.reduceEqDiff, Nat.reduceAdd, Nat.reduceSub, Nat.reduceMul, Nat.reduceLeDiff, Nat.reduceLT, binA]
    cases hp : decide (c.1 > 0)
    · have hpc : pos c = false := hp
      rw [List.takeWhile_cons, hpc] at hn
      simp only [Bool.false_eq_true, if_false, List.length_nil, Nat.add_zero] at hn
      simp only [e0, e3, hld, go_sem, ↓reduceIte, reduceCtorEq, Nat.reduceEqDiff, Nat.reduceAdd, Nat.reduceSub, Nat.reduceMul, Nat.reduceLeDiff, Nat.reduceLT, binA]
      have htw : r.takeWhile pos = r.take n := by
        have := List.prefix_iff_eq_take.1 (List.takeWhile_prefix (l := r) pos)
        rw [← hn] at this
        exact this
      have hsl : ∃ w, slcA 2 sv (some (.int .i64 ((r2.length + 1 : Nat) : Int))) none none = some w ∧ CR S1 w (r.takeWhile pos).reverse := by
        have hrl : r.reverse.length = r.length := List.length_reverse
        rw [htw]
        rcases h2 with ⟨rfl, he⟩ | ⟨i, C, rfl, g2, g3, g4, g5⟩
        · have : r = [] := by simpa using he
          subst this
          cases hc
        · by_cases hn0 : n = 0
          · subst hn0
            refine ⟨.sl [] 0 false none, ?_, rfl, fun j c hj => by cases hj⟩
            simp only [slcA, optOf, natOf]
            rw [if_pos ⟨trivial, rfl⟩, if_pos ⟨by omega, by omega⟩]
            simp only [Int.toNat_natCast]
            rw [if_neg (by omega), if_pos (by omega)]
          · refine ⟨.msl i ((r2.length + 1) * 2) n 2, ?_, ?_, fun j c hj => ?_⟩
            · simp only [slcA, optOf, natOf]
              rw [if_pos ⟨trivial, rfl⟩, if_pos ⟨by omega, by omega⟩]
              simp only [Int.toNat_natCast]
              rw [if_pos (by omega), Nat.zero_add, show r.reverse.length - (r2.length + 1) = n by omega]
            · rw [List.length_reverse, List.length_take, Nat.min_eq_left hnr]; rfl
            · have hjl := (List.getElem?_eq_some_iff.1 hj).1
              rw [List.length_reverse, List.length_take, Nat.min_eq_left hnr] at hjl
              have hj2 : r.reverse[r2.length + 1 + j]? = some c := by
                rw [List.getElem?_reverse (by rw [List.length_take, Nat.min_eq_left hnr]; exact hjl), List.length_take, Nat.min_eq_left hnr, List.getElem?_take_of_lt (by omega)] at hj
                rw [List.getElem?_reverse (by omega), show r.length - 1 - (r2.length + 1 + j) = n - 1 - j by omega]
                exact hj
              refine ⟨.ptr i ((r2.length + 1) * 2 + j * 2), ?_, fun S' hk' => ?_⟩
              · simp only [iaddrA]; rw [if_pos ⟨by omega, by omega, trivial⟩]; simp
              · have hst' : Stk S' (.msl i 0 r.reverse.length 2) r.reverse := Or.inr ⟨i, C, rfl, (hk'.2 i g5).trans g2, g3, g4, hk'.lt g5⟩
                obtain ⟨i', q1, q2, -⟩ := hst'.at hj2
                have q3 : iaddrA 2 (.msl i 0 r.reverse.length 2) (.int .i64 ((r2.length + 1 + j : Nat) : Int)) = some (.ptr i ((r2.length + 1 + j) * 2)) := by
                  simp only [iaddrA]; rw [if_pos ⟨by omega, by omega, trivial⟩, Int.toNat_natCast, Nat.zero_add]
                rw [q3] at q1
                cases q1
                rw [← Nat.add_mul]
                exact q2
      obtain ⟨w, hw2, hcr⟩ := hsl
      simp only [hw2, go_sem, ↓reduceIte, reduceCtorEq, Nat.reduceEqDiff, Nat.reduceAdd, Nat.reduceSub, Nat.reduceMul, Nat.reduceLeDiff, Nat.reduceLT, binA]
      exact ⟨by simp, _, rfl, hcr, Keep.refl _⟩
    · have hpc : pos c = true := hp
      rw [List.takeWhile_cons, hpc] at hn
      simp only [if_true, List.length_cons] at hn
      have hd2 : r.drop (n + 1) = r2 := by
        rw [← List.drop_drop, hr]; rfl
      simp only [e3, hw, go_sem, ↓reduceIte, reduceCtorEq, Nat.reduceEqDiff, Nat.reduceAdd, Nat.reduceSub, Nat.reduceMul, Nat.reduceLeDiff, Nat.reduceLT, binA]
      exact ⟨r2.length, by omega, n + 1, by rw [hd2], by omega, e0, by rw [hd2], by rw [hd2]; omega⟩
end Go.Am.Y1

/- The marker: before a token. Conditions: none. -/
namespace Go.Am.Y1
open Go.Am.L1 (bts_len Tk tkc tkP)
set_option maxRecDepth 100000
set_option linter.unusedSimpArgs false
attribute [local go_sem] wseq wreg wdreg wret wskip wexit wblock wcnd cnd_t cnd_f then_n then_x then_r catch_n rnd_n rnd_x rnd_r catch_x catch_r wo_nil wo_grd grdO_t grdO_f wo_ops stpO wr_nil wr_alloc wr_guards grdR_t grdR_f wr_ops stpR evAllocs evOp env0_app eput_some eput_none eset_app Opd.ev wantedA faddrA storeA setAt snew_obj snew_size sput_obj sput_size av_cells av_one av_strip av_still unA eqbA fillA fldA lensA mmA mm2 mmFold List.getD_cons_zero List.getD_cons_succ List.getD_nil List.length_cons List.length_nil List.drop_zero List.drop_succ_cons List.take_succ_cons List.take_zero List.map_cons List.map_nil List.set_cons_zero List.set_cons_succ List.all_cons List.all_nil List.getElem?_cons_zero List.getElem?_cons_succ List.nil_append List.cons_append Nat.zero_add Nat.add_zero beq_self_eq_true bt bf Bool.not_true Bool.not_false Bool.and_true Bool.true_and Bool.and_false Bool.false_and and_self and_true true_and n0 n1 n2 n3 n4 m0 m1 m2 m3 c1 retA resAs resA undefA Option.map_some Option.map_none

def pR : ByteArray := ⟨#[41]⟩
def pB : ByteArray := ⟨#[125]⟩
def pC : ByteArray := ⟨#[44]⟩
def pL : ByteArray := ⟨#[40]⟩
def pO : ByteArray := ⟨#[123]⟩
def kIn : ByteArray := ⟨#[105, 110]⟩
def zer (c : Cx) : Bool := c.1 == 0
def nlet (c : Cx) : Bool := !isLet c
/-- The contexts behind a token that may end blocks, and how many end. -/
def befR (r : List Cx) (t : Tk) : List Cx × Nat :=
  if isT t 5 pR || isT t 5 pB then ((r.dropWhile pos).tail, (r.takeWhile pos).length)
  else if isT t 5 pC then (if r.any zer then (r.dropWhile pos, (r.takeWhile pos).length) else (r, 0))
  else if isT t 4 kIn then (if (r.takeWhile pos).any isLet then (r.drop ((r.takeWhile nlet).length + 1), (r.takeWhile nlet).length + 1) else (r, 0))
  else (r, 0)

theorem tw_q {q : Cx → Bool} {c : Cx} : ∀ {l : List Cx}, c ∈ l.takeWhile q → q c = true
  | [], h => by cases h
  | a :: l, h => by
    rw [List.takeWhile_cons] at h
    split at h
    · rename_i ha
      rcases List.mem_cons.1 h with rfl | h
      · exact ha
      · exact tw_q h
    · cases h

theorem dw_le {q : Cx → Bool} (r : List Cx) : (r.dropWhile q).length ≤ r.length := (List.dropWhile_suffix q).length_le

theorem befR_len (r : List Cx) (t : Tk) : (befR r t).2 + (befR r t).1.length ≤ r.length := by
  have h1 : (r.takeWhile pos).length + (r.dropWhile pos).length = r.length := by
    rw [← List.length_append, List.takeWhile_append_dropWhile]
  unfold befR
  split
  · simp only [List.length_tail]; omega
  split
  · split
    · simp only; omega
    · simp
  split
  · split
    · rename_i h
      have h2 : (r.takeWhile nlet).length < r.length := by
        obtain ⟨c, hc, hl⟩ := List.any_eq_true.1 h
        have hcr : c ∈ r := (List.takeWhile_prefix pos).subset hc
        have hle := (List.takeWhile_prefix (l := r) nlet).length_le
        rcases Nat.lt_or_ge (r.takeWhile nlet).length r.length with hlt | hge
        · exact hlt
        · exfalso
          have heq : r.takeWhile nlet = r := (List.takeWhile_prefix nlet).eq_of_length (by omega)
          rw [← heq] at hcr
          have := tw_q hcr
          simp only [nlet, hl] at this
          cases this
      simp only [List.length_drop]; omega
    · simp
  · simp

set_option maxHeartbeats 4000000 in
theorem before_law {B : Nat → Prop} {S : St} {p : Nat} {r : List Cx} {out : List Tk} (h : Mk B S p r.reverse out) (hl : r.length ≤ 100000) (ho : out.length + r.length ≤ 1000000) (t : Tk) :
    WC T yx 102 [.ptr p 0, .agg (tkc t)] S (fun _ S' => Mk B S' p (befR r t).1.reverse (out ++ closes (befR r t).2 t) ∧ Pr B S S') := by
  refine WC_fn cf102 rfl T102 (by simp [cf102]) ?_
  obtain ⟨hm, hb, hp⟩ := h.box t
  generalize hB : (fun j => B j ∨ (S.size ≤ j ∧ j < S.size + 1)) = B1 at *
  generalize hS1 : S.new (.cells (tkc t)) = S1 at *
  have hin : ∀ j, B j → B1 j := fun j hj => by rw [← hB]; exact Or.inl hj
  have fin : ∀ S', Mk B1 S' p (befR r t).1.reverse (out ++ closes (befR r t).2 t) → Pr B1 S1 S' → Mk B S' p (befR r t).1.reverse (out ++ closes (befR r t).2 t) ∧ Pr B S S' := fun S' h1 h2 => ⟨h1.less hin, hp.trans (h2.less hin)⟩
  have hc0 : out ++ closes 0 t = out := by simp [closes]
  simp only [cf102, go_sem, ↓reduceIte, reduceCtorEq, Nat.reduceEqDiff, Nat.reduceAdd, Nat.reduceSub, Nat.reduceMul, Nat.reduceLeDiff, Nat.reduceLT, binA]
  rw [hS1]
  simp only [hb.lds.1, go_sem, ↓reduceIte, reduceCtorEq, Nat.reduceEqDiff, Nat.reduceAdd, Nat.reduceSub, Nat.reduceMul, Nat.reduceLeDiff, Nat.reduceLT, binA]
  refine WO_callx [.agg (tkc t), .int .i64 5, .str pR] (by simp only [go_sem, ↓reduceIte, reduceCtorEq, Nat.reduceEqDiff, Nat.reduceAdd, Nat.reduceSub, Nat.reduceMul, Nat.reduceLeDiff, Nat.reduceLT, loadA, rdCells, binA]; rfl) ((is_law t 5 pR S1).mono ?_)
  rintro v S2 ⟨rfl, hk2⟩
  have hm2 := hm.keep' hk2
  have hp2 : Pr B1 S1 S2 := Pr.keep hm hk2
  have hb2 := hb.pr hp2
  -- the brackets
  have brk : ∀ S3, (isT t 5 pR || isT t 5 pB) = true → Mk B1 S3 p r.reverse out → Pr B1 S1 S3 → WC T yx 126 [.ptr p 0, .agg (tkc t)] S3 (fun _ S' => Mk B1 S' p (r.dropWhile pos).reverse (out ++ closes (befR r t).2 t) ∧ Pr B1 S1 S' ∧ (befR r t).1 = (r.dropWhile pos).tail) := by
    intro S3 hbr hm3 hp3
    refine (shut_law hm3 hl ho t).mono ?_
    rintro v S4 ⟨hm4, hp4⟩
    have e : befR r t = ((r.dropWhile pos).tail, (r.takeWhile pos).length) := by rw [befR, if_pos hbr]
    rw [e]
    exact ⟨hm4, hp3.trans hp4, rfl⟩
  cases c1 : isT t 5 pR
  · simp only [hb2.lds.1, go_sem, ↓reduceIte, reduceCtorEq, Nat.reduceEqDiff, Nat.reduceAdd, Nat.reduceSub, Nat.reduceMul, Nat.reduceLeDiff, Nat.reduceLT, binA]
    refine WO_callx [.agg (tkc t), .int .i64 5, .str pB] (by simp only [go_sem, ↓reduceIte, reduceCtorEq, Nat.reduceEqDiff, Nat.reduceAdd, Nat.reduceSub, Nat.reduceMul, Nat.reduceLeDiff, Nat.reduceLT, loadA, rdCells, binA]; rfl) ((is_law t 5 pB S2).mono ?_)
    rintro v S3 ⟨rfl, hk3⟩
    have hm3 := hm2.keep' hk3
    have hp3 := hp2.trans (Pr.keep hm2 hk3)
    have hb3 := hb.pr hp3
    cases c2 : isT t 5 pB
    · simp only [hb3.lds.1, go_sem, ↓reduceIte, reduceCtorEq, Nat.reduceEqDiff, Nat.reduceAdd, Nat.reduceSub, Nat.reduceMul, Nat.reduceLeDiff, Nat.reduceLT, binA]
      refine WO_callx [.agg (tkc t), .int .i64 5, .str pC] (by simp only [go_sem, ↓reduceIte, reduceCtorEq, Nat.reduceEqDiff, Nat.reduceAdd, Nat.reduceSub, Nat.reduceMul, Nat.reduceLeDiff, Nat.reduceLT, loadA, rdCells, binA]; rfl) ((is_law t 5 pC S3).mono ?_)
      rintro v S4 ⟨rfl, hk4⟩
      have hm4 := hm3.keep' hk4
      have hp4 := hp3.trans (Pr.keep hm3 hk4)
      have hb4 := hb.pr hp4
      have e0 : befR r t = if isT t 5 pC then (if r.any zer then (r.dropWhile pos, (r.takeWhile pos).length) else (r, 0)) else if isT t 4 kIn then (if (r.takeWhile pos).any isLet then (r.drop ((r.takeWhile nlet).length + 1), (r.takeWhile nlet).length + 1) else (r, 0)) else (r, 0) := by
        rw [befR, if_neg (by simp [c1, c2])]
      cases c3 : isT t 5 pC
      · rw [c3] at e0
        simp only [Bool.false_eq_true, if_false] at e0
        simp only [hb4.lds.1, go_sem, ↓reduceIte, reduceCtorEq, Nat.reduceEqDiff, Nat.reduceAdd, Nat.reduceSub, Nat.reduceMul, Nat.reduceLeDiff, Nat.reduceLT, binA]
        refine WO_callx [.agg (tkc t), .int .i64 4, .str kIn] (by simp only [go_sem, ↓reduceIte, reduceCtorEq, Nat.reduceEqDiff, Nat.reduceAdd, Nat.reduceSub, Nat.reduceMul, Nat.reduceLeDiff, Nat.reduceLT, loadA, rdCells, binA]; rfl) ((is_law t 4 kIn S4).mono ?_)
        rintro v S5 ⟨rfl, hk5⟩
        have hm5 := hm4.keep' hk5
        have hp5 := hp4.trans (Pr.keep hm4 hk5)
        have hb5 := hb.pr hp5
        cases c4 : isT t 4 kIn
        · rw [c4] at e0
          simp only [Bool.false_eq_true, if_false] at e0
          simp only [go_sem, ↓reduceIte, reduceCtorEq, Nat.reduceEqDiff, Nat.reduceAdd, Nat.reduceSub, Nat.reduceMul, Nat.reduceLeDiff, Nat.reduceLT, binA]
          refine ⟨by simp, _, rfl, fin S5 ?_ hp5⟩
          rw [e0]
          show Mk B1 S5 p r.reverse (out ++ closes 0 t)
          rw [hc0]; exact hm5
        · rw [c4] at e0
          simp only [if_true] at e0
          simp only [go_sem, ↓reduceIte, reduceCtorEq, Nat.reduceEqDiff, Nat.reduceAdd, Nat.reduceSub, Nat.reduceMul, Nat.reduceLeDiff, Nat.reduceLT, binA]
          refine WO_callx [.ptr p 0] (by simp only [go_sem, ↓reduceIte, reduceCtorEq, Nat.reduceEqDiff, Nat.reduceAdd, Nat.reduceSub, Nat.reduceMul, Nat.reduceLeDiff, Nat.reduceLT, loadA, rdCells, binA]) ((inner_law hm5 hl).mono ?_)
          rintro v S6 ⟨hcr, hk6⟩
          have hm6 := hm5.keep' hk6
          have hp6 := hp5.trans (Pr.keep hm5 hk6)
          simp only [go_sem, ↓reduceIte, reduceCtorEq, Nat.reduceEqDiff, Nat.reduceAdd, Nat.reduceSub, Nat.reduceMul, Nat.reduceLeDiff, Nat.reduceLT, binA]
          refine WO_callx [v, .func 130 []] (by simp only [go_sem, ↓reduceIte, reduceCtorEq, Nat.reduceEqDiff, Nat.reduceAdd, Nat.reduceSub, Nat.reduceMul, Nat.reduceLeDiff, Nat.reduceLT, loadA, rdCells, binA]) ((cany_law S6 hcr (by rw [List.length_reverse]; exact Nat.le_trans (List.takeWhile_prefix pos).length_le hl) 130 isLet (fun c S' => c130_law c S')).mono ?_)
          rintro v2 S7 ⟨rfl, hk7⟩
          have hm7 := hm6.keep' hk7
          have hp7 := hp6.trans (Pr.keep hm6 hk7)
          rw [List.any_reverse]
          cases c5 : (r.takeWhile pos).any isLet
          · rw [c5] at e0
            simp only [Bool.false_eq_true, if_false] at e0
            simp only [go_sem, ↓reduceIte, reduceCtorEq, Nat.reduceEqDiff, Nat.reduceAdd, Nat.reduceSub, Nat.reduceMul, Nat.reduceLeDiff, Nat.reduceLT, binA]
            refine W_loop_nat (fun k e S => S = S7 ∧ e 5 = .bool true) ?_ 0 _ _ ⟨rfl, by simp only [go_sem, ↓reduceIte, reduceCtorEq, Nat.reduceEqDiff, Nat.reduceAdd, Nat.reduceSub, Nat.reduceMul, Nat.reduceLeDiff, Nat.reduceLT, loadA, rdCells, binA]⟩
            rintro k e S8 ⟨rfl, e5⟩
            simp only [cf102_l0, e5, go_sem, ↓reduceIte, reduceCtorEq, Nat.reduceEqDiff, Nat.reduceAdd, Nat.reduceSub, Nat.reduceMul, Nat.reduceLeDiff, Nat.reduceLT, binA]
            refine ⟨by simp, _, rfl, fin S8 ?_ hp7⟩
            rw [e0]
            show Mk B1 S8 p r.reverse (out ++ closes 0 t)
            rw [hc0]; exact hm7
          · rw [c5] at e0
            simp only [if_true] at e0
            simp only [go_sem, ↓reduceIte, reduceCtorEq, Nat.reduceEqDiff, Nat.reduceAdd, Nat.reduceSub, Nat.reduceMul, Nat.reduceLeDiff, Nat.reduceLT, binA]
            have hany : r.any isLet = true := by
              obtain ⟨c, hc, hlc⟩ := List.any_eq_true.1 c5
              exact List.any_eq_true.2 ⟨c, (List.takeWhile_prefix pos).subset hc, hlc⟩
            refine W_loop_nat (fun k e S8 => ∃ (en : Bool) (r1 : List Cx) (n : Nat), k = (if en then 0 else r1.length + 1) ∧ e 0 = .ptr p 0 ∧ e 3 = .ptr S.size 0 ∧ e 5 = .bool en ∧ Mk B1 S8 p r1.reverse (out ++ closes n t) ∧ Pr B1 S1 S8 ∧ r1 = r.drop n ∧ n + r1.length = r.length ∧
                (en = false → n + (r1.takeWhile nlet).length = (r.takeWhile nlet).length ∧ r1.any isLet = true) ∧ (en = true → n = (r.takeWhile nlet).length + 1)) ?_ (r.length + 1) _ _
              ⟨false, r, 0, rfl, by simp only [go_sem, ↓reduceIte, reduceCtorEq, Nat.reduceEqDiff, Nat.reduceAdd, Nat.reduceSub, Nat.reduceMul, Nat.reduceLeDiff, Nat.reduceLT, loadA, rdCells, binA], by simp only [go_sem, ↓reduceIte, reduceCtorEq, Nat.reduceEqDiff, Nat.reduceAdd, Nat.reduceSub, Nat.reduceMul, Nat.reduceLeDiff, Nat.reduceLT, loadA, rdCells, binA], by simp only [go_sem, ↓reduceIte, reduceCtorEq, Nat.reduceEqDiff, Nat.reduceAdd, Nat.reduceSub, Nat.reduceMul, Nat.reduceLeDiff, Nat.reduceLT, loadA, rdCells, binA], by rw [hc0]; exact hm7, hp7, rfl, by omega, fun _ => ⟨by omega, hany⟩, fun h => by cases h⟩
            rintro k e S8 ⟨en, r1, n, hk, f0, f3, f5, hm8, hp8, hr1, hln, hf, ht⟩
            have hoc : (out ++ closes n t).length = out.length + n := by simp [closes]
            cases en
            · obtain ⟨hn, hal⟩ := hf rfl
              cases r1 with
              | nil => cases hal
              | cons c r2 =>
                simp only [List.length_cons] at hln
                simp only [cf102_l0, f0, f5, go_sem, ↓reduceIte, reduceCtorEq, Nat.reduceEqDiff, Nat.reduceAdd, Nat.reduceSub, Nat.reduceMul, Nat.reduceLeDiff, Nat.reduceLT, binA]
                refine WO_callx [.ptr p 0] (by simp only [f0, go_sem, ↓reduceIte, reduceCtorEq, Nat.reduceEqDiff, Nat.reduceAdd, Nat.reduceSub, Nat.reduceMul, Nat.reduceLeDiff, Nat.reduceLT, loadA, rdCells, binA]) ((top_law hm8 (by simp; omega)).mono ?_)
                rintro v3 S9 ⟨rfl, hk9⟩
                have hm9 := hm8.keep' hk9
                have hp9 := hp8.trans (Pr.keep hm8 hk9)
                have hb9 := hb.pr hp9
                rw [topc_rev]
                have hlw : (c.2.toList == (⟨#[108, 101, 116]⟩ : ByteArray).toList) = isLet c := rfl
                simp only [List.head?_cons, Option.getD_some, fld1, f0, f3, hb9.lds.1, hlw, go_sem, ↓reduceIte, reduceCtorEq, Nat.reduceEqDiff, Nat.reduceAdd, Nat.reduceSub, Nat.reduceMul, Nat.reduceLeDiff, Nat.reduceLT, binA]
                refine WO_callx [.ptr p 0, .int .i64 7, .agg (tkc t)] (by simp only [go_sem, ↓reduceIte, reduceCtorEq, Nat.reduceEqDiff, Nat.reduceAdd, Nat.reduceSub, Nat.reduceMul, Nat.reduceLeDiff, Nat.reduceLT, loadA, rdCells, binA]) ((close_one hm9 (by omega) (by omega) (Q := fun _ S' => Mk B1 S' p r2.reverse (out ++ closes n t ++ [mkT 7 t]) ∧ Pr B1 S9 S') (fun v S' h1 h2 => ⟨h1, h2⟩)).mono ?_)
                rintro v4 S10 hqq
                simp only [f0, go_sem, ↓reduceIte, reduceCtorEq, Nat.reduceEqDiff, Nat.reduceAdd, Nat.reduceSub, Nat.reduceMul, Nat.reduceLeDiff, Nat.reduceLT, binA]
                refine WO_callx [.ptr p 0] (by simp only [f0, go_sem, ↓reduceIte, reduceCtorEq, Nat.reduceEqDiff, Nat.reduceAdd, Nat.reduceSub, Nat.reduceMul, Nat.reduceLeDiff, Nat.reduceLT, loadA, rdCells, binA]) (hqq.mono ?_)
                rintro v5 S11 ⟨hm11, hp11⟩
                rw [List.append_assoc, closes_snoc] at hm11
                have hd2 : r2 = r.drop (n + 1) := by rw [← List.drop_drop, ← hr1]; rfl
                simp only [go_sem, ↓reduceIte, reduceCtorEq, Nat.reduceEqDiff, Nat.reduceAdd, Nat.reduceSub, Nat.reduceMul, Nat.reduceLeDiff, Nat.reduceLT, binA]
                cases hlc : isLet c
                · have hnl : nlet c = true := by simp [nlet, hlc]
                  rw [List.takeWhile_cons, hnl] at hn
                  simp only [if_true, List.length_cons] at hn
                  rw [List.any_cons, hlc, Bool.false_or] at hal
                  refine ⟨r2.length + 1, by rw [hk]; simp, false, r2, n + 1, by simp, f0, f3, rfl, hm11, hp9.trans hp11, hd2, by omega, fun _ => ⟨by omega, hal⟩, fun h => by cases h⟩
                · have hnl : nlet c = false := by simp [nlet, hlc]
                  rw [List.takeWhile_cons, hnl] at hn
                  simp only [Bool.false_eq_true, if_false, List.length_nil, Nat.add_zero] at hn
                  refine ⟨0, by rw [hk]; simp, true, r2, n + 1, by simp, f0, f3, rfl, hm11, hp9.trans hp11, hd2, by omega, (fun h => by cases h), fun _ => by omega⟩
            · have hn := ht rfl
              simp only [cf102_l0, f5, go_sem, ↓reduceIte, reduceCtorEq, Nat.reduceEqDiff, Nat.reduceAdd, Nat.reduceSub, Nat.reduceMul, Nat.reduceLeDiff, Nat.reduceLT, binA]
              refine ⟨by simp, _, rfl, fin S8 ?_ hp8⟩
              rw [e0]
              show Mk B1 S8 p (r.drop ((r.takeWhile nlet).length + 1)).reverse (out ++ closes ((r.takeWhile nlet).length + 1) t)
              rw [← hn, ← hr1]; exact hm8
      · rw [c3] at e0
        simp only [if_true] at e0
        obtain ⟨sv4, ov4, o4, st4, -⟩ := hm4.ex
        have hl4 : loadA S4 false 1 (.ptr p 0) = some sv4 := by simp [loadA, rdCells, o4]
        simp only [hl4, go_sem, ↓reduceIte, reduceCtorEq, Nat.reduceEqDiff, Nat.reduceAdd, Nat.reduceSub, Nat.reduceMul, Nat.reduceLeDiff, Nat.reduceLT, binA]
        refine WO_callx [sv4, .func 128 []] (by simp only [go_sem, ↓reduceIte, reduceCtorEq, Nat.reduceEqDiff, Nat.reduceAdd, Nat.reduceSub, Nat.reduceMul, Nat.reduceLeDiff, Nat.reduceLT, loadA, rdCells, binA]) ((cany_law S4 st4.cr (by rw [List.length_reverse]; exact hl) 128 zer (fun c S' => c128_law c S')).mono ?_)
        rintro v2 S7 ⟨rfl, hk7⟩
        have hm7 := hm4.keep' hk7
        have hp7 := hp4.trans (Pr.keep hm4 hk7)
        have hb7 := hb.pr hp7
        rw [List.any_reverse]
        cases c5 : r.any zer
        · rw [c5] at e0
          simp only [Bool.false_eq_true, if_false] at e0
          simp only [go_sem, ↓reduceIte, reduceCtorEq, Nat.reduceEqDiff, Nat.reduceAdd, Nat.reduceSub, Nat.reduceMul, Nat.reduceLeDiff, Nat.reduceLT, binA]
          refine ⟨by simp, _, rfl, fin S7 ?_ hp7⟩
          rw [e0]
          show Mk B1 S7 p r.reverse (out ++ closes 0 t)
          rw [hc0]; exact hm7
        · rw [c5] at e0
          simp only [if_true] at e0
          simp only [hb7.lds.1, go_sem, ↓reduceIte, reduceCtorEq, Nat.reduceEqDiff, Nat.reduceAdd, Nat.reduceSub, Nat.reduceMul, Nat.reduceLeDiff, Nat.reduceLT, binA]
          refine WO_callx [.ptr p 0, .agg (tkc t)] (by simp only [go_sem, ↓reduceIte, reduceCtorEq, Nat.reduceEqDiff, Nat.reduceAdd, Nat.reduceSub, Nat.reduceMul, Nat.reduceLeDiff, Nat.reduceLT, loadA, rdCells, binA]) ((shut_law hm7 hl ho t).mono ?_)
          rintro v S8 ⟨hm8, hp8⟩
          simp only [go_sem, ↓reduceIte, reduceCtorEq, Nat.reduceEqDiff, Nat.reduceAdd, Nat.reduceSub, Nat.reduceMul, Nat.reduceLeDiff, Nat.reduceLT, binA]
          refine ⟨by simp, _, rfl, fin S8 ?_ (hp7.trans hp8)⟩
          rw [e0]
          exact hm8
    · simp only [hb3.lds.1, go_sem, ↓reduceIte, reduceCtorEq, Nat.reduceEqDiff, Nat.reduceAdd, Nat.reduceSub, Nat.reduceMul, Nat.reduceLeDiff, Nat.reduceLT, binA]
      refine WO_callx [.ptr p 0, .agg (tkc t)] (by simp only [go_sem, ↓reduceIte, reduceCtorEq, Nat.reduceEqDiff, Nat.reduceAdd, Nat.reduceSub, Nat.reduceMul, Nat.reduceLeDiff, Nat.reduceLT, loadA, rdCells, binA]) ((brk S3 (by simp [c1, c2]) hm3 hp3).mono ?_)
      rintro v S8 ⟨hm8, hp8, he8⟩
      obtain ⟨sv8, ov8, o8, st8, -⟩ := hm8.ex
      have hl8 : loadA S8 false 1 (.ptr p 0) = some sv8 := by simp [loadA, rdCells, o8]
      simp only [hl8, st8.len, go_sem, ↓reduceIte, reduceCtorEq, Nat.reduceEqDiff, Nat.reduceAdd, Nat.reduceSub, Nat.reduceMul, Nat.reduceLeDiff, Nat.reduceLT, binA]
      cases hr8 : r.dropWhile pos with
      | nil =>
        rw [hr8] at hm8 he8
        have hg8 : decide ((([] : List Cx).reverse.length : Int) > 0) = false := rfl
        simp only [hg8, go_sem, ↓reduceIte, reduceCtorEq, Nat.reduceEqDiff, Nat.reduceAdd, Nat.reduceSub, Nat.reduceMul, Nat.reduceLeDiff, Nat.reduceLT, binA]
        refine ⟨by simp, _, rfl, fin S8 ?_ hp8⟩
        rw [he8]
        exact hm8
      | cons c8 r8 =>
        have hl9 := dw_le (q := pos) r
        rw [hr8] at hm8 he8 hl9
        simp only [List.length_cons] at hl9
        have hg8 : decide (((c8 :: r8).reverse.length : Int) > 0) = true := decide_eq_true (by simp)
        simp only [hg8, go_sem, ↓reduceIte, reduceCtorEq, Nat.reduceEqDiff, Nat.reduceAdd, Nat.reduceSub, Nat.reduceMul, Nat.reduceLeDiff, Nat.reduceLT, binA]
        rw [List.reverse_cons] at hm8
        refine WO_callx [.ptr p 0] (by simp only [go_sem, ↓reduceIte, reduceCtorEq, Nat.reduceEqDiff, Nat.reduceAdd, Nat.reduceSub, Nat.reduceMul, Nat.reduceLeDiff, Nat.reduceLT, loadA, rdCells, binA]) ((pop_law hm8 (by simp; omega)).mono ?_)
        rintro v S9 ⟨hm9, hp9⟩
        simp only [go_sem, ↓reduceIte, reduceCtorEq, Nat.reduceEqDiff, Nat.reduceAdd, Nat.reduceSub, Nat.reduceMul, Nat.reduceLeDiff, Nat.reduceLT, binA]
        refine ⟨by simp, _, rfl, fin S9 ?_ (hp8.trans hp9)⟩
        rw [he8]
        exact hm9
  · simp only [hb2.lds.1, go_sem, ↓reduceIte, reduceCtorEq, Nat.reduceEqDiff, Nat.reduceAdd, Nat.reduceSub, Nat.reduceMul, Nat.reduceLeDiff, Nat.reduceLT, binA]
    refine WO_callx [.ptr p 0, .agg (tkc t)] (by simp only [go_sem, ↓reduceIte, reduceCtorEq, Nat.reduceEqDiff, Nat.reduceAdd, Nat.reduceSub, Nat.reduceMul, Nat.reduceLeDiff, Nat.reduceLT, loadA, rdCells, binA]) ((brk S2 (by simp [c1]) hm2 hp2).mono ?_)
    rintro v S8 ⟨hm8, hp8, he8⟩
    obtain ⟨sv8, ov8, o8, st8, -⟩ := hm8.ex
    have hl8 : loadA S8 false 1 (.ptr p 0) = some sv8 := by simp [loadA, rdCells, o8]
    simp only [hl8, st8.len, go_sem, ↓reduceIte, reduceCtorEq, Nat.reduceEqDiff, Nat.reduceAdd, Nat.reduceSub, Nat.reduceMul, Nat.reduceLeDiff, Nat.reduceLT, binA]
    cases hr8 : r.dropWhile pos with
    | nil =>
      rw [hr8] at hm8 he8
      have hg8 : decide ((([] : List Cx).reverse.length : Int) > 0) = false := rfl
      simp only [hg8, go_sem, ↓reduceIte, reduceCtorEq, Nat.reduceEqDiff, Nat.reduceAdd, Nat.reduceSub, Nat.reduceMul, Nat.reduceLeDiff, Nat.reduceLT, binA]
      refine ⟨by simp, _, rfl, fin S8 ?_ hp8⟩
      rw [he8]
      exact hm8
    | cons c8 r8 =>
      have hl9 := dw_le (q := pos) r
      rw [hr8] at hm8 he8 hl9
      simp only [List.length_cons] at hl9
      have hg8 : decide (((c8 :: r8).reverse.length : Int) > 0) = true := decide_eq_true (by simp)
      simp only [hg8, go_sem, ↓reduceIte, reduceCtorEq, Nat.reduceEqDiff, Nat.reduceAdd, Nat.reduceSub, Nat.reduceMul, Nat.reduceLeDiff, Nat.reduceLT, binA]
      rw [List.reverse_cons] at hm8
      refine WO_callx [.ptr p 0] (by simp only [go_sem, ↓reduceIte, reduceCtorEq, Nat.reduceEqDiff, Nat.reduceAdd, Nat.reduceSub, Nat.reduceMul, Nat.reduceLeDiff, Nat.reduceLT, loadA, rdCells, binA]) ((pop_law hm8 (by simp; omega)).mono ?_)
      rintro v S9 ⟨hm9, hp9⟩
      simp only [go_sem, ↓reduceIte, reduceCtorEq, Nat.reduceEqDiff, Nat.reduceAdd, Nat.reduceSub, Nat.reduceMul, Nat.reduceLeDiff, Nat.reduceLT, binA]
      refine ⟨by simp, _, rfl, fin S9 ?_ (hp8.trans hp9)⟩
      rw [he8]
      exact hm9
end Go.Am.Y1
