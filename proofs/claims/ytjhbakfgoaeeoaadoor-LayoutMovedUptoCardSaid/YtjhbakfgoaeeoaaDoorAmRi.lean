/- The marker: what is put on its stack and its tokens. Conditions: none. -/
import Derived.Test.YtjhbakfgoaeeoaaDoorAmRh
set_option linter.unusedSimpArgs false
set_option linter.unusedVariables false
namespace Go.Am.Y1
open Go.Am.L1 (bts_len Tk tkc tkP)
set_option maxRecDepth 100000
set_option linter.unusedSimpArgs false

theorem new_put (S : St) (o o' : AO) : (S.new o).put S.size (some o') = S.new o' := by
  simp only [St.new, St.put]
  congr 1
  funext j
  split <;> rfl

theorem Stk.push {S : St} {v : AV} {st : List Cx} (h : Stk S v st) (c : Cx) (hl : st.length ≤ 100000) :
    ∃ v' S', appendA S true 2 24 v (.sl (cxc c) 1 true none) = some (v', S') ∧ Stk S' v' (st ++ [c]) ∧ freshO S.size v' ∧ v'.cells = [v'] ∧ v'.one = true ∧ S.size < S'.size ∧ ∀ j, j < S.size → notO v j → S'.obj j = S.obj j := by
  have hc : contents S 2 (.sl (cxc c) 1 true none) = some (1, cxc c) := by simp only [contents]; rw [if_pos (by simp [cxc])]
  have hone : (cxc c).all AV.one = true := by simp [cxc, AV.one]
  rcases h with ⟨rfl, rfl⟩ | ⟨i, C, rfl, g2, g3, g4, g5⟩
  · refine ⟨.msl S.size 0 1 2, S.new (.cells (cxc c)), ?_, Or.inr ⟨S.size, cxc c, rfl, new_eq rfl, by simp [cxc], by simp [cxc], by simp [St.new]⟩, ?_, rfl, rfl, by simp [St.new], fun j hj _ => new_ne (by omega)⟩
    · simp only [appendA, hc, freshA]
      rw [if_neg (by omega), if_pos (by omega), if_pos trivial, if_pos hone]
    · intro p o n z he; cases he; exact Nat.le_refl _
  · have hlen : (st ++ [c]).length = st.length + 1 := by simp
    refine ⟨.msl S.size 0 (st.length + 1) 2, (S.put i none).new (.cells (C.take (st.length * 2) ++ cxc c)), ?_, Or.inr ⟨S.size, _, by rw [hlen], new_eq rfl, ?_, ?_, by simp [St.new, St.put]⟩, ?_, rfl, rfl, by simp [St.new, St.put], fun j hj hn => ?_⟩
    · simp only [appendA, hc, g2]
      rw [if_neg (by omega), if_pos ⟨trivial, trivial, g3, by omega, hone⟩]
    · rw [hlen, List.length_append, List.length_take, Nat.min_eq_left g3]; simp [cxc]; omega
    · rw [g4, hlen, List.flatMap_append, List.take_of_length_le]
      · simp
      · rw [List.length_append, cxP.lens]; simp [cxc]; omega
    · intro p o n z he; cases he; exact Nat.le_refl _
    · rw [new_ne (by simp only [St.put]; omega), put_ne (by intro h; subst h; exact hn _ _ _ rfl)]

/-- A context put on the stack. -/
theorem Mk.push {B : Nat → Prop} {S : St} {p : Nat} {st : List Cx} {out : List Tk} (h : Mk B S p st out) (c : Cx) (hl : st.length ≤ 100000) :
    ∃ sv ov sv' S1, S.obj p = some (.cells [sv, ov]) ∧ appendA S true 2 24 sv (.sl (cxc c) 1 true none) = some (sv', S1) ∧ S1.obj p = some (.cells [sv, ov]) ∧ sv'.cells = [sv'] ∧ sv'.one = true ∧
      Mk B (S1.put p (some (.cells [sv', ov]))) p (st ++ [c]) out ∧ Pr B S (S1.put p (some (.cells [sv', ov]))) := by
  obtain ⟨sv, ov, h1, h2, h3, h4, h5, h6, h7⟩ := h.ex
  obtain ⟨sv', S1, ha, hs, hf, hc, ho, hsz, hk⟩ := h2.push c hl
  have hlt := h.lt
  have ho1 : S1.obj p = some (.cells [sv, ov]) := (hk p hlt h4).trans h1
  have hn2 : ∀ j, j < S.size → notO sv' j := fun j hj => hf.ne hj
  have hBl : ∀ j, B j → j ≠ p := fun j hj he => h.nb (he ▸ hj)
  refine ⟨sv, ov, sv', S1, h1, ha, ho1, hc, ho, ⟨⟨sv', ov, put_eq, ?_, ?_, hn2 p hlt, h5, ?_, fun j hj => ⟨hn2 j (h.low j hj), (h7 j hj).2⟩⟩, by simp only [St.put]; omega, h.nb, fun j hj => by have := h.low j hj; simp only [St.put]; omega⟩, by simp only [St.put]; omega, fun j hj => ?_⟩
  · exact hs.of (Nat.le_refl _) fun i o n z he => put_ne (by rintro rfl; exact hn2 i hlt o n z he)
  · refine h3.of (fun q hq hql => ?_) (by simp only [St.put]; omega)
    rw [put_ne (by rintro rfl; exact h5 _ _ _ hq), hk q hql (fun o n z he => h6 q o n z he _ _ _ hq)]
  · intro i o n z he o' n' z' hov
    have h1 := hf i o n z he
    have h2 := mout_lt h3 i o' n' z' hov
    omega
  · rw [put_ne (hBl j hj), hk j (h.low j hj) (h7 j hj).1]

/-- A token put behind the others. -/
theorem Mk.app {B : Nat → Prop} {S : St} {p : Nat} {st : List Cx} {out : List Tk} (h : Mk B S p st out) (t : Tk) (hl : out.length ≤ 1000000) :
    ∃ sv ov ov' S1, S.obj p = some (.cells [sv, ov]) ∧ appendA S true 5 48 ov (.sl (tkc t) 1 true none) = some (ov', S1) ∧ S1.obj p = some (.cells [sv, ov]) ∧ ov'.cells = [ov'] ∧ ov'.one = true ∧
      Mk B (S1.put p (some (.cells [sv, ov']))) p st (out ++ [t]) ∧ Pr B S (S1.put p (some (.cells [sv, ov']))) := by
  obtain ⟨sv, ov, h1, h2, h3, h4, h5, h6, h7⟩ := h.ex
  obtain ⟨ov', S1, ha, hM, hf, hsz, hc, ho, hk⟩ := h3.app1 tkP t (bytes := 48) (by omega)
  have hlt := h.lt
  have ho1 : S1.obj p = some (.cells [sv, ov]) := (hk p hlt h5).trans h1
  have hn2 : ∀ j, j < S.size → notO ov' j := fun j hj => hf.ne hj
  have hBl : ∀ j, B j → j ≠ p := fun j hj he => h.nb (he ▸ hj)
  refine ⟨sv, ov, ov', S1, h1, ha, ho1, hc, ho, ⟨⟨sv, ov', put_eq, ?_, ?_, h4, hn2 p hlt, ?_, fun j hj => ⟨(h7 j hj).1, hn2 j (h.low j hj)⟩⟩, by simp only [St.put]; omega, h.nb, fun j hj => by have := h.low j hj; simp only [St.put]; omega⟩, by simp only [St.put]; omega, fun j hj => ?_⟩
  · refine h2.of (by simp only [St.put]; omega) fun i o n z he => ?_
    rw [put_ne (by rintro rfl; exact h4 o n z he), hk i (h2.size_lt i o n z he) (h6 i o n z he)]
  · exact hM.of (fun q hq _ => put_ne (by rintro rfl; exact hn2 q hlt _ _ _ hq)) (Nat.le_refl _)
  · intro i o n z he
    exact hn2 i (h2.size_lt i o n z he)
  · rw [put_ne (hBl j hj), hk j (h.low j hj) (h7 j hj).2]

/-- Behind the part that opens blocks. -/
def tailM (t : Tk) (f : Bool) (r : List Cx) (out : List Tk) : List Cx × List Tk :=
  let r2 := if f then r.dropWhile (over t) else r
  let out2 := if f then out ++ closes (r.takeWhile (over t)).length t ++ semis (r.dropWhile (over t)) t else out
  (if isT t 5 pL || isT t 5 pO then (0, ⟨#[]⟩) :: (befR r2 t).1 else (befR r2 t).1, out2 ++ closes (befR r2 t).2 t ++ [t])
end Go.Am.Y1

/- Mark: behind the part that opens blocks. Conditions: none. -/
namespace Go.Am.Y1
open Go.Am.L1 (bts_len Tk tkc tkP)
set_option maxRecDepth 100000
set_option linter.unusedSimpArgs false
attribute [local go_sem] wseq wreg wdreg wret wskip wexit wblock wcnd cnd_t cnd_f then_n then_x then_r catch_n rnd_n rnd_x rnd_r catch_x catch_r wo_nil wo_grd grdO_t grdO_f wo_ops stpO wr_nil wr_alloc wr_guards grdR_t grdR_f wr_ops stpR evAllocs evOp env0_app eput_some eput_none eset_app Opd.ev wantedA faddrA storeA setAt snew_obj snew_size sput_obj sput_size av_cells av_one av_strip av_still unA eqbA fillA fldA lensA mmA mm2 mmFold List.getD_cons_zero List.getD_cons_succ List.getD_nil List.length_cons List.length_nil List.drop_zero List.drop_succ_cons List.take_succ_cons List.take_zero List.map_cons List.map_nil List.set_cons_zero List.set_cons_succ List.all_cons List.all_nil List.getElem?_cons_zero List.getElem?_cons_succ List.nil_append List.cons_append Nat.zero_add Nat.add_zero beq_self_eq_true bt bf Bool.not_true Bool.not_false Bool.and_true Bool.true_and Bool.and_false Bool.false_and and_self and_true true_and n0 n1 n2 n3 n4 m0 m1 m2 m3 c1 retA resAs resA undefA Option.map_some Option.map_none

/-- The slots that stay. -/
def Same (e e' : Env) : Prop := e' 0 = e 0 ∧ e' 5 = e 5 ∧ e' 17 = e 17 ∧ e' 18 = e 18 ∧ e' 19 = e 19

theorem tw_dw {q : Cx → Bool} (r : List Cx) : (r.takeWhile q).length + (r.dropWhile q).length = r.length := by
  rw [← List.length_append, List.takeWhile_append_dropWhile]

set_option maxHeartbeats 4000000 in
theorem tail_law {B : Nat → Prop} {S : St} {p b : Nat} {r : List Cx} {out : List Tk} {t : Tk} {f : Bool} (hm : Mk B S p r.reverse out) (hb : Bx B S b t) (hr : r.length ≤ 50000) (ho : out.length + r.length ≤ 500000)
    {e : Env} (e5 : e 5 = .ptr p 0) (e7 : e 7 = .ptr b 0) (e8 : e 8 = .bool f) {Q : CX → Env → St → Prop}
    (hend : t.kind = 9 → ∀ e', Same e e' → Q (.exit 0) e' S)
    (hgo : t.kind ≠ 9 → ∀ e' S', Same e e' → Mk B S' p (tailM t f r out).1.reverse (tailM t f r out).2 → Pr B S S' → Q .normal e' S') : W T yx cf64_t e S Q := by
  cases hk : (t.kind == 9)
  · have hk9 : t.kind ≠ 9 := by simpa using hk
    have hgo := hgo hk9
    cases f
    · simp only [cf64_t, e7, e8, hb.lds.2.1, hk, go_sem, ↓reduceIte, reduceCtorEq, Nat.reduceEqDiff, Nat.reduceAdd, Nat.reduceSub, Nat.reduceMul, Nat.reduceLeDiff, Nat.reduceLT, binA]
      have hpS := Pr.refl B S
      have hb4 := hb.pr hpS
      simp only [hb4.lds.1, e5, e7, go_sem, ↓reduceIte, reduceCtorEq, Nat.reduceEqDiff, Nat.reduceAdd, Nat.reduceSub, Nat.reduceMul, Nat.reduceLeDiff, Nat.reduceLT, binA]
      refine WO_callx [.ptr p 0, .agg (tkc t)] (by simp only [e5, go_sem, ↓reduceIte, reduceCtorEq, Nat.reduceEqDiff, Nat.reduceAdd, Nat.reduceSub, Nat.reduceMul, Nat.reduceLeDiff, Nat.reduceLT, loadA, rdCells, binA]) ((before_law hm (by omega) (by omega) t).mono ?_)
      rintro v5 S5 ⟨hm5, hp5⟩
      have hbl := befR_len r t
      have hp5' := hpS.trans hp5
      have hb5 := hb.pr hp5'
      obtain ⟨sv, ov, ov', S6, o5, happ, o6, hc6, ho6, hm7, hp7⟩ := hm5.app t (by simp [closes]; omega)
      have hl5 : loadA S5 false 1 (.ptr p 1) = some ov := by simp [loadA, rdCells, o5]
      have happ' := happ
      simp only [tkc] at happ'
      have hbx := hb5.lds.1
      simp only [e5, e7, hl5, hbx, go_sem, ↓reduceIte, reduceCtorEq, Nat.reduceEqDiff, Nat.reduceAdd, Nat.reduceSub, Nat.reduceMul, Nat.reduceLeDiff, Nat.reduceLT, binA]
      have hcl5 : ((tkc t).length = 5) = True := by simp [tkc]
      simp only [tkc, hcl5, happ', o6, hc6, ho6, go_sem, ↓reduceIte, reduceCtorEq, Nat.reduceEqDiff, Nat.reduceAdd, Nat.reduceSub, Nat.reduceMul, Nat.reduceLeDiff, Nat.reduceLT, binA]
      generalize hS7 : S6.put p (some (AO.cells [sv, ov'])) = S7 at hm7 hp7
      have hp7' := hp5'.trans hp7
      have hb7 := hb.pr hp7'
      have hbx7 := hb7.lds.1
      simp only [tkc] at hbx7
      simp only [e5, e7, hbx7, go_sem, ↓reduceIte, reduceCtorEq, Nat.reduceEqDiff, Nat.reduceAdd, Nat.reduceSub, Nat.reduceMul, Nat.reduceLeDiff, Nat.reduceLT, binA]
      refine WO_callx [.agg (tkc t), .int .i64 5, .str pL] (by simp only [go_sem, ↓reduceIte, reduceCtorEq, Nat.reduceEqDiff, Nat.reduceAdd, Nat.reduceSub, Nat.reduceMul, Nat.reduceLeDiff, Nat.reduceLT, loadA, rdCells, binA]; rfl) ((is_law t 5 pL S7).mono ?_)
      rintro v8 S8 ⟨rfl, hk8⟩
      have hm8 := hm7.keep' hk8
      have hp8 := hp7'.trans (Pr.keep hm7 hk8)
      have hb8 := hb.pr hp8
      have hbx8 := hb8.lds.1
      simp only [tkc] at hbx8
      cases c1 : isT t 5 pL
      · simp only [e5, e7, hbx8, go_sem, ↓reduceIte, reduceCtorEq, Nat.reduceEqDiff, Nat.reduceAdd, Nat.reduceSub, Nat.reduceMul, Nat.reduceLeDiff, Nat.reduceLT, binA]
        refine WO_callx [.agg (tkc t), .int .i64 5, .str pO] (by simp only [go_sem, ↓reduceIte, reduceCtorEq, Nat.reduceEqDiff, Nat.reduceAdd, Nat.reduceSub, Nat.reduceMul, Nat.reduceLeDiff, Nat.reduceLT, loadA, rdCells, binA]; rfl) ((is_law t 5 pO S8).mono ?_)
        rintro v9 S10 ⟨rfl, hk10⟩
        have hm11 := hm8.keep' hk10
        have hp11 := hp8.trans (Pr.keep hm8 hk10)
        cases c2 : isT t 5 pO
        · simp only [go_sem, ↓reduceIte, reduceCtorEq, Nat.reduceEqDiff, Nat.reduceAdd, Nat.reduceSub, Nat.reduceMul, Nat.reduceLeDiff, Nat.reduceLT, binA]
          refine hgo _ _ ⟨rfl, rfl, rfl, rfl, rfl⟩ ?_ hp11
          simp only [tailM, c1, c2, Bool.or_false, if_true, Bool.false_eq_true, if_false]
          exact hm11
        · obtain ⟨sv8, ov8, sv9, S9, o8, happ8, o9, hc9, ho9, hm10, hp10⟩ := hm11.push (0, ⟨#[]⟩) (by simp; omega)
          have hl8 : loadA S10 false 1 (.ptr p 0) = some sv8 := by simp [loadA, rdCells, o8]
          simp only [cxc] at happ8
          simp only [e5, hl8, happ8, o9, hc9, ho9, go_sem, ↓reduceIte, reduceCtorEq, Nat.reduceEqDiff, Nat.reduceAdd, Nat.reduceSub, Nat.reduceMul, Nat.reduceLeDiff, Nat.reduceLT, binA]
          refine hgo _ _ ⟨rfl, rfl, rfl, rfl, rfl⟩ ?_ (hp11.trans hp10)
          simp only [tailM, c1, c2, Bool.or_true, Bool.true_or, if_true, Bool.false_eq_true, if_false, List.reverse_cons]
          exact hm10
      · obtain ⟨sv8, ov8, sv9, S9, o8, happ8, o9, hc9, ho9, hm10, hp10⟩ := hm8.push (0, ⟨#[]⟩) (by simp; omega)
        have hl8 : loadA S8 false 1 (.ptr p 0) = some sv8 := by simp [loadA, rdCells, o8]
        simp only [cxc] at happ8
        simp only [e5, hl8, happ8, o9, hc9, ho9, go_sem, ↓reduceIte, reduceCtorEq, Nat.reduceEqDiff, Nat.reduceAdd, Nat.reduceSub, Nat.reduceMul, Nat.reduceLeDiff, Nat.reduceLT, binA]
        refine hgo _ _ ⟨rfl, rfl, rfl, rfl, rfl⟩ ?_ (hp8.trans hp10)
        simp only [tailM, c1, Bool.or_true, Bool.true_or, if_true, Bool.false_eq_true, if_false, List.reverse_cons]
        exact hm10
    · simp only [cf64_t, e5, e7, e8, hb.lds.1, hb.lds.2.1, hk, go_sem, ↓reduceIte, reduceCtorEq, Nat.reduceEqDiff, Nat.reduceAdd, Nat.reduceSub, Nat.reduceMul, Nat.reduceLeDiff, Nat.reduceLT, binA]
      have htd := tw_dw (q := over t) r
      refine WO_callx [.ptr p 0, .agg (tkc t)] (by simp only [go_sem, ↓reduceIte, reduceCtorEq, Nat.reduceEqDiff, Nat.reduceAdd, Nat.reduceSub, Nat.reduceMul, Nat.reduceLeDiff, Nat.reduceLT, loadA, rdCells, binA]) ((line_law hm (by omega) (by omega) t).mono ?_)
      rintro v4 S4 ⟨hm4, hp4⟩
      have hsl : (semis (r.dropWhile (over t)) t).length ≤ 1 := by unfold semis; split <;> simp
      have hol : (out ++ closes (r.takeWhile (over t)).length t ++ semis (r.dropWhile (over t)) t).length ≤ out.length + (r.takeWhile (over t)).length + 1 := by simp [closes]; omega
      have hb4 := hb.pr hp4
      simp only [hb4.lds.1, e5, e7, go_sem, ↓reduceIte, reduceCtorEq, Nat.reduceEqDiff, Nat.reduceAdd, Nat.reduceSub, Nat.reduceMul, Nat.reduceLeDiff, Nat.reduceLT, binA]
      refine WO_callx [.ptr p 0, .agg (tkc t)] (by simp only [e5, go_sem, ↓reduceIte, reduceCtorEq, Nat.reduceEqDiff, Nat.reduceAdd, Nat.reduceSub, Nat.reduceMul, Nat.reduceLeDiff, Nat.reduceLT, loadA, rdCells, binA]) ((before_law hm4 (by omega) (by omega) t).mono ?_)
      rintro v5 S5 ⟨hm5, hp5⟩
      have hbl := befR_len (r.dropWhile (over t)) t
      have hp5' := hp4.trans hp5
      have hb5 := hb.pr hp5'
      obtain ⟨sv, ov, ov', S6, o5, happ, o6, hc6, ho6, hm7, hp7⟩ := hm5.app t (by simp [closes]; omega)
      have hl5 : loadA S5 false 1 (.ptr p 1) = some ov := by simp [loadA, rdCells, o5]
      have happ' := happ
      simp only [tkc] at happ'
      have hbx := hb5.lds.1
      simp only [e5, e7, hl5, hbx, go_sem, ↓reduceIte, reduceCtorEq, Nat.reduceEqDiff, Nat.reduceAdd, Nat.reduceSub, Nat.reduceMul, Nat.reduceLeDiff, Nat.reduceLT, binA]
      have hcl5 : ((tkc t).length = 5) = True := by simp [tkc]
      simp only [tkc, hcl5, happ', o6, hc6, ho6, go_sem, ↓reduceIte, reduceCtorEq, Nat.reduceEqDiff, Nat.reduceAdd, Nat.reduceSub, Nat.reduceMul, Nat.reduceLeDiff, Nat.reduceLT, binA]
      generalize hS7 : S6.put p (some (AO.cells [sv, ov'])) = S7 at hm7 hp7
      have hp7' := hp5'.trans hp7
      have hb7 := hb.pr hp7'
      have hbx7 := hb7.lds.1
      simp only [tkc] at hbx7
      simp only [e5, e7, hbx7, go_sem, ↓reduceIte, reduceCtorEq, Nat.reduceEqDiff, Nat.reduceAdd, Nat.reduceSub, Nat.reduceMul, Nat.reduceLeDiff, Nat.reduceLT, binA]
      refine WO_callx [.agg (tkc t), .int .i64 5, .str pL] (by simp only [go_sem, ↓reduceIte, reduceCtorEq, Nat.reduceEqDiff, Nat.reduceAdd, Nat.reduceSub, Nat.reduceMul, Nat.reduceLeDiff, Nat.reduceLT, loadA, rdCells, binA]; rfl) ((is_law t 5 pL S7).mono ?_)
      rintro v8 S8 ⟨rfl, hk8⟩
      have hm8 := hm7.keep' hk8
      have hp8 := hp7'.trans (Pr.keep hm7 hk8)
      have hb8 := hb.pr hp8
      have hbx8 := hb8.lds.1
      simp only [tkc] at hbx8
      cases c1 : isT t 5 pL
      · simp only [e5, e7, hbx8, go_sem, ↓reduceIte, reduceCtorEq, Nat.reduceEqDiff, Nat.reduceAdd, Nat.reduceSub, Nat.reduceMul, Nat.reduceLeDiff, Nat.reduceLT, binA]
        refine WO_callx [.agg (tkc t), .int .i64 5, .str pO] (by simp only [go_sem, ↓reduceIte, reduceCtorEq, Nat.reduceEqDiff, Nat.reduceAdd, Nat.reduceSub, Nat.reduceMul, Nat.reduceLeDiff, Nat.reduceLT, loadA, rdCells, binA]; rfl) ((is_law t 5 pO S8).mono ?_)
        rintro v9 S10 ⟨rfl, hk10⟩
        have hm11 := hm8.keep' hk10
        have hp11 := hp8.trans (Pr.keep hm8 hk10)
        cases c2 : isT t 5 pO
        · simp only [go_sem, ↓reduceIte, reduceCtorEq, Nat.reduceEqDiff, Nat.reduceAdd, Nat.reduceSub, Nat.reduceMul, Nat.reduceLeDiff, Nat.reduceLT, binA]
          refine hgo _ _ ⟨rfl, rfl, rfl, rfl, rfl⟩ ?_ hp11
          simp only [tailM, c1, c2, Bool.or_false, if_true, Bool.false_eq_true, if_false]
          exact hm11
        · obtain ⟨sv8, ov8, sv9, S9, o8, happ8, o9, hc9, ho9, hm10, hp10⟩ := hm11.push (0, ⟨#[]⟩) (by simp; omega)
          have hl8 : loadA S10 false 1 (.ptr p 0) = some sv8 := by simp [loadA, rdCells, o8]
          simp only [cxc] at happ8
          simp only [e5, hl8, happ8, o9, hc9, ho9, go_sem, ↓reduceIte, reduceCtorEq, Nat.reduceEqDiff, Nat.reduceAdd, Nat.reduceSub, Nat.reduceMul, Nat.reduceLeDiff, Nat.reduceLT, binA]
          refine hgo _ _ ⟨rfl, rfl, rfl, rfl, rfl⟩ ?_ (hp11.trans hp10)
          simp only [tailM, c1, c2, Bool.or_true, Bool.true_or, if_true, Bool.false_eq_true, if_false, List.reverse_cons]
          exact hm10
      · obtain ⟨sv8, ov8, sv9, S9, o8, happ8, o9, hc9, ho9, hm10, hp10⟩ := hm8.push (0, ⟨#[]⟩) (by simp; omega)
        have hl8 : loadA S8 false 1 (.ptr p 0) = some sv8 := by simp [loadA, rdCells, o8]
        simp only [cxc] at happ8
        simp only [e5, hl8, happ8, o9, hc9, ho9, go_sem, ↓reduceIte, reduceCtorEq, Nat.reduceEqDiff, Nat.reduceAdd, Nat.reduceSub, Nat.reduceMul, Nat.reduceLeDiff, Nat.reduceLT, binA]
        refine hgo _ _ ⟨rfl, rfl, rfl, rfl, rfl⟩ ?_ (hp8.trans hp10)
        simp only [tailM, c1, Bool.or_true, Bool.true_or, if_true, Bool.false_eq_true, if_false, List.reverse_cons]
        exact hm10
  · have hk9 : t.kind = 9 := by simpa using hk
    simp only [cf64_t, e7, hb.lds.2.1, hk, go_sem, ↓reduceIte, reduceCtorEq, Nat.reduceEqDiff, Nat.reduceAdd, Nat.reduceSub, Nat.reduceMul, Nat.reduceLeDiff, Nat.reduceLT, binA]
    exact hend hk9 _ ⟨rfl, rfl, rfl, rfl, rfl⟩
end Go.Am.Y1

/- Mark: the end. Conditions: none. -/
namespace Go.Am.Y1
open Go.Am.L1 (bts_len Tk tkc tkP)
set_option maxRecDepth 100000
set_option linter.unusedSimpArgs false
attribute [local go_sem] wseq wreg wdreg wret wskip wexit wblock wcnd cnd_t cnd_f then_n then_x then_r catch_n rnd_n rnd_x rnd_r catch_x catch_r wo_nil wo_grd grdO_t grdO_f wo_ops stpO wr_nil wr_alloc wr_guards grdR_t grdR_f wr_ops stpR evAllocs evOp env0_app eput_some eput_none eset_app Opd.ev wantedA faddrA storeA setAt snew_obj snew_size sput_obj sput_size av_cells av_one av_strip av_still unA eqbA fillA fldA lensA mmA mm2 mmFold List.getD_cons_zero List.getD_cons_succ List.getD_nil List.length_cons List.length_nil List.drop_zero List.drop_succ_cons List.take_succ_cons List.take_zero List.map_cons List.map_nil List.set_cons_zero List.set_cons_succ List.all_cons List.all_nil List.getElem?_cons_zero List.getElem?_cons_succ List.nil_append List.cons_append Nat.zero_add Nat.add_zero beq_self_eq_true bt bf Bool.not_true Bool.not_false Bool.and_true Bool.true_and Bool.and_false Bool.false_and and_self and_true true_and n0 n1 n2 n3 n4 m0 m1 m2 m3 c1 retA resAs resA undefA Option.map_some Option.map_none

/-- What opens a block. -/
def openM (prev : Option Tk) (t : Tk) (r : List Cx) (out : List Tk) : List Cx × List Tk × Bool :=
  match prev with
  | none => (r, out, true)
  | some u => if !(opensT u) then (r, out, decide ((t.line : Int) > u.line)) else if isT t 5 pO then (r, out, false)
    else if t.kind != 9 && decide ((t.col : Int) > Go.Proofs.Tryd.enclV r) then (((t.col : Int), u.text) :: r, out ++ [mkT 6 t], false)
    else (r, out ++ [mkT 6 t] ++ [mkT 7 t], decide ((t.line : Int) > u.line))
/-- All tokens, with those of the layout. -/
def markG : Option Tk → List Tk → List Cx → List Tk → List Cx × List Tk
  | _, [], r, out => (r, out)
  | prev, t :: R, r, out => if t.kind == 9 then ((openM prev t r out).1, (openM prev t r out).2.1) else
    markG (some t) R (tailM t (openM prev t r out).2.2 (openM prev t r out).1 (openM prev t r out).2.1).1 (tailM t (openM prev t r out).2.2 (openM prev t r out).1 (openM prev t r out).2.1).2
def lastT (L : List Tk) : Tk := L.getLast?.getD ⟨0, ⟨#[]⟩, 0, 0, 0⟩
def markT (L : List Tk) : List Tk := (markG none L [] []).2 ++ closes ((markG none L [] []).1.filter pos).length (lastT L) ++ [lastT L]

set_option maxHeartbeats 2000000 in
theorem end_law {B : Nat → Prop} {S : St} {p q : Nat} {L : List Tk} {r : List Cx} {out : List Tk} (hm : Mk B S p r.reverse out) (hT : TokL S q L) (hq : ∀ j, j ≤ q → B j) (hL : 0 < L.length) (hLl : L.length ≤ 10000) (hr : r.length ≤ 50000) (ho : out.length + r.length ≤ 500000)
    {e : Env} (e0 : e 0 = .msl q 0 L.length 5) (e5 : e 5 = .ptr p 0) {Q : CX → Env → St → Prop}
    (hQ : ∀ e' S' ov, e' 2 = ov → e' 3 = .int .i64 0 → MSl tkc 5 S' ov (out ++ closes (r.filter pos).length (lastT L) ++ [lastT L]) → (∀ j, B j → notO ov j) → Pr B S S' → Q .ret e' S') : W T yx cf64_r e S Q := by
  have hlen : lenA (.msl q 0 L.length 5) = some (.int .i64 L.length) := rfl
  have hla : L[L.length - 1]? = some (lastT L) := by
    rw [lastT, List.getLast?_eq_getElem?, List.getElem?_eq_getElem (by omega)]; rfl
  have hw : IntKind.i64.wrap ((L.length : Int) - 1) = ((L.length - 1 : Nat) : Int) := by rw [IntKind.wrap_i64]; omega
  have haj := tok_addr (q := q) (n := L.length) (j := L.length - 1) (by omega)
  have hBq : B q := hq q (Nat.le_refl _)
  have hTk : ∀ S', Pr B S S' → TokL S' q L := fun S' hp => ⟨(hp.2 q hBq).trans hT.obj, Nat.lt_of_lt_of_le hT.lt hp.1⟩
  simp only [cf64_r, go_sem, ↓reduceIte, reduceCtorEq, Nat.reduceEqDiff, Nat.reduceAdd, Nat.reduceSub, Nat.reduceMul, Nat.reduceLeDiff, Nat.reduceLT, binA]
  refine W_loop_nat (fun k e S1 => ∃ (r1 : List Cx) (n : Nat), k = r1.length ∧ e 0 = .msl q 0 L.length 5 ∧ e 5 = .ptr p 0 ∧ Mk B S1 p r1.reverse (out ++ closes n (lastT L)) ∧ Pr B S S1 ∧ n + (r1.filter pos).length = (r.filter pos).length ∧ n + r1.length ≤ r.length) ?_ r.length _ _
    ⟨r, 0, rfl, e0, e5, by simpa [closes] using hm, Pr.refl _ _, by omega, by omega⟩
  rintro k e1 S1 ⟨r1, n, rfl, f0, f5, hm1, hp1, hn, hln⟩
  have hoc : (out ++ closes n (lastT L)).length = out.length + n := by simp [closes]
  obtain ⟨sv, ov, o1, st1, -⟩ := hm1.ex
  have hl1 : loadA S1 false 1 (.ptr p 0) = some sv := by simp [loadA, rdCells, o1]
  cases r1 with
  | nil =>
    have hg : decide (((([] : List Cx).reverse.length : Nat) : Int) > 0) = false := rfl
    have hT1 := hTk S1 hp1
    obtain ⟨sv9, ov9, ov', S6, o5, happ, o6, hc6, ho6, hm7, hp7⟩ := hm1.app (lastT L) (by omega)
    have hl5 : loadA S1 false 1 (.ptr p 1) = some ov9 := by simp [loadA, rdCells, o5]
    have hl7 : loadA (S6.put p (some (AO.cells [sv9, ov']))) false 1 (.ptr p 1) = some ov' := by simp [loadA, rdCells, put_eq]
    have hMo : MSl tkc 5 (S6.put p (some (AO.cells [sv9, ov']))) ov' (out ++ closes n (lastT L) ++ [lastT L]) ∧ ∀ j, B j → notO ov' j := by
      obtain ⟨sv'', ov'', q1, -, q3, -, -, -, q7⟩ := hm7.ex
      rw [put_eq] at q1
      cases q1
      exact ⟨q3, fun j hj => (q7 j hj).2⟩
    have hat := (hT1.at hla).1
    have hcl5 : ((tkc (lastT L)).length = 5) = True := by simp [tkc]
    simp only [tkc] at happ hat hcl5
    simp only [cf64_l0, f0, f5, hl1, hl5, st1.len, hg, hlen, hw, haj, hat, hcl5, happ, o6, hc6, ho6, go_sem, ↓reduceIte, reduceCtorEq, Nat.reduceEqDiff, Nat.reduceAdd, Nat.reduceSub, Nat.reduceMul, Nat.reduceLeDiff, Nat.reduceLT, binA]
    generalize hS7 : S6.put p (some (AO.cells [sv9, ov'])) = S7 at *
    simp only [f5, hl7, go_sem, ↓reduceIte, reduceCtorEq, Nat.reduceEqDiff, Nat.reduceAdd, Nat.reduceSub, Nat.reduceMul, Nat.reduceLeDiff, Nat.reduceLT, binA]
    simp only [List.filter_nil, List.length_nil, Nat.add_zero] at hn
    refine hQ _ _ ov' rfl rfl ?_ hMo.2 (hp1.trans hp7)
    rw [← hn]
    exact hMo.1
  | cons c r2 =>
    have hg : decide ((((c :: r2).reverse.length : Nat) : Int) > 0) = true := decide_eq_true (by simp)
    simp only [cf64_l0, f5, hl1, st1.len, hg, go_sem, ↓reduceIte, reduceCtorEq, Nat.reduceEqDiff, Nat.reduceAdd, Nat.reduceSub, Nat.reduceMul, Nat.reduceLeDiff, Nat.reduceLT, binA]
    refine WO_callx [.ptr p 0] (by simp only [go_sem, ↓reduceIte, reduceCtorEq, Nat.reduceEqDiff, Nat.reduceAdd, Nat.reduceSub, Nat.reduceMul, Nat.reduceLeDiff, Nat.reduceLT, loadA, rdCells, binA]) ((top_law hm1 (by simp at hln ⊢; omega)).mono ?_)
    rintro v S2 ⟨rfl, hk2⟩
    have hm2 := hm1.keep' hk2
    have hp2 := hp1.trans (Pr.keep hm1 hk2)
    have hT2 := hTk S2 hp2
    rw [topc_rev]
    simp only [List.head?_cons, Option.getD_some, fld0, go_sem, ↓reduceIte, reduceCtorEq, Nat.reduceEqDiff, Nat.reduceAdd, Nat.reduceSub, Nat.reduceMul, Nat.reduceLeDiff, Nat.reduceLT, binA]
    simp only [List.length_cons] at hln
    cases hc : decide (c.1 > 0)
    · have hpc : pos c = false := hc
      rw [List.filter_cons, hpc] at hn
      simp only [Bool.false_eq_true, if_false] at hn
      simp only [f5, go_sem, ↓reduceIte, reduceCtorEq, Nat.reduceEqDiff, Nat.reduceAdd, Nat.reduceSub, Nat.reduceMul, Nat.reduceLeDiff, Nat.reduceLT, binA]
      rw [List.reverse_cons] at hm2
      refine WO_callx [.ptr p 0] (by simp only [f5, go_sem, ↓reduceIte, reduceCtorEq, Nat.reduceEqDiff, Nat.reduceAdd, Nat.reduceSub, Nat.reduceMul, Nat.reduceLeDiff, Nat.reduceLT, loadA, rdCells, binA]) ((pop_law hm2 (by simp; omega)).mono ?_)
      rintro v2 S3 ⟨hm3, hp3⟩
      simp only [go_sem, ↓reduceIte, reduceCtorEq, Nat.reduceEqDiff, Nat.reduceAdd, Nat.reduceSub, Nat.reduceMul, Nat.reduceLeDiff, Nat.reduceLT, binA]
      exact ⟨r2.length, by simp, r2, n, rfl, f0, f5, hm3, hp2.trans hp3, hn, by omega⟩
    · have hpc : pos c = true := hc
      rw [List.filter_cons, hpc] at hn
      simp only [if_true, List.length_cons] at hn
      simp only [f0, f5, hlen, hw, haj, (hT2.at hla).1, go_sem, ↓reduceIte, reduceCtorEq, Nat.reduceEqDiff, Nat.reduceAdd, Nat.reduceSub, Nat.reduceMul, Nat.reduceLeDiff, Nat.reduceLT, binA]
      refine WO_callx [.ptr p 0, .int .i64 7, .agg (tkc (lastT L))] (by simp only [go_sem, ↓reduceIte, reduceCtorEq, Nat.reduceEqDiff, Nat.reduceAdd, Nat.reduceSub, Nat.reduceMul, Nat.reduceLeDiff, Nat.reduceLT, loadA, rdCells, binA]) ((close_one hm2 (by omega) (by omega) (Q := fun _ S' => Mk B S' p r2.reverse (out ++ closes n (lastT L) ++ [mkT 7 (lastT L)]) ∧ Pr B S2 S') (fun v S' h1 h2 => ⟨h1, h2⟩)).mono ?_)
      rintro v4 S4 hqq
      simp only [f5, go_sem, ↓reduceIte, reduceCtorEq, Nat.reduceEqDiff, Nat.reduceAdd, Nat.reduceSub, Nat.reduceMul, Nat.reduceLeDiff, Nat.reduceLT, binA]
      refine WO_callx [.ptr p 0] (by simp only [f5, go_sem, ↓reduceIte, reduceCtorEq, Nat.reduceEqDiff, Nat.reduceAdd, Nat.reduceSub, Nat.reduceMul, Nat.reduceLeDiff, Nat.reduceLT, loadA, rdCells, binA]) (hqq.mono ?_)
      rintro v5 S5 ⟨hm5, hp5⟩
      rw [List.append_assoc, closes_snoc] at hm5
      simp only [go_sem, ↓reduceIte, reduceCtorEq, Nat.reduceEqDiff, Nat.reduceAdd, Nat.reduceSub, Nat.reduceMul, Nat.reduceLeDiff, Nat.reduceLT, binA]
      exact ⟨r2.length, by simp, r2, n + 1, rfl, f0, f5, hm5, hp2.trans hp5, by omega, by omega⟩
end Go.Am.Y1
