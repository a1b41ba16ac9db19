/- The store: Put. Conditions: none. -/
import Derived.Test.YtepgbpohmljedaaAmVb
set_option linter.unusedSimpArgs false
set_option linter.unusedVariables false
namespace Go.Am.V1
open Go.St (up up_same up_ne Ring)
set_option maxRecDepth 100000
set_option linter.unusedSimpArgs false
attribute [local go_sem] wseq wreg wdreg wret wskip wexit wblock wcnd cnd_t cnd_f then_n then_x then_r catch_n rnd_n rnd_x rnd_r catch_x catch_r wo_nil wo_grd grdO_t grdO_f wo_ops stpO wr_nil wr_alloc wr_guards grdR_t grdR_f wr_ops stpR evAllocs evOp env0_app eput_some eput_none eset_app Opd.ev wantedA faddrA snew_obj snew_size sput_obj sput_size av_cells av_one av_strip av_still unA eqbA fillA fldA lensA mmA mm2 mmFold List.getD_cons_zero List.getD_cons_succ List.getD_nil List.length_cons List.length_nil List.drop_zero List.drop_succ_cons List.take_succ_cons List.take_zero List.map_cons List.map_nil List.set_cons_zero List.set_cons_succ List.all_cons List.all_nil List.getElem?_cons_zero List.getElem?_cons_succ List.nil_append List.cons_append Nat.zero_add Nat.add_zero beq_self_eq_true bt bf Bool.not_true Bool.not_false Bool.and_true Bool.true_and Bool.and_false Bool.false_and and_self and_true true_and n0 n1 n2 n3 n4 m0 m1 m2 m3 c1 retA resAs resA undefA Option.map_some Option.map_none

def big : Nat := 4611686018427387904
theorem strcP : Plain strc 1 := ⟨strc_len, fun _ => rfl, fun _ => rfl, fun _ => rfl⟩

theorem Sto.of {S S' : St} {q r m room : Nat} {bs : List Nat} {ky vl : Nat → ByteArray} {la ol : Nat → Nat} {es : List (ByteArray × AV)} (h : Sto S q r m room bs ky vl la ol es) (hs : S.size ≤ S'.size) (ho : ∀ j, j < S.size → S.obj j ≠ some .right → S'.obj j = S.obj j) : Sto S' q r m room bs ky vl la ol es :=
  ⟨(ho q h.ql (by rw [h.own]; simp)).trans h.own, h.nds.of hs fun b hb => ho b (h.nds b hb).2 (by rw [(h.nds b hb).1]; simp), h.ring, (ho m h.ml (by rw [h.map]; simp)).trans h.map, h.nd, h.get, h.non, h.keys, h.fits, h.small, Nat.lt_of_lt_of_le h.ql hs, Nat.lt_of_lt_of_le h.ml hs⟩

theorem ring_last {la ol : Nat → Nat} {r x : Nat} {B : List Nat} (h : Ring la ol r (B ++ [x])) : la r = x := by
  have hl := h.lk
  have e : r :: (B ++ [x]) ++ [r] = (r :: B) ++ x :: [r] := by simp
  rw [e, Go.St.Lk.split] at hl
  exact hl.2.2.1
theorem _root_.Go.Am.Grw.r {S S' : St} {v : AV} {l : List ByteArray} {t : Option Nat} (h : Grw strc 0 S v l t) (hk : KeepR S S') : Grw strc 0 S' v l t := by
  refine h.keep hk.1 ?_
  rintro k rfl
  rcases h with ⟨-, -, h⟩ | ⟨j, h1, -, -, h4, -⟩
  · cases h
  · cases h1; rw [h4, hk.2 _ h4]
theorem clone_law (s : ByteArray) (S : St) (hs : s.size ≤ 1000) : WC T xv 16 [.str s] S (fun v S' => v = .str s ∧ S' = S) := by
  refine WC_fn cf16 rfl T16 (by simp [cf16]) ?_
  simp only [cf16, go_sem, ↓reduceIte, reduceCtorEq, Nat.reduceEqDiff, Nat.reduceAdd, Nat.reduceSub, Nat.reduceMul, Nat.reduceLeDiff, Nat.reduceLT, loadA, rdCells, storeA, setAt, binA]
  refine WO_callx [.str s] (by simp only [go_sem, ↓reduceIte, reduceCtorEq, Nat.reduceEqDiff, Nat.reduceAdd, Nat.reduceSub, Nat.reduceMul, Nat.reduceLeDiff, Nat.reduceLT, loadA, rdCells, storeA, setAt, binA]) (WC_ext (h := cloneX) rfl (v := .str s) (s' := S) (by simp only [cloneX]; rw [if_pos (by omega)]) ?_)
  simp only [go_sem, ↓reduceIte, reduceCtorEq, Nat.reduceEqDiff, Nat.reduceAdd, Nat.reduceSub, Nat.reduceMul, Nat.reduceLeDiff, Nat.reduceLT, loadA, rdCells, storeA, setAt, binA]
  exact ⟨by simp, _, rfl, rfl⟩

set_option maxHeartbeats 2000000 in
theorem put_law {S : St} {q r m room : Nat} {bs : List Nat} {ky vl : Nat → ByteArray} {la ol : Nat → Nat} {es : List (ByteArray × AV)} (h : Sto S q r m room bs ky vl la ol es) (key val : ByteArray) (hks : key.size ≤ 281474976710656) (hvs : val.size ≤ 281474976710656) (hb : bs.length * 16 ≤ 140737488355328) :
    WC T xv 6 [.ptr q 0, .str key, .str val] S (fun v S' => (room < key.size + val.size ∧ v = .tup [.nils, .int .i64 16] ∧ S' = S) ∨
      (key.size + val.size ≤ room ∧ ∃ gv gl b bs' ky' vl' la' ol' es', v = .tup [gv, .int .i64 0] ∧ ISl strc gv gl ∧ gl.length ≤ bs.length ∧ key ∉ gl ∧ Sto S' q r m room (b :: bs') ky' vl' la' ol' es' ∧ ky' b = key ∧ vl' b = val ∧ bs'.length ≤ bs.length)) := by
  refine WC_fn cf6 rfl T6 (by simp [cf6]) ?_

  obtain ⟨lr, -, -, lm⟩ := stc_lds h.own
  have hsm := h.small
  have w1 : IntKind.i64.wrap ((key.size : Int) + (val.size : Int)) = ((key.size + val.size : Nat) : Int) := by rw [IntKind.wrap_i64]; omega
  by_cases hroom : room < key.size + val.size
  · have hd : decide (((key.size + val.size : Nat) : Int) > (room : Int)) = true := by simp; omega
    simp only [cf6, go_sem, ↓reduceIte, reduceCtorEq, Nat.reduceEqDiff, Nat.reduceAdd, Nat.reduceSub, Nat.reduceMul, Nat.reduceLeDiff, Nat.reduceLT, binA, lr, w1, hd]
    exact ⟨by simp, _, rfl, Or.inl ⟨hroom, rfl⟩⟩
  · have hd : decide (((key.size + val.size : Nat) : Int) > (room : Int)) = false := by simp; omega
    have hkx : key.size ≤ maxKey := by simp only [maxKey]; omega
    -- what stands behind the search for the key
    have tail : ∀ (e1 : Env) (S1 : St) (bs1 : List Nat) (la1 ol1 : Nat → Nat) (es1 : List (ByteArray × AV)), Sto S1 q r m room bs1 ky vl la1 ol1 es1 → (∀ b, b ∈ bs1 → ky b ≠ key) → bs1.length ≤ bs.length → e1 0 = .ptr q 0 → e1 1 = .str key → e1 2 = .str val →
        W T xv cf6_t e1 S1 (fun x e' s' => (∀ j, x ≠ .exit j) ∧ ∃ v, retA e' s' [(.tmp 6), (.tmp 7)] = some v ∧ ((room < key.size + val.size ∧ v = .tup [.nils, .int .i64 16] ∧ s' = S) ∨
      (key.size + val.size ≤ room ∧ ∃ gv gl b bs' ky' vl' la' ol' es', v = .tup [gv, .int .i64 0] ∧ ISl strc gv gl ∧ gl.length ≤ bs.length ∧ key ∉ gl ∧ Sto s' q r m room (b :: bs') ky' vl' la' ol' es' ∧ ky' b = key ∧ vl' b = val ∧ bs'.length ≤ bs.length))) := by
      intro e1 S1 bs1 la1 ol1 es1 h1 hne hln e0 ek ev
      simp only [cf6_t, go_sem, ↓reduceIte, reduceCtorEq, Nat.reduceEqDiff, Nat.reduceAdd, Nat.reduceSub, Nat.reduceMul, Nat.reduceLeDiff, Nat.reduceLT, binA]
      refine W_loop_nat (fun k e s => ∃ bs2 la2 ol2 es2 gv gl t, k = bs2.length ∧ e 0 = .ptr q 0 ∧ e 1 = .str key ∧ e 2 = .str val ∧ e 9 = gv ∧ Sto s q r m room bs2 ky vl la2 ol2 es2 ∧ (∀ b, b ∈ bs2 → ky b ≠ key) ∧ Grw strc 0 s gv gl t ∧ key ∉ gl ∧ gl.length + bs2.length ≤ bs.length) ?_ bs1.length _ _
        ⟨bs1, la1, ol1, es1, .nils, [], none, rfl, by simp only [e0, go_sem, ↓reduceIte, reduceCtorEq, Nat.reduceEqDiff, Nat.reduceAdd, Nat.reduceSub, Nat.reduceMul, Nat.reduceLeDiff, Nat.reduceLT, loadA, rdCells, storeA, setAt, binA], by simp only [ek, go_sem, ↓reduceIte, reduceCtorEq, Nat.reduceEqDiff, Nat.reduceAdd, Nat.reduceSub, Nat.reduceMul, Nat.reduceLeDiff, Nat.reduceLT, loadA, rdCells, storeA, setAt, binA], by simp only [ev, go_sem, ↓reduceIte, reduceCtorEq, Nat.reduceEqDiff, Nat.reduceAdd, Nat.reduceSub, Nat.reduceMul, Nat.reduceLeDiff, Nat.reduceLT, loadA, rdCells, storeA, setAt, binA], by simp only [go_sem, ↓reduceIte, reduceCtorEq, Nat.reduceEqDiff, Nat.reduceAdd, Nat.reduceSub, Nat.reduceMul, Nat.reduceLeDiff, Nat.reduceLT, loadA, rdCells, storeA, setAt, binA], h1, hne, Or.inl ⟨rfl, rfl, rfl⟩, by simp, by simpa using hln⟩
      rintro k e s ⟨bs2, la2, ol2, es2, gv, gl, t, rfl, f0, f1, f2, f9, h2, hne2, hg, hgk, hgl⟩
      obtain ⟨lr2, lu2, lp2, -⟩ := stc_lds h2.own
      have hf2 := h2.fits
      have w2 : IntKind.i64.wrap (((tot ky vl bs2 : Nat) : Int) + (key.size : Int)) = ((tot ky vl bs2 + key.size : Nat) : Int) := by rw [IntKind.wrap_i64]; omega
      have w3 : IntKind.i64.wrap (((tot ky vl bs2 + key.size : Nat) : Int) + (val.size : Int)) = ((tot ky vl bs2 + key.size + val.size : Nat) : Int) := by rw [IntKind.wrap_i64]; omega
      by_cases hful : room < tot ky vl bs2 + key.size + val.size
      · have hd2 : decide (((tot ky vl bs2 + key.size + val.size : Nat) : Int) > (room : Int)) = true := by simp; omega
        obtain ⟨B, x, rfl⟩ : ∃ B x, bs2 = B ++ [x] := by
          cases bs2 with
          | nil => simp only [tot, List.map_nil, List.sum_nil] at hful; omega
          | cons y l => obtain ⟨A, p, hp⟩ := Go.St.snoc_of l y; exact ⟨A, p, hp⟩
        have hx : la2 r = x := ring_last h2.ring
        obtain ⟨-, -, lpr, -⟩ := h2.nds.lds (b := r) (by simp)
        obtain ⟨lx, -, -, -⟩ := h2.nds.lds (b := x) (by simp)
        have hgc : (gl.length + 1) * 16 ≤ 140737488355328 := by simp only [List.length_append, List.length_singleton] at hgl; omega
        obtain ⟨gv', s3, ha, hg3, hz3, hk3⟩ := hg.app strcP (Nat.zero_le _) (ky x) (bytes := 16) hgc
        have ha' : appendA s false 1 16 gv (.sl [.str (ky x)] 1 true none) = some (gv', s3) := ha
        simp only [cf6_l0, f0, f1, f2, f9, go_sem, ↓reduceIte, reduceCtorEq, Nat.reduceEqDiff, Nat.reduceAdd, Nat.reduceSub, Nat.reduceMul, Nat.reduceLeDiff, Nat.reduceLT, binA, setAt, lr2, lu2, lp2, w2, w3, hd2, lpr, hx, lx, ha']
        have h3 : Sto s3 q r m room (B ++ [x]) ky vl la2 ol2 es2 := by
          refine h2.of (by omega) fun j hj hn => hk3 j hj ?_
          rintro rfl
          rcases hg with ⟨-, -, hg⟩ | ⟨p, hp, -, -, hr, -⟩
          · cases hg
          · cases hp; exact hn hr
        have hd3 := drop_law (l2 := []) h3
        rw [List.append_nil] at hd3
        refine WO_callx [.ptr q 0, .ptr x 0] (by simp only [go_sem, ↓reduceIte, reduceCtorEq, Nat.reduceEqDiff, Nat.reduceAdd, Nat.reduceSub, Nat.reduceMul, Nat.reduceLeDiff, Nat.reduceLT, loadA, rdCells, storeA, setAt, binA]) (hd3.mono ?_)
        rintro v s4 ⟨⟨la4, ol4, es4, h4⟩, hk4⟩
        simp only [f0, f1, f2, go_sem, ↓reduceIte, reduceCtorEq, Nat.reduceEqDiff, Nat.reduceAdd, Nat.reduceSub, Nat.reduceMul, Nat.reduceLeDiff, Nat.reduceLT, loadA, rdCells, storeA, setAt, binA]
        refine ⟨B.length, by simp, B, la4, ol4, es4, gv', gl ++ [ky x], _, rfl, rfl, h4, fun b hb => hne2 b (by simp [hb]), hg3.r hk4, ?_, ?_⟩
        · simp only [List.mem_append, List.mem_singleton, not_or]
          exact ⟨hgk, fun he => hne2 x (by simp) he.symm⟩
        · simp only [List.length_append, List.length_singleton] at hgl ⊢; omega
      · have hd2 : decide (((tot ky vl bs2 + key.size + val.size : Nat) : Int) > (room : Int)) = false := by simp; omega
        simp only [cf6_l0, f0, f1, f2, f9, go_sem, ↓reduceIte, reduceCtorEq, Nat.reduceEqDiff, Nat.reduceAdd, Nat.reduceSub, Nat.reduceMul, Nat.reduceLeDiff, Nat.reduceLT, binA, lr2, lu2, lp2, w2, w3, hd2]
        refine WO_callx [.str key] (by simp only [go_sem, ↓reduceIte, reduceCtorEq, Nat.reduceEqDiff, Nat.reduceAdd, Nat.reduceSub, Nat.reduceMul, Nat.reduceLeDiff, Nat.reduceLT, loadA, rdCells, storeA, setAt, binA]) ((clone_law key s (by omega)).mono ?_)
        rintro v s3 ⟨rfl, rfl⟩
        simp only [f0, f1, f2, f9, go_sem, ↓reduceIte, reduceCtorEq, Nat.reduceEqDiff, Nat.reduceAdd, Nat.reduceSub, Nat.reduceMul, Nat.reduceLeDiff, Nat.reduceLT, loadA, rdCells, storeA, setAt, binA]
        refine WO_callx [.str val] (by simp only [go_sem, ↓reduceIte, reduceCtorEq, Nat.reduceEqDiff, Nat.reduceAdd, Nat.reduceSub, Nat.reduceMul, Nat.reduceLeDiff, Nat.reduceLT, loadA, rdCells, storeA, setAt, binA]) ((clone_law val s3 (by omega)).mono ?_)
        rintro v s4 ⟨rfl, rfl⟩
        obtain ⟨ky', hky⟩ : ∃ ky', ky' = fun b => if b = s4.size then key else ky b := ⟨_, rfl⟩
        obtain ⟨vl', hvl⟩ : ∃ vl', vl' = fun b => if b = s4.size then val else vl b := ⟨_, rfl⟩
        have kx : ky' s4.size = key := by rw [hky]; simp
        have vx : vl' s4.size = val := by rw [hvl]; simp
        have hlow : ∀ b, b ∈ r :: bs2 → b ≠ s4.size := fun b hb => Nat.ne_of_lt (h2.nds b hb).2
        have ke : ∀ b, b ∈ r :: bs2 → ky' b = ky b := fun b hb => by rw [hky]; simp only; rw [if_neg (hlow b hb)]
        have ve : ∀ b, b ∈ r :: bs2 → vl' b = vl b := fun b hb => by rw [hvl]; simp only; rw [if_neg (hlow b hb)]
        have hqs := h2.ql
        have hms := h2.ml
        have hqc := h2.qc
        have hmc := h2.mc
        have hqm := h2.qm
        -- the new item
        obtain ⟨c0, hc0⟩ : ∃ c0, c0 = [AV.str key, .str val, .nilp, .nilp] := ⟨_, rfl⟩
        have b5 : (s4.new (.cells c0)).obj s4.size = some (.cells c0) := new_eq rfl
        have q5 : (s4.new (.cells c0)).obj q = some (.cells (stc room (tot ky vl bs2) r m)) := (new_ne (by omega)).trans h2.own
        have m5 : (s4.new (.cells c0)).obj m = some (.map es2) := (new_ne (by omega)).trans h2.map
        have n5 : Nds (s4.new (.cells c0)) (r :: bs2) ky' vl' la2 ol2 := fun b hb => by
          rw [ke b hb, ve b hb]; exact ⟨(new_ne (hlow b hb)).trans (h2.nds b hb).1, Nat.lt_succ_of_lt (h2.nds b hb).2⟩
        have z5 : (s4.new (.cells c0)).size = s4.size + 1 := rfl
        have l5 : loadA (s4.new (.cells c0)) false 1 (.ptr s4.size 0) = some (.str key) := by
          simp only [loadA, rdCells, b5]
          rw [hc0]; rfl
        obtain ⟨-, -, -, lm5⟩ := stc_lds q5
        simp only [f0, f1, f2, f9, go_sem, ↓reduceIte, reduceCtorEq, Nat.reduceEqDiff, Nat.reduceAdd, Nat.reduceSub, Nat.reduceMul, Nat.reduceLeDiff, Nat.reduceLT, binA, setAt]
        rw [← hc0]
        generalize s4.new (.cells c0) = s5 at *
        have b6 : (s5.put m (some (.map (mput es2 key (.ptr s4.size 0))))).obj s4.size = some (.cells c0) := (put_ne (by omega)).trans b5
        have q6 : (s5.put m (some (.map (mput es2 key (.ptr s4.size 0))))).obj q = some (.cells (stc room (tot ky vl bs2) r m)) := (put_ne hqm).trans q5
        have m6 : (s5.put m (some (.map (mput es2 key (.ptr s4.size 0))))).obj m = some (.map (mput es2 key (.ptr s4.size 0))) := put_eq
        have n6 : Nds (s5.put m (some (.map (mput es2 key (.ptr s4.size 0))))) (r :: bs2) ky' vl' la2 ol2 := n5.of (Nat.le_refl _) fun b hb => put_ne (by rintro rfl; exact hmc hb)
        have z6 : (s5.put m (some (.map (mput es2 key (.ptr s4.size 0))))).size = s4.size + 1 := z5
        simp only [wr_mup, f0, f1, f2, f9, go_sem, ↓reduceIte, reduceCtorEq, Nat.reduceEqDiff, Nat.reduceAdd, Nat.reduceSub, Nat.reduceMul, Nat.reduceLeDiff, Nat.reduceLT, binA, l5, lm5, mapOf, keyA, m5, hkx]
        generalize s5.put m (some (.map (mput es2 key (.ptr s4.size 0)))) = s6 at *
        have hor : ol2 r ∈ r :: bs2 := by
          cases bs2 with
          | nil => rw [h2.ring.alone.1]; simp
          | cons y l => rw [h2.ring.older.1]; simp
        refine WO_callx [.ptr q 0, .ptr s4.size 0] (by simp only [f0, go_sem, ↓reduceIte, reduceCtorEq, Nat.reduceEqDiff, Nat.reduceAdd, Nat.reduceSub, Nat.reduceMul, Nat.reduceLeDiff, Nat.reduceLT, loadA, rdCells, storeA, setAt, binA]) ((front_law q6 hqc n6 (fun hb => hlow _ hb rfl) (by rw [b6, hc0, kx, vx]) (by omega) (by simp) hor).mono ?_)
        rintro v s7 ⟨n7, k7⟩
        have hqx : q ≠ s4.size := by omega
        have q7 := (k7.2 q (by simp only [List.mem_cons, not_or] at hqc ⊢; exact ⟨hqx, hqc⟩)).trans q6
        have m7 := (k7.2 m (by simp only [List.mem_cons, not_or] at hmc ⊢; exact ⟨by omega, hmc⟩)).trans m6
        obtain ⟨-, lu7, -, -⟩ := stc_lds q7
        have w5 : IntKind.i64.wrap (((tot ky vl bs2 : Nat) : Int) + ((key.size + val.size : Nat) : Int)) = ((tot ky vl bs2 + (key.size + val.size) : Nat) : Int) := by rw [IntKind.wrap_i64]; omega
        have htot : tot ky' vl' (s4.size :: bs2) = tot ky vl bs2 + (key.size + val.size) := by
          have : bs2.map (fun b => (ky' b).size + (vl' b).size) = bs2.map (fun b => (ky b).size + (vl b).size) := List.map_congr_left fun b hb => by rw [ke b (by simp [hb]), ve b (by simp [hb])]
          simp only [tot, List.map_cons, List.sum_cons, this, kx, vx]; omega
        have s8 : storeA s7 1 (.ptr q 1) (.int .i64 ((tot ky vl bs2 + (key.size + val.size) : Nat) : Int)) = some (s7.put q (some (.cells (stc room (tot ky vl bs2 + (key.size + val.size) : Nat) r m)))) := by simp [storeA, q7, setAt, AV.cells, AV.one, stc]
        simp only [f0, f1, f2, f9, go_sem, ↓reduceIte, reduceCtorEq, Nat.reduceEqDiff, Nat.reduceAdd, Nat.reduceSub, Nat.reduceMul, Nat.reduceLeDiff, Nat.reduceLT, binA, lu7, w1, w5, s8]
        have hring := h2.ring.front (x := s4.size) (fun hb => hlow _ hb rfl)
        refine ⟨by simp, _, rfl, Or.inr ⟨by omega, gv, gl, s4.size, bs2, ky', vl', _, _, mput es2 key (.ptr s4.size 0), rfl, hg.isl, by omega, hgk, ⟨?_, ?_, hring, ?_, mput_nd _ _ _ h2.nd, ?_, ?_, ?_, ?_, hsm, ?_, ?_⟩, kx, vx, by omega⟩⟩
        · rw [htot]; exact put_eq
        · have n8 : Nds (s7.put q (some (.cells (stc room (tot ky vl bs2 + (key.size + val.size) : Nat) r m)))) (s4.size :: r :: bs2) ky' vl' (up (up la2 s4.size r) (ol2 r) s4.size) (up (up ol2 s4.size (ol2 r)) r s4.size) := by
            refine n7.of (Nat.le_refl _) fun b hb => put_ne ?_
            rintro rfl
            simp only [List.mem_cons, not_or] at hqc hb
            rcases hb with hb | hb | hb
            · exact hqx hb
            · exact hqc.1 hb
            · exact hqc.2 hb
          exact n8.less fun b hb => by
            simp only [List.mem_cons] at hb ⊢
            rcases hb with hb | hb | hb <;> simp [hb]
        · exact (put_ne (Ne.symm hqm)).trans m7
        · intro b hb
          rw [mget_mput]
          rcases List.mem_cons.1 hb with rfl | hb
          · rw [kx, if_pos rfl]
          · rw [ke b (by simp [hb]), if_neg (fun e => hne2 b hb e.symm)]; exact h2.get b hb
        · intro k hk
          rw [mget_mput, if_neg (by have := hk s4.size (by simp); rw [kx] at this; exact this)]
          refine h2.non k fun b hb => ?_
          have := hk b (by simp [hb])
          rwa [ke b (by simp [hb])] at this
        · have hm : bs2.map ky' = bs2.map ky := List.map_congr_left fun b hb => ke b (by simp [hb])
          rw [List.map_cons, hm, kx, List.nodup_cons]
          refine ⟨fun hk => ?_, h2.keys⟩
          obtain ⟨b, hb, he⟩ := List.mem_map.1 hk
          exact hne2 b hb he
        · rw [htot]; omega
        · rw [sput_size, k7.1, z6]; omega
        · rw [sput_size, k7.1, z6]; omega
    by_cases hin : ∃ b, b ∈ bs ∧ ky b = key
    · obtain ⟨x, hx, hxk⟩ := hin
      have hget := h.get x hx
      rw [hxk] at hget
      obtain ⟨l1, l2, hl⟩ := List.append_of_mem hx
      simp only [cf6, wo_mlk, go_sem, ↓reduceIte, reduceCtorEq, Nat.reduceEqDiff, Nat.reduceAdd, Nat.reduceSub, Nat.reduceMul, Nat.reduceLeDiff, Nat.reduceLT, binA, lr, w1, hd, lm, mapOf, keyA, h.map, hkx, hget, Option.getD_some, eqnilA]
      subst hl
      refine WO_callx [.ptr q 0, .ptr x 0] (by simp only [go_sem, ↓reduceIte, reduceCtorEq, Nat.reduceEqDiff, Nat.reduceAdd, Nat.reduceSub, Nat.reduceMul, Nat.reduceLeDiff, Nat.reduceLT, loadA, rdCells, storeA, setAt, binA]) ((drop_law h).mono ?_)
      rintro v s1 ⟨⟨la1, ol1, es1, h1⟩, -⟩
      simp only [go_sem, ↓reduceIte, reduceCtorEq, Nat.reduceEqDiff, Nat.reduceAdd, Nat.reduceSub, Nat.reduceMul, Nat.reduceLeDiff, Nat.reduceLT, loadA, rdCells, storeA, setAt, binA]
      refine tail _ _ _ _ _ _ h1 ?_ (by simp) (by simp only [go_sem, ↓reduceIte, reduceCtorEq, Nat.reduceEqDiff, Nat.reduceAdd, Nat.reduceSub, Nat.reduceMul, Nat.reduceLeDiff, Nat.reduceLT, loadA, rdCells, storeA, setAt, binA]) (by simp only [go_sem, ↓reduceIte, reduceCtorEq, Nat.reduceEqDiff, Nat.reduceAdd, Nat.reduceSub, Nat.reduceMul, Nat.reduceLeDiff, Nat.reduceLT, loadA, rdCells, storeA, setAt, binA]) (by simp only [go_sem, ↓reduceIte, reduceCtorEq, Nat.reduceEqDiff, Nat.reduceAdd, Nat.reduceSub, Nat.reduceMul, Nat.reduceLeDiff, Nat.reduceLT, loadA, rdCells, storeA, setAt, binA])
      have hk := h.keys
      rw [List.map_append, List.map_cons] at hk
      have hp : (ky x :: (l1.map ky ++ l2.map ky)).Nodup := (List.perm_middle.nodup_iff).1 hk
      intro b hb he
      have := (List.nodup_cons.1 hp).1
      rw [← List.map_append] at this
      exact this (hxk ▸ he ▸ List.mem_map.2 ⟨b, hb, rfl⟩)
    · have hne : ∀ b, b ∈ bs → ky b ≠ key := fun b hb he => hin ⟨b, hb, he⟩
      simp only [cf6, wo_mlk, go_sem, ↓reduceIte, reduceCtorEq, Nat.reduceEqDiff, Nat.reduceAdd, Nat.reduceSub, Nat.reduceMul, Nat.reduceLeDiff, Nat.reduceLT, binA, lr, w1, hd, lm, mapOf, keyA, h.map, hkx, h.non key hne, Option.getD_none, eqnilA]
      exact tail _ _ _ _ _ _ h hne (Nat.le_refl _) (by simp only [go_sem, ↓reduceIte, reduceCtorEq, Nat.reduceEqDiff, Nat.reduceAdd, Nat.reduceSub, Nat.reduceMul, Nat.reduceLeDiff, Nat.reduceLT, loadA, rdCells, storeA, setAt, binA]) (by simp only [go_sem, ↓reduceIte, reduceCtorEq, Nat.reduceEqDiff, Nat.reduceAdd, Nat.reduceSub, Nat.reduceMul, Nat.reduceLeDiff, Nat.reduceLT, loadA, rdCells, storeA, setAt, binA]) (by simp only [go_sem, ↓reduceIte, reduceCtorEq, Nat.reduceEqDiff, Nat.reduceAdd, Nat.reduceSub, Nat.reduceMul, Nat.reduceLeDiff, Nat.reduceLT, loadA, rdCells, storeA, setAt, binA])
end Go.Am.V1
