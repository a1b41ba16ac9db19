/- A list that grows by appending. Conditions: none. -/
import Derived.Test.YtjhbakfgoaeeoaaDoorAmY1
import Derived.Test.YtjhbakfgoaeeoaaDoorAmRm
set_option linter.unusedSimpArgs false
set_option linter.unusedVariables false
namespace Go.Am
set_option linter.unusedSimpArgs false

/-- A list that grows, with its right. -/
def Grw {α : Type} (f : α → List AV) (N : Nat) (S : St) (v : AV) (l : List α) (t : Option Nat) : Prop :=
  (v = .nils ∧ l = [] ∧ t = none) ∨ ∃ k, t = some k ∧ v = .sl (l.flatMap f) l.length false (some k) ∧ 0 < l.length ∧ S.obj k = some .right ∧ k < S.size ∧ N ≤ k
theorem Grw.isl {α : Type} {f : α → List AV} {N : Nat} {S : St} {v : AV} {l : List α} {t : Option Nat} (h : Grw f N S v l t) : ISl f v l := by
  rcases h with ⟨rfl, rfl, -⟩ | ⟨k, -, rfl, -⟩
  · exact Or.inl ⟨rfl, rfl⟩
  · exact Or.inr ⟨_, _, rfl⟩
theorem Grw.keep {α : Type} {f : α → List AV} {N : Nat} {S S' : St} {v : AV} {l : List α} {t : Option Nat} (h : Grw f N S v l t) (hs : S.size ≤ S'.size) (hk : ∀ k, t = some k → S'.obj k = S.obj k) : Grw f N S' v l t := by
  rcases h with h | ⟨k, rfl, h2, h3, h4, h5, h6⟩
  · exact Or.inl h
  · exact Or.inr ⟨k, rfl, h2, h3, (hk k rfl).trans h4, by omega, h6⟩
theorem Grw.app {α : Type} {f : α → List AV} {z : Nat} (hP : Plain f z) {N : Nat} {S : St} {v : AV} {l : List α} {t : Option Nat} (h : Grw f N S v l t) (hN : N ≤ S.size) (x : α) {bytes : Nat} (hb : (l.length + 1) * bytes ≤ 140737488355328) :
    ∃ v' s1, appendA S false z bytes v (.sl (f x) 1 true none) = some (v', s1) ∧ Grw f N s1 v' (l ++ [x]) (some S.size) ∧ s1.size = S.size + 1 ∧ ∀ j, j < S.size → some j ≠ t → s1.obj j = S.obj j := by
  have hc : contents S z (.sl (f x) 1 true none) = some (1, f x) := by simp only [contents]; rw [if_pos (by rw [hP.len]; omega)]
  have hst : (f x).all AV.still = true := by have := hP.stills [x]; simpa using this
  have hsp : (f x).map AV.strip = f x := by have := hP.strips [x]; simpa using this
  rcases h with ⟨rfl, rfl, rfl⟩ | ⟨k, rfl, rfl, h3, h4, h5, h6⟩
  · refine ⟨.sl (f x) 1 false (some S.size), S.new .right, ?_, Or.inr ⟨S.size, rfl, by simp, by simp, new_eq rfl, by simp [St.new], hN⟩, rfl, fun j hj _ => new_ne (by omega)⟩
    simp only [appendA, hc, freshA]
    rw [if_neg (by omega), if_pos (by simpa using hb), if_neg (by simp), if_pos hst, hsp]
  · refine ⟨.sl (l.flatMap f ++ f x) (l.length + 1) false (some S.size), (S.put k none).new .right, ?_, Or.inr ⟨S.size, rfl, by simp, by simp, new_eq rfl, by simp [St.new, St.put], hN⟩, rfl, fun j hj hn => ?_⟩
    · simp only [appendA, hc, h4]
      rw [if_neg (by omega), if_pos ⟨hP.lens l, hb⟩, if_neg (by simp), if_pos ⟨hst, h3⟩, hsp]
    · rw [new_ne (by simp only [St.put]; omega), put_ne (by intro h; subst h; exact hn rfl)]
end Go.Am

/- LayoutBalanced's law. Conditions: none. -/
namespace Go.Am.Y1
open Go.Am.L1 (Tk tkc tkP scanT big Low)
set_option maxRecDepth 100000
set_option linter.unusedSimpArgs false
attribute [local go_sem] wseq wreg wdreg wret wskip wexit wblock wcnd cnd_t cnd_f then_n then_x then_r catch_n rnd_n rnd_x rnd_r catch_x catch_r wo_nil wo_grd grdO_t grdO_f wo_ops stpO wr_nil wr_alloc wr_guards grdR_t grdR_f wr_ops stpR evAllocs evOp env0_app eput_some eput_none eset_app Opd.ev wantedA faddrA storeA setAt snew_obj snew_size sput_obj sput_size av_cells av_one av_strip av_still unA eqbA fillA fldA lensA mmA mm2 mmFold List.getD_cons_zero List.getD_cons_succ List.getD_nil List.length_cons List.length_nil List.drop_zero List.drop_succ_cons List.take_succ_cons List.take_zero List.map_cons List.map_nil List.set_cons_zero List.set_cons_succ List.all_cons List.all_nil List.getElem?_cons_zero List.getElem?_cons_succ List.nil_append List.cons_append Nat.zero_add Nat.add_zero beq_self_eq_true bt bf Bool.not_true Bool.not_false Bool.and_true Bool.true_and Bool.and_false Bool.false_and and_self and_true true_and n0 n1 n2 n3 n4 m0 m1 m2 m3 c1 retA resAs resA undefA Option.map_some Option.map_none

def depZ (M : List Tk) : Int := (opn M : Int) - cls M
theorem cnt_step {M : List Tk} {i : Nat} {t : Tk} (ht : M[i]? = some t) (q : Tk → Bool) : (M.take (i + 1)).countP q = (M.take i).countP q + (if q t then 1 else 0) := by
  rw [List.take_add_one, ht, Option.toList_some, List.countP_append, List.countP_singleton]
theorem pln_step {M : List Tk} {i : Nat} {t : Tk} (ht : M[i]? = some t) : pln (M.take (i + 1)) = pln (M.take i) ++ (if isPl t then [t] else []) := by
  rw [pln, List.take_add_one, ht, Option.toList_some, List.filter_append]
  cases h : isPl t <;> simp [pln, h]
theorem pln_len (M : List Tk) (i : Nat) : (pln (M.take i)).length ≤ i := by
  have h1 := List.length_filter_le isPl (M.take i)
  have h2 := List.length_take_le i M
  rw [pln]; omega

set_option maxHeartbeats 4000000 in
theorem balanced_law (s : ByteArray) (hs : s.size ≤ big) : WC T yx 9 [.str s] st0 (fun v _ => v = .bool true) := by
  refine WC_fn cf9 rfl T9 (by simp [cf9]) ?_
  simp only [cf9, go_sem, ↓reduceIte, reduceCtorEq, Nat.reduceEqDiff, Nat.reduceAdd, Nat.reduceSub, Nat.reduceMul, Nat.reduceLeDiff, Nat.reduceLT, loadA, rdCells, binA]
  refine WO_callx [.str letS] (by simp only [go_sem, ↓reduceIte, reduceCtorEq, Nat.reduceEqDiff, Nat.reduceAdd, Nat.reduceSub, Nat.reduceMul, Nat.reduceLeDiff, Nat.reduceLT, loadA, rdCells, binA]; rfl) ((laid_law letS (by decide) st0).mono ?_)
  rintro v S1 ⟨hq1, hk1⟩
  rcases hq1 with ⟨a, b, rfl, hno⟩ | ⟨-, q1, o1, rfl, -, -, hM1, -⟩
  · exact absurd let_ok hno
  have hl1 := hM1.len
  rw [let_len] at hl1
  have h99 : (((9 : Nat) : Int) != 9) = false := rfl
  simp only [hl1, h99, go_sem, ↓reduceIte, reduceCtorEq, Nat.reduceEqDiff, Nat.reduceAdd, Nat.reduceSub, Nat.reduceMul, Nat.reduceLeDiff, Nat.reduceLT, loadA, rdCells, binA]
  refine WO_callx [.str s] (by simp only [go_sem, ↓reduceIte, reduceCtorEq, Nat.reduceEqDiff, Nat.reduceAdd, Nat.reduceSub, Nat.reduceMul, Nat.reduceLeDiff, Nat.reduceLT, loadA, rdCells, binA]) ((laid_law s hs S1).mono ?_)
  rintro v S2 ⟨⟨a, b, rfl, -⟩ | ⟨hL, q, ov, rfl, hT, hq0, hM, -⟩, hk2⟩
  · simp only [go_sem, ↓reduceIte, reduceCtorEq, Nat.reduceEqDiff, Nat.reduceAdd, Nat.reduceSub, Nat.reduceMul, Nat.reduceLeDiff, Nat.reduceLT, loadA, rdCells, binA]
    exact ⟨by simp, _, rfl, rfl⟩
  have hB := markT_bal hL.chk
  have hml := markT_len (scanT s)
  have hLl := hL.chk.le
  generalize hMg : markT (scanT s) = M at *
  generalize hLg : scanT s = L at *
  have hlen := hM.len
  simp only [hlen, go_sem, ↓reduceIte, reduceCtorEq, Nat.reduceEqDiff, Nat.reduceAdd, Nat.reduceSub, Nat.reduceMul, Nat.reduceLeDiff, Nat.reduceLT, loadA, rdCells, binA]
  refine W_loop_nat (fun k e S => ∃ (i : Nat) (pv : AV) (t : Option Nat), i + k = M.length ∧ e 6 = .msl q 0 L.length 5 ∧ e 33 = ov ∧ e 34 = .int .i64 M.length ∧ e 35 = .int .i64 i ∧ e 9 = .int .i64 (depZ (M.take i)) ∧ e 10 = pv ∧ Grw tkc S2.size S pv (pln (M.take i)) t ∧ Low S2.size S2 S) ?_ M.length _ _
    ⟨0, .nils, none, by omega, by simp only [go_sem, ↓reduceIte, reduceCtorEq, Nat.reduceEqDiff, Nat.reduceAdd, Nat.reduceSub, Nat.reduceMul, Nat.reduceLeDiff, Nat.reduceLT, loadA, rdCells, binA], by simp only [go_sem, ↓reduceIte, reduceCtorEq, Nat.reduceEqDiff, Nat.reduceAdd, Nat.reduceSub, Nat.reduceMul, Nat.reduceLeDiff, Nat.reduceLT, loadA, rdCells, binA], by simp only [go_sem, ↓reduceIte, reduceCtorEq, Nat.reduceEqDiff, Nat.reduceAdd, Nat.reduceSub, Nat.reduceMul, Nat.reduceLeDiff, Nat.reduceLT, loadA, rdCells, binA], by simp only [go_sem, ↓reduceIte, reduceCtorEq, Nat.reduceEqDiff, Nat.reduceAdd, Nat.reduceSub, Nat.reduceMul, Nat.reduceLeDiff, Nat.reduceLT, loadA, rdCells, binA]; rfl, by simp only [go_sem, ↓reduceIte, reduceCtorEq, Nat.reduceEqDiff, Nat.reduceAdd, Nat.reduceSub, Nat.reduceMul, Nat.reduceLeDiff, Nat.reduceLT, loadA, rdCells, binA]; rfl, by simp only [go_sem, ↓reduceIte, reduceCtorEq, Nat.reduceEqDiff, Nat.reduceAdd, Nat.reduceSub, Nat.reduceMul, Nat.reduceLeDiff, Nat.reduceLT, loadA, rdCells, binA], Or.inl ⟨rfl, rfl, rfl⟩, L1.Low.refl _ _⟩
  rintro k e S ⟨i, pv, t, hik, e6, e33, e34, e35, e9, e10, hG, hlow⟩
  by_cases hi : i < M.length
  · have hd : decide ((i : Int) < (M.length : Int)) = true := by simp; omega
    obtain ⟨x, hx⟩ : ∃ x, M[i]? = some x := ⟨_, List.getElem?_eq_getElem hi⟩
    have hMS : MSl tkc 5 S ov M := hM.of (fun p _ hp => hlow.2 p hp) hlow.1
    obtain ⟨p, rfl, hpo, hps, -⟩ := hMS.at hx
    have hai : iaddrA 5 (.msl p 0 M.length 5) (.int .i64 i) = some (.ptr p (i * 5)) := tok_addr hi
    have hTm : TokL S p M := ⟨hpo, hps⟩
    have hc5 : ((tkc x).length = 5 ∧ (tkc x).all AV.one = true) = True := by simp [tkc, AV.one]
    have hset : setAt [AV.int IntKind.i64 0, AV.str ⟨#[]⟩, AV.int IntKind.i64 0, AV.int IntKind.i64 0, AV.int IntKind.i64 0] 0 (tkc x) = tkc x := rfl
    have hwi : IntKind.i64.wrap ((i : Int) + 1) = ((i + 1 : Nat) : Int) := by rw [IntKind.wrap_i64]; omega
    simp only [cf9_l0, e33, e34, e35, hd, hai, (hTm.at hx).1, hc5, hset, go_sem, ↓reduceIte, reduceCtorEq, Nat.reduceEqDiff, Nat.reduceAdd, Nat.reduceSub, Nat.reduceMul, Nat.reduceLeDiff, Nat.reduceLT, binA]
    rw [new_put]
    obtain ⟨S4, hS4⟩ : ∃ S4, S4 = S.new (.cells (tkc x)) := ⟨_, rfl⟩
    rw [← hS4]
    have hk4 : Keep S S4 := by rw [hS4]; exact Keep.new _ _
    have hs4 : S4.size = S.size + 1 := by rw [hS4]; rfl
    have hbx : S4.obj S.size = some (.cells (tkc x)) := by rw [hS4]; exact new_eq rfl
    have b0 : loadA S4 false 1 (.ptr S.size 0) = some (.int .i64 x.kind) := by simp [loadA, rdCells, hbx, tkc]
    have bx : loadA S4 true 5 (.ptr S.size 0) = some (.agg (tkc x)) := by simp [loadA, rdCells, hbx, tkc, AV.strip]
    clear hS4
    have hlow4 : Low S2.size S2 S4 := hlow.trans ⟨hk4.1, fun j hj => hk4.2 j (by have := hlow.1; omega)⟩
    have hG4 : Grw tkc S2.size S4 pv (pln (M.take i)) t := hG.keep hk4.1 fun k hk => by
      rcases hG with ⟨-, -, h0⟩ | ⟨k', h0, -, -, -, h5, -⟩
      · rw [h0] at hk; cases hk
      · rw [h0] at hk; cases hk; exact hk4.2 _ h5
    have so : opn (M.take (i + 1)) = opn (M.take i) + _ := cnt_step hx _
    have sc : Y1.cls (M.take (i + 1)) = Y1.cls (M.take i) + _ := cnt_step hx _
    have sp := pln_step hx
    have hpre := hB.pre (i + 1)
    have ho1 : opn (M.take i) ≤ 100000 := by have h1 := List.countP_le_length (p := fun t : Tk => t.kind == 6) (l := M.take i); have h2 := List.length_take_le i M; simp only [opn]; omega
    have hc1 : Y1.cls (M.take i) ≤ 100000 := by have h1 := List.countP_le_length (p := fun t : Tk => t.kind == 7) (l := M.take i); have h2 := List.length_take_le i M; simp only [Y1.cls]; omega
    cases k6 : (x.kind == 6)
    · cases k7 : (x.kind == 7)
      · have hdp : depZ (M.take (i + 1)) = depZ (M.take i) := by
          rw [k6] at so; rw [k7] at sc
          simp only [Bool.false_eq_true, if_false] at so sc
          simp only [depZ]; omega
        have hneg : decide (depZ (M.take i) < 0) = false := by rw [← hdp]; simp only [depZ]; exact decide_eq_false (by omega)
        cases k8 : (x.kind == 8)
        · have hpl1 : isPl x = true := by simp only [isPl, k6, k7, k8]; rfl
          rw [hpl1] at sp
          simp only [if_true] at sp
          obtain ⟨v', S5, happ, hG5, hs5, hk5⟩ := hG4.app tkP (by have := hlow4.1; omega) x (bytes := 48) (by have := pln_len M i; omega)
          have hcl5 : ((tkc x).length = 5) = True := by simp [tkc]
          simp only [tkc] at happ bx hcl5
          simp only [e9, e10, e35, b0, bx, k6, k7, k8, hcl5, happ, hneg, hwi, go_sem, ↓reduceIte, reduceCtorEq, Nat.reduceEqDiff, Nat.reduceAdd, Nat.reduceSub, Nat.reduceMul, Nat.reduceLeDiff, Nat.reduceLT, binA]
          rw [← sp] at hG5
          have hlow5 : Low S2.size S2 S5 := hlow4.trans ⟨by omega, fun j hj => hk5 j (by have := hlow4.1; omega) (fun hjt => by
            rcases hG with ⟨-, -, h0⟩ | ⟨k', h0, -, -, -, h5, h6⟩
            · rw [h0] at hjt; cases hjt
            · rw [h0] at hjt; cases hjt; omega)⟩
          exact ⟨k - 1, by omega, i + 1, v', _, by omega, e6, e33, e34, rfl, by rw [hdp], rfl, hG5, hlow5⟩
        · have hpl1 : isPl x = false := by simp only [isPl, k6, k7, k8]; rfl
          rw [hpl1] at sp
          simp only [Bool.false_eq_true, if_false, List.append_nil] at sp
          simp only [e9, e35, b0, k6, k7, k8, hneg, hwi, go_sem, ↓reduceIte, reduceCtorEq, Nat.reduceEqDiff, Nat.reduceAdd, Nat.reduceSub, Nat.reduceMul, Nat.reduceLeDiff, Nat.reduceLT, binA]
          exact ⟨k - 1, by omega, i + 1, pv, t, by omega, e6, e33, e34, rfl, by rw [hdp], e10, by rw [sp]; exact hG4, hlow4⟩
      · have hpl1 : isPl x = false := by simp only [isPl, k6, k7]; rfl
        rw [hpl1] at sp
        simp only [Bool.false_eq_true, if_false, List.append_nil] at sp
        rw [k6] at so; rw [k7] at sc
        simp only [Bool.false_eq_true, if_false, if_true] at so sc
        have hdp : IntKind.i64.wrap (depZ (M.take i) - 1) = depZ (M.take (i + 1)) := by rw [IntKind.wrap_i64]; simp only [depZ]; omega
        have hneg : decide (depZ (M.take (i + 1)) < 0) = false := by simp only [depZ]; exact decide_eq_false (by omega)
        simp only [e9, e35, b0, k6, k7, hdp, hneg, hwi, go_sem, ↓reduceIte, reduceCtorEq, Nat.reduceEqDiff, Nat.reduceAdd, Nat.reduceSub, Nat.reduceMul, Nat.reduceLeDiff, Nat.reduceLT, binA]
        exact ⟨k - 1, by omega, i + 1, pv, t, by omega, e6, e33, e34, rfl, rfl, e10, by rw [sp]; exact hG4, hlow4⟩
    · have k7 : (x.kind == 7) = false := by have := eq_of_beq k6; rw [this]; rfl
      have hpl1 : isPl x = false := by simp only [isPl, k6]; rfl
      rw [hpl1] at sp
      simp only [Bool.false_eq_true, if_false, List.append_nil] at sp
      rw [k6] at so; rw [k7] at sc
      simp only [Bool.false_eq_true, if_false, if_true] at so sc
      have hdp : IntKind.i64.wrap (depZ (M.take i) + 1) = depZ (M.take (i + 1)) := by rw [IntKind.wrap_i64]; simp only [depZ]; omega
      have hneg : decide (depZ (M.take (i + 1)) < 0) = false := by simp only [depZ]; exact decide_eq_false (by omega)
      simp only [e9, e35, b0, k6, hdp, hneg, hwi, go_sem, ↓reduceIte, reduceCtorEq, Nat.reduceEqDiff, Nat.reduceAdd, Nat.reduceSub, Nat.reduceMul, Nat.reduceLeDiff, Nat.reduceLT, binA]
      exact ⟨k - 1, by omega, i + 1, pv, t, by omega, e6, e33, e34, rfl, rfl, e10, by rw [sp]; exact hG4, hlow4⟩
  · have hd : decide ((i : Int) < (M.length : Int)) = false := by simp; omega
    simp only [cf9_l0, e34, e35, hd, go_sem, ↓reduceIte, reduceCtorEq, Nat.reduceEqDiff, Nat.reduceAdd, Nat.reduceSub, Nat.reduceMul, Nat.reduceLeDiff, Nat.reduceLT, binA]
    rw [List.take_of_length_le (by omega)] at hG e9
    have hz : depZ M = 0 := by have := hB.tot; simp only [depZ]; omega
    have hz0 : ((0 : Int) == 0) = true := rfl
    rw [hB.pl] at hG
    rw [hz] at e9
    simp only [e6, e9, e10, hz0, go_sem, ↓reduceIte, reduceCtorEq, Nat.reduceEqDiff, Nat.reduceAdd, Nat.reduceSub, Nat.reduceMul, Nat.reduceLeDiff, Nat.reduceLT, binA]
    have hT2 : TokL S q L := ⟨(hlow.2 q hT.lt).trans hT.obj, Nat.lt_of_lt_of_le hT.lt hlow.1⟩
    refine WO_callx [pv, .msl q 0 L.length 5] (by simp only [e6, e10, go_sem, ↓reduceIte, reduceCtorEq, Nat.reduceEqDiff, Nat.reduceAdd, Nat.reduceSub, Nat.reduceMul, Nat.reduceLeDiff, Nat.reduceLT, loadA, rdCells, binA]) ((eq32_law (rd5_isl hG.isl) hT2.rd5 (by omega)).mono ?_)
    rintro v S3 ⟨rfl, rfl⟩
    simp only [go_sem, ↓reduceIte, reduceCtorEq, Nat.reduceEqDiff, Nat.reduceAdd, Nat.reduceSub, Nat.reduceMul, Nat.reduceLeDiff, Nat.reduceLT, loadA, rdCells, binA]
    exact ⟨by simp, _, rfl, rfl⟩
end Go.Am.Y1
