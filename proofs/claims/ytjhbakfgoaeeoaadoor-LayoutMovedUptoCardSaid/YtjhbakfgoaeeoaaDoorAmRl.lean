/- Mark's law. Conditions: none. -/
import Derived.Test.YtjhbakfgoaeeoaaDoorAmRi
set_option linter.unusedSimpArgs false
set_option linter.unusedVariables false
namespace Go.Am.Y1
open Go.Am.L1 (bts_len Tk tkc tkP)
set_option maxRecDepth 100000
set_option linter.unusedSimpArgs false
attribute [local go_sem] wseq wreg wdreg wret wskip wexit wblock wcnd cnd_t cnd_f then_n then_x then_r catch_n rnd_n rnd_x rnd_r catch_x catch_r wo_nil wo_grd grdO_t grdO_f wo_ops stpO wr_nil wr_alloc wr_guards grdR_t grdR_f wr_ops stpR evAllocs evOp env0_app eput_some eput_none eset_app Opd.ev wantedA faddrA storeA setAt snew_obj snew_size sput_obj sput_size av_cells av_one av_strip av_still unA eqbA fillA fldA lensA mmA mm2 mmFold List.getD_cons_zero List.getD_cons_succ List.getD_nil List.length_cons List.length_nil List.drop_zero List.drop_succ_cons List.take_succ_cons List.take_zero List.map_cons List.map_nil List.set_cons_zero List.set_cons_succ List.all_cons List.all_nil List.getElem?_cons_zero List.getElem?_cons_succ List.nil_append List.cons_append Nat.zero_add Nat.add_zero beq_self_eq_true bt bf Bool.not_true Bool.not_false Bool.and_true Bool.true_and Bool.and_false Bool.false_and and_self and_true true_and n0 n1 n2 n3 n4 m0 m1 m2 m3 c1 retA resAs resA undefA Option.map_some Option.map_none

theorem tailM_len (t : Tk) (f : Bool) (r : List Cx) (out : List Tk) : (tailM t f r out).1.length ≤ r.length + 1 ∧ (tailM t f r out).2.length + (tailM t f r out).1.length ≤ out.length + r.length + 3 := by
  have h1 := befR_len r t
  have h2 := befR_len (r.dropWhile (over t)) t
  have h3 := tw_dw (q := over t) r
  have h4 : (semis (r.dropWhile (over t)) t).length ≤ 1 := by unfold semis; split <;> simp
  unfold tailM
  cases f
  · simp only [Bool.false_eq_true, if_false]
    split <;> simp [closes] <;> (try omega)
  · simp only [if_true]
    split <;> simp [closes] <;> (try omega)
theorem openM_len (prev : Option Tk) (t : Tk) (r : List Cx) (out : List Tk) : (openM prev t r out).1.length ≤ r.length + 1 ∧ (openM prev t r out).2.1.length + (openM prev t r out).1.length ≤ out.length + r.length + 2 := by
  unfold openM
  split
  · simp
  · repeat' split
    all_goals simp
    all_goals (try omega)

/-! ### Guards in a region whose order is open -/
section
variable {T : Nat → Option CF} {X : Ext} {e : Env} {s : St} {U : List (Env × St) → Env → St → Prop}
def GrdT (T : Nat → Option CF) (X : Ext) (b : Bool) (d : Option Nat) (o : COp) (r : List CO) (e : Env) (s : St) (U : List (Env × St) → Env → St → Prop) : Prop := if b = true then WT T X (⟨d, none, o⟩ :: r) e s U else WT T X r (e.put d undefA) s (Tr e s U)
theorem grdT_t {d : Option Nat} {o : COp} {r : List CO} : GrdT T X true d o r e s U ↔ WT T X (⟨d, none, o⟩ :: r) e s U := by simp [GrdT]
theorem grdT_f {d : Option Nat} {o : COp} {r : List CO} : GrdT T X false d o r e s U ↔ WT T X r (e.put d undefA) s (Tr e s U) := by simp [GrdT]
theorem wt_grd {d : Option Nat} {o : COp} {r : List CO} {g : Option Nat × Bool} (ha : isAlloc o = false) : WT T X (⟨d, some g, o⟩ :: r) e s U ↔ GrdT T X (wantedA e (some g)) d o r e s U := by
  cases h : wantedA e (some g)
  · rw [grdT_f]
    simp only [WT, evRest, evTr, ha, h, Tr, Bool.false_eq_true, if_false]
  · rw [grdT_t]
    have h0 : wantedA e none = true := rfl
    simp only [WT, evRest, evTr, ha, h, h0, Bool.false_eq_true, if_false, if_true]
theorem wtg_faddr {d : Option Nat} {a b} {r : List CO} {g : Option Nat × Bool} : WT T X (⟨d, some g, .faddr a b⟩ :: r) e s U ↔ GrdT T X (wantedA e (some g)) d (.faddr a b) r e s U := wt_grd rfl
theorem wtg_load {d : Option Nat} {a b c} {r : List CO} {g : Option Nat × Bool} : WT T X (⟨d, some g, .load a b c⟩ :: r) e s U ↔ GrdT T X (wantedA e (some g)) d (.load a b c) r e s U := wt_grd rfl
theorem wtg_mv {d : Option Nat} {a} {r : List CO} {g : Option Nat × Bool} : WT T X (⟨d, some g, .mv a⟩ :: r) e s U ↔ GrdT T X (wantedA e (some g)) d (.mv a) r e s U := wt_grd rfl
theorem wtg_call {d : Option Nat} {a b} {r : List CO} {g : Option Nat × Bool} : WT T X (⟨d, some g, .call a b⟩ :: r) e s U ↔ GrdT T X (wantedA e (some g)) d (.call a b) r e s U := wt_grd rfl
theorem wtg_bin {d : Option Nat} {a b c} {r : List CO} {g : Option Nat × Bool} : WT T X (⟨d, some g, .bin a b c⟩ :: r) e s U ↔ GrdT T X (wantedA e (some g)) d (.bin a b c) r e s U := wt_grd rfl
end

def prevT (L : List Tk) (i : Nat) : Option Tk := if i = 0 then none else L[i - 1]?

set_option maxHeartbeats 8000000 in
theorem mark_law {S : St} {q : Nat} {L : List Tk} (h : TokL S q L) (hl : L.length ≤ 1000000) : WC T yx 64 [.msl q 0 L.length 5] S (fun v S' => ((∃ e : Int, v = .tup [.nils, .int .i64 e] ∧ e ≠ 0 ∧ ¬ ChkL L) ∨ (ChkL L ∧ ∃ ov, v = .tup [ov, .int .i64 0] ∧ MSl tkc 5 S' ov (markT L) ∧ ∀ j, j < S.size → notO ov j)) ∧ Keep S S') := by
  refine WC_fn cf64 rfl T64 (by simp [cf64]) ?_
  have hlen : lenA (.msl q 0 L.length 5) = some (.int .i64 L.length) := rfl
  simp only [cf64, go_sem, ↓reduceIte, reduceCtorEq, Nat.reduceEqDiff, Nat.reduceAdd, Nat.reduceSub, Nat.reduceMul, Nat.reduceLeDiff, Nat.reduceLT, binA]
  refine WO_callx [.msl q 0 L.length 5] (by simp only [go_sem, ↓reduceIte, reduceCtorEq, Nat.reduceEqDiff, Nat.reduceAdd, Nat.reduceSub, Nat.reduceMul, Nat.reduceLeDiff, Nat.reduceLT, loadA, rdCells, binA]) ((check_law h hl).mono ?_)
  rintro v S1 ⟨⟨e, rfl, he⟩, hk1⟩
  simp only [go_sem, ↓reduceIte, reduceCtorEq, Nat.reduceEqDiff, Nat.reduceAdd, Nat.reduceSub, Nat.reduceMul, Nat.reduceLeDiff, Nat.reduceLT, binA]
  cases he0 : (e != 0)
  · have hC : ChkL L := he.1 (by simpa using he0)
    have hLl := hC.le
    have hLp := hC.pos
    have hT1 := h.keep hk1
    simp only [hlen, go_sem, ↓reduceIte, reduceCtorEq, Nat.reduceEqDiff, Nat.reduceAdd, Nat.reduceSub, Nat.reduceMul, Nat.reduceLeDiff, Nat.reduceLT, binA]
    obtain ⟨S2, hS2⟩ : ∃ S2, S2 = S1.new (.cells [.nils, .nils]) := ⟨_, rfl⟩
    rw [← hS2]
    have hk2 : Keep S1 S2 := by rw [hS2]; exact Keep.new _ _
    have hs2 : S2.size = S1.size + 1 := by rw [hS2]; rfl
    have hm0 : Mk (fun j => j < S1.size) S2 S1.size ([] : List Cx).reverse [] := by
      have hn : ∀ j, notO AV.nils j := fun j o n z hh => by cases hh
      exact ⟨⟨.nils, .nils, by rw [hS2]; exact new_eq rfl, Or.inl ⟨rfl, rfl⟩, Or.inl ⟨rfl, rfl⟩, hn _, hn _, fun i _ _ _ _ => hn i, fun j _ => ⟨hn j, hn j⟩⟩, by omega, fun hh => Nat.lt_irrefl _ hh, fun j hj => by omega⟩
    clear hS2
    generalize hp : S1.size = p at *
    have hq := hT1.lt
    have fin : ∀ (B : Nat → Prop) S3 (e' : Env) (r : List Cx) (out : List Tk), (∀ j, j < p → B j) → Mk B S3 p r.reverse out → Pr (fun j => j < p) S2 S3 → r.length ≤ 50000 → out.length + r.length ≤ 500000 → e' 0 = .msl q 0 L.length 5 → e' 5 = .ptr p 0 → (r, out) = markG none L [] [] →
        W T yx cf64_r e' S3 (fun x e'' s' => (∀ (j : Nat), x ≠ CX.exit j) ∧ ∃ v, some (AV.tup [e'' 2, e'' 3]) = some v ∧ ((∃ e, v = AV.tup [AV.nils, AV.int IntKind.i64 e] ∧ e ≠ 0 ∧ ¬ ChkL L) ∨ ChkL L ∧ ∃ ov, v = AV.tup [ov, AV.int IntKind.i64 0] ∧ MSl tkc 5 s' ov (markT L) ∧ ∀ j, j < S.size → notO ov j) ∧ Keep S s') := by
      intro B S3 e' r out hB hm3 hp3 hr ho q0 q5 hmk
      have hT3 : TokL S3 q L := ⟨(hp3.2 q (by omega)).trans (hT1.keep hk2).obj, Nat.lt_of_lt_of_le (hT1.keep hk2).lt hp3.1⟩
      refine end_law (hm3.less (B' := fun j => j < p) hB) hT3 (fun j hj => by omega) hLp (by omega) hr ho q0 q5 ?_
      intro e'' S4 ov r2 r3 hMo hno hp4
      refine ⟨by simp, _, rfl, Or.inr ⟨hC, ov, by rw [r2, r3], ?_, fun j hj => hno j (by have := hk1.1; omega)⟩, ?_⟩
      · rw [markT, ← hmk]; exact hMo
      · refine ⟨by have := hk1.1; have := hk2.1; have := hp3.1; have := hp4.1; omega, fun j hj => ?_⟩
        have hjp : j < p := by have := hk1.1; omega
        rw [hp4.2 j hjp, hp3.2 j hjp, hk2.2 j (by omega), hk1.2 j hj]
    refine W_loop_nat (fun k e S3 => ∃ (i : Nat) (r : List Cx) (out : List Tk), i + k = L.length ∧ e 0 = .msl q 0 L.length 5 ∧ e 5 = .ptr p 0 ∧ e 17 = .msl q 0 L.length 5 ∧ e 18 = .int .i64 L.length ∧ e 19 = .int .i64 i ∧ Mk (fun j => j < p) S3 p r.reverse out ∧ Pr (fun j => j < p) S2 S3 ∧
        r.length ≤ 2 * i ∧ out.length + r.length ≤ 5 * i ∧ markG (prevT L i) (L.drop i) r out = markG none L [] []) ?_ L.length _ _
      ⟨0, [], [], by omega, by simp only [go_sem, ↓reduceIte, reduceCtorEq, Nat.reduceEqDiff, Nat.reduceAdd, Nat.reduceSub, Nat.reduceMul, Nat.reduceLeDiff, Nat.reduceLT, loadA, rdCells, binA], by simp only [go_sem, ↓reduceIte, reduceCtorEq, Nat.reduceEqDiff, Nat.reduceAdd, Nat.reduceSub, Nat.reduceMul, Nat.reduceLeDiff, Nat.reduceLT, loadA, rdCells, binA], by simp only [go_sem, ↓reduceIte, reduceCtorEq, Nat.reduceEqDiff, Nat.reduceAdd, Nat.reduceSub, Nat.reduceMul, Nat.reduceLeDiff, Nat.reduceLT, loadA, rdCells, binA], by simp only [go_sem, ↓reduceIte, reduceCtorEq, Nat.reduceEqDiff, Nat.reduceAdd, Nat.reduceSub, Nat.reduceMul, Nat.reduceLeDiff, Nat.reduceLT, loadA, rdCells, binA], by simp only [go_sem, ↓reduceIte, reduceCtorEq, Nat.reduceEqDiff, Nat.reduceAdd, Nat.reduceSub, Nat.reduceMul, Nat.reduceLeDiff, Nat.reduceLT, loadA, rdCells, binA]; rfl, hm0, Pr.refl _ _, by simp, by simp, by simp [prevT]⟩
    rintro k e1 S3 ⟨i, r, out, hik, e0, e5, e17, e18, e19, hm3, hp3, hr, ho, hG⟩
    by_cases hi : i < L.length
    · have hd : decide ((i : Int) < (L.length : Int)) = true := by simp; omega
      obtain ⟨t, ht⟩ : ∃ t, L[i]? = some t := ⟨_, List.getElem?_eq_getElem hi⟩
      have hT3 : TokL S3 q L := ⟨(hp3.2 q (by omega)).trans (hT1.keep hk2).obj, Nat.lt_of_lt_of_le (hT1.keep hk2).lt hp3.1⟩
      have hai := tok_addr (q := q) (n := L.length) hi
      have hwi : IntKind.i64.wrap ((i : Int) + 1) = ((i + 1 : Nat) : Int) := by rw [IntKind.wrap_i64]; omega
      have hc5 : ((tkc t).length = 5 ∧ (tkc t).all AV.one = true) = True := by simp [tkc, AV.one]
      have hset : setAt [AV.int IntKind.i64 0, AV.str ⟨#[]⟩, AV.int IntKind.i64 0, AV.int IntKind.i64 0, AV.int IntKind.i64 0] 0 (tkc t) = tkc t := rfl
      have hdr : L.drop i = t :: L.drop (i + 1) := by rw [List.drop_eq_getElem_cons hi]; congr 1; exact (List.getElem?_eq_some_iff.1 ht).2
      rw [hdr] at hG
      simp only [cf64_l1, e17, e18, e19, hd, hai, (hT3.at ht).1, hc5, hset, go_sem, ↓reduceIte, reduceCtorEq, Nat.reduceEqDiff, Nat.reduceAdd, Nat.reduceSub, Nat.reduceMul, Nat.reduceLeDiff, Nat.reduceLT, binA]
      rw [new_put]
      obtain ⟨hm4, hb4, hp4⟩ := hm3.box t
      generalize hB : (fun j => j < p ∨ (S3.size ≤ j ∧ j < S3.size + 1)) = B1 at *
      generalize hS4 : S3.new (.cells (tkc t)) = S4 at *
      have hin : ∀ j, j < p → B1 j := fun j hj => by rw [← hB]; exact Or.inl hj
      generalize S3.size = b at *
      have hT4 : TokL S4 q L := ⟨(hp4.2 q (by omega)).trans hT3.obj, Nat.lt_of_lt_of_le hT3.lt hp4.1⟩
      have hq' : ∀ z : Int, AV.beq (.int .i64 z) (.int .i64 z) = true := fun z => by simp [AV.beq]
      have fin2 : ∀ f r2 out2 S5 (e' : Env), openM (prevT L i) t r out = (r2, out2, f) → t.kind = 9 → Mk B1 S5 p r2.reverse out2 → Pr B1 S4 S5 → e' 0 = .msl q 0 L.length 5 → e' 5 = .ptr p 0 →
          W T yx cf64_r e' S5 (fun x e'' s' => (∀ (j : Nat), x ≠ CX.exit j) ∧ ∃ v, some (AV.tup [e'' 2, e'' 3]) = some v ∧ ((∃ e, v = AV.tup [AV.nils, AV.int IntKind.i64 e] ∧ e ≠ 0 ∧ ¬ ChkL L) ∨ ChkL L ∧ ∃ ov, v = AV.tup [ov, AV.int IntKind.i64 0] ∧ MSl tkc 5 s' ov (markT L) ∧ ∀ j, j < S.size → notO ov j) ∧ Keep S s') := by
        intro f r2 out2 S5 e' hop hk9 hm5 hp5 q0 q5
        have hol := openM_len (prevT L i) t r out
        rw [hop] at hol
        simp only at hol
        refine fin B1 S5 e' r2 out2 hin hm5 (hp3.trans (hp4.trans (hp5.less hin))) (by omega) (by omega) q0 q5 ?_
        rw [← hG, markG, if_pos (by simp [hk9]), hop]
      have nx2 : ∀ f r2 out2 S6, openM (prevT L i) t r out = (r2, out2, f) → t.kind ≠ 9 → Mk B1 S6 p (tailM t f r2 out2).1.reverse (tailM t f r2 out2).2 → Pr B1 S4 S6 →
          Mk (fun j => j < p) S6 p (tailM t f r2 out2).1.reverse (tailM t f r2 out2).2 ∧ Pr (fun j => j < p) S2 S6 ∧ (tailM t f r2 out2).1.length ≤ 2 * (i + 1) ∧ (tailM t f r2 out2).2.length + (tailM t f r2 out2).1.length ≤ 5 * (i + 1) ∧ markG (prevT L (i + 1)) (L.drop (i + 1)) (tailM t f r2 out2).1 (tailM t f r2 out2).2 = markG none L [] [] := by
        intro f r2 out2 S6 hop hk9 hm6 hp6
        have hol := openM_len (prevT L i) t r out
        rw [hop] at hol
        simp only at hol
        have htl := tailM_len t f r2 out2
        refine ⟨hm6.less hin, hp3.trans (hp4.trans (hp6.less hin)), by omega, by omega, ?_⟩
        rw [← hG, markG, if_neg (by simp [hk9]), hop]
        have : prevT L (i + 1) = some t := by simp [prevT, ht]
        rw [this]
      rcases Nat.eq_zero_or_pos i with hi0 | hi0
      · have g0 : ((i : Int) == 0) = true := by simp [hi0]
        have g1 : decide ((i : Int) > 0) = false := by simp [hi0]
        simp only [g0, g1, go_sem, ↓reduceIte, reduceCtorEq, Nat.reduceEqDiff, Nat.reduceAdd, Nat.reduceSub, Nat.reduceMul, Nat.reduceLeDiff, Nat.reduceLT, binA]
        have hpv : prevT L i = none := by simp [prevT, hi0]
        have hop : openM (prevT L i) t r out = (r, out, true) := by rw [hpv]; rfl
        refine tail_law (B := B1) (f := true) hm4 hb4 (by omega) (by omega) (by simp only [go_sem, ↓reduceIte, reduceCtorEq, Nat.reduceEqDiff, Nat.reduceAdd, Nat.reduceSub, Nat.reduceMul, Nat.reduceLeDiff, Nat.reduceLT, loadA, rdCells, binA]; exact e5) (by simp only [go_sem, ↓reduceIte, reduceCtorEq, Nat.reduceEqDiff, Nat.reduceAdd, Nat.reduceSub, Nat.reduceMul, Nat.reduceLeDiff, Nat.reduceLT, loadA, rdCells, binA]) (by simp only [go_sem, ↓reduceIte, reduceCtorEq, Nat.reduceEqDiff, Nat.reduceAdd, Nat.reduceSub, Nat.reduceMul, Nat.reduceLeDiff, Nat.reduceLT, loadA, rdCells, binA]) ?_ ?_
        · rintro hk9 e' ⟨s0, s5, s17, s18, s19⟩
          simp only [go_sem, ↓reduceIte, reduceCtorEq, Nat.reduceEqDiff, Nat.reduceAdd, Nat.reduceSub, Nat.reduceMul, Nat.reduceLeDiff, Nat.reduceLT, binA]
          exact fin2 _ _ _ _ _ hop hk9 hm4 (Pr.refl _ _) (by rw [s0]; simp only [go_sem, ↓reduceIte, reduceCtorEq, Nat.reduceEqDiff, Nat.reduceAdd, Nat.reduceSub, Nat.reduceMul, Nat.reduceLeDiff, Nat.reduceLT, loadA, rdCells, binA]; exact e0) (by rw [s5]; simp only [go_sem, ↓reduceIte, reduceCtorEq, Nat.reduceEqDiff, Nat.reduceAdd, Nat.reduceSub, Nat.reduceMul, Nat.reduceLeDiff, Nat.reduceLT, loadA, rdCells, binA]; exact e5)
        · rintro hk9 e' S5 ⟨s0, s5, s17, s18, s19⟩ hm5 hp5
          have q0 : e' 0 = .msl q 0 L.length 5 := by rw [s0]; simp only [go_sem, ↓reduceIte, reduceCtorEq, Nat.reduceEqDiff, Nat.reduceAdd, Nat.reduceSub, Nat.reduceMul, Nat.reduceLeDiff, Nat.reduceLT, loadA, rdCells, binA]; exact e0
          have q5 : e' 5 = .ptr p 0 := by rw [s5]; simp only [go_sem, ↓reduceIte, reduceCtorEq, Nat.reduceEqDiff, Nat.reduceAdd, Nat.reduceSub, Nat.reduceMul, Nat.reduceLeDiff, Nat.reduceLT, loadA, rdCells, binA]; exact e5
          have q17 : e' 17 = .msl q 0 L.length 5 := by rw [s17]; simp only [go_sem, ↓reduceIte, reduceCtorEq, Nat.reduceEqDiff, Nat.reduceAdd, Nat.reduceSub, Nat.reduceMul, Nat.reduceLeDiff, Nat.reduceLT, loadA, rdCells, binA]; exact e17
          have q18 : e' 18 = .int .i64 L.length := by rw [s18]; simp only [go_sem, ↓reduceIte, reduceCtorEq, Nat.reduceEqDiff, Nat.reduceAdd, Nat.reduceSub, Nat.reduceMul, Nat.reduceLeDiff, Nat.reduceLT, loadA, rdCells, binA]; exact e18
          have q19 : e' 19 = .int .i64 i := by rw [s19]; simp only [go_sem, ↓reduceIte, reduceCtorEq, Nat.reduceEqDiff, Nat.reduceAdd, Nat.reduceSub, Nat.reduceMul, Nat.reduceLeDiff, Nat.reduceLT, loadA, rdCells, binA]; exact e19
          simp only [q19, hwi, go_sem, ↓reduceIte, reduceCtorEq, Nat.reduceEqDiff, Nat.reduceAdd, Nat.reduceSub, Nat.reduceMul, Nat.reduceLeDiff, Nat.reduceLT, binA]
          exact ⟨k - 1, by omega, i + 1, _, _, by omega, q0, q5, q17, q18, rfl, nx2 _ _ _ _ hop hk9 hm5 hp5⟩
      · have g0 : ((i : Int) == 0) = false := by simp; omega
        have g1 : decide ((i : Int) > 0) = true := by simp; omega
        have hwj : IntKind.i64.wrap ((i : Int) - 1) = ((i - 1 : Nat) : Int) := by rw [IntKind.wrap_i64]; omega
        obtain ⟨u, hu⟩ : ∃ u, L[i - 1]? = some u := ⟨_, List.getElem?_eq_getElem (by omega)⟩
        have haj := tok_addr (q := q) (n := L.length) (j := i - 1) (by omega)
        have hat := hT4.at hu
        have hpv : prevT L i = some u := by rw [prevT, if_neg (by omega)]; exact hu
        simp only [e0, g0, g1, hwj, haj, hat.1, hat.2.2.2.1, hb4.lds.2.2.1, go_sem, ↓reduceIte, reduceCtorEq, Nat.reduceEqDiff, Nat.reduceAdd, Nat.reduceSub, Nat.reduceMul, Nat.reduceLeDiff, Nat.reduceLT, binA]
        refine WO_callx [.agg (tkc u)] (by simp only [go_sem, ↓reduceIte, reduceCtorEq, Nat.reduceEqDiff, Nat.reduceAdd, Nat.reduceSub, Nat.reduceMul, Nat.reduceLeDiff, Nat.reduceLT, loadA, rdCells, binA]) ((opens_law u S4).mono ?_)
        rintro v5 S5 ⟨rfl, hk5⟩
        have hm5 := hm4.keep' hk5
        have hp5 : Pr B1 S4 S5 := Pr.keep hm4 hk5
        have hb5 := hb4.pr hp5
        have hT5 := hT4.keep hk5
        have hat5 := hT5.at hu
        cases ho1 : opensT u
        · simp only [go_sem, ↓reduceIte, reduceCtorEq, Nat.reduceEqDiff, Nat.reduceAdd, Nat.reduceSub, Nat.reduceMul, Nat.reduceLeDiff, Nat.reduceLT, binA]
          have hop : openM (prevT L i) t r out = (r, out, decide ((t.line : Int) > u.line)) := by rw [hpv]; simp only [openM, ho1]; rfl
          refine tail_law (B := B1) (f := decide ((t.line : Int) > u.line)) hm5 hb5 (by omega) (by omega) (by simp only [go_sem, ↓reduceIte, reduceCtorEq, Nat.reduceEqDiff, Nat.reduceAdd, Nat.reduceSub, Nat.reduceMul, Nat.reduceLeDiff, Nat.reduceLT, loadA, rdCells, binA]; exact e5) (by simp only [go_sem, ↓reduceIte, reduceCtorEq, Nat.reduceEqDiff, Nat.reduceAdd, Nat.reduceSub, Nat.reduceMul, Nat.reduceLeDiff, Nat.reduceLT, loadA, rdCells, binA]) (by simp only [go_sem, ↓reduceIte, reduceCtorEq, Nat.reduceEqDiff, Nat.reduceAdd, Nat.reduceSub, Nat.reduceMul, Nat.reduceLeDiff, Nat.reduceLT, loadA, rdCells, binA]) ?_ ?_
          · rintro hk9 e' ⟨s0, s5, s17, s18, s19⟩
            simp only [go_sem, ↓reduceIte, reduceCtorEq, Nat.reduceEqDiff, Nat.reduceAdd, Nat.reduceSub, Nat.reduceMul, Nat.reduceLeDiff, Nat.reduceLT, binA]
            exact fin2 _ _ _ _ _ hop hk9 hm5 hp5 (by rw [s0]; simp only [go_sem, ↓reduceIte, reduceCtorEq, Nat.reduceEqDiff, Nat.reduceAdd, Nat.reduceSub, Nat.reduceMul, Nat.reduceLeDiff, Nat.reduceLT, loadA, rdCells, binA]; exact e0) (by rw [s5]; simp only [go_sem, ↓reduceIte, reduceCtorEq, Nat.reduceEqDiff, Nat.reduceAdd, Nat.reduceSub, Nat.reduceMul, Nat.reduceLeDiff, Nat.reduceLT, loadA, rdCells, binA]; exact e5)
          · rintro hk9 e' Sx ⟨s0, s5, s17, s18, s19⟩ hmx hpx
            have q0 : e' 0 = .msl q 0 L.length 5 := by rw [s0]; simp only [go_sem, ↓reduceIte, reduceCtorEq, Nat.reduceEqDiff, Nat.reduceAdd, Nat.reduceSub, Nat.reduceMul, Nat.reduceLeDiff, Nat.reduceLT, loadA, rdCells, binA]; exact e0
            have q5 : e' 5 = .ptr p 0 := by rw [s5]; simp only [go_sem, ↓reduceIte, reduceCtorEq, Nat.reduceEqDiff, Nat.reduceAdd, Nat.reduceSub, Nat.reduceMul, Nat.reduceLeDiff, Nat.reduceLT, loadA, rdCells, binA]; exact e5
            have q17 : e' 17 = .msl q 0 L.length 5 := by rw [s17]; simp only [go_sem, ↓reduceIte, reduceCtorEq, Nat.reduceEqDiff, Nat.reduceAdd, Nat.reduceSub, Nat.reduceMul, Nat.reduceLeDiff, Nat.reduceLT, loadA, rdCells, binA]; exact e17
            have q18 : e' 18 = .int .i64 L.length := by rw [s18]; simp only [go_sem, ↓reduceIte, reduceCtorEq, Nat.reduceEqDiff, Nat.reduceAdd, Nat.reduceSub, Nat.reduceMul, Nat.reduceLeDiff, Nat.reduceLT, loadA, rdCells, binA]; exact e18
            have q19 : e' 19 = .int .i64 i := by rw [s19]; simp only [go_sem, ↓reduceIte, reduceCtorEq, Nat.reduceEqDiff, Nat.reduceAdd, Nat.reduceSub, Nat.reduceMul, Nat.reduceLeDiff, Nat.reduceLT, loadA, rdCells, binA]; exact e19
            simp only [q19, hwi, go_sem, ↓reduceIte, reduceCtorEq, Nat.reduceEqDiff, Nat.reduceAdd, Nat.reduceSub, Nat.reduceMul, Nat.reduceLeDiff, Nat.reduceLT, binA]
            exact ⟨k - 1, by omega, i + 1, _, _, by omega, q0, q5, q17, q18, rfl, nx2 _ _ _ _ hop hk9 hmx (hp5.trans hpx)⟩
        · simp only [hb5.lds.1, go_sem, ↓reduceIte, reduceCtorEq, Nat.reduceEqDiff, Nat.reduceAdd, Nat.reduceSub, Nat.reduceMul, Nat.reduceLeDiff, Nat.reduceLT, binA]
          refine WO_callx [.agg (tkc t), .int .i64 5, .str pO] (by simp only [go_sem, ↓reduceIte, reduceCtorEq, Nat.reduceEqDiff, Nat.reduceAdd, Nat.reduceSub, Nat.reduceMul, Nat.reduceLeDiff, Nat.reduceLT, loadA, rdCells, binA]; rfl) ((is_law t 5 pO S5).mono ?_)
          rintro v6 S6 ⟨rfl, hk6⟩
          have hm6 := hm5.keep' hk6
          have hp6 := hp5.trans (Pr.keep hm5 hk6)
          have hb6 := hb4.pr hp6
          have hT6 := hT5.keep hk6
          have hat6 := hT6.at hu
          cases ho2 : isT t 5 pO
          · simp only [go_sem, ↓reduceIte, reduceCtorEq, Nat.reduceEqDiff, Nat.reduceAdd, Nat.reduceSub, Nat.reduceMul, Nat.reduceLeDiff, Nat.reduceLT, binA]
            refine W_dreg ?_
            cases hk : (t.kind != 9)
            · simp only [e0, hwj, haj, hat6.1, hat6.2.2.1, hb6.lds.2.1, hb6.lds.2.2.2, hk, wt_ops, stpT, wt_nil, Tr, chk1, hq', wtg_faddr, wtg_load, wtg_mv, wtg_call, wtg_bin, grdT_t, grdT_f, go_sem, ↓reduceIte, reduceCtorEq, Nat.reduceEqDiff, Nat.reduceAdd, Nat.reduceSub, Nat.reduceMul, Nat.reduceLeDiff, Nat.reduceLT, binA]
              refine ⟨Bool.true_or _, ?_⟩
              have hop : openM (prevT L i) t r out = (r, out ++ [mkT 6 t] ++ [mkT 7 t], decide ((t.line : Int) > u.line)) := by rw [hpv]; simp only [openM, ho1, ho2, hk]; rfl
              simp only [e5, hb6.lds.1, go_sem, ↓reduceIte, reduceCtorEq, Nat.reduceEqDiff, Nat.reduceAdd, Nat.reduceSub, Nat.reduceMul, Nat.reduceLeDiff, Nat.reduceLT, binA]
              refine WO_callx [.ptr p 0, .int .i64 6, .agg (tkc t)] (by simp only [go_sem, ↓reduceIte, reduceCtorEq, Nat.reduceEqDiff, Nat.reduceAdd, Nat.reduceSub, Nat.reduceMul, Nat.reduceLeDiff, Nat.reduceLT, loadA, rdCells, binA]) ((put_law hm6 (by omega) 6 t).mono ?_)
              rintro v8 S8 ⟨hm8, hp8'⟩
              have hp8 := hp6.trans hp8'
              have hb8 := hb4.pr hp8
              simp only [e5, hb8.lds.1, go_sem, ↓reduceIte, reduceCtorEq, Nat.reduceEqDiff, Nat.reduceAdd, Nat.reduceSub, Nat.reduceMul, Nat.reduceLeDiff, Nat.reduceLT, binA]
              refine WO_callx [.ptr p 0, .int .i64 7, .agg (tkc t)] (by simp only [go_sem, ↓reduceIte, reduceCtorEq, Nat.reduceEqDiff, Nat.reduceAdd, Nat.reduceSub, Nat.reduceMul, Nat.reduceLeDiff, Nat.reduceLT, loadA, rdCells, binA]) ((put_law hm8 (by first | omega | (simp only [List.length_append, List.length_cons, List.length_nil]; omega)) 7 t).mono ?_)
              rintro v9 S9 ⟨hm9, hp9'⟩
              have hp9 := hp8.trans hp9'
              have hb9 := hb4.pr hp9
              simp only [go_sem, ↓reduceIte, reduceCtorEq, Nat.reduceEqDiff, Nat.reduceAdd, Nat.reduceSub, Nat.reduceMul, Nat.reduceLeDiff, Nat.reduceLT, binA]
              refine tail_law (B := B1) (f := decide ((t.line : Int) > u.line)) hm9 hb9 (by first | omega | (simp only [List.length_append, List.length_cons, List.length_nil]; omega)) (by first | omega | (simp only [List.length_append, List.length_cons, List.length_nil]; omega)) (by simp only [go_sem, ↓reduceIte, reduceCtorEq, Nat.reduceEqDiff, Nat.reduceAdd, Nat.reduceSub, Nat.reduceMul, Nat.reduceLeDiff, Nat.reduceLT, loadA, rdCells, binA]; exact e5) (by simp only [go_sem, ↓reduceIte, reduceCtorEq, Nat.reduceEqDiff, Nat.reduceAdd, Nat.reduceSub, Nat.reduceMul, Nat.reduceLeDiff, Nat.reduceLT, loadA, rdCells, binA]) (by simp only [go_sem, ↓reduceIte, reduceCtorEq, Nat.reduceEqDiff, Nat.reduceAdd, Nat.reduceSub, Nat.reduceMul, Nat.reduceLeDiff, Nat.reduceLT, loadA, rdCells, binA]) ?_ ?_
              · rintro hk9 e' ⟨s0, s5, s17, s18, s19⟩
                simp only [go_sem, ↓reduceIte, reduceCtorEq, Nat.reduceEqDiff, Nat.reduceAdd, Nat.reduceSub, Nat.reduceMul, Nat.reduceLeDiff, Nat.reduceLT, binA]
                exact fin2 _ _ _ _ _ hop hk9 hm9 hp9 (by rw [s0]; simp only [go_sem, ↓reduceIte, reduceCtorEq, Nat.reduceEqDiff, Nat.reduceAdd, Nat.reduceSub, Nat.reduceMul, Nat.reduceLeDiff, Nat.reduceLT, loadA, rdCells, binA]; exact e0) (by rw [s5]; simp only [go_sem, ↓reduceIte, reduceCtorEq, Nat.reduceEqDiff, Nat.reduceAdd, Nat.reduceSub, Nat.reduceMul, Nat.reduceLeDiff, Nat.reduceLT, loadA, rdCells, binA]; exact e5)
              · rintro hk9 e' Sx ⟨s0, s5, s17, s18, s19⟩ hmx hpx
                have q0 : e' 0 = .msl q 0 L.length 5 := by rw [s0]; simp only [go_sem, ↓reduceIte, reduceCtorEq, Nat.reduceEqDiff, Nat.reduceAdd, Nat.reduceSub, Nat.reduceMul, Nat.reduceLeDiff, Nat.reduceLT, loadA, rdCells, binA]; exact e0
                have q5 : e' 5 = .ptr p 0 := by rw [s5]; simp only [go_sem, ↓reduceIte, reduceCtorEq, Nat.reduceEqDiff, Nat.reduceAdd, Nat.reduceSub, Nat.reduceMul, Nat.reduceLeDiff, Nat.reduceLT, loadA, rdCells, binA]; exact e5
                have q17 : e' 17 = .msl q 0 L.length 5 := by rw [s17]; simp only [go_sem, ↓reduceIte, reduceCtorEq, Nat.reduceEqDiff, Nat.reduceAdd, Nat.reduceSub, Nat.reduceMul, Nat.reduceLeDiff, Nat.reduceLT, loadA, rdCells, binA]; exact e17
                have q18 : e' 18 = .int .i64 L.length := by rw [s18]; simp only [go_sem, ↓reduceIte, reduceCtorEq, Nat.reduceEqDiff, Nat.reduceAdd, Nat.reduceSub, Nat.reduceMul, Nat.reduceLeDiff, Nat.reduceLT, loadA, rdCells, binA]; exact e18
                have q19 : e' 19 = .int .i64 i := by rw [s19]; simp only [go_sem, ↓reduceIte, reduceCtorEq, Nat.reduceEqDiff, Nat.reduceAdd, Nat.reduceSub, Nat.reduceMul, Nat.reduceLeDiff, Nat.reduceLT, loadA, rdCells, binA]; exact e19
                simp only [q19, hwi, go_sem, ↓reduceIte, reduceCtorEq, Nat.reduceEqDiff, Nat.reduceAdd, Nat.reduceSub, Nat.reduceMul, Nat.reduceLeDiff, Nat.reduceLT, binA]
                exact ⟨k - 1, by omega, i + 1, _, _, by omega, q0, q5, q17, q18, rfl, nx2 _ _ _ _ hop hk9 hmx (hp9.trans hpx)⟩
            · simp only [e0, e5, hwj, haj, hat6.1, hat6.2.2.1, hb6.lds.2.1, hb6.lds.2.2.2, hk, wt_ops, stpT, wt_nil, Tr, chk1, hq', wtg_faddr, wtg_load, wtg_mv, wtg_call, wtg_bin, grdT_t, grdT_f, go_sem, ↓reduceIte, reduceCtorEq, Nat.reduceEqDiff, Nat.reduceAdd, Nat.reduceSub, Nat.reduceMul, Nat.reduceLeDiff, Nat.reduceLT, binA]
              refine WT_callx [.ptr p 0] (by simp only [go_sem, ↓reduceIte, reduceCtorEq, Nat.reduceEqDiff, Nat.reduceAdd, Nat.reduceSub, Nat.reduceMul, Nat.reduceLeDiff, Nat.reduceLT, loadA, rdCells, binA]) ((encl_law hm6 (by rw [List.length_reverse]; omega)).mono ?_)
              rintro v7 S7 ⟨rfl, rfl⟩
              rw [List.reverse_reverse]
              simp only [e0, e5, hwj, haj, hb6.lds.2.1, hb6.lds.2.2.2, hk, wt_ops, stpT, wt_nil, Tr, chk1, hq', wtg_faddr, wtg_load, wtg_mv, wtg_call, wtg_bin, grdT_t, grdT_f, go_sem, ↓reduceIte, reduceCtorEq, Nat.reduceEqDiff, Nat.reduceAdd, Nat.reduceSub, Nat.reduceMul, Nat.reduceLeDiff, Nat.reduceLT, binA]
              refine ⟨rfl, ?_⟩
              have hb7 := hb6
              cases hgt : decide ((t.col : Int) > Go.Proofs.Tryd.enclV r)
              · have hop : openM (prevT L i) t r out = (r, out ++ [mkT 6 t] ++ [mkT 7 t], decide ((t.line : Int) > u.line)) := by rw [hpv]; simp only [openM, ho1, ho2, hk, hgt]; rfl
                simp only [e5, hb6.lds.1, go_sem, ↓reduceIte, reduceCtorEq, Nat.reduceEqDiff, Nat.reduceAdd, Nat.reduceSub, Nat.reduceMul, Nat.reduceLeDiff, Nat.reduceLT, binA]
                refine WO_callx [.ptr p 0, .int .i64 6, .agg (tkc t)] (by simp only [go_sem, ↓reduceIte, reduceCtorEq, Nat.reduceEqDiff, Nat.reduceAdd, Nat.reduceSub, Nat.reduceMul, Nat.reduceLeDiff, Nat.reduceLT, loadA, rdCells, binA]) ((put_law hm6 (by omega) 6 t).mono ?_)
                rintro v8 S8 ⟨hm8, hp8'⟩
                have hp8 := hp6.trans hp8'
                have hb8 := hb4.pr hp8
                simp only [e5, hb8.lds.1, go_sem, ↓reduceIte, reduceCtorEq, Nat.reduceEqDiff, Nat.reduceAdd, Nat.reduceSub, Nat.reduceMul, Nat.reduceLeDiff, Nat.reduceLT, binA]
                refine WO_callx [.ptr p 0, .int .i64 7, .agg (tkc t)] (by simp only [go_sem, ↓reduceIte, reduceCtorEq, Nat.reduceEqDiff, Nat.reduceAdd, Nat.reduceSub, Nat.reduceMul, Nat.reduceLeDiff, Nat.reduceLT, loadA, rdCells, binA]) ((put_law hm8 (by first | omega | (simp only [List.length_append, List.length_cons, List.length_nil]; omega)) 7 t).mono ?_)
                rintro v9 S9 ⟨hm9, hp9'⟩
                have hp9 := hp8.trans hp9'
                have hb9 := hb4.pr hp9
                simp only [go_sem, ↓reduceIte, reduceCtorEq, Nat.reduceEqDiff, Nat.reduceAdd, Nat.reduceSub, Nat.reduceMul, Nat.reduceLeDiff, Nat.reduceLT, binA]
                refine tail_law (B := B1) (f := decide ((t.line : Int) > u.line)) hm9 hb9 (by first | omega | (simp only [List.length_append, List.length_cons, List.length_nil]; omega)) (by first | omega | (simp only [List.length_append, List.length_cons, List.length_nil]; omega)) (by simp only [go_sem, ↓reduceIte, reduceCtorEq, Nat.reduceEqDiff, Nat.reduceAdd, Nat.reduceSub, Nat.reduceMul, Nat.reduceLeDiff, Nat.reduceLT, loadA, rdCells, binA]; exact e5) (by simp only [go_sem, ↓reduceIte, reduceCtorEq, Nat.reduceEqDiff, Nat.reduceAdd, Nat.reduceSub, Nat.reduceMul, Nat.reduceLeDiff, Nat.reduceLT, loadA, rdCells, binA]) (by simp only [go_sem, ↓reduceIte, reduceCtorEq, Nat.reduceEqDiff, Nat.reduceAdd, Nat.reduceSub, Nat.reduceMul, Nat.reduceLeDiff, Nat.reduceLT, loadA, rdCells, binA]) ?_ ?_
                · rintro hk9 e' ⟨s0, s5, s17, s18, s19⟩
                  simp only [go_sem, ↓reduceIte, reduceCtorEq, Nat.reduceEqDiff, Nat.reduceAdd, Nat.reduceSub, Nat.reduceMul, Nat.reduceLeDiff, Nat.reduceLT, binA]
                  exact fin2 _ _ _ _ _ hop hk9 hm9 hp9 (by rw [s0]; simp only [go_sem, ↓reduceIte, reduceCtorEq, Nat.reduceEqDiff, Nat.reduceAdd, Nat.reduceSub, Nat.reduceMul, Nat.reduceLeDiff, Nat.reduceLT, loadA, rdCells, binA]; exact e0) (by rw [s5]; simp only [go_sem, ↓reduceIte, reduceCtorEq, Nat.reduceEqDiff, Nat.reduceAdd, Nat.reduceSub, Nat.reduceMul, Nat.reduceLeDiff, Nat.reduceLT, loadA, rdCells, binA]; exact e5)
                · rintro hk9 e' Sx ⟨s0, s5, s17, s18, s19⟩ hmx hpx
                  have q0 : e' 0 = .msl q 0 L.length 5 := by rw [s0]; simp only [go_sem, ↓reduceIte, reduceCtorEq, Nat.reduceEqDiff, Nat.reduceAdd, Nat.reduceSub, Nat.reduceMul, Nat.reduceLeDiff, Nat.reduceLT, loadA, rdCells, binA]; exact e0
                  have q5 : e' 5 = .ptr p 0 := by rw [s5]; simp only [go_sem, ↓reduceIte, reduceCtorEq, Nat.reduceEqDiff, Nat.reduceAdd, Nat.reduceSub, Nat.reduceMul, Nat.reduceLeDiff, Nat.reduceLT, loadA, rdCells, binA]; exact e5
                  have q17 : e' 17 = .msl q 0 L.length 5 := by rw [s17]; simp only [go_sem, ↓reduceIte, reduceCtorEq, Nat.reduceEqDiff, Nat.reduceAdd, Nat.reduceSub, Nat.reduceMul, Nat.reduceLeDiff, Nat.reduceLT, loadA, rdCells, binA]; exact e17
                  have q18 : e' 18 = .int .i64 L.length := by rw [s18]; simp only [go_sem, ↓reduceIte, reduceCtorEq, Nat.reduceEqDiff, Nat.reduceAdd, Nat.reduceSub, Nat.reduceMul, Nat.reduceLeDiff, Nat.reduceLT, loadA, rdCells, binA]; exact e18
                  have q19 : e' 19 = .int .i64 i := by rw [s19]; simp only [go_sem, ↓reduceIte, reduceCtorEq, Nat.reduceEqDiff, Nat.reduceAdd, Nat.reduceSub, Nat.reduceMul, Nat.reduceLeDiff, Nat.reduceLT, loadA, rdCells, binA]; exact e19
                  simp only [q19, hwi, go_sem, ↓reduceIte, reduceCtorEq, Nat.reduceEqDiff, Nat.reduceAdd, Nat.reduceSub, Nat.reduceMul, Nat.reduceLeDiff, Nat.reduceLT, binA]
                  exact ⟨k - 1, by omega, i + 1, _, _, by omega, q0, q5, q17, q18, rfl, nx2 _ _ _ _ hop hk9 hmx (hp9.trans hpx)⟩
              · have hop : openM (prevT L i) t r out = (((t.col : Int), u.text) :: r, out ++ [mkT 6 t], false) := by rw [hpv]; simp only [openM, ho1, ho2, hk, hgt]; rfl
                simp only [e5, hb7.lds.1, go_sem, ↓reduceIte, reduceCtorEq, Nat.reduceEqDiff, Nat.reduceAdd, Nat.reduceSub, Nat.reduceMul, Nat.reduceLeDiff, Nat.reduceLT, binA]
                refine WO_callx [.ptr p 0, .int .i64 6, .agg (tkc t)] (by simp only [go_sem, ↓reduceIte, reduceCtorEq, Nat.reduceEqDiff, Nat.reduceAdd, Nat.reduceSub, Nat.reduceMul, Nat.reduceLeDiff, Nat.reduceLT, loadA, rdCells, binA]) ((put_law hm6 (by omega) 6 t).mono ?_)
                rintro v8 S8 ⟨hm8, hp8'⟩
                have hp8 := hp6.trans hp8'
                have hb8 := hb4.pr hp8
                have hT8 : TokL S8 q L := ⟨((hp8'.less hin).2 q (by omega)).trans hT6.obj, Nat.lt_of_lt_of_le hT6.lt hp8'.1⟩
                obtain ⟨sv8, ov8, sv9, S9, o8, happ8, o9, hc9, ho9, hm9, hp9'⟩ := hm8.push ((t.col : Int), u.text) (by simp; omega)
                have hl8 : loadA S8 false 1 (.ptr p 0) = some sv8 := by simp [loadA, rdCells, o8]
                have hp9 := hp8.trans hp9'
                have hb9 := hb4.pr hp9
                simp only [cxc] at happ8
                simp only [e0, e5, hwj, haj, (hT8.at hu).2.2.1, hb8.lds.2.2.2, hl8, happ8, o9, hc9, ho9, go_sem, ↓reduceIte, reduceCtorEq, Nat.reduceEqDiff, Nat.reduceAdd, Nat.reduceSub, Nat.reduceMul, Nat.reduceLeDiff, Nat.reduceLT, binA]
                rw [← List.reverse_cons] at hm9
                refine tail_law (B := B1) (f := false) hm9 hb9 (by first | omega | (simp only [List.length_append, List.length_cons, List.length_nil]; omega)) (by first | omega | (simp only [List.length_append, List.length_cons, List.length_nil]; omega)) (by simp only [go_sem, ↓reduceIte, reduceCtorEq, Nat.reduceEqDiff, Nat.reduceAdd, Nat.reduceSub, Nat.reduceMul, Nat.reduceLeDiff, Nat.reduceLT, loadA, rdCells, binA]; exact e5) (by simp only [go_sem, ↓reduceIte, reduceCtorEq, Nat.reduceEqDiff, Nat.reduceAdd, Nat.reduceSub, Nat.reduceMul, Nat.reduceLeDiff, Nat.reduceLT, loadA, rdCells, binA]) (by simp only [go_sem, ↓reduceIte, reduceCtorEq, Nat.reduceEqDiff, Nat.reduceAdd, Nat.reduceSub, Nat.reduceMul, Nat.reduceLeDiff, Nat.reduceLT, loadA, rdCells, binA]) ?_ ?_
                · rintro hk9 e' ⟨s0, s5, s17, s18, s19⟩
                  simp only [go_sem, ↓reduceIte, reduceCtorEq, Nat.reduceEqDiff, Nat.reduceAdd, Nat.reduceSub, Nat.reduceMul, Nat.reduceLeDiff, Nat.reduceLT, binA]
                  exact fin2 _ _ _ _ _ hop hk9 hm9 hp9 (by rw [s0]; simp only [go_sem, ↓reduceIte, reduceCtorEq, Nat.reduceEqDiff, Nat.reduceAdd, Nat.reduceSub, Nat.reduceMul, Nat.reduceLeDiff, Nat.reduceLT, loadA, rdCells, binA]; exact e0) (by rw [s5]; simp only [go_sem, ↓reduceIte, reduceCtorEq, Nat.reduceEqDiff, Nat.reduceAdd, Nat.reduceSub, Nat.reduceMul, Nat.reduceLeDiff, Nat.reduceLT, loadA, rdCells, binA]; exact e5)
                · rintro hk9 e' Sx ⟨s0, s5, s17, s18, s19⟩ hmx hpx
                  have q0 : e' 0 = .msl q 0 L.length 5 := by rw [s0]; simp only [go_sem, ↓reduceIte, reduceCtorEq, Nat.reduceEqDiff, Nat.reduceAdd, Nat.reduceSub, Nat.reduceMul, Nat.reduceLeDiff, Nat.reduceLT, loadA, rdCells, binA]; exact e0
                  have q5 : e' 5 = .ptr p 0 := by rw [s5]; simp only [go_sem, ↓reduceIte, reduceCtorEq, Nat.reduceEqDiff, Nat.reduceAdd, Nat.reduceSub, Nat.reduceMul, Nat.reduceLeDiff, Nat.reduceLT, loadA, rdCells, binA]; exact e5
                  have q17 : e' 17 = .msl q 0 L.length 5 := by rw [s17]; simp only [go_sem, ↓reduceIte, reduceCtorEq, Nat.reduceEqDiff, Nat.reduceAdd, Nat.reduceSub, Nat.reduceMul, Nat.reduceLeDiff, Nat.reduceLT, loadA, rdCells, binA]; exact e17
                  have q18 : e' 18 = .int .i64 L.length := by rw [s18]; simp only [go_sem, ↓reduceIte, reduceCtorEq, Nat.reduceEqDiff, Nat.reduceAdd, Nat.reduceSub, Nat.reduceMul, Nat.reduceLeDiff, Nat.reduceLT, loadA, rdCells, binA]; exact e18
                  have q19 : e' 19 = .int .i64 i := by rw [s19]; simp only [go_sem, ↓reduceIte, reduceCtorEq, Nat.reduceEqDiff, Nat.reduceAdd, Nat.reduceSub, Nat.reduceMul, Nat.reduceLeDiff, Nat.reduceLT, loadA, rdCells, binA]; exact e19
                  simp only [q19, hwi, go_sem, ↓reduceIte, reduceCtorEq, Nat.reduceEqDiff, Nat.reduceAdd, Nat.reduceSub, Nat.reduceMul, Nat.reduceLeDiff, Nat.reduceLT, binA]
                  exact ⟨k - 1, by omega, i + 1, _, _, by omega, q0, q5, q17, q18, rfl, nx2 _ _ _ _ hop hk9 hmx (hp9.trans hpx)⟩
          · simp only [go_sem, ↓reduceIte, reduceCtorEq, Nat.reduceEqDiff, Nat.reduceAdd, Nat.reduceSub, Nat.reduceMul, Nat.reduceLeDiff, Nat.reduceLT, binA]
            have hop : openM (prevT L i) t r out = (r, out, false) := by rw [hpv]; simp only [openM, ho1, ho2]; rfl
            refine tail_law (B := B1) (f := false) hm6 hb6 (by omega) (by omega) (by simp only [go_sem, ↓reduceIte, reduceCtorEq, Nat.reduceEqDiff, Nat.reduceAdd, Nat.reduceSub, Nat.reduceMul, Nat.reduceLeDiff, Nat.reduceLT, loadA, rdCells, binA]; exact e5) (by simp only [go_sem, ↓reduceIte, reduceCtorEq, Nat.reduceEqDiff, Nat.reduceAdd, Nat.reduceSub, Nat.reduceMul, Nat.reduceLeDiff, Nat.reduceLT, loadA, rdCells, binA]) (by simp only [go_sem, ↓reduceIte, reduceCtorEq, Nat.reduceEqDiff, Nat.reduceAdd, Nat.reduceSub, Nat.reduceMul, Nat.reduceLeDiff, Nat.reduceLT, loadA, rdCells, binA]) ?_ ?_
            · rintro hk9 e' ⟨s0, s5, s17, s18, s19⟩
              simp only [go_sem, ↓reduceIte, reduceCtorEq, Nat.reduceEqDiff, Nat.reduceAdd, Nat.reduceSub, Nat.reduceMul, Nat.reduceLeDiff, Nat.reduceLT, binA]
              exact fin2 _ _ _ _ _ hop hk9 hm6 hp6 (by rw [s0]; simp only [go_sem, ↓reduceIte, reduceCtorEq, Nat.reduceEqDiff, Nat.reduceAdd, Nat.reduceSub, Nat.reduceMul, Nat.reduceLeDiff, Nat.reduceLT, loadA, rdCells, binA]; exact e0) (by rw [s5]; simp only [go_sem, ↓reduceIte, reduceCtorEq, Nat.reduceEqDiff, Nat.reduceAdd, Nat.reduceSub, Nat.reduceMul, Nat.reduceLeDiff, Nat.reduceLT, loadA, rdCells, binA]; exact e5)
            · rintro hk9 e' Sx ⟨s0, s5, s17, s18, s19⟩ hmx hpx
              have q0 : e' 0 = .msl q 0 L.length 5 := by rw [s0]; simp only [go_sem, ↓reduceIte, reduceCtorEq, Nat.reduceEqDiff, Nat.reduceAdd, Nat.reduceSub, Nat.reduceMul, Nat.reduceLeDiff, Nat.reduceLT, loadA, rdCells, binA]; exact e0
              have q5 : e' 5 = .ptr p 0 := by rw [s5]; simp only [go_sem, ↓reduceIte, reduceCtorEq, Nat.reduceEqDiff, Nat.reduceAdd, Nat.reduceSub, Nat.reduceMul, Nat.reduceLeDiff, Nat.reduceLT, loadA, rdCells, binA]; exact e5
              have q17 : e' 17 = .msl q 0 L.length 5 := by rw [s17]; simp only [go_sem, ↓reduceIte, reduceCtorEq, Nat.reduceEqDiff, Nat.reduceAdd, Nat.reduceSub, Nat.reduceMul, Nat.reduceLeDiff, Nat.reduceLT, loadA, rdCells, binA]; exact e17
              have q18 : e' 18 = .int .i64 L.length := by rw [s18]; simp only [go_sem, ↓reduceIte, reduceCtorEq, Nat.reduceEqDiff, Nat.reduceAdd, Nat.reduceSub, Nat.reduceMul, Nat.reduceLeDiff, Nat.reduceLT, loadA, rdCells, binA]; exact e18
              have q19 : e' 19 = .int .i64 i := by rw [s19]; simp only [go_sem, ↓reduceIte, reduceCtorEq, Nat.reduceEqDiff, Nat.reduceAdd, Nat.reduceSub, Nat.reduceMul, Nat.reduceLeDiff, Nat.reduceLT, loadA, rdCells, binA]; exact e19
              simp only [q19, hwi, go_sem, ↓reduceIte, reduceCtorEq, Nat.reduceEqDiff, Nat.reduceAdd, Nat.reduceSub, Nat.reduceMul, Nat.reduceLeDiff, Nat.reduceLT, binA]
              exact ⟨k - 1, by omega, i + 1, _, _, by omega, q0, q5, q17, q18, rfl, nx2 _ _ _ _ hop hk9 hmx (hp6.trans hpx)⟩
    · have hd : decide ((i : Int) < (L.length : Int)) = false := by simp; omega
      simp only [cf64_l1, e18, e19, hd, go_sem, ↓reduceIte, reduceCtorEq, Nat.reduceEqDiff, Nat.reduceAdd, Nat.reduceSub, Nat.reduceMul, Nat.reduceLeDiff, Nat.reduceLT, binA]
      rw [List.drop_of_length_le (by omega)] at hG
      exact fin _ S3 _ r out (fun _ hj => hj) hm3 hp3 (by omega) (by omega) (by simp only [go_sem, ↓reduceIte, reduceCtorEq, Nat.reduceEqDiff, Nat.reduceAdd, Nat.reduceSub, Nat.reduceMul, Nat.reduceLeDiff, Nat.reduceLT, loadA, rdCells, binA]; exact e0) (by simp only [go_sem, ↓reduceIte, reduceCtorEq, Nat.reduceEqDiff, Nat.reduceAdd, Nat.reduceSub, Nat.reduceMul, Nat.reduceLeDiff, Nat.reduceLT, loadA, rdCells, binA]; exact e5) (by rw [← hG, markG])
  · have hne : e ≠ 0 := by simpa using he0
    simp only [go_sem, ↓reduceIte, reduceCtorEq, Nat.reduceEqDiff, Nat.reduceAdd, Nat.reduceSub, Nat.reduceMul, Nat.reduceLeDiff, Nat.reduceLT, binA]
    exact ⟨by simp, _, rfl, Or.inl ⟨e, rfl, hne, fun hc => hne (he.2 hc)⟩, hk1⟩
end Go.Am.Y1
