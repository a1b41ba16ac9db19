/- A part of the proof of unifySymmetric. Conditions: none. -/
import Derived.Test.YtfleakoephmgaaaDoorUnF
set_option linter.unusedSimpArgs false
set_option linter.unusedVariables false
namespace Go.Am.U1
open Go.Am.Un
set_option maxRecDepth 100000
set_option linter.unusedSimpArgs false
attribute [local go_sem] wseq COp.isStore wreg wdreg wret wskip wexit wblock wcnd cnd_t cnd_f then_n then_x then_r catch_n rnd_n rnd_x rnd_r catch_x catch_r wo_nil wo_grd grdO_t grdO_f wo_ops stpO wr_nil wr_alloc wr_guards grdR_t grdR_f wr_ops stpR evAllocs evOp env0_app eput_some eput_none eset_app Opd.ev wantedA faddrA snew_obj snew_size sput_obj sput_size av_cells av_one av_strip av_still unA eqbA fillA fldA lensA mmA mm2 mmFold List.getD_cons_zero List.getD_cons_succ List.getD_nil List.length_cons List.length_nil List.drop_zero List.drop_succ_cons List.take_succ_cons List.take_zero List.map_cons List.map_nil List.set_cons_zero List.set_cons_succ List.all_cons List.all_nil List.getElem?_cons_zero List.getElem?_cons_succ List.nil_append List.cons_append Nat.zero_add Nat.add_zero beq_self_eq_true bt bf Bool.not_true Bool.not_false Bool.and_true Bool.true_and Bool.and_false Bool.false_and and_self and_true true_and n0 n1 n2 n3 n4 m0 m1 m2 m3 c1 retA resAs resA undefA Option.map_some Option.map_none
variable {X : Ext}

/-- The substitution that changes nothing. -/
def vtm (i : Nat) : Tm := .mk 0 ⟨#[]⟩ i []
def vars (N : Nat) : List Tm := (List.range N).map vtm
theorem vars_len (N : Nat) : (vars N).length = N := by simp [vars]
theorem vars_at {N i : Nat} (h : i < N) : (vars N)[i]? = some (vtm i) := by simp [vars, h]
theorem vars_succ (N : Nat) : vars (N + 1) = vars N ++ [vtm N] := by simp [vars, List.range_succ]
theorem vtm_c (i : Nat) : tyc (vtm i) = [.int .i64 0, .str ⟨#[]⟩, .int .i64 i, .sl [] 0 false none] := by rw [vtm, tyc, tycs]; rfl

theorem grw_stay {s S S4 : St} {β : Type} {g : β → List AV} {ov : AV} {cur : List β} {tok : Option Nat} (hg : Grw g s.size S ov cur tok) (hkp : Keep s S) (hz : S4.size = S.size + 1) (hk4 : ∀ j, j < S.size → some j ≠ tok → S4.obj j = S.obj j) : Keep s S4 :=
  ⟨by have := hkp.1; omega, fun q hq => by
    rw [hk4 q (Nat.lt_of_lt_of_le hq hkp.1) (fun h => by
      rcases hg with ⟨-, -, h0⟩ | ⟨k3, h0, -, -, -, -, h6⟩
      · rw [h0] at h; cases h
      · rw [h0] at h; cases h; omega)]
    exact hkp.2 q hq⟩
theorem grw_k {β : Type} {g : β → List AV} {N : Nat} {S S2 : St} {ov : AV} {cur : List β} {tok : Option Nat} (hg : Grw g N S ov cur tok) (hk : Keep S S2) : Grw g N S2 ov cur tok :=
  hg.keep hk.1 (fun k hkk => by
    rcases hg with ⟨-, -, h⟩ | ⟨k2, h, -, -, -, h5, -⟩
    · rw [h] at hkk; cases hkk
    · rw [h] at hkk; cases hkk; exact hk.2 _ h5)

theorem identity_law (hX : NoX X) (s : St) : WC T X 44 [.int .i64 12] s (fun v s' => ∃ sv, v = .tup [sv, .int .i64 0] ∧ ISl tyc sv (vars 12) ∧ sv ≠ .nils ∧ Keep s s') := by
  refine WC_fn cf44 (hX 44 (by decide)) T44 (by simp [cf44]) ?_
  have d1 : decide ((12 : Int) < 0) = false := rfl
  have d2 : decide ((12 : Int) > 4096) = false := rfl
  simp only [cf44, d1, d2, go_sem, ↓reduceIte, reduceCtorEq, Nat.reduceEqDiff, Nat.reduceAdd, Nat.reduceSub, Nat.reduceMul, Nat.reduceLeDiff, Nat.reduceLT, loadA, rdCells, storeA, setAt, binA]
  refine W_loop_nat (fun kk e S => ∃ (i : Nat) (ov : AV) (tok : Option Nat), i + kk = 12 ∧ e 12 = .int .i64 12 ∧ e 13 = .int .i64 i ∧ e 4 = ov ∧ e 3 = .int .i64 0 ∧ Grw tyc s.size S ov (vars i) tok ∧ Keep s S) ?_ 12 _ _
    ⟨0, .nils, none, by simp, ?_, ?_, ?_, ?_, Or.inl ⟨rfl, rfl, rfl⟩, Keep.refl s⟩
  · rintro kk e S ⟨i, ov, tok, hik, e12, e13, e4, e3, hg, hkp⟩
    by_cases hi : i < 12
    · have hd : decide ((i : Int) < (12 : Int)) = true := by simp; omega
      simp only [cf44_l0, e12, e13, e4, e3, hd, go_sem, ↓reduceIte, reduceCtorEq, Nat.reduceEqDiff, Nat.reduceAdd, Nat.reduceSub, Nat.reduceMul, Nat.reduceLeDiff, Nat.reduceLT, loadA, rdCells, storeA, setAt, binA]
      refine WO_callx [.int .i64 i] (by simp only [go_sem, ↓reduceIte, reduceCtorEq, Nat.reduceEqDiff, Nat.reduceAdd, Nat.reduceSub, Nat.reduceMul, Nat.reduceLeDiff, Nat.reduceLT, loadA, rdCells, storeA, setAt, binA]) ((var_law hX i S).mono ?_)
      rintro v2 S2 ⟨rfl, hk2⟩
      obtain ⟨v', S4, hap, hg4, hz4, hk4⟩ := (grw_k hg hk2).app tycP (by have := hkp.1; have := hk2.1; omega) (vtm i) (bytes := 56) (by rw [vars_len]; omega)
      rw [vtm_c] at hap
      simp only [e12, e13, e4, e3, hap, wrapn (n := i) (by omega), go_sem, ↓reduceIte, reduceCtorEq, Nat.reduceEqDiff, Nat.reduceAdd, Nat.reduceSub, Nat.reduceMul, Nat.reduceLeDiff, Nat.reduceLT, loadA, rdCells, storeA, setAt, binA]
      exact ⟨kk - 1, by omega, i + 1, v', _, by omega, rfl, rfl, by rw [vars_succ]; exact hg4, grw_stay (grw_k hg hk2) (hkp.trans hk2) hz4 hk4⟩
    · obtain rfl : i = 12 := by omega
      have hd : decide (((12 : Nat) : Int) < (12 : Int)) = false := rfl
      simp only [cf44_l0, e12, e13, e4, e3, hd, go_sem, ↓reduceIte, reduceCtorEq, Nat.reduceEqDiff, Nat.reduceAdd, Nat.reduceSub, Nat.reduceMul, Nat.reduceLeDiff, Nat.reduceLT, loadA, rdCells, storeA, setAt, binA]
      exact ⟨by simp, _, rfl, ov, rfl, hg.isl, by rcases hg with ⟨-, h, -⟩ | ⟨k, -, rfl, -⟩; (exact absurd (congrArg List.length h) (by rw [vars_len]; simp)); simp, hkp⟩
  · simp only [go_sem, ↓reduceIte, reduceCtorEq, Nat.reduceEqDiff, Nat.reduceAdd, Nat.reduceSub, Nat.reduceMul, Nat.reduceLeDiff, Nat.reduceLT, loadA, rdCells, storeA, setAt, binA]
  · simp only [go_sem, ↓reduceIte, reduceCtorEq, Nat.reduceEqDiff, Nat.reduceAdd, Nat.reduceSub, Nat.reduceMul, Nat.reduceLeDiff, Nat.reduceLT, loadA, rdCells, storeA, setAt, binA]; rfl
  · simp only [go_sem, ↓reduceIte, reduceCtorEq, Nat.reduceEqDiff, Nat.reduceAdd, Nat.reduceSub, Nat.reduceMul, Nat.reduceLeDiff, Nat.reduceLT, loadA, rdCells, storeA, setAt, binA]
  · simp only [go_sem, ↓reduceIte, reduceCtorEq, Nat.reduceEqDiff, Nat.reduceAdd, Nat.reduceSub, Nat.reduceMul, Nat.reduceLeDiff, Nat.reduceLT, loadA, rdCells, storeA, setAt, binA]
end Go.Am.U1

/- A part of the proof of unifySymmetric. Conditions: none. -/
namespace Go.Am.U1
open Go.Am.Un
set_option maxRecDepth 100000
set_option linter.unusedSimpArgs false
attribute [local go_sem] wseq COp.isStore wreg wdreg wret wskip wexit wblock wcnd cnd_t cnd_f then_n then_x then_r catch_n rnd_n rnd_x rnd_r catch_x catch_r wo_nil wo_grd grdO_t grdO_f wo_ops stpO wr_nil wr_alloc wr_guards grdR_t grdR_f wr_ops stpR evAllocs evOp env0_app eput_some eput_none eset_app Opd.ev wantedA faddrA snew_obj snew_size sput_obj sput_size av_cells av_one av_strip av_still unA eqbA fillA fldA lensA mmA mm2 mmFold List.getD_cons_zero List.getD_cons_succ List.getD_nil List.length_cons List.length_nil List.drop_zero List.drop_succ_cons List.take_succ_cons List.take_zero List.map_cons List.map_nil List.set_cons_zero List.set_cons_succ List.all_cons List.all_nil List.getElem?_cons_zero List.getElem?_cons_succ List.nil_append List.cons_append Nat.zero_add Nat.add_zero beq_self_eq_true bt bf Bool.not_true Bool.not_false Bool.and_true Bool.true_and Bool.and_false Bool.false_and and_self and_true true_and n0 n1 n2 n3 n4 m0 m1 m2 m3 c1 retA resAs resA undefA Option.map_some Option.map_none
variable {X : Ext}

theorem ne_a {q n : Nat} (h : q < n) : (q = n) = False := eq_false (by omega)
theorem ne_b {q n : Nat} (h : q < n) : (n = q) = False := eq_false (by omega)
theorem ne_c {q n : Nat} (h : q < n) (k : Nat) : (q = n + k) = False := eq_false (by omega)
theorem ne_d {q n : Nat} (h : q < n) (k : Nat) : (n + k = q) = False := eq_false (by omega)
theorem chk_vtm {i : Nat} (hi : i < 12) : chk false 1 4096 (vtm i) = (0, 4095) := by
  rw [vtm, Un.chk0 (by omega)]
  have h1 : decide ((i : Int) < 0) = false := by simp
  have h2 : decide ((i : Int) ≥ 4096) = false := by simp; omega
  rw [h1, h2, chks]
  have h3 : (({ data := #[] } : ByteArray).toList == ({ data := #[] } : ByteArray).toList) = true := by simp
  rw [h3]; rfl

end Go.Am.U1

/- A part of the proof of unifySymmetric. Conditions: none. -/
namespace Go.Am.U1
open Go.Am.Un
set_option maxRecDepth 100000
set_option linter.unusedSimpArgs false
attribute [local go_sem] wseq COp.isStore wreg wdreg wret wskip wexit wblock wcnd cnd_t cnd_f then_n then_x then_r catch_n rnd_n rnd_x rnd_r catch_x catch_r wo_nil wo_grd grdO_t grdO_f wo_ops stpO wr_nil wr_alloc wr_guards grdR_t grdR_f wr_ops stpR evAllocs evOp env0_app eput_some eput_none eset_app Opd.ev wantedA faddrA snew_obj snew_size sput_obj sput_size av_cells av_one av_strip av_still unA eqbA fillA fldA lensA mmA mm2 mmFold List.getD_cons_zero List.getD_cons_succ List.getD_nil List.length_cons List.length_nil List.drop_zero List.drop_succ_cons List.take_succ_cons List.take_zero List.map_cons List.map_nil List.set_cons_zero List.set_cons_succ List.all_cons List.all_nil List.getElem?_cons_zero List.getElem?_cons_succ List.nil_append List.cons_append Nat.zero_add Nat.add_zero beq_self_eq_true bt bf Bool.not_true Bool.not_false Bool.and_true Bool.true_and Bool.and_false Bool.false_and and_self and_true true_and n0 n1 n2 n3 n4 m0 m1 m2 m3 c1 retA resAs resA undefA Option.map_some Option.map_none
variable {X : Ext}

/-- What a variable leads to. -/
inductive WalkTo (ss : List Tm) : Tm → Tm → Prop
  | con (t : Tm) (h : kof t ≠ 0) : WalkTo ss t t
  | self (t u : Tm) (i : Nat) (h : kof t = 0) (hv : vof t = i) (hi : ss[i]? = some u) (hu : kof u = 0) (hw : vof u = vof t) : WalkTo ss t t
  | step (t u t' : Tm) (i : Nat) (h : kof t = 0) (hv : vof t = i) (hi : ss[i]? = some u) (hn : ¬ (kof u = 0 ∧ vof u = vof t)) (hr : WalkTo ss u t') : WalkTo ss t t'

/-- A value that reads as this list. -/
def RdS (sv : AV) (ss : List Tm) (s : St) : Prop := ISl tyc sv ss ∨ ∃ p, sv = .msl p 0 ss.length 4 ∧ s.obj p = some (.cells (ss.flatMap tyc)) ∧ p < s.size
theorem RdS.keep {sv : AV} {ss : List Tm} {s s' : St} (h : RdS sv ss s) (hk : Keep s s') : RdS sv ss s' := by
  rcases h with h | ⟨p, h1, h2, h3⟩
  · exact Or.inl h
  · exact Or.inr ⟨p, h1, hk.obj h3 h2, hk.lt h3⟩
theorem RdS.len {sv : AV} {ss : List Tm} {s : St} (h : RdS sv ss s) : lenA sv = some (.int .i64 ss.length) := by
  rcases h with h | ⟨p, rfl, h2, h3⟩
  · exact h.len
  · rfl
theorem RdS.cells {sv : AV} {ss : List Tm} {s : St} (h : RdS sv ss s) : sv.cells = [sv] := by
  rcases h with (⟨rfl, -⟩ | ⟨f, t, rfl⟩) | ⟨p, rfl, h2, h3⟩ <;> rfl
theorem RdS.at {sv : AV} {ss : List Tm} {s : St} (h : RdS sv ss s) {i : Nat} {x : Tm} (hi : ss[i]? = some x) :
    (∃ r, iaddrA 4 sv (.int .i64 i) = some (.eptr (.int .i64 (kof x) :: .str (nof x) :: .int .i64 (vof x) :: .sl (tycs (lof x)) (lof x).length false none :: r))) ∨
    ∃ p L, iaddrA 4 sv (.int .i64 i) = some (.ptr p (i * 4)) ∧ s.obj p = some (.cells L) ∧ p < s.size ∧ (i * 4 + 4 ≤ L.length) = True ∧ List.take 4 (List.drop (i * 4) L) = [.int .i64 (kof x), .str (nof x), .int .i64 (vof x), .sl (tycs (lof x)) (lof x).length false none] := by
  rcases h with h | ⟨p, rfl, h2, h3⟩
  · have := h.at tyc_len hi
    rw [tyc_w, tyw] at this
    exact Or.inl ⟨_, this⟩
  · have hlt := (List.getElem?_eq_some_iff.1 hi).1
    refine Or.inr ⟨p, _, ?_, h2, h3, eq_true (flat_le tyc_len hi 4 (Nat.le_refl _)), ?_⟩
    · simp only [iaddrA]
      rw [if_pos (by exact ⟨by omega, by omega, trivial⟩), Int.toNat_natCast]; simp
    · have hr := flat_row tyc_len hi
      rw [hr, tyc_w, tyw]

theorem W_loop_eq {b L : CC} (hL : CC.loop b = L) {e : Env} {s : St} {Q : CX → Env → St → Prop} (h : W T X b e s (Then T X L Q)) : W T X L e s Q := by
  subst hL; exact W_loop h

set_option maxHeartbeats 1000000 in
theorem walk_loop {sv : AV} {ss : List Tm} : ∀ (t t' : Tm), WalkTo ss t t' → ∀ (e : Env) (S S0 : St) (q : Nat), RdS sv ss S0 → S0.size ≤ q → Keep S0 S → e 0 = sv → e 3 = .ptr q 0 → S.obj q = some (.cells (tyc t)) → q < S.size →
    W T X (.loop cf57_l0) e S (fun x e' S' => x = .exit 0 ∧ e' 3 = .ptr q 0 ∧ e' 4 = e 4 ∧ S'.obj q = some (.cells (tyc t')) ∧ KeepBut q S S') := by
  intro t t' h
  induction h with
  | con t h =>
    intro e S S0 q hs hq0 hk e0 e3 ho hq
    rw [tyc_w, tyw] at ho
    have hk0 : (kof t == 0) = false := by simpa using h
    refine W_loop ?_
    simp only [cf57_l0, e0, e3, ho, hk0, Nat.le_add_left, go_sem, ↓reduceIte, reduceCtorEq, Nat.reduceEqDiff, Nat.reduceAdd, Nat.reduceSub, Nat.reduceMul, Nat.reduceLeDiff, Nat.reduceLT, loadA, rdCells, storeA, setAt, binA]
    exact ⟨by rw [tyc_w, tyw], ⟨Nat.le_refl _, fun _ _ _ => rfl⟩⟩
  | self t u i h hv hi hu hw =>
    intro e S S0 q hs hq0 hk e0 e3 ho hq
    have hl := hs.len
    have hlt := (List.getElem?_eq_some_iff.1 hi).1
    rw [tyc_w, tyw, h, hv] at ho
    have hd : decide ((i : Int) < (ss.length : Int)) = true := by simp; omega
    refine W_loop ?_
    generalize hL : CC.loop cf57_l0 = L
    rcases hs.at hi with ⟨r, hat⟩ | ⟨p, L, hat, hop, hpz, hle, htk⟩
    · rw [hu, hw, hv] at hat
      simp only [cf57_l0, e0, e3, ho, hl, hd, hat, ne_a hq, ne_b hq, Nat.le_add_left, go_sem, ↓reduceIte, reduceCtorEq, Nat.reduceEqDiff, Nat.reduceAdd, Nat.reduceSub, Nat.reduceMul, Nat.reduceLeDiff, Nat.reduceLT, loadA, rdCells, storeA, setAt, binA]
      exact ⟨by rw [tyc_w, tyw, h, hv], ⟨by simp [St.new, St.put], fun j hj _ => by rw [put_ne (by omega), new_ne (by omega)]⟩⟩
    · rw [hu, hw, hv] at htk
      simp only [cf57_l0, e0, e3, ho, hl, hd, hat, hk.obj hpz hop, hle, htk, ne_a hq, ne_b hq, Nat.le_add_left, go_sem, ↓reduceIte, reduceCtorEq, Nat.reduceEqDiff, Nat.reduceAdd, Nat.reduceSub, Nat.reduceMul, Nat.reduceLeDiff, Nat.reduceLT, loadA, rdCells, storeA, setAt, binA]
      exact ⟨by rw [tyc_w, tyw, h, hv], ⟨by simp [St.new, St.put], fun j hj _ => by rw [put_ne (by omega), new_ne (by omega)]⟩⟩
  | step t u t' i h hv hi hn hr ih =>
    intro e S S0 q hs hq0 hk e0 e3 ho hq
    have hl := hs.len
    have hlt := (List.getElem?_eq_some_iff.1 hi).1
    rw [tyc_w, tyw, h, hv] at ho
    have hd : decide ((i : Int) < (ss.length : Int)) = true := by simp; omega
    have fin : ∀ (e1 : Env) (S1 : St), S1 = ((S.new (.cells [.int .i64 0, .str ⟨#[]⟩, .int .i64 0, .nils])).put S.size (some (.cells [.int .i64 (kof u), .str (nof u), .int .i64 (vof u), .sl (tycs (lof u)) (lof u).length false none]))).put q (some (.cells [.int .i64 (kof u), .str (nof u), .int .i64 (vof u), .sl (tycs (lof u)) (lof u).length false none])) →
        e1 0 = sv → e1 3 = .ptr q 0 → e1 4 = e 4 →
        W T X (.loop cf57_l0) e1 S1 (fun x e' S' => x = .exit 0 ∧ e' 3 = .ptr q 0 ∧ e' 4 = e 4 ∧ S'.obj q = some (.cells (tyc t')) ∧ KeepBut q S S') := by
      rintro e1 S1 rfl h0 h3 h4
      refine (ih e1 _ S0 q hs hq0 ((((hk.new' _).put' (Nat.le_of_lt (Nat.lt_of_le_of_lt hq0 hq)) _).put' hq0 _)) h0 h3 (by rw [put_eq, tyc_w, tyw]) (by simp only [St.new, St.put]; omega)).mono ?_
      rintro x e' S' ⟨a1, a2, a3, a4, a5⟩
      refine ⟨a1, a2, a3.trans h4, a4, ?_⟩
      refine KeepBut.trans ⟨?_, fun j hj hn => ?_⟩ a5
      · simp only [St.new, St.put]; omega
      · rw [put_ne hn, put_ne (by omega), new_ne (by omega)]
    generalize hL : CC.loop cf57_l0 = L at fin ⊢
    refine W_loop_eq hL ?_
    rcases hs.at hi with ⟨r, hat⟩ | ⟨p, L2, hat, hop, hpz, hle, htk⟩
    · by_cases hku : kof u = 0
      · have hvu : (vof u == (i : Int)) = false := by
          have : vof u ≠ i := fun h => hn ⟨hku, by rw [hv]; exact h⟩
          simpa using this
        rw [hku] at hat fin
        simp only [cf57_l0, e0, e3, ho, hl, hd, hat, hvu, ne_a hq, ne_b hq, Nat.le_add_left, go_sem, ↓reduceIte, reduceCtorEq, Nat.reduceEqDiff, Nat.reduceAdd, Nat.reduceSub, Nat.reduceMul, Nat.reduceLeDiff, Nat.reduceLT, loadA, rdCells, storeA, setAt, binA]
        exact fin _ _ rfl (by simp only [e0, go_sem, ↓reduceIte, reduceCtorEq, Nat.reduceEqDiff, Nat.reduceAdd, Nat.reduceSub, Nat.reduceMul, Nat.reduceLeDiff, Nat.reduceLT, loadA, rdCells, storeA, setAt, binA]) (by simp only [e3, go_sem, ↓reduceIte, reduceCtorEq, Nat.reduceEqDiff, Nat.reduceAdd, Nat.reduceSub, Nat.reduceMul, Nat.reduceLeDiff, Nat.reduceLT, loadA, rdCells, storeA, setAt, binA]) (by simp only [go_sem, ↓reduceIte, reduceCtorEq, Nat.reduceEqDiff, Nat.reduceAdd, Nat.reduceSub, Nat.reduceMul, Nat.reduceLeDiff, Nat.reduceLT, loadA, rdCells, storeA, setAt, binA])
      · have hku0 : (kof u == 0) = false := by simpa using hku
        simp only [cf57_l0, e0, e3, ho, hl, hd, hat, hku0, ne_a hq, ne_b hq, Nat.le_add_left, go_sem, ↓reduceIte, reduceCtorEq, Nat.reduceEqDiff, Nat.reduceAdd, Nat.reduceSub, Nat.reduceMul, Nat.reduceLeDiff, Nat.reduceLT, loadA, rdCells, storeA, setAt, binA]
        exact fin _ _ rfl (by simp only [e0, go_sem, ↓reduceIte, reduceCtorEq, Nat.reduceEqDiff, Nat.reduceAdd, Nat.reduceSub, Nat.reduceMul, Nat.reduceLeDiff, Nat.reduceLT, loadA, rdCells, storeA, setAt, binA]) (by simp only [e3, go_sem, ↓reduceIte, reduceCtorEq, Nat.reduceEqDiff, Nat.reduceAdd, Nat.reduceSub, Nat.reduceMul, Nat.reduceLeDiff, Nat.reduceLT, loadA, rdCells, storeA, setAt, binA]) (by simp only [go_sem, ↓reduceIte, reduceCtorEq, Nat.reduceEqDiff, Nat.reduceAdd, Nat.reduceSub, Nat.reduceMul, Nat.reduceLeDiff, Nat.reduceLT, loadA, rdCells, storeA, setAt, binA])
    · by_cases hku : kof u = 0
      · have hvu : (vof u == (i : Int)) = false := by
          have : vof u ≠ i := fun h => hn ⟨hku, by rw [hv]; exact h⟩
          simpa using this
        rw [hku] at htk fin
        simp only [cf57_l0, e0, e3, ho, hl, hd, hat, hvu, hk.obj hpz hop, hle, htk, ne_a hq, ne_b hq, Nat.le_add_left, go_sem, ↓reduceIte, reduceCtorEq, Nat.reduceEqDiff, Nat.reduceAdd, Nat.reduceSub, Nat.reduceMul, Nat.reduceLeDiff, Nat.reduceLT, loadA, rdCells, storeA, setAt, binA]
        exact fin _ _ rfl (by simp only [e0, go_sem, ↓reduceIte, reduceCtorEq, Nat.reduceEqDiff, Nat.reduceAdd, Nat.reduceSub, Nat.reduceMul, Nat.reduceLeDiff, Nat.reduceLT, loadA, rdCells, storeA, setAt, binA]) (by simp only [e3, go_sem, ↓reduceIte, reduceCtorEq, Nat.reduceEqDiff, Nat.reduceAdd, Nat.reduceSub, Nat.reduceMul, Nat.reduceLeDiff, Nat.reduceLT, loadA, rdCells, storeA, setAt, binA]) (by simp only [go_sem, ↓reduceIte, reduceCtorEq, Nat.reduceEqDiff, Nat.reduceAdd, Nat.reduceSub, Nat.reduceMul, Nat.reduceLeDiff, Nat.reduceLT, loadA, rdCells, storeA, setAt, binA])
      · have hku0 : (kof u == 0) = false := by simpa using hku
        simp only [cf57_l0, e0, e3, ho, hl, hd, hat, hku0, hk.obj hpz hop, hle, htk, ne_a hq, ne_b hq, Nat.le_add_left, go_sem, ↓reduceIte, reduceCtorEq, Nat.reduceEqDiff, Nat.reduceAdd, Nat.reduceSub, Nat.reduceMul, Nat.reduceLeDiff, Nat.reduceLT, loadA, rdCells, storeA, setAt, binA]
        exact fin _ _ rfl (by simp only [e0, go_sem, ↓reduceIte, reduceCtorEq, Nat.reduceEqDiff, Nat.reduceAdd, Nat.reduceSub, Nat.reduceMul, Nat.reduceLeDiff, Nat.reduceLT, loadA, rdCells, storeA, setAt, binA]) (by simp only [e3, go_sem, ↓reduceIte, reduceCtorEq, Nat.reduceEqDiff, Nat.reduceAdd, Nat.reduceSub, Nat.reduceMul, Nat.reduceLeDiff, Nat.reduceLT, loadA, rdCells, storeA, setAt, binA]) (by simp only [go_sem, ↓reduceIte, reduceCtorEq, Nat.reduceEqDiff, Nat.reduceAdd, Nat.reduceSub, Nat.reduceMul, Nat.reduceLeDiff, Nat.reduceLT, loadA, rdCells, storeA, setAt, binA])

theorem walk_law (hX : NoX X) {sv : AV} {ss : List Tm} {t t' : Tm} (h : WalkTo ss t t') (s : St) (hs : RdS sv ss s) : WC T X 57 [sv, .agg (tyc t)] s (fun v s' => v = .agg (tyc t') ∧ Keep s s') := by
  refine WC_fn cf57 (hX 57 (by decide)) T57 (by simp [cf57]) ?_
  have hc := hs.cells
  have hlp := fun e1 S1 => walk_loop (X := X) (sv := sv) t t' h e1 S1 s s.size hs (Nat.le_refl _)
  rw [tyc_w t, tyw] at hlp ⊢
  simp only [cf57, go_sem, ↓reduceIte, reduceCtorEq, Nat.reduceEqDiff, Nat.reduceAdd, Nat.reduceSub, Nat.reduceMul, Nat.reduceLeDiff, Nat.reduceLT, loadA, rdCells, storeA, setAt, binA]
  refine (hlp _ _ ?_ ?_ ?_ ?_ ?_).mono ?_
  · exact ((Keep.refl s).new' _).new' _
  · simp only [go_sem, ↓reduceIte, reduceCtorEq, Nat.reduceEqDiff, Nat.reduceAdd, Nat.reduceSub, Nat.reduceMul, Nat.reduceLeDiff, Nat.reduceLT, loadA, rdCells, storeA, setAt, binA]
  · simp only [go_sem, ↓reduceIte, reduceCtorEq, Nat.reduceEqDiff, Nat.reduceAdd, Nat.reduceSub, Nat.reduceMul, Nat.reduceLeDiff, Nat.reduceLT, loadA, rdCells, storeA, setAt, binA]
  · rw [new_ne (by simp [St.new]), new_eq rfl]
  · simp [St.new]; omega
  · rintro x e' S' ⟨rfl, e3, e4, ho, hk⟩
    rw [tyc_w, tyw] at ho
    simp only [go_sem, ↓reduceIte, reduceCtorEq, Nat.reduceEqDiff, Nat.reduceAdd, Nat.reduceSub, Nat.reduceMul, Nat.reduceLeDiff, Nat.reduceLT, loadA, rdCells, storeA, setAt, binA] at e4
    have hz := hk.1
    simp only [St.new] at hz
    have hk0 : Keep s S' := ⟨by omega, fun j hj => by rw [hk.2 j (by simp only [St.new]; omega) (by omega), new_ne (by simp only [St.new]; omega), new_ne (by omega)]⟩
    have ho1 : S'.obj (s.size + 1) = some (.cells [.int .i64 0, .str ⟨#[]⟩, .int .i64 0, .nils]) := by
      rw [hk.2 _ (by simp only [St.new]; omega) (by omega), new_eq (by simp [St.new])]
    simp only [e3, e4, ho, ho1, Nat.le_add_left, go_sem, ↓reduceIte, reduceCtorEq, Nat.reduceEqDiff, Nat.reduceAdd, Nat.reduceSub, Nat.reduceMul, Nat.reduceLeDiff, Nat.reduceLT, loadA, rdCells, storeA, setAt, binA]
    exact ⟨by simp, _, rfl, by rw [tyc_w, tyw], hk0.put' (by omega) _⟩
end Go.Am.U1
