/- A part of the proof of unifyNormal. Conditions: none. -/
import Derived.Test.YtfleakoephmgaaaDoorUnG
set_option linter.unusedSimpArgs false
set_option linter.unusedVariables false
namespace Go.Am.U1
open Go.Am.Un
set_option maxRecDepth 100000
set_option linter.unusedSimpArgs false
attribute [local go_sem] wseq COp.isStore wreg wdreg wret wskip wexit wblock wcnd cnd_t cnd_f then_n then_x then_r catch_n rnd_n rnd_x rnd_r catch_x catch_r wo_nil wo_grd grdO_t grdO_f wo_ops stpO wr_nil wr_alloc wr_guards grdR_t grdR_f wr_ops stpR evAllocs evOp env0_app eput_some eput_none eset_app Opd.ev wantedA faddrA snew_obj snew_size sput_obj sput_size av_cells av_one av_strip av_still unA eqbA fillA fldA lensA mmA mm2 mmFold List.getD_cons_zero List.getD_cons_succ List.getD_nil List.length_cons List.length_nil List.drop_zero List.drop_succ_cons List.take_succ_cons List.take_zero List.map_cons List.map_nil List.set_cons_zero List.set_cons_succ List.all_cons List.all_nil List.getElem?_cons_zero List.getElem?_cons_succ List.nil_append List.cons_append Nat.zero_add Nat.add_zero beq_self_eq_true bt bf Bool.not_true Bool.not_false Bool.and_true Bool.true_and Bool.and_false Bool.false_and and_self and_true true_and n0 n1 n2 n3 n4 m0 m1 m2 m3 c1 retA resAs resA undefA Option.map_some Option.map_none
variable {X : Ext}

/-- What a variable leads to. -/
inductive WalkTo (ss : List Tm) : Tm → Tm → Prop
  | con (t : Tm) (h : kof t ≠ 0) : WalkTo ss t t
  | self (t u : Tm) (i : Nat) (h : kof t = 0) (hv : vof t = i) (hi : ss[i]? = some u) (hu : kof u = 0) (hw : vof u = vof t) : WalkTo ss t t
  | step (t u t' : Tm) (i : Nat) (h : kof t = 0) (hv : vof t = i) (hi : ss[i]? = some u) (hn : ¬ (kof u = 0 ∧ vof u = vof t)) (hr : WalkTo ss u t') : WalkTo ss t t'

/-- A value that reads as this list. -/
def RdS (sv : AV) (ss : List Tm) (s : St) : Prop := ISl tyc sv ss ∨ ∃ p, sv = .msl p 0 ss.length 4 ∧ s.obj p = some (.cells (ss.flatMap tyc)) ∧ p < s.size
theorem RdS.keep {sv : AV} {ss : List Tm} {s s' : St} (h : RdS sv ss s) (hk : Keep s s') : RdS sv ss s' := by
  rcases h with h | ⟨p, h1, h2, h3⟩
  · exact Or.inl h
  · exact Or.inr ⟨p, h1, hk.obj h3 h2, hk.lt h3⟩
theorem RdS.len {sv : AV} {ss : List Tm} {s : St} (h : RdS sv ss s) : lenA sv = some (.int .i64 ss.length) := by
  rcases h with h | ⟨p, rfl, h2, h3⟩
  · exact h.len
  · rfl
theorem RdS.cells {sv : AV} {ss : List Tm} {s : St} (h : RdS sv ss s) : sv.cells = [sv] := by
  rcases h with (⟨rfl, -⟩ | ⟨f, t, rfl⟩) | ⟨p, rfl, h2, h3⟩ <;> rfl
theorem RdS.at {sv : AV} {ss : List Tm} {s : St} (h : RdS sv ss s) {i : Nat} {x : Tm} (hi : ss[i]? = some x) :
    (∃ r, iaddrA 4 sv (.int .i64 i) = some (.eptr (.int .i64 (kof x) :: .str (nof x) :: .int .i64 (vof x) :: .sl (tycs (lof x)) (lof x).length false none :: r))) ∨
    ∃ p L, iaddrA 4 sv (.int .i64 i) = some (.ptr p (i * 4)) ∧ s.obj p = some (.cells L) ∧ p < s.size ∧ (i * 4 + 4 ≤ L.length) = True ∧ List.take 4 (List.drop (i * 4) L) = [.int .i64 (kof x), .str (nof x), .int .i64 (vof x), .sl (tycs (lof x)) (lof x).length false none] := by
  rcases h with h | ⟨p, rfl, h2, h3⟩
  · have := h.at tyc_len hi
    rw [tyc_w, tyw] at this
    exact Or.inl ⟨_, this⟩
  · have hlt := (List.getElem?_eq_some_iff.1 hi).1
    refine Or.inr ⟨p, _, ?_, h2, h3, eq_true (flat_le tyc_len hi 4 (Nat.le_refl _)), ?_⟩
    · simp only [iaddrA]
      rw [if_pos (by exact ⟨by omega, by omega, trivial⟩), Int.toNat_natCast]; simp
    · have hr := flat_row tyc_len hi
      rw [hr, tyc_w, tyw]

theorem W_loop_eq {b L : CC} (hL : CC.loop b = L) {e : Env} {s : St} {Q : CX → Env → St → Prop} (h : W T X b e s (Then T X L Q)) : W T X L e s Q := by
  subst hL; exact W_loop h

set_option maxHeartbeats 1000000 in
theorem walk_loop {sv : AV} {ss : List Tm} : ∀ (t t' : Tm), WalkTo ss t t' → ∀ (e : Env) (S S0 : St) (q : Nat), RdS sv ss S0 → S0.size ≤ q → Keep S0 S → e 0 = sv → e 3 = .ptr q 0 → S.obj q = some (.cells (tyc t)) → q < S.size →
    W T X (.loop cf57_l0) e S (fun x e' S' => x = .exit 0 ∧ e' 3 = .ptr q 0 ∧ e' 4 = e 4 ∧ S'.obj q = some (.cells (tyc t')) ∧ KeepBut q S S') := by
  intro t t' h
  induction h with
  | con t h =>
    intro e S S0 q hs hq0 hk e0 e3 ho hq
    rw [tyc_w, tyw] at ho
    have hk0 : (kof t == 0) = false := by simpa using h
    refine W_loop ?_
    simp only [cf57_l0, e0, e3, ho, hk0, Nat.le_add_left, go_sem, ↓reduceIte, reduceCtorEq, Nat.reduceEqDiff, Nat.reduceAdd, Nat.reduceSub, Nat.reduceMul, Nat.reduceLeDiff, Nat.reduceLT, loadA, rdCells, storeA, setAt, binA]
    exact ⟨by rw [tyc_w, tyw], ⟨Nat.le_refl _, fun _ _ _ => rfl⟩⟩
  | self t u i h hv hi hu hw =>
    intro e S S0 q hs hq0 hk e0 e3 ho hq
    have hl := hs.len
    have hlt := (List.getElem?_eq_some_iff.1 hi).1
    rw [tyc_w, tyw, h, hv] at ho
    have hd : decide ((i : Int) < (ss.length : Int)) = true := by simp; omega
    refine W_loop ?_
    generalize hL : CC.loop cf57_l0 = L
    rcases hs.at hi with ⟨r, hat⟩ | ⟨p, L, hat, hop, hpz, hle, htk⟩
    · rw [hu, hw, hv] at hat
      simp only [cf57_l0, e0, e3, ho, hl, hd, hat, ne_a hq, ne_b hq, Nat.le_add_left, go_sem, ↓reduceIte, reduceCtorEq, Nat.reduceEqDiff, Nat.reduceAdd, Nat.reduceSub, Nat.reduceMul, Nat.reduceLeDiff, Nat.reduceLT, loadA, rdCells, storeA, setAt, binA]
      exact ⟨by rw [tyc_w, tyw, h, hv], ⟨by simp [St.new, St.put], fun j hj _ => by rw [put_ne (by omega), new_ne (by omega)]⟩⟩
    · rw [hu, hw, hv] at htk
      simp only [cf57_l0, e0, e3, ho, hl, hd, hat, hk.obj hpz hop, hle, htk, ne_a hq, ne_b hq, Nat.le_add_left, go_sem, ↓reduceIte, reduceCtorEq, Nat.reduceEqDiff, Nat.reduceAdd, Nat.reduceSub, Nat.reduceMul, Nat.reduceLeDiff, Nat.reduceLT, loadA, rdCells, storeA, setAt, binA]
      exact ⟨by rw [tyc_w, tyw, h, hv], ⟨by simp [St.new, St.put], fun j hj _ => by rw [put_ne (by omega), new_ne (by omega)]⟩⟩
  | step t u t' i h hv hi hn hr ih =>
    intro e S S0 q hs hq0 hk e0 e3 ho hq
    have hl := hs.len
    have hlt := (List.getElem?_eq_some_iff.1 hi).1
    rw [tyc_w, tyw, h, hv] at ho
    have hd : decide ((i : Int) < (ss.length : Int)) = true := by simp; omega
    have fin : ∀ (e1 : Env) (S1 : St), S1 = ((S.new (.cells [.int .i64 0, .str ⟨#[]⟩, .int .i64 0, .nils])).put S.size (some (.cells [.int .i64 (kof u), .str (nof u), .int .i64 (vof u), .sl (tycs (lof u)) (lof u).length false none]))).put q (some (.cells [.int .i64 (kof u), .str (nof u), .int .i64 (vof u), .sl (tycs (lof u)) (lof u).length false none])) →
        e1 0 = sv → e1 3 = .ptr q 0 → e1 4 = e 4 →
        W T X (.loop cf57_l0) e1 S1 (fun x e' S' => x = .exit 0 ∧ e' 3 = .ptr q 0 ∧ e' 4 = e 4 ∧ S'.obj q = some (.cells (tyc t')) ∧ KeepBut q S S') := by
      rintro e1 S1 rfl h0 h3 h4
      refine (ih e1 _ S0 q hs hq0 ((((hk.new' _).put' (Nat.le_of_lt (Nat.lt_of_le_of_lt hq0 hq)) _).put' hq0 _)) h0 h3 (by rw [put_eq, tyc_w, tyw]) (by simp only [St.new, St.put]; omega)).mono ?_
      rintro x e' S' ⟨a1, a2, a3, a4, a5⟩
      refine ⟨a1, a2, a3.trans h4, a4, ?_⟩
      refine KeepBut.trans ⟨?_, fun j hj hn => ?_⟩ a5
      · simp only [St.new, St.put]; omega
      · rw [put_ne hn, put_ne (by omega), new_ne (by omega)]
    generalize hL : CC.loop cf57_l0 = L at fin ⊢
    refine W_loop_eq hL ?_
    rcases hs.at hi with ⟨r, hat⟩ | ⟨p, L2, hat, hop, hpz, hle, htk⟩
    · by_cases hku : kof u = 0
      · have hvu : (vof u == (i : Int)) = false := by
          have : vof u ≠ i := fun h => hn ⟨hku, by rw [hv]; exact h⟩
          simpa using this
        rw [hku] at hat fin
        simp only [cf57_l0, e0, e3, ho, hl, hd, hat, hvu, ne_a hq, ne_b hq, Nat.le_add_left, go_sem, ↓reduceIte, reduceCtorEq, Nat.reduceEqDiff, Nat.reduceAdd, Nat.reduceSub, Nat.reduceMul, Nat.reduceLeDiff, Nat.reduceLT, loadA, rdCells, storeA, setAt, binA]
        exact fin _ _ rfl (by simp only [e0, go_sem, ↓reduceIte, reduceCtorEq, Nat.reduceEqDiff, Nat.reduceAdd, Nat.reduceSub, Nat.reduceMul, Nat.reduceLeDiff, Nat.reduceLT, loadA, rdCells, storeA, setAt, binA]) (by simp only [e3, go_sem, ↓reduceIte, reduceCtorEq, Nat.reduceEqDiff, Nat.reduceAdd, Nat.reduceSub, Nat.reduceMul, Nat.reduceLeDiff, Nat.reduceLT, loadA, rdCells, storeA, setAt, binA]) (by simp only [go_sem, ↓reduceIte, reduceCtorEq, Nat.reduceEqDiff, Nat.reduceAdd, Nat.reduceSub, Nat.reduceMul, Nat.reduceLeDiff, Nat.reduceLT, loadA, rdCells, storeA, setAt, binA])
      · have hku0 : (kof u == 0) = false := by simpa using hku
        simp only [cf57_l0, e0, e3, ho, hl, hd, hat, hku0, ne_a hq, ne_b hq, Nat.le_add_left, go_sem, ↓reduceIte, reduceCtorEq, Nat.reduceEqDiff, Nat.reduceAdd, Nat.reduceSub, Nat.reduceMul, Nat.reduceLeDiff, Nat.reduceLT, loadA, rdCells, storeA, setAt, binA]
        exact fin _ _ rfl (by simp only [e0, go_sem, ↓reduceIte, reduceCtorEq, Nat.reduceEqDiff, Nat.reduceAdd, Nat.reduceSub, Nat.reduceMul, Nat.reduceLeDiff, Nat.reduceLT, loadA, rdCells, storeA, setAt, binA]) (by simp only [e3, go_sem, ↓reduceIte, reduceCtorEq, Nat.reduceEqDiff, Nat.reduceAdd, Nat.reduceSub, Nat.reduceMul, Nat.reduceLeDiff, Nat.reduceLT, loadA, rdCells, storeA, setAt, binA]) (by simp only [go_sem, ↓reduceIte, reduceCtorEq, Nat.reduceEqDiff, Nat.reduceAdd, Nat.reduceSub, Nat.reduceMul, Nat.reduceLeDiff, Nat.reduceLT, loadA, rdCells, storeA, setAt, binA])
    · by_cases hku : kof u = 0
      · have hvu : (vof u == (i : Int)) = false := by
          have : vof u ≠ i := fun h => hn ⟨hku, by rw [hv]; exact h⟩
          simpa using this
        rw [hku] at htk fin
        simp only [cf57_l0, e0, e3, ho, hl, hd, hat, hvu, hk.obj hpz hop, hle, htk, ne_a hq, ne_b hq, Nat.le_add_left, go_sem, ↓reduceIte, reduceCtorEq, Nat.reduceEqDiff, Nat.reduceAdd, Nat.reduceSub, Nat.reduceMul, Nat.reduceLeDiff, Nat.reduceLT, loadA, rdCells, storeA, setAt, binA]
        exact fin _ _ rfl (by simp only [e0, go_sem, ↓reduceIte, reduceCtorEq, Nat.reduceEqDiff, Nat.reduceAdd, Nat.reduceSub, Nat.reduceMul, Nat.reduceLeDiff, Nat.reduceLT, loadA, rdCells, storeA, setAt, binA]) (by simp only [e3, go_sem, ↓reduceIte, reduceCtorEq, Nat.reduceEqDiff, Nat.reduceAdd, Nat.reduceSub, Nat.reduceMul, Nat.reduceLeDiff, Nat.reduceLT, loadA, rdCells, storeA, setAt, binA]) (by simp only [go_sem, ↓reduceIte, reduceCtorEq, Nat.reduceEqDiff, Nat.reduceAdd, Nat.reduceSub, Nat.reduceMul, Nat.reduceLeDiff, Nat.reduceLT, loadA, rdCells, storeA, setAt, binA])
      · have hku0 : (kof u == 0) = false := by simpa using hku
        simp only [cf57_l0, e0, e3, ho, hl, hd, hat, hku0, hk.obj hpz hop, hle, htk, ne_a hq, ne_b hq, Nat.le_add_left, go_sem, ↓reduceIte, reduceCtorEq, Nat.reduceEqDiff, Nat.reduceAdd, Nat.reduceSub, Nat.reduceMul, Nat.reduceLeDiff, Nat.reduceLT, loadA, rdCells, storeA, setAt, binA]
        exact fin _ _ rfl (by simp only [e0, go_sem, ↓reduceIte, reduceCtorEq, Nat.reduceEqDiff, Nat.reduceAdd, Nat.reduceSub, Nat.reduceMul, Nat.reduceLeDiff, Nat.reduceLT, loadA, rdCells, storeA, setAt, binA]) (by simp only [e3, go_sem, ↓reduceIte, reduceCtorEq, Nat.reduceEqDiff, Nat.reduceAdd, Nat.reduceSub, Nat.reduceMul, Nat.reduceLeDiff, Nat.reduceLT, loadA, rdCells, storeA, setAt, binA]) (by simp only [go_sem, ↓reduceIte, reduceCtorEq, Nat.reduceEqDiff, Nat.reduceAdd, Nat.reduceSub, Nat.reduceMul, Nat.reduceLeDiff, Nat.reduceLT, loadA, rdCells, storeA, setAt, binA])

theorem tyc_one (t : Tm) : (AV.agg (tyc t)).cells = tyc t := rfl

theorem walk_law (hX : NoX X) {sv : AV} {ss : List Tm} {t t' : Tm} (h : WalkTo ss t t') (s : St) (hs : RdS sv ss s) : WC T X 57 [sv, .agg (tyc t)] s (fun v s' => v = .agg (tyc t') ∧ Keep s s') := by
  refine WC_fn cf57 (hX 57 (by decide)) T57 (by simp [cf57]) ?_
  have hc := hs.cells
  have hlp := fun e1 S1 => walk_loop (X := X) (sv := sv) t t' h e1 S1 s s.size hs (Nat.le_refl _)
  rw [tyc_w t, tyw] at hlp ⊢
  simp only [cf57, go_sem, ↓reduceIte, reduceCtorEq, Nat.reduceEqDiff, Nat.reduceAdd, Nat.reduceSub, Nat.reduceMul, Nat.reduceLeDiff, Nat.reduceLT, loadA, rdCells, storeA, setAt, binA]
  refine (hlp _ _ ?_ ?_ ?_ ?_ ?_).mono ?_
  · exact ((Keep.refl s).new' _).new' _
  · simp only [go_sem, ↓reduceIte, reduceCtorEq, Nat.reduceEqDiff, Nat.reduceAdd, Nat.reduceSub, Nat.reduceMul, Nat.reduceLeDiff, Nat.reduceLT, loadA, rdCells, storeA, setAt, binA]
  · simp only [go_sem, ↓reduceIte, reduceCtorEq, Nat.reduceEqDiff, Nat.reduceAdd, Nat.reduceSub, Nat.reduceMul, Nat.reduceLeDiff, Nat.reduceLT, loadA, rdCells, storeA, setAt, binA]
  · rw [new_ne (by simp [St.new]), new_eq rfl]
  · simp [St.new]; omega
  · rintro x e' S' ⟨rfl, e3, e4, ho, hk⟩
    rw [tyc_w, tyw] at ho
    simp only [go_sem, ↓reduceIte, reduceCtorEq, Nat.reduceEqDiff, Nat.reduceAdd, Nat.reduceSub, Nat.reduceMul, Nat.reduceLeDiff, Nat.reduceLT, loadA, rdCells, storeA, setAt, binA] at e4
    have hz := hk.1
    simp only [St.new] at hz
    have hk0 : Keep s S' := ⟨by omega, fun j hj => by rw [hk.2 j (by simp only [St.new]; omega) (by omega), new_ne (by simp only [St.new]; omega), new_ne (by omega)]⟩
    have ho1 : S'.obj (s.size + 1) = some (.cells [.int .i64 0, .str ⟨#[]⟩, .int .i64 0, .nils]) := by
      rw [hk.2 _ (by simp only [St.new]; omega) (by omega), new_eq (by simp [St.new])]
    simp only [e3, e4, ho, ho1, Nat.le_add_left, go_sem, ↓reduceIte, reduceCtorEq, Nat.reduceEqDiff, Nat.reduceAdd, Nat.reduceSub, Nat.reduceMul, Nat.reduceLeDiff, Nat.reduceLT, loadA, rdCells, storeA, setAt, binA]
    exact ⟨by simp, _, rfl, by rw [tyc_w, tyw], hk0.put' (by omega) _⟩
end Go.Am.U1

/- A part of the proof of unifyNormal. Conditions: none. -/
namespace Go.Am.U1
open Go.Am.Un
set_option maxRecDepth 100000
set_option linter.unusedSimpArgs false
attribute [local go_sem] wseq COp.isStore wreg wdreg wret wskip wexit wblock wcnd cnd_t cnd_f then_n then_x then_r catch_n rnd_n rnd_x rnd_r catch_x catch_r wo_nil wo_grd grdO_t grdO_f wo_ops stpO wr_nil wr_alloc wr_guards grdR_t grdR_f wr_ops stpR evAllocs evOp env0_app eput_some eput_none eset_app Opd.ev wantedA faddrA snew_obj snew_size sput_obj sput_size av_cells av_one av_strip av_still unA eqbA fillA fldA lensA mmA mm2 mmFold List.getD_cons_zero List.getD_cons_succ List.getD_nil List.length_cons List.length_nil List.drop_zero List.drop_succ_cons List.take_succ_cons List.take_zero List.map_cons List.map_nil List.set_cons_zero List.set_cons_succ List.all_cons List.all_nil List.getElem?_cons_zero List.getElem?_cons_succ List.nil_append List.cons_append Nat.zero_add Nat.add_zero beq_self_eq_true bt bf Bool.not_true Bool.not_false Bool.and_true Bool.true_and Bool.and_false Bool.false_and and_self and_true true_and n0 n1 n2 n3 n4 m0 m1 m2 m3 c1 retA resAs resA undefA Option.map_some Option.map_none
variable {X : Ext}

mutual
/-- What a substitution makes of a type. -/
inductive Sub (ss : List Tm) : Tm → Tm → Prop
  | var (t t' : Tm) (h : WalkTo ss t t') (hk : kof t' = 0) : Sub ss t t'
  | con (t : Tm) (k : Int) (n : ByteArray) (v : Int) (l L : List Tm) (h : WalkTo ss t (.mk k n v l)) (hk : k ≠ 0) (hs : Subs ss l L) : Sub ss t (.mk k n v L)
inductive Subs (ss : List Tm) : List Tm → List Tm → Prop
  | nil : Subs ss [] []
  | cons (a A : Tm) (l L : List Tm) (h : Sub ss a A) (hs : Subs ss l L) : Subs ss (a :: l) (A :: L)
end

theorem subs_len {ss : List Tm} : ∀ {l L : List Tm}, Subs ss l L → L.length = l.length
  | [], _, h => by cases h; rfl
  | a :: l, _, h => by cases h with | cons _ A _ L h hs => simp [subs_len hs]
theorem subs_at {ss : List Tm} : ∀ {l L : List Tm}, Subs ss l L → ∀ {i : Nat} {a : Tm}, l[i]? = some a → ∃ A, L[i]? = some A ∧ Sub ss a A
  | [], _, h, i, a, hi => by simp at hi
  | x :: l, _, h, i, a, hi => by
    cases h with
    | cons _ A _ L h hs =>
      cases i with
      | zero => simp at hi; subst hi; exact ⟨A, by simp, h⟩
      | succ i => obtain ⟨B, h1, h2⟩ := subs_at hs (i := i) (by simpa using hi); exact ⟨B, by simpa using h1, h2⟩

/-- A label's type, and the row without it. -/
inductive Extr (l : ByteArray) : Tm → Tm → Tm → Prop
  | here (v : Int) (t r : Tm) : Extr l (.mk 5 l v [t, r]) t r
  | there (m : ByteArray) (v : Int) (x r t r' : Tm) (hm : (m.toList == l.toList) = false) (h : Extr l r t r') : Extr l (.mk 5 m v [x, r]) t (.mk 5 m 0 [x, r'])

mutual
/-- Equal but for the order of labels. -/
inductive Eqv : Tm → Tm → Prop
  | var (A B : Tm) (ha : kof A = 0) (hb : kof B = 0) (h : vof A = vof B) : Eqv A B
  | row (l : ByteArray) (v : Int) (x r B t rest : Tm) (h : Extr l B t rest) (hx : Eqv x t) (hr : Eqv r rest) : Eqv (.mk 5 l v [x, r]) B
  | app (k : Int) (n n' : ByteArray) (v v' : Int) (l l' : List Tm) (h0 : k ≠ 0) (h5 : k ≠ 5) (hn : (n.toList == n'.toList) = true) (hs : Eqvs l l') : Eqv (.mk k n v l) (.mk k n' v' l')
inductive Eqvs : List Tm → List Tm → Prop
  | nil : Eqvs [] []
  | cons (a b : Tm) (l l' : List Tm) (h : Eqv a b) (hs : Eqvs l l') : Eqvs (a :: l) (b :: l')
end

/-- Rows down to their end. -/
inductive RowOk : Tm → Prop
  | nr (A : Tm) (h : kof A ≠ 5) : RowOk A
  | ext (l : ByteArray) (v : Int) (x r : Tm) (h : RowOk r) : RowOk (.mk 5 l v [x, r])

theorem isl_nil : ISl tyc (.sl [] 0 false none) [] := Or.inr ⟨false, none, rfl⟩

theorem ext_law (hX : NoX X) (l : ByteArray) (a b : Tm) (s : St) : WC T X 22 [.str l, .agg (tyc a), .agg (tyc b)] s (fun v s' => v = .agg (tyc (.mk 5 l 0 [a, b])) ∧ Keep s s') := by
  refine WC_fn cf22 (hX 22 (by decide)) T22 (by simp [cf22]) ?_
  have hr : tyc (.mk 5 l 0 [a, b]) = [.int .i64 5, .str l, .int .i64 0, .sl (tyc a ++ tyc b) 2 false none] := by
    rw [tyc, tycs, tycs, tycs, List.append_nil]; rfl
  rw [hr, tyc_w a, tyc_w b]
  simp only [cf22, tyw, Nat.le_add_left, go_sem, ↓reduceIte, reduceCtorEq, Nat.reduceEqDiff, Nat.reduceAdd, Nat.reduceSub, Nat.reduceMul, Nat.reduceLeDiff, Nat.reduceLT, loadA, rdCells, storeA, setAt, binA]
  exact ⟨by simp, _, rfl, rfl, ((((Keep.refl s).new' _).new' _).new' _).put' (by show s.size ≤ s.size + 1 + 1; omega) _⟩

/-- The unifier's substitution. -/
def US (s : St) (b p : Nat) (ss : List Tm) : Prop := s.obj b = some (.cells [.msl p 0 ss.length 4]) ∧ s.obj p = some (.cells (ss.flatMap tyc)) ∧ b < s.size ∧ p < s.size
theorem US.keep {s s' : St} {b p : Nat} {ss : List Tm} (h : US s b p ss) (hk : Keep s s') : US s' b p ss := ⟨hk.obj h.2.2.1 h.1, hk.obj h.2.2.2 h.2.1, hk.lt h.2.2.1, hk.lt h.2.2.2⟩
theorem US.rd {s : St} {b p : Nat} {ss : List Tm} (h : US s b p ss) : RdS (.msl p 0 ss.length 4) ss s := Or.inr ⟨p, rfl, h.2.1, h.2.2.2⟩

theorem sub_walk {ss : List Tm} {t A : Tm} (h : Sub ss t A) : ∃ t', WalkTo ss t t' ∧ kof t' = kof A ∧ nof t' = nof A ∧ vof t' = vof A ∧ (kof A ≠ 0 → Subs ss (lof t') (lof A)) ∧ (kof A = 0 → t' = A) := by
  cases h with
  | var t t' h hk => exact ⟨A, h, rfl, rfl, rfl, fun hn => absurd hk hn, fun _ => rfl⟩
  | con t k n v l L h hk hs => exact ⟨_, h, rfl, rfl, rfl, fun _ => hs, fun h0 => absurd h0 hk⟩

theorem ia0 (a b c d e f g h : AV) (n : Nat) (fl : Bool) (tk : Option Nat) (hn : 0 < n) : iaddrA 4 (.sl [a, b, c, d, e, f, g, h] n fl tk) (.int .i64 0) = some (.eptr [a, b, c, d, e, f, g, h]) := by
  simp only [iaddrA]
  rw [if_pos (by exact ⟨by omega, by omega⟩)]; rfl
theorem ia1 (a b c d e f g h : AV) (fl : Bool) (tk : Option Nat) : iaddrA 4 (.sl [a, b, c, d, e, f, g, h] 2 fl tk) (.int .i64 1) = some (.eptr [e, f, g, h]) := rfl

set_option maxHeartbeats 1000000 in
theorem tail_loop (hX : NoX X) {ss : List Tm} {b p : Nat} : ∀ (A : Tm), RowOk A → ∀ (t' : Tm), kof t' = kof A → (kof A ≠ 0 → Subs ss (lof t') (lof A)) → ∀ (e : Env) (S S0 : St) (q : Nat), US S0 b p ss → S0.size ≤ q → Keep S0 S → e 0 = .ptr b 0 → e 3 = .ptr q 0 → S.obj q = some (.cells (tyc t')) → q < S.size →
    W T X (.loop cf99_l0) e S (fun x e' S' => x = .exit 0 ∧ e' 3 = .ptr q 0 ∧ (∃ t2, S'.obj q = some (.cells (tyc t2))) ∧ Keep S0 S') := by
  intro A hA
  induction hA with
  | nr A h =>
    intro t' hk hs e S S0 q hu hq0 hkp e0 e3 ho hq
    refine W_loop ?_
    have hk0 : (kof t' == 5) = false := by rw [hk]; simpa using h
    rw [tyc_w, tyw] at ho
    simp only [cf99_l0, e0, e3, ho, hk0, Nat.le_add_left, go_sem, ↓reduceIte, reduceCtorEq, Nat.reduceEqDiff, Nat.reduceAdd, Nat.reduceSub, Nat.reduceMul, Nat.reduceLeDiff, Nat.reduceLT, loadA, rdCells, storeA, setAt, binA]
    exact ⟨⟨t', by rw [tyc_w, tyw]⟩, hkp⟩
  | ext l v x r h ih =>
    intro t' hk hs e S S0 q hu hq0 hkp e0 e3 ho hq
    obtain ⟨k', n', v', l'⟩ := t'
    simp only [kof] at hk
    subst hk
    have hs' := hs (by simp [kof])
    simp only [lof] at hs'
    cases hs' with
    | cons x0 _ l1 _ hx0 hs1 =>
      cases hs1 with
      | cons r0 _ l2 _ hr0 hs2 =>
        cases hs2
        obtain ⟨r', hw, h1, h2, h3, h4, h5⟩ := sub_walk hr0
        generalize hL : CC.loop cf99_l0 = L
        refine W_loop_eq hL ?_
        rw [tyc, tycs, tycs, tycs, List.append_nil, tyc_w x0, tyc_w r0, tyw, tyw] at ho
        have hww := walk_law hX hw S (hu.keep hkp).rd
        rw [tyc_w r0, tyw, tyc_w r', tyw] at hww
        simp only [cf99_l0, e0, e3, ho, (hu.keep hkp).1, ia1, Nat.le_add_left, go_sem, ↓reduceIte, reduceCtorEq, Nat.reduceEqDiff, Nat.reduceAdd, Nat.reduceSub, Nat.reduceMul, Nat.reduceLeDiff, Nat.reduceLT, loadA, rdCells, storeA, setAt, binA]
        refine WR_callx _ rfl (hww.mono ?_)
        rintro w2 S2 ⟨rfl, hk2⟩
        have ho2 := hk2.obj hq ho
        simp only [e0, e3, ho2, Nat.le_add_left, go_sem, ↓reduceIte, reduceCtorEq, Nat.reduceEqDiff, Nat.reduceAdd, Nat.reduceSub, Nat.reduceMul, Nat.reduceLeDiff, Nat.reduceLT, loadA, rdCells, storeA, setAt, binA]
        subst hL
        refine (ih r' h1 h4 _ _ S0 q hu hq0 ((hkp.trans hk2).put' hq0 _) ?_ ?_ ?_ ?_)
        · simp only [e0, go_sem, ↓reduceIte, reduceCtorEq, Nat.reduceEqDiff, Nat.reduceAdd, Nat.reduceSub, Nat.reduceMul, Nat.reduceLeDiff, Nat.reduceLT, loadA, rdCells, storeA, setAt, binA]
        · simp only [e3, go_sem, ↓reduceIte, reduceCtorEq, Nat.reduceEqDiff, Nat.reduceAdd, Nat.reduceSub, Nat.reduceMul, Nat.reduceLeDiff, Nat.reduceLT, loadA, rdCells, storeA, setAt, binA]
        · rw [put_eq, tyc_w, tyw]
        · exact hk2.lt hq

theorem tail_law (hX : NoX X) {ss : List Tm} {b p : Nat} {A t : Tm} (hA : RowOk A) (h : Sub ss t A) (s : St) (hu : US s b p ss) : WC T X 99 [.ptr b 0, .agg (tyc t)] s (fun v s' => (∃ z : Int, v = .int .i64 z) ∧ Keep s s') := by
  refine WC_fn cf99 (hX 99 (by decide)) T99 (by simp [cf99]) ?_
  obtain ⟨t', hw, h1, h2, h3, h4, h5⟩ := sub_walk h
  have hk1 := (Keep.refl s).new' (.cells (tyc t))
  have hww := walk_law hX hw _ (hu.keep hk1).rd
  rw [tyc_w t, tyw, tyc_w t', tyw] at hww
  rw [tyc_w t, tyw] at hk1
  rw [tyc_w t, tyw]
  simp only [cf99, hu.1, ne_a hu.2.2.1, ne_b hu.2.2.1, Nat.le_add_left, go_sem, ↓reduceIte, reduceCtorEq, Nat.reduceEqDiff, Nat.reduceAdd, Nat.reduceSub, Nat.reduceMul, Nat.reduceLeDiff, Nat.reduceLT, loadA, rdCells, storeA, setAt, binA]
  refine WR_callx _ rfl (hww.mono ?_)
  rintro w2 S2 ⟨rfl, hk2⟩
  have ho2 := hk2.obj (by simp [St.new]) (new_eq rfl : (s.new (.cells [.int .i64 (kof t), .str (nof t), .int .i64 (vof t), .sl (tycs (lof t)) (lof t).length false none])).obj s.size = _)
  simp only [ho2, Nat.le_add_left, go_sem, ↓reduceIte, reduceCtorEq, Nat.reduceEqDiff, Nat.reduceAdd, Nat.reduceSub, Nat.reduceMul, Nat.reduceLeDiff, Nat.reduceLT, loadA, rdCells, storeA, setAt, binA]
  refine (tail_loop hX A hA t' h1 h4 _ _ s s.size hu (Nat.le_refl _) ((hk1.trans hk2).put' (Nat.le_refl _) _) ?_ ?_ ?_ ?_).mono ?_
  · simp only [go_sem, ↓reduceIte, reduceCtorEq, Nat.reduceEqDiff, Nat.reduceAdd, Nat.reduceSub, Nat.reduceMul, Nat.reduceLeDiff, Nat.reduceLT, loadA, rdCells, storeA, setAt, binA]
  · simp only [go_sem, ↓reduceIte, reduceCtorEq, Nat.reduceEqDiff, Nat.reduceAdd, Nat.reduceSub, Nat.reduceMul, Nat.reduceLeDiff, Nat.reduceLT, loadA, rdCells, storeA, setAt, binA]
  · rw [put_eq, tyc_w, tyw]
  · exact hk2.lt (by simp [St.new])
  · rintro x e' S' ⟨rfl, e3, ⟨t2, ho⟩, hk⟩
    rw [tyc_w, tyw] at ho
    cases hz : (kof t2 == 0) <;> simp only [e3, ho, hz, Nat.le_add_left, go_sem, ↓reduceIte, reduceCtorEq, Nat.reduceEqDiff, Nat.reduceAdd, Nat.reduceSub, Nat.reduceMul, Nat.reduceLeDiff, Nat.reduceLT, loadA, rdCells, storeA, setAt, binA]
    · exact ⟨by simp, _, rfl, ⟨_, rfl⟩, hk⟩
    · exact ⟨by simp, _, rfl, ⟨_, rfl⟩, hk⟩
end Go.Am.U1

/- A part of the proof of unifyNormal. Conditions: none. -/
namespace Go.Am.U1
open Go.Am.Un
set_option maxRecDepth 100000
set_option linter.unusedSimpArgs false
attribute [local go_sem] wseq COp.isStore wreg wdreg wret wskip wexit wblock wcnd cnd_t cnd_f then_n then_x then_r catch_n rnd_n rnd_x rnd_r catch_x catch_r wo_nil wo_grd grdO_t grdO_f wo_ops stpO wr_nil wr_alloc wr_guards grdR_t grdR_f wr_ops stpR evAllocs evOp env0_app eput_some eput_none eset_app Opd.ev wantedA faddrA snew_obj snew_size sput_obj sput_size av_cells av_one av_strip av_still unA eqbA fillA fldA lensA mmA mm2 mmFold List.getD_cons_zero List.getD_cons_succ List.getD_nil List.length_cons List.length_nil List.drop_zero List.drop_succ_cons List.take_succ_cons List.take_zero List.map_cons List.map_nil List.set_cons_zero List.set_cons_succ List.all_cons List.all_nil List.getElem?_cons_zero List.getElem?_cons_succ List.nil_append List.cons_append Nat.zero_add Nat.add_zero beq_self_eq_true bt bf Bool.not_true Bool.not_false Bool.and_true Bool.true_and Bool.and_false Bool.false_and and_self and_true true_and n0 n1 n2 n3 n4 m0 m1 m2 m3 c1 retA resAs resA undefA Option.map_some Option.map_none
variable {X : Ext}

theorem ne_e {q n : Nat} (h : q < n) (k j : Nat) : (q = n + k + j) = False := eq_false (by omega)
theorem ne_f {q n : Nat} (h : q < n) (k j : Nat) : (n + k + j = q) = False := eq_false (by omega)

theorem row_c (l : ByteArray) (v : Int) (a b : Tm) : tyc (.mk 5 l v [a, b]) = [.int .i64 5, .str l, .int .i64 v, .sl [.int .i64 (kof a), .str (nof a), .int .i64 (vof a), .sl (tycs (lof a)) (lof a).length false none, .int .i64 (kof b), .str (nof b), .int .i64 (vof b), .sl (tycs (lof b)) (lof b).length false none] 2 false none] := by
  rw [tyc, tycs, tycs, tycs, List.append_nil, tyc_w a, tyc_w b]; rfl

/-- What an extraction finds. -/
def ExQ (ss : List Tm) (t' r' : Tm) (s : St) (v : AV) (s' : St) : Prop :=
  ∃ t r, v = .tup [.agg (tyc t), .agg (tyc r), .int .i64 0] ∧ Sub ss t t' ∧ Sub ss r r' ∧ Keep s s'

mutual
theorem avr : ∀ v : AV, AV.beq v v = true
  | .bool _ | .int _ _ | .str _ | .nilp | .ptr _ _ | .nils | .msl _ _ _ _ | .nilf | .niliface | .mapv _ | .nilm => by simp [AV.beq]
  | .eptr cs => by simp [AV.beq, avrs cs]
  | .sl cs _ _ _ => by simp [AV.beq, avrs cs]
  | .func _ cs => by simp [AV.beq, avrs cs]
  | .agg cs => by simp [AV.beq, avrs cs]
  | .tup cs => by simp [AV.beq, avrs cs]
  | .iface t v => by simp [AV.beq, avr v]
theorem avrs : ∀ l : List AV, AV.beqs l l = true
  | [] => by simp [AV.beqs]
  | a :: r => by simp [AV.beqs, avr a, avrs r]
end

set_option maxHeartbeats 4000000 in
theorem extr_law (hX : NoX X) {ss : List Tm} {b p : Nat} {l : ByteArray} {B t' r' : Tm} (h : Extr l B t' r') : ∀ (b0 : Tm), Sub ss b0 B → ∀ (no : Int) (s : St), US s b p ss →
    WC T X 98 [.ptr b 0, .str l, .agg (tyc b0), .int .i64 no] s (ExQ ss t' r' s) := by
  induction h with
  | here v t' r' =>
    intro b0 hb0 no s hu
    refine WC_fn cf98 (hX 98 (by decide)) T98 (by simp [cf98]) ?_
    obtain ⟨b1, hw, h1, h2, h3, h4, h5⟩ := sub_walk hb0
    have hs4 := h4 (by simp [kof])
    obtain ⟨k1, n1, v1, l1⟩ := b1
    simp only [kof, nof, vof, lof] at h1 h2 h3 hs4
    subst h1 h2 h3
    cases hs4 with
    | cons x0 _ l1 _ hx0 hs1 =>
    cases hs1 with
    | cons r0 _ l2 _ hr0 hs2 =>
    cases hs2
    have hk1 := ((((Keep.refl s).new' (.cells (tyc b0))).new' (.cells [.int .i64 0, .str ⟨#[]⟩, .int .i64 0, .nils])).new' (.cells [.int .i64 0, .str ⟨#[]⟩, .int .i64 0, .nils]))
    have hww := walk_law hX hw _ (hu.keep hk1).rd
    rw [tyc, tycs, tycs, tycs, List.append_nil, tyc_w b0, tyc_w x0, tyc_w r0, tyw, tyw, tyw] at hww
    rw [tyc_w b0, tyw] at hk1 ⊢
    have hq : s.size < (((s.new (.cells [.int .i64 (kof b0), .str (nof b0), .int .i64 (vof b0), .sl (tycs (lof b0)) (lof b0).length false none])).new (.cells [.int .i64 0, .str ⟨#[]⟩, .int .i64 0, .nils])).new (.cells [.int .i64 0, .str ⟨#[]⟩, .int .i64 0, .nils])).size := by simp only [St.new]; omega
    have z1 : ((5 : Int) == 0) = false := rfl
    have z2 : ((5 : Int) != 5) = false := rfl
    have z3 : (n1.toList == n1.toList) = true := by simp
    simp only [cf98, hu.1, ne_a hu.2.2.1, ne_b hu.2.2.1, ne_c hu.2.2.1, ne_d hu.2.2.1, ne_e hu.2.2.1, ne_f hu.2.2.1, Nat.le_add_left, go_sem, ↓reduceIte, reduceCtorEq, Nat.reduceEqDiff, Nat.reduceAdd, Nat.reduceSub, Nat.reduceMul, Nat.reduceLeDiff, Nat.reduceLT, loadA, rdCells, storeA, setAt, binA]
    refine WR_callx _ rfl (hww.mono ?_)
    rintro w2 S2 ⟨rfl, hk2⟩
    have a1 := hk2.2 s.size (by simp only [St.new]; omega)
    have a2 := hk2.2 (s.size + 1) (by simp only [St.new]; omega)
    have a3 := hk2.2 (s.size + 1 + 1) (by simp only [St.new]; omega)
    simp only [go_sem, ↓reduceIte, reduceCtorEq, Nat.reduceEqDiff, Nat.reduceAdd, Nat.reduceSub, Nat.reduceMul, Nat.reduceLeDiff, Nat.reduceLT, loadA, rdCells, storeA, setAt, binA] at a1 a2 a3
    simp only [a1, a2, a3, z1, z2, z3, ia0, ia1, Nat.le_add_left, go_sem, ↓reduceIte, reduceCtorEq, Nat.reduceEqDiff, Nat.reduceAdd, Nat.reduceSub, Nat.reduceMul, Nat.reduceLeDiff, Nat.reduceLT, loadA, rdCells, storeA, setAt, binA]
    refine W_dreg ?_
    simp only [wt_ops, stpT, Tr, a1, a2, a3, ia0, ia1, wt_nil, chk1, avr, Bool.or_true, Nat.le_add_left, go_sem, ↓reduceIte, reduceCtorEq, Nat.reduceEqDiff, Nat.reduceAdd, Nat.reduceSub, Nat.reduceMul, Nat.reduceLeDiff, Nat.reduceLT, loadA, rdCells, storeA, setAt, binA]
    refine ⟨by simp, _, rfl, x0, r0, by rw [tyc_w x0, tyc_w r0]; rfl, hx0, hr0, ?_⟩
    exact (((((hk1.trans hk2).put' (Nat.le_refl _) _).put' (by omega) _).put' (by omega) _))
  | there m v x r t' r' hm h ih =>
    intro b0 hb0 no s hu
    refine WC_fn cf98 (hX 98 (by decide)) T98 (by simp [cf98]) ?_
    obtain ⟨b1, hw, h1, h2, h3, h4, h5⟩ := sub_walk hb0
    have hs4 := h4 (by simp [kof])
    obtain ⟨k1, n1, v1, l1⟩ := b1
    simp only [kof, nof, vof, lof] at h1 h2 h3 hs4
    subst h1 h2 h3
    cases hs4 with
    | cons x0 _ l1 _ hx0 hs1 =>
    cases hs1 with
    | cons r0 _ l2 _ hr0 hs2 =>
    cases hs2
    have hk1 := ((((Keep.refl s).new' (.cells (tyc b0))).new' (.cells [.int .i64 0, .str ⟨#[]⟩, .int .i64 0, .nils])).new' (.cells [.int .i64 0, .str ⟨#[]⟩, .int .i64 0, .nils]))
    have hww := walk_law hX hw _ (hu.keep hk1).rd
    have ihx := fun (S2 : St) (hk2 : Keep s S2) => ih r0 hr0 no S2 (hu.keep hk2)
    rw [tyc_w r0, tyw] at ihx
    rw [tyc, tycs, tycs, tycs, List.append_nil, tyc_w b0, tyc_w x0, tyc_w r0, tyw, tyw, tyw] at hww
    rw [tyc_w b0, tyw] at hk1 ⊢
    have hq : s.size < (((s.new (.cells [.int .i64 (kof b0), .str (nof b0), .int .i64 (vof b0), .sl (tycs (lof b0)) (lof b0).length false none])).new (.cells [.int .i64 0, .str ⟨#[]⟩, .int .i64 0, .nils])).new (.cells [.int .i64 0, .str ⟨#[]⟩, .int .i64 0, .nils])).size := by simp only [St.new]; omega
    have z1 : ((5 : Int) == 0) = false := rfl
    have z2 : ((5 : Int) != 5) = false := rfl
    simp only [cf98, hu.1, ne_a hu.2.2.1, ne_b hu.2.2.1, ne_c hu.2.2.1, ne_d hu.2.2.1, ne_e hu.2.2.1, ne_f hu.2.2.1, Nat.le_add_left, go_sem, ↓reduceIte, reduceCtorEq, Nat.reduceEqDiff, Nat.reduceAdd, Nat.reduceSub, Nat.reduceMul, Nat.reduceLeDiff, Nat.reduceLT, loadA, rdCells, storeA, setAt, binA]
    refine WR_callx _ rfl (hww.mono ?_)
    rintro w2 S2 ⟨rfl, hk2⟩
    have a1 := hk2.2 s.size (by simp only [St.new]; omega)
    have a2 := hk2.2 (s.size + 1) (by simp only [St.new]; omega)
    have a3 := hk2.2 (s.size + 1 + 1) (by simp only [St.new]; omega)
    simp only [go_sem, ↓reduceIte, reduceCtorEq, Nat.reduceEqDiff, Nat.reduceAdd, Nat.reduceSub, Nat.reduceMul, Nat.reduceLeDiff, Nat.reduceLT, loadA, rdCells, storeA, setAt, binA] at a1 a2 a3
    simp only [a1, a2, a3, z1, z2, hm, ia0, ia1, Nat.le_add_left, go_sem, ↓reduceIte, reduceCtorEq, Nat.reduceEqDiff, Nat.reduceAdd, Nat.reduceSub, Nat.reduceMul, Nat.reduceLeDiff, Nat.reduceLT, loadA, rdCells, storeA, setAt, binA]
    refine WO_callx _ rfl ((ihx _ ((hk1.trans hk2).put' (Nat.le_refl _) _)).mono ?_)
    rintro w3 S3 ⟨t3, r3, rfl, ht3, hr3, hk3⟩
    have hz3 := hk3.1
    have hz2 := hk2.1
    simp only [St.new, St.put] at hz3 hz2
    have b1 := hk3.2 s.size (by simp only [St.put]; omega)
    have b2 := hk3.2 (s.size + 1) (by simp only [St.put]; omega)
    have b3 := hk3.2 (s.size + 1 + 1) (by simp only [St.put]; omega)
    simp only [a1, a2, a3, go_sem, ↓reduceIte, reduceCtorEq, Nat.reduceEqDiff, Nat.reduceAdd, Nat.reduceSub, Nat.reduceMul, Nat.reduceLeDiff, Nat.reduceLT, loadA, rdCells, storeA, setAt, binA] at b1 b2 b3
    have hkA : Keep s S3 := ((hk1.trans hk2).put' (Nat.le_refl _) _).trans hk3
    have hq3 : s.size < S3.size := by omega
    rw [tyc_w t3, tyc_w r3, tyw, tyw]
    have o1 : s.size + 1 < S3.size := by omega
    have o2 : s.size + 1 + 1 < S3.size := by omega
    simp only [b1, b2, b3, ia0, ia1, Nat.le_add_left, go_sem, ↓reduceIte, reduceCtorEq, Nat.reduceEqDiff, Nat.reduceAdd, Nat.reduceSub, Nat.reduceMul, Nat.reduceLeDiff, Nat.reduceLT, loadA, rdCells, storeA, setAt, binA]
    refine W_dreg ?_
    simp only [wt_ops, stpT, Tr, b1, b2, b3, ia0, ia1, wt_nil, chk1, avr, ne_a hq3, ne_b hq3, ne_c hq3, ne_d hq3, ne_a o1, ne_b o1, ne_c o1, ne_d o1, ne_a o2, ne_b o2, ne_c o2, ne_d o2, Bool.or_true, Nat.le_add_left, go_sem, ↓reduceIte, reduceCtorEq, Nat.reduceEqDiff, Nat.reduceAdd, Nat.reduceSub, Nat.reduceMul, Nat.reduceLeDiff, Nat.reduceLT, loadA, rdCells, storeA, setAt, binA]
    have hext := fun S => ext_law hX n1 x0 r3 S
    rw [row_c, tyc_w x0, tyc_w r3, tyw, tyw] at hext
    refine WT_callx _ rfl ((hext _).mono ?_)
    rintro w4 S4 ⟨rfl, hk4⟩
    have hz4 := hk4.1
    simp only [St.new, St.put] at hz4
    have c1 := hk4.2 s.size (by simp only [St.put, St.new]; omega)
    have c2 := hk4.2 (s.size + 1) (by simp only [St.put, St.new]; omega)
    have c3 := hk4.2 (s.size + 1 + 1) (by simp only [St.put, St.new]; omega)
    have c4 := hk4.2 S3.size (by simp only [St.put, St.new]; omega)
    simp only [b1, b2, b3, ne_a hq3, ne_b hq3, ne_c hq3, ne_d hq3, ne_a o1, ne_b o1, ne_c o1, ne_d o1, ne_a o2, ne_b o2, ne_c o2, ne_d o2, go_sem, ↓reduceIte, reduceCtorEq, Nat.reduceEqDiff, Nat.reduceAdd, Nat.reduceSub, Nat.reduceMul, Nat.reduceLeDiff, Nat.reduceLT, loadA, rdCells, storeA, setAt, binA] at c1 c2 c3 c4
    simp only [wt_ops, stpT, Tr, b1, b2, b3, c1, c2, c3, c4, ia0, ia1, wt_nil, chk1, avr, ne_a hq3, ne_b hq3, ne_c hq3, ne_d hq3, ne_a o1, ne_b o1, ne_c o1, ne_d o1, ne_a o2, ne_b o2, ne_c o2, ne_d o2, Bool.or_true, Nat.le_add_left, go_sem, ↓reduceIte, reduceCtorEq, Nat.reduceEqDiff, Nat.reduceAdd, Nat.reduceSub, Nat.reduceMul, Nat.reduceLeDiff, Nat.reduceLT, loadA, rdCells, storeA, setAt, binA]
    refine ⟨by simp, _, rfl, t3, .mk 5 n1 0 [x0, r3], by rw [row_c, tyc_w t3, tyw], ht3, .con _ 5 n1 0 [x0, r3] _ (.con _ (by simp [kof])) (by decide) (.cons _ _ _ _ hx0 (.cons _ _ _ _ hr3 .nil)), ?_⟩
    exact ((((((hkA.new' _).new' _).put' (by omega) _).put' (by omega) _).trans hk4).put' (by omega) _).put' (by omega) _
end Go.Am.U1

/- A part of the proof of unifyNormal. Conditions: none. -/
namespace Go.Am.U1
open Go.Am.Un
set_option maxRecDepth 100000
set_option linter.unusedSimpArgs false
attribute [local go_sem] wseq COp.isStore wreg wdreg wret wskip wexit wblock wcnd cnd_t cnd_f then_n then_x then_r catch_n rnd_n rnd_x rnd_r catch_x catch_r wo_nil wo_grd grdO_t grdO_f wo_ops stpO wr_nil wr_alloc wr_guards grdR_t grdR_f wr_ops stpR evAllocs evOp env0_app eput_some eput_none eset_app Opd.ev wantedA faddrA snew_obj snew_size sput_obj sput_size av_cells av_one av_strip av_still unA eqbA fillA fldA lensA mmA mm2 mmFold List.getD_cons_zero List.getD_cons_succ List.getD_nil List.length_cons List.length_nil List.drop_zero List.drop_succ_cons List.take_succ_cons List.take_zero List.map_cons List.map_nil List.set_cons_zero List.set_cons_succ List.all_cons List.all_nil List.getElem?_cons_zero List.getElem?_cons_succ List.nil_append List.cons_append Nat.zero_add Nat.add_zero beq_self_eq_true bt bf Bool.not_true Bool.not_false Bool.and_true Bool.true_and Bool.and_false Bool.false_and and_self and_true true_and n0 n1 n2 n3 n4 m0 m1 m2 m3 c1 retA resAs resA undefA Option.map_some Option.map_none
variable {X : Ext}

theorem kof_mk (k : Int) (n : ByteArray) (v : Int) (l : List Tm) : kof (.mk k n v l) = k := rfl
theorem nof_mk (k : Int) (n : ByteArray) (v : Int) (l : List Tm) : nof (.mk k n v l) = n := rfl
theorem vof_mk (k : Int) (n : ByteArray) (v : Int) (l : List Tm) : vof (.mk k n v l) = v := rfl
theorem lof_mk (k : Int) (n : ByteArray) (v : Int) (l : List Tm) : lof (.mk k n v l) = l := rfl

theorem bind_same (hX : NoX X) (t : Tm) (h : kof t = 0) (b : Nat) (s : St) : WC T X 86 [.ptr b 0, .int .i64 (vof t), .agg (tyc t)] s (fun v s' => v = .int .i64 0 ∧ Keep s s') := by
  refine WC_fn cf86 (hX 86 (by decide)) T86 (by simp [cf86]) ?_
  rw [tyc_w, tyw, h]
  simp only [cf86, i_ne1, Nat.le_add_left, go_sem, ↓reduceIte, reduceCtorEq, Nat.reduceEqDiff, Nat.reduceAdd, Nat.reduceSub, Nat.reduceMul, Nat.reduceLeDiff, Nat.reduceLT, loadA, rdCells, storeA, setAt, binA]
  exact ⟨by simp, _, rfl, rfl, (Keep.refl s).new' _⟩

/-- A call of unify that changes nothing. -/
def Uns (X : Ext) (ss : List Tm) (b p : Nat) (A B : Tm) : Prop :=
  ∀ a0 b0, Sub ss a0 A → Sub ss b0 B → ∀ s, US s b p ss → WC T X 69 [.ptr b 0, .agg (tyc a0), .agg (tyc b0)] s (fun v s' => v = .int .i64 0 ∧ Keep s s')

set_option maxHeartbeats 4000000 in
theorem rows_law (hX : NoX X) {ss : List Tm} {b p : Nat} {l : ByteArray} {v : Int} {x r B t rest x0 r0 b0 : Tm} (hB : Extr l B t rest) (hx0 : Sub ss x0 x) (hr0 : Sub ss r0 r) (hb0 : Sub ss b0 B) (hro : RowOk r)
    (h1 : Uns X ss b p x t) (h2 : Uns X ss b p r rest) (s : St) (hu : US s b p ss) : WC T X 87 [.ptr b 0, .agg (tyc (.mk 5 l v [x0, r0])), .agg (tyc b0)] s (fun v s' => v = .int .i64 0 ∧ Keep s s') := by
  refine WC_fn cf87 (hX 87 (by decide)) T87 (by simp [cf87]) ?_
  have htl := fun S => tail_law hX (p := p) (b := b) (RowOk.ext l v x r hro) (.con _ 5 l v [x0, r0] [x, r] (.con _ (by simp [kof])) (by decide) (.cons _ _ _ _ hx0 (.cons _ _ _ _ hr0 .nil))) S
  have hex := fun (S : St) (no : Int) => extr_law hX (p := p) (b := b) hB b0 hb0 no S
  rw [row_c] at htl ⊢
  rw [tyc_w b0, tyw] at hex ⊢
  have hk1 := ((((Keep.refl s).new' (.cells [.int .i64 5, .str l, .int .i64 v, .sl [.int .i64 (kof x0), .str (nof x0), .int .i64 (vof x0), .sl (tycs (lof x0)) (lof x0).length false none, .int .i64 (kof r0), .str (nof r0), .int .i64 (vof r0), .sl (tycs (lof r0)) (lof r0).length false none] 2 false none])).new' (.cells [.int .i64 (kof b0), .str (nof b0), .int .i64 (vof b0), .sl (tycs (lof b0)) (lof b0).length false none])).new' (.cells [.int .i64 0, .str ⟨#[]⟩, .int .i64 0, .nils])).new' (.cells [.int .i64 0, .str ⟨#[]⟩, .int .i64 0, .nils])
  simp only [cf87, go_sem, ↓reduceIte, reduceCtorEq, Nat.reduceEqDiff, Nat.reduceAdd, Nat.reduceSub, Nat.reduceMul, Nat.reduceLeDiff, Nat.reduceLT, loadA, rdCells, storeA, setAt, binA]
  refine W_dreg ?_
  simp only [wt_ops, stpT, Tr, ia0, ia1, wt_nil, chk1, avr, ne_a hu.2.2.1, ne_b hu.2.2.1, ne_c hu.2.2.1, ne_d hu.2.2.1, ne_e hu.2.2.1, ne_f hu.2.2.1, Bool.or_true, Nat.le_add_left, go_sem, ↓reduceIte, reduceCtorEq, Nat.reduceEqDiff, Nat.reduceAdd, Nat.reduceSub, Nat.reduceMul, Nat.reduceLeDiff, Nat.reduceLT, loadA, rdCells, storeA, setAt, binA]
  refine WT_callx _ rfl ((htl _ (hu.keep hk1)).mono ?_)
  rintro w2 S2 ⟨⟨z, rfl⟩, hk2⟩
  have hz2 := hk2.1
  simp only [St.new, St.put] at hz2
  have a1 := hk2.2 s.size (by simp only [St.new]; omega)
  have a2 := hk2.2 (s.size + 1) (by simp only [St.new]; omega)
  have a3 := hk2.2 (s.size + 1 + 1) (by simp only [St.new]; omega)
  have a4 := hk2.2 (s.size + 1 + 1 + 1) (by simp only [St.new]; omega)
  simp only [go_sem, ↓reduceIte, reduceCtorEq, Nat.reduceEqDiff, Nat.reduceAdd, Nat.reduceSub, Nat.reduceMul, Nat.reduceLeDiff, Nat.reduceLT, loadA, rdCells, storeA, setAt, binA] at a1 a2 a3 a4
  refine WT_callx _ rfl ((hex _ z (hu.keep (hk1.trans hk2))).mono ?_)
  rintro w3 S3 ⟨t3, r3, rfl, ht3, hr3, hk3⟩
  have hz3 := hk3.1
  have b1 := (hk3.2 s.size (by omega)).trans a1
  have b2 := (hk3.2 (s.size + 1) (by omega)).trans a2
  have b3 := (hk3.2 (s.size + 1 + 1) (by omega)).trans a3
  have b4 := (hk3.2 (s.size + 1 + 1 + 1) (by omega)).trans a4
  rw [tyc_w t3, tyc_w r3, tyw, tyw]
  simp only [wt_ops, stpT, Tr, a1, a2, b1, b2, b3, b4, ia0, ia1, wt_alloc, wt_nil, chk1, avr, ne_a hu.2.2.1, ne_b hu.2.2.1, ne_c hu.2.2.1, ne_d hu.2.2.1, ne_e hu.2.2.1, ne_f hu.2.2.1, Bool.or_true, Nat.le_add_left, go_sem, ↓reduceIte, reduceCtorEq, Nat.reduceEqDiff, Nat.reduceAdd, Nat.reduceSub, Nat.reduceMul, Nat.reduceLeDiff, Nat.reduceLT, loadA, rdCells, storeA, setAt, binA]
  have d0 : ((0 : Int) != 0) = false := rfl
  simp only [d0, b1, b2, b3, b4, ia0, ia1, Nat.le_add_left, go_sem, ↓reduceIte, reduceCtorEq, Nat.reduceEqDiff, Nat.reduceAdd, Nat.reduceSub, Nat.reduceMul, Nat.reduceLeDiff, Nat.reduceLT, loadA, rdCells, storeA, setAt, binA]
  have hkA : Keep s ((S3.put (s.size + 1 + 1) (some (.cells [.int .i64 (kof t3), .str (nof t3), .int .i64 (vof t3), .sl (tycs (lof t3)) (lof t3).length false none]))).put (s.size + 1 + 1 + 1) (some (.cells [.int .i64 (kof r3), .str (nof r3), .int .i64 (vof r3), .sl (tycs (lof r3)) (lof r3).length false none]))) := (((hk1.trans hk2).trans hk3).put' (by omega) _).put' (by omega) _
  have hc1 := h1 x0 t3 hx0 ht3 _ (hu.keep hkA)
  rw [tyc_w x0, tyc_w t3, tyw, tyw] at hc1
  refine WR_callx _ rfl (hc1.mono ?_)
  rintro w4 S4 ⟨rfl, hk4⟩
  have hz4 := hk4.1
  simp only [St.put] at hz4
  have c1 := hk4.2 s.size (by simp only [St.put]; omega)
  have c2 := hk4.2 (s.size + 1) (by simp only [St.put]; omega)
  have c4 := hk4.2 (s.size + 1 + 1 + 1) (by simp only [St.put]; omega)
  simp only [b1, b2, b4, go_sem, ↓reduceIte, reduceCtorEq, Nat.reduceEqDiff, Nat.reduceAdd, Nat.reduceSub, Nat.reduceMul, Nat.reduceLeDiff, Nat.reduceLT, loadA, rdCells, storeA, setAt, binA] at c1 c2 c4
  simp only [d0, c1, c2, c4, ia0, ia1, Nat.le_add_left, go_sem, ↓reduceIte, reduceCtorEq, Nat.reduceEqDiff, Nat.reduceAdd, Nat.reduceSub, Nat.reduceMul, Nat.reduceLeDiff, Nat.reduceLT, loadA, rdCells, storeA, setAt, binA]
  have hc2 := h2 r0 r3 hr0 hr3 _ (hu.keep (hkA.trans hk4))
  rw [tyc_w r0, tyc_w r3, tyw, tyw] at hc2
  refine WR_callx _ rfl (hc2.mono ?_)
  rintro w5 S5 ⟨rfl, hk5⟩
  simp only [go_sem, ↓reduceIte, reduceCtorEq, Nat.reduceEqDiff, Nat.reduceAdd, Nat.reduceSub, Nat.reduceMul, Nat.reduceLeDiff, Nat.reduceLT, loadA, rdCells, storeA, setAt, binA]
  exact ⟨by simp, _, rfl, rfl, (hkA.trans hk4).trans hk5⟩

theorem eqvs_len : ∀ {l l' : List Tm}, Eqvs l l' → l'.length = l.length
  | [], _, h => by cases h; rfl
  | a :: l, _, h => by cases h with | cons _ b _ l' h hs => simp [eqvs_len hs]
theorem eqvs_at : ∀ {l l' : List Tm}, Eqvs l l' → ∀ {i : Nat} {a : Tm}, l[i]? = some a → ∃ b, l'[i]? = some b ∧ Eqv a b
  | [], _, h, i, a, hi => by simp at hi
  | x :: l, _, h, i, a, hi => by
    cases h with
    | cons _ b _ l' h hs =>
      cases i with
      | zero => simp at hi; subst hi; exact ⟨b, by simp, h⟩
      | succ i => obtain ⟨B, h1, h2⟩ := eqvs_at hs (i := i) (by simpa using hi); exact ⟨B, by simpa using h1, h2⟩
theorem tsz2 (k : Int) (l : ByteArray) (v : Int) (x r : Tm) : tsz (.mk k l v [x, r]) = 1 + (tsz x + tsz r) := by rw [tsz, tszs, tszs, tszs]; omega
theorem eqv_row : ∀ (n : Nat) (A B : Tm), tsz A ≤ n → Eqv A B → RowOk A := by
  intro n
  induction n with
  | zero => intro A B h; have := tsz_pos A; omega
  | succ n ih =>
    intro A B hn h
    cases h with
    | var A B ha hb h => exact .nr _ (by omega)
    | row l v x r B t rest h hx hr => rw [tsz2] at hn; exact .ext _ _ _ _ (ih r rest (by have := tsz_pos x; omega) hr)
    | app k n n' v v' l l' h0 h5 hn hs => exact .nr _ h5
theorem extr_kind {l : ByteArray} {B t r : Tm} (h : Extr l B t r) : kof B = 5 := by cases h <;> rfl

set_option maxHeartbeats 8000000 in
theorem unify_law (hX : NoX X) {ss : List Tm} {b p : Nat} : ∀ (n : Nat) (A B : Tm), tsz A ≤ n → n ≤ 1099511627776 → Eqv A B → Uns X ss b p A B := by
  intro n
  induction n with
  | zero => intro A B h; have := tsz_pos A; omega
  | succ n ih =>
    intro A B hn hnb h a0 b0 ha0 hb0 s hu
    refine WC_fn cf69 (hX 69 (by decide)) T69 (by simp [cf69]) ?_
    obtain ⟨a1, hwa, ha1, ha2, ha3, ha4, ha5⟩ := sub_walk ha0
    obtain ⟨b1, hwb, hb1, hb2, hb3, hb4, hb5⟩ := sub_walk hb0
    have hla := fun S (hk : Keep s S) => walk_law hX hwa S (hu.keep hk).rd
    have hlb := fun S (hk : Keep s S) => walk_law hX hwb S (hu.keep hk).rd
    have hk1 := (((Keep.refl s).new' (.cells (tyc a0))).new' (.cells (tyc b0)))
    rw [tyc_w a0, tyw, tyc_w a1, tyw] at hla
    rw [tyc_w b0, tyw, tyc_w b1, tyw] at hlb
    rw [tyc_w a0, tyw, tyc_w b0, tyw] at hk1 ⊢
    simp only [cf69, go_sem, ↓reduceIte, reduceCtorEq, Nat.reduceEqDiff, Nat.reduceAdd, Nat.reduceSub, Nat.reduceMul, Nat.reduceLeDiff, Nat.reduceLT, loadA, rdCells, storeA, setAt, binA]
    refine W_dreg ?_
    simp only [wt_ops, stpT, Tr, hu.1, wt_alloc, wt_nil, chk1, avr, ne_a hu.2.2.1, ne_b hu.2.2.1, ne_c hu.2.2.1, ne_d hu.2.2.1, ne_e hu.2.2.1, ne_f hu.2.2.1, Bool.or_true, Nat.le_add_left, go_sem, ↓reduceIte, reduceCtorEq, Nat.reduceEqDiff, Nat.reduceAdd, Nat.reduceSub, Nat.reduceMul, Nat.reduceLeDiff, Nat.reduceLT, loadA, rdCells, storeA, setAt, binA]
    refine WT_callx _ rfl ((hla _ hk1).mono ?_)
    rintro w2 S2 ⟨rfl, hk2⟩
    have hz2 := hk2.1
    simp only [St.new] at hz2
    have e1 := hk2.2 s.size (by simp only [St.new]; omega)
    have e2 := hk2.2 (s.size + 1) (by simp only [St.new]; omega)
    simp only [go_sem, ↓reduceIte, reduceCtorEq, Nat.reduceEqDiff, Nat.reduceAdd, Nat.reduceSub, Nat.reduceMul, Nat.reduceLeDiff, Nat.reduceLT, loadA, rdCells, storeA, setAt, binA] at e1 e2
    have hu2 := hu.keep (hk1.trans hk2)
    simp only [wt_ops, stpT, Tr, hu.1, hu2.1, e1, e2, wt_alloc, wt_nil, chk1, avr, ne_a hu.2.2.1, ne_b hu.2.2.1, ne_c hu.2.2.1, ne_d hu.2.2.1, ne_e hu.2.2.1, ne_f hu.2.2.1, Bool.or_true, Nat.le_add_left, go_sem, ↓reduceIte, reduceCtorEq, Nat.reduceEqDiff, Nat.reduceAdd, Nat.reduceSub, Nat.reduceMul, Nat.reduceLeDiff, Nat.reduceLT, loadA, rdCells, storeA, setAt, binA]
    refine WT_callx _ rfl ((hlb _ (hk1.trans hk2)).mono ?_)
    rintro w3 S3 ⟨rfl, hk3⟩
    have hz3 := hk3.1
    have f1 := (hk3.2 s.size (by omega)).trans e1
    have f2 := (hk3.2 (s.size + 1) (by omega)).trans e2
    simp only [wt_ops, stpT, Tr, hu.1, hu2.1, e1, e2, f1, f2, wt_alloc, wt_nil, chk1, avr, ne_a hu.2.2.1, ne_b hu.2.2.1, ne_c hu.2.2.1, ne_d hu.2.2.1, ne_e hu.2.2.1, ne_f hu.2.2.1, Bool.or_true, Nat.le_add_left, go_sem, ↓reduceIte, reduceCtorEq, Nat.reduceEqDiff, Nat.reduceAdd, Nat.reduceSub, Nat.reduceMul, Nat.reduceLeDiff, Nat.reduceLT, loadA, rdCells, storeA, setAt, binA]
    have hkA : Keep s S3 := (hk1.trans hk2).trans hk3
    have hkB := ((hkA.put' (Nat.le_refl s.size) (some (.cells [.int .i64 (kof a1), .str (nof a1), .int .i64 (vof a1), .sl (tycs (lof a1)) (lof a1).length false none]))).put' (by omega : s.size ≤ s.size + 1) (some (.cells [.int .i64 (kof b1), .str (nof b1), .int .i64 (vof b1), .sl (tycs (lof b1)) (lof b1).length false none])))
    cases h with
    | var A B hA hB hv =>
      have z1 : (kof a1 == 0) = true := by rw [ha1, hA]; rfl
      have hbs := fun S => bind_same hX b1 (by rw [hb1, hB]) b S
      rw [tyc_w b1, tyw, show vof b1 = vof a1 by rw [hb3, ha3, hv]] at hbs
      rw [show vof b1 = vof a1 by rw [hb3, ha3, hv]]
      simp only [z1, f1, f2, Nat.le_add_left, go_sem, ↓reduceIte, reduceCtorEq, Nat.reduceEqDiff, Nat.reduceAdd, Nat.reduceSub, Nat.reduceMul, Nat.reduceLeDiff, Nat.reduceLT, loadA, rdCells, storeA, setAt, binA]
      refine WO_callx _ rfl ((hbs _).mono ?_)
      rintro w4 S4 ⟨rfl, hk4⟩
      simp only [go_sem, ↓reduceIte, reduceCtorEq, Nat.reduceEqDiff, Nat.reduceAdd, Nat.reduceSub, Nat.reduceMul, Nat.reduceLeDiff, Nat.reduceLT, loadA, rdCells, storeA, setAt, binA]
      rw [show vof b1 = vof a1 by rw [hb3, ha3, hv]] at hkB
      exact ⟨by simp, _, rfl, rfl, hkB.trans hk4⟩
    | row l v x r B t rest hE hx hr =>
      have hkb5 := extr_kind hE
      have hs4 := ha4 (by simp [kof])
      obtain ⟨k1, n1, v1, l1⟩ := a1
      simp only [kof, nof, vof, lof] at ha1 ha2 ha3 hs4
      subst ha1 ha2 ha3
      cases hs4 with
      | cons x0 _ l1 _ hx0 hs1 =>
      cases hs1 with
      | cons r0 _ l2 _ hr0 hs2 =>
      cases hs2
      have z1 : ((5 : Int) == 0) = false := rfl
      have z2 : (kof b1 == 0) = false := by rw [hb1, hkb5]; rfl
      have z3 : ((5 : Int) == 5) = true := rfl
      have z4 : decide (kof b1 ≥ 4) = true := by rw [hb1, hkb5]; rfl
      have hsz := tsz2 5 n1 v1 x r
      have hp1 := tsz_pos x
      have hp2 := tsz_pos r
      have hself : Sub ss b1 B := by
        have hk := hb4 (by omega)
        obtain ⟨kb, nb, vb, lb⟩ := b1
        obtain ⟨kB, nB, vB, lB⟩ := B
        simp only [kof, nof, vof, lof] at hb1 hb2 hb3 hk hkb5
        subst hb1 hb2 hb3
        exact .con _ _ _ _ _ _ (.con _ (by simp only [kof]; omega)) (by omega) hk
      have hrw := rows_law hX (v := v1) hE hx0 hr0 hself (eqv_row _ _ _ (Nat.le_refl _) hr) (ih x t (by omega) (by omega) hx) (ih r rest (by omega) (by omega) hr) _ (hu.keep hkB)
      rw [row_c, tyc_w b1, tyw] at hrw
      simp only [kof_mk, nof_mk, vof_mk, lof_mk, tycs, List.append_nil, tyc_w x0, tyc_w r0, tyw, List.length_cons, List.length_nil, List.cons_append, List.nil_append, Nat.zero_add, Nat.reduceAdd] at hrw hkB ⊢
      simp only [z1, z2, z3, z4, f1, f2, Nat.le_add_left, go_sem, ↓reduceIte, reduceCtorEq, Nat.reduceEqDiff, Nat.reduceAdd, Nat.reduceSub, Nat.reduceMul, Nat.reduceLeDiff, Nat.reduceLT, loadA, rdCells, storeA, setAt, binA]
      refine WO_callx _ rfl (hrw.mono ?_)
      rintro w4 S4 ⟨rfl, hk4⟩
      simp only [go_sem, ↓reduceIte, reduceCtorEq, Nat.reduceEqDiff, Nat.reduceAdd, Nat.reduceSub, Nat.reduceMul, Nat.reduceLeDiff, Nat.reduceLT, loadA, rdCells, storeA, setAt, binA]
      exact ⟨by simp, _, rfl, rfl, hkB.trans hk4⟩
    | app k n n' v v' l l' h0 h5 hnn hs =>
      simp only [kof_mk, nof_mk, vof_mk, lof_mk] at ha1 ha2 ha3 ha4 hb1 hb2 hb3 hb4
      have hsa := ha4 h0
      have hsb := hb4 h0
      have z1 : (kof a1 == 0) = false := by rw [ha1]; simpa using h0
      have z2 : (kof b1 == 0) = false := by rw [hb1]; simpa using h0
      have z3 : (kof a1 == 5) = false := by rw [ha1]; simpa using h5
      have z4 : (kof a1 != kof b1) = false := by rw [ha1, hb1]; simp
      have z5 : ((nof a1).toList == (nof b1).toList) = true := by rw [ha2, hb2]; exact hnn
      have l1 := subs_len hsa
      have l2 := subs_len hsb
      have l3 := eqvs_len hs
      have z6 : (((lof a1).length : Int) != ((lof b1).length : Int)) = false := by simp; omega
      have lsl : ∀ (cs : List AV) (m : Nat) (f : Bool) (tk : Option Nat), lenA (.sl cs m f tk) = some (.int .i64 m) := fun _ _ _ _ => rfl
      simp only [z1, z2, z3, z4, z5, z6, f1, f2, lsl, Nat.le_add_left, go_sem, ↓reduceIte, reduceCtorEq, Nat.reduceEqDiff, Nat.reduceAdd, Nat.reduceSub, Nat.reduceMul, Nat.reduceLeDiff, Nat.reduceLT, loadA, rdCells, storeA, setAt, binA]
      have hll := len_tszs l
      rw [tsz] at hn
      refine W_loop_nat (fun kk e S => ∃ (i : Nat), i + kk = (lof a1).length ∧ e 0 = .ptr b 0 ∧ e 4 = .ptr s.size 0 ∧ e 5 = .ptr (s.size + 1) 0 ∧ e 76 = .int .i64 (lof a1).length ∧ e 77 = .int .i64 i ∧ S.obj s.size = some (.cells [.int .i64 (kof a1), .str (nof a1), .int .i64 (vof a1), .sl (tycs (lof a1)) (lof a1).length false none]) ∧ S.obj (s.size + 1) = some (.cells [.int .i64 (kof b1), .str (nof b1), .int .i64 (vof b1), .sl (tycs (lof b1)) (lof b1).length false none]) ∧ s.size + 1 < S.size ∧ Keep s S) ?_ (lof a1).length _ _
        ⟨0, by simp, ?_, ?_, ?_, ?_, ?_, by rw [put_ne (by omega), put_eq], by rw [put_eq], by simp only [St.put]; omega, hkB⟩
      · rintro kk e S ⟨i, hik, i0, i4, i5, i76, i77, hoa, hob, hz, hkp⟩
        by_cases hi : i < (lof a1).length
        · have hd : decide ((i : Int) < ((lof a1).length : Int)) = true := by simp; omega
          obtain ⟨ai, hai⟩ : ∃ x, (lof a1)[i]? = some x := ⟨_, List.getElem?_eq_getElem hi⟩
          obtain ⟨bi, hbi⟩ : ∃ x, (lof b1)[i]? = some x := ⟨_, List.getElem?_eq_getElem (by omega)⟩
          obtain ⟨Ai, hAi, hsA⟩ := subs_at hsa hai
          obtain ⟨Bi, hBi, hsB⟩ := subs_at hsb hbi
          obtain ⟨Bi', hBi', hev⟩ := eqvs_at hs hAi
          obtain rfl : Bi' = Bi := by rw [hBi] at hBi'; cases hBi'; rfl
          have hta := tsz_at hAi
          have hat := (isl_tycs (lof a1)).at tyc_len hai
          have hbt := (isl_tycs (lof b1)).at tyc_len hbi
          have hcl := ih Ai Bi' (by omega) (by omega) hev ai bi hsA hsB S (hu.keep hkp)
          rw [tyc_w ai, tyw] at hat
          rw [tyc_w bi, tyw] at hbt
          rw [tyc_w ai, tyc_w bi, tyw, tyw] at hcl
          simp only [cf69_l0, i0, i4, i5, i76, i77, hd, hoa, hob, hat, hbt, Nat.le_add_left, go_sem, ↓reduceIte, reduceCtorEq, Nat.reduceEqDiff, Nat.reduceAdd, Nat.reduceSub, Nat.reduceMul, Nat.reduceLeDiff, Nat.reduceLT, loadA, rdCells, storeA, setAt, binA]
          refine WR_callx _ rfl (hcl.mono ?_)
          rintro w4 S4 ⟨rfl, hk4⟩
          have d0 : ((0 : Int) != 0) = false := rfl
          simp only [i0, i4, i5, i76, i77, d0, wrapn (n := i) (by omega), go_sem, ↓reduceIte, reduceCtorEq, Nat.reduceEqDiff, Nat.reduceAdd, Nat.reduceSub, Nat.reduceMul, Nat.reduceLeDiff, Nat.reduceLT, loadA, rdCells, storeA, setAt, binA]
          exact ⟨kk - 1, by omega, i + 1, by omega, rfl, hk4.obj (by omega) hoa, hk4.obj (by omega) hob, hk4.lt hz, hkp.trans hk4⟩
        · have hd : decide ((i : Int) < ((lof a1).length : Int)) = false := by simp; omega
          simp only [cf69_l0, i0, i4, i5, i76, i77, hd, go_sem, ↓reduceIte, reduceCtorEq, Nat.reduceEqDiff, Nat.reduceAdd, Nat.reduceSub, Nat.reduceMul, Nat.reduceLeDiff, Nat.reduceLT, loadA, rdCells, storeA, setAt, binA]
          exact ⟨by simp, _, rfl, rfl, hkp⟩
      · simp only [go_sem, ↓reduceIte, reduceCtorEq, Nat.reduceEqDiff, Nat.reduceAdd, Nat.reduceSub, Nat.reduceMul, Nat.reduceLeDiff, Nat.reduceLT, loadA, rdCells, storeA, setAt, binA]
      · simp only [go_sem, ↓reduceIte, reduceCtorEq, Nat.reduceEqDiff, Nat.reduceAdd, Nat.reduceSub, Nat.reduceMul, Nat.reduceLeDiff, Nat.reduceLT, loadA, rdCells, storeA, setAt, binA]
      · simp only [go_sem, ↓reduceIte, reduceCtorEq, Nat.reduceEqDiff, Nat.reduceAdd, Nat.reduceSub, Nat.reduceMul, Nat.reduceLeDiff, Nat.reduceLT, loadA, rdCells, storeA, setAt, binA]
      · simp only [go_sem, ↓reduceIte, reduceCtorEq, Nat.reduceEqDiff, Nat.reduceAdd, Nat.reduceSub, Nat.reduceMul, Nat.reduceLeDiff, Nat.reduceLT, loadA, rdCells, storeA, setAt, binA]
      · simp only [go_sem, ↓reduceIte, reduceCtorEq, Nat.reduceEqDiff, Nat.reduceAdd, Nat.reduceSub, Nat.reduceMul, Nat.reduceLeDiff, Nat.reduceLT, loadA, rdCells, storeA, setAt, binA]; rfl
end Go.Am.U1
