/- A part of the proof of unifyInstances. Conditions: none. -/
import Derived.Test.YtfleakoephmgaaaDoorUnG
set_option linter.unusedSimpArgs false
set_option linter.unusedVariables false
namespace Go.Am.U1
open Go.Am.Un
set_option maxRecDepth 100000
set_option linter.unusedSimpArgs false
attribute [local go_sem] wseq COp.isStore wreg wdreg wret wskip wexit wblock wcnd cnd_t cnd_f then_n then_x then_r catch_n rnd_n rnd_x rnd_r catch_x catch_r wo_nil wo_grd grdO_t grdO_f wo_ops stpO wr_nil wr_alloc wr_guards grdR_t grdR_f wr_ops stpR evAllocs evOp env0_app eput_some eput_none eset_app Opd.ev wantedA faddrA snew_obj snew_size sput_obj sput_size av_cells av_one av_strip av_still unA eqbA fillA fldA lensA mmA mm2 mmFold List.getD_cons_zero List.getD_cons_succ List.getD_nil List.length_cons List.length_nil List.drop_zero List.drop_succ_cons List.take_succ_cons List.take_zero List.map_cons List.map_nil List.set_cons_zero List.set_cons_succ List.all_cons List.all_nil List.getElem?_cons_zero List.getElem?_cons_succ List.nil_append List.cons_append Nat.zero_add Nat.add_zero beq_self_eq_true bt bf Bool.not_true Bool.not_false Bool.and_true Bool.true_and Bool.and_false Bool.false_and and_self and_true true_and n0 n1 n2 n3 n4 m0 m1 m2 m3 c1 retA resAs resA undefA Option.map_some Option.map_none
variable {X : Ext}

/-- What a variable leads to. -/
inductive WalkTo (ss : List Tm) : Tm → Tm → Prop
  | con (t : Tm) (h : kof t ≠ 0) : WalkTo ss t t
  | self (t u : Tm) (i : Nat) (h : kof t = 0) (hv : vof t = i) (hi : ss[i]? = some u) (hu : kof u = 0) (hw : vof u = vof t) : WalkTo ss t t
  | step (t u t' : Tm) (i : Nat) (h : kof t = 0) (hv : vof t = i) (hi : ss[i]? = some u) (hn : ¬ (kof u = 0 ∧ vof u = vof t)) (hr : WalkTo ss u t') : WalkTo ss t t'

/-- A value that reads as this list. -/
def RdS (sv : AV) (ss : List Tm) (s : St) : Prop := ISl tyc sv ss ∨ ∃ p, sv = .msl p 0 ss.length 4 ∧ s.obj p = some (.cells (ss.flatMap tyc)) ∧ p < s.size
theorem RdS.keep {sv : AV} {ss : List Tm} {s s' : St} (h : RdS sv ss s) (hk : Keep s s') : RdS sv ss s' := by
  rcases h with h | ⟨p, h1, h2, h3⟩
  · exact Or.inl h
  · exact Or.inr ⟨p, h1, hk.obj h3 h2, hk.lt h3⟩
theorem RdS.len {sv : AV} {ss : List Tm} {s : St} (h : RdS sv ss s) : lenA sv = some (.int .i64 ss.length) := by
  rcases h with h | ⟨p, rfl, h2, h3⟩
  · exact h.len
  · rfl
theorem RdS.cells {sv : AV} {ss : List Tm} {s : St} (h : RdS sv ss s) : sv.cells = [sv] := by
  rcases h with (⟨rfl, -⟩ | ⟨f, t, rfl⟩) | ⟨p, rfl, h2, h3⟩ <;> rfl
theorem RdS.at {sv : AV} {ss : List Tm} {s : St} (h : RdS sv ss s) {i : Nat} {x : Tm} (hi : ss[i]? = some x) :
    (∃ r, iaddrA 4 sv (.int .i64 i) = some (.eptr (.int .i64 (kof x) :: .str (nof x) :: .int .i64 (vof x) :: .sl (tycs (lof x)) (lof x).length false none :: r))) ∨
    ∃ p L, iaddrA 4 sv (.int .i64 i) = some (.ptr p (i * 4)) ∧ s.obj p = some (.cells L) ∧ p < s.size ∧ (i * 4 + 4 ≤ L.length) = True ∧ List.take 4 (List.drop (i * 4) L) = [.int .i64 (kof x), .str (nof x), .int .i64 (vof x), .sl (tycs (lof x)) (lof x).length false none] := by
  rcases h with h | ⟨p, rfl, h2, h3⟩
  · have := h.at tyc_len hi
    rw [tyc_w, tyw] at this
    exact Or.inl ⟨_, this⟩
  · have hlt := (List.getElem?_eq_some_iff.1 hi).1
    refine Or.inr ⟨p, _, ?_, h2, h3, eq_true (flat_le tyc_len hi 4 (Nat.le_refl _)), ?_⟩
    · simp only [iaddrA]
      rw [if_pos (by exact ⟨by omega, by omega, trivial⟩), Int.toNat_natCast]; simp
    · have hr := flat_row tyc_len hi
      rw [hr, tyc_w, tyw]

theorem W_loop_eq {b L : CC} (hL : CC.loop b = L) {e : Env} {s : St} {Q : CX → Env → St → Prop} (h : W T X b e s (Then T X L Q)) : W T X L e s Q := by
  subst hL; exact W_loop h

set_option maxHeartbeats 1000000 in
theorem walk_loop {sv : AV} {ss : List Tm} : ∀ (t t' : Tm), WalkTo ss t t' → ∀ (e : Env) (S S0 : St) (q : Nat), RdS sv ss S0 → S0.size ≤ q → Keep S0 S → e 0 = sv → e 3 = .ptr q 0 → S.obj q = some (.cells (tyc t)) → q < S.size →
    W T X (.loop cf57_l0) e S (fun x e' S' => x = .exit 0 ∧ e' 3 = .ptr q 0 ∧ e' 4 = e 4 ∧ S'.obj q = some (.cells (tyc t')) ∧ KeepBut q S S') := by
  intro t t' h
  induction h with
  | con t h =>
    intro e S S0 q hs hq0 hk e0 e3 ho hq
    rw [tyc_w, tyw] at ho
    have hk0 : (kof t == 0) = false := by simpa using h
    refine W_loop ?_
    simp only [cf57_l0, e0, e3, ho, hk0, Nat.le_add_left, go_sem, ↓reduceIte, reduceCtorEq, Nat.reduceEqDiff, Nat.reduceAdd, Nat.reduceSub, Nat.reduceMul, Nat.reduceLeDiff, Nat.reduceLT, loadA, rdCells, storeA, setAt, binA]
    exact ⟨by rw [tyc_w, tyw], ⟨Nat.le_refl _, fun _ _ _ => rfl⟩⟩
  | self t u i h hv hi hu hw =>
    intro e S S0 q hs hq0 hk e0 e3 ho hq
    have hl := hs.len
    have hlt := (List.getElem?_eq_some_iff.1 hi).1
    rw [tyc_w, tyw, h, hv] at ho
    have hd : decide ((i : Int) < (ss.length : Int)) = true := by simp; omega
    refine W_loop ?_
    generalize hL : CC.loop cf57_l0 = L
    rcases hs.at hi with ⟨r, hat⟩ | ⟨p, L, hat, hop, hpz, hle, htk⟩
    · rw [hu, hw, hv] at hat
      simp only [cf57_l0, e0, e3, ho, hl, hd, hat, ne_a hq, ne_b hq, Nat.le_add_left, go_sem, ↓reduceIte, reduceCtorEq, Nat.reduceEqDiff, Nat.reduceAdd, Nat.reduceSub, Nat.reduceMul, Nat.reduceLeDiff, Nat.reduceLT, loadA, rdCells, storeA, setAt, binA]
      exact ⟨by rw [tyc_w, tyw, h, hv], ⟨by simp [St.new, St.put], fun j hj _ => by rw [put_ne (by omega), new_ne (by omega)]⟩⟩
    · rw [hu, hw, hv] at htk
      simp only [cf57_l0, e0, e3, ho, hl, hd, hat, hk.obj hpz hop, hle, htk, ne_a hq, ne_b hq, Nat.le_add_left, go_sem, ↓reduceIte, reduceCtorEq, Nat.reduceEqDiff, Nat.reduceAdd, Nat.reduceSub, Nat.reduceMul, Nat.reduceLeDiff, Nat.reduceLT, loadA, rdCells, storeA, setAt, binA]
      exact ⟨by rw [tyc_w, tyw, h, hv], ⟨by simp [St.new, St.put], fun j hj _ => by rw [put_ne (by omega), new_ne (by omega)]⟩⟩
  | step t u t' i h hv hi hn hr ih =>
    intro e S S0 q hs hq0 hk e0 e3 ho hq
    have hl := hs.len
    have hlt := (List.getElem?_eq_some_iff.1 hi).1
    rw [tyc_w, tyw, h, hv] at ho
    have hd : decide ((i : Int) < (ss.length : Int)) = true := by simp; omega
    have fin : ∀ (e1 : Env) (S1 : St), S1 = ((S.new (.cells [.int .i64 0, .str ⟨#[]⟩, .int .i64 0, .nils])).put S.size (some (.cells [.int .i64 (kof u), .str (nof u), .int .i64 (vof u), .sl (tycs (lof u)) (lof u).length false none]))).put q (some (.cells [.int .i64 (kof u), .str (nof u), .int .i64 (vof u), .sl (tycs (lof u)) (lof u).length false none])) →
        e1 0 = sv → e1 3 = .ptr q 0 → e1 4 = e 4 →
        W T X (.loop cf57_l0) e1 S1 (fun x e' S' => x = .exit 0 ∧ e' 3 = .ptr q 0 ∧ e' 4 = e 4 ∧ S'.obj q = some (.cells (tyc t')) ∧ KeepBut q S S') := by
      rintro e1 S1 rfl h0 h3 h4
      refine (ih e1 _ S0 q hs hq0 ((((hk.new' _).put' (Nat.le_of_lt (Nat.lt_of_le_of_lt hq0 hq)) _).put' hq0 _)) h0 h3 (by rw [put_eq, tyc_w, tyw]) (by simp only [St.new, St.put]; omega)).mono ?_
      rintro x e' S' ⟨a1, a2, a3, a4, a5⟩
      refine ⟨a1, a2, a3.trans h4, a4, ?_⟩
      refine KeepBut.trans ⟨?_, fun j hj hn => ?_⟩ a5
      · simp only [St.new, St.put]; omega
      · rw [put_ne hn, put_ne (by omega), new_ne (by omega)]
    generalize hL : CC.loop cf57_l0 = L at fin ⊢
    refine W_loop_eq hL ?_
    rcases hs.at hi with ⟨r, hat⟩ | ⟨p, L2, hat, hop, hpz, hle, htk⟩
    · by_cases hku : kof u = 0
      · have hvu : (vof u == (i : Int)) = false := by
          have : vof u ≠ i := fun h => hn ⟨hku, by rw [hv]; exact h⟩
          simpa using this
        rw [hku] at hat fin
        simp only [cf57_l0, e0, e3, ho, hl, hd, hat, hvu, ne_a hq, ne_b hq, Nat.le_add_left, go_sem, ↓reduceIte, reduceCtorEq, Nat.reduceEqDiff, Nat.reduceAdd, Nat.reduceSub, Nat.reduceMul, Nat.reduceLeDiff, Nat.reduceLT, loadA, rdCells, storeA, setAt, binA]
        exact fin _ _ rfl (by simp only [e0, go_sem, ↓reduceIte, reduceCtorEq, Nat.reduceEqDiff, Nat.reduceAdd, Nat.reduceSub, Nat.reduceMul, Nat.reduceLeDiff, Nat.reduceLT, loadA, rdCells, storeA, setAt, binA]) (by simp only [e3, go_sem, ↓reduceIte, reduceCtorEq, Nat.reduceEqDiff, Nat.reduceAdd, Nat.reduceSub, Nat.reduceMul, Nat.reduceLeDiff, Nat.reduceLT, loadA, rdCells, storeA, setAt, binA]) (by simp only [go_sem, ↓reduceIte, reduceCtorEq, Nat.reduceEqDiff, Nat.reduceAdd, Nat.reduceSub, Nat.reduceMul, Nat.reduceLeDiff, Nat.reduceLT, loadA, rdCells, storeA, setAt, binA])
      · have hku0 : (kof u == 0) = false := by simpa using hku
        simp only [cf57_l0, e0, e3, ho, hl, hd, hat, hku0, ne_a hq, ne_b hq, Nat.le_add_left, go_sem, ↓reduceIte, reduceCtorEq, Nat.reduceEqDiff, Nat.reduceAdd, Nat.reduceSub, Nat.reduceMul, Nat.reduceLeDiff, Nat.reduceLT, loadA, rdCells, storeA, setAt, binA]
        exact fin _ _ rfl (by simp only [e0, go_sem, ↓reduceIte, reduceCtorEq, Nat.reduceEqDiff, Nat.reduceAdd, Nat.reduceSub, Nat.reduceMul, Nat.reduceLeDiff, Nat.reduceLT, loadA, rdCells, storeA, setAt, binA]) (by simp only [e3, go_sem, ↓reduceIte, reduceCtorEq, Nat.reduceEqDiff, Nat.reduceAdd, Nat.reduceSub, Nat.reduceMul, Nat.reduceLeDiff, Nat.reduceLT, loadA, rdCells, storeA, setAt, binA]) (by simp only [go_sem, ↓reduceIte, reduceCtorEq, Nat.reduceEqDiff, Nat.reduceAdd, Nat.reduceSub, Nat.reduceMul, Nat.reduceLeDiff, Nat.reduceLT, loadA, rdCells, storeA, setAt, binA])
    · by_cases hku : kof u = 0
      · have hvu : (vof u == (i : Int)) = false := by
          have : vof u ≠ i := fun h => hn ⟨hku, by rw [hv]; exact h⟩
          simpa using this
        rw [hku] at htk fin
        simp only [cf57_l0, e0, e3, ho, hl, hd, hat, hvu, hk.obj hpz hop, hle, htk, ne_a hq, ne_b hq, Nat.le_add_left, go_sem, ↓reduceIte, reduceCtorEq, Nat.reduceEqDiff, Nat.reduceAdd, Nat.reduceSub, Nat.reduceMul, Nat.reduceLeDiff, Nat.reduceLT, loadA, rdCells, storeA, setAt, binA]
        exact fin _ _ rfl (by simp only [e0, go_sem, ↓reduceIte, reduceCtorEq, Nat.reduceEqDiff, Nat.reduceAdd, Nat.reduceSub, Nat.reduceMul, Nat.reduceLeDiff, Nat.reduceLT, loadA, rdCells, storeA, setAt, binA]) (by simp only [e3, go_sem, ↓reduceIte, reduceCtorEq, Nat.reduceEqDiff, Nat.reduceAdd, Nat.reduceSub, Nat.reduceMul, Nat.reduceLeDiff, Nat.reduceLT, loadA, rdCells, storeA, setAt, binA]) (by simp only [go_sem, ↓reduceIte, reduceCtorEq, Nat.reduceEqDiff, Nat.reduceAdd, Nat.reduceSub, Nat.reduceMul, Nat.reduceLeDiff, Nat.reduceLT, loadA, rdCells, storeA, setAt, binA])
      · have hku0 : (kof u == 0) = false := by simpa using hku
        simp only [cf57_l0, e0, e3, ho, hl, hd, hat, hku0, hk.obj hpz hop, hle, htk, ne_a hq, ne_b hq, Nat.le_add_left, go_sem, ↓reduceIte, reduceCtorEq, Nat.reduceEqDiff, Nat.reduceAdd, Nat.reduceSub, Nat.reduceMul, Nat.reduceLeDiff, Nat.reduceLT, loadA, rdCells, storeA, setAt, binA]
        exact fin _ _ rfl (by simp only [e0, go_sem, ↓reduceIte, reduceCtorEq, Nat.reduceEqDiff, Nat.reduceAdd, Nat.reduceSub, Nat.reduceMul, Nat.reduceLeDiff, Nat.reduceLT, loadA, rdCells, storeA, setAt, binA]) (by simp only [e3, go_sem, ↓reduceIte, reduceCtorEq, Nat.reduceEqDiff, Nat.reduceAdd, Nat.reduceSub, Nat.reduceMul, Nat.reduceLeDiff, Nat.reduceLT, loadA, rdCells, storeA, setAt, binA]) (by simp only [go_sem, ↓reduceIte, reduceCtorEq, Nat.reduceEqDiff, Nat.reduceAdd, Nat.reduceSub, Nat.reduceMul, Nat.reduceLeDiff, Nat.reduceLT, loadA, rdCells, storeA, setAt, binA])

theorem walk_law (hX : NoX X) {sv : AV} {ss : List Tm} {t t' : Tm} (h : WalkTo ss t t') (s : St) (hs : RdS sv ss s) : WC T X 57 [sv, .agg (tyc t)] s (fun v s' => v = .agg (tyc t') ∧ Keep s s') := by
  refine WC_fn cf57 (hX 57 (by decide)) T57 (by simp [cf57]) ?_
  have hc := hs.cells
  have hlp := fun e1 S1 => walk_loop (X := X) (sv := sv) t t' h e1 S1 s s.size hs (Nat.le_refl _)
  rw [tyc_w t, tyw] at hlp ⊢
  simp only [cf57, go_sem, ↓reduceIte, reduceCtorEq, Nat.reduceEqDiff, Nat.reduceAdd, Nat.reduceSub, Nat.reduceMul, Nat.reduceLeDiff, Nat.reduceLT, loadA, rdCells, storeA, setAt, binA]
  refine (hlp _ _ ?_ ?_ ?_ ?_ ?_).mono ?_
  · exact ((Keep.refl s).new' _).new' _
  · simp only [go_sem, ↓reduceIte, reduceCtorEq, Nat.reduceEqDiff, Nat.reduceAdd, Nat.reduceSub, Nat.reduceMul, Nat.reduceLeDiff, Nat.reduceLT, loadA, rdCells, storeA, setAt, binA]
  · simp only [go_sem, ↓reduceIte, reduceCtorEq, Nat.reduceEqDiff, Nat.reduceAdd, Nat.reduceSub, Nat.reduceMul, Nat.reduceLeDiff, Nat.reduceLT, loadA, rdCells, storeA, setAt, binA]
  · rw [new_ne (by simp [St.new]), new_eq rfl]
  · simp [St.new]; omega
  · rintro x e' S' ⟨rfl, e3, e4, ho, hk⟩
    rw [tyc_w, tyw] at ho
    simp only [go_sem, ↓reduceIte, reduceCtorEq, Nat.reduceEqDiff, Nat.reduceAdd, Nat.reduceSub, Nat.reduceMul, Nat.reduceLeDiff, Nat.reduceLT, loadA, rdCells, storeA, setAt, binA] at e4
    have hz := hk.1
    simp only [St.new] at hz
    have hk0 : Keep s S' := ⟨by omega, fun j hj => by rw [hk.2 j (by simp only [St.new]; omega) (by omega), new_ne (by simp only [St.new]; omega), new_ne (by omega)]⟩
    have ho1 : S'.obj (s.size + 1) = some (.cells [.int .i64 0, .str ⟨#[]⟩, .int .i64 0, .nils]) := by
      rw [hk.2 _ (by simp only [St.new]; omega) (by omega), new_eq (by simp [St.new])]
    simp only [e3, e4, ho, ho1, Nat.le_add_left, go_sem, ↓reduceIte, reduceCtorEq, Nat.reduceEqDiff, Nat.reduceAdd, Nat.reduceSub, Nat.reduceMul, Nat.reduceLeDiff, Nat.reduceLT, loadA, rdCells, storeA, setAt, binA]
    exact ⟨by simp, _, rfl, by rw [tyc_w, tyw], hk0.put' (by omega) _⟩
end Go.Am.U1

/- A part of the proof of unifyInstances. Conditions: none. -/
namespace Go.Am.U1
open Go.Am.Un
set_option maxRecDepth 100000
set_option linter.unusedSimpArgs false
attribute [local go_sem] wseq COp.isStore wreg wdreg wret wskip wexit wblock wcnd cnd_t cnd_f then_n then_x then_r catch_n rnd_n rnd_x rnd_r catch_x catch_r wo_nil wo_grd grdO_t grdO_f wo_ops stpO wr_nil wr_alloc wr_guards grdR_t grdR_f wr_ops stpR evAllocs evOp env0_app eput_some eput_none eset_app Opd.ev wantedA faddrA snew_obj snew_size sput_obj sput_size av_cells av_one av_strip av_still unA eqbA fillA fldA lensA mmA mm2 mmFold List.getD_cons_zero List.getD_cons_succ List.getD_nil List.length_cons List.length_nil List.drop_zero List.drop_succ_cons List.take_succ_cons List.take_zero List.map_cons List.map_nil List.set_cons_zero List.set_cons_succ List.all_cons List.all_nil List.getElem?_cons_zero List.getElem?_cons_succ List.nil_append List.cons_append Nat.zero_add Nat.add_zero beq_self_eq_true bt bf Bool.not_true Bool.not_false Bool.and_true Bool.true_and Bool.and_false Bool.false_and and_self and_true true_and n0 n1 n2 n3 n4 m0 m1 m2 m3 c1 retA resAs resA undefA Option.map_some Option.map_none
variable {X : Ext}

mutual
/-- What a substitution makes of a type. -/
inductive Sub (ss : List Tm) : Tm → Tm → Prop
  | var (t t' : Tm) (h : WalkTo ss t t') (hk : kof t' = 0) : Sub ss t t'
  | con (t : Tm) (k : Int) (n : ByteArray) (v : Int) (l L : List Tm) (h : WalkTo ss t (.mk k n v l)) (hk : k ≠ 0) (hs : Subs ss l L) : Sub ss t (.mk k n v L)
inductive Subs (ss : List Tm) : List Tm → List Tm → Prop
  | nil : Subs ss [] []
  | cons (a A : Tm) (l L : List Tm) (h : Sub ss a A) (hs : Subs ss l L) : Subs ss (a :: l) (A :: L)
end

theorem subs_len {ss : List Tm} : ∀ {l L : List Tm}, Subs ss l L → L.length = l.length
  | [], _, h => by cases h; rfl
  | a :: l, _, h => by cases h with | cons _ A _ L h hs => simp [subs_len hs]
theorem subs_at {ss : List Tm} : ∀ {l L : List Tm}, Subs ss l L → ∀ {i : Nat} {a : Tm}, l[i]? = some a → ∃ A, L[i]? = some A ∧ Sub ss a A
  | [], _, h, i, a, hi => by simp at hi
  | x :: l, _, h, i, a, hi => by
    cases h with
    | cons _ A _ L h hs =>
      cases i with
      | zero => simp at hi; subst hi; exact ⟨A, by simp, h⟩
      | succ i => obtain ⟨B, h1, h2⟩ := subs_at hs (i := i) (by simpa using hi); exact ⟨B, by simpa using h1, h2⟩

/-- A label's type, and the row without it. -/
inductive Extr (l : ByteArray) : Tm → Tm → Tm → Prop
  | here (v : Int) (t r : Tm) : Extr l (.mk 5 l v [t, r]) t r
  | there (m : ByteArray) (v : Int) (x r t r' : Tm) (hm : (m.toList == l.toList) = false) (h : Extr l r t r') : Extr l (.mk 5 m v [x, r]) t (.mk 5 m 0 [x, r'])

mutual
/-- Equal but for the order of labels. -/
inductive Eqv : Tm → Tm → Prop
  | var (A B : Tm) (ha : kof A = 0) (hb : kof B = 0) (h : vof A = vof B) : Eqv A B
  | row (l : ByteArray) (v : Int) (x r B t rest : Tm) (h : Extr l B t rest) (hx : Eqv x t) (hr : Eqv r rest) : Eqv (.mk 5 l v [x, r]) B
  | app (k : Int) (n n' : ByteArray) (v v' : Int) (l l' : List Tm) (h0 : k ≠ 0) (h5 : k ≠ 5) (hn : (n.toList == n'.toList) = true) (hs : Eqvs l l') : Eqv (.mk k n v l) (.mk k n' v' l')
inductive Eqvs : List Tm → List Tm → Prop
  | nil : Eqvs [] []
  | cons (a b : Tm) (l l' : List Tm) (h : Eqv a b) (hs : Eqvs l l') : Eqvs (a :: l) (b :: l')
end

/-- Rows down to their end. -/
inductive RowOk : Tm → Prop
  | nr (A : Tm) (h : kof A ≠ 5) : RowOk A
  | ext (l : ByteArray) (v : Int) (x r : Tm) (h : RowOk r) : RowOk (.mk 5 l v [x, r])

theorem ext_law (hX : NoX X) (l : ByteArray) (a b : Tm) (s : St) : WC T X 22 [.str l, .agg (tyc a), .agg (tyc b)] s (fun v s' => v = .agg (tyc (.mk 5 l 0 [a, b])) ∧ Keep s s') := by
  refine WC_fn cf22 (hX 22 (by decide)) T22 (by simp [cf22]) ?_
  have hr : tyc (.mk 5 l 0 [a, b]) = [.int .i64 5, .str l, .int .i64 0, .sl (tyc a ++ tyc b) 2 false none] := by
    rw [tyc, tycs, tycs, tycs, List.append_nil]; rfl
  rw [hr, tyc_w a, tyc_w b]
  simp only [cf22, tyw, Nat.le_add_left, go_sem, ↓reduceIte, reduceCtorEq, Nat.reduceEqDiff, Nat.reduceAdd, Nat.reduceSub, Nat.reduceMul, Nat.reduceLeDiff, Nat.reduceLT, loadA, rdCells, storeA, setAt, binA]
  exact ⟨by simp, _, rfl, rfl, ((((Keep.refl s).new' _).new' _).new' _).put' (by show s.size ≤ s.size + 1 + 1; omega) _⟩

/-- The unifier's substitution. -/
def US (s : St) (b p : Nat) (ss : List Tm) : Prop := s.obj b = some (.cells [.msl p 0 ss.length 4]) ∧ s.obj p = some (.cells (ss.flatMap tyc)) ∧ b < s.size ∧ p < s.size
theorem US.keep {s s' : St} {b p : Nat} {ss : List Tm} (h : US s b p ss) (hk : Keep s s') : US s' b p ss := ⟨hk.obj h.2.2.1 h.1, hk.obj h.2.2.2 h.2.1, hk.lt h.2.2.1, hk.lt h.2.2.2⟩
theorem US.rd {s : St} {b p : Nat} {ss : List Tm} (h : US s b p ss) : RdS (.msl p 0 ss.length 4) ss s := Or.inr ⟨p, rfl, h.2.1, h.2.2.2⟩

theorem ia0 (a b c d e f g h : AV) (n : Nat) (fl : Bool) (tk : Option Nat) (hn : 0 < n) : iaddrA 4 (.sl [a, b, c, d, e, f, g, h] n fl tk) (.int .i64 0) = some (.eptr [a, b, c, d, e, f, g, h]) := by
  simp only [iaddrA]
  rw [if_pos (by exact ⟨by omega, by omega⟩)]; rfl
theorem ia1 (a b c d e f g h : AV) (fl : Bool) (tk : Option Nat) : iaddrA 4 (.sl [a, b, c, d, e, f, g, h] 2 fl tk) (.int .i64 1) = some (.eptr [e, f, g, h]) := rfl

end Go.Am.U1

/- A part of the proof of unifyInstances. Conditions: none. -/
namespace Go.Am.U1
open Go.Am.Un
set_option maxRecDepth 100000
set_option linter.unusedSimpArgs false
attribute [local go_sem] wseq COp.isStore wreg wdreg wret wskip wexit wblock wcnd cnd_t cnd_f then_n then_x then_r catch_n rnd_n rnd_x rnd_r catch_x catch_r wo_nil wo_grd grdO_t grdO_f wo_ops stpO wr_nil wr_alloc wr_guards grdR_t grdR_f wr_ops stpR evAllocs evOp env0_app eput_some eput_none eset_app Opd.ev wantedA faddrA snew_obj snew_size sput_obj sput_size av_cells av_one av_strip av_still unA eqbA fillA fldA lensA mmA mm2 mmFold List.getD_cons_zero List.getD_cons_succ List.getD_nil List.length_cons List.length_nil List.drop_zero List.drop_succ_cons List.take_succ_cons List.take_zero List.map_cons List.map_nil List.set_cons_zero List.set_cons_succ List.all_cons List.all_nil List.getElem?_cons_zero List.getElem?_cons_succ List.nil_append List.cons_append Nat.zero_add Nat.add_zero beq_self_eq_true bt bf Bool.not_true Bool.not_false Bool.and_true Bool.true_and Bool.and_false Bool.false_and and_self and_true true_and n0 n1 n2 n3 n4 m0 m1 m2 m3 c1 retA resAs resA undefA Option.map_some Option.map_none
variable {X : Ext}

theorem ne_e {q n : Nat} (h : q < n) (k j : Nat) : (q = n + k + j) = False := eq_false (by omega)
theorem ne_f {q n : Nat} (h : q < n) (k j : Nat) : (n + k + j = q) = False := eq_false (by omega)

theorem row_c (l : ByteArray) (v : Int) (a b : Tm) : tyc (.mk 5 l v [a, b]) = [.int .i64 5, .str l, .int .i64 v, .sl [.int .i64 (kof a), .str (nof a), .int .i64 (vof a), .sl (tycs (lof a)) (lof a).length false none, .int .i64 (kof b), .str (nof b), .int .i64 (vof b), .sl (tycs (lof b)) (lof b).length false none] 2 false none] := by
  rw [tyc, tycs, tycs, tycs, List.append_nil, tyc_w a, tyc_w b]; rfl

mutual
theorem avr : ∀ v : AV, AV.beq v v = true
  | .bool _ | .int _ _ | .str _ | .nilp | .ptr _ _ | .nils | .msl _ _ _ _ | .nilf | .niliface | .mapv _ | .nilm => by simp [AV.beq]
  | .eptr cs => by simp [AV.beq, avrs cs]
  | .sl cs _ _ _ => by simp [AV.beq, avrs cs]
  | .func _ cs => by simp [AV.beq, avrs cs]
  | .agg cs => by simp [AV.beq, avrs cs]
  | .tup cs => by simp [AV.beq, avrs cs]
  | .iface t v => by simp [AV.beq, avr v]
theorem avrs : ∀ l : List AV, AV.beqs l l = true
  | [] => by simp [AV.beqs]
  | a :: r => by simp [AV.beqs, avr a, avrs r]
end

end Go.Am.U1
