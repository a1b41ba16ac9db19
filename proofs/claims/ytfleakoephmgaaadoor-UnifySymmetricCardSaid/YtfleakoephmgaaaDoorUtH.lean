/- The end of a row; the unifier's runs. Conditions: none. -/
import Derived.Test.YtfleakoephmgaaaDoorUtG
import Derived.Test.YtfleakoephmgaaaDoorUnL
set_option linter.unusedSimpArgs false
set_option linter.unusedVariables false
namespace Go.Am.U1
open Go.Am.Un
set_option maxRecDepth 100000
set_option linter.unusedSimpArgs false
attribute [local go_sem] wseq COp.isStore wreg wdreg wret wskip wexit wblock wcnd cnd_t cnd_f then_n then_x then_r catch_n rnd_n rnd_x rnd_r catch_x catch_r wo_nil wo_grd grdO_t grdO_f wo_ops stpO wr_nil wr_alloc wr_guards grdR_t grdR_f wr_ops stpR evAllocs evOp env0_app eput_some eput_none eset_app Opd.ev wantedA faddrA snew_obj snew_size sput_obj sput_size av_cells av_one av_strip av_still unA eqbA fillA fldA lensA mmA mm2 mmFold List.getD_cons_zero List.getD_cons_succ List.getD_nil List.length_cons List.length_nil List.drop_zero List.drop_succ_cons List.take_succ_cons List.take_zero List.map_cons List.map_nil List.set_cons_zero List.set_cons_succ List.all_cons List.all_nil List.getElem?_cons_zero List.getElem?_cons_succ List.nil_append List.cons_append Nat.zero_add Nat.add_zero beq_self_eq_true bt bf Bool.not_true Bool.not_false Bool.and_true Bool.true_and Bool.and_false Bool.false_and and_self and_true true_and n0 n1 n2 n3 n4 m0 m1 m2 m3 c1 retA resAs resA undefA Option.map_some Option.map_none
variable {X : Ext}

/-- The variable at the end of a row that was walked to; -1: none. -/
inductive TlE (ss : List Tm) : Tm → Int → Prop
  | var (t : Tm) (h : kof t = 0) : TlE ss t (vof t)
  | stop (t : Tm) (h0 : kof t ≠ 0) (h5 : kof t ≠ 5) : TlE ss t (-1)
  | row (n : ByteArray) (v : Int) (x y y' : Tm) (z : Int) (hw : WalkTo ss y y') (h : TlE ss y' z) : TlE ss (.mk 5 n v [x, y]) z

set_option maxHeartbeats 1000000 in
theorem tl_loop (hX : NoX X) {ss : List Tm} {b p : Nat} {t' : Tm} {z : Int} (h : TlE ss t' z) : ∀ (e : Env) (S S0 : St) (q : Nat), US S0 b p ss → S0.size ≤ q → Keep S0 S → e 0 = .ptr b 0 → e 3 = .ptr q 0 → S.obj q = some (.cells (tyc t')) → q < S.size →
    W T X (.loop cf99_l0) e S (fun x e' S' => x = .exit 0 ∧ e' 3 = .ptr q 0 ∧ (∃ t2, S'.obj q = some (.cells (tyc t2)) ∧ ((kof t2 = 0 ∧ vof t2 = z) ∨ (kof t2 ≠ 0 ∧ z = -1))) ∧ Keep S0 S') := by
  induction h with
  | var t h =>
    intro e S S0 q hu hq0 hkp e0 e3 ho hq
    refine W_loop ?_
    have hk0 : (kof t == 5) = false := by rw [h]; rfl
    rw [tyc_w, tyw] at ho
    simp only [cf99_l0, e0, e3, ho, hk0, Nat.le_add_left, go_sem, ↓reduceIte, reduceCtorEq, Nat.reduceEqDiff, Nat.reduceAdd, Nat.reduceSub, Nat.reduceMul, Nat.reduceLeDiff, Nat.reduceLT, loadA, rdCells, storeA, setAt, binA]
    exact ⟨⟨t, by rw [tyc_w, tyw], by first | exact Or.inl ⟨h, rfl⟩ | simp [h]⟩, hkp⟩
  | stop t h0 h5 =>
    intro e S S0 q hu hq0 hkp e0 e3 ho hq
    refine W_loop ?_
    have hk0 : (kof t == 5) = false := by simpa using h5
    rw [tyc_w, tyw] at ho
    simp only [cf99_l0, e0, e3, ho, hk0, Nat.le_add_left, go_sem, ↓reduceIte, reduceCtorEq, Nat.reduceEqDiff, Nat.reduceAdd, Nat.reduceSub, Nat.reduceMul, Nat.reduceLeDiff, Nat.reduceLT, loadA, rdCells, storeA, setAt, binA]
    exact ⟨⟨t, by rw [tyc_w, tyw], by first | exact Or.inr ⟨h0, rfl⟩ | simp [h0]⟩, hkp⟩
  | row n v x0 r0 r' z hw h ih =>
    intro e S S0 q hu hq0 hkp e0 e3 ho hq
    generalize hL : CC.loop cf99_l0 = L
    refine W_loop_eq hL ?_
    rw [row_c] at ho
    have hww := walk_law hX hw S (hu.keep hkp).rd
    rw [tyc_w r0, tyw, tyc_w r', tyw] at hww
    simp only [cf99_l0, e0, e3, ho, (hu.keep hkp).1, ia1, Nat.le_add_left, go_sem, ↓reduceIte, reduceCtorEq, Nat.reduceEqDiff, Nat.reduceAdd, Nat.reduceSub, Nat.reduceMul, Nat.reduceLeDiff, Nat.reduceLT, loadA, rdCells, storeA, setAt, binA]
    refine WR_callx _ rfl (hww.mono ?_)
    rintro w2 S2 ⟨rfl, hk2⟩
    have ho2 := hk2.obj hq ho
    simp only [e0, e3, ho2, Nat.le_add_left, go_sem, ↓reduceIte, reduceCtorEq, Nat.reduceEqDiff, Nat.reduceAdd, Nat.reduceSub, Nat.reduceMul, Nat.reduceLeDiff, Nat.reduceLT, loadA, rdCells, storeA, setAt, binA]
    subst hL
    refine (ih _ _ S0 q hu hq0 ((hkp.trans hk2).put' hq0 _) ?_ ?_ ?_ ?_)
    · simp only [e0, go_sem, ↓reduceIte, reduceCtorEq, Nat.reduceEqDiff, Nat.reduceAdd, Nat.reduceSub, Nat.reduceMul, Nat.reduceLeDiff, Nat.reduceLT, loadA, rdCells, storeA, setAt, binA]
    · simp only [e3, go_sem, ↓reduceIte, reduceCtorEq, Nat.reduceEqDiff, Nat.reduceAdd, Nat.reduceSub, Nat.reduceMul, Nat.reduceLeDiff, Nat.reduceLT, loadA, rdCells, storeA, setAt, binA]
    · rw [put_eq, tyc_w, tyw]
    · exact hk2.lt hq

theorem tl_law (hX : NoX X) {ss : List Tm} {b p : Nat} {t t' : Tm} {z : Int} (hw : WalkTo ss t t') (h : TlE ss t' z) (s : St) (hu : US s b p ss) : WC T X 99 [.ptr b 0, .agg (tyc t)] s (fun v s' => v = .int .i64 z ∧ Keep s s') := by
  refine WC_fn cf99 (hX 99 (by decide)) T99 (by simp [cf99]) ?_
  have hk1 := (Keep.refl s).new' (.cells (tyc t))
  have hww := walk_law hX hw _ (hu.keep hk1).rd
  rw [tyc_w t, tyw, tyc_w t', tyw] at hww
  rw [tyc_w t, tyw] at hk1
  rw [tyc_w t, tyw]
  simp only [cf99, hu.1, ne_a hu.2.2.1, ne_b hu.2.2.1, Nat.le_add_left, go_sem, ↓reduceIte, reduceCtorEq, Nat.reduceEqDiff, Nat.reduceAdd, Nat.reduceSub, Nat.reduceMul, Nat.reduceLeDiff, Nat.reduceLT, loadA, rdCells, storeA, setAt, binA]
  refine WR_callx _ rfl (hww.mono ?_)
  rintro w2 S2 ⟨rfl, hk2⟩
  have ho2 := hk2.obj (by simp [St.new]) (new_eq rfl : (s.new (.cells [.int .i64 (kof t), .str (nof t), .int .i64 (vof t), .sl (tycs (lof t)) (lof t).length false none])).obj s.size = _)
  simp only [ho2, Nat.le_add_left, go_sem, ↓reduceIte, reduceCtorEq, Nat.reduceEqDiff, Nat.reduceAdd, Nat.reduceSub, Nat.reduceMul, Nat.reduceLeDiff, Nat.reduceLT, loadA, rdCells, storeA, setAt, binA]
  refine (tl_loop hX h _ _ s s.size hu (Nat.le_refl _) ((hk1.trans hk2).put' (Nat.le_refl _) _) ?_ ?_ ?_ ?_).mono ?_
  · simp only [go_sem, ↓reduceIte, reduceCtorEq, Nat.reduceEqDiff, Nat.reduceAdd, Nat.reduceSub, Nat.reduceMul, Nat.reduceLeDiff, Nat.reduceLT, loadA, rdCells, storeA, setAt, binA]
  · simp only [go_sem, ↓reduceIte, reduceCtorEq, Nat.reduceEqDiff, Nat.reduceAdd, Nat.reduceSub, Nat.reduceMul, Nat.reduceLeDiff, Nat.reduceLT, loadA, rdCells, storeA, setAt, binA]
  · rw [put_eq, tyc_w, tyw]
  · exact hk2.lt (by simp [St.new])
  · rintro x e' S' ⟨rfl, e3, ⟨t2, ho, hz⟩, hk⟩
    rw [tyc_w, tyw] at ho
    rcases hz with ⟨hz, hv⟩ | ⟨hz, hv⟩
    · have hz' : (kof t2 == 0) = true := by simp [hz]
      simp only [e3, ho, hz', Nat.le_add_left, go_sem, ↓reduceIte, reduceCtorEq, Nat.reduceEqDiff, Nat.reduceAdd, Nat.reduceSub, Nat.reduceMul, Nat.reduceLeDiff, Nat.reduceLT, loadA, rdCells, storeA, setAt, binA]
      exact ⟨by simp, _, rfl, by rw [hv], hk⟩
    · have hz' : (kof t2 == 0) = false := by simpa using hz
      simp only [e3, ho, hz', Nat.le_add_left, go_sem, ↓reduceIte, reduceCtorEq, Nat.reduceEqDiff, Nat.reduceAdd, Nat.reduceSub, Nat.reduceMul, Nat.reduceLeDiff, Nat.reduceLT, loadA, rdCells, storeA, setAt, binA]
      exact ⟨by simp, _, rfl, by rw [hv], hk⟩

/-- What is to be made equal: two types; two lists of them; a row with a label, and another row. -/
inductive Jb where
  | un (a b : Tm)
  | us (l m : List Tm)
  | rw (n : ByteArray) (v : Int) (x y b : Tm)

/-- A run of the unifier: the substitution, the work, the error, the substitution then. -/
inductive Un : List Tm → Jb → Int → List Tm → Prop
  | bl (ss : List Tm) (a b b' : Tm) (i : Nat) (e : Int) (ss' : List Tm) (wa : WalkTo ss a (vtm i)) (wb : WalkTo ss b b') (h : BdR ss i b' e ss') : Un ss (.un a b) e ss'
  | br (ss : List Tm) (a b a' : Tm) (i : Nat) (e : Int) (ss' : List Tm) (wa : WalkTo ss a a') (ha : kof a' ≠ 0) (wb : WalkTo ss b (vtm i)) (h : BdR ss i a' e ss') : Un ss (.un a b) e ss'
  | row (ss : List Tm) (a b b' : Tm) (n : ByteArray) (v : Int) (x y : Tm) (e : Int) (ss' : List Tm) (wa : WalkTo ss a (.mk 5 n v [x, y])) (wb : WalkTo ss b b') (hb : 4 ≤ kof b') (h : Un ss (.rw n v x y b') e ss') : Un ss (.un a b) e ss'
  | bad (ss : List Tm) (a b a' b' : Tm) (wa : WalkTo ss a a') (wb : WalkTo ss b b') (ha : kof a' ≠ 0) (hb : kof b' ≠ 0) (hr : ¬ (kof a' = 5 ∧ 4 ≤ kof b')) (hn : kof a' ≠ kof b' ∨ ((nof a').toList == (nof b').toList) = false ∨ (lof a').length ≠ (lof b').length) : Un ss (.un a b) 10 ss
  | args (ss : List Tm) (a b : Tm) (k : Int) (n n' : ByteArray) (v v' : Int) (l l' : List Tm) (e : Int) (ss' : List Tm) (wa : WalkTo ss a (.mk k n v l)) (wb : WalkTo ss b (.mk k n' v' l')) (hk : k ≠ 0) (hr : k ≠ 5) (hn : (n.toList == n'.toList) = true) (hl : l.length = l'.length) (h : Un ss (.us l l') e ss') : Un ss (.un a b) e ss'
  | nil (ss : List Tm) : Un ss (.us [] []) 0 ss
  | ok (ss ss1 ss2 : List Tm) (a b : Tm) (l m : List Tm) (e : Int) (h : Un ss (.un a b) 0 ss1) (hs : Un ss1 (.us l m) e ss2) : Un ss (.us (a :: l) (b :: m)) e ss2
  | fail (ss ss1 : List Tm) (a b : Tm) (l m : List Tm) (e : Int) (h : Un ss (.un a b) e ss1) (he : e ≠ 0) (hl : l.length = m.length) : Un ss (.us (a :: l) (b :: m)) e ss1
  | exf (ss ss1 : List Tm) (n : ByteArray) (v : Int) (x y b t q : Tm) (z e : Int) (ht : TlE ss (.mk 5 n v [x, y]) z) (h : ExR n z ss b e t q ss1) (he : e ≠ 0) : Un ss (.rw n v x y b) e ss1
  | hdf (ss ss1 ss2 : List Tm) (n : ByteArray) (v : Int) (x y b t q : Tm) (z e : Int) (ht : TlE ss (.mk 5 n v [x, y]) z) (h : ExR n z ss b 0 t q ss1) (h1 : Un ss1 (.un x t) e ss2) (he : e ≠ 0) : Un ss (.rw n v x y b) e ss2
  | rok (ss ss1 ss2 ss3 : List Tm) (n : ByteArray) (v : Int) (x y b t q : Tm) (z e : Int) (ht : TlE ss (.mk 5 n v [x, y]) z) (h : ExR n z ss b 0 t q ss1) (h1 : Un ss1 (.un x t) 0 ss2) (h2 : Un ss2 (.un y q) e ss3) : Un ss (.rw n v x y b) e ss3

/-- The work is well formed. -/
def JWt (N : Nat) : Jb → Prop
  | .un a b => Wt N a ∧ Wt N b
  | .us l m => (∀ a, a ∈ l → Wt N a) ∧ ∀ a, a ∈ m → Wt N a
  | .rw _ _ x y b => Wt N x ∧ Wt N y ∧ Wt N b
/-- The substitution is without cycles, and not too long. -/
def Fine (ss : List Tm) : Prop := (∃ rk, Acy ss rk) ∧ ss.length ≤ 4098
theorem fine_walk {ss : List Tm} (h : Fine ss) {t t' : Tm} (hw : WalkTo ss t t') (ht : Wt ss.length t) : Wt ss.length t' := by
  obtain ⟨⟨rk, hac⟩, -⟩ := h
  exact walk_wt hac hw ht
theorem bd_fine {ss ss' : List Tm} {i : Nat} {t : Tm} {e : Int} (h : Fine ss) (hs : Self ss i) (ht : Wt ss.length t) (hb : BdR ss i t e ss') : Fine ss' ∧ ss'.length = ss.length := by
  rcases hb with ⟨-, -, -, rfl⟩ | ⟨-, -, -, rfl⟩ | ⟨-, hno, -, rfl⟩
  · exact ⟨h, rfl⟩
  · exact ⟨h, rfl⟩
  · obtain ⟨⟨rk, hac⟩, hl⟩ := h
    exact ⟨⟨acy_set hac hs ht hno, by rw [List.length_set]; exact hl⟩, List.length_set⟩
theorem row_wt {N : Nat} {n : ByteArray} {v : Int} {x y : Tm} (h : Wt N (.mk 5 n v [x, y])) : Wt N x ∧ Wt N y := by
  rw [Wt] at h
  have := h.2.2.2.2.2.2.2.2.2
  simp only [Wts] at this
  exact ⟨this.1, this.2.1⟩
theorem wt_row {N : Nat} {n : ByteArray} {x y : Tm} (hx : Wt N x) (hy : Wt N y) : Wt N (.mk 5 n 0 [x, y]) := by
  rw [Wt]
  simp only [Wts]
  exact ⟨by decide, by decide, by simp, by simp, by simp, by simp, by simp, by simp, by simp, hx, hy, trivial⟩
theorem ex_fine {l : ByteArray} {z : Int} {ss ss' : List Tm} {r t q : Tm} {e : Int} (h : Fine ss) (hl : ss.length ≤ 4096) (hx : ExR l z ss r e t q ss') : Wt ss.length r → Fine ss' ∧ ss.length ≤ ss'.length ∧ (e = 0 → ss'.length ≤ 4096 ∧ Wt ss'.length t ∧ Wt ss'.length q) := by
  obtain ⟨⟨rk, hac⟩, -⟩ := h
  induction hx with
  | cyc r i hw hz => exact fun _ => ⟨⟨⟨rk, hac⟩, by omega⟩, Nat.le_refl _, fun h => by cases h⟩
  | large r i hw hz hl' => exact fun _ => ⟨⟨⟨rk, acy_two hac⟩, by rw [two_len]; omega⟩, by rw [two_len]; omega, fun h => by cases h⟩
  | new r i hw hz hl' =>
    exact fun _ => ⟨⟨acy_grow hac (walk_var hw) l, by rw [grow_len]; omega⟩, by rw [grow_len]; omega, fun _ => ⟨by rw [grow_len]; omega, wt_vtm (by rw [grow_len]; omega), wt_vtm (by rw [grow_len]; omega)⟩⟩
  | stop r r' hw h0 h5 => exact fun _ => ⟨⟨⟨rk, hac⟩, by omega⟩, Nat.le_refl _, fun h => by cases h⟩
  | here r m v x y hw hm =>
    intro hr
    have := row_wt (walk_wt hac hw hr)
    exact ⟨⟨⟨rk, hac⟩, by omega⟩, Nat.le_refl _, fun _ => ⟨hl, this.1, this.2⟩⟩
  | there r m v x y e t q ss' hw hm h ih =>
    intro hr
    have hxy := row_wt (walk_wt hac hw hr)
    obtain ⟨h1, h2, h3⟩ := ih hxy.2
    exact ⟨h1, h2, fun he => ⟨(h3 he).1, (h3 he).2.1, wt_row (wt_le h2 _ hxy.1) (h3 he).2.2⟩⟩
theorem jwt_le {N M : Nat} (h : N ≤ M) {j : Jb} (hj : JWt N j) : JWt M j := by
  cases j with
  | un a b => exact ⟨wt_le h _ hj.1, wt_le h _ hj.2⟩
  | us l m => exact ⟨fun a ha => wt_le h _ (hj.1 a ha), fun a ha => wt_le h _ (hj.2 a ha)⟩
  | rw n v x y b => exact ⟨wt_le h _ hj.1, wt_le h _ hj.2.1, wt_le h _ hj.2.2⟩

theorem un_fine {ss ss' : List Tm} {j : Jb} {e : Int} (h : Un ss j e ss') : Fine ss → ss.length ≤ 4096 → JWt ss.length j → Fine ss' ∧ ss.length ≤ ss'.length ∧ (e = 0 → ss'.length ≤ 4096) := by
  induction h with
  | bl ss a b b' i e ss' wa wb h =>
    intro hf hl hj
    obtain ⟨h1, h2⟩ := bd_fine hf (walk_var wa) (fine_walk hf wb hj.2) h
    exact ⟨h1, by omega, fun _ => by omega⟩
  | br ss a b a' i e ss' wa ha wb h =>
    intro hf hl hj
    obtain ⟨h1, h2⟩ := bd_fine hf (walk_var wb) (fine_walk hf wa hj.1) h
    exact ⟨h1, by omega, fun _ => by omega⟩
  | row ss a b b' n v x y e ss' wa wb hb h ih =>
    intro hf hl hj
    have := row_wt (fine_walk hf wa hj.1)
    exact ih hf hl ⟨this.1, this.2, fine_walk hf wb hj.2⟩
  | bad => exact fun hf hl _ => ⟨hf, Nat.le_refl _, fun h => by cases h⟩
  | args ss a b k n n' v v' l l' e ss' wa wb hk hr hn hl' h ih =>
    intro hf hl hj
    exact ih hf hl ⟨fun a ha => wt_arg (fine_walk hf wa hj.1) ha, fun a ha => wt_arg (fine_walk hf wb hj.2) ha⟩
  | nil => exact fun hf hl _ => ⟨hf, Nat.le_refl _, fun _ => hl⟩
  | ok ss ss1 ss2 a b l m e h hs ih1 ih2 =>
    intro hf hl hj
    obtain ⟨h1, h2, h3⟩ := ih1 hf hl ⟨hj.1 a (by simp), hj.2 b (by simp)⟩
    obtain ⟨h4, h5, h6⟩ := ih2 h1 (h3 rfl) (jwt_le h2 (j := .us l m) ⟨fun a ha => hj.1 a (by simp [ha]), fun a ha => hj.2 a (by simp [ha])⟩)
    exact ⟨h4, by omega, h6⟩
  | fail ss ss1 a b l m e h he hl' ih =>
    intro hf hl hj
    exact ih hf hl ⟨hj.1 a (by simp), hj.2 b (by simp)⟩
  | exf ss ss1 n v x y b t q z e ht h he =>
    intro hf hl hj
    obtain ⟨h1, h2, h3⟩ := ex_fine hf hl h hj.2.2
    exact ⟨h1, h2, fun h => absurd h he⟩
  | hdf ss ss1 ss2 n v x y b t q z e ht h h1 he ih =>
    intro hf hl hj
    obtain ⟨g1, g2, g3⟩ := ex_fine hf hl h hj.2.2
    obtain ⟨g4, g5, g6⟩ := ih g1 (g3 rfl).1 ⟨wt_le g2 _ hj.1, (g3 rfl).2.1⟩
    exact ⟨g4, by omega, g6⟩
  | rok ss ss1 ss2 ss3 n v x y b t q z e ht h h1 h2 ih1 ih2 =>
    intro hf hl hj
    obtain ⟨g1, g2, g3⟩ := ex_fine hf hl h hj.2.2
    obtain ⟨g4, g5, g6⟩ := ih1 g1 (g3 rfl).1 ⟨wt_le g2 _ hj.1, (g3 rfl).2.1⟩
    obtain ⟨g7, g8, g9⟩ := ih2 g4 (g6 rfl) ⟨wt_le (by omega) _ hj.2.1, wt_le g5 _ (g3 rfl).2.2⟩
    exact ⟨g7, by omega, g9⟩
end Go.Am.U1

/- The normal form has as many nodes. Conditions: none. -/
namespace Go.Am
namespace Un
open Go.So

/-! ### Sizes -/
def lsz (L : List Lb) : Nat := (L.map fun x => 1 + tsz x.2).sum
theorem bld_tsz : ∀ (L : List Lb) (e : Tm), tsz (bld L e) = lsz L + tsz e
  | [], e => by simp [bld, lsz]
  | x :: L, e => by
    rw [bld, tsz, tszs, tszs, tszs, bld_tsz L e]
    simp only [lsz, List.map_cons, List.sum_cons]
    omega
theorem spn_tsz {t : Tm} {L : List Lb} {e : Tm} (h : Spn t L e) : tsz t = lsz L + tsz e := by
  induction h with
  | nil t h => simp [lsz]
  | cons n v a r L e h ih =>
    rw [tsz, tszs, tszs, tszs, ih]
    simp only [lsz, List.map_cons, List.sum_cons]
    omega
theorem ins_lsz (x : Lb) : ∀ L : List Lb, lsz (ins ltL x L) = 1 + tsz x.2 + lsz L
  | [] => by simp [Go.So.ins, lsz]
  | y :: L => by
    rw [Go.So.ins]
    split
    · have := ins_lsz x L
      simp only [lsz, List.map_cons, List.sum_cons] at this ⊢
      omega
    · simp only [lsz, List.map_cons, List.sum_cons]
theorem isort_lsz : ∀ L : List Lb, lsz (isort ltL L) = lsz L
  | [] => rfl
  | x :: L => by
    have := isort_lsz L
    rw [show isort ltL (x :: L) = ins ltL x (isort ltL L) from rfl, ins_lsz, this]
    simp [lsz]
theorem tszs_sum : ∀ l : List Tm, tszs l = (l.map tsz).sum
  | [] => by rw [tszs]; rfl
  | t :: r => by rw [tszs, tszs_sum r]; simp
theorem nf_tsz : ∀ (n : Nat) (t : Tm), tsz t ≤ n → Val t → tsz (nf t) = tsz t := by
  intro n
  induction n with
  | zero => intro t h; cases t; rw [tsz] at h; omega
  | succ n ih =>
    intro t h hv
    obtain ⟨L, e, hs⟩ := spn_of _ t (Nat.le_refl _) hv
    obtain ⟨h1, h2, h3⟩ := spn_mem hs
    have he := spn_end hs
    have hL : lsz (L.map nfl) = lsz L := by
      simp only [lsz, List.map_map]
      congr 1
      refine List.map_congr_left fun x hx => ?_
      obtain ⟨h8, h9⟩ := h1 x hx
      show 1 + tsz (nf x.2) = 1 + tsz x.2
      rw [ih x.2 (by omega) (h9 hv)]
    have hE : tsz (nf e) = tsz e := by
      rw [nf_oth he]
      obtain ⟨k, m, v, l⟩ := e
      rw [tsz, tsz, tszs_sum, tszs_sum]
      simp only [lof, List.map_map]
      congr 2
      refine List.map_congr_left fun a ha => ?_
      have := tsz_mem (t := .mk k m v l) ha
      exact ih a (by omega) (val_arg (h3 hv) ha)
    rw [nf_spn hs, bld_tsz, isort_lsz, hL, hE, spn_tsz hs]

end Un
end Go.Am
