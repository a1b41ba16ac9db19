/- Reduce: requirements on variables. Conditions: none. -/
import Derived.Test.YtfleakoephmgaaaDoorClF
set_option linter.unusedSimpArgs false
set_option linter.unusedVariables false
namespace Go.Am.U3
open Go.Am.Un Go.So
open Go.Am.U1 (NoX drop_at ne_a ne_b ne_c ne_d avr tyw tyc_w tycP isl_tycs len_tszs tsz_pos)
set_option maxRecDepth 100000
set_option linter.unusedSimpArgs false
attribute [local go_sem] wseq COp.isStore wreg wdreg wret wskip wexit wblock wcnd cnd_t cnd_f then_n then_x then_r catch_n rnd_n rnd_x rnd_r catch_x catch_r wo_nil wo_grd grdO_t grdO_f wo_ops stpO wr_nil wr_alloc wr_guards grdR_t grdR_f wr_ops stpR evAllocs evOp env0_app eput_some eput_none eset_app Opd.ev wantedA faddrA snew_obj snew_size sput_obj sput_size av_cells av_one av_strip av_still unA eqbA fillA fldA lensA mmA mm2 mmFold List.getD_cons_zero List.getD_cons_succ List.getD_nil List.length_cons List.length_nil List.drop_zero List.drop_succ_cons List.take_succ_cons List.take_zero List.map_cons List.map_nil List.set_cons_zero List.set_cons_succ List.all_cons List.all_nil List.getElem?_cons_zero List.getElem?_cons_succ List.nil_append List.cons_append Nat.zero_add Nat.add_zero beq_self_eq_true bt bf Bool.not_true Bool.not_false Bool.and_true Bool.true_and Bool.and_false Bool.false_and and_self and_true true_and n0 n1 n2 n3 n4 m0 m1 m2 m3 c1 retA resAs resA undefA Option.map_some Option.map_none
variable {X : Ext}

def sameP (p q : Pr) : Bool := sq q.cls p.cls && (vof q.ty == vof p.ty)
def addP (out : List Pr) (p : Pr) : List Pr := bif out.any (sameP p) then out else out ++ [p]
inductive RdJ where
  | one (p : Pr) (d : Int)
  | all (ps : List Pr) (d : Int)
/-- A run of reduce: what is found and what is left ahead, the work, the error, what is found and left then. -/
inductive Rd (ins : List In) : List Pr → Int → RdJ → Int → List Pr → Int → Prop
  | large (out : List Pr) (left : Int) (p : Pr) (d : Int) (h : d > 400 ∨ left - 1 < 0) : Rd ins out left (.one p d) 2 out (left - 1)
  | var (out : List Pr) (left : Int) (p : Pr) (d : Int) (hd : d ≤ 400) (hl : 0 ≤ left - 1) (hk : kof p.ty = 0) : Rd ins out left (.one p d) 0 (addP out p) (left - 1)
  | no (out : List Pr) (left : Int) (p : Pr) (d : Int) (hd : d ≤ 400) (hl : 0 ≤ left - 1) (hk : kof p.ty ≠ 0) (hn : instAt p 0 ins = none) : Rd ins out left (.one p d) 11 out (left - 1)
  | yes (out out' : List Pr) (left left' : Int) (p : Pr) (d e : Int) (i : Nat) (x : In) (hd : d ≤ 400) (hl : 0 ≤ left - 1) (hk : kof p.ty ≠ 0) (hs : instAt p 0 ins = some (i, x)) (hr : Rd ins out (left - 1) (.all (needs x p.ty) (d + 1)) e out' left') : Rd ins out left (.one p d) e out' left'
  | nil (out : List Pr) (left d : Int) : Rd ins out left (.all [] d) 0 out left
  | ok (out o1 o2 : List Pr) (left l1 l2 : Int) (p : Pr) (ps : List Pr) (d e : Int) (h : Rd ins out left (.one p d) 0 o1 l1) (hs : Rd ins o1 l1 (.all ps d) e o2 l2) : Rd ins out left (.all (p :: ps) d) e o2 l2
  | bad (out o1 : List Pr) (left l1 : Int) (p : Pr) (ps : List Pr) (d e : Int) (h : Rd ins out left (.one p d) e o1 l1) (he : e ≠ 0) : Rd ins out left (.all (p :: ps) d) e o1 l1

theorem addP_len (out : List Pr) (p : Pr) : (addP out p).length ≤ out.length + 1 := by
  unfold addP
  cases out.any (sameP p)
  · show (out ++ [p]).length ≤ _; simp
  · show out.length ≤ _; omega
theorem rd_len {ins : List In} {out out' : List Pr} {left left' e : Int} {j : RdJ} (h : Rd ins out left j e out' left') : 0 ≤ left → (out'.length : Int) + left' ≤ out.length + left ∧ left' ≤ left ∧ (e = 0 → 0 ≤ left') := by
  induction h with
  | large => exact fun _ => ⟨by omega, by omega, fun h => by cases h⟩
  | var out left p d hd hl hk => intro _; have := addP_len out p; exact ⟨by omega, by omega, fun _ => hl⟩
  | no => exact fun _ => ⟨by omega, by omega, fun h => by cases h⟩
  | yes out out' left left' p d e i x hd hl hk hs hr ih => intro _; obtain ⟨h1, h2, h3⟩ := ih hl; exact ⟨by omega, by omega, h3⟩
  | nil => exact fun h => ⟨by omega, by omega, fun _ => h⟩
  | ok out o1 o2 left l1 l2 p ps d e h hs ih1 ih2 =>
    intro h0
    obtain ⟨h1, h2, h3⟩ := ih1 h0
    obtain ⟨h4, h5, h6⟩ := ih2 (h3 rfl)
    exact ⟨by omega, by omega, h6⟩
  | bad out o1 left l1 p ps d e h he ih => intro h0; obtain ⟨h1, h2, -⟩ := ih h0; exact ⟨h1, h2, fun h => absurd h he⟩

/-- What is left alone: all but two objects and a right. -/
def KeepR (o lf : Nat) (tok : Option Nat) (s s' : St) : Prop := s.size ≤ s'.size ∧ ∀ j, j < s.size → j ≠ o → j ≠ lf → some j ≠ tok → s'.obj j = s.obj j
theorem KeepR.of {o lf : Nat} {tok : Option Nat} {s s' : St} (h : Keep s s') : KeepR o lf tok s s' := ⟨h.1, fun j hj _ _ _ => h.2 j hj⟩
/-- The list and the number after a run. -/
def RdP (o lf : Nat) (out' : List Pr) (left' : Int) (tok : Option Nat) (s s' : St) : Prop :=
  ∃ ov' tok', s'.obj o = some (.cells [ov']) ∧ Grw prc 0 s' ov' out' tok' ∧ s'.obj lf = some (.cells [.int .i64 left']) ∧ (tok' = tok ∨ ∃ k, tok' = some k ∧ s.size ≤ k) ∧ KeepR o lf tok s s'
/-- The list and the number ahead of a run. -/
def RdA (o lf : Nat) (out : List Pr) (left : Int) (ov : AV) (tok : Option Nat) (s : St) : Prop := s.obj o = some (.cells [ov]) ∧ Grw prc 0 s ov out tok ∧ s.obj lf = some (.cells [.int .i64 left]) ∧ o < s.size ∧ lf < s.size ∧ o ≠ lf
theorem RdA.ntok {o lf : Nat} {out : List Pr} {left : Int} {ov : AV} {tok : Option Nat} {s : St} (h : RdA o lf out left ov tok s) {j : Nat} {cs : List AV} (hj : s.obj j = some (.cells cs)) : some j ≠ tok := fun ht => by
  rcases h.2.1 with ⟨-, -, h⟩ | ⟨k2, h, -, -, h4, -, -⟩
  · rw [h] at ht; cases ht
  · rw [h] at ht; cases ht; rw [hj] at h4; cases h4
theorem grw_keepR {s s' : St} {v : AV} {l : List Pr} {tok : Option Nat} (h : Grw prc 0 s v l tok) (hs : s.size ≤ s'.size) (hk : ∀ j, j < s.size → some j = tok → s'.obj j = s.obj j) : Grw prc 0 s' v l tok :=
  h.keep hs (fun q hq => by
    rcases h with ⟨-, -, h⟩ | ⟨k2, h, -, -, -, h5, -⟩
    · rw [h] at hq; cases hq
    · rw [h] at hq; cases hq; exact hk _ h5 h.symm)
theorem RdA.keep {o lf : Nat} {out : List Pr} {left : Int} {ov : AV} {tok : Option Nat} {s s' : St} (h : RdA o lf out left ov tok s) (hk : Keep s s') : RdA o lf out left ov tok s' :=
  ⟨hk.obj h.2.2.2.1 h.1, grw_keepR h.2.1 hk.1 fun j hj _ => hk.2 j hj, hk.obj h.2.2.2.2.1 h.2.2.1, hk.lt h.2.2.2.1, hk.lt h.2.2.2.2.1, h.2.2.2.2.2⟩
theorem RdP.from {o lf : Nat} {out' : List Pr} {left' : Int} {tok : Option Nat} {s0 s s' : St} (h : RdP o lf out' left' tok s s') (hk : Keep s0 s) : RdP o lf out' left' tok s0 s' := by
  obtain ⟨ov', tok', h1, h2, h3, h4, h5⟩ := h
  refine ⟨ov', tok', h1, h2, h3, ?_, Nat.le_trans hk.1 h5.1, fun j hj a b c => (h5.2 j (Nat.lt_of_lt_of_le hj hk.1) a b c).trans (hk.2 j hj)⟩
  rcases h4 with h4 | ⟨k, h4, h6⟩
  · exact Or.inl h4
  · exact Or.inr ⟨k, h4, Nat.le_trans hk.1 h6⟩
theorem RdP.trans {o lf : Nat} {o1 o2 : List Pr} {l1 l2 : Int} {tok : Option Nat} {s s1 s2 : St} (h : RdP o lf o1 l1 tok s s1) (k : ∀ ov1 tok1, RdA o lf o1 l1 ov1 tok1 s1 → RdP o lf o2 l2 tok1 s1 s2) (ho : o < s.size) (hl : lf < s.size) (hne : o ≠ lf) : RdP o lf o2 l2 tok s s2 := by
  obtain ⟨ov1, tok1, h1, h2, h3, h4, h5⟩ := h
  obtain ⟨ov2, tok2, k1, k2, k3, k4, k5⟩ := k ov1 tok1 ⟨h1, h2, h3, Nat.lt_of_lt_of_le ho h5.1, Nat.lt_of_lt_of_le hl h5.1, hne⟩
  refine ⟨ov2, tok2, k1, k2, k3, ?_, Nat.le_trans h5.1 k5.1, fun j hj a b c => ?_⟩
  · rcases k4 with rfl | ⟨q, rfl, hq⟩
    · exact h4
    · exact Or.inr ⟨q, rfl, Nat.le_trans h5.1 hq⟩
  · rw [k5.2 j (Nat.lt_of_lt_of_le hj h5.1) a b (fun ht => by
      rcases h4 with rfl | ⟨q, rfl, hq⟩
      · exact c ht
      · cases ht; omega)]
    exact h5.2 j hj a b c

theorem instAt_mem {w : Pr} : ∀ {l : List In} {i k : Nat} {x : In}, instAt w i l = some (k, x) → x ∈ l
  | [], _, _, _, h => by simp [instAt] at h
  | y :: r, i, k, x, h => by
    rw [instAt] at h
    cases hf : fits w y
    · rw [hf] at h; exact List.mem_cons_of_mem _ (instAt_mem (l := r) h)
    · rw [hf] at h
      have h' : some (i, y) = some (k, x) := h
      cases h'; simp
theorem clo85_law (hX : NoX X) (p q : Pr) (b : Nat) (s : St) (ho : s.obj b = some (.cells (prc p))) (hp : b < s.size) : WC T X 85 [.agg (prc q), .ptr b 0] s (fun v s' => v = .bool (sameP p q) ∧ Keep s s') := by
  refine WC_fn cf85 (hX 85 (by decide)) T85 (by simp [cf85]) ?_
  simp only [prc] at ho ⊢
  cases h1 : (q.cls.toList == p.cls.toList)
  · simp only [cf85, ho, h1, ne_a hp, ne_b hp, Nat.le_add_left, go_sem, ↓reduceIte, reduceCtorEq, Nat.reduceEqDiff, Nat.reduceAdd, Nat.reduceSub, Nat.reduceMul, Nat.reduceLeDiff, Nat.reduceLT, loadA, rdCells, storeA, setAt, binA]
    exact ⟨by simp, _, rfl, by unfold sameP sq; rw [h1]; rfl, (Keep.refl s).new' _⟩
  · simp only [cf85, ho, h1, ne_a hp, ne_b hp, Nat.le_add_left, go_sem, ↓reduceIte, reduceCtorEq, Nat.reduceEqDiff, Nat.reduceAdd, Nat.reduceSub, Nat.reduceMul, Nat.reduceLeDiff, Nat.reduceLT, loadA, rdCells, storeA, setAt, binA]
    exact ⟨by simp, _, rfl, by unfold sameP sq; rw [h1]; rfl, (Keep.refl s).new' _⟩

/-- What the machine does at it. -/
def RdC (X : Ext) (iv : AV) (o lf : Nat) (out : List Pr) (left e : Int) (out' : List Pr) (left' : Int) : RdJ → Prop
  | .one p d => 0 ≤ d → d ≤ 401 → ∀ ov tok s, RdA o lf out left ov tok s → WC T X 67 [iv, .agg (prc p), .ptr o 0, .int .i64 d, .ptr lf 0] s (fun r s' => r = .int .i64 e ∧ RdP o lf out' left' tok s s')
  | .all ps d => 1 ≤ d → d ≤ 401 → ∀ (full : List Pr) (i : Nat) (nv ov : AV) (tok : Option Nat) (S : St) (en : Env), ISl prc nv full → full.length ≤ 8796093022208 → i ≤ full.length → full.drop i = ps → en 0 = iv → en 2 = .ptr o 0 → en 3 = .int .i64 (d - 1) → en 4 = .ptr lf 0 → en 57 = nv → en 58 = .int .i64 full.length → en 59 = .int .i64 i → RdA o lf out left ov tok S →
      W T X (.loop cf67_l0) en S (fun x e' S' => ((x = .exit 0 ∧ e = 0) ∨ (x = .ret ∧ e ≠ 0 ∧ e' 10 = .int .i64 e)) ∧ RdP o lf out' left' tok S S')
theorem drop_invP {full : List Pr} {i : Nat} {x : Pr} {l : List Pr} (h : full.drop i = x :: l) : i + 1 ≤ full.length ∧ full[i]? = some x ∧ full.drop (i + 1) = l := by
  have hi : i < full.length := by
    have := congrArg List.length h
    simp at this; omega
  rw [List.drop_eq_getElem_cons hi] at h
  cases h
  exact ⟨hi, List.getElem?_eq_getElem hi, rfl⟩
theorem grw_tok {S : St} {o : Nat} {ov1 ov2 : AV} {l1 l2 : List Pr} {t1 t2 : Option Nat} (h1 : S.obj o = some (.cells [ov1])) (h2 : S.obj o = some (.cells [ov2])) (g1 : Grw prc 0 S ov1 l1 t1) (g2 : Grw prc 0 S ov2 l2 t2) : t1 = t2 := by
  rw [h1] at h2
  have h3 : ov1 = ov2 := by cases h2; rfl
  subst h3
  rcases g1 with ⟨rfl, -, rfl⟩ | ⟨k, rfl, rfl, -⟩
  · rcases g2 with ⟨-, -, rfl⟩ | ⟨k, rfl, h, -⟩
    · rfl
    · cases h
  · rcases g2 with ⟨h, -, -⟩ | ⟨k2, rfl, h, -⟩
    · cases h
    · exact ((AV.sl.inj h).2.2.2)
theorem W_loop_eq {b L : CC} (hL : CC.loop b = L) {e : Env} {s : St} {Q : CX → Env → St → Prop} (h : W T X b e s (Then T X L Q)) : W T X L e s Q := by
  subst hL; exact W_loop h
set_option maxHeartbeats 16000000 in
theorem rd_law (hX : NoX X) {iv : AV} {ins : List In} (hi : ISl inc iv ins) (hbi : ins.length ≤ 4096) (hpl : ∀ x, x ∈ ins → x.pre.length * 72 ≤ 140737488355328 ∧ tsz x.hd ≤ 4096 ∧ ∀ t, (needs x t).length ≤ x.pre.length) {o lf : Nat} {out out' : List Pr} {left left' e : Int} {j : RdJ} (h : Rd ins out left j e out' left') :
    0 ≤ left → (out.length : Int) + left ≤ 4096 → RdC X iv o lf out left e out' left' j := by
  have start : ∀ (out out' : List Pr) (left left' : Int) (p : Pr) (d : Int) (s : St) (ov : AV) (tok : Option Nat), 0 ≤ left → (out.length : Int) + left ≤ 4096 → 0 ≤ d → RdA o lf out left ov tok s →
      ∃ S1, S1 = (s.new (.cells (prc p))).put lf (some (.cells [.int .i64 (left - 1)])) ∧ RdA o lf out (left - 1) ov tok S1 ∧ S1.obj s.size = some (.cells (prc p)) ∧ s.size < S1.size ∧ KeepR o lf tok s S1 := by
    intro out out' left left' p d s ov tok h0 hl hd ⟨a1, a2, a3, a4, a5, a6⟩
    refine ⟨_, rfl, ⟨by rw [put_ne a6, new_ne (by omega)]; exact a1, ?_, put_eq, by simp only [St.new, St.put]; omega, by simp only [St.new, St.put]; omega, a6⟩, by rw [put_ne (by omega)]; exact new_eq rfl, by simp [St.new, St.put], by simp only [St.new, St.put]; omega, fun j hj h1 h2 h3 => by rw [put_ne h2, new_ne (by omega)]⟩
    refine grw_keepR a2 (by simp only [St.new, St.put]; omega) fun j hj ht => ?_
    have : j ≠ lf := fun h => by
      subst h
      exact RdA.ntok ⟨a1, a2, a3, a4, a5, a6⟩ a3 ht
    rw [put_ne this, new_ne (by omega)]
  have one_ok : ∀ (out out' : List Pr) (left left' : Int) (tok : Option Nat) (s S1 S2 : St) (ov : AV), KeepR o lf tok s S1 → RdA o lf out left ov tok S1 → RdP o lf out' left' tok S1 S2 → s.size ≤ S1.size → RdP o lf out' left' tok s S2 := by
    intro out out' left left' tok s S1 S2 ov hk hA ⟨ov', tok', h1, h2, h3, h4, h5⟩ hz
    refine ⟨ov', tok', h1, h2, h3, ?_, Nat.le_trans hz h5.1, fun j hj a b c => (h5.2 j (Nat.lt_of_lt_of_le hj hz) a b c).trans (hk.2 j hj a b c)⟩
    rcases h4 with h4 | ⟨k, h4, h6⟩
    · exact Or.inl h4
    · exact Or.inr ⟨k, h4, Nat.le_trans hz h6⟩
  have same_ok : ∀ (out : List Pr) (left : Int) (tok : Option Nat) (s S1 : St) (ov : AV), KeepR o lf tok s S1 → RdA o lf out left ov tok S1 → RdP o lf out left tok s S1 := by
    intro out left tok s S1 ov hk ⟨a1, a2, a3, a4, a5, a6⟩
    exact ⟨ov, tok, a1, a2, a3, Or.inl rfl, hk⟩
  induction h with
  | large out left p d hlg =>
    intro h0 hl hd0 hd1 ov tok s hA
    obtain ⟨S1, hS1, hA1, oB, zB, hk1⟩ := start out out left left p d s ov tok h0 hl hd0 hA
    have hw : IntKind.i64.wrap (left - 1) = left - 1 := by rw [IntKind.wrap_i64]; omega
    refine WC_fn cf67 (hX 67 (by decide)) T67 (by simp [cf67]) ?_
    have a3 := hA.2.2.1
    have a5 := hA.2.2.2.2.1
    simp only [prc] at hS1 ⊢
    cases hdd : decide (d > 400)
    · have hlt : decide (left - 1 < 0) = true := by
        have : ¬ (d > 400) := of_decide_eq_false hdd
        simp; omega
      simp only [cf67, a3, hw, hdd, hlt, ne_a a5, ne_b a5, ne_c a5, ne_d a5, Nat.le_add_left, setAt, go_sem, ↓reduceIte, reduceCtorEq, Nat.reduceEqDiff, Nat.reduceAdd, Nat.reduceSub, Nat.reduceMul, Nat.reduceLeDiff, Nat.reduceLT, loadA, rdCells, storeA, setAt, binA]
      exact ⟨by simp, _, rfl, rfl, by rw [← hS1]; exact same_ok out (left - 1) tok s S1 ov hk1 hA1⟩
    · simp only [cf67, a3, hw, hdd, ne_a a5, ne_b a5, ne_c a5, ne_d a5, Nat.le_add_left, setAt, go_sem, ↓reduceIte, reduceCtorEq, Nat.reduceEqDiff, Nat.reduceAdd, Nat.reduceSub, Nat.reduceMul, Nat.reduceLeDiff, Nat.reduceLT, loadA, rdCells, storeA, setAt, binA]
      exact ⟨by simp, _, rfl, rfl, by rw [← hS1]; exact same_ok out (left - 1) tok s S1 ov hk1 hA1⟩
  | var out left p d hd hl' hk =>
    intro h0 hl hd0 hd1 ov tok s hA
    obtain ⟨S1, hS1, hA1, oB, zB, hk1⟩ := start out out left left p d s ov tok h0 hl hd0 hA
    have hw : IntKind.i64.wrap (left - 1) = left - 1 := by rw [IntKind.wrap_i64]; omega
    refine WC_fn cf67 (hX 67 (by decide)) T67 (by simp [cf67]) ?_
    have a3 := hA.2.2.1
    have a5 := hA.2.2.2.2.1
    have a4 := hA1.2.2.2.1
    have zz1 := hk1.1
    have hdd : decide (d > 400) = false := by simp; omega
    have hlt : decide (left - 1 < 0) = false := by simp; omega
    have oB' := oB
    have o1 := hA1.1
    simp only [prc] at hS1 oB' ⊢
    have hk0 : (kof p.ty == 0) = true := by simp [hk]
    have hbf : (s.size = lf) = False := eq_false (by omega)
    have hof : (o = lf) = False := eq_false hA.2.2.2.2.2
    have a1 := hA.1
    have hos := hA.2.2.2.1
    simp only [cf67, a3, hw, hdd, hlt, hk0, hbf, hof, a1, ne_a a5, ne_b a5, ne_c a5, ne_d a5, ne_a hos, ne_b hos, Nat.le_add_left, setAt, go_sem, ↓reduceIte, reduceCtorEq, Nat.reduceEqDiff, Nat.reduceAdd, Nat.reduceSub, Nat.reduceMul, Nat.reduceLeDiff, Nat.reduceLT, loadA, rdCells, storeA, setAt, binA]
    rw [← hS1]
    refine WO_callx _ rfl ((has_pr hX hA1.2.1.isl (by omega) 85 [.ptr s.size 0] (sameP p) S1 (fun q s1 _ hkq => clo85_law hX p q s.size s1 (hkq.obj zB oB) (hkq.lt zB))).mono ?_)
    rintro w S2 ⟨rfl, hk2⟩
    have hA2 := hA1.keep hk2
    cases ha : out.any (sameP p)
    · have hadd : addP out p = out ++ [p] := by rw [addP, ha]; rfl
      have o2 := hA2.1
      have oB2 := hk2.obj zB oB'
      have zB2 := hk2.lt zB
      obtain ⟨v', S4, hap, hg4, hz4, hk4⟩ := hA2.2.1.app prcP (Nat.zero_le _) p (bytes := 72) (by omega)
      simp only [prc] at hap
      have no := hA2.ntok hA2.1
      have nl := hA2.ntok hA2.2.2.1
      have nb := hA2.ntok oB2
      have o4 : S4.obj o = some (.cells [ov]) := by rw [hk4 o hA2.2.2.2.1 no]; exact o2
      have hv' : v'.cells = [v'] := by
        rcases hg4 with ⟨rfl, -, -⟩ | ⟨k2, -, rfl, -⟩ <;> rfl
      have hv1 : v'.one = true := by
        rcases hg4 with ⟨rfl, -, -⟩ | ⟨k2, -, rfl, -⟩ <;> rfl
      simp only [ha, o2, oB2, hap, o4, hv', hv1, ne_a zB2, ne_b zB2, Nat.le_add_left, setAt, go_sem, ↓reduceIte, reduceCtorEq, Nat.reduceEqDiff, Nat.reduceAdd, Nat.reduceSub, Nat.reduceMul, Nat.reduceLeDiff, Nat.reduceLT, loadA, rdCells, storeA, setAt, binA]
      refine ⟨by simp, _, rfl, rfl, ?_⟩
      rw [hadd]
      have hl4 : S4.obj lf = some (.cells [.int .i64 (left - 1)]) := by rw [hk4 lf hA2.2.2.2.2.1 nl]; exact hA2.2.2.1
      have z2 := hk2.1
      have oz2 := hA2.2.2.2.1
      refine ⟨v', some S2.size, put_eq, ?_, by rw [put_ne (Ne.symm hA.2.2.2.2.2)]; exact hl4, Or.inr ⟨_, rfl, by omega⟩, ?_⟩
      · exact grw_keepR hg4 (Nat.le_refl _) fun j hj ht => by cases ht; rw [put_ne (by omega)]
      · refine ⟨by simp only [St.put]; omega, fun j hj a b c => ?_⟩
        rw [put_ne a, hk4 j (by omega) c, hk2.2 j (by omega)]
        exact hk1.2 j hj a b c
    · have hadd : addP out p = out := by rw [addP, ha]; rfl
      simp only [ha, go_sem, ↓reduceIte, reduceCtorEq, Nat.reduceEqDiff, Nat.reduceAdd, Nat.reduceSub, Nat.reduceMul, Nat.reduceLeDiff, Nat.reduceLT, loadA, rdCells, storeA, setAt, binA]
      refine ⟨by simp, _, rfl, rfl, ?_⟩
      rw [hadd]
      have hk12 : KeepR o lf tok s S2 := ⟨Nat.le_trans hk1.1 hk2.1, fun j hj a b c => (hk2.2 j (Nat.lt_of_lt_of_le hj hk1.1)).trans (hk1.2 j hj a b c)⟩
      exact same_ok out (left - 1) tok s S2 ov hk12 hA2
  | no out left p d hd hl' hk hn =>
    intro h0 hl hd0 hd1 ov tok s hA
    obtain ⟨S1, hS1, hA1, oB, zB, hk1⟩ := start out out left left p d s ov tok h0 hl hd0 hA
    have hw : IntKind.i64.wrap (left - 1) = left - 1 := by rw [IntKind.wrap_i64]; omega
    refine WC_fn cf67 (hX 67 (by decide)) T67 (by simp [cf67]) ?_
    have a3 := hA.2.2.1
    have a5 := hA.2.2.2.2.1
    have a4 := hA1.2.2.2.1
    have zz1 := hk1.1
    have hdd : decide (d > 400) = false := by simp; omega
    have hlt : decide (left - 1 < 0) = false := by simp; omega
    have oB' := oB
    have o1 := hA1.1
    simp only [prc] at hS1 oB' ⊢
    have hk0 : (kof p.ty == 0) = false := by simpa using hk
    have hbf : (s.size = lf) = False := eq_false (by omega)
    simp only [cf67, a3, hw, hdd, hlt, hk0, hbf, ne_a a5, ne_b a5, ne_c a5, ne_d a5, Nat.le_add_left, setAt, go_sem, ↓reduceIte, reduceCtorEq, Nat.reduceEqDiff, Nat.reduceAdd, Nat.reduceSub, Nat.reduceMul, Nat.reduceLeDiff, Nat.reduceLT, loadA, rdCells, storeA, setAt, binA]
    rw [← hS1]
    have hil := fun S => instance_law hX hi hbi hpl p S
    simp only [prc] at hil
    refine WO_callx _ rfl ((hil _).mono ?_)
    rintro w S2 ⟨⟨nv, rfl, hnv⟩, hk2⟩
    simp only [hn, go_sem, ↓reduceIte, reduceCtorEq, Nat.reduceEqDiff, Nat.reduceAdd, Nat.reduceSub, Nat.reduceMul, Nat.reduceLeDiff, Nat.reduceLT, loadA, rdCells, storeA, setAt, binA]
    have hk12 : KeepR o lf tok s S2 := ⟨Nat.le_trans hk1.1 hk2.1, fun j hj a b c => (hk2.2 j (Nat.lt_of_lt_of_le hj hk1.1)).trans (hk1.2 j hj a b c)⟩
    exact ⟨by simp, _, rfl, rfl, same_ok out (left - 1) tok s S2 ov hk12 (hA1.keep hk2)⟩
  | yes out out' left left' p d e i x hd hl' hk hs hr ih =>
    intro h0 hl hd0 hd1 ov tok s hA
    obtain ⟨S1, hS1, hA1, oB, zB, hk1⟩ := start out out left left p d s ov tok h0 hl hd0 hA
    have hw : IntKind.i64.wrap (left - 1) = left - 1 := by rw [IntKind.wrap_i64]; omega
    refine WC_fn cf67 (hX 67 (by decide)) T67 (by simp [cf67]) ?_
    have a3 := hA.2.2.1
    have a5 := hA.2.2.2.2.1
    have a4 := hA1.2.2.2.1
    have zz1 := hk1.1
    have hdd : decide (d > 400) = false := by simp; omega
    have hlt : decide (left - 1 < 0) = false := by simp; omega
    have oB' := oB
    have o1 := hA1.1
    simp only [prc] at hS1 oB' ⊢
    have hk0 : (kof p.ty == 0) = false := by simpa using hk
    have hbf : (s.size = lf) = False := eq_false (by omega)
    simp only [cf67, a3, hw, hdd, hlt, hk0, hbf, ne_a a5, ne_b a5, ne_c a5, ne_d a5, Nat.le_add_left, setAt, go_sem, ↓reduceIte, reduceCtorEq, Nat.reduceEqDiff, Nat.reduceAdd, Nat.reduceSub, Nat.reduceMul, Nat.reduceLeDiff, Nat.reduceLT, loadA, rdCells, storeA, setAt, binA]
    rw [← hS1]
    have hil := fun S => instance_law hX hi hbi hpl p S
    simp only [prc] at hil
    refine WO_callx _ rfl ((hil _).mono ?_)
    rintro w S2 ⟨⟨nv, rfl, hnv⟩, hk2⟩
    have hk12 : KeepR o lf tok s S2 := ⟨Nat.le_trans hk1.1 hk2.1, fun j hj a b c => (hk2.2 j (Nat.lt_of_lt_of_le hj hk1.1)).trans (hk1.2 j hj a b c)⟩
    rw [hs] at hnv
    have hnlen := hnv.len
    have hnl : (needs x p.ty).length ≤ 8796093022208 := by
      have hxm := instAt_mem hs
      obtain ⟨g1, -, g3⟩ := hpl x hxm
      have := g3 p.ty
      omega
    simp only [hs, hnlen, go_sem, ↓reduceIte, reduceCtorEq, Nat.reduceEqDiff, Nat.reduceAdd, Nat.reduceSub, Nat.reduceMul, Nat.reduceLeDiff, Nat.reduceLT, loadA, rdCells, storeA, setAt, binA]
    refine (ih hl' (by omega) (by omega) (by omega) (needs x p.ty) 0 nv ov tok S2 _ hnv hnl (Nat.zero_le _) rfl ?_ ?_ ?_ ?_ ?_ ?_ ?_ (hA1.keep hk2)).mono ?_
    · simp only [go_sem, ↓reduceIte, reduceCtorEq, Nat.reduceEqDiff, Nat.reduceAdd, Nat.reduceSub, Nat.reduceMul, Nat.reduceLeDiff, Nat.reduceLT, loadA, rdCells, storeA, setAt, binA]
    · simp only [go_sem, ↓reduceIte, reduceCtorEq, Nat.reduceEqDiff, Nat.reduceAdd, Nat.reduceSub, Nat.reduceMul, Nat.reduceLeDiff, Nat.reduceLT, loadA, rdCells, storeA, setAt, binA]
    · simp only [go_sem, ↓reduceIte, reduceCtorEq, Nat.reduceEqDiff, Nat.reduceAdd, Nat.reduceSub, Nat.reduceMul, Nat.reduceLeDiff, Nat.reduceLT, loadA, rdCells, storeA, setAt, binA]; rw [show d + 1 - 1 = d by omega]
    · simp only [go_sem, ↓reduceIte, reduceCtorEq, Nat.reduceEqDiff, Nat.reduceAdd, Nat.reduceSub, Nat.reduceMul, Nat.reduceLeDiff, Nat.reduceLT, loadA, rdCells, storeA, setAt, binA]
    · simp only [go_sem, ↓reduceIte, reduceCtorEq, Nat.reduceEqDiff, Nat.reduceAdd, Nat.reduceSub, Nat.reduceMul, Nat.reduceLeDiff, Nat.reduceLT, loadA, rdCells, storeA, setAt, binA]
    · simp only [go_sem, ↓reduceIte, reduceCtorEq, Nat.reduceEqDiff, Nat.reduceAdd, Nat.reduceSub, Nat.reduceMul, Nat.reduceLeDiff, Nat.reduceLT, loadA, rdCells, storeA, setAt, binA]
    · simp only [go_sem, ↓reduceIte, reduceCtorEq, Nat.reduceEqDiff, Nat.reduceAdd, Nat.reduceSub, Nat.reduceMul, Nat.reduceLeDiff, Nat.reduceLT, loadA, rdCells, storeA, setAt, binA]; rfl
    · rintro xx e' S3 ⟨hxx, hP⟩
      have hfin : RdP o lf out' left' tok s S3 := one_ok out out' (left - 1) left' tok s S2 S3 ov hk12 (hA1.keep hk2) hP (Nat.le_trans hk1.1 hk2.1)
      rcases hxx with ⟨rfl, rfl⟩ | ⟨rfl, hne, he⟩
      · simp only [go_sem, ↓reduceIte, reduceCtorEq, Nat.reduceEqDiff, Nat.reduceAdd, Nat.reduceSub, Nat.reduceMul, Nat.reduceLeDiff, Nat.reduceLT, loadA, rdCells, storeA, setAt, binA]
        exact ⟨by simp, _, rfl, rfl, hfin⟩
      · simp only [go_sem, ↓reduceIte, reduceCtorEq, Nat.reduceEqDiff, Nat.reduceAdd, Nat.reduceSub, Nat.reduceMul, Nat.reduceLeDiff, Nat.reduceLT, loadA, rdCells, storeA, setAt, binA]
        exact ⟨by simp, _, rfl, he, hfin⟩
  | nil out left d =>
    intro h0 hl hd0 hd1 full i nv ov tok S en hnv hfl hil hdr e0 e2 e3 e4 e57 e58 e59 hA
    have hi2 : i = full.length := by have := congrArg List.length hdr; simp at this; omega
    subst hi2
    have hd : decide (((full.length : Nat) : Int) < (full.length : Int)) = false := by simp
    refine W_loop ?_
    simp only [cf67_l0, e0, e2, e3, e4, e57, e58, e59, hd, go_sem, ↓reduceIte, reduceCtorEq, Nat.reduceEqDiff, Nat.reduceAdd, Nat.reduceSub, Nat.reduceMul, Nat.reduceLeDiff, Nat.reduceLT, loadA, rdCells, storeA, setAt, binA]
    exact ⟨Or.inl trivial, same_ok out left tok S S ov ⟨Nat.le_refl _, fun _ _ _ _ _ => rfl⟩ hA⟩
  | ok out o1 o2 left l1 l2 p ps d e h hs ih1 ih2 =>
    intro h0 hl hd0 hd1 full i nv ov tok S en hnv hfl hil hdr e0 e2 e3 e4 e57 e58 e59 hA
    obtain ⟨hi1, hfx, hdr1⟩ := drop_invP hdr
    have hd : decide ((i : Int) < (full.length : Int)) = true := by simp; omega
    have hwd : IntKind.i64.wrap (d - 1 + 1) = d := by rw [IntKind.wrap_i64]; omega
    have hat := hnv.at prcP.len hfx
    have hcall := fun ov tok S => ih1 h0 hl (by omega) hd1 ov tok S
    simp only [prc, List.cons_append, List.nil_append] at hat hcall
    obtain ⟨S1, hS1⟩ : ∃ S1, S1 = (S.new (.cells [.str ⟨#[]⟩, .int .i64 0, .str ⟨#[]⟩, .int .i64 0, .nils])).put S.size (some (.cells [.str p.cls, .int .i64 (kof p.ty), .str (nof p.ty), .int .i64 (vof p.ty), .sl (tycs (lof p.ty)) (lof p.ty).length false none])) := ⟨_, rfl⟩
    have hkS : Keep S S1 := by rw [hS1]; exact ((Keep.refl S).new' _).put' (Nat.le_refl _) _
    generalize hL : CC.loop cf67_l0 = L
    refine W_loop_eq hL ?_
    simp only [cf67_l0, e0, e2, e3, e4, e57, e58, e59, hd, hat, hwd, Nat.le_add_left, go_sem, ↓reduceIte, reduceCtorEq, Nat.reduceEqDiff, Nat.reduceAdd, Nat.reduceSub, Nat.reduceMul, Nat.reduceLeDiff, Nat.reduceLT, loadA, rdCells, storeA, setAt, binA]
    rw [← hS1]
    refine WO_callx _ rfl ((hcall ov tok S1 (hA.keep hkS)).mono ?_)
    rintro w S2 ⟨rfl, hP⟩
    have hz0 : ((0 : Int) != 0) = false := rfl
    obtain ⟨r1, r2, r3⟩ := rd_len h h0
    have hP0 := hP.from hkS
    simp only [hz0, e0, e2, e3, e4, e57, e58, e59, wrapc (n := i) (by omega), go_sem, ↓reduceIte, reduceCtorEq, Nat.reduceEqDiff, Nat.reduceAdd, Nat.reduceSub, Nat.reduceMul, Nat.reduceLeDiff, Nat.reduceLT, loadA, rdCells, storeA, setAt, binA]
    subst hL
    obtain ⟨ov1, tok1, q1, q2, q3, q4, q5⟩ := hP0
    have hA2 : RdA o lf o1 l1 ov1 tok1 S2 := ⟨q1, q2, q3, Nat.lt_of_lt_of_le hA.2.2.2.1 q5.1, Nat.lt_of_lt_of_le hA.2.2.2.2.1 q5.1, hA.2.2.2.2.2⟩
    refine (ih2 (r3 rfl) (by omega) hd0 hd1 full (i + 1) nv ov1 tok1 S2 _ hnv hfl hi1 hdr1 ?_ ?_ ?_ ?_ ?_ ?_ ?_ hA2).mono ?_
    · simp only [e0, go_sem, ↓reduceIte, reduceCtorEq, Nat.reduceEqDiff, Nat.reduceAdd, Nat.reduceSub, Nat.reduceMul, Nat.reduceLeDiff, Nat.reduceLT, loadA, rdCells, storeA, setAt, binA]
    · simp only [e2, go_sem, ↓reduceIte, reduceCtorEq, Nat.reduceEqDiff, Nat.reduceAdd, Nat.reduceSub, Nat.reduceMul, Nat.reduceLeDiff, Nat.reduceLT, loadA, rdCells, storeA, setAt, binA]
    · simp only [e3, go_sem, ↓reduceIte, reduceCtorEq, Nat.reduceEqDiff, Nat.reduceAdd, Nat.reduceSub, Nat.reduceMul, Nat.reduceLeDiff, Nat.reduceLT, loadA, rdCells, storeA, setAt, binA]
    · simp only [e4, go_sem, ↓reduceIte, reduceCtorEq, Nat.reduceEqDiff, Nat.reduceAdd, Nat.reduceSub, Nat.reduceMul, Nat.reduceLeDiff, Nat.reduceLT, loadA, rdCells, storeA, setAt, binA]
    · simp only [e57, go_sem, ↓reduceIte, reduceCtorEq, Nat.reduceEqDiff, Nat.reduceAdd, Nat.reduceSub, Nat.reduceMul, Nat.reduceLeDiff, Nat.reduceLT, loadA, rdCells, storeA, setAt, binA]
    · simp only [e58, go_sem, ↓reduceIte, reduceCtorEq, Nat.reduceEqDiff, Nat.reduceAdd, Nat.reduceSub, Nat.reduceMul, Nat.reduceLeDiff, Nat.reduceLT, loadA, rdCells, storeA, setAt, binA]
    · simp only [go_sem, ↓reduceIte, reduceCtorEq, Nat.reduceEqDiff, Nat.reduceAdd, Nat.reduceSub, Nat.reduceMul, Nat.reduceLeDiff, Nat.reduceLT, loadA, rdCells, storeA, setAt, binA]
    · rintro xx e' S3 ⟨hxx, hP2⟩
      refine ⟨hxx, RdP.trans ⟨ov1, tok1, q1, q2, q3, q4, q5⟩ (fun ov2 tok2 hA3 => ?_) hA.2.2.2.1 hA.2.2.2.2.1 hA.2.2.2.2.2⟩
      have : tok2 = tok1 := grw_tok hA3.1 q1 hA3.2.1 q2
      rw [this]; exact hP2
  | bad out o1 left l1 p ps d e h he ih =>
    intro h0 hl hd0 hd1 full i nv ov tok S en hnv hfl hil hdr e0 e2 e3 e4 e57 e58 e59 hA
    obtain ⟨hi1, hfx, hdr1⟩ := drop_invP hdr
    have hd : decide ((i : Int) < (full.length : Int)) = true := by simp; omega
    have hwd : IntKind.i64.wrap (d - 1 + 1) = d := by rw [IntKind.wrap_i64]; omega
    have hat := hnv.at prcP.len hfx
    have hcall := fun ov tok S => ih h0 hl (by omega) hd1 ov tok S
    simp only [prc, List.cons_append, List.nil_append] at hat hcall
    obtain ⟨S1, hS1⟩ : ∃ S1, S1 = (S.new (.cells [.str ⟨#[]⟩, .int .i64 0, .str ⟨#[]⟩, .int .i64 0, .nils])).put S.size (some (.cells [.str p.cls, .int .i64 (kof p.ty), .str (nof p.ty), .int .i64 (vof p.ty), .sl (tycs (lof p.ty)) (lof p.ty).length false none])) := ⟨_, rfl⟩
    have hkS : Keep S S1 := by rw [hS1]; exact ((Keep.refl S).new' _).put' (Nat.le_refl _) _
    refine W_loop ?_
    simp only [cf67_l0, e0, e2, e3, e4, e57, e58, e59, hd, hat, hwd, Nat.le_add_left, go_sem, ↓reduceIte, reduceCtorEq, Nat.reduceEqDiff, Nat.reduceAdd, Nat.reduceSub, Nat.reduceMul, Nat.reduceLeDiff, Nat.reduceLT, loadA, rdCells, storeA, setAt, binA]
    rw [← hS1]
    refine WO_callx _ rfl ((hcall ov tok S1 (hA.keep hkS)).mono ?_)
    rintro w S2 ⟨rfl, hP⟩
    have hz0 : (e != 0) = true := by simpa using he
    simp only [hz0, e0, e2, e3, e4, e57, e58, e59, go_sem, ↓reduceIte, reduceCtorEq, Nat.reduceEqDiff, Nat.reduceAdd, Nat.reduceSub, Nat.reduceMul, Nat.reduceLeDiff, Nat.reduceLT, loadA, rdCells, storeA, setAt, binA]
    exact ⟨Or.inr he, hP.from hkS⟩
end Go.Am.U3
