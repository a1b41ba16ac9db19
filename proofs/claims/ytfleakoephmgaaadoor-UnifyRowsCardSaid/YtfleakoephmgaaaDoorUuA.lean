/- Extend and Unify over the unifier's runs. Conditions: none. -/
import Derived.Test.YtfleakoephmgaaaDoorUtG
import Derived.Test.YtfleakoephmgaaaDoorUoL
import Derived.Test.YtfleakoephmgaaaDoorUoI
import Derived.Test.YtfleakoephmgaaaDoorUnO
set_option linter.unusedSimpArgs false
set_option linter.unusedVariables false
namespace Go.Am.U1
open Go.Am.Un
set_option maxRecDepth 100000
set_option linter.unusedSimpArgs false
attribute [local go_sem] wseq COp.isStore wreg wdreg wret wskip wexit wblock wcnd cnd_t cnd_f then_n then_x then_r catch_n rnd_n rnd_x rnd_r catch_x catch_r wo_nil wo_grd grdO_t grdO_f wo_ops stpO wr_nil wr_alloc wr_guards grdR_t grdR_f wr_ops stpR evAllocs evOp env0_app eput_some eput_none eset_app Opd.ev wantedA faddrA snew_obj snew_size sput_obj sput_size av_cells av_one av_strip av_still unA eqbA fillA fldA lensA mmA mm2 mmFold List.getD_cons_zero List.getD_cons_succ List.getD_nil List.length_cons List.length_nil List.drop_zero List.drop_succ_cons List.take_succ_cons List.take_zero List.map_cons List.map_nil List.set_cons_zero List.set_cons_succ List.all_cons List.all_nil List.getElem?_cons_zero List.getElem?_cons_succ List.nil_append List.cons_append Nat.zero_add Nat.add_zero beq_self_eq_true bt bf Bool.not_true Bool.not_false Bool.and_true Bool.true_and Bool.and_false Bool.false_and and_self and_true true_and n0 n1 n2 n3 n4 m0 m1 m2 m3 c1 retA resAs resA undefA Option.map_some Option.map_none
variable {X : Ext}

/-- What Extend and Unify answer: the error, and without one the substitution then. -/
def ExtG (ss' : List Tm) (e : Int) (s : St) (v : AV) (s' : St) : Prop :=
  ∃ rv, v = .tup [rv, .int .i64 e] ∧ (e = 0 → ∃ q, rv = .msl q 0 ss'.length 4 ∧ s'.obj q = some (.cells (ss'.flatMap tyc)) ∧ q < s'.size) ∧ Keep s s'

theorem extG_law (hX : NoX X) {sv : AV} {ss ss' : List Tm} (hsv : ISl tyc sv ss) (h0 : 0 < ss.length) (hf : Fine ss) (hl : ss.length ≤ 4096) (a b : Tm) (e : Int) (hu : Un ss (.un a b) e ss') (hj : JWt ss.length (.un a b)) (s : St) :
    WC T X 47 [sv, .agg (tyc a), .agg (tyc b)] s (ExtG ss' e s) := by
  refine WC_fn cf47 (hX 47 (by decide)) T47 (by simp [cf47]) ?_
  have hcl := fun S => clone_law hX hsv h0 (by omega) S
  have hU := fun (b' p' : Nat) (S : St) (hne : b' ≠ p') (h : US S b' p' ss) => (un_law (b := b') hX hu hf hl hj) p' S hne h
  rw [tyc_w a, tyc_w b, tyw, tyw] at hU ⊢
  simp only [cf47, go_sem, ↓reduceIte, reduceCtorEq, Nat.reduceEqDiff, Nat.reduceAdd, Nat.reduceSub, Nat.reduceMul, Nat.reduceLeDiff, Nat.reduceLT, loadA, rdCells, storeA, setAt, binA]
  have hk1 := (((Keep.refl s).new' (.cells [.int .i64 (kof a), .str (nof a), .int .i64 (vof a), .sl (tycs (lof a)) (lof a).length false none])).new' (.cells [.int .i64 (kof b), .str (nof b), .int .i64 (vof b), .sl (tycs (lof b)) (lof b).length false none]))
  refine WO_callx _ rfl ((hcl _).mono ?_)
  rintro w S2 ⟨rfl, ho, hz, hk2⟩
  have hz2 := hk2.1
  simp only [St.new] at hz2 hz ho
  have e1 := hk2.2 s.size (by simp only [St.new]; omega)
  have e2 := hk2.2 (s.size + 1) (by simp only [St.new]; omega)
  simp only [go_sem, ↓reduceIte, reduceCtorEq, Nat.reduceEqDiff, Nat.reduceAdd, Nat.reduceSub, Nat.reduceMul, Nat.reduceLeDiff, Nat.reduceLT, loadA, rdCells, storeA, setAt, binA] at e1 e2
  have q1 : s.size < S2.size := by omega
  have q2 : s.size + 1 < S2.size := by omega
  simp only [e1, e2, ne_a q1, ne_b q1, ne_a q2, ne_b q2, Nat.le_add_left, go_sem, ↓reduceIte, reduceCtorEq, Nat.reduceEqDiff, Nat.reduceAdd, Nat.reduceSub, Nat.reduceMul, Nat.reduceLeDiff, Nat.reduceLT, loadA, rdCells, storeA, setAt, binA]
  refine WO_callx _ rfl ((hU S2.size (s.size + 1 + 1) _ (by omega) ⟨new_eq rfl, ?_, ?_, ?_⟩).mono ?_)
  · rw [new_ne (by omega)]; exact ho
  · simp [St.new]
  · simp only [St.new]; omega
  rintro w3 S3 ⟨rfl, p3, u3, hbp3, hpp3, k3⟩
  have g1 := u3.1
  have hk12 := hk1.trans hk2
  have hz3 := k3.1
  simp only [St.new] at hz3 hpp3
  have hkk : Keep s S3 := ⟨by omega, fun j hj => by
    rw [k3.2 j (by simp only [St.new]; omega) (by omega) (by omega), new_ne (by omega)]; exact hk12.2 j hj⟩
  simp only [go_sem, ↓reduceIte, reduceCtorEq, Nat.reduceEqDiff, Nat.reduceAdd, Nat.reduceSub, Nat.reduceMul, Nat.reduceLeDiff, Nat.reduceLT, loadA, rdCells, storeA, setAt, binA]
  cases hc : (e != 0)
  · simp only [g1, Nat.le_add_left, go_sem, ↓reduceIte, reduceCtorEq, Nat.reduceEqDiff, Nat.reduceAdd, Nat.reduceSub, Nat.reduceMul, Nat.reduceLeDiff, Nat.reduceLT, loadA, rdCells, storeA, setAt, binA]
    have he : e = 0 := by simpa using hc
    refine ⟨by simp, _, rfl, _, by rw [he], fun _ => ⟨_, rfl, u3.2.1, u3.2.2.2⟩, hkk⟩
  · simp only [go_sem, ↓reduceIte, reduceCtorEq, Nat.reduceEqDiff, Nat.reduceAdd, Nat.reduceSub, Nat.reduceMul, Nat.reduceLeDiff, Nat.reduceLT, loadA, rdCells, storeA, setAt, binA]
    exact ⟨by simp, _, rfl, _, rfl, fun h => by simp [h] at hc, hkk⟩

theorem unifyG_law (hX : NoX X) {sv : AV} (hsv : ISl tyc sv (vars 12)) (ss' : List Tm) (a b : Tm) (wa wb : AV) (hwa : ISl tyc wa (lof a)) (hwb : ISl tyc wb (lof b)) (e : Int) (s : St)
    (ha : (chk (decide (kof a ≥ 4)) 1 4096 a).1 = 0) (hb : (chk (decide (kof b ≥ 4)) 1 4096 b).1 = 0) (fa : (fre a).any (fun x => decide (x ≥ 12)) = false) (fb : (fre b).any (fun x => decide (x ≥ 12)) = false) (ta : tsz a ≤ 4096) (tb : tsz b ≤ 4096)
    (hE : ∀ S, WC T X 47 [sv, .agg (tyc a), .agg (tyc b)] S (ExtG ss' e S)) :
    WC T X 15 [sv, .agg (tyw a wa), .agg (tyw b wb)] s (ExtG ss' e s) := by
  refine WC_fn cf15 (hX 15 (by decide)) T15 (by simp [cf15]) ?_
  have hcl : sv.cells = [sv] := by rcases hsv with ⟨rfl, -⟩ | ⟨f, t, rfl⟩ <;> rfl
  have hck := fun S => checkS_law hX hsv S
  have sa : AV.strip wa = .sl (tycs (lof a)) (lof a).length false none := by
    rcases hwa with ⟨rfl, h⟩ | ⟨f, tk, rfl⟩
    · rw [h, tycs]; rfl
    · rw [tycs_flat]; rfl
  have sb : AV.strip wb = .sl (tycs (lof b)) (lof b).length false none := by
    rcases hwb with ⟨rfl, h⟩ | ⟨f, tk, rfl⟩
    · rw [h, tycs]; rfl
    · rw [tycs_flat]; rfl
  simp only [cf15, tyw, hcl, go_sem, ↓reduceIte, reduceCtorEq, Nat.reduceEqDiff, Nat.reduceAdd, Nat.reduceSub, Nat.reduceMul, Nat.reduceLeDiff, Nat.reduceLT, loadA, rdCells, storeA, setAt, binA]
  refine WO_callx _ rfl ((hck _).mono ?_)
  rintro w S1 ⟨rfl, hk1⟩
  have d0 : ((0 : Int) != 0) = false := rfl
  have hz1 := hk1.1
  simp only [St.new] at hz1
  have e0 := hk1.2 s.size (by simp only [St.new]; omega)
  have e1 := hk1.2 (s.size + 1) (by simp only [St.new]; omega)
  have e2 := hk1.2 (s.size + 1 + 1) (by simp only [St.new]; omega)
  simp only [go_sem, ↓reduceIte, reduceCtorEq, Nat.reduceEqDiff, Nat.reduceAdd, Nat.reduceSub, Nat.reduceMul, Nat.reduceLeDiff, Nat.reduceLT, loadA, rdCells, storeA, setAt, binA] at e0 e1 e2
  simp only [d0, e0, e1, e2, sa, sb, Nat.le_add_left, go_sem, ↓reduceIte, reduceCtorEq, Nat.reduceEqDiff, Nat.reduceAdd, Nat.reduceSub, Nat.reduceMul, Nat.reduceLeDiff, Nat.reduceLT, loadA, rdCells, storeA, setAt, binA]
  have hsl : lenA sv = some (.int .i64 12) := by have := hsv.len; rw [vars_len] at this; exact this
  refine W_loop_nat (fun kk e S => ∃ (i : Nat), i + kk = 2 ∧ e 3 = .ptr s.size 0 ∧ e 4 = .ptr (s.size + 1) 0 ∧ e 5 = .ptr (s.size + 1 + 1) 0 ∧ e 19 = .agg [.int .i64 (kof a), .str (nof a), .int .i64 (vof a), .sl (tycs (lof a)) (lof a).length false none, .int .i64 (kof b), .str (nof b), .int .i64 (vof b), .sl (tycs (lof b)) (lof b).length false none] ∧ e 20 = .int .i64 i ∧ s.size + 1 + 1 < S.size ∧
      S.obj s.size = some (.cells [sv]) ∧ S.obj (s.size + 1) = some (.cells [.int .i64 (kof a), .str (nof a), .int .i64 (vof a), wa]) ∧ S.obj (s.size + 1 + 1) = some (.cells [.int .i64 (kof b), .str (nof b), .int .i64 (vof b), wb]) ∧ Keep s S) ?_ 2 _ _
    ⟨0, by simp, ?_, ?_, ?_, ?_, ?_, by omega, e0, e1, e2, (((Keep.refl s).new' _).new' _).new' _ |>.trans hk1⟩
  · rintro kk e S ⟨i, hik, i3, i4, i5, i19, i20, hz, o0, o1, o2, hkp⟩
    by_cases hi : i < 2
    · have hd : decide ((i : Int) < (2 : Int)) = true := by simp; omega
      obtain ⟨t, ht, hct, hft, htt⟩ : ∃ t, idxaA true 2 4 (.agg [.int .i64 (kof a), .str (nof a), .int .i64 (vof a), .sl (tycs (lof a)) (lof a).length false none, .int .i64 (kof b), .str (nof b), .int .i64 (vof b), .sl (tycs (lof b)) (lof b).length false none]) (.int .i64 i) = some (.agg [.int .i64 (kof t), .str (nof t), .int .i64 (vof t), .sl (tycs (lof t)) (lof t).length false none]) ∧ (chk (decide (kof t ≥ 4)) 1 4096 t).1 = 0 ∧ (fre t).any (fun x => decide (x ≥ 12)) = false ∧ tsz t ≤ 4096 := by
        have : i = 0 ∨ i = 1 := by omega
        rcases this with rfl | rfl
        · exact ⟨a, rfl, ha, fa, ta⟩
        · exact ⟨b, rfl, hb, fb, tb⟩
      have hckt := fun S1 b ho hb => check_law hX b (tsz t) t (Nat.le_refl _) _ 1 4096 (decide (kof t ≥ 4)) S1 (isl_tycs (lof t)) (by omega) (by omega) (by omega) (by omega) ho hb
      have hfrt := fun S1 => free_law hX (tsz t) t (Nat.le_refl _) (by omega) _ S1 (isl_tycs (lof t))
      simp only [tyw] at hckt hfrt
      have p0 : s.size < S.size := by omega
      have p1 : s.size + 1 < S.size := by omega
      simp only [cf15_l0, i3, i4, i5, i19, i20, hd, ht, Nat.le_add_left, go_sem, ↓reduceIte, reduceCtorEq, Nat.reduceEqDiff, Nat.reduceAdd, Nat.reduceSub, Nat.reduceMul, Nat.reduceLeDiff, Nat.reduceLT, loadA, rdCells, storeA, setAt, binA]
      refine WO_callx _ rfl ((hckt _ (S.size + 1) (new_eq (by simp [St.new, St.put])) (by simp [St.new, St.put])).mono ?_)
      rintro w2 S2 ⟨rfl, -, hk2⟩
      rw [hct]
      have hz2 := hk2.1
      simp only [St.new, St.put] at hz2
      have c0 := hk2.2 S.size (by simp only [St.new, St.put]; omega) (by omega)
      simp only [go_sem, ↓reduceIte, reduceCtorEq, Nat.reduceEqDiff, Nat.reduceAdd, Nat.reduceSub, Nat.reduceMul, Nat.reduceLeDiff, Nat.reduceLT, loadA, rdCells, storeA, setAt, binA] at c0
      have hk02 : Keep S S2 := ⟨by omega, fun j hj => by
        rw [hk2.2 _ (by simp only [St.new, St.put]; omega) (by omega), new_ne (by simp only [St.new, St.put]; omega), put_ne (by omega), new_ne (by omega)]⟩
      simp only [i3, i4, i5, i19, i20, d0, c0, Nat.le_add_left, go_sem, ↓reduceIte, reduceCtorEq, Nat.reduceEqDiff, Nat.reduceAdd, Nat.reduceSub, Nat.reduceMul, Nat.reduceLeDiff, Nat.reduceLT, loadA, rdCells, storeA, setAt, binA]
      refine WO_callx _ rfl ((hfrt _).mono ?_)
      rintro fv S3 ⟨hfv, hk3⟩
      have hk03 := hk02.trans hk3
      simp only [i3, i4, i5, i19, i20, go_sem, ↓reduceIte, reduceCtorEq, Nat.reduceEqDiff, Nat.reduceAdd, Nat.reduceSub, Nat.reduceMul, Nat.reduceLeDiff, Nat.reduceLT, loadA, rdCells, storeA, setAt, binA]
      refine WO_callx _ rfl ((contains_fi hX hfv (by have := fre_len t; omega) 46 [.ptr s.size 0] (fun x => decide (x ≥ 12)) S3 (fun x S4 _ hk4 => clo46_law hX x 12 s.size sv hsl S4 (hk4.obj (hk03.lt p0) (hk03.obj p0 o0)))).mono ?_)
      rintro v5 S5 ⟨rfl, hk5⟩
      have hk05 := hk03.trans hk5
      simp only [i3, i4, i5, i19, i20, hft, wrapn (n := i) (by omega), go_sem, ↓reduceIte, reduceCtorEq, Nat.reduceEqDiff, Nat.reduceAdd, Nat.reduceSub, Nat.reduceMul, Nat.reduceLeDiff, Nat.reduceLT, loadA, rdCells, storeA, setAt, binA]
      exact ⟨kk - 1, by omega, i + 1, by omega, rfl, hk05.lt hz, hk05.obj p0 o0, hk05.obj p1 o1, hk05.obj hz o2, hkp.trans hk05⟩
    · obtain rfl : i = 2 := by omega
      have hd : decide (((2 : Nat) : Int) < (2 : Int)) = false := rfl
      have hE' := hE S
      rw [tyc_w a, tyc_w b, tyw, tyw] at hE'
      simp only [cf15_l0, i3, i4, i5, i19, i20, hd, o0, o1, o2, sa, sb, Nat.le_add_left, go_sem, ↓reduceIte, reduceCtorEq, Nat.reduceEqDiff, Nat.reduceAdd, Nat.reduceSub, Nat.reduceMul, Nat.reduceLeDiff, Nat.reduceLT, loadA, rdCells, storeA, setAt, binA]
      refine WO_callx _ rfl (hE'.mono ?_)
      rintro w2 S2 ⟨rv, rfl, hq, hk2⟩
      simp only [go_sem, ↓reduceIte, reduceCtorEq, Nat.reduceEqDiff, Nat.reduceAdd, Nat.reduceSub, Nat.reduceMul, Nat.reduceLeDiff, Nat.reduceLT, loadA, rdCells, storeA, setAt, binA]
      exact ⟨by simp, _, rfl, rv, rfl, hq, hkp.trans hk2⟩
  · simp only [go_sem, ↓reduceIte, reduceCtorEq, Nat.reduceEqDiff, Nat.reduceAdd, Nat.reduceSub, Nat.reduceMul, Nat.reduceLeDiff, Nat.reduceLT, loadA, rdCells, storeA, setAt, binA]
  · simp only [go_sem, ↓reduceIte, reduceCtorEq, Nat.reduceEqDiff, Nat.reduceAdd, Nat.reduceSub, Nat.reduceMul, Nat.reduceLeDiff, Nat.reduceLT, loadA, rdCells, storeA, setAt, binA]
  · simp only [go_sem, ↓reduceIte, reduceCtorEq, Nat.reduceEqDiff, Nat.reduceAdd, Nat.reduceSub, Nat.reduceMul, Nat.reduceLeDiff, Nat.reduceLT, loadA, rdCells, storeA, setAt, binA]
  · simp only [go_sem, ↓reduceIte, reduceCtorEq, Nat.reduceEqDiff, Nat.reduceAdd, Nat.reduceSub, Nat.reduceMul, Nat.reduceLeDiff, Nat.reduceLT, loadA, rdCells, storeA, setAt, binA]
  · simp only [go_sem, ↓reduceIte, reduceCtorEq, Nat.reduceEqDiff, Nat.reduceAdd, Nat.reduceSub, Nat.reduceMul, Nat.reduceLeDiff, Nat.reduceLT, loadA, rdCells, storeA, setAt, binA]; rfl
end Go.Am.U1

/- Runs of the unifier over rows of labels. Conditions: none. -/
namespace Go.Am.U2
open Go.Am.Un
open Go.Am.U1 (vtm vars vars_len vars_at WalkTo ExR TlE Un Jb BdR OC szd Fine Wt JWt Acy wt_vtm Wts wt_le)
set_option linter.unusedSimpArgs false

def rwT : List (ByteArray × Tm) → Tm
  | [] => emp
  | x :: r => .mk 5 x.1 0 [x.2, rwT r]
def fT (n : ByteArray) : ByteArray × Tm := (n, vtm (n.size % 12))
theorem bldr_rw (l : List ByteArray) : bldr l = rwT (l.reverse.map fT) := by
  have : ∀ (l : List ByteArray) (t : List ByteArray), l.foldl (fun out n => Tm.mk 5 n 0 [vtm (n.size % 12), out]) (rwT (t.map fT)) = rwT ((l.reverse ++ t).map fT) := by
    intro l
    induction l with
    | nil => intro t; rfl
    | cons a r ih =>
      intro t
      have := ih (a :: t)
      rw [List.foldl_cons, List.reverse_cons, List.append_assoc]
      exact this
  have := this l []
  rwa [List.append_nil] at this
theorem tl_inj {a b : ByteArray} (h : (a.toList == b.toList) = true) : a = b := by
  have h := beq_iff_eq.1 h
  rw [ByteArray.toList_eq, ByteArray.toList_eq] at h
  cases a; cases b
  simpa using h
theorem tl_ne {a b : ByteArray} (h : a ≠ b) : (a.toList == b.toList) = false := by
  cases hh : (a.toList == b.toList)
  · rfl
  · exact absurd (tl_inj hh) h
theorem rw_kof : ∀ Q, 4 ≤ kof (rwT Q)
  | [] => by simp [rwT, emp, kof]
  | _ :: _ => by simp [rwT, kof]
theorem rw_walk (ss : List Tm) (Q : List (ByteArray × Tm)) : WalkTo ss (rwT Q) (rwT Q) := .con _ (by have := rw_kof Q; omega)
theorem rw_tle (ss : List Tm) : ∀ Q, TlE ss (rwT Q) (-1)
  | [] => .stop _ (by simp [rwT, emp, kof]) (by simp [rwT, emp, kof])
  | x :: r => .row x.1 0 x.2 _ _ _ (rw_walk ss r) (rw_tle ss r)

def rm (n : ByteArray) : List ByteArray → List ByteArray
  | [] => []
  | m :: r => if m = n then r else m :: rm n r
theorem rm_perm (n : ByteArray) : ∀ Q : List ByteArray, n ∈ Q → Q.Perm (n :: rm n Q)
  | [], h => by simp at h
  | m :: r, h => by
    by_cases hm : m = n
    · subst hm; rw [rm, if_pos rfl]
    · have hr : n ∈ r := by rcases List.mem_cons.1 h with h | h; exact absurd h.symm hm; exact h
      rw [rm, if_neg hm]
      exact ((rm_perm n r hr).cons m).trans (List.Perm.swap n m _)
theorem ex_f (ss : List Tm) (z : Int) (n : ByteArray) : ∀ Q : List ByteArray, n ∈ Q → ExR n z ss (rwT (Q.map fT)) 0 (vtm (n.size % 12)) (rwT ((rm n Q).map fT)) ss
  | [], h => by simp at h
  | m :: r, h => by
    by_cases hm : m = n
    · subst hm
      rw [rm, if_pos rfl]
      exact .here _ m 0 _ _ (rw_walk ss ((m :: r).map fT)) (by simp)
    · have hr : n ∈ r := by rcases List.mem_cons.1 h with h | h; exact absurd h.symm hm; exact h
      rw [rm, if_neg hm]
      exact .there _ m 0 _ _ 0 _ _ ss (rw_walk ss ((m :: r).map fT)) (tl_ne hm) (ex_f ss z n r hr)
theorem walk_v {i : Nat} (h : i < 12) : WalkTo (vars 12) (vtm i) (vtm i) := U1.walk_vtm h
theorem perm_un : ∀ P Q : List ByteArray, Q.Perm P → Un (vars 12) (.un (rwT (P.map fT)) (rwT (Q.map fT))) 0 (vars 12)
  | [], Q, h => by
    rw [List.perm_nil.1 h]
    exact .args _ _ _ 4 ⟨#[]⟩ ⟨#[]⟩ 0 0 [] [] 0 _ (rw_walk _ []) (rw_walk _ []) (by decide) (by decide) (by simp) rfl (.nil _)
  | n :: P, Q, h => by
    have hn : n ∈ Q := h.mem_iff.2 (by simp)
    have he : (rm n Q).Perm P := ((rm_perm n Q hn).symm.trans h).cons_inv
    refine .row _ _ _ _ n 0 _ _ 0 _ (rw_walk _ ((n :: P).map fT)) (rw_walk _ _) (rw_kof _) ?_
    have hi : n.size % 12 < 12 := Nat.mod_lt _ (by decide)
    refine .rok _ (vars 12) (vars 12) _ n 0 _ _ _ _ _ (-1) 0 (rw_tle _ ((n :: P).map fT)) (ex_f _ _ n Q hn) ?_ (perm_un P _ he)
    exact .bl _ _ _ _ (n.size % 12) 0 _ (walk_v hi) (walk_v hi) (Or.inl ⟨rfl, rfl, rfl, rfl⟩)

/-- Each variable is itself, or is the number type. -/
def Stt (ss : List Tm) : Prop := ss.length = 12 ∧ ∀ i, i < 12 → ss[i]? = some (vtm i) ∨ ss[i]? = some numT
theorem stt_vars : Stt (vars 12) := ⟨vars_len 12, fun _ h => Or.inl (vars_at h)⟩
theorem walk_num (ss : List Tm) : WalkTo ss numT numT := .con _ (by simp [numT, kof])
theorem stt_walk {ss : List Tm} (h : Stt ss) {i : Nat} (hi : i < 12) : WalkTo ss (vtm i) (vtm i) ∨ WalkTo ss (vtm i) numT := by
  rcases h.2 i hi with h | h
  · exact Or.inl (.self _ (vtm i) i rfl rfl h rfl rfl)
  · exact Or.inr (.step _ numT numT i rfl rfl h (by simp [numT, kof]) (walk_num ss))
theorem num_un {ss : List Tm} {a b : Tm} (ha : WalkTo ss a numT) (hb : WalkTo ss b numT) : Un ss (.un a b) 0 ss :=
  .args _ _ _ 1 _ _ 0 0 [] [] 0 _ ha hb (by decide) (by decide) (by simp) rfl (.nil _)
theorem var_un {ss : List Tm} (h : Stt ss) {i : Nat} (hi : i < 12) {a b : Tm} (ha : WalkTo ss a (vtm i)) (hb : WalkTo ss b numT) : ∃ e ss', Un ss (.un a b) e ss' ∧ (e = 0 → Stt ss') := by
  have hk : ¬ (kof numT = 0 ∧ vof numT = (i : Int)) := by simp [numT, kof]
  by_cases ho : OC ss i numT
  · exact ⟨8, ss, .bl _ _ _ _ i 8 _ ha hb (Or.inr (Or.inl ⟨hk, ho, rfl, rfl⟩)), fun h => by cases h⟩
  · refine ⟨_, _, .bl _ _ _ _ i _ _ ha hb (Or.inr (Or.inr ⟨hk, ho, rfl, rfl⟩)), fun _ => ⟨by rw [List.length_set]; exact h.1, fun j hj => ?_⟩⟩
    by_cases hij : i = j
    · subst hij
      exact Or.inr (List.getElem?_set_self (by rw [h.1]; exact hi))
    · rw [List.getElem?_set_ne hij]; exact h.2 j hj
theorem el_un {ss : List Tm} (h : Stt ss) {i : Nat} (hi : i < 12) {y : Tm} (hy : y = vtm i ∨ y = numT) : ∃ e ss', Un ss (.un (vtm i) y) e ss' ∧ (e = 0 → Stt ss') := by
  rcases stt_walk h hi with hw | hw
  · rcases hy with rfl | rfl
    · exact ⟨0, ss, .bl _ _ _ _ i 0 _ hw hw (Or.inl ⟨rfl, rfl, rfl, rfl⟩), fun _ => h⟩
    · exact var_un h hi hw (walk_num ss)
  · rcases hy with rfl | rfl
    · exact ⟨0, ss, num_un hw hw, fun _ => h⟩
    · exact ⟨0, ss, num_un hw (walk_num ss), fun _ => h⟩

theorem ex_in (ss : List Tm) (z : Int) (n : ByteArray) : ∀ Q : List (ByteArray × Tm), (∃ x, x ∈ Q ∧ x.1 = n) → ∃ t Q', ExR n z ss (rwT Q) 0 t (rwT Q') ss ∧ Q'.length + 1 = Q.length ∧ (∀ x, x ∈ Q' → x ∈ Q) ∧ (n, t) ∈ Q
  | [], h => by obtain ⟨x, h, -⟩ := h; simp at h
  | y :: r, h => by
    by_cases hm : y.1 = n
    · refine ⟨y.2, r, .here _ y.1 0 _ _ (rw_walk ss (y :: r)) (by rw [hm]; simp), rfl, fun x hx => by simp [hx], ?_⟩
      rw [← hm]; simp
    · obtain ⟨x, hx, hn⟩ := h
      have hr : x ∈ r := by
        rcases List.mem_cons.1 hx with h | h
        · rw [h] at hn; exact absurd hn hm
        · exact h
      obtain ⟨t, Q', h1, h2, h3, h4⟩ := ex_in ss z n r ⟨x, hr, hn⟩
      refine ⟨t, y :: Q', .there _ y.1 0 _ _ 0 _ _ ss (rw_walk ss (y :: r)) (tl_ne hm) h1, by simp; omega, fun x hx => ?_, by simp [h4]⟩
      rcases List.mem_cons.1 hx with h | h
      · simp [h]
      · simp [h3 x h]
theorem ex_out (ss : List Tm) (z : Int) (n : ByteArray) : ∀ Q : List (ByteArray × Tm), (∀ x, x ∈ Q → x.1 ≠ n) → ∃ t q, ExR n z ss (rwT Q) 10 t q ss
  | [], _ => ⟨_, _, .stop _ _ (rw_walk ss []) (by simp [rwT, emp, kof]) (by simp [rwT, emp, kof])⟩
  | y :: r, h => by
    obtain ⟨t, q, h1⟩ := ex_out ss z n r fun x hx => h x (by simp [hx])
    exact ⟨t, _, .there _ y.1 0 _ _ 10 _ _ ss (rw_walk ss (y :: r)) (tl_ne (h y (by simp))) h1⟩

theorem row_un : ∀ (P : List ByteArray) (Q : List (ByteArray × Tm)) (ss : List Tm), Stt ss → P.length < Q.length → (∀ x, x ∈ Q → x.2 = vtm (x.1.size % 12) ∨ x.2 = numT) → ∃ e ss', e ≠ 0 ∧ Un ss (.un (rwT (P.map fT)) (rwT Q)) e ss'
  | [], [], _, _, h, _ => by simp at h
  | [], y :: r, ss, _, _, _ => ⟨10, ss, by decide, .bad _ _ _ _ _ (rw_walk ss []) (rw_walk ss (y :: r)) (by simp [rwT, emp, kof]) (by simp [rwT, kof]) (by simp [rwT, emp, kof]) (Or.inl (by simp [rwT, emp, kof]))⟩
  | n :: P, Q, ss, h, hl, hq => by
    have hi : n.size % 12 < 12 := Nat.mod_lt _ (by decide)
    have hrow : ∀ {e ss'}, Un ss (.rw n 0 (vtm (n.size % 12)) (rwT (P.map fT)) (rwT Q)) e ss' → Un ss (.un (rwT ((n :: P).map fT)) (rwT Q)) e ss' := fun hu => .row _ _ _ _ n 0 _ _ _ _ (rw_walk _ ((n :: P).map fT)) (rw_walk _ _) (rw_kof _) hu
    by_cases hn : ∃ x, x ∈ Q ∧ x.1 = n
    · obtain ⟨t, Q', h1, h2, h3, h4⟩ := ex_in ss (-1) n Q hn
      obtain ⟨e, ss1, hu, hs⟩ := el_un h hi (hq _ h4)
      by_cases he : e = 0
      · subst he
        obtain ⟨e2, ss2, he2, hu2⟩ := row_un P Q' ss1 (hs rfl) (by simp at hl; omega) fun x hx => hq x (h3 x hx)
        exact ⟨e2, ss2, he2, hrow (.rok _ ss ss1 ss2 n 0 _ _ _ _ _ (-1) e2 (rw_tle _ ((n :: P).map fT)) h1 hu hu2)⟩
      · exact ⟨e, ss1, he, hrow (.hdf _ ss ss1 n 0 _ _ _ _ _ (-1) e (rw_tle _ ((n :: P).map fT)) h1 hu he)⟩
    · obtain ⟨t, q, h1⟩ := ex_out ss (-1) n Q fun x hx hh => hn ⟨x, hx, hh⟩
      exact ⟨10, ss, by decide, hrow (.exf _ ss n 0 _ _ _ _ _ (-1) 10 (rw_tle _ ((n :: P).map fT)) h1 (by decide))⟩

theorem one_un (x : ByteArray) : Un (vars 12) (.un (.mk 5 x 0 [numT, emp]) emp) 10 (vars 12) := by
  refine .row _ _ _ _ x 0 _ _ 10 _ (rw_walk _ [(x, numT)]) (rw_walk _ []) (rw_kof []) ?_
  obtain ⟨t, q, h⟩ := ex_out (vars 12) (-1) x [] (by simp)
  exact .exf _ _ x 0 _ _ _ _ _ (-1) 10 (rw_tle _ [(x, numT)]) h (by decide)

theorem fine_vars : Fine (vars 12) := by
  refine ⟨⟨fun _ => 0, ⟨fun i u hi => ?_, fun i u hi => ?_⟩⟩, by rw [vars_len]; decide⟩
  · have h : i < 12 := by have := (List.getElem?_eq_some_iff.1 hi).1; rwa [vars_len] at this
    rw [vars_at h] at hi; cases hi
    rw [vars_len]; exact wt_vtm h
  · have h : i < 12 := by have := (List.getElem?_eq_some_iff.1 hi).1; rwa [vars_len] at this
    rw [vars_at h] at hi; cases hi
    exact Or.inl ⟨rfl, rfl⟩
theorem wt_num : Wt 12 numT := by rw [numT, Wt]; simp [Wts]
theorem wt_emp : Wt 12 emp := by rw [emp, Wt]; simp [Wts]
theorem wt_rw : ∀ Q : List (ByteArray × Tm), (∀ x, x ∈ Q → Wt 12 x.2) → Wt 12 (rwT Q)
  | [], _ => wt_emp
  | x :: r, h => U1.wt_row (h x (by simp)) (wt_rw r fun y hy => h y (by simp [hy]))
end Go.Am.U2

/- Rows of labels: the check, the variables, the size, the normal form. Conditions: none. -/
namespace Go.Am.U2
open Go.Am.Un Go.So
open Go.Am.U1 (vtm)
set_option linter.unusedSimpArgs false

/-- What stands at a label. -/
def ElT (t : Tm) : Prop := t = numT ∨ ∃ i, i < 12 ∧ t = vtm i
theorem el_f (n : ByteArray) : ElT (fT n).2 := Or.inr ⟨_, Nat.mod_lt _ (by decide), rfl⟩
theorem chk_el {t : Tm} (h : ElT t) {d left : Int} (hl : 1 ≤ left) (hd : d ≤ 400) : chk false d left t = (0, left - 1) := by
  rcases h with rfl | ⟨i, hi, rfl⟩
  · rw [numT, chk, if_neg (by omega), if_neg (by omega), if_neg (by simp [szK]), if_neg (by simp), if_neg (by simp), chks]
  · rw [vtm, chk, if_neg (by omega), if_neg (by omega), if_neg (by simp [szK]), if_neg (by simp), if_neg (by omega), chks]
theorem chk_rw : ∀ (Q : List (ByteArray × Tm)) (d left : Int), (∀ x, x ∈ Q → ElT x.2) → 2 * (Q.length : Int) + 1 ≤ left → d + Q.length ≤ 400 → chk true d left (rwT Q) = (0, left - 2 * Q.length - 1)
  | [], d, left, _, hl, hd => by
    simp only [List.length_nil] at hl hd ⊢
    rw [rwT, emp, chk, if_neg (by omega), if_neg (by omega), if_neg (by simp [szK]), if_neg (by simp), if_neg (by simp), chks]
    simp
  | x :: r, d, left, h, hl, hd => by
    simp only [List.length_cons] at hl hd ⊢
    have h1 := chk_el (h x (by simp)) (d := d + 1) (left := left - 1) (by omega) (by omega)
    have h2 := chk_rw r (d + 1) (left - 1 - 1) (fun y hy => h y (by simp [hy])) (by omega) (by omega)
    have r0 : rowed 5 0 x.2 = false := rfl
    have r1 : rowed 5 (0 + 1) (rwT r) = true := rfl
    rw [rwT, chk, if_neg (by omega), if_neg (by omega), if_neg (by simp [szK]), if_neg (by simp), if_neg (by simp), chks, r0, h1, if_neg (by simp), chks, r1, h2, if_neg (by simp), chks]
    simp only [Prod.mk.injEq, true_and]; omega
theorem rw_dec (Q : List (ByteArray × Tm)) : decide (kof (rwT Q) ≥ 4) = true := by simpa using rw_kof Q
theorem occ_el {t : Tm} (h : ElT t) {x : Int} (ho : Occ x t) : x < 12 := by
  rcases h with rfl | ⟨i, hi, rfl⟩
  · rw [numT, Occ] at ho; simp [Occs] at ho
  · rw [vtm, Occ] at ho; simp at ho; omega
theorem occ_rw {x : Int} : ∀ (Q : List (ByteArray × Tm)), (∀ x, x ∈ Q → ElT x.2) → Occ x (rwT Q) → x < 12
  | [], _, ho => by rw [rwT, emp, Occ] at ho; simp [Occs] at ho
  | y :: r, h, ho => by
    rw [rwT, Occ] at ho
    simp [Occs] at ho
    rcases ho with ho | ho
    · exact occ_el (h y (by simp)) ho
    · exact occ_rw r (fun z hz => h z (by simp [hz])) ho
theorem fre_rw (Q : List (ByteArray × Tm)) (h : ∀ x, x ∈ Q → ElT x.2) : (fre (rwT Q)).any (fun x => decide (x ≥ 12)) = false := by
  rw [List.any_eq_false]
  intro x hx
  have := occ_rw Q h ((fre_mem x _).1 hx)
  simp; omega
theorem tsz_el {t : Tm} (h : ElT t) : tsz t = 1 := by
  rcases h with rfl | ⟨i, hi, rfl⟩
  · rw [numT, tsz, tszs]
  · rw [vtm, tsz, tszs]
theorem tsz_rw : ∀ (Q : List (ByteArray × Tm)), (∀ x, x ∈ Q → ElT x.2) → tsz (rwT Q) = 2 * Q.length + 1
  | [], _ => by rw [rwT, emp, tsz, tszs]; rfl
  | y :: r, h => by
    rw [rwT, tsz, tszs, tszs, tszs, tsz_el (h y (by simp)), tsz_rw r fun z hz => h z (by simp [hz])]
    simp; omega
theorem rw_bld : ∀ Q : List (ByteArray × Tm), rwT Q = bld Q emp
  | [] => rfl
  | x :: r => by rw [rwT, bld, rw_bld r]
theorem val_el {t : Tm} (h : ElT t) : Val t := by
  rcases h with rfl | ⟨i, hi, rfl⟩
  · exact val_numT
  · rw [vtm, Val]; simp [Vals]
theorem val_rw (Q : List (ByteArray × Tm)) (h : ∀ x, x ∈ Q → ElT x.2) : Val (rwT Q) := by
  rw [rw_bld]; exact val_bld _ _ val_emp fun x hx => val_el (h x hx)

theorem ins_perm {α : Type} (lt : α → α → Bool) (x : α) : ∀ l : List α, (ins lt x l).Perm (x :: l)
  | [] => List.Perm.refl _
  | y :: l => by
    rw [ins]
    split
    · exact ((ins_perm lt x l).cons y).trans (List.Perm.swap x y l)
    · exact List.Perm.refl _
theorem isort_perm {α : Type} (lt : α → α → Bool) : ∀ l : List α, (isort lt l).Perm l
  | [] => List.Perm.refl _
  | x :: l => by
    have h : isort lt (x :: l) = ins lt x (isort lt l) := rfl
    rw [h]
    exact (ins_perm lt x _).trans ((isort_perm lt l).cons x)
theorem ltB_tot {a b : ByteArray} (h1 : ltB a b = false) (h2 : ltB b a = false) : a = b := by
  have h := bl_tri a.toList b.toList
  unfold ltB at h1 h2
  rw [h1, h2] at h
  refine bts_inj (beq_iff_eq.1 ?_)
  simpa using h
theorem nf_perm {P Q : List ByteArray} (h : P.Perm Q) : nf (rwT (P.map fT)) = nf (rwT (Q.map fT)) := by
  have hk : kof emp ≠ 5 := by simp [emp, kof]
  rw [rw_bld, rw_bld, nf_spn (spn_bld _ hk), nf_spn (spn_bld _ hk)]
  congr 1
  have hp : ((P.map fT).map nfl).Perm ((Q.map fT).map nfl) := (h.map fT).map nfl
  have h1 := (isort_perm ltL ((P.map fT).map nfl)).trans (hp.trans (isort_perm ltL ((Q.map fT).map nfl)).symm)
  refine List.Perm.eq_of_pairwise (le := fun a b => ltL b a = false) (fun a b ha hb hab hba => ?_) (isort_srt ltL_ord _) (isort_srt ltL_ord _) h1
  rw [isort_mem] at ha hb
  simp only [List.map_map, List.mem_map, Function.comp_apply] at ha hb
  obtain ⟨n, -, rfl⟩ := ha
  obtain ⟨m, -, rfl⟩ := hb
  have : n = m := ltB_tot hba hab
  rw [this]
end Go.Am.U2

/- UnifyRows: the walk. Conditions: none. -/
namespace Go.Am.U2
open Go.Am.Un Go.So
open Go.Am.U1 (tyw tyc_w NoX vtm vtm_c vars vars_len isl_tycs ne_a ne_b ne_c ne_d ne_e ne_f avr ExtG JWt)
set_option maxRecDepth 100000
set_option linter.unusedSimpArgs false
attribute [local go_sem] wseq COp.isStore wreg wdreg wret wskip wexit wblock wcnd cnd_t cnd_f then_n then_x then_r catch_n rnd_n rnd_x rnd_r catch_x catch_r wo_nil wo_grd grdO_t grdO_f wo_ops stpO wr_nil wr_alloc wr_guards grdR_t grdR_f wr_ops stpR evAllocs evOp env0_app eput_some eput_none eset_app Opd.ev wantedA faddrA snew_obj snew_size sput_obj sput_size av_cells av_one av_strip av_still unA eqbA fillA fldA lensA mmA mm2 mmFold List.getD_cons_zero List.getD_cons_succ List.getD_nil List.length_cons List.length_nil List.drop_zero List.drop_succ_cons List.take_succ_cons List.take_zero List.map_cons List.map_nil List.set_cons_zero List.set_cons_succ List.all_cons List.all_nil List.getElem?_cons_zero List.getElem?_cons_succ List.nil_append List.cons_append Nat.zero_add Nat.add_zero beq_self_eq_true bt bf Bool.not_true Bool.not_false Bool.and_true Bool.true_and Bool.and_false Bool.false_and and_self and_true true_and n0 n1 n2 n3 n4 m0 m1 m2 m3 c1 retA resAs resA undefA Option.map_some Option.map_none
variable {X : Ext}

theorem grw_keep {α : Type} {f : α → List AV} {N : Nat} {S S' : St} {v : AV} {l : List α} {t : Option Nat} (h : Grw f N S v l t) (hk : Keep S S') : Grw f N S' v l t := by
  rcases h with h | ⟨k, rfl, h2, h3, h4, h5, h6⟩
  · exact Or.inl h
  · exact Or.inr ⟨k, rfl, h2, h3, (hk.2 k h5).trans h4, hk.lt h5, h6⟩

theorem within_m (hX : NoX X) (n : Int) (m : Nat) (hb : m < 1000) (s : St) : WC T X 17 [.int .i64 n, .int .i64 0, .int .i64 (m : Int)] s (fun v s' => (∃ j : Nat, v = .int .i64 j ∧ j ≤ m) ∧ s' = s) := by
  refine WC.sub sub (T := U1.T) ?_
  refine WC_fn U1.cf17 (hX 17 (by decide)) U1.T17 (by simp [U1.cf17]) ?_
  have w1 : IntKind.i64.wrap ((m : Int) - 0) = (m : Int) := by rw [IntKind.wrap_i64]; omega
  have w2 : IntKind.i64.wrap ((m : Int) + 1) = ((m + 1 : Nat) : Int) := by rw [IntKind.wrap_i64]; omega
  have hne : ((m + 1 : Nat) : Int) ≠ 0 := by omega
  generalize hM : m + 1 = M at *
  have b1 : -(M : Int) < n.tmod M ∧ n.tmod M < M := ⟨by have h1 := Int.natAbs_tmod n M; have h2 := Nat.mod_lt n.natAbs (show 0 < (M : Int).natAbs by omega); omega, Int.tmod_lt_of_pos n (by omega)⟩
  have w0 : IntKind.i64.wrap (n.tmod M) = n.tmod M := by rw [IntKind.wrap_i64]; omega
  have w3 : IntKind.i64.wrap (n.tmod M + (M : Int)) = n.tmod M + M := by rw [IntKind.wrap_i64]; omega
  have b2 : 0 ≤ (n.tmod M + (M : Int)).tmod M ∧ (n.tmod M + (M : Int)).tmod M < M := ⟨Int.tmod_nonneg _ (by omega), Int.tmod_lt_of_pos _ (by omega)⟩
  have w5 : IntKind.i64.wrap ((n.tmod M + (M : Int)).tmod M) = (n.tmod M + (M : Int)).tmod M := by rw [IntKind.wrap_i64]; omega
  have w4 : IntKind.i64.wrap (0 + (n.tmod M + (M : Int)).tmod M) = (n.tmod M + (M : Int)).tmod M := by rw [IntKind.wrap_i64]; omega
  simp only [U1.cf17, w0, w1, w2, w3, w4, w5, hne, ne_eq, not_false_eq_true, if_true, go_sem, ↓reduceIte, reduceCtorEq, Nat.reduceEqDiff, Nat.reduceAdd, Nat.reduceSub, Nat.reduceMul, Nat.reduceLeDiff, Nat.reduceLT, loadA, rdCells, storeA, setAt, binA]
  exact ⟨by simp, _, rfl, ((n.tmod M + (M : Int)).tmod M).toNat, by rw [Int.toNat_of_nonneg b2.1], by omega⟩

def bX : ByteArray := ⟨#[120]⟩
/-- Unify, at rows. -/
theorem uni_law (hX : NoX X) {sv : AV} (hsv : ISl tyc sv (vars 12)) (P Q : List (ByteArray × Tm)) (hP : ∀ x, x ∈ P → ElT x.2) (hQ : ∀ x, x ∈ Q → ElT x.2) (lp : P.length ≤ 20) (lq : Q.length ≤ 20) {e : Int} {ss' : List Tm} (hu : U1.Un (vars 12) (.un (rwT P) (rwT Q)) e ss') (wa wb : AV) (hwa : ISl tyc wa (lof (rwT P))) (hwb : ISl tyc wb (lof (rwT Q))) (s : St) :
    WC T X 15 [sv, .agg (tyw (rwT P) wa), .agg (tyw (rwT Q) wb)] s (ExtG ss' e s) := by
  have wt : ∀ Q : List (ByteArray × Tm), (∀ x, x ∈ Q → ElT x.2) → U1.Wt 12 (rwT Q) := fun Q hQ => wt_rw Q fun x hx => by
    rcases hQ x hx with h | ⟨i, hi, h⟩
    · rw [h]; exact wt_num
    · rw [h]; exact U1.wt_vtm hi
  refine (U1.unifyG_law hX hsv ss' (rwT P) (rwT Q) wa wb hwa hwb e s ?_ ?_ (fre_rw P hP) (fre_rw Q hQ) ?_ ?_ fun S => U1.extG_law hX hsv (by rw [vars_len]; decide) fine_vars (by rw [vars_len]; decide) _ _ e hu ?_ S).sub sub
  · rw [rw_dec, chk_rw P 1 4096 hP (by omega) (by omega)]
  · rw [rw_dec, chk_rw Q 1 4096 hQ (by omega) (by omega)]
  · rw [tsz_rw P hP]; omega
  · rw [tsz_rw Q hQ]; omega
  · rw [vars_len]; exact ⟨wt P hP, wt Q hQ⟩

/-- names[k:] and names[:k]. -/
theorem rot_law (hX : NoX X) {S : St} {nv : AV} {L : List ByteArray} {t : Option Nat} (hg : Grw sc 0 S nv L t) (j : Nat) (hj : (L = [] ∧ j = 0) ∨ j < L.length) (hL : L.length ≤ 10) :
    ∃ w1 w2 L2, slcA 1 nv (some (.int .i64 j)) none none = some w1 ∧ slcA 1 nv none (some (.int .i64 j)) none = some w2 ∧ L2.Perm L ∧ ∀ S, WC T X 31 [w1] S (fun r S' => ∃ r2 S2, appendA S' false 1 16 r w2 = some (r2, S2) ∧ ISl sc r2 L2 ∧ Keep S S2) := by
  rcases hg with ⟨rfl, rfl, -⟩ | ⟨k, -, rfl, h0, -⟩
  · obtain rfl : j = 0 := by rcases hj with h | h; exact h.2; simp at h
    refine ⟨.nils, .nils, [], rfl, rfl, List.Perm.refl _, fun S => (clone_nil hX S).mono ?_⟩
    rintro r S' ⟨rfl, hk⟩
    exact ⟨.nils, S', rfl, Or.inl ⟨rfl, rfl⟩, hk⟩
  · have hj : j < L.length := by rcases hj with h | h; (rw [h.1] at h0; simp at h0); exact h
    have hi : ISl sc (.sl (L.flatMap sc) L.length false (some k)) L := Or.inr ⟨_, _, rfl⟩
    obtain ⟨w2, h2, hw2⟩ := hi.take sc_len (Nat.le_of_lt hj)
    have hfl : (L.flatMap sc).length = L.length * 1 := scP.lens L
    have hdr : (L.flatMap sc).drop (j * 1) = (L.drop j).flatMap sc := by
      have := congrArg (List.drop (j * 1)) (congrArg (List.flatMap sc) (List.take_append_drop j L).symm)
      rw [List.flatMap_append, List.drop_append_of_le_length (by rw [scP.lens, List.length_take]; omega)] at this
      rw [this, List.drop_eq_nil_of_le (by rw [scP.lens, List.length_take]; omega)]; rfl
    have h1 : ∃ w1, slcA 1 (.sl (L.flatMap sc) L.length false (some k)) (some (.int .i64 j)) none none = some w1 ∧ ISl sc w1 (L.drop j) := by
      refine ⟨.sl ((L.drop j).flatMap sc) (L.drop j).length false (if j = 0 ∧ L.length = L.length ∧ (none : Option AV).isNone = true then some k else none), ?_, Or.inr ⟨_, _, rfl⟩⟩
      simp only [slcA, optOf, natOf]
      rw [if_pos hfl]
      have hw : ((L.drop j).flatMap sc).take ((L.length - j) * 1) = (L.drop j).flatMap sc := List.take_of_length_le (by rw [scP.lens, List.length_drop]; omega)
      simp [hdr, hw, List.length_drop]
      rw [if_pos (Nat.le_of_lt hj)]
      simp only [Nat.mul_one] at hdr hw
      simp only [hdr, hw]
    obtain ⟨w1, h1, hw1⟩ := h1
    refine ⟨w1, w2, L.drop j ++ L.take j, h1, h2, ?_, fun S => (clone_s hX hw1 (by rw [List.length_drop]; omega) (by rw [List.length_drop]; omega) S).mono ?_⟩
    · have := List.perm_append_comm (l₁ := L.drop j) (l₂ := L.take j)
      rwa [List.take_append_drop] at this
    · rintro r S' ⟨hr, hk⟩
      by_cases hz : j = 0
      · subst hz
        obtain ⟨-, full, tok, rfl, -⟩ := hr
        refine ⟨_, S', ?_, Or.inr ⟨full, tok, rfl⟩, hk⟩
        have hc := hw2.contents scP (s := S')
        simp only [List.take_zero, List.length_nil] at hc
        simp only [appendA, hc, if_true, List.take_zero, List.append_nil]
      · obtain ⟨v', s1, ha, hr2, hz1, hk1, -⟩ := hr.app scP hw2 (by rw [List.length_take]; omega) hk.1 (bytes := 16) (by rw [List.length_drop, List.length_take]; omega)
        exact ⟨v', s1, ha, hr2.i, Nat.le_trans hk.1 hz1, fun i hi => (hk1 i hi).trans (hk.2 i hi)⟩

set_option maxHeartbeats 8000000 in
theorem rows_law {lv : AV} {l : List ByteArray} (hl : ISl sc lv l) (hb : l.length ≤ 17592186044416) (n : Int) (label : ByteArray) (s : St) : WC T Xb 6 [lv, .int .i64 n, .str label] s (fun v _ => v = .bool true) := by
  have hX : NoX Xb := Xb_none
  refine WC_fn cf6 (hX 6 (by decide)) T6 (by simp [cf6]) ?_
  simp only [cf6, go_sem, ↓reduceIte, reduceCtorEq, Nat.reduceEqDiff, Nat.reduceAdd, Nat.reduceSub, Nat.reduceMul, Nat.reduceLeDiff, Nat.reduceLT, loadA, rdCells, storeA, setAt, binA]
  refine WO_callx _ rfl ((num_law hX _).mono ?_)
  rintro w S1 ⟨rfl, hk1⟩
  simp only [go_sem, ↓reduceIte, reduceCtorEq, Nat.reduceEqDiff, Nat.reduceAdd, Nat.reduceSub, Nat.reduceMul, Nat.reduceLeDiff, Nat.reduceLT, loadA, rdCells, storeA, setAt, binA]
  refine WO_callx _ rfl ((num_law hX _).mono ?_)
  rintro w S2 ⟨rfl, hk2⟩
  simp only [go_sem, ↓reduceIte, reduceCtorEq, Nat.reduceEqDiff, Nat.reduceAdd, Nat.reduceSub, Nat.reduceMul, Nat.reduceLeDiff, Nat.reduceLT, loadA, rdCells, storeA, setAt, binA]
  refine WO_callx _ rfl (((U1.pair_law hX _ _ _).sub sub).mono ?_)
  rintro w S3 ⟨sv, rfl, hsv, hsn, hk3⟩
  simp only [go_sem, ↓reduceIte, reduceCtorEq, Nat.reduceEqDiff, Nat.reduceAdd, Nat.reduceSub, Nat.reduceMul, Nat.reduceLeDiff, Nat.reduceLT, loadA, rdCells, storeA, setAt, binA]
  refine WO_callx _ rfl ((num_law hX _).mono ?_)
  rintro w S4 ⟨rfl, hk4⟩
  simp only [Nat.le_add_left, go_sem, ↓reduceIte, reduceCtorEq, Nat.reduceEqDiff, Nat.reduceAdd, Nat.reduceSub, Nat.reduceMul, Nat.reduceLeDiff, Nat.reduceLT, loadA, rdCells, storeA, setAt, binA]
  have he1 := fun S => ext_law2 hX bX numT emp (.sl (tycs (lof numT)) (lof numT).length false none) .nils (isl_tycs _) (Or.inl ⟨rfl, rfl⟩) S
  rw [← tyc_w] at he1
  refine WO_callx _ rfl ((he1 _).mono ?_)
  rintro w S5 ⟨rfl, hk5⟩
  have hu1 := fun wa wb ha hb S => uni_law hX hsv [(bX, numT)] [] (fun x hx => by simp at hx; subst hx; exact Or.inl rfl) (by simp) (by simp) (by simp) (one_un bX) wa wb ha hb S
  have hone : Tm.mk 5 bX 0 [numT, emp] = rwT [(bX, numT)] := rfl
  rw [hone, tyc_w (rwT [(bX, numT)])]
  simp only [tyw] at hu1 ⊢
  simp only [Nat.le_add_left, go_sem, ↓reduceIte, reduceCtorEq, Nat.reduceEqDiff, Nat.reduceAdd, Nat.reduceSub, Nat.reduceMul, Nat.reduceLeDiff, Nat.reduceLT, loadA, rdCells, storeA, setAt, binA]
  refine WO_callx _ rfl ((hu1 (.sl (tycs (lof (rwT [(bX, numT)]))) (lof (rwT [(bX, numT)])).length false none) .nils (isl_tycs _) (Or.inl ⟨rfl, rfl⟩) _).mono ?_)
  rintro w S6 ⟨rv, rfl, -, hk6⟩
  have d1 : ((10 : Int) != 10) = false := rfl
  simp only [d1, hl.len, go_sem, ↓reduceIte, reduceCtorEq, Nat.reduceEqDiff, Nat.reduceAdd, Nat.reduceSub, Nat.reduceMul, Nat.reduceLeDiff, Nat.reduceLT, loadA, rdCells, storeA, setAt, binA]
  refine W_loop_nat (fun k e S => ∃ (i : Nat) (nv : AV) (L : List ByteArray) (t : Option Nat), i + k = l.length ∧ e 1 = .int .i64 n ∧ e 2 = .str label ∧ e 7 = sv ∧ e 45 = lv ∧ e 46 = .int .i64 l.length ∧ e 47 = .int .i64 i ∧ e 12 = nv ∧ Grw sc 0 S nv L t ∧ L.length ≤ 10) ?_ l.length _ _ ⟨0, .nils, [], none, by simp, ?_, ?_, ?_, ?_, ?_, ?_, ?_, Or.inl ⟨rfl, rfl, rfl⟩, by simp⟩
  · rintro k e S ⟨i, nv, L, t, hik, e1, e2, e7, e45, e46, e47, e12, hg, hL⟩
    by_cases hi : i < l.length
    · obtain ⟨x, hx⟩ : ∃ y, l[i]? = some y := ⟨_, List.getElem?_eq_getElem hi⟩
      have hd : decide ((i : Int) < (l.length : Int)) = true := by simp; omega
      have ha := hl.at sc_len hx
      have hwr : IntKind.i64.wrap ((i : Int) + 1) = ((i + 1 : Nat) : Int) := by rw [IntKind.wrap_i64]; omega
      simp only [cf6_l0, e1, e2, e7, e45, e46, e47, e12, hd, ha, sc, Nat.le_add_left, go_sem, ↓reduceIte, reduceCtorEq, Nat.reduceEqDiff, Nat.reduceAdd, Nat.reduceSub, Nat.reduceMul, Nat.reduceLeDiff, Nat.reduceLT, loadA, rdCells, storeA, setAt, binA]
      refine WO_callx _ rfl ((contains_s hX hg.isl (by omega) x _).mono ?_)
      rintro w S2 ⟨rfl, hk⟩
      have hg2 := grw_keep hg hk
      cases hc : L.any (fun y => x.toList == y.toList)
      · cases hc2 : decide ((L.length : Int) < 10)
        · simp only [e1, e2, e7, e45, e46, e47, e12, hg.isl.len, hc2, hwr, go_sem, ↓reduceIte, reduceCtorEq, Nat.reduceEqDiff, Nat.reduceAdd, Nat.reduceSub, Nat.reduceMul, Nat.reduceLeDiff, Nat.reduceLT, loadA, rdCells, storeA, setAt, binA]
          exact ⟨k - 1, by omega, i + 1, nv, L, t, by omega, rfl, rfl, hg2, hL⟩
        · obtain ⟨nv', S3, hap, hg3, hz3, -⟩ := hg2.app scP (Nat.zero_le _) x (bytes := 16) (by omega)
          simp only [sc] at hap
          simp only [e1, e2, e7, e45, e46, e47, e12, hg.isl.len, hc2, hwr, hap, go_sem, ↓reduceIte, reduceCtorEq, Nat.reduceEqDiff, Nat.reduceAdd, Nat.reduceSub, Nat.reduceMul, Nat.reduceLeDiff, Nat.reduceLT, loadA, rdCells, storeA, setAt, binA]
          exact ⟨k - 1, by omega, i + 1, nv', _, _, by omega, rfl, rfl, hg3, by simp at hc2 ⊢; omega⟩
      · simp only [e1, e2, e7, e45, e46, e47, e12, hwr, go_sem, ↓reduceIte, reduceCtorEq, Nat.reduceEqDiff, Nat.reduceAdd, Nat.reduceSub, Nat.reduceMul, Nat.reduceLeDiff, Nat.reduceLT, loadA, rdCells, storeA, setAt, binA]
        exact ⟨k - 1, by omega, i + 1, nv, L, t, by omega, rfl, rfl, hg2, hL⟩
    · have hd : decide ((i : Int) < (l.length : Int)) = false := by simp; omega
      simp only [cf6_l0, e1, e2, e7, e45, e46, e47, e12, hd, hg.isl.len, go_sem, ↓reduceIte, reduceCtorEq, Nat.reduceEqDiff, Nat.reduceAdd, Nat.reduceSub, Nat.reduceMul, Nat.reduceLeDiff, Nat.reduceLT, loadA, rdCells, storeA, setAt, binA]
      have hperm : ∀ L2 : List ByteArray, L2.Perm L → L2.length ≤ 10 := fun L2 h => by rw [h.length_eq]; exact hL
      have hsl : lenA sv = some (.int .i64 12) := by have := hsv.len; rwa [vars_len] at this
      have elf : ∀ (L : List ByteArray) x, x ∈ L.map fT → ElT x.2 := fun L x hx => by obtain ⟨m, -, rfl⟩ := List.mem_map.1 hx; exact el_f m
      by_cases h0 : L.length = 0
      · have hL0 : L = [] := List.eq_nil_of_length_eq_zero h0
        have hgt : decide ((L.length : Int) > 0) = false := by simp; omega
        simp only [hgt, go_sem, ↓reduceIte, reduceCtorEq, Nat.reduceEqDiff, Nat.reduceAdd, Nat.reduceSub, Nat.reduceMul, Nat.reduceLeDiff, Nat.reduceLT, loadA, rdCells, storeA, setAt, binA]
        obtain ⟨w1, w2, L2, hs1, hs2, hp, hcl⟩ := rot_law hX hg 0 (Or.inl ⟨hL0, rfl⟩) hL
        replace hs1 : slcA 1 nv (some (.int .i64 0)) none none = some w1 := hs1
        replace hs2 : slcA 1 nv none (some (.int .i64 0)) none = some w2 := hs2
        simp only [e12, go_sem, ↓reduceIte, reduceCtorEq, Nat.reduceEqDiff, Nat.reduceAdd, Nat.reduceSub, Nat.reduceMul, Nat.reduceLeDiff, Nat.reduceLT, loadA, rdCells, storeA, setAt, binA]
        refine WR_callv 30 [] [nv] (by simp only [go_sem, ↓reduceIte, reduceCtorEq, Nat.reduceEqDiff, Nat.reduceAdd, Nat.reduceSub, Nat.reduceMul, Nat.reduceLeDiff, Nat.reduceLT, loadA, rdCells, storeA, setAt, binA]) (by first | rfl | simp only [go_sem, ↓reduceIte, reduceCtorEq, Nat.reduceEqDiff, Nat.reduceAdd, Nat.reduceSub, Nat.reduceMul, Nat.reduceLeDiff, Nat.reduceLT, loadA, rdCells, storeA, setAt, binA]) ((build_law hX hg.isl (by omega) _).mono ?_)
        rintro w S2 ⟨rfl, hk2⟩
        simp only [e12, hs1, go_sem, ↓reduceIte, reduceCtorEq, Nat.reduceEqDiff, Nat.reduceAdd, Nat.reduceSub, Nat.reduceMul, Nat.reduceLeDiff, Nat.reduceLT, loadA, rdCells, storeA, setAt, binA]
        refine WR_callx [w1] (by first | rfl | simp only [go_sem, ↓reduceIte, reduceCtorEq, Nat.reduceEqDiff, Nat.reduceAdd, Nat.reduceSub, Nat.reduceMul, Nat.reduceLeDiff, Nat.reduceLT, loadA, rdCells, storeA, setAt, binA]) ((hcl _).mono ?_)
        rintro r S3 ⟨r2, S4, hap, hr2, hk4⟩
        simp only [e12, hs2, hap, go_sem, ↓reduceIte, reduceCtorEq, Nat.reduceEqDiff, Nat.reduceAdd, Nat.reduceSub, Nat.reduceMul, Nat.reduceLeDiff, Nat.reduceLT, loadA, rdCells, storeA, setAt, binA]
        refine WR_callv 30 [] [r2] (by simp only [go_sem, ↓reduceIte, reduceCtorEq, Nat.reduceEqDiff, Nat.reduceAdd, Nat.reduceSub, Nat.reduceMul, Nat.reduceLeDiff, Nat.reduceLT, loadA, rdCells, storeA, setAt, binA]) (by first | rfl | simp only [go_sem, ↓reduceIte, reduceCtorEq, Nat.reduceEqDiff, Nat.reduceAdd, Nat.reduceSub, Nat.reduceMul, Nat.reduceLeDiff, Nat.reduceLT, loadA, rdCells, storeA, setAt, binA]) ((build_law hX hr2 (by have := hperm L2 hp; omega) _).mono ?_)
        rintro w S5 ⟨rfl, hk5⟩
        have hkk := (hk2.trans hk4).trans hk5
        have hz5 := hkk.1
        simp only [St.new] at hz5
        have o1 := hkk.2 S.size (by simp only [St.new]; omega)
        have o2 := hkk.2 (S.size + 1) (by simp only [St.new]; omega)
        simp only [go_sem, ↓reduceIte, reduceCtorEq, Nat.reduceEqDiff, Nat.reduceAdd, Nat.reduceSub, Nat.reduceMul, Nat.reduceLeDiff, Nat.reduceLT, loadA, rdCells, storeA, setAt, binA] at o1 o2
        have hP := elf L.reverse
        have hQ := elf L2.reverse
        have lP : (L.reverse.map fT).length ≤ 10 := by simpa using hL
        have lQ : (L2.reverse.map fT).length ≤ 10 := by simpa using hperm L2 hp
        have hpr : L2.reverse.Perm L.reverse := (List.reverse_perm L2).trans (hp.trans (List.reverse_perm L).symm)
        rw [bldr_rw L, bldr_rw L2]
        have hu2 := fun S => uni_law hX hsv _ _ hP hQ (by omega) (by omega) (perm_un L.reverse L2.reverse hpr) _ _ (isl_tycs (lof (rwT (L.reverse.map fT)))) (isl_tycs (lof (rwT (L2.reverse.map fT)))) S
        have hsm := fun S => same_law (isl_tycs (lof (rwT (L.reverse.map fT)))) (isl_tycs (lof (rwT (L2.reverse.map fT)))) (val_rw _ hP) (val_rw _ hQ) (by rw [tsz_rw _ hP]; simp only [big]; omega) (by rw [tsz_rw _ hQ]; simp only [big]; omega) S
        have hQ3 : ∀ x, x ∈ (label, numT) :: L2.reverse.map fT → ElT x.2 := fun x hx => by
          rcases List.mem_cons.1 hx with h | h
          · rw [h]; exact Or.inl rfl
          · exact hQ x h
        obtain ⟨e3, ss3, he3, hun3⟩ := row_un L.reverse ((label, numT) :: L2.reverse.map fT) (vars 12) stt_vars (by simp [hp.length_eq]) (fun x hx => by
          rcases List.mem_cons.1 hx with h | h
          · rw [h]; exact Or.inr rfl
          · obtain ⟨m, -, rfl⟩ := List.mem_map.1 h; exact Or.inl rfl)
        have hu3 := fun S => uni_law hX hsv _ _ hP hQ3 (by omega) (by simp only [List.length_cons]; omega) hun3 _ _ (isl_tycs (lof (rwT (L.reverse.map fT)))) (isl_tycs (lof (rwT ((label, numT) :: L2.reverse.map fT)))) S
        have hex3 := fun S => ext_law2 hX label numT (rwT (L2.reverse.map fT)) (.sl (tycs (lof numT)) (lof numT).length false none) _ (isl_tycs _) (isl_tycs (lof (rwT (L2.reverse.map fT)))) S
        have h3r : Tm.mk 5 label 0 [numT, rwT (L2.reverse.map fT)] = rwT ((label, numT) :: L2.reverse.map fT) := rfl
        rw [h3r] at hex3
        have hnf : eqb (nf (rwT (L.reverse.map fT))) (nf (rwT (L2.reverse.map fT))) = true := by rw [nf_perm hpr.symm]; exact eqb_rfl _
        rw [hnf] at hsm
        have dl2 : 12 ≤ (vars 12).length := by rw [vars_len]; exact Nat.le_refl _
        generalize hA : rwT (L.reverse.map fT) = A at *
        generalize hB : rwT (L2.reverse.map fT) = B at *
        generalize hC : rwT ((label, numT) :: L2.reverse.map fT) = C at *
        rw [tyc_w A, tyc_w B]
        rw [← tyc_w numT, tyc_w C] at hex3
        simp only [tyw] at hu2 hsm hu3 hex3 ⊢
        simp only [e7, e2, o1, o2, Nat.le_add_left, go_sem, ↓reduceIte, reduceCtorEq, Nat.reduceEqDiff, Nat.reduceAdd, Nat.reduceSub, Nat.reduceMul, Nat.reduceLeDiff, Nat.reduceLT, loadA, rdCells, storeA, setAt, binA]
        refine WO_callx _ rfl ((hu2 _).mono ?_)
        rintro w S8 ⟨rv2, rfl, hq2, hk8⟩
        obtain ⟨q2, rfl, -, -⟩ := hq2 rfl
        have p1 := hk8.2 S.size (by simp only [St.put]; omega)
        have p2 := hk8.2 (S.size + 1) (by simp only [St.put]; omega)
        rw [put_ne (by omega), put_eq] at p1
        rw [put_eq] at p2
        have hz8 := hk8.1
        simp only [St.put] at hz8
        simp only [e7, e2, go_sem, ↓reduceIte, reduceCtorEq, Nat.reduceEqDiff, Nat.reduceAdd, Nat.reduceSub, Nat.reduceMul, Nat.reduceLeDiff, Nat.reduceLT, loadA, rdCells, storeA, setAt, binA]
        refine W_dreg ?_
        simp only [wt_ops, stpT, Tr, p1, p2, wt_alloc, wt_nil, chk1, avr, e2, e7, Bool.or_true, Nat.le_add_left, go_sem, ↓reduceIte, reduceCtorEq, Nat.reduceEqDiff, Nat.reduceAdd, Nat.reduceSub, Nat.reduceMul, Nat.reduceLeDiff, Nat.reduceLT, loadA, rdCells, storeA, setAt, binA]
        refine WT_callx _ rfl ((num_law hX _).mono ?_)
        rintro w S9 ⟨rfl, hk9⟩
        have r1 := hk9.obj (by omega : S.size < S8.size) p1
        have r2' := hk9.obj (by omega : S.size + 1 < S8.size) p2
        have hz9 := hk9.1
        simp only [wt_ops, stpT, Tr, p1, p2, r1, r2', wt_alloc, wt_nil, chk1, avr, e2, e7, Bool.or_true, Nat.le_add_left, go_sem, ↓reduceIte, reduceCtorEq, Nat.reduceEqDiff, Nat.reduceAdd, Nat.reduceSub, Nat.reduceMul, Nat.reduceLeDiff, Nat.reduceLT, loadA, rdCells, storeA, setAt, binA]
        refine WT_callx _ rfl ((hex3 _).mono ?_)
        rintro w S10 ⟨rfl, hk10⟩
        have t1 := hk10.obj (by omega : S.size < S9.size) r1
        have t2 := hk10.obj (by omega : S.size + 1 < S9.size) r2'
        have hz10 := hk10.1
        simp only [wt_ops, stpT, Tr, p1, p2, r1, r2', t1, t2, wt_alloc, wt_nil, chk1, avr, e2, e7, Bool.or_true, Nat.le_add_left, go_sem, ↓reduceIte, reduceCtorEq, Nat.reduceEqDiff, Nat.reduceAdd, Nat.reduceSub, Nat.reduceMul, Nat.reduceLeDiff, Nat.reduceLT, loadA, rdCells, storeA, setAt, binA]
        refine WT_callx _ rfl ((hu3 _).mono ?_)
        rintro w S11 ⟨rv3, rfl, -, hk11⟩
        have u1 := hk11.obj (by omega : S.size < S10.size) t1
        have u2 := hk11.obj (by omega : S.size + 1 < S10.size) t2
        simp only [wt_ops, stpT, Tr, p1, p2, r1, r2', t1, t2, wt_alloc, wt_nil, chk1, avr, e2, e7, Bool.or_true, Nat.le_add_left, go_sem, ↓reduceIte, reduceCtorEq, Nat.reduceEqDiff, Nat.reduceAdd, Nat.reduceSub, Nat.reduceMul, Nat.reduceLeDiff, Nat.reduceLT, loadA, rdCells, storeA, setAt, binA]
        have hlq : lenA (AV.msl q2 0 (vars 12).length 4) = some (.int .i64 12) := by rw [vars_len]; rfl
        have d12 : ((12 : Int) == 12) = true := rfl
        have d0 : ((0 : Int) == 0) = true := rfl
        have d3 : (e3 != 0) = true := by simpa using he3
        simp only [hlq, hsl, d12, d0, e7, u1, u2, Nat.le_add_left, go_sem, ↓reduceIte, reduceCtorEq, Nat.reduceEqDiff, Nat.reduceAdd, Nat.reduceSub, Nat.reduceMul, Nat.reduceLeDiff, Nat.reduceLT, loadA, rdCells, storeA, setAt, binA]
        refine WO_call (by simp only [wantedA, go_sem, ↓reduceIte, reduceCtorEq, Nat.reduceEqDiff, Nat.reduceAdd, Nat.reduceSub, Nat.reduceMul, Nat.reduceLeDiff, Nat.reduceLT, loadA, rdCells, storeA, setAt, binA]) ((hsm _).mono ?_)
        rintro w S12 ⟨rfl, hk12⟩
        simp only [d3, go_sem, ↓reduceIte, reduceCtorEq, Nat.reduceEqDiff, Nat.reduceAdd, Nat.reduceSub, Nat.reduceMul, Nat.reduceLeDiff, Nat.reduceLT, loadA, rdCells, storeA, setAt, binA]
        exact ⟨by simp, _, rfl, rfl⟩
      · have hgt : decide ((L.length : Int) > 0) = true := by simp; omega
        have hw1 : IntKind.i64.wrap ((L.length : Int) - 1) = ((L.length - 1 : Nat) : Int) := by rw [IntKind.wrap_i64]; omega
        simp only [hgt, e1, e12, hg.isl.len, hw1, go_sem, ↓reduceIte, reduceCtorEq, Nat.reduceEqDiff, Nat.reduceAdd, Nat.reduceSub, Nat.reduceMul, Nat.reduceLeDiff, Nat.reduceLT, loadA, rdCells, storeA, setAt, binA]
        refine WO_callx _ rfl ((within_m hX n (L.length - 1) (by omega) S).mono ?_)
        rintro w S7 ⟨⟨j, rfl, hj⟩, hS7⟩
        rw [hS7]
        simp only [go_sem, ↓reduceIte, reduceCtorEq, Nat.reduceEqDiff, Nat.reduceAdd, Nat.reduceSub, Nat.reduceMul, Nat.reduceLeDiff, Nat.reduceLT, loadA, rdCells, storeA, setAt, binA]
        obtain ⟨w1, w2, L2, hs1, hs2, hp, hcl⟩ := rot_law hX hg j (Or.inr (by omega)) hL
        simp only [e12, go_sem, ↓reduceIte, reduceCtorEq, Nat.reduceEqDiff, Nat.reduceAdd, Nat.reduceSub, Nat.reduceMul, Nat.reduceLeDiff, Nat.reduceLT, loadA, rdCells, storeA, setAt, binA]
        refine WR_callv 30 [] [nv] (by simp only [go_sem, ↓reduceIte, reduceCtorEq, Nat.reduceEqDiff, Nat.reduceAdd, Nat.reduceSub, Nat.reduceMul, Nat.reduceLeDiff, Nat.reduceLT, loadA, rdCells, storeA, setAt, binA]) (by first | rfl | simp only [go_sem, ↓reduceIte, reduceCtorEq, Nat.reduceEqDiff, Nat.reduceAdd, Nat.reduceSub, Nat.reduceMul, Nat.reduceLeDiff, Nat.reduceLT, loadA, rdCells, storeA, setAt, binA]) ((build_law hX hg.isl (by omega) _).mono ?_)
        rintro w S2 ⟨rfl, hk2⟩
        simp only [e12, hs1, go_sem, ↓reduceIte, reduceCtorEq, Nat.reduceEqDiff, Nat.reduceAdd, Nat.reduceSub, Nat.reduceMul, Nat.reduceLeDiff, Nat.reduceLT, loadA, rdCells, storeA, setAt, binA]
        refine WR_callx [w1] (by first | rfl | simp only [go_sem, ↓reduceIte, reduceCtorEq, Nat.reduceEqDiff, Nat.reduceAdd, Nat.reduceSub, Nat.reduceMul, Nat.reduceLeDiff, Nat.reduceLT, loadA, rdCells, storeA, setAt, binA]) ((hcl _).mono ?_)
        rintro r S3 ⟨r2, S4, hap, hr2, hk4⟩
        simp only [e12, hs2, hap, go_sem, ↓reduceIte, reduceCtorEq, Nat.reduceEqDiff, Nat.reduceAdd, Nat.reduceSub, Nat.reduceMul, Nat.reduceLeDiff, Nat.reduceLT, loadA, rdCells, storeA, setAt, binA]
        refine WR_callv 30 [] [r2] (by simp only [go_sem, ↓reduceIte, reduceCtorEq, Nat.reduceEqDiff, Nat.reduceAdd, Nat.reduceSub, Nat.reduceMul, Nat.reduceLeDiff, Nat.reduceLT, loadA, rdCells, storeA, setAt, binA]) (by first | rfl | simp only [go_sem, ↓reduceIte, reduceCtorEq, Nat.reduceEqDiff, Nat.reduceAdd, Nat.reduceSub, Nat.reduceMul, Nat.reduceLeDiff, Nat.reduceLT, loadA, rdCells, storeA, setAt, binA]) ((build_law hX hr2 (by have := hperm L2 hp; omega) _).mono ?_)
        rintro w S5 ⟨rfl, hk5⟩
        have hkk := (hk2.trans hk4).trans hk5
        have hz5 := hkk.1
        simp only [St.new] at hz5
        have o1 := hkk.2 S.size (by simp only [St.new]; omega)
        have o2 := hkk.2 (S.size + 1) (by simp only [St.new]; omega)
        simp only [go_sem, ↓reduceIte, reduceCtorEq, Nat.reduceEqDiff, Nat.reduceAdd, Nat.reduceSub, Nat.reduceMul, Nat.reduceLeDiff, Nat.reduceLT, loadA, rdCells, storeA, setAt, binA] at o1 o2
        have hP := elf L.reverse
        have hQ := elf L2.reverse
        have lP : (L.reverse.map fT).length ≤ 10 := by simpa using hL
        have lQ : (L2.reverse.map fT).length ≤ 10 := by simpa using hperm L2 hp
        have hpr : L2.reverse.Perm L.reverse := (List.reverse_perm L2).trans (hp.trans (List.reverse_perm L).symm)
        rw [bldr_rw L, bldr_rw L2]
        have hu2 := fun S => uni_law hX hsv _ _ hP hQ (by omega) (by omega) (perm_un L.reverse L2.reverse hpr) _ _ (isl_tycs (lof (rwT (L.reverse.map fT)))) (isl_tycs (lof (rwT (L2.reverse.map fT)))) S
        have hsm := fun S => same_law (isl_tycs (lof (rwT (L.reverse.map fT)))) (isl_tycs (lof (rwT (L2.reverse.map fT)))) (val_rw _ hP) (val_rw _ hQ) (by rw [tsz_rw _ hP]; simp only [big]; omega) (by rw [tsz_rw _ hQ]; simp only [big]; omega) S
        have hQ3 : ∀ x, x ∈ (label, numT) :: L2.reverse.map fT → ElT x.2 := fun x hx => by
          rcases List.mem_cons.1 hx with h | h
          · rw [h]; exact Or.inl rfl
          · exact hQ x h
        obtain ⟨e3, ss3, he3, hun3⟩ := row_un L.reverse ((label, numT) :: L2.reverse.map fT) (vars 12) stt_vars (by simp [hp.length_eq]) (fun x hx => by
          rcases List.mem_cons.1 hx with h | h
          · rw [h]; exact Or.inr rfl
          · obtain ⟨m, -, rfl⟩ := List.mem_map.1 h; exact Or.inl rfl)
        have hu3 := fun S => uni_law hX hsv _ _ hP hQ3 (by omega) (by simp only [List.length_cons]; omega) hun3 _ _ (isl_tycs (lof (rwT (L.reverse.map fT)))) (isl_tycs (lof (rwT ((label, numT) :: L2.reverse.map fT)))) S
        have hex3 := fun S => ext_law2 hX label numT (rwT (L2.reverse.map fT)) (.sl (tycs (lof numT)) (lof numT).length false none) _ (isl_tycs _) (isl_tycs (lof (rwT (L2.reverse.map fT)))) S
        have h3r : Tm.mk 5 label 0 [numT, rwT (L2.reverse.map fT)] = rwT ((label, numT) :: L2.reverse.map fT) := rfl
        rw [h3r] at hex3
        have hnf : eqb (nf (rwT (L.reverse.map fT))) (nf (rwT (L2.reverse.map fT))) = true := by rw [nf_perm hpr.symm]; exact eqb_rfl _
        rw [hnf] at hsm
        have dl2 : 12 ≤ (vars 12).length := by rw [vars_len]; exact Nat.le_refl _
        generalize hA : rwT (L.reverse.map fT) = A at *
        generalize hB : rwT (L2.reverse.map fT) = B at *
        generalize hC : rwT ((label, numT) :: L2.reverse.map fT) = C at *
        rw [tyc_w A, tyc_w B]
        rw [← tyc_w numT, tyc_w C] at hex3
        simp only [tyw] at hu2 hsm hu3 hex3 ⊢
        simp only [e7, e2, o1, o2, Nat.le_add_left, go_sem, ↓reduceIte, reduceCtorEq, Nat.reduceEqDiff, Nat.reduceAdd, Nat.reduceSub, Nat.reduceMul, Nat.reduceLeDiff, Nat.reduceLT, loadA, rdCells, storeA, setAt, binA]
        refine WO_callx _ rfl ((hu2 _).mono ?_)
        rintro w S8 ⟨rv2, rfl, hq2, hk8⟩
        obtain ⟨q2, rfl, -, -⟩ := hq2 rfl
        have p1 := hk8.2 S.size (by simp only [St.put]; omega)
        have p2 := hk8.2 (S.size + 1) (by simp only [St.put]; omega)
        rw [put_ne (by omega), put_eq] at p1
        rw [put_eq] at p2
        have hz8 := hk8.1
        simp only [St.put] at hz8
        simp only [e7, e2, go_sem, ↓reduceIte, reduceCtorEq, Nat.reduceEqDiff, Nat.reduceAdd, Nat.reduceSub, Nat.reduceMul, Nat.reduceLeDiff, Nat.reduceLT, loadA, rdCells, storeA, setAt, binA]
        refine W_dreg ?_
        simp only [wt_ops, stpT, Tr, p1, p2, wt_alloc, wt_nil, chk1, avr, e2, e7, Bool.or_true, Nat.le_add_left, go_sem, ↓reduceIte, reduceCtorEq, Nat.reduceEqDiff, Nat.reduceAdd, Nat.reduceSub, Nat.reduceMul, Nat.reduceLeDiff, Nat.reduceLT, loadA, rdCells, storeA, setAt, binA]
        refine WT_callx _ rfl ((num_law hX _).mono ?_)
        rintro w S9 ⟨rfl, hk9⟩
        have r1 := hk9.obj (by omega : S.size < S8.size) p1
        have r2' := hk9.obj (by omega : S.size + 1 < S8.size) p2
        have hz9 := hk9.1
        simp only [wt_ops, stpT, Tr, p1, p2, r1, r2', wt_alloc, wt_nil, chk1, avr, e2, e7, Bool.or_true, Nat.le_add_left, go_sem, ↓reduceIte, reduceCtorEq, Nat.reduceEqDiff, Nat.reduceAdd, Nat.reduceSub, Nat.reduceMul, Nat.reduceLeDiff, Nat.reduceLT, loadA, rdCells, storeA, setAt, binA]
        refine WT_callx _ rfl ((hex3 _).mono ?_)
        rintro w S10 ⟨rfl, hk10⟩
        have t1 := hk10.obj (by omega : S.size < S9.size) r1
        have t2 := hk10.obj (by omega : S.size + 1 < S9.size) r2'
        have hz10 := hk10.1
        simp only [wt_ops, stpT, Tr, p1, p2, r1, r2', t1, t2, wt_alloc, wt_nil, chk1, avr, e2, e7, Bool.or_true, Nat.le_add_left, go_sem, ↓reduceIte, reduceCtorEq, Nat.reduceEqDiff, Nat.reduceAdd, Nat.reduceSub, Nat.reduceMul, Nat.reduceLeDiff, Nat.reduceLT, loadA, rdCells, storeA, setAt, binA]
        refine WT_callx _ rfl ((hu3 _).mono ?_)
        rintro w S11 ⟨rv3, rfl, -, hk11⟩
        have u1 := hk11.obj (by omega : S.size < S10.size) t1
        have u2 := hk11.obj (by omega : S.size + 1 < S10.size) t2
        simp only [wt_ops, stpT, Tr, p1, p2, r1, r2', t1, t2, wt_alloc, wt_nil, chk1, avr, e2, e7, Bool.or_true, Nat.le_add_left, go_sem, ↓reduceIte, reduceCtorEq, Nat.reduceEqDiff, Nat.reduceAdd, Nat.reduceSub, Nat.reduceMul, Nat.reduceLeDiff, Nat.reduceLT, loadA, rdCells, storeA, setAt, binA]
        have hlq : lenA (AV.msl q2 0 (vars 12).length 4) = some (.int .i64 12) := by rw [vars_len]; rfl
        have d12 : ((12 : Int) == 12) = true := rfl
        have d0 : ((0 : Int) == 0) = true := rfl
        have d3 : (e3 != 0) = true := by simpa using he3
        simp only [hlq, hsl, d12, d0, e7, u1, u2, Nat.le_add_left, go_sem, ↓reduceIte, reduceCtorEq, Nat.reduceEqDiff, Nat.reduceAdd, Nat.reduceSub, Nat.reduceMul, Nat.reduceLeDiff, Nat.reduceLT, loadA, rdCells, storeA, setAt, binA]
        refine WO_call (by simp only [wantedA, go_sem, ↓reduceIte, reduceCtorEq, Nat.reduceEqDiff, Nat.reduceAdd, Nat.reduceSub, Nat.reduceMul, Nat.reduceLeDiff, Nat.reduceLT, loadA, rdCells, storeA, setAt, binA]) ((hsm _).mono ?_)
        rintro w S12 ⟨rfl, hk12⟩
        simp only [d3, go_sem, ↓reduceIte, reduceCtorEq, Nat.reduceEqDiff, Nat.reduceAdd, Nat.reduceSub, Nat.reduceMul, Nat.reduceLeDiff, Nat.reduceLT, loadA, rdCells, storeA, setAt, binA]
        exact ⟨by simp, _, rfl, rfl⟩
  · simp only [go_sem, ↓reduceIte, reduceCtorEq, Nat.reduceEqDiff, Nat.reduceAdd, Nat.reduceSub, Nat.reduceMul, Nat.reduceLeDiff, Nat.reduceLT, loadA, rdCells, storeA, setAt, binA]
  · simp only [go_sem, ↓reduceIte, reduceCtorEq, Nat.reduceEqDiff, Nat.reduceAdd, Nat.reduceSub, Nat.reduceMul, Nat.reduceLeDiff, Nat.reduceLT, loadA, rdCells, storeA, setAt, binA]
  · simp only [go_sem, ↓reduceIte, reduceCtorEq, Nat.reduceEqDiff, Nat.reduceAdd, Nat.reduceSub, Nat.reduceMul, Nat.reduceLeDiff, Nat.reduceLT, loadA, rdCells, storeA, setAt, binA]
  · simp only [go_sem, ↓reduceIte, reduceCtorEq, Nat.reduceEqDiff, Nat.reduceAdd, Nat.reduceSub, Nat.reduceMul, Nat.reduceLeDiff, Nat.reduceLT, loadA, rdCells, storeA, setAt, binA]
  · simp only [go_sem, ↓reduceIte, reduceCtorEq, Nat.reduceEqDiff, Nat.reduceAdd, Nat.reduceSub, Nat.reduceMul, Nat.reduceLeDiff, Nat.reduceLT, loadA, rdCells, storeA, setAt, binA]
  · simp only [go_sem, ↓reduceIte, reduceCtorEq, Nat.reduceEqDiff, Nat.reduceAdd, Nat.reduceSub, Nat.reduceMul, Nat.reduceLeDiff, Nat.reduceLT, loadA, rdCells, storeA, setAt, binA]; rfl
  · simp only [go_sem, ↓reduceIte, reduceCtorEq, Nat.reduceEqDiff, Nat.reduceAdd, Nat.reduceSub, Nat.reduceMul, Nat.reduceLeDiff, Nat.reduceLT, loadA, rdCells, storeA, setAt, binA]
end Go.Am.U2

/- UnifyRows: the arguments. Conditions: none. -/
namespace Go.Am.U2
open Go.Am.Un Go.So Go.Proofs
set_option maxRecDepth 100000
theorem b9 : Tryd.prog.bytesOf 9 = 16 := by kernel_rfl
theorem args_s {a : AV} (h : TyA Tryd.prog 45 a) : ∃ l, ISl sc a l ∧ l.length * 16 ≤ reachBytes := by
  obtain ⟨l, h1, -, -, h2⟩ := slice_arg (f := sc) (p := fun s => s.size ≤ reachBytes) Tryd.underlying45 (fun cs h => by obtain ⟨s, rfl, hs⟩ := ty_str Tryd.underlying9 h; exact ⟨s, rfl, hs⟩) h
  rw [b9] at h2
  exact ⟨l, h1, h2⟩
theorem rows_all : ∀ us, TyAs Tryd.prog [45, 3, 9] us → WC T Xb 6 us st0 (fun v _ => v = .bool true) := by
  intro us h
  cases h with
  | cons t a ts us h1 hs =>
    cases hs with
    | cons t b ts us h2 hs =>
      cases hs with
      | cons t c ts us h3 hs =>
        cases hs
        obtain ⟨l, hl, hb⟩ := args_s h1
        obtain ⟨n, rfl, -⟩ := int_arg Tryd.underlying3 h2
        obtain ⟨s, rfl, -⟩ := str_arg Tryd.underlying9 h3
        simp only [reachBytes] at hb
        exact rows_law hl (by omega) n s st0
end Go.Am.U2
