/- LexerLines: the scanner's small functions. Conditions: none. -/
import Derived.Test.YtjhbakfgoaeeoaaDoorAmLa
import Derived.Test.YtjhbakfgoaeeoaaDoorAmY4
set_option linter.unusedSimpArgs false
set_option linter.unusedVariables false
namespace Go.Am.L1
set_option maxRecDepth 100000
set_option linter.unusedSimpArgs false
attribute [local go_sem] wseq wreg wdreg wret wskip wexit wblock wcnd cnd_t cnd_f then_n then_x then_r catch_n rnd_n rnd_x rnd_r catch_x catch_r wo_nil wo_grd grdO_t grdO_f wo_ops stpO wr_nil wr_alloc wr_guards grdR_t grdR_f wr_ops stpR evAllocs evOp env0_app eput_some eput_none eset_app Opd.ev wantedA faddrA storeA setAt snew_obj snew_size sput_obj sput_size av_cells av_one av_strip av_still unA eqbA fillA fldA lensA mmA mm2 mmFold List.getD_cons_zero List.getD_cons_succ List.getD_nil List.length_cons List.length_nil List.drop_zero List.drop_succ_cons List.take_succ_cons List.take_zero List.map_cons List.map_nil List.set_cons_zero List.set_cons_succ List.all_cons List.all_nil List.getElem?_cons_zero List.getElem?_cons_succ List.nil_append List.cons_append Nat.zero_add Nat.add_zero beq_self_eq_true bt bf Bool.not_true Bool.not_false Bool.and_true Bool.true_and Bool.and_false Bool.false_and and_self and_true true_and n0 n1 n2 n3 n4 m0 m1 m2 m3 c1 retA resAs resA undefA Option.map_some Option.map_none

/-- A token. -/
structure Tk where
  kind : Int
  text : ByteArray
  n : Int
  line : Nat
  col : Nat
def tkc (t : Tk) : List AV := [.int .i64 t.kind, .str t.text, .int .i64 t.n, .int .i64 t.line, .int .i64 t.col]
theorem tkP : Plain tkc 5 := ⟨fun _ => rfl, fun _ => rfl, fun _ => rfl, fun _ => rfl⟩

theorem clone_law (t : ByteArray) (ht : t.size ≤ 100000) (s : St) : WC T xs 55 [.str t] s (fun v s' => v = .str t ∧ s' = s) := by
  refine WC_fn cf55 rfl T55 (by simp [cf55]) ?_
  simp only [cf55, go_sem, ↓reduceIte, reduceCtorEq, Nat.reduceEqDiff, Nat.reduceAdd, Nat.reduceSub, Nat.reduceMul, Nat.reduceLeDiff, Nat.reduceLT, loadA, rdCells, binA]
  refine WO_callx [.str t] (by simp only [go_sem, ↓reduceIte, reduceCtorEq, Nat.reduceEqDiff, Nat.reduceAdd, Nat.reduceSub, Nat.reduceMul, Nat.reduceLeDiff, Nat.reduceLT, loadA, rdCells, binA]) (WC_ext (h := cloneX) rfl (by simp only [cloneX]; rw [if_pos (by omega)]) ?_)
  simp only [go_sem, ↓reduceIte, reduceCtorEq, Nat.reduceEqDiff, Nat.reduceAdd, Nat.reduceSub, Nat.reduceMul, Nat.reduceLeDiff, Nat.reduceLT, loadA, rdCells, binA]
  exact ⟨by simp, _, rfl, rfl⟩

/-- A scanner with its tokens. -/
structure Tks (S : St) (p : Nat) (s : ByteArray) (a l c : Nat) (ov bv : AV) (tk : List Tk) : Prop where
  scn : Scn S p s a l c ov bv
  out : MSl tkc 5 S ov tk
  ap : notO ov p

theorem loads {S : St} {p : Nat} {s : ByteArray} {a l c : Nat} {ov bv : AV} (h : Scn S p s a l c ov bv) :
    loadA S false 1 (.ptr p 0) = some (.str s) ∧ loadA S false 1 (.ptr p 1) = some (.int .i64 a) ∧ loadA S false 1 (.ptr p 2) = some (.int .i64 l) ∧ loadA S false 1 (.ptr p 3) = some (.int .i64 c) ∧ loadA S false 1 (.ptr p 4) = some ov ∧ loadA S false 1 (.ptr p 5) = some bv := by
  simp [loadA, rdCells, h.obj]

theorem put_law {S : St} {p : Nat} {s : ByteArray} {a l c : Nat} {ov bv : AV} {tk : List Tk} (h : Tks S p s a l c ov bv tk) (kind n : Int) (t : ByteArray) (ht : a + t.size ≤ 100000) (hc : c + t.size ≤ 100000) (hl : tk.length ≤ 100000) :
    WC T xs 61 [.ptr p 0, .int .i64 kind, .str t, .int .i64 n] S (fun _ S' => ∃ ov', Tks S' p s (a + t.size) l (c + t.size) ov' bv (tk ++ [⟨kind, t, n, l, c⟩]) ∧ S.size ≤ S'.size ∧ freshO S.size ov' ∧ ∀ j, j < S.size → j ≠ p → notO ov j → S'.obj j = S.obj j) := by
  refine WC_fn cf61 rfl T61 (by simp [cf61]) ?_
  obtain ⟨-, -, hl2, hl3, hl4, -⟩ := loads h.scn
  obtain ⟨ov', S1, ha1, hM1, hf1, hs1, hc1, ho1, hk1⟩ := h.out.app1 tkP ⟨kind, t, n, l, c⟩ (bytes := 48) (by omega)
  have hob1 : S1.obj p = some (.cells [.str s, .int .i64 a, .int .i64 l, .int .i64 c, ov, bv]) := (hk1 p h.scn.lt h.ap).trans h.scn.obj
  simp only [tkc] at ha1
  have hbq : AV.beq ov ov = true := by
    rcases h.out with ⟨rfl, _⟩ | ⟨rfl, _⟩ | ⟨q, rfl, _⟩ <;> simp [AV.beq, AV.beqs]
  have hq : ∀ z : Int, AV.beq (.int .i64 z) (.int .i64 z) = true := fun z => by simp [AV.beq]
  simp only [cf61, go_sem, ↓reduceIte, reduceCtorEq, Nat.reduceEqDiff, Nat.reduceAdd, Nat.reduceSub, Nat.reduceMul, Nat.reduceLeDiff, Nat.reduceLT, binA]
  refine W_dreg ?_
  simp only [hl2, hl3, hl4, wt_ops, stpT, wt_nil, Tr, go_sem, ↓reduceIte, reduceCtorEq, Nat.reduceEqDiff, Nat.reduceAdd, Nat.reduceSub, Nat.reduceMul, Nat.reduceLeDiff, Nat.reduceLT, binA]
  refine WT_callx [.str t] (by simp only [go_sem, ↓reduceIte, reduceCtorEq, Nat.reduceEqDiff, Nat.reduceAdd, Nat.reduceSub, Nat.reduceMul, Nat.reduceLeDiff, Nat.reduceLT, loadA, rdCells, binA]) ((clone_law t (by omega) S).mono ?_)
  rintro v S0 ⟨rfl, rfl⟩
  simp only [hl2, hl3, hl4, ha1, hob1, hc1, ho1, wt_ops, stpT, wt_nil, Tr, chk1, hbq, hq, go_sem, ↓reduceIte, reduceCtorEq, Nat.reduceEqDiff, Nat.reduceAdd, Nat.reduceSub, Nat.reduceMul, Nat.reduceLeDiff, Nat.reduceLT, binA]
  refine ⟨by simp, ?_⟩
  have hlt := h.scn.lt
  have hnp : notO ov' p := hf1.ne hlt
  have hsc : Scn (S1.put p (some (AO.cells [AV.str s, AV.int IntKind.i64 ↑a, AV.int IntKind.i64 ↑l, AV.int IntKind.i64 ↑c, ov', bv]))) p s a l c ov' bv := ⟨by simp only [St.put]; omega, put_eq⟩
  refine WO_callx [.ptr p 0, .int .i64 t.size] (by simp only [go_sem, ↓reduceIte, reduceCtorEq, Nat.reduceEqDiff, Nat.reduceAdd, Nat.reduceSub, Nat.reduceMul, Nat.reduceLeDiff, Nat.reduceLT, loadA, rdCells, binA]) ((skip_law hsc t.size (by omega) (by omega)).mono ?_)
  rintro v S2 ⟨hsc2, hk2, hz2⟩
  simp only [go_sem, ↓reduceIte, reduceCtorEq, Nat.reduceEqDiff, Nat.reduceAdd, Nat.reduceSub, Nat.reduceMul, Nat.reduceLeDiff, Nat.reduceLT, loadA, rdCells, binA]
  refine ⟨by simp, _, rfl, ov', ⟨hsc2, ?_, hnp⟩, ?_, hf1, ?_⟩
  · refine hM1.of (fun q hq hlt2 => ?_) hk2.1
    have hqp : q ≠ p := by rintro rfl; exact hnp _ _ _ hq
    rw [hk2.2 q (by simp only [St.put]; exact hlt2) hqp, put_ne hqp]
  · have := hk2.1; simp only [St.put] at this; omega
  · intro j hj hjp hjo
    rw [hk2.2 j (by simp only [St.put]; omega) hjp, put_ne hjp, hk1 j hj hjo]

/-- A located error. -/
structure Dg where
  code : Int
  line : Nat
  col : Nat
def dgc (d : Dg) : List AV := [.int .i64 d.code, .int .i64 d.line, .int .i64 d.col, .str ⟨#[]⟩]
theorem dgP : Plain dgc 4 := ⟨fun _ => rfl, fun _ => rfl, fun _ => rfl, fun _ => rfl⟩

def Low (N : Nat) (S S' : St) : Prop := S.size ≤ S'.size ∧ ∀ j, j < N → S'.obj j = S.obj j
theorem Low.refl (N : Nat) (S : St) : Low N S S := ⟨Nat.le_refl _, fun _ _ => rfl⟩
theorem Low.trans {N : Nat} {A B C : St} (h : Low N A B) (k : Low N B C) : Low N A C := ⟨Nat.le_trans h.1 k.1, fun j hj => (k.2 j hj).trans (h.2 j hj)⟩

/-- The scanner between two steps. -/
structure Inv (N : Nat) (S : St) (p : Nat) (s : ByteArray) (a l c : Nat) (tk : List Tk) (ds : List Dg) : Prop where
  ex : ∃ ov bv, Tks S p s a l c ov bv tk ∧ ((bv = .nils ∧ ds = []) ∨ RSl dgc N S bv ds) ∧ N ≤ p ∧ freshO N ov

theorem right_ne {S : St} {p : Nat} {s : ByteArray} {a l c : Nat} {ov bv : AV} {tk : List Tk} (h : Tks S p s a l c ov bv tk) {t : Nat} (ht : S.obj t = some .right) : t ≠ p ∧ notO ov t := by
  constructor
  · rintro rfl; rw [h.scn.obj] at ht; cases ht
  · rintro o n z rfl
    rcases h.out with ⟨h1, _⟩ | ⟨h1, _⟩ | ⟨q, h1, h2, _⟩
    · cases h1
    · cases h1
    · cases h1; rw [h2] at ht; cases ht

theorem put_inv {N : Nat} {S : St} {p : Nat} {s : ByteArray} {a l c : Nat} {tk : List Tk} {ds : List Dg} (h : Inv N S p s a l c tk ds) (kind n : Int) (t : ByteArray) (ht : a + t.size ≤ 100000) (hc : c + t.size ≤ 100000) (hl : tk.length ≤ 100000) :
    WC T xs 61 [.ptr p 0, .int .i64 kind, .str t, .int .i64 n] S (fun _ S' => Inv N S' p s (a + t.size) l (c + t.size) (tk ++ [⟨kind, t, n, l, c⟩]) ds ∧ Low N S S') := by
  obtain ⟨ov, bv, hT, hB, hp, hf⟩ := h.ex
  refine (put_law hT kind n t ht hc hl).mono ?_
  rintro v S' ⟨ov', hT', hs, hf', hk⟩
  have hlow : ∀ j, j < N → j < S.size := fun j hj => by have := hT.scn.lt; omega
  refine ⟨⟨ov', bv, hT', ?_, hp, hf'.le (by have := hT.scn.lt; omega)⟩, hs, fun j hj => hk j (hlow j hj) (by omega) (hf.ne hj)⟩
  rcases hB with hB | hB
  · exact Or.inl hB
  · exact Or.inr (hB.of (Nat.le_refl _) (fun q _ hq hr => by obtain ⟨h1, h2⟩ := right_ne hT hr; exact hk q hq h1 h2) hs)

theorem but_inv {N : Nat} {S S' : St} {p : Nat} {s : ByteArray} {a l c a' l' c' : Nat} {ov bv : AV} {tk : List Tk} {ds : List Dg} (hT : Tks S p s a l c ov bv tk) (hB : (bv = .nils ∧ ds = []) ∨ RSl dgc N S bv ds) (hp : N ≤ p) (hf : freshO N ov)
    (hs : Scn S' p s a' l' c' ov bv) (hk : KeepBut p S S') : Inv N S' p s a' l' c' tk ds ∧ Low N S S' := by
  refine ⟨⟨ov, bv, ⟨hs, hT.out.of (fun q hq hlt => ?_) hk.1, hT.ap⟩, ?_, hp, hf⟩, hk.1, fun j hj => hk.2 j (by have := hT.scn.lt; omega) (by omega)⟩
  · have hqp : q ≠ p := by rintro rfl; exact hT.ap _ _ _ hq
    exact hk.2 q hlt hqp
  · rcases hB with hB | hB
    · exact Or.inl hB
    · exact Or.inr (hB.of (Nat.le_refl _) (fun q _ hq hr => hk.2 q hq (right_ne hT hr).1) hk.1)

theorem skip_inv {N : Nat} {S : St} {p : Nat} {s : ByteArray} {a l c : Nat} {tk : List Tk} {ds : List Dg} (h : Inv N S p s a l c tk ds) (n : Nat) (ha : a + n ≤ 1000000) (hc : c + n ≤ 1000000) :
    WC T xs 83 [.ptr p 0, .int .i64 n] S (fun _ S' => Inv N S' p s (a + n) l (c + n) tk ds ∧ Low N S S') := by
  obtain ⟨ov, bv, hT, hB, hp, hf⟩ := h.ex
  refine (skip_law hT.scn n ha hc).mono ?_
  rintro v S' ⟨hs, hk, _⟩
  exact but_inv hT hB hp hf hs hk

theorem fail_inv {N : Nat} {S : St} {p : Nat} {s : ByteArray} {a l c : Nat} {tk : List Tk} {ds : List Dg} (h : Inv N S p s a l c tk ds) (e : Int) (hd : ds.length ≤ 100000) :
    WC T xs 94 [.ptr p 0, .int .i64 e] S (fun _ S' => Inv N S' p s a l c tk (ds ++ [⟨e, l, c⟩]) ∧ Low N S S') := by
  obtain ⟨ov, bv, hT, hB, hp, hf⟩ := h.ex
  refine WC_fn cf94 rfl T94 (by simp [cf94]) ?_
  obtain ⟨-, -, hl2, hl3, hl4, hl5⟩ := loads hT.scn
  have key : ∃ bv' S1, appendA S false 4 40 bv (.sl [.int .i64 e, .int .i64 l, .int .i64 c, .str ⟨#[]⟩] 1 true none) = some (bv', S1) ∧ RSl dgc N S1 bv' (ds ++ [⟨e, l, c⟩]) ∧ S.size ≤ S1.size ∧ (∀ j, j < N → S1.obj j = S.obj j) ∧ (∀ j cs, j < S.size → S.obj j = some (.cells cs) → S1.obj j = some (.cells cs)) ∧ bv'.cells = [bv'] ∧ bv'.one = true := by
    have hlt := hT.scn.lt
    rcases hB with ⟨rfl, rfl⟩ | hB
    · refine ⟨.sl [.int .i64 e, .int .i64 l, .int .i64 c, .str ⟨#[]⟩] 1 false (some S.size), S.new .right, by simp [appendA, contents, freshA, AV.still, AV.strip], ⟨by simp, false, some S.size, by simp [dgc], Or.inr ⟨S.size, rfl, new_eq rfl, by omega, by simp [St.new]⟩⟩, by simp [St.new], fun j hj => new_ne (by omega), fun j cs hj ho => by rw [new_ne (by omega)]; exact ho, rfl, rfl⟩
    · obtain ⟨bv', S1, h1, h2, h3, h4, h5⟩ := hB.app dgP (m := [⟨e, l, c⟩]) (u := .sl [.int .i64 e, .int .i64 l, .int .i64 c, .str ⟨#[]⟩] 1 true none) (Or.inr ⟨true, none, rfl⟩) (by simp) (by omega) (bytes := 40) (by simp; omega)
      obtain ⟨_, fl, tk', rfl, _⟩ := h2
      exact ⟨_, S1, h1, ⟨by simp, fl, tk', rfl, by assumption⟩, h3, h4, h5, rfl, rfl⟩
  obtain ⟨bv', S1, ha1, hR, hs1, hlow, hcells, hc1, ho1⟩ := key
  have hob1 : S1.obj p = some (.cells [.str s, .int .i64 a, .int .i64 l, .int .i64 c, ov, bv]) := hcells p _ hT.scn.lt hT.scn.obj
  simp only [cf94, hl2, hl3, hl5, ha1, hob1, hc1, ho1, go_sem, ↓reduceIte, reduceCtorEq, Nat.reduceEqDiff, Nat.reduceAdd, Nat.reduceSub, Nat.reduceMul, Nat.reduceLeDiff, Nat.reduceLT, binA]
  have hlt := hT.scn.lt
  refine ⟨by simp, _, rfl, ⟨⟨ov, bv', ⟨⟨by simp only [St.put]; omega, put_eq⟩, ?_, hT.ap⟩, Or.inr ?_, hp, hf⟩⟩, ⟨by simp only [St.put]; omega, fun j hj => by rw [put_ne (by omega), hlow j hj]⟩⟩
  · refine hT.out.of (fun q hq hql => ?_) (by simp only [St.put]; omega)
    have hqp : q ≠ p := by rintro rfl; exact hT.ap _ _ _ hq
    rcases hT.out with ⟨h1, _⟩ | ⟨h1, _⟩ | ⟨q', h1, h2, _⟩
    · rw [hq] at h1; cases h1
    · rw [hq] at h1; cases h1
    · rw [hq] at h1; cases h1
      rw [put_ne hqp, hcells q _ hql h2, h2]
  · refine hR.of (Nat.le_refl _) (fun q _ _ hr => ?_) (by simp only [St.put]; omega)
    have hqp : q ≠ p := by rintro rfl; rw [hob1] at hr; cases hr
    rw [put_ne hqp]
end Go.Am.L1
