/- entail: its runs are the machine's. Conditions: none. -/
import Derived.Test.YtfleakoephmgaaaDoorClI
set_option linter.unusedSimpArgs false
set_option linter.unusedVariables false
namespace Go.Am.U3
open Go.Am.Un Go.So
open Go.Am.U1 (NoX drop_at ne_a ne_b ne_c ne_d avr tyw tyc_w tycP isl_tycs len_tszs tsz_pos)
open Go.Am.U2 (Xb)
set_option maxRecDepth 100000
set_option linter.unusedSimpArgs false
attribute [local go_sem] wseq COp.isStore wreg wdreg wret wskip wexit wblock wcnd cnd_t cnd_f then_n then_x then_r catch_n rnd_n rnd_x rnd_r catch_x catch_r wo_nil wo_grd grdO_t grdO_f wo_ops stpO wr_nil wr_alloc wr_guards grdR_t grdR_f wr_ops stpR evAllocs evOp env0_app eput_some eput_none eset_app Opd.ev wantedA faddrA snew_obj snew_size sput_obj sput_size av_cells av_one av_strip av_still unA eqbA fillA fldA lensA mmA mm2 mmFold List.getD_cons_zero List.getD_cons_succ List.getD_nil List.length_cons List.length_nil List.drop_zero List.drop_succ_cons List.take_succ_cons List.take_zero List.map_cons List.map_nil List.set_cons_zero List.set_cons_succ List.all_cons List.all_nil List.getElem?_cons_zero List.getElem?_cons_succ List.nil_append List.cons_append Nat.zero_add Nat.add_zero beq_self_eq_true bt bf Bool.not_true Bool.not_false Bool.and_true Bool.true_and Bool.and_false Bool.false_and and_self and_true true_and n0 n1 n2 n3 n4 m0 m1 m2 m3 c1 retA resAs resA undefA Option.map_some Option.map_none

theorem needs_mem {x : In} {t : Tm} {q : Pr} (h : q ∈ needs x t) : q.ty ∈ lof t ∧ ∃ p, p ∈ x.pre ∧ q.cls = p.cls := by
  unfold needs need1 at h
  obtain ⟨p, hp, h⟩ := List.mem_flatMap.1 h
  obtain ⟨⟨a, b⟩, hz, h⟩ := List.mem_filterMap.1 h
  cases hc : (vof a == vof p.ty)
  · simp only [hc, cond_false] at h; cases h
  · simp only [hc, cond_true, Option.some.injEq] at h
    subst h
    exact ⟨(List.of_mem_zip hz).2, p, hp, rfl⟩
theorem needs_vp {x : In} {w : Pr} (hw : VP w) : ∀ q, q ∈ needs x w.ty → VP q := fun q hq => by
  have h := (needs_mem hq).1
  have := tsz_mem h
  exact ⟨val_arg hw.1 h, by have := hw.2; omega⟩

/-- What the machine does at it. -/
def EnC (lv iv hvv : AV) (lf : Nat) (left e : Int) (p : Pf) (left' : Int) : EnJ → Prop
  | .one w d => VP w → 0 ≤ d → d ≤ 401 → ∀ s, s.obj lf = some (.cells [.int .i64 left]) → lf < s.size → WC T Xb 63 [lv, iv, hvv, .agg (prc w), .int .i64 d, .ptr lf 0] s (fun r s' => r = .tup [.agg (pfc p), .int .i64 e] ∧ s'.obj lf = some (.cells [.int .i64 left']) ∧ KeepBut lf s s')
  | .all ps d n acc => (∀ q, q ∈ ps → VP q) → 1 ≤ d → d ≤ 401 → ∀ (full : List Pr) (i : Nat) (nv ov : AV) (tok : Option Nat) (b r : Nat) (S : St) (en : Env), ISl prc nv full → full.length * 72 ≤ 140737488355328 → i ≤ full.length → full.drop i = ps → acc.length = i → en 0 = lv → en 1 = iv → en 2 = hvv → en 4 = .int .i64 (d - 1) → en 5 = .ptr lf 0 → en 12 = .ptr r 0 → en 21 = .ptr b 0 → en 79 = nv → en 80 = .int .i64 full.length → en 81 = .int .i64 i →
      S.obj b = some (.cells [.int .i64 2, .int .i64 n, ov]) → Grw pfc 0 S ov acc tok → b < S.size → (∃ c0 c1 c2, S.obj r = some (.cells [c0, c1, c2])) → r < S.size → S.obj lf = some (.cells [.int .i64 left]) → lf < S.size → b ≠ r → b ≠ lf → r ≠ lf →
      W T Xb (.loop cf63_l0) en S (fun x e' S' => ((x = .exit 2 ∧ e = 0 ∧ e' 12 = .ptr r 0 ∧ e' 21 = .ptr b 0 ∧ (∃ ov', S'.obj b = some (.cells [.int .i64 (kofP p), .int .i64 (nofP p), ov']) ∧ AV.strip ov' = .sl (pfcs (subP p)) (subP p).length false none) ∧ ∃ c0 c1 c2, S'.obj r = some (.cells [c0, c1, c2])) ∨
        (x = .ret ∧ e ≠ 0 ∧ e' 13 = .int .i64 e ∧ e' 12 = .ptr r 0 ∧ S'.obj r = some (.cells [.int .i64 0, .int .i64 0, .nils]))) ∧ S'.obj lf = some (.cells [.int .i64 left']) ∧ S.size ≤ S'.size ∧ ∀ j, j < S.size → j ≠ lf → j ≠ b → j ≠ r → some j ≠ tok → S'.obj j = S.obj j)

theorem grw_keepF {s s' : St} {v : AV} {l : List Pf} {tok : Option Nat} (h : Grw pfc 0 s v l tok) (hs : s.size ≤ s'.size) (hk : ∀ j, j < s.size → some j = tok → s'.obj j = s.obj j) : Grw pfc 0 s' v l tok :=
  h.keep hs (fun q hq => by
    rcases h with ⟨-, -, h⟩ | ⟨k2, h, -, -, -, h5, -⟩
    · rw [h] at hq; cases hq
    · rw [h] at hq; cases hq; exact hk _ h5 h.symm)
theorem grw_ntok {s : St} {v : AV} {l : List Pf} {tok : Option Nat} (h : Grw pfc 0 s v l tok) {j : Nat} {cs : List AV} (hj : s.obj j = some (.cells cs)) : some j ≠ tok := fun ht => by
  rcases h with ⟨-, -, h⟩ | ⟨k2, h, -, -, h4, -, -⟩
  · rw [h] at ht; cases ht
  · rw [h] at ht; cases ht; rw [hj] at h4; cases h4
theorem grw_strip {s : St} {v : AV} {l : List Pf} {tok : Option Nat} (h : Grw pfc 0 s v l tok) : AV.strip v = .sl (pfcs l) l.length false none := by
  rcases h with ⟨rfl, rfl, -⟩ | ⟨k, -, rfl, -⟩
  · rw [pfcs]; rfl
  · rw [pfcs_flat]; rfl

set_option maxHeartbeats 16000000 in
theorem en_law {lv iv hvv : AV} {l : List Cl} {ins : List In} {hv : List Pr} (hl : ISl clc lv l) (hi : ISl inc iv ins) (hhv : ISl prc hvv hv) (hbl : l.length ≤ 8796093022208) (hbh : hv.length ≤ 8796093022208) (hs : ∀ c, c ∈ l → c.sup.length ≤ 8796093022208) (hvp : ∀ h, h ∈ hv → VP h)
    (hbi : ins.length ≤ 4096) (hpl : ∀ x, x ∈ ins → x.pre.length * 72 ≤ 140737488355328 ∧ tsz x.hd ≤ 4096 ∧ ∀ t, (needs x t).length ≤ x.pre.length) {lf : Nat} {left left' e : Int} {j : EnJ} {p : Pf} (h : En l ins hv left j e p left') : 0 ≤ left → left ≤ 4096 → EnC lv iv hvv lf left e p left' j := by
  have hX : NoX Xb := U2.Xb_none
  have hhl := hhv.len
  have start : ∀ (left : Int) (w : Pr) (s : St), lf < s.size → ∃ S1, S1 = ((s.new (.cells (prc w))).new (.cells [.int .i64 0, .int .i64 0, .nils])).put lf (some (.cells [.int .i64 (left - 1)])) ∧ S1.obj s.size = some (.cells (prc w)) ∧ S1.obj (s.size + 1) = some (.cells [.int .i64 0, .int .i64 0, .nils]) ∧ S1.size = s.size + 2 ∧ S1.obj lf = some (.cells [.int .i64 (left - 1)]) ∧ KeepBut lf s S1 := by
    intro left w s hz
    refine ⟨_, rfl, by rw [put_ne (by omega), new_ne (by simp only [St.new]; omega)]; exact new_eq rfl, by rw [put_ne (by omega)]; exact new_eq rfl, rfl, put_eq, by simp only [St.new, St.put]; omega, fun j hj hn => by rw [put_ne hn, new_ne (by simp only [St.new]; omega), new_ne (by omega)]⟩
  induction h with
  | large left w d hlg =>
    intro h0 h1 hw hd0 hd1 s ho hz
    obtain ⟨S1, hS1, o9, o12, z1, ol, hk1⟩ := start left w s hz
    have hwr : IntKind.i64.wrap (left - 1) = left - 1 := by rw [IntKind.wrap_i64]; omega
    refine WC_fn cf63 (hX 63 (by decide)) T63 (by simp [cf63]) ?_
    have hn12 : (s.size + 1 = lf) = False := eq_false (by omega)
    have hn9 : (s.size = lf) = False := eq_false (by omega)
    have hfin : ∀ x, KeepBut lf s (S1.put (s.size + 1) x) := fun x => ⟨by simp only [St.put]; omega, fun j hj hn => by rw [put_ne (by omega)]; exact hk1.2 j hj hn⟩
    simp only [prc] at hS1 ⊢
    rw [nop_c]
    cases hdd : decide (d > 400)
    · have hlt : decide (left - 1 < 0) = true := by
        have : ¬ (d > 400) := of_decide_eq_false hdd
        simp; omega
      simp only [cf63, ho, hwr, hdd, hlt, hn12, ne_a hz, ne_b hz, ne_c hz, ne_d hz, Nat.le_add_left, setAt, go_sem, ↓reduceIte, reduceCtorEq, Nat.reduceEqDiff, Nat.reduceAdd, Nat.reduceSub, Nat.reduceMul, Nat.reduceLeDiff, Nat.reduceLT, loadA, rdCells, storeA, setAt, binA]
      rw [← hS1]
      exact ⟨by simp, _, rfl, rfl, hfin _⟩
    · simp only [cf63, ho, hwr, hdd, hn12, ne_a hz, ne_b hz, ne_c hz, ne_d hz, Nat.le_add_left, setAt, go_sem, ↓reduceIte, reduceCtorEq, Nat.reduceEqDiff, Nat.reduceAdd, Nat.reduceSub, Nat.reduceMul, Nat.reduceLeDiff, Nat.reduceLT, loadA, rdCells, storeA, setAt, binA]
      rw [← hS1]
      exact ⟨by simp, _, rfl, rfl, hfin _⟩
  | given left w d p hd hl' hg =>
    intro h0 h1 hw hd0 hd1 s ho hz
    obtain ⟨S1, hS1, o9, o12, z1, ol, hk1⟩ := start left w s hz
    have hwr : IntKind.i64.wrap (left - 1) = left - 1 := by rw [IntKind.wrap_i64]; omega
    refine WC_fn cf63 (hX 63 (by decide)) T63 (by simp [cf63]) ?_
    have hn12 : (s.size + 1 = lf) = False := eq_false (by omega)
    have hn9 : (s.size = lf) = False := eq_false (by omega)
    have hfin : ∀ x, KeepBut lf s (S1.put (s.size + 1) x) := fun x => ⟨by simp only [St.put]; omega, fun j hj hn => by rw [put_ne (by omega)]; exact hk1.2 j hj hn⟩
    have hdd : decide (d > 400) = false := by simp; omega
    have hlt : decide (left - 1 < 0) = false := by simp; omega
    have hgl := fun S en a r => gv_loop hl hhv hbl hbh hs hvp hw hg a r S en
    have o9' := o9
    simp only [prc] at hS1 o9' ⊢
    simp only [cf63, ho, hwr, hdd, hlt, hhl, hn12, hn9, ne_a hz, ne_b hz, ne_c hz, ne_d hz, Nat.le_add_left, setAt, go_sem, ↓reduceIte, reduceCtorEq, Nat.reduceEqDiff, Nat.reduceAdd, Nat.reduceSub, Nat.reduceMul, Nat.reduceLeDiff, Nat.reduceLT, loadA, rdCells, storeA, setAt, binA]
    rw [← hS1]
    refine (hgl S1 _ s.size (s.size + 1) (Nat.zero_le _) rfl ?_ ?_ ?_ ?_ ?_ ?_ o9 (by omega) ⟨_, _, _, o12⟩ (by omega) (by omega)).mono ?_
    · simp only [go_sem, ↓reduceIte, reduceCtorEq, Nat.reduceEqDiff, Nat.reduceAdd, Nat.reduceSub, Nat.reduceMul, Nat.reduceLeDiff, Nat.reduceLT, loadA, rdCells, storeA, setAt, binA]
    · simp only [go_sem, ↓reduceIte, reduceCtorEq, Nat.reduceEqDiff, Nat.reduceAdd, Nat.reduceSub, Nat.reduceMul, Nat.reduceLeDiff, Nat.reduceLT, loadA, rdCells, storeA, setAt, binA]
    · simp only [go_sem, ↓reduceIte, reduceCtorEq, Nat.reduceEqDiff, Nat.reduceAdd, Nat.reduceSub, Nat.reduceMul, Nat.reduceLeDiff, Nat.reduceLT, loadA, rdCells, storeA, setAt, binA]
    · simp only [go_sem, ↓reduceIte, reduceCtorEq, Nat.reduceEqDiff, Nat.reduceAdd, Nat.reduceSub, Nat.reduceMul, Nat.reduceLeDiff, Nat.reduceLT, loadA, rdCells, storeA, setAt, binA]
    · simp only [go_sem, ↓reduceIte, reduceCtorEq, Nat.reduceEqDiff, Nat.reduceAdd, Nat.reduceSub, Nat.reduceMul, Nat.reduceLeDiff, Nat.reduceLT, loadA, rdCells, storeA, setAt, binA]
    · simp only [go_sem, ↓reduceIte, reduceCtorEq, Nat.reduceEqDiff, Nat.reduceAdd, Nat.reduceSub, Nat.reduceMul, Nat.reduceLeDiff, Nat.reduceLT, loadA, rdCells, storeA, setAt, binA]; rfl
    rintro x e' S2 ⟨hx, hk2⟩
    have hk02 : KeepBut lf s S2 := ⟨by have := hk2.1; omega, fun j hj hn => by rw [hk2.2 j (by omega) (by omega)]; exact hk1.2 j hj hn⟩
    rcases hx with ⟨-, h, -⟩ | ⟨rfl, p', hp, h13, h12, hor⟩
    · cases h
    · cases hp
      have hst : (pfc p).map AV.strip = pfc p := by have := pfcP.strips [p]; simpa using this
      rw [pfc_w] at hor hst
      simp only [h13, h12, hor, hst, Nat.le_add_left, go_sem, ↓reduceIte, reduceCtorEq, Nat.reduceEqDiff, Nat.reduceAdd, Nat.reduceSub, Nat.reduceMul, Nat.reduceLeDiff, Nat.reduceLT, loadA, rdCells, storeA, setAt, binA]
      exact ⟨by simp, _, rfl, by rw [pfc_w], by rw [hk2.2 lf (by omega) (by omega)]; exact ol, hk02⟩
  | no left w d hd hl' hg hn =>
    intro h0 h1 hw hd0 hd1 s ho hz
    obtain ⟨S1, hS1, o9, o12, z1, ol, hk1⟩ := start left w s hz
    have hwr : IntKind.i64.wrap (left - 1) = left - 1 := by rw [IntKind.wrap_i64]; omega
    refine WC_fn cf63 (hX 63 (by decide)) T63 (by simp [cf63]) ?_
    have hn12 : (s.size + 1 = lf) = False := eq_false (by omega)
    have hn9 : (s.size = lf) = False := eq_false (by omega)
    have hfin : ∀ x, KeepBut lf s (S1.put (s.size + 1) x) := fun x => ⟨by simp only [St.put]; omega, fun j hj hn => by rw [put_ne (by omega)]; exact hk1.2 j hj hn⟩
    have hdd : decide (d > 400) = false := by simp; omega
    have hlt : decide (left - 1 < 0) = false := by simp; omega
    have hgl := fun S en a r => gv_loop hl hhv hbl hbh hs hvp hw hg a r S en
    have o9' := o9
    simp only [prc] at hS1 o9' ⊢
    simp only [cf63, ho, hwr, hdd, hlt, hhl, hn12, hn9, ne_a hz, ne_b hz, ne_c hz, ne_d hz, Nat.le_add_left, setAt, go_sem, ↓reduceIte, reduceCtorEq, Nat.reduceEqDiff, Nat.reduceAdd, Nat.reduceSub, Nat.reduceMul, Nat.reduceLeDiff, Nat.reduceLT, loadA, rdCells, storeA, setAt, binA]
    rw [← hS1]
    refine (hgl S1 _ s.size (s.size + 1) (Nat.zero_le _) rfl ?_ ?_ ?_ ?_ ?_ ?_ o9 (by omega) ⟨_, _, _, o12⟩ (by omega) (by omega)).mono ?_
    · simp only [go_sem, ↓reduceIte, reduceCtorEq, Nat.reduceEqDiff, Nat.reduceAdd, Nat.reduceSub, Nat.reduceMul, Nat.reduceLeDiff, Nat.reduceLT, loadA, rdCells, storeA, setAt, binA]
    · simp only [go_sem, ↓reduceIte, reduceCtorEq, Nat.reduceEqDiff, Nat.reduceAdd, Nat.reduceSub, Nat.reduceMul, Nat.reduceLeDiff, Nat.reduceLT, loadA, rdCells, storeA, setAt, binA]
    · simp only [go_sem, ↓reduceIte, reduceCtorEq, Nat.reduceEqDiff, Nat.reduceAdd, Nat.reduceSub, Nat.reduceMul, Nat.reduceLeDiff, Nat.reduceLT, loadA, rdCells, storeA, setAt, binA]
    · simp only [go_sem, ↓reduceIte, reduceCtorEq, Nat.reduceEqDiff, Nat.reduceAdd, Nat.reduceSub, Nat.reduceMul, Nat.reduceLeDiff, Nat.reduceLT, loadA, rdCells, storeA, setAt, binA]
    · simp only [go_sem, ↓reduceIte, reduceCtorEq, Nat.reduceEqDiff, Nat.reduceAdd, Nat.reduceSub, Nat.reduceMul, Nat.reduceLeDiff, Nat.reduceLT, loadA, rdCells, storeA, setAt, binA]
    · simp only [go_sem, ↓reduceIte, reduceCtorEq, Nat.reduceEqDiff, Nat.reduceAdd, Nat.reduceSub, Nat.reduceMul, Nat.reduceLeDiff, Nat.reduceLT, loadA, rdCells, storeA, setAt, binA]; rfl
    rintro x e' S2 ⟨hx, hk2⟩
    have hk02 : KeepBut lf s S2 := ⟨by have := hk2.1; omega, fun j hj hn => by rw [hk2.2 j (by omega) (by omega)]; exact hk1.2 j hj hn⟩
    have ol2 : S2.obj lf = some (.cells [.int .i64 (left - 1)]) := by rw [hk2.2 lf (by omega) (by omega)]; exact ol
    have o92 : S2.obj s.size = some (.cells [.str w.cls, .int .i64 (kof w.ty), .str (nof w.ty), .int .i64 (vof w.ty), .sl (tycs (lof w.ty)) (lof w.ty).length false none]) := by rw [hk2.2 _ (by omega) (by omega)]; exact o9'
    have zz2 := hk2.1
    rcases hx with ⟨rfl, -, ⟨c0, c1, c2, hor⟩, hen⟩ | ⟨-, p', hp, -⟩
    case inr => cases hp
    have g0 := hen 0 (by omega)
    have g1 := hen 1 (by omega)
    have g2 := hen 2 (by omega)
    have g4 := hen 4 (by omega)
    have g5 := hen 5 (by omega)
    have g9 := hen 9 (by omega)
    have g12 := hen 12 (by omega)
    simp only [go_sem, ↓reduceIte, reduceCtorEq, Nat.reduceEqDiff, Nat.reduceAdd, Nat.reduceSub, Nat.reduceMul, Nat.reduceLeDiff, Nat.reduceLT, loadA, rdCells, storeA, setAt, binA] at g0 g1 g2 g4 g5 g9 g12
    have hil := fun S => instance_law hX hi hbi hpl w S
    simp only [prc] at hil
    simp only [g0, g1, g2, g4, g5, g9, g12, o92, Nat.le_add_left, go_sem, ↓reduceIte, reduceCtorEq, Nat.reduceEqDiff, Nat.reduceAdd, Nat.reduceSub, Nat.reduceMul, Nat.reduceLeDiff, Nat.reduceLT, loadA, rdCells, storeA, setAt, binA]
    refine WO_callx _ rfl ((hil _).mono ?_)
    rintro w0 S3 ⟨⟨nv, rfl, hnv⟩, hk3⟩
    have hk03 := hk02.trans (hk3.but (p := lf))
    have ol3 := hk3.obj (by omega) ol2
    have hor3 := hk3.obj (by omega) hor
    have zz3 := hk3.1
    rw [nop_c]
    simp only [hn, g0, g1, g2, g4, g5, g9, g12, hor3, Nat.le_add_left, setAt, go_sem, ↓reduceIte, reduceCtorEq, Nat.reduceEqDiff, Nat.reduceAdd, Nat.reduceSub, Nat.reduceMul, Nat.reduceLeDiff, Nat.reduceLT, loadA, rdCells, storeA, setAt, binA]
    refine ⟨by simp, _, rfl, rfl, by rw [if_neg (by omega)]; exact ol3, by simp only [St.put]; have := hk03.1; omega, fun j hj hn => ?_⟩
    rw [put_ne (by omega)]; exact hk03.2 j hj hn
  | yes left left' w d e p i x hd hl' hg hsx hr ih =>
    intro h0 h1 hw hd0 hd1 s ho hz
    obtain ⟨S1, hS1, o9, o12, z1, ol, hk1⟩ := start left w s hz
    have hwr : IntKind.i64.wrap (left - 1) = left - 1 := by rw [IntKind.wrap_i64]; omega
    refine WC_fn cf63 (hX 63 (by decide)) T63 (by simp [cf63]) ?_
    have hn12 : (s.size + 1 = lf) = False := eq_false (by omega)
    have hn9 : (s.size = lf) = False := eq_false (by omega)
    have hfin : ∀ x, KeepBut lf s (S1.put (s.size + 1) x) := fun x => ⟨by simp only [St.put]; omega, fun j hj hn => by rw [put_ne (by omega)]; exact hk1.2 j hj hn⟩
    have hdd : decide (d > 400) = false := by simp; omega
    have hlt : decide (left - 1 < 0) = false := by simp; omega
    have hgl := fun S en a r => gv_loop hl hhv hbl hbh hs hvp hw hg a r S en
    have o9' := o9
    simp only [prc] at hS1 o9' ⊢
    simp only [cf63, ho, hwr, hdd, hlt, hhl, hn12, hn9, ne_a hz, ne_b hz, ne_c hz, ne_d hz, Nat.le_add_left, setAt, go_sem, ↓reduceIte, reduceCtorEq, Nat.reduceEqDiff, Nat.reduceAdd, Nat.reduceSub, Nat.reduceMul, Nat.reduceLeDiff, Nat.reduceLT, loadA, rdCells, storeA, setAt, binA]
    rw [← hS1]
    refine (hgl S1 _ s.size (s.size + 1) (Nat.zero_le _) rfl ?_ ?_ ?_ ?_ ?_ ?_ o9 (by omega) ⟨_, _, _, o12⟩ (by omega) (by omega)).mono ?_
    · simp only [go_sem, ↓reduceIte, reduceCtorEq, Nat.reduceEqDiff, Nat.reduceAdd, Nat.reduceSub, Nat.reduceMul, Nat.reduceLeDiff, Nat.reduceLT, loadA, rdCells, storeA, setAt, binA]
    · simp only [go_sem, ↓reduceIte, reduceCtorEq, Nat.reduceEqDiff, Nat.reduceAdd, Nat.reduceSub, Nat.reduceMul, Nat.reduceLeDiff, Nat.reduceLT, loadA, rdCells, storeA, setAt, binA]
    · simp only [go_sem, ↓reduceIte, reduceCtorEq, Nat.reduceEqDiff, Nat.reduceAdd, Nat.reduceSub, Nat.reduceMul, Nat.reduceLeDiff, Nat.reduceLT, loadA, rdCells, storeA, setAt, binA]
    · simp only [go_sem, ↓reduceIte, reduceCtorEq, Nat.reduceEqDiff, Nat.reduceAdd, Nat.reduceSub, Nat.reduceMul, Nat.reduceLeDiff, Nat.reduceLT, loadA, rdCells, storeA, setAt, binA]
    · simp only [go_sem, ↓reduceIte, reduceCtorEq, Nat.reduceEqDiff, Nat.reduceAdd, Nat.reduceSub, Nat.reduceMul, Nat.reduceLeDiff, Nat.reduceLT, loadA, rdCells, storeA, setAt, binA]
    · simp only [go_sem, ↓reduceIte, reduceCtorEq, Nat.reduceEqDiff, Nat.reduceAdd, Nat.reduceSub, Nat.reduceMul, Nat.reduceLeDiff, Nat.reduceLT, loadA, rdCells, storeA, setAt, binA]; rfl
    rintro x e' S2 ⟨hx, hk2⟩
    have hk02 : KeepBut lf s S2 := ⟨by have := hk2.1; omega, fun j hj hn => by rw [hk2.2 j (by omega) (by omega)]; exact hk1.2 j hj hn⟩
    have ol2 : S2.obj lf = some (.cells [.int .i64 (left - 1)]) := by rw [hk2.2 lf (by omega) (by omega)]; exact ol
    have o92 : S2.obj s.size = some (.cells [.str w.cls, .int .i64 (kof w.ty), .str (nof w.ty), .int .i64 (vof w.ty), .sl (tycs (lof w.ty)) (lof w.ty).length false none]) := by rw [hk2.2 _ (by omega) (by omega)]; exact o9'
    have zz2 := hk2.1
    rcases hx with ⟨rfl, -, ⟨c0, c1, c2, hor⟩, hen⟩ | ⟨-, p', hp, -⟩
    case inr => cases hp
    have g0 := hen 0 (by omega)
    have g1 := hen 1 (by omega)
    have g2 := hen 2 (by omega)
    have g4 := hen 4 (by omega)
    have g5 := hen 5 (by omega)
    have g9 := hen 9 (by omega)
    have g12 := hen 12 (by omega)
    simp only [go_sem, ↓reduceIte, reduceCtorEq, Nat.reduceEqDiff, Nat.reduceAdd, Nat.reduceSub, Nat.reduceMul, Nat.reduceLeDiff, Nat.reduceLT, loadA, rdCells, storeA, setAt, binA] at g0 g1 g2 g4 g5 g9 g12
    have hil := fun S => instance_law hX hi hbi hpl w S
    simp only [prc] at hil
    simp only [g0, g1, g2, g4, g5, g9, g12, o92, Nat.le_add_left, go_sem, ↓reduceIte, reduceCtorEq, Nat.reduceEqDiff, Nat.reduceAdd, Nat.reduceSub, Nat.reduceMul, Nat.reduceLeDiff, Nat.reduceLT, loadA, rdCells, storeA, setAt, binA]
    refine WO_callx _ rfl ((hil _).mono ?_)
    rintro w0 S3 ⟨⟨nv, rfl, hnv⟩, hk3⟩
    have hk03 := hk02.trans (hk3.but (p := lf))
    have ol3 := hk3.obj (by omega) ol2
    have hor3 := hk3.obj (by omega) hor
    have zz3 := hk3.1
    rw [hsx] at hnv
    have hnlen := hnv.len
    obtain ⟨q1, -, q3⟩ := hpl x (instAt_mem hsx)
    have hnl := q3 w.ty
    simp only [hsx, hnlen, g0, g1, g2, g4, g5, g9, g12, Nat.le_add_left, setAt, go_sem, ↓reduceIte, reduceCtorEq, Nat.reduceEqDiff, Nat.reduceAdd, Nat.reduceSub, Nat.reduceMul, Nat.reduceLeDiff, Nat.reduceLT, loadA, rdCells, storeA, setAt, binA]
    obtain ⟨S4, hS4⟩ : ∃ S4, S4 = (S3.new (.cells [.int .i64 0, .int .i64 0, .nils])).put S3.size (some (.cells [.int .i64 2, .int .i64 i, .nils])) := ⟨_, rfl⟩
    have hk34 : Keep S3 S4 := by rw [hS4]; exact ((Keep.refl S3).new' _).put' (Nat.le_refl _) _
    have ob4 : S4.obj S3.size = some (.cells [.int .i64 2, .int .i64 i, .nils]) := by rw [hS4, put_eq]
    have zb4 : S3.size < S4.size := by rw [hS4]; simp [St.new, St.put]
    rw [← hS4]
    refine (ih hl' (by omega) (needs_vp hw) (by omega) (by omega) (needs x w.ty) 0 nv .nils none S3.size (s.size + 1) S4 _ hnv (by omega) (Nat.zero_le _) rfl rfl ?_ ?_ ?_ ?_ ?_ ?_ ?_ ?_ ?_ ?_ ob4 (Or.inl ⟨rfl, rfl, rfl⟩) zb4 ⟨_, _, _, hk34.obj (by omega) hor3⟩ (by have := hk34.1; omega) (hk34.obj (by omega) ol3) (by have := hk34.1; omega) (by omega) (by omega) (by omega)).mono ?_
    · simp only [g0, go_sem, ↓reduceIte, reduceCtorEq, Nat.reduceEqDiff, Nat.reduceAdd, Nat.reduceSub, Nat.reduceMul, Nat.reduceLeDiff, Nat.reduceLT, loadA, rdCells, storeA, setAt, binA]
    · simp only [g1, go_sem, ↓reduceIte, reduceCtorEq, Nat.reduceEqDiff, Nat.reduceAdd, Nat.reduceSub, Nat.reduceMul, Nat.reduceLeDiff, Nat.reduceLT, loadA, rdCells, storeA, setAt, binA]
    · simp only [g2, go_sem, ↓reduceIte, reduceCtorEq, Nat.reduceEqDiff, Nat.reduceAdd, Nat.reduceSub, Nat.reduceMul, Nat.reduceLeDiff, Nat.reduceLT, loadA, rdCells, storeA, setAt, binA]
    · simp only [g4, go_sem, ↓reduceIte, reduceCtorEq, Nat.reduceEqDiff, Nat.reduceAdd, Nat.reduceSub, Nat.reduceMul, Nat.reduceLeDiff, Nat.reduceLT, loadA, rdCells, storeA, setAt, binA]; rw [show d + 1 - 1 = d by omega]
    · simp only [g5, go_sem, ↓reduceIte, reduceCtorEq, Nat.reduceEqDiff, Nat.reduceAdd, Nat.reduceSub, Nat.reduceMul, Nat.reduceLeDiff, Nat.reduceLT, loadA, rdCells, storeA, setAt, binA]
    · simp only [g12, go_sem, ↓reduceIte, reduceCtorEq, Nat.reduceEqDiff, Nat.reduceAdd, Nat.reduceSub, Nat.reduceMul, Nat.reduceLeDiff, Nat.reduceLT, loadA, rdCells, storeA, setAt, binA]
    · simp only [go_sem, ↓reduceIte, reduceCtorEq, Nat.reduceEqDiff, Nat.reduceAdd, Nat.reduceSub, Nat.reduceMul, Nat.reduceLeDiff, Nat.reduceLT, loadA, rdCells, storeA, setAt, binA]
    · simp only [go_sem, ↓reduceIte, reduceCtorEq, Nat.reduceEqDiff, Nat.reduceAdd, Nat.reduceSub, Nat.reduceMul, Nat.reduceLeDiff, Nat.reduceLT, loadA, rdCells, storeA, setAt, binA]
    · simp only [go_sem, ↓reduceIte, reduceCtorEq, Nat.reduceEqDiff, Nat.reduceAdd, Nat.reduceSub, Nat.reduceMul, Nat.reduceLeDiff, Nat.reduceLT, loadA, rdCells, storeA, setAt, binA]
    · simp only [go_sem, ↓reduceIte, reduceCtorEq, Nat.reduceEqDiff, Nat.reduceAdd, Nat.reduceSub, Nat.reduceMul, Nat.reduceLeDiff, Nat.reduceLT, loadA, rdCells, storeA, setAt, binA]; rfl
    · rintro xx e' S5 ⟨hxx, ol5, z5, hk5⟩
      have hk05 : ∀ j, j < s.size → j ≠ lf → S5.obj j = s.obj j := fun j hj hn => by
        have := hk34.1
        rw [hk5 j (by omega) hn (by omega) (by omega) (fun h => by cases h), hk34.2 j (by omega)]; exact hk03.2 j hj hn
      have hz4 := hk34.1
      rcases hxx with ⟨rfl, rfl, h12, h21, ⟨ov', hob, hst⟩, c0', c1', c2', hor5⟩ | ⟨rfl, hne, h13, h12, hor5⟩
      · have nn : (s.size + 1 = S3.size) = False := eq_false (by omega)
        simp only [h12, h21, hob, hst, hor5, nn, Nat.le_add_left, setAt, go_sem, ↓reduceIte, reduceCtorEq, Nat.reduceEqDiff, Nat.reduceAdd, Nat.reduceSub, Nat.reduceMul, Nat.reduceLeDiff, Nat.reduceLT, loadA, rdCells, storeA, setAt, binA]
        refine ⟨by simp, _, rfl, by rw [pfc_w], by rw [if_neg (by omega)]; exact ol5, by simp only [St.put]; omega, fun j hj hn => ?_⟩
        rw [put_ne (by omega)]; exact hk05 j hj hn
      · have hpn := en_f hr hne
        subst hpn
        rw [nop_c]
        simp only [h12, h13, hor5, Nat.le_add_left, setAt, go_sem, ↓reduceIte, reduceCtorEq, Nat.reduceEqDiff, Nat.reduceAdd, Nat.reduceSub, Nat.reduceMul, Nat.reduceLeDiff, Nat.reduceLT, loadA, rdCells, storeA, setAt, binA]
        exact ⟨by simp, _, rfl, rfl, ol5, by omega, hk05⟩
  | nil left d n acc =>
    intro h0 h1 hvps hd0 hd1 full i nv ov tok b r S en hnv hfl hil hdr hacc e0 e1 e2 e4 e5 e12 e21 e79 e80 e81 ob gr zb oor zr ol zl nbr nbl nrl
    have hi2 : i = full.length := by have := congrArg List.length hdr; simp at this; omega
    have hd : decide ((i : Int) < (full.length : Int)) = false := by simp; omega
    refine W_loop ?_
    simp only [cf63_l0, e0, e1, e2, e4, e5, e12, e21, e79, e80, e81, hd, go_sem, ↓reduceIte, reduceCtorEq, Nat.reduceEqDiff, Nat.reduceAdd, Nat.reduceSub, Nat.reduceMul, Nat.reduceLeDiff, Nat.reduceLT, loadA, rdCells, storeA, setAt, binA]
    exact ⟨Or.inl ⟨⟨ov, by simp only [kofP, nofP]; exact ob, by rw [subP]; exact grw_strip gr⟩, oor⟩, ol, Nat.le_refl _, fun _ _ _ _ _ _ => trivial⟩
  | ok left l1 l2 w ps d e n acc q r' h hr ih1 ih2 =>
    intro h0 h1 hvps hd0 hd1 full i nv ov tok b r S en hnv hfl hil hdr hacc e0 e1 e2 e4 e5 e12 e21 e79 e80 e81 ob gr zb oor zr ol zl nbr nbl nrl
    obtain ⟨hi1, hfx, hdr1⟩ := drop_invP hdr
    have hd : decide ((i : Int) < (full.length : Int)) = true := by simp; omega
    have hwd : IntKind.i64.wrap (d - 1 + 1) = d := by rw [IntKind.wrap_i64]; omega
    have hat := hnv.at prcP.len hfx
    have hcall := fun S => ih1 h0 h1 (hvps w (by simp)) (by omega) hd1 S
    simp only [prc, List.cons_append, List.nil_append] at hat hcall
    obtain ⟨c0, c1, c2, hor⟩ := oor
    have nb := grw_ntok gr ob
    have nr := grw_ntok gr hor
    have nl := grw_ntok gr ol
    obtain ⟨S1, hS1⟩ : ∃ S1, S1 = (S.new (.cells [.str ⟨#[]⟩, .int .i64 0, .str ⟨#[]⟩, .int .i64 0, .nils])).put S.size (some (.cells [.str w.cls, .int .i64 (kof w.ty), .str (nof w.ty), .int .i64 (vof w.ty), .sl (tycs (lof w.ty)) (lof w.ty).length false none])) := ⟨_, rfl⟩
    have hkS : Keep S S1 := by rw [hS1]; exact ((Keep.refl S).new' _).put' (Nat.le_refl _) _
    have hz1 := hkS.1
    generalize hL : CC.loop cf63_l0 = L
    refine W_loop_eqb hL ?_
    simp only [cf63_l0, e0, e1, e2, e4, e5, e12, e21, e79, e80, e81, hd, hat, hwd, Nat.le_add_left, go_sem, ↓reduceIte, reduceCtorEq, Nat.reduceEqDiff, Nat.reduceAdd, Nat.reduceSub, Nat.reduceMul, Nat.reduceLeDiff, Nat.reduceLT, loadA, rdCells, storeA, setAt, binA]
    rw [← hS1]
    refine WO_callx _ rfl ((hcall S1 (hkS.obj zl ol) (hkS.lt zl)).mono ?_)
    rintro w0 S2 ⟨rfl, ol2, hk2⟩
    rw [pfc_w]
    have hk02 : KeepBut lf S S2 := (hkS.but (p := lf)).trans hk2
    have hz2 := hk02.1
    have ob2 : S2.obj b = some (.cells [.int .i64 2, .int .i64 n, ov]) := by rw [hk02.2 b zb nbl]; exact ob
    have hor2 : S2.obj r = some (.cells [c0, c1, c2]) := by rw [hk02.2 r zr nrl]; exact hor
    obtain ⟨S3, hS3⟩ : ∃ S3, S3 = (S2.new (.cells [.int .i64 0, .int .i64 0, .nils])).put S2.size (some (.cells [.int .i64 (kofP q), .int .i64 (nofP q), .sl (pfcs (subP q)) (subP q).length false none])) := ⟨_, rfl⟩
    have hk23 : Keep S2 S3 := by rw [hS3]; exact ((Keep.refl S2).new' _).put' (Nat.le_refl _) _
    have hz3 := hk23.1
    have hzs3 : S3.size = S2.size + 1 := by rw [hS3]; rfl
    have o24 : S3.obj S2.size = some (.cells [.int .i64 (kofP q), .int .i64 (nofP q), .sl (pfcs (subP q)) (subP q).length false none]) := by rw [hS3, put_eq]
    have ob3 := hk23.obj (by omega) ob2
    have hor3 := hk23.obj (by omega) hor2
    have ol3 := hk23.obj (by omega) ol2
    have gr3 : Grw pfc 0 S3 ov acc tok := grw_keepF gr (by omega) fun j hj ht => by
      rw [hk23.2 j (by omega), hk02.2 j hj (fun h => by subst h; exact nl ht)]
    obtain ⟨v', S4, hap, hg4, hz4, hk4⟩ := gr3.app pfcP (Nat.zero_le _) q (bytes := 40) (by omega)
    rw [pfc_w] at hap
    have hv' : v'.cells = [v'] := by
      rcases hg4 with ⟨rfl, -, -⟩ | ⟨k2, -, rfl, -⟩ <;> rfl
    have hv1 : v'.one = true := by
      rcases hg4 with ⟨rfl, -, -⟩ | ⟨k2, -, rfl, -⟩ <;> rfl
    have ob4 : S4.obj b = some (.cells [.int .i64 2, .int .i64 n, ov]) := by rw [hk4 b (by omega) nb]; exact ob3
    have hz0 : ((0 : Int) != 0) = false := rfl
    have nb2 : (b = S2.size) = False := eq_false (by omega)
    simp only [hz0, ob2, nb2, e0, e1, e2, e4, e5, e12, e21, e79, e80, e81, wrapc (n := i) (by omega), Nat.le_add_left, setAt, go_sem, ↓reduceIte, reduceCtorEq, Nat.reduceEqDiff, Nat.reduceAdd, Nat.reduceSub, Nat.reduceMul, Nat.reduceLeDiff, Nat.reduceLT, loadA, rdCells, storeA, setAt, binA]
    rw [← hS3]
    simp only [hap, ob4, hv', hv1, e0, e1, e2, e4, e5, e12, e21, e79, e80, e81, wrapc (n := i) (by omega), Nat.le_add_left, setAt, go_sem, ↓reduceIte, reduceCtorEq, Nat.reduceEqDiff, Nat.reduceAdd, Nat.reduceSub, Nat.reduceMul, Nat.reduceLeDiff, Nat.reduceLT, loadA, rdCells, storeA, setAt, binA]
    obtain ⟨S5, hS5⟩ : ∃ S5, S5 = S4.put b (some (.cells [.int .i64 2, .int .i64 n, v'])) := ⟨_, rfl⟩
    rw [← hS5]
    have zs5 : S5.size = S3.size + 1 := by rw [hS5]; exact hz4
    obtain ⟨r1, r2, r3⟩ := en_len h h0
    subst hL
    have nr3 := hk23.obj (by omega) hor2
    refine (ih2 (r2 rfl) (by omega) (fun q hq => hvps q (by simp [hq])) hd0 hd1 full (i + 1) nv v' (some S3.size) b r S5 _ hnv hfl hi1 hdr1 (by rw [List.length_append, hacc]; rfl) ?_ ?_ ?_ ?_ ?_ ?_ ?_ ?_ ?_ ?_ (by rw [hS5, put_eq]) ?_ (by omega) ⟨c0, c1, c2, ?_⟩ (by omega) ?_ (by omega) nbr nbl nrl).mono ?_
    · simp only [e0, go_sem, ↓reduceIte, reduceCtorEq, Nat.reduceEqDiff, Nat.reduceAdd, Nat.reduceSub, Nat.reduceMul, Nat.reduceLeDiff, Nat.reduceLT, loadA, rdCells, storeA, setAt, binA]
    · simp only [e1, go_sem, ↓reduceIte, reduceCtorEq, Nat.reduceEqDiff, Nat.reduceAdd, Nat.reduceSub, Nat.reduceMul, Nat.reduceLeDiff, Nat.reduceLT, loadA, rdCells, storeA, setAt, binA]
    · simp only [e2, go_sem, ↓reduceIte, reduceCtorEq, Nat.reduceEqDiff, Nat.reduceAdd, Nat.reduceSub, Nat.reduceMul, Nat.reduceLeDiff, Nat.reduceLT, loadA, rdCells, storeA, setAt, binA]
    · simp only [e4, go_sem, ↓reduceIte, reduceCtorEq, Nat.reduceEqDiff, Nat.reduceAdd, Nat.reduceSub, Nat.reduceMul, Nat.reduceLeDiff, Nat.reduceLT, loadA, rdCells, storeA, setAt, binA]
    · simp only [e5, go_sem, ↓reduceIte, reduceCtorEq, Nat.reduceEqDiff, Nat.reduceAdd, Nat.reduceSub, Nat.reduceMul, Nat.reduceLeDiff, Nat.reduceLT, loadA, rdCells, storeA, setAt, binA]
    · simp only [e12, go_sem, ↓reduceIte, reduceCtorEq, Nat.reduceEqDiff, Nat.reduceAdd, Nat.reduceSub, Nat.reduceMul, Nat.reduceLeDiff, Nat.reduceLT, loadA, rdCells, storeA, setAt, binA]
    · simp only [e21, go_sem, ↓reduceIte, reduceCtorEq, Nat.reduceEqDiff, Nat.reduceAdd, Nat.reduceSub, Nat.reduceMul, Nat.reduceLeDiff, Nat.reduceLT, loadA, rdCells, storeA, setAt, binA]
    · simp only [e79, go_sem, ↓reduceIte, reduceCtorEq, Nat.reduceEqDiff, Nat.reduceAdd, Nat.reduceSub, Nat.reduceMul, Nat.reduceLeDiff, Nat.reduceLT, loadA, rdCells, storeA, setAt, binA]
    · simp only [e80, go_sem, ↓reduceIte, reduceCtorEq, Nat.reduceEqDiff, Nat.reduceAdd, Nat.reduceSub, Nat.reduceMul, Nat.reduceLeDiff, Nat.reduceLT, loadA, rdCells, storeA, setAt, binA]
    · simp only [go_sem, ↓reduceIte, reduceCtorEq, Nat.reduceEqDiff, Nat.reduceAdd, Nat.reduceSub, Nat.reduceMul, Nat.reduceLeDiff, Nat.reduceLT, loadA, rdCells, storeA, setAt, binA]
    · rw [hS5]
      exact grw_keepF hg4 (Nat.le_refl _) fun j hj ht => by cases ht; rw [put_ne (by omega)]
    · rw [hS5, put_ne (Ne.symm nbr), hk4 r (by omega) nr]; exact hor3
    · rw [hS5, put_ne (Ne.symm nbl), hk4 lf (by omega) nl]; exact ol3
    · rintro xx e' S6 ⟨hxx, ol6, z6, hk6⟩
      refine ⟨hxx, ol6, by omega, fun j hj a1 a2 a3 a4 => ?_⟩
      rw [hk6 j (by omega) a1 a2 a3 (fun h => by cases h; omega), hS5, put_ne a2, hk4 j (by omega) a4, hk23.2 j (by omega)]
      exact hk02.2 j hj a1
  | bad left l1 w ps d e n acc q h he ih =>
    intro h0 h1 hvps hd0 hd1 full i nv ov tok b r S en hnv hfl hil hdr hacc e0 e1 e2 e4 e5 e12 e21 e79 e80 e81 ob gr zb oor zr ol zl nbr nbl nrl
    obtain ⟨hi1, hfx, hdr1⟩ := drop_invP hdr
    have hd : decide ((i : Int) < (full.length : Int)) = true := by simp; omega
    have hwd : IntKind.i64.wrap (d - 1 + 1) = d := by rw [IntKind.wrap_i64]; omega
    have hat := hnv.at prcP.len hfx
    have hcall := fun S => ih h0 h1 (hvps w (by simp)) (by omega) hd1 S
    simp only [prc, List.cons_append, List.nil_append] at hat hcall
    obtain ⟨c0, c1, c2, hor⟩ := oor
    have nb := grw_ntok gr ob
    have nr := grw_ntok gr hor
    have nl := grw_ntok gr ol
    obtain ⟨S1, hS1⟩ : ∃ S1, S1 = (S.new (.cells [.str ⟨#[]⟩, .int .i64 0, .str ⟨#[]⟩, .int .i64 0, .nils])).put S.size (some (.cells [.str w.cls, .int .i64 (kof w.ty), .str (nof w.ty), .int .i64 (vof w.ty), .sl (tycs (lof w.ty)) (lof w.ty).length false none])) := ⟨_, rfl⟩
    have hkS : Keep S S1 := by rw [hS1]; exact ((Keep.refl S).new' _).put' (Nat.le_refl _) _
    have hz1 := hkS.1
    refine W_loop ?_
    simp only [cf63_l0, e0, e1, e2, e4, e5, e12, e21, e79, e80, e81, hd, hat, hwd, Nat.le_add_left, go_sem, ↓reduceIte, reduceCtorEq, Nat.reduceEqDiff, Nat.reduceAdd, Nat.reduceSub, Nat.reduceMul, Nat.reduceLeDiff, Nat.reduceLT, loadA, rdCells, storeA, setAt, binA]
    rw [← hS1]
    refine WO_callx _ rfl ((hcall S1 (hkS.obj zl ol) (hkS.lt zl)).mono ?_)
    rintro w0 S2 ⟨rfl, ol2, hk2⟩
    rw [pfc_w]
    have hk02 : KeepBut lf S S2 := (hkS.but (p := lf)).trans hk2
    have hz2 := hk02.1
    have ob2 : S2.obj b = some (.cells [.int .i64 2, .int .i64 n, ov]) := by rw [hk02.2 b zb nbl]; exact ob
    have hor2 : S2.obj r = some (.cells [c0, c1, c2]) := by rw [hk02.2 r zr nrl]; exact hor
    obtain ⟨S3, hS3⟩ : ∃ S3, S3 = (S2.new (.cells [.int .i64 0, .int .i64 0, .nils])).put S2.size (some (.cells [.int .i64 (kofP q), .int .i64 (nofP q), .sl (pfcs (subP q)) (subP q).length false none])) := ⟨_, rfl⟩
    have hk23 : Keep S2 S3 := by rw [hS3]; exact ((Keep.refl S2).new' _).put' (Nat.le_refl _) _
    have hz3 := hk23.1
    have hzs3 : S3.size = S2.size + 1 := by rw [hS3]; rfl
    have o24 : S3.obj S2.size = some (.cells [.int .i64 (kofP q), .int .i64 (nofP q), .sl (pfcs (subP q)) (subP q).length false none]) := by rw [hS3, put_eq]
    have ob3 := hk23.obj (by omega) ob2
    have hor3 := hk23.obj (by omega) hor2
    have ol3 := hk23.obj (by omega) ol2
    have hz0 : (e != 0) = true := by simpa using he
    have nr2 : (r = S2.size) = False := eq_false (by omega)
    simp only [hz0, hor2, nr2, e0, e1, e2, e4, e5, e12, e21, e79, e80, e81, Nat.le_add_left, setAt, go_sem, ↓reduceIte, reduceCtorEq, Nat.reduceEqDiff, Nat.reduceAdd, Nat.reduceSub, Nat.reduceMul, Nat.reduceLeDiff, Nat.reduceLT, loadA, rdCells, storeA, setAt, binA]
    refine ⟨Or.inr he, ?_, ?_, fun j hj a1 a2 a3 a4 => ?_⟩
    · rw [if_neg (Ne.symm nrl), if_neg (by omega), if_neg (by omega)]; exact ol2
    · omega
    · rw [if_neg a3, if_neg (by omega), if_neg (by omega)]; exact hk02.2 j hj a1
end Go.Am.U3
