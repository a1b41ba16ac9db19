/- sized and bind, for any substitution without cycles. Conditions: none. -/
import Derived.Test.YtfleakoephmgaaaDoorUtC
set_option linter.unusedSimpArgs false
set_option linter.unusedVariables false
namespace Go.Am.U1
open Go.Am.Un
set_option maxRecDepth 100000
set_option linter.unusedSimpArgs false
attribute [local go_sem] wseq COp.isStore wreg wdreg wret wskip wexit wblock wcnd cnd_t cnd_f then_n then_x then_r catch_n rnd_n rnd_x rnd_r catch_x catch_r wo_nil wo_grd grdO_t grdO_f wo_ops stpO wr_nil wr_alloc wr_guards grdR_t grdR_f wr_ops stpR evAllocs evOp env0_app eput_some eput_none eset_app Opd.ev wantedA faddrA snew_obj snew_size sput_obj sput_size av_cells av_one av_strip av_still unA eqbA fillA fldA lensA mmA mm2 mmFold List.getD_cons_zero List.getD_cons_succ List.getD_nil List.length_cons List.length_nil List.drop_zero List.drop_succ_cons List.take_succ_cons List.take_zero List.map_cons List.map_nil List.set_cons_zero List.set_cons_succ List.all_cons List.all_nil List.getElem?_cons_zero List.getElem?_cons_succ List.nil_append List.cons_append Nat.zero_add Nat.add_zero beq_self_eq_true bt bf Bool.not_true Bool.not_false Bool.and_true Bool.true_and Bool.and_false Bool.false_and and_self and_true true_and n0 n1 n2 n3 n4 m0 m1 m2 m3 c1 retA resAs resA undefA Option.map_some Option.map_none
variable {X : Ext}

theorem rep_cells (x : AV) : ∀ n, repCells [x] n = List.replicate n x
  | 0 => rfl
  | n + 1 => by rw [repCells, rep_cells x n]; rfl
theorem mk_i (s : St) (n : Nat) (hn : n ≤ 1000000) : mkslA s 1 8 [.int .i64 0] (.int .i64 n) (.int .i64 n) = some (.msl s.size 0 n 1, s.new (.cells (icells (List.replicate n 0)))) := by
  simp only [mkslA]
  rw [if_pos (by refine ⟨by omega, by omega, by omega, rfl⟩), Int.toNat_natCast, rep_cells]
  simp [icells]
theorem mk_b (s : St) (n : Nat) (hn : n ≤ 1000000) : mkslA s 1 1 [.bool false] (.int .i64 n) (.int .i64 n) = some (.msl s.size 0 n 1, s.new (.cells (bcells (List.replicate n false)))) := by
  simp only [mkslA]
  rw [if_pos (by refine ⟨by omega, by omega, by omega, rfl⟩), Int.toNat_natCast, rep_cells]
  simp [bcells]

/-- Whether what each variable becomes is small. -/
def Small (ss : List Tm) : Prop := ∀ (i : Nat) A, i < ss.length → Ap ss (vtm i) A → tsz A ≤ 4096
noncomputable def szd (ss : List Tm) : Int := @ite _ (Small ss) (Classical.propDecidable _) 0 2
theorem szd_0 {ss : List Tm} : szd ss = 0 ↔ Small ss := by
  unfold szd
  split <;> simp_all
theorem szd_2 {ss : List Tm} (h : ¬ Small ss) : szd ss = 2 := by unfold szd; rw [if_neg h]
theorem szd_t {ss : List Tm} (h : Small ss) : szd ss = 0 := szd_0.2 h
theorem cap97_gt (n : Nat) : decide (cap97 n > 4096) = decide (4096 < n) := by
  unfold cap97; split <;> simp <;> omega

set_option maxHeartbeats 4000000 in
theorem sized_all (hX : NoX X) {ss : List Tm} {rk : Nat → Nat} {sv : AV} (hac : Acy ss rk) (hb : ss.length ≤ 1000000) (s : St) (hrd : RdS sv ss s) : WC T X 61 [sv] s (fun v s' => v = .int .i64 (szd ss) ∧ Keep s s') := by
  refine WC_fn cf61 (hX 61 (by decide)) T61 (by simp [cf61]) ?_
  have hlen := hrd.len
  have hcl := hrd.cells
  have hmk := mk_i s ss.length hb
  simp only [cf61, hlen, hcl, hmk, go_sem, ↓reduceIte, reduceCtorEq, Nat.reduceEqDiff, Nat.reduceAdd, Nat.reduceSub, Nat.reduceMul, Nat.reduceLeDiff, Nat.reduceLT, loadA, rdCells, storeA, setAt, binA]
  refine W_loop_nat (fun kk e S => ∃ (i : Nat) (of : List Int), i + kk = ss.length ∧ e 12 = .int .i64 ss.length ∧ e 13 = .int .i64 i ∧ e 3 = .ptr (s.size + 1) 0 ∧ S.obj (s.size + 1) = some (.cells [sv, .msl s.size 0 ss.length 1]) ∧ S.obj s.size = some (.cells (icells of)) ∧ s.size + 1 < S.size ∧ Mem ss of ∧ Keep s S ∧ ∀ (w : Nat) A, w < i → Ap ss (vtm w) A → tsz A ≤ 4096) ?_ ss.length _ _
    ⟨0, List.replicate ss.length 0, by simp, ?_, ?_, ?_, new_eq rfl, ?_, ?_, ⟨by simp, fun w x hx => Or.inl ?_⟩, ?_, fun w A hw => by omega⟩
  · rintro kk e S ⟨i, of, hik, e12, e13, e3, hob, hoo, hz, hmem, hkp, hsm⟩
    by_cases hi : i < ss.length
    · have hd : decide ((i : Int) < (ss.length : Int)) = true := by simp; omega
      have hw := wt_vtm hi
      obtain ⟨A, hA⟩ := hac.ex hw
      obtain ⟨R, hR⟩ := rk_bound rk ss.length
      simp only [cf61_l0, e12, e13, e3, hd, go_sem, ↓reduceIte, reduceCtorEq, Nat.reduceEqDiff, Nat.reduceAdd, Nat.reduceSub, Nat.reduceMul, Nat.reduceLeDiff, Nat.reduceLT, loadA, rdCells, storeA, setAt, binA]
      refine WO_callx [.int .i64 i] (by simp only [go_sem, ↓reduceIte, reduceCtorEq, Nat.reduceEqDiff, Nat.reduceAdd, Nat.reduceSub, Nat.reduceMul, Nat.reduceLeDiff, Nat.reduceLT, loadA, rdCells, storeA, setAt, binA]) ((var_law hX i S).mono ?_)
      rintro v2 S2 ⟨rfl, hk2⟩
      simp only [e12, e13, e3, go_sem, ↓reduceIte, reduceCtorEq, Nat.reduceEqDiff, Nat.reduceAdd, Nat.reduceSub, Nat.reduceMul, Nat.reduceLeDiff, Nat.reduceLT, loadA, rdCells, storeA, setAt, binA]
      have hcall := meter_law hX (m := s.size + 1) (o := s.size) (sv := sv) hac (by omega) R (tsz (vtm i)) (vtm i) A hA (fun x ho => hR x (by have := wt_occ _ _ (Nat.le_refl _) hw ho; omega)) hw (Nat.le_refl _) S2 of (hrd.keep (hkp.trans hk2))
        (fun p hp => by
          rcases hrd with h | ⟨p', h1, h2, h3⟩
          · rcases h with ⟨rfl, -⟩ | ⟨f, t, rfl⟩ <;> cases hp
          · rw [h1] at hp; cases hp; omega)
        (hk2.obj hz hob) (hk2.lt hz) (hk2.obj (by omega) hoo) (hk2.lt (by omega)) hmem
      rw [vtm_c] at hcall
      refine WO_callx _ rfl (hcall.mono ?_)
      rintro v3 S3 ⟨rfl, of3, o3, m3, k3⟩
      have hcg := cap97_gt (tsz A)
      cases hg : decide (4096 < tsz A)
      · rw [hg] at hcg
        have hle : tsz A ≤ 4096 := by have := of_decide_eq_false hg; omega
        simp only [e12, e13, e3, hcg, wrapn (n := i) (by omega), go_sem, ↓reduceIte, reduceCtorEq, Nat.reduceEqDiff, Nat.reduceAdd, Nat.reduceSub, Nat.reduceMul, Nat.reduceLeDiff, Nat.reduceLT, loadA, rdCells, storeA, setAt, binA]
        refine ⟨kk - 1, by omega, i + 1, of3, by omega, rfl, (k3.2 _ (hk2.lt hz) (by omega)).trans (hk2.obj hz hob), o3, Nat.lt_of_lt_of_le (hk2.lt hz) k3.1, m3, ?_, ?_⟩
        · exact ⟨by have := hkp.1; have := hk2.1; have := k3.1; omega, fun j hj => by rw [k3.2 j (by have := hkp.1; have := hk2.1; omega) (by omega), hk2.2 j (by have := hkp.1; omega), hkp.2 j hj]⟩
        · intro w B hw2 hB
          by_cases h : w = i
          · subst h; rw [ap_det hB hA]; exact hle
          · exact hsm w B (by omega) hB
      · rw [hg] at hcg
        have hgt : 4096 < tsz A := of_decide_eq_true hg
        simp only [e12, e13, e3, hcg, go_sem, ↓reduceIte, reduceCtorEq, Nat.reduceEqDiff, Nat.reduceAdd, Nat.reduceSub, Nat.reduceMul, Nat.reduceLeDiff, Nat.reduceLT, loadA, rdCells, storeA, setAt, binA]
        refine ⟨by simp, _, rfl, by rw [szd_2 fun h => by have := h i A hi hA; omega], ?_⟩
        exact ⟨by have := hkp.1; have := hk2.1; have := k3.1; omega, fun j hj => by rw [k3.2 j (by have := hkp.1; have := hk2.1; omega) (by omega), hk2.2 j (by have := hkp.1; omega), hkp.2 j hj]⟩
    · have hd : decide ((i : Int) < (ss.length : Int)) = false := by simp; omega
      simp only [cf61_l0, e12, e13, e3, hd, go_sem, ↓reduceIte, reduceCtorEq, Nat.reduceEqDiff, Nat.reduceAdd, Nat.reduceSub, Nat.reduceMul, Nat.reduceLeDiff, Nat.reduceLT, loadA, rdCells, storeA, setAt, binA]
      exact ⟨by simp, _, rfl, by rw [szd_t fun w A hw hA => hsm w A (by omega) hA], hkp⟩
  · simp only [go_sem, ↓reduceIte, reduceCtorEq, Nat.reduceEqDiff, Nat.reduceAdd, Nat.reduceSub, Nat.reduceMul, Nat.reduceLeDiff, Nat.reduceLT, loadA, rdCells, storeA, setAt, binA]
  · simp only [go_sem, ↓reduceIte, reduceCtorEq, Nat.reduceEqDiff, Nat.reduceAdd, Nat.reduceSub, Nat.reduceMul, Nat.reduceLeDiff, Nat.reduceLT, loadA, rdCells, storeA, setAt, binA]; rfl
  · simp only [go_sem, ↓reduceIte, reduceCtorEq, Nat.reduceEqDiff, Nat.reduceAdd, Nat.reduceSub, Nat.reduceMul, Nat.reduceLeDiff, Nat.reduceLT, loadA, rdCells, storeA, setAt, binA]
  · rw [new_ne (by simp [St.new]), new_eq rfl]
  · simp [St.new]
  · rw [List.getElem?_replicate] at hx; split at hx <;> simp_all
  · exact ((Keep.refl s).new' _).new' _

/-! ### A variable bound -/
theorem oc_sub {ss : List Tm} {v : Int} {x : Nat} {B : Tm} (hB : Ap ss (vtm x) B) (ho : Occ v B) : ∀ (n : Nat) (u U : Tm), tsz u ≤ n → Wt ss.length u → Ap ss u U → Occ x u → Occ v U := by
  intro n
  induction n with
  | zero => intro u U h; have := tsz_pos u; omega
  | succ n ih =>
    intro u U hn hw hU hx
    by_cases hk : kof u = 0
    · obtain ⟨j, hj, rfl⟩ := wt_var hw hk
      rw [vtm, Occ, if_pos rfl] at hx
      obtain rfl : j = x := by omega
      rw [ap_det hU hB]; exact ho
    · obtain ⟨k, nm, w, l⟩ := u
      rw [kof_mk] at hk
      obtain ⟨L, rfl, hL⟩ := ap_con hk hU
      rw [occ_oth _ (by simpa [kof_mk] using hk)] at hx ⊢
      obtain ⟨a, ha, hx⟩ := hx
      obtain ⟨i, hi⟩ := List.getElem?_of_mem ha
      obtain ⟨A, hA, hap⟩ := aps_at hL hi
      exact ⟨A, List.mem_of_getElem? hA, ih a A (by have := tsz_mem ha; omega) (wt_arg hw ha) hap hx⟩

theorem acy_set {ss : List Tm} {rk : Nat → Nat} (hac : Acy ss rk) {v : Nat} (hse : Self ss v) {t : Tm} (hw : Wt ss.length t) (hno : ¬ OC ss v t) : ∃ rk', Acy (ss.set v t) rk' := by
  obtain ⟨R, hR⟩ := rk_bound rk ss.length
  have hvl : v < ss.length := by obtain ⟨u, h, -⟩ := hse; exact (List.getElem?_eq_some_iff.1 h).1
  refine ⟨fun x => if ocb ss v (vtm x) = true then rk x + R + 1 else rk x, ⟨fun i u hi => ?_, fun i u hi => ?_⟩⟩
  · rw [List.length_set]
    by_cases h : i = v
    · subst h; rw [List.getElem?_set_self hvl] at hi; cases hi; exact hw
    · rw [List.getElem?_set_ne (by omega)] at hi; exact hac.wt i u hi
  · by_cases h : i = v
    · subst h
      rw [List.getElem?_set_self hvl] at hi; cases hi
      refine Or.inr fun x ho => ?_
      have hxl : x < ss.length := by have := wt_occ _ _ (Nat.le_refl _) hw ho; omega
      have hx : ocb ss i (vtm x) = false := ocb_f.2 fun ⟨B, h1, h2⟩ => by
        obtain ⟨U, hU⟩ := hac.ex hw
        exact hno ⟨U, hU, oc_sub h1 h2 _ t U (Nat.le_refl _) hw hU ho⟩
      have hi' : ocb ss i (vtm i) = true := ocb_iff.2 ((oc_self hse).2 rfl)
      rw [hx, hi']
      simp only [Bool.false_eq_true, if_false, if_true]
      have := hR x hxl
      omega
    · rw [List.getElem?_set_ne (by omega)] at hi
      rcases hac.dn i u hi with hd | hd
      · exact Or.inl hd
      · by_cases hself : kof u = 0 ∧ vof u = i
        · exact Or.inl hself
        refine Or.inr fun x ho => ?_
        have hlt := hd x ho
        have hwu := hac.wt i u hi
        by_cases hx : ocb ss v (vtm x) = true
        · have hi' : ocb ss v (vtm i) = true := by
            obtain ⟨B, h1, h2⟩ := ocb_iff.1 hx
            obtain ⟨U, hU⟩ := hac.ex hwu
            exact ocb_iff.2 ((oc_step (t := vtm i) rfl rfl hi hself).2 ⟨U, hU, oc_sub h1 h2 _ u U (Nat.le_refl _) hwu hU ho⟩)
          rw [hx, hi']
          simp only [if_true]
          omega
        · rw [if_neg hx]
          split <;> omega

/-- What is left alone by a unifier. -/
def KB (b p : Nat) (s s' : St) : Prop := s.size ≤ s'.size ∧ ∀ j, j < s.size → j ≠ b → j ≠ p → s'.obj j = s.obj j
theorem kb_of {b p : Nat} {s s' : St} (h : Keep s s') : KB b p s s' := ⟨h.1, fun j hj _ _ => h.2 j hj⟩

/-- What bind answers. -/
def BdR (ss : List Tm) (v : Nat) (t : Tm) (e : Int) (ss' : List Tm) : Prop :=
  (kof t = 0 ∧ vof t = v ∧ e = 0 ∧ ss' = ss) ∨ (¬ (kof t = 0 ∧ vof t = v) ∧ OC ss v t ∧ e = 8 ∧ ss' = ss) ∨ (¬ (kof t = 0 ∧ vof t = v) ∧ ¬ OC ss v t ∧ e = szd (ss.set v t) ∧ ss' = ss.set v t)
end Go.Am.U1

/- bind, for any substitution without cycles. Conditions: none. -/
namespace Go.Am.U1
open Go.Am.Un
set_option maxRecDepth 100000
set_option linter.unusedSimpArgs false
attribute [local go_sem] wseq COp.isStore wreg wdreg wret wskip wexit wblock wcnd cnd_t cnd_f then_n then_x then_r catch_n rnd_n rnd_x rnd_r catch_x catch_r wo_nil wo_grd grdO_t grdO_f wo_ops stpO wr_nil wr_alloc wr_guards grdR_t grdR_f wr_ops stpR evAllocs evOp env0_app eput_some eput_none eset_app Opd.ev wantedA faddrA snew_obj snew_size sput_obj sput_size av_cells av_one av_strip av_still unA eqbA fillA fldA lensA mmA mm2 mmFold List.getD_cons_zero List.getD_cons_succ List.getD_nil List.length_cons List.length_nil List.drop_zero List.drop_succ_cons List.take_succ_cons List.take_zero List.map_cons List.map_nil List.set_cons_zero List.set_cons_succ List.all_cons List.all_nil List.getElem?_cons_zero List.getElem?_cons_succ List.nil_append List.cons_append Nat.zero_add Nat.add_zero beq_self_eq_true bt bf Bool.not_true Bool.not_false Bool.and_true Bool.true_and Bool.and_false Bool.false_and and_self and_true true_and n0 n1 n2 n3 n4 m0 m1 m2 m3 c1 retA resAs resA undefA Option.map_some Option.map_none
variable {X : Ext}

set_option maxHeartbeats 8000000 in
theorem bind_law (hX : NoX X) {ss : List Tm} {rk : Nat → Nat} {b p v : Nat} (hac : Acy ss rk) (hb : ss.length ≤ 1000000) (hse : Self ss v) {t : Tm} (hw : Wt ss.length t) (hbp : b ≠ p) (s : St) (hu : US s b p ss) :
    WC T X 86 [.ptr b 0, .int .i64 v, .agg (tyc t)] s (fun r s' => ∃ e ss', r = .int .i64 e ∧ BdR ss v t e ss' ∧ US s' b p ss' ∧ KB b p s s') := by
  have hvl : v < ss.length := by obtain ⟨u, h, -⟩ := hse; exact (List.getElem?_eq_some_iff.1 h).1
  refine WC_fn cf86 (hX 86 (by decide)) T86 (by simp [cf86]) ?_
  obtain ⟨R, hR⟩ := rk_bound rk ss.length
  obtain ⟨hu1, hu2, hu3, hu4⟩ := hu
  have hlen : lenA (.msl p 0 ss.length 4) = some (.int .i64 ss.length) := rfl
  by_cases hself : kof t = 0 ∧ vof t = v
  · have h1 : (kof t == 0) = true := by simp [hself.1]
    have h2 : (vof t == (v : Int)) = true := by simp [hself.2]
    rw [tyc_w, tyw, hself.1, hself.2]
    have z0 : ((0 : Int) == 0) = true := rfl
    have zv : ((v : Int) == (v : Int)) = true := by simp
    simp only [cf86, z0, zv, Nat.le_add_left, go_sem, ↓reduceIte, reduceCtorEq, Nat.reduceEqDiff, Nat.reduceAdd, Nat.reduceSub, Nat.reduceMul, Nat.reduceLeDiff, Nat.reduceLT, loadA, rdCells, storeA, setAt, binA]
    refine ⟨by simp, _, rfl, 0, ss, rfl, Or.inl ⟨hself.1, hself.2, rfl, rfl⟩, ⟨?_, ?_, ?_, ?_⟩, kb_of (Keep.new s _)⟩
    · rw [new_ne (by omega)]; exact hu1
    · rw [new_ne (by omega)]; exact hu2
    · simp only [St.new]; omega
    · simp only [St.new]; omega
  · have hkind : (kof t == 0) = false ∨ ((kof t == 0) = true ∧ kof t = 0 ∧ (vof t == (v : Int)) = false) := by
      by_cases h : kof t = 0
      · have h3 : vof t ≠ v := fun h2 => hself ⟨h, h2⟩
        exact Or.inr ⟨by simp [h], h, by simpa using h3⟩
      · exact Or.inl (by simpa using h)
    obtain ⟨SA, hSA⟩ : ∃ SA, SA = (s.new (.cells (tyc t))).new (.cells (bcells (List.replicate ss.length false))) := ⟨_, rfl⟩
    have hzA : SA.size = s.size + 1 + 1 := by rw [hSA]; rfl
    have hkA : Keep s SA := by rw [hSA]; exact ((Keep.refl s).new' _).new' _
    have tA : SA.obj s.size = some (.cells (tyc t)) := by rw [hSA, new_ne (by simp [St.new]), new_eq rfl]
    have qA : SA.obj (s.size + 1) = some (.cells (bcells (List.replicate ss.length false))) := by rw [hSA, new_eq (by simp [St.new])]
    have uA : US SA b p ss := US.keep ⟨hu1, hu2, hu3, hu4⟩ hkA
    have hmk := mk_b (s.new (.cells (tyc t))) ss.length hb
    have hcall := occ_law hX (b := b) (p := p) (q := s.size + 1) hac hse (by omega) (by omega) R (tsz t) t (fun x ho => hR x (by have := wt_occ _ _ (Nat.le_refl _) hw ho; omega)) hw (Nat.le_refl _) SA (List.replicate ss.length false) uA (by omega) (by simp) qA (fun w hw => by rw [List.getElem?_replicate] at hw; split at hw <;> simp_all)
    have hacs : ¬ OC ss v t → ∃ rk', Acy (ss.set v t) rk' := fun h => acy_set hac hse hw h
    have hlf : (bcells (List.replicate ss.length false)).length = ss.length := by simp [bcells]
    have nba : b ≠ s.size + 1 := by omega
    rw [tyc_w, tyw] at hcall tA hSA ⊢
    rw [tyc_w, tyw] at hmk
    rcases hkind with hku0 | ⟨hku0, hku, hvu0⟩
    · simp only [cf86, hku0, Nat.le_add_left, go_sem, ↓reduceIte, reduceCtorEq, Nat.reduceEqDiff, Nat.reduceAdd, Nat.reduceSub, Nat.reduceMul, Nat.reduceLeDiff, Nat.reduceLT, loadA, rdCells, storeA, setAt, binA]
      refine W_dreg ?_
      simp only [wt_ops, stpT, Tr, hu1, hlen, hmk, ne_a hu3, ne_b hu3, ne_c hu3, ne_d hu3, wt_alloc, wt_nil, chk1, avr, Bool.or_true, Nat.le_add_left, go_sem, ↓reduceIte, reduceCtorEq, Nat.reduceEqDiff, Nat.reduceAdd, Nat.reduceSub, Nat.reduceMul, Nat.reduceLeDiff, Nat.reduceLT, loadA, rdCells, storeA, setAt, binA]
      rw [← hSA]
      refine WT_callx _ rfl (hcall.mono ?_)
      rintro w S2 ⟨rfl, fl', o2, l2, k2, -⟩
      have uS : US S2 b p ss := ⟨(k2.2 b (hkA.lt hu3) (by omega)).trans uA.1, (k2.2 p (hkA.lt hu4) (by omega)).trans uA.2.1, by have := k2.1; omega, by have := k2.1; omega⟩
      have tS := (k2.2 s.size (by omega) (by omega)).trans tA
      have kS : Keep s S2 := ⟨by have := k2.1; omega, fun j hj => by rw [k2.2 j (by omega) (by omega), hkA.2 j hj]⟩
      have hzS := k2.1
      cases hoc : ocb ss v t
      · have hno := ocb_f.1 hoc
        obtain ⟨rk', hac'⟩ := hacs hno
        have hpi : iaddrA 4 (.msl p 0 ss.length 4) (.int .i64 v) = some (.ptr p (v * 4)) := by
          simp only [iaddrA]
          rw [if_pos (by exact ⟨by omega, by omega, trivial⟩), Int.toNat_natCast]; simp
        have hst : storeA S2 4 (.ptr p (v * 4)) (.agg [.int .i64 (kof t), .str (nof t), .int .i64 (vof t), .sl (tycs (lof t)) (lof t).length false none]) = some (S2.put p (some (.cells ((ss.set v t).flatMap tyc)))) := by
          have := mstore tycP uS.2.1 hvl t
          rw [tyc_w t, tyw] at this
          first | exact this | (rw [hku] at this; exact this)
        have l1 : loadA S2 true 4 (.ptr s.size 0) = some (.agg [.int .i64 (kof t), .str (nof t), .int .i64 (vof t), .sl (tycs (lof t)) (lof t).length false none]) := by
          simp only [loadA, rdCells, tS, go_sem, ↓reduceIte, reduceCtorEq, Nat.reduceEqDiff, Nat.reduceAdd, Nat.reduceSub, Nat.reduceMul, Nat.reduceLeDiff, Nat.reduceLT, loadA, rdCells, storeA, setAt, binA]
        have l2 : loadA S2 false 1 (.ptr b 0) = some (.msl p 0 ss.length 4) := by simp [loadA, rdCells, uS.1]
        simp only [wt_ops, stpT, Tr, hu1, tA, tS, uS.1, l1, l2, hoc, hpi, hst, wt_alloc, wt_nil, chk1, avr, Bool.or_true, Bool.false_or, Nat.le_add_left, setAt, go_sem, ↓reduceIte, reduceCtorEq, Nat.reduceEqDiff, Nat.reduceAdd, Nat.reduceSub, Nat.reduceMul, Nat.reduceLeDiff, Nat.reduceLT, binA]
        obtain ⟨S3, hS3⟩ : ∃ S3, S3 = S2.put p (some (.cells ((ss.set v t).flatMap tyc))) := ⟨_, rfl⟩
        have hln : (ss.set v t).length = ss.length := List.length_set
        have p3 : S3.obj p = some (.cells ((ss.set v t).flatMap tyc)) := by rw [hS3, put_eq]
        have b3 : S3.obj b = some (.cells [.msl p 0 ss.length 4]) := by rw [hS3, put_ne hbp]; exact uS.1
        have hz3 : S3.size = S2.size := by rw [hS3]; rfl
        have hsz := fun S (hk : Keep S3 S) => sized_all hX (sv := .msl p 0 ss.length 4) hac' (by rw [hln]; exact hb) S (Or.inr ⟨p, by rw [hln], hk.obj (by have := uS.2.2.2; omega) p3, hk.lt (by have := uS.2.2.2; omega)⟩)
        have l3 : loadA S3 false 1 (.ptr b 0) = some (.msl p 0 ss.length 4) := by simp [loadA, rdCells, b3]
        rw [← hS3]
        simp only [l3, setAt, go_sem, ↓reduceIte, reduceCtorEq, Nat.reduceEqDiff, Nat.reduceAdd, Nat.reduceSub, Nat.reduceMul, Nat.reduceLeDiff, Nat.reduceLT, binA]
        refine WO_callx [.msl p 0 ss.length 4] (by simp only [go_sem, ↓reduceIte, reduceCtorEq, Nat.reduceEqDiff, Nat.reduceAdd, Nat.reduceSub, Nat.reduceMul, Nat.reduceLeDiff, Nat.reduceLT, loadA, rdCells, storeA, setAt, binA]) ((hsz S3 (Keep.refl _)).mono ?_)
        rintro w S4 ⟨rfl, hk4⟩
        simp only [go_sem, ↓reduceIte, reduceCtorEq, Nat.reduceEqDiff, Nat.reduceAdd, Nat.reduceSub, Nat.reduceMul, Nat.reduceLeDiff, Nat.reduceLT, loadA, rdCells, storeA, setAt, binA]
        have z4 := hk4.1
        have zb := uS.2.2.1
        have zp := uS.2.2.2
        refine ⟨by simp, _, rfl, szd (ss.set v t), ss.set v t, rfl, Or.inr (Or.inr ⟨hself, hno, rfl, rfl⟩), ⟨?_, ?_, by omega, by omega⟩, ⟨by have := kS.1; omega, fun j hj h1 h2 => ?_⟩⟩
        · rw [hln]; exact hk4.obj (by omega) b3
        · exact hk4.obj (by omega) p3
        · rw [hk4.2 j (by have := kS.1; omega), hS3, put_ne h2]; exact kS.2 j hj
      · simp only [wt_ops, stpT, Tr, hu1, tA, tS, uS.1, hoc, wt_alloc, wt_nil, chk1, avr, Bool.or_true, Bool.false_or, Nat.le_add_left, go_sem, ↓reduceIte, reduceCtorEq, Nat.reduceEqDiff, Nat.reduceAdd, Nat.reduceSub, Nat.reduceMul, Nat.reduceLeDiff, Nat.reduceLT, loadA, rdCells, storeA, setAt, binA]
        exact ⟨by simp, _, rfl, 8, ss, rfl, Or.inr (Or.inl ⟨hself, ocb_iff.1 hoc, rfl, rfl⟩), uS, kb_of kS⟩
    · rw [hku] at hcall tA hSA hmk ⊢
      simp only [cf86, hvu0, Nat.le_add_left, go_sem, ↓reduceIte, reduceCtorEq, Nat.reduceEqDiff, Nat.reduceAdd, Nat.reduceSub, Nat.reduceMul, Nat.reduceLeDiff, Nat.reduceLT, loadA, rdCells, storeA, setAt, binA]
      refine W_dreg ?_
      simp only [wt_ops, stpT, Tr, hu1, hlen, hmk, ne_a hu3, ne_b hu3, ne_c hu3, ne_d hu3, wt_alloc, wt_nil, chk1, avr, Bool.or_true, Nat.le_add_left, go_sem, ↓reduceIte, reduceCtorEq, Nat.reduceEqDiff, Nat.reduceAdd, Nat.reduceSub, Nat.reduceMul, Nat.reduceLeDiff, Nat.reduceLT, loadA, rdCells, storeA, setAt, binA]
      rw [← hSA]
      refine WT_callx _ rfl (hcall.mono ?_)
      rintro w S2 ⟨rfl, fl', o2, l2, k2, -⟩
      have uS : US S2 b p ss := ⟨(k2.2 b (hkA.lt hu3) (by omega)).trans uA.1, (k2.2 p (hkA.lt hu4) (by omega)).trans uA.2.1, by have := k2.1; omega, by have := k2.1; omega⟩
      have tS := (k2.2 s.size (by omega) (by omega)).trans tA
      have kS : Keep s S2 := ⟨by have := k2.1; omega, fun j hj => by rw [k2.2 j (by omega) (by omega), hkA.2 j hj]⟩
      have hzS := k2.1
      cases hoc : ocb ss v t
      · have hno := ocb_f.1 hoc
        obtain ⟨rk', hac'⟩ := hacs hno
        have hpi : iaddrA 4 (.msl p 0 ss.length 4) (.int .i64 v) = some (.ptr p (v * 4)) := by
          simp only [iaddrA]
          rw [if_pos (by exact ⟨by omega, by omega, trivial⟩), Int.toNat_natCast]; simp
        have hst : storeA S2 4 (.ptr p (v * 4)) (.agg [.int .i64 0, .str (nof t), .int .i64 (vof t), .sl (tycs (lof t)) (lof t).length false none]) = some (S2.put p (some (.cells ((ss.set v t).flatMap tyc)))) := by
          have := mstore tycP uS.2.1 hvl t
          rw [tyc_w t, tyw] at this
          first | exact this | (rw [hku] at this; exact this)
        have l1 : loadA S2 true 4 (.ptr s.size 0) = some (.agg [.int .i64 0, .str (nof t), .int .i64 (vof t), .sl (tycs (lof t)) (lof t).length false none]) := by
          simp only [loadA, rdCells, tS, go_sem, ↓reduceIte, reduceCtorEq, Nat.reduceEqDiff, Nat.reduceAdd, Nat.reduceSub, Nat.reduceMul, Nat.reduceLeDiff, Nat.reduceLT, loadA, rdCells, storeA, setAt, binA]
        have l2 : loadA S2 false 1 (.ptr b 0) = some (.msl p 0 ss.length 4) := by simp [loadA, rdCells, uS.1]
        simp only [wt_ops, stpT, Tr, hu1, tA, tS, uS.1, l1, l2, hoc, hpi, hst, wt_alloc, wt_nil, chk1, avr, Bool.or_true, Bool.false_or, Nat.le_add_left, setAt, go_sem, ↓reduceIte, reduceCtorEq, Nat.reduceEqDiff, Nat.reduceAdd, Nat.reduceSub, Nat.reduceMul, Nat.reduceLeDiff, Nat.reduceLT, binA]
        obtain ⟨S3, hS3⟩ : ∃ S3, S3 = S2.put p (some (.cells ((ss.set v t).flatMap tyc))) := ⟨_, rfl⟩
        have hln : (ss.set v t).length = ss.length := List.length_set
        have p3 : S3.obj p = some (.cells ((ss.set v t).flatMap tyc)) := by rw [hS3, put_eq]
        have b3 : S3.obj b = some (.cells [.msl p 0 ss.length 4]) := by rw [hS3, put_ne hbp]; exact uS.1
        have hz3 : S3.size = S2.size := by rw [hS3]; rfl
        have hsz := fun S (hk : Keep S3 S) => sized_all hX (sv := .msl p 0 ss.length 4) hac' (by rw [hln]; exact hb) S (Or.inr ⟨p, by rw [hln], hk.obj (by have := uS.2.2.2; omega) p3, hk.lt (by have := uS.2.2.2; omega)⟩)
        have l3 : loadA S3 false 1 (.ptr b 0) = some (.msl p 0 ss.length 4) := by simp [loadA, rdCells, b3]
        rw [← hS3]
        simp only [l3, setAt, go_sem, ↓reduceIte, reduceCtorEq, Nat.reduceEqDiff, Nat.reduceAdd, Nat.reduceSub, Nat.reduceMul, Nat.reduceLeDiff, Nat.reduceLT, binA]
        refine WO_callx [.msl p 0 ss.length 4] (by simp only [go_sem, ↓reduceIte, reduceCtorEq, Nat.reduceEqDiff, Nat.reduceAdd, Nat.reduceSub, Nat.reduceMul, Nat.reduceLeDiff, Nat.reduceLT, loadA, rdCells, storeA, setAt, binA]) ((hsz S3 (Keep.refl _)).mono ?_)
        rintro w S4 ⟨rfl, hk4⟩
        simp only [go_sem, ↓reduceIte, reduceCtorEq, Nat.reduceEqDiff, Nat.reduceAdd, Nat.reduceSub, Nat.reduceMul, Nat.reduceLeDiff, Nat.reduceLT, loadA, rdCells, storeA, setAt, binA]
        have z4 := hk4.1
        have zb := uS.2.2.1
        have zp := uS.2.2.2
        refine ⟨by simp, _, rfl, szd (ss.set v t), ss.set v t, rfl, Or.inr (Or.inr ⟨hself, hno, rfl, rfl⟩), ⟨?_, ?_, by omega, by omega⟩, ⟨by have := kS.1; omega, fun j hj h1 h2 => ?_⟩⟩
        · rw [hln]; exact hk4.obj (by omega) b3
        · exact hk4.obj (by omega) p3
        · rw [hk4.2 j (by have := kS.1; omega), hS3, put_ne h2]; exact kS.2 j hj
      · simp only [wt_ops, stpT, Tr, hu1, tA, tS, uS.1, hoc, wt_alloc, wt_nil, chk1, avr, Bool.or_true, Bool.false_or, Nat.le_add_left, go_sem, ↓reduceIte, reduceCtorEq, Nat.reduceEqDiff, Nat.reduceAdd, Nat.reduceSub, Nat.reduceMul, Nat.reduceLeDiff, Nat.reduceLT, loadA, rdCells, storeA, setAt, binA]
        exact ⟨by simp, _, rfl, 8, ss, rfl, Or.inr (Or.inl ⟨hself, ocb_iff.1 hoc, rfl, rfl⟩), uS, kb_of kS⟩
end Go.Am.U1

/- A fresh variable. Conditions: none. -/
namespace Go.Am.U1
open Go.Am.Un
set_option maxRecDepth 100000
set_option linter.unusedSimpArgs false
attribute [local go_sem] wseq COp.isStore wreg wdreg wret wskip wexit wblock wcnd cnd_t cnd_f then_n then_x then_r catch_n rnd_n rnd_x rnd_r catch_x catch_r wo_nil wo_grd grdO_t grdO_f wo_ops stpO wr_nil wr_alloc wr_guards grdR_t grdR_f wr_ops stpR evAllocs evOp env0_app eput_some eput_none eset_app Opd.ev wantedA faddrA snew_obj snew_size sput_obj sput_size av_cells av_one av_strip av_still unA eqbA fillA fldA lensA mmA mm2 mmFold List.getD_cons_zero List.getD_cons_succ List.getD_nil List.length_cons List.length_nil List.drop_zero List.drop_succ_cons List.take_succ_cons List.take_zero List.map_cons List.map_nil List.set_cons_zero List.set_cons_succ List.all_cons List.all_nil List.getElem?_cons_zero List.getElem?_cons_succ List.nil_append List.cons_append Nat.zero_add Nat.add_zero beq_self_eq_true bt bf Bool.not_true Bool.not_false Bool.and_true Bool.true_and Bool.and_false Bool.false_and and_self and_true true_and n0 n1 n2 n3 n4 m0 m1 m2 m3 c1 retA resAs resA undefA Option.map_some Option.map_none
variable {X : Ext}

/-- The unifier's substitution, its array old or new. -/
def UN (b p : Nat) (s : St) (ss : List Tm) (s' : St) : Prop := ∃ p', US s' b p' ss ∧ b ≠ p' ∧ (p' = p ∨ s.size ≤ p') ∧ KB b p s s'

set_option maxHeartbeats 8000000 in
theorem fresh_law (hX : NoX X) {ss : List Tm} {b p : Nat} (hb : ss.length ≤ 1000000) (hbp : b ≠ p) (s : St) (hu : US s b p ss) :
    WC T X 108 [.ptr b 0] s (fun r s' => r = .agg (tyc (vtm ss.length)) ∧ UN b p s (ss ++ [vtm ss.length]) s') := by
  refine WC_fn cf108 (hX 108 (by decide)) T108 (by simp [cf108]) ?_
  obtain ⟨hu1, hu2, hu3, hu4⟩ := hu
  have hlen : lenA (.msl p 0 ss.length 4) = some (.int .i64 ss.length) := rfl
  obtain ⟨S1, hS1⟩ : ∃ S1, S1 = s.new (.cells [.int .i64 0, .str ⟨#[]⟩, .int .i64 0, .nils]) := ⟨_, rfl⟩
  have hk1 : Keep s S1 := by rw [hS1]; exact Keep.new _ _
  have b1 := hk1.obj hu3 hu1
  have r1 : S1.obj s.size = some (.cells [.int .i64 0, .str ⟨#[]⟩, .int .i64 0, .nils]) := by rw [hS1, new_eq rfl]
  have hz1 : S1.size = s.size + 1 := by rw [hS1]; rfl
  simp only [cf108, go_sem, ↓reduceIte, reduceCtorEq, Nat.reduceEqDiff, Nat.reduceAdd, Nat.reduceSub, Nat.reduceMul, Nat.reduceLeDiff, Nat.reduceLT, loadA, rdCells, storeA, setAt, binA]
  rw [← hS1]
  refine W_dreg ?_
  simp only [wt_ops, stpT, Tr, b1, hlen, wt_nil, chk1, avr, Bool.or_true, Nat.le_add_left, go_sem, ↓reduceIte, reduceCtorEq, Nat.reduceEqDiff, Nat.reduceAdd, Nat.reduceSub, Nat.reduceMul, Nat.reduceLeDiff, Nat.reduceLT, loadA, rdCells, storeA, setAt, binA]
  refine WT_callx [.int .i64 ss.length] (by simp only [go_sem, ↓reduceIte, reduceCtorEq, Nat.reduceEqDiff, Nat.reduceAdd, Nat.reduceSub, Nat.reduceMul, Nat.reduceLeDiff, Nat.reduceLT, loadA, rdCells, storeA, setAt, binA]) ((var_law hX ss.length S1).mono ?_)
  rintro w S2 ⟨rfl, hk2⟩
  have hk02 := hk1.trans hk2
  have b2 := hk02.obj hu3 hu1
  have p2 := hk02.obj hu4 hu2
  have r2 := hk2.obj (by omega) r1
  have z2 := hk2.1
  have zp2 := hk02.lt hu4
  have hm2 : MSl tyc 4 S2 (.msl p 0 ss.length 4) ss := Or.inr (Or.inr ⟨p, rfl, p2, zp2⟩)
  obtain ⟨nv, SB, hap, hmB, hfB, hzB, -, -, hkB⟩ := hm2.app1 tycP (vtm 0) (bytes := 56) (by omega)
  rcases hmB with ⟨-, h⟩ | ⟨-, h⟩ | ⟨p', rfl, hoB, hpB⟩
  · simp at h
  · simp at h
  have hp' := hfB _ _ _ _ rfl
  have hlB : (ss ++ [vtm 0]).length = ss.length + 1 := by simp
  rw [hlB] at hap
  have hma := maddr (p := p') (n := ss.length + 1) (i := ss.length) (by omega)
  have hst := mstore tycP hoB (i := ss.length) (by omega) (vtm ss.length)
  have hset : (ss ++ [vtm 0]).set ss.length (vtm ss.length) = ss ++ [vtm ss.length] := by
    rw [List.set_append_right _ _ (by omega)]; simp
  rw [hset] at hst
  have hno : ∀ j, j ≠ p → notO (.msl p 0 ss.length 4) j := fun j hj o l z he => by cases he; exact hj rfl
  have bB : SB.obj b = some (.cells [.msl p 0 ss.length 4]) := by rw [hkB b (hk02.lt hu3) (hno b hbp)]; exact b2
  have rB : SB.obj s.size = some (.cells [.int .i64 0, .str ⟨#[]⟩, .int .i64 0, .nils]) := by rw [hkB s.size (by omega) (hno _ (by omega))]; exact r2
  have hqp : (b != p') = true := by have := hk02.lt hu3; simp; omega
  have hbp' : b ≠ p' := by have := hk02.lt hu3; omega
  obtain ⟨SC, hSC⟩ : ∃ SC, SC = SB.put p' (some (.cells ((ss ++ [vtm ss.length]).flatMap tyc))) := ⟨_, rfl⟩
  have bC : SC.obj b = some (.cells [.msl p 0 ss.length 4]) := by rw [hSC, put_ne hbp']; exact bB
  have hst2 : storeA SC 1 (.ptr b 0) (.msl p' 0 (ss.length + 1) 4) = some (SC.put b (some (.cells [.msl p' 0 (ss.length + 1) 4]))) := by
    simp [storeA, bC, AV.cells, AV.one, setAt]
  have l1 : loadA S1 false 1 (.ptr b 0) = some (.msl p 0 ss.length 4) := by simp [loadA, rdCells, b1]
  have l2 : loadA S2 false 1 (.ptr b 0) = some (.msl p 0 ss.length 4) := by simp [loadA, rdCells, b2]
  have vt : tyc (vtm 0) = [.int .i64 0, .str ⟨#[]⟩, .int .i64 0, .sl [] 0 false none] := by rw [vtm_c]; rfl
  rw [vt] at hap
  rw [vtm_c ss.length] at hst
  rw [← hSC] at hst
  have e1 : (b = p') = False := eq_false hbp'
  obtain ⟨SD, hSD⟩ : ∃ SD, SD = SC.put b (some (.cells [.msl p' 0 (ss.length + 1) 4])) := ⟨_, rfl⟩
  have bD : SD.obj b = some (.cells [.msl p' 0 (ss.length + 1) 4]) := by rw [hSD, put_eq]
  have pD : SD.obj p' = some (.cells ((ss ++ [vtm ss.length]).flatMap tyc)) := by rw [hSD, put_ne (Ne.symm hbp'), hSC, put_eq]
  have rD : SD.obj s.size = some (.cells [.int .i64 0, .str ⟨#[]⟩, .int .i64 0, .nils]) := by rw [hSD, put_ne (by omega), hSC, put_ne (by omega)]; exact rB
  have l3 : loadA SD false 1 (.ptr b 0) = some (.msl p' 0 (ss.length + 1) 4) := by simp [loadA, rdCells, bD]
  have l4 : loadA SD true 4 (.ptr p' (ss.length * 4)) = some (.agg (tyc (vtm ss.length))) := mload tycP pD (by simp)
  have hst3 : storeA SD 4 (.ptr s.size 0) (.agg (tyc (vtm ss.length))) = some (SD.put s.size (some (.cells (tyc (vtm ss.length))))) := by
    rw [vtm_c]; simp [storeA, rD, AV.cells, AV.one, setAt]
  have hwr : IntKind.i64.wrap (((ss.length + 1 : Nat) : Int) - 1) = (ss.length : Int) := by rw [IntKind.wrap_i64]; omega
  have hlen2 : lenA (.msl p' 0 (ss.length + 1) 4) = some (.int .i64 ((ss.length + 1 : Nat) : Int)) := rfl
  rw [← hSD] at hst2
  have hiN : (ss ++ [vtm ss.length])[ss.length]? = some (vtm ss.length) := by simp
  have hle : (ss.length * 4 + 4 ≤ ((ss ++ [vtm ss.length]).flatMap tyc).length) = True := eq_true (flat_le tyc_len hiN 4 (Nat.le_refl _))
  have htk : List.take 4 (List.drop (ss.length * 4) ((ss ++ [vtm ss.length]).flatMap tyc)) = [.int .i64 0, .str ⟨#[]⟩, .int .i64 ss.length, .sl [] 0 false none] := by
    rw [flat_row tyc_len hiN, vtm_c]
  rw [vtm_c] at hst3
  simp only [wt_ops, stpT, Tr, hlen, hap, hma, hst, hst2, hst3, b1, b2, bD, pD, rD, hlen2, hwr, hle, htk, hqp, wt_nil, chk1, apartS, avr, Bool.or_true, Bool.false_or, Nat.le_add_left, setAt, loadA, rdCells, go_sem, ↓reduceIte, reduceCtorEq, Nat.reduceEqDiff, Nat.reduceAdd, Nat.reduceSub, Nat.reduceMul, Nat.reduceLeDiff, Nat.reduceLT, binA]
  have z3 := hk02.lt hu3
  refine ⟨by simp, _, rfl, by rw [vtm_c], p', ⟨?_, ?_, ?_, ?_⟩, hbp', Or.inr (by omega), ⟨?_, fun j hj h1 h2 => ?_⟩⟩
  · rw [put_ne (by omega), bD]; simp
  · rw [put_ne (by omega), pD]
  · rw [hSD, hSC]; simp only [St.put]; omega
  · rw [hSD, hSC]; simp only [St.put]; omega
  · rw [hSD, hSC]; simp only [St.put]; omega
  · rw [put_ne (by omega), hSD, put_ne h1, hSC, put_ne (by omega), hkB j (by omega) (hno j h2), hk02.2 j hj]

theorem UN.refl {b p : Nat} {s : St} {ss : List Tm} (h : US s b p ss) (hbp : b ≠ p) : UN b p s ss s := ⟨p, h, hbp, Or.inl rfl, Nat.le_refl _, fun _ _ _ _ => rfl⟩
theorem UN.keep {b p : Nat} {s s1 s2 : St} {ss : List Tm} (h : UN b p s ss s1) (hk : Keep s1 s2) : UN b p s ss s2 := by
  obtain ⟨p', h1, h2, h3, h4⟩ := h
  exact ⟨p', h1.keep hk, h2, h3, Nat.le_trans h4.1 hk.1, fun j hj a c => (hk.2 j (Nat.lt_of_lt_of_le hj h4.1)).trans (h4.2 j hj a c)⟩
theorem UN.from {b p : Nat} {s0 s s1 : St} {ss : List Tm} (h : UN b p s ss s1) (hk : Keep s0 s) : UN b p s0 ss s1 := by
  obtain ⟨p', h1, h2, h3, h4⟩ := h
  refine ⟨p', h1, h2, ?_, Nat.le_trans hk.1 h4.1, fun j hj a c => (h4.2 j (Nat.lt_of_lt_of_le hj hk.1) a c).trans (hk.2 j hj)⟩
  rcases h3 with h3 | h3
  · exact Or.inl h3
  · exact Or.inr (Nat.le_trans hk.1 h3)
/-- One run behind another. -/
theorem UN.trans {b p : Nat} {s s1 s2 : St} {ss1 ss2 : List Tm} (h : UN b p s ss1 s1) (k : ∀ p', US s1 b p' ss1 → b ≠ p' → UN b p' s1 ss2 s2) : UN b p s ss2 s2 := by
  obtain ⟨p', h1, h2, h3, h4⟩ := h
  obtain ⟨p2, k1, k2, k3, k4⟩ := k p' h1 h2
  refine ⟨p2, k1, k2, ?_, Nat.le_trans h4.1 k4.1, fun j hj a c => ?_⟩
  · rcases k3 with k3 | k3
    · rw [k3]; exact h3
    · exact Or.inr (Nat.le_trans h4.1 k3)
  · rw [k4.2 j (Nat.lt_of_lt_of_le hj h4.1) a (by rcases h3 with h3 | h3 <;> omega)]
    exact h4.2 j hj a c
/-- An object of the caller's. -/
theorem UN.obj {b p : Nat} {s s1 : St} {ss : List Tm} (h : UN b p s ss s1) {j : Nat} (hj : j < s.size) (h1 : j ≠ b) (h2 : j ≠ p) {o : Option AO} (ho : s.obj j = o) : s1.obj j = o := by
  obtain ⟨p', -, -, -, h4⟩ := h
  rw [h4.2 j hj h1 h2]; exact ho
theorem UN.size {b p : Nat} {s s1 : St} {ss : List Tm} (h : UN b p s ss s1) : s.size ≤ s1.size := h.choose_spec.2.2.2.1
end Go.Am.U1
