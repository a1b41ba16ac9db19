/- UnifyNormal. Conditions: none. -/
import Derived.Test.YtfleakoephmgaaaDoorUoI
set_option linter.unusedSimpArgs false
set_option linter.unusedVariables false
namespace Go.Am.U2
open Go.Am.Un Go.So Go.Proofs
open Go.Am.U1 (tycP isl_tycs drop_at tyw tyc_w NoX vtm vtm_c len_tszs tsz_pos ne_a ne_b ne_c ne_d ne_e ne_f avr chks_cons chk_tsz)
set_option maxRecDepth 100000
set_option linter.unusedSimpArgs false
attribute [local go_sem] wseq COp.isStore wreg wdreg wret wskip wexit wblock wcnd cnd_t cnd_f then_n then_x then_r catch_n rnd_n rnd_x rnd_r catch_x catch_r wo_nil wo_grd grdO_t grdO_f wo_ops stpO wr_nil wr_alloc wr_guards grdR_t grdR_f wr_ops stpR evAllocs evOp env0_app eput_some eput_none eset_app Opd.ev wantedA faddrA snew_obj snew_size sput_obj sput_size av_cells av_one av_strip av_still unA eqbA fillA fldA lensA mmA mm2 mmFold List.getD_cons_zero List.getD_cons_succ List.getD_nil List.length_cons List.length_nil List.drop_zero List.drop_succ_cons List.take_succ_cons List.take_zero List.map_cons List.map_nil List.set_cons_zero List.set_cons_succ List.all_cons List.all_nil List.getElem?_cons_zero List.getElem?_cons_succ List.nil_append List.cons_append Nat.zero_add Nat.add_zero beq_self_eq_true bt bf Bool.not_true Bool.not_false Bool.and_true Bool.true_and Bool.and_false Bool.false_and and_self and_true true_and n0 n1 n2 n3 n4 m0 m1 m2 m3 c1 retA resAs resA undefA Option.map_some Option.map_none
variable {X : Ext}

mutual
theorem chk_val (row : Bool) (d left : Int) : ∀ t : Tm, (chk row d left t).1 = 0 → Val t
  | .mk k n v l => by
    intro h
    rw [chk] at h
    split at h
    · simp at h
    split at h
    · simp at h
    split at h
    · simp at h
    split at h
    · simp at h
    split at h
    · simp at h
    rename_i h1 h2 h3 h4 h5
    rw [Val]
    have h31 : ¬ (szK k ≥ 0 ∧ (l.length : Int) ≠ szK k) := fun hh => h3 (Or.inl hh)
    refine ⟨by omega, by omega, fun hk => ?_, fun hk => ?_, fun hk => ?_, fun hk => ?_, fun hk => ?_, vals_of fun i t hi => chks_val k 0 (d + 1) (left - 1) l h t (List.mem_of_getElem? hi)⟩
    · subst hk; simp only [szK, if_true] at h31; omega
    · subst hk; simp [szK] at h31; omega
    · subst hk; simp [szK] at h31; omega
    · subst hk; simp [szK] at h31; simp [h31]
    · subst hk; simp [szK] at h31; omega
theorem chks_val (k : Int) (i : Nat) (d left : Int) : ∀ l : List Tm, (chks k i d left l).1 = 0 → ∀ a, a ∈ l → Val a
  | [] => fun _ a ha => by simp at ha
  | a :: r => fun h b hb => by
    rcases List.mem_cons.1 hb with hb' | hb'
    · rw [hb']; exact chk_val _ d left a (chks_cons h).1
    · exact chks_val k (i + 1) d _ r (chks_cons h).2.1 b hb'
end

theorem val_bld : ∀ (L : List Lb) (e : Tm), Val e → (∀ x, x ∈ L → Val x.2) → Val (bld L e)
  | [], e, he, _ => he
  | x :: L, e, he, hL => by
    rw [bld, Val]
    simp only [Vals]
    exact ⟨by decide, by decide, by simp, by simp, by simp, by simp, by simp, hL x (by simp), val_bld L e he fun y hy => hL y (by simp [hy]), trivial⟩
theorem val_nf : ∀ (n : Nat) (t : Tm), tsz t ≤ n → Val t → Val (nf t) := by
  intro n
  induction n with
  | zero => intro t h; have := tsz_pos t; omega
  | succ n ih =>
    intro t h hv
    obtain ⟨L, e, hs⟩ := spn_of _ t (Nat.le_refl _) hv
    obtain ⟨h1, h2, h3⟩ := spn_mem hs
    have he := spn_end hs
    rw [nf_spn hs]
    refine val_bld _ _ ?_ fun x hx => ?_
    · have hve := h3 hv
      rw [nf_oth he]
      obtain ⟨k, m, v, l⟩ := e
      rw [Val] at hve ⊢
      simp only [U1.kof_mk, U1.vof_mk, U1.lof_mk, List.length_map]
      refine ⟨hve.1, hve.2.1, hve.2.2.1, hve.2.2.2.1, hve.2.2.2.2.1, hve.2.2.2.2.2.1, hve.2.2.2.2.2.2.1, vals_of fun i t hi => ?_⟩
      obtain ⟨a, ha, rfl⟩ := List.mem_map.1 (List.mem_of_getElem? hi)
      have := tsz_mem (t := .mk k m v l) ha
      exact ih a (by omega) (val_arg (t := .mk k m v l) (h3 hv) ha)
    · rw [isort_mem] at hx
      obtain ⟨y, hy, rfl⟩ := List.mem_map.1 hx
      obtain ⟨h8, h9⟩ := h1 y hy
      exact ih y.2 (by omega) (h9 hv)

theorem checkrow_law (hX : NoX X) (t : Tm) (s : St) : WC T X 25 [.agg (tyc t)] s (fun v s' => v = .int .i64 (chk true 1 4096 t).1 ∧ Keep s s') := by
  refine WC_fn cf25 (hX 25 (by decide)) T25 (by simp [cf25]) ?_
  have hc := fun (s1 : St) (b : Nat) ho hb => (U1.check_law hX b (tsz t) t (Nat.le_refl _) _ 1 4096 true s1 (isl_tycs (lof t)) (by omega) (by omega) (by omega) (by omega) ho hb).sub sub
  rw [tyc_w]
  simp only [U1.tyw] at hc ⊢
  simp only [cf25, Nat.le_add_left, go_sem, ↓reduceIte, reduceCtorEq, Nat.reduceEqDiff, Nat.reduceAdd, Nat.reduceSub, Nat.reduceMul, Nat.reduceLeDiff, Nat.reduceLT, loadA, rdCells, storeA, setAt, binA]
  refine WO_callx _ rfl ((hc _ (s.size + 1) (new_eq (by simp [St.new])) (by simp [St.new])).mono ?_)
  rintro v s2 ⟨rfl, -, hk⟩
  simp only [go_sem, ↓reduceIte, reduceCtorEq, Nat.reduceEqDiff, Nat.reduceAdd, Nat.reduceSub, Nat.reduceMul, Nat.reduceLeDiff, Nat.reduceLT, loadA, rdCells, storeA, setAt, binA]
  refine ⟨by simp, _, rfl, rfl, ?_⟩
  have h1 := hk.1
  simp only [St.new] at h1
  exact ⟨by omega, fun j hj => by rw [hk.2 j (by simp only [St.new]; omega) (by omega), new_ne (by simp only [St.new]; omega), new_ne (by omega)]⟩

def bA : ByteArray := ⟨#[97]⟩
def bB : ByteArray := ⟨#[98]⟩
def emp : Tm := .mk 4 ⟨#[]⟩ 0 []
def exT : Tm := .mk 5 bB 0 [numT, .mk 5 bA 0 [numT, emp]]
theorem val_numT : Val numT := by rw [numT, Val]; simp [Vals]
theorem val_emp : Val emp := by rw [emp, Val]; simp [Vals]
theorem val_exT : Val exT := by
  rw [exT, Val]
  simp only [Vals]
  refine ⟨by decide, by decide, by simp, by simp, by simp, by simp, by simp, val_numT, ?_, trivial⟩
  rw [Val]
  simp only [Vals]
  exact ⟨by decide, by decide, by simp, by simp, by simp, by simp, by simp, val_numT, val_emp, trivial⟩
theorem ext_law2 (hX : NoX X) (l : ByteArray) (a b : Tm) (wa wb : AV) (ha : ISl tyc wa (lof a)) (hb : ISl tyc wb (lof b)) (s : St) : WC T X 22 [.str l, .agg (tyw a wa), .agg (tyw b wb)] s (fun v s' => v = .agg (tyc (.mk 5 l 0 [a, b])) ∧ Keep s s') := by
  refine WC.sub sub (T := U1.T) ?_
  refine WC_fn U1.cf22 (hX 22 (by decide)) U1.T22 (by simp [U1.cf22]) ?_
  have hr : tyc (.mk 5 l 0 [a, b]) = [.int .i64 5, .str l, .int .i64 0, .sl (tyc a ++ tyc b) 2 false none] := by
    rw [tyc, tycs, tycs, tycs, List.append_nil]; rfl
  have sa := strip_isl ha
  have sb := strip_isl hb
  have t1 : AV.still (.sl (tycs (lof a)) (lof a).length false none) = true := rfl
  have sa2 : AV.still wa = true := by rcases ha with ⟨rfl, -⟩ | ⟨f, tk, rfl⟩ <;> rfl
  have sb2 : AV.still wb = true := by rcases hb with ⟨rfl, -⟩ | ⟨f, tk, rfl⟩ <;> rfl
  rw [hr, tyc_w a, tyc_w b]
  simp only [U1.tyw]
  simp only [U1.cf22, sa, sb, sa2, sb2, Nat.le_add_left, go_sem, ↓reduceIte, reduceCtorEq, Nat.reduceEqDiff, Nat.reduceAdd, Nat.reduceSub, Nat.reduceMul, Nat.reduceLeDiff, Nat.reduceLT, loadA, rdCells, storeA, setAt, binA]
  exact ⟨by simp, _, rfl, rfl, ((((Keep.refl s).new' _).new' _).new' _).put' (by show s.size ≤ s.size + 1 + 1; omega) _⟩
theorem nf_exT : nof (nf exT) = bA := by
  have hke : kof (nf emp) ≠ 5 := nf_end (by rw [emp, U1.kof_mk]; decide)
  have h1 : insL bA (nf numT) (nf emp) = .mk 5 bA 0 [nf numT, nf emp] := insL_end hke
  rw [exT, nf_ext, nf_ext, h1, Un.insL, if_pos ⟨rfl, by decide +kernel⟩]
  rfl
set_option maxHeartbeats 8000000 in
theorem normal_law (t : Tm) (s : St) : WC T Xb 4 [.agg (tyc t)] s (fun v _ => v = .bool true) := by
  have hX : NoX Xb := Xb_none
  refine WC_fn cf4 (hX 4 (by decide)) T4 (by simp [cf4]) ?_
  rw [tyc_w, U1.tyw]
  simp only [cf4, go_sem, ↓reduceIte, reduceCtorEq, Nat.reduceEqDiff, Nat.reduceAdd, Nat.reduceSub, Nat.reduceMul, Nat.reduceLeDiff, Nat.reduceLT, loadA, rdCells, storeA, setAt, binA]
  refine WO_callx _ rfl ((num_law hX _).mono ?_)
  rintro w S1 ⟨rfl, hk1⟩
  simp only [go_sem, ↓reduceIte, reduceCtorEq, Nat.reduceEqDiff, Nat.reduceAdd, Nat.reduceSub, Nat.reduceMul, Nat.reduceLeDiff, Nat.reduceLT, loadA, rdCells, storeA, setAt, binA]
  refine WO_callx _ rfl ((num_law hX _).mono ?_)
  rintro w S2 ⟨rfl, hk2⟩
  simp only [Nat.le_add_left, go_sem, ↓reduceIte, reduceCtorEq, Nat.reduceEqDiff, Nat.reduceAdd, Nat.reduceSub, Nat.reduceMul, Nat.reduceLeDiff, Nat.reduceLT, loadA, rdCells, storeA, setAt, binA]
  have he1 := fun S => ext_law2 hX bA numT emp (.sl (tycs (lof numT)) (lof numT).length false none) .nils (isl_tycs _) (Or.inl ⟨rfl, rfl⟩) S
  rw [← tyc_w] at he1
  refine WO_callx _ rfl ((he1 _).mono ?_)
  rintro w S3 ⟨rfl, hk3⟩
  have he2 := fun S => ext_law2 hX bB numT (.mk 5 bA 0 [numT, emp]) (.sl (tycs (lof numT)) (lof numT).length false none) _ (isl_tycs _) (isl_tycs _) S
  rw [← tyc_w, ← tyc_w] at he2
  simp only [go_sem, ↓reduceIte, reduceCtorEq, Nat.reduceEqDiff, Nat.reduceAdd, Nat.reduceSub, Nat.reduceMul, Nat.reduceLeDiff, Nat.reduceLT, loadA, rdCells, storeA, setAt, binA]
  refine WO_callx _ rfl ((he2 _).mono ?_)
  rintro w S4 ⟨rfl, hk4⟩
  have hx : Tm.mk 5 bB 0 [numT, .mk 5 bA 0 [numT, emp]] = exT := rfl
  rw [hx, tyc_w exT, U1.tyw]
  have hk04 := ((hk1.trans hk2).trans hk3).trans hk4
  have hz4 : s.size < S4.size := hk04.lt (by simp [St.new])
  have o4 := hk04.2 s.size (by simp [St.new])
  simp only [go_sem, ↓reduceIte, reduceCtorEq, Nat.reduceEqDiff, Nat.reduceAdd, Nat.reduceSub, Nat.reduceMul, Nat.reduceLeDiff, Nat.reduceLT, loadA, rdCells, storeA, setAt, binA] at o4
  have hnx := fun S => norm_law (isl_tycs (lof exT)) val_exT (by rw [exT, tsz, tszs, tszs, tszs, tsz, tszs, tszs, tszs, numT, tsz, tszs, emp, tsz, tszs]; decide) S
  simp only [U1.tyw] at hnx
  simp only [Nat.le_add_left, go_sem, ↓reduceIte, reduceCtorEq, Nat.reduceEqDiff, Nat.reduceAdd, Nat.reduceSub, Nat.reduceMul, Nat.reduceLeDiff, Nat.reduceLT, loadA, rdCells, storeA, setAt, binA]
  refine WO_callx _ rfl ((hnx _).mono ?_)
  rintro w S5 ⟨rfl, rfl⟩
  have hna : ((nof (nf exT)).toList == ({ data := #[97] } : ByteArray).toList) = true := by rw [nf_exT]; simp [bA]
  rw [tyc_w (nf exT), U1.tyw]
  have hck := fun S => (U1.check18_law hX t _ (isl_tycs (lof t)) S).sub sub
  have hck2 := fun S => checkrow_law hX t S
  rw [tyc_w, U1.tyw] at hck2
  simp only [U1.tyw] at hck
  simp only [hna, o4, ne_a hz4, ne_b hz4, ne_c hz4, ne_d hz4, Nat.le_add_left, go_sem, ↓reduceIte, reduceCtorEq, Nat.reduceEqDiff, Nat.reduceAdd, Nat.reduceSub, Nat.reduceMul, Nat.reduceLeDiff, Nat.reduceLT, loadA, rdCells, storeA, setAt, binA]
  refine WO_callx _ rfl ((hck _).mono ?_)
  rintro w SC ⟨rfl, hk6⟩
  have hzC : s.size < SC.size := hk6.lt (by simp only [St.new, St.put]; omega)
  have oC := hk6.2 s.size (by simp only [St.new, St.put]; omega)
  simp only [o4, ne_a hz4, ne_b hz4, ne_c hz4, ne_d hz4, go_sem, ↓reduceIte, reduceCtorEq, Nat.reduceEqDiff, Nat.reduceAdd, Nat.reduceSub, Nat.reduceMul, Nat.reduceLeDiff, Nat.reduceLT, loadA, rdCells, storeA, setAt, binA] at oC
  cases c1 : ((chk false 1 4096 t).1 != 0)
  · have hc1 : (chk false 1 4096 t).1 = 0 := by simpa using c1
    have hv := chk_val _ _ _ t hc1
    have hts := chk_tsz hc1
    have hnt := fun S => norm_law (isl_tycs (lof t)) hv (by unfold big; omega) S
    have hvn : Val (nf t) := val_nf _ t (Nat.le_refl _) hv
    have hnn := nf_tsz _ t (Nat.le_refl _) hv
    have hnt2 := fun S => norm_law (isl_tycs (lof (nf t))) hvn (by unfold big; omega) S
    rw [nf_idem _ t (Nat.le_refl _) hv] at hnt2
    simp only [U1.tyw] at hnt hnt2
    simp only [c1, oC, Nat.le_add_left, go_sem, ↓reduceIte, reduceCtorEq, Nat.reduceEqDiff, Nat.reduceAdd, Nat.reduceSub, Nat.reduceMul, Nat.reduceLeDiff, Nat.reduceLT, loadA, rdCells, storeA, setAt, binA]
    refine WO_callx _ rfl ((hnt _).mono ?_)
    rintro w S8 ⟨rfl, hs8⟩
    rw [hs8]
    rw [tyc_w (nf t), U1.tyw]
    simp only [Nat.le_add_left, go_sem, ↓reduceIte, reduceCtorEq, Nat.reduceEqDiff, Nat.reduceAdd, Nat.reduceSub, Nat.reduceMul, Nat.reduceLeDiff, Nat.reduceLT, loadA, rdCells, storeA, setAt, binA]
    refine WO_callx _ rfl ((hnt2 _).mono ?_)
    rintro w S9 ⟨rfl, hs9⟩
    rw [hs9]
    rw [tyc_w (nf t), U1.tyw]
    have hs1 := fun S => same_law (isl_tycs (lof t)) (isl_tycs (lof (nf t))) hv hvn (by unfold big; omega) (by unfold big; omega) S
    have hs2 := fun S => same_law (isl_tycs (lof (nf t))) (isl_tycs (lof (nf t))) hvn hvn (by unfold big; omega) (by unfold big; omega) S
    have hs3 := fun S => srt_law hX (tsz (nf t)) (nf t) (Nat.le_refl _) (by unfold big; omega) S
    have hf1 := fun S => (U1.free_law hX (tsz (nf t)) (nf t) (Nat.le_refl _) (by omega) _ S (isl_tycs (lof (nf t)))).sub sub
    have hf2 := fun S => (U1.free_law hX (tsz t) t (Nat.le_refl _) (by omega) _ S (isl_tycs (lof t))).sub sub
    rw [nf_idem _ t (Nat.le_refl _) hv, eqb_rfl] at hs1 hs2
    rw [srtd_nf _ t (Nat.le_refl _) hv, tyc_w, U1.tyw] at hs3
    simp only [U1.tyw] at hs1 hs2 hf1 hf2
    simp only [oC, ne_a hzC, ne_b hzC, ne_c hzC, ne_d hzC, Nat.le_add_left, go_sem, ↓reduceIte, reduceCtorEq, Nat.reduceEqDiff, Nat.reduceAdd, Nat.reduceSub, Nat.reduceMul, Nat.reduceLeDiff, Nat.reduceLT, loadA, rdCells, storeA, setAt, binA]
    refine W_dreg ?_
    simp only [wt_ops, stpT, Tr, wt_gs, grdT_t, oC, ne_a hzC, ne_b hzC, ne_c hzC, ne_d hzC, wt_alloc, wt_nil, chk1, avr, Bool.or_true, Bool.false_or, Nat.le_add_left, go_sem, ↓reduceIte, reduceCtorEq, Nat.reduceEqDiff, Nat.reduceAdd, Nat.reduceSub, Nat.reduceMul, Nat.reduceLeDiff, Nat.reduceLT, loadA, rdCells, storeA, setAt, binA]
    obtain ⟨SA, hSA⟩ : ∃ SA, SA = (((SC.new (.cells [.int .i64 0, .str ⟨#[]⟩, .int .i64 0, .nils])).put SC.size (some (.cells [.int .i64 (kof (nf t)), .str (nof (nf t)), .int .i64 (vof (nf t)), .sl (tycs (lof (nf t))) (lof (nf t)).length false none]))).new (.cells [.int .i64 0, .str ⟨#[]⟩, .int .i64 0, .nils])).put (SC.size + 1) (some (.cells [.int .i64 (kof (nf t)), .str (nof (nf t)), .int .i64 (vof (nf t)), .sl (tycs (lof (nf t))) (lof (nf t)).length false none])) := ⟨_, rfl⟩
    have hzA : SA.size = SC.size + 1 + 1 := by rw [hSA]; rfl
    have oA0 : SA.obj s.size = some (.cells [.int .i64 (kof t), .str (nof t), .int .i64 (vof t), .sl (tycs (lof t)) (lof t).length false none]) := by
      rw [hSA, put_ne (by omega), new_ne (by simp only [St.put, St.new]; omega), put_ne (by omega), new_ne (by omega)]; exact oC
    have oA1 : SA.obj SC.size = some (.cells [.int .i64 (kof (nf t)), .str (nof (nf t)), .int .i64 (vof (nf t)), .sl (tycs (lof (nf t))) (lof (nf t)).length false none]) := by
      rw [hSA, put_ne (by omega), new_ne (by simp only [St.put, St.new]; omega), put_eq]
    have oA2 : SA.obj (SC.size + 1) = some (.cells [.int .i64 (kof (nf t)), .str (nof (nf t)), .int .i64 (vof (nf t)), .sl (tycs (lof (nf t))) (lof (nf t)).length false none]) := by
      rw [hSA, put_eq]
    rw [← hSA]
    refine WT_callx _ rfl ((hs1 _).mono ?_)
    rintro w SF ⟨rfl, hkF⟩
    have oF0 := hkF.obj (by omega) oA0
    have oF1 := hkF.obj (by omega) oA1
    have oF2 := hkF.obj (by omega) oA2
    have hzF := hkF.1
    simp only [wt_ops, stpT, Tr, wt_gs, grdT_t, oF0, oF1, oF2, wt_alloc, wt_nil, chk1, avr, Bool.or_true, Bool.false_or, Nat.le_add_left, go_sem, ↓reduceIte, reduceCtorEq, Nat.reduceEqDiff, Nat.reduceAdd, Nat.reduceSub, Nat.reduceMul, Nat.reduceLeDiff, Nat.reduceLT, loadA, rdCells, storeA, setAt, binA]
    refine WT_callg _ (by simp only [go_sem, ↓reduceIte, reduceCtorEq, Nat.reduceEqDiff, Nat.reduceAdd, Nat.reduceSub, Nat.reduceMul, Nat.reduceLeDiff, Nat.reduceLT, loadA, rdCells, storeA, setAt, binA]) rfl ((hs2 _).mono ?_)
    rintro w SG ⟨rfl, hkG⟩
    have oG0 := hkG.obj (by omega) oF0
    have oG1 := hkG.obj (by omega) oF1
    have hzG := hkG.1
    simp only [wt_ops, stpT, Tr, wt_gs, grdT_t, oG0, oG1, wt_alloc, wt_nil, chk1, avr, Bool.or_true, Bool.false_or, Nat.le_add_left, go_sem, ↓reduceIte, reduceCtorEq, Nat.reduceEqDiff, Nat.reduceAdd, Nat.reduceSub, Nat.reduceMul, Nat.reduceLeDiff, Nat.reduceLT, loadA, rdCells, storeA, setAt, binA]
    refine WT_callg _ (by simp only [go_sem, ↓reduceIte, reduceCtorEq, Nat.reduceEqDiff, Nat.reduceAdd, Nat.reduceSub, Nat.reduceMul, Nat.reduceLeDiff, Nat.reduceLT, loadA, rdCells, storeA, setAt, binA]) rfl ((hs3 _).mono ?_)
    rintro w SH ⟨rfl, hkH⟩
    have oH0 := hkH.obj (by omega) oG0
    have oH1 := hkH.obj (by omega) oG1
    have hzH := hkH.1
    simp only [wt_ops, stpT, Tr, wt_gs, grdT_t, oH0, oH1, wt_alloc, wt_nil, chk1, avr, Bool.or_true, Bool.false_or, Nat.le_add_left, go_sem, ↓reduceIte, reduceCtorEq, Nat.reduceEqDiff, Nat.reduceAdd, Nat.reduceSub, Nat.reduceMul, Nat.reduceLeDiff, Nat.reduceLT, loadA, rdCells, storeA, setAt, binA]
    refine WT_callg _ (by simp only [go_sem, ↓reduceIte, reduceCtorEq, Nat.reduceEqDiff, Nat.reduceAdd, Nat.reduceSub, Nat.reduceMul, Nat.reduceLeDiff, Nat.reduceLT, loadA, rdCells, storeA, setAt, binA]) rfl ((hf1 _).mono ?_)
    rintro fv1 SI ⟨hfv1, hkI⟩
    have oI0 := hkI.obj (by omega) oH0
    have hl1 := hfv1.len
    rw [fre_nf hv] at hl1
    simp only [wt_ops, stpT, Tr, wt_gs, grdT_t, oH0, oI0, hl1, wt_alloc, wt_nil, chk1, avr, Bool.or_true, Bool.false_or, Nat.le_add_left, go_sem, ↓reduceIte, reduceCtorEq, Nat.reduceEqDiff, Nat.reduceAdd, Nat.reduceSub, Nat.reduceMul, Nat.reduceLeDiff, Nat.reduceLT, loadA, rdCells, storeA, setAt, binA]
    refine WT_callg _ (by simp only [go_sem, ↓reduceIte, reduceCtorEq, Nat.reduceEqDiff, Nat.reduceAdd, Nat.reduceSub, Nat.reduceMul, Nat.reduceLeDiff, Nat.reduceLT, loadA, rdCells, storeA, setAt, binA]) rfl ((hf2 _).mono ?_)
    rintro fv2 SJ ⟨hfv2, hkJ⟩
    have hl2 := hfv2.len
    simp only [wt_ops, stpT, Tr, wt_gs, grdT_t, oH0, oI0, hl1, hl2, wt_alloc, wt_nil, chk1, avr, Bool.or_true, Bool.false_or, Nat.le_add_left, go_sem, ↓reduceIte, reduceCtorEq, Nat.reduceEqDiff, Nat.reduceAdd, Nat.reduceSub, Nat.reduceMul, Nat.reduceLeDiff, Nat.reduceLT, loadA, rdCells, storeA, setAt, binA]
    exact ⟨by simp, _, rfl, rfl⟩
  · simp only [c1, oC, Nat.le_add_left, go_sem, ↓reduceIte, reduceCtorEq, Nat.reduceEqDiff, Nat.reduceAdd, Nat.reduceSub, Nat.reduceMul, Nat.reduceLeDiff, Nat.reduceLT, loadA, rdCells, storeA, setAt, binA]
    refine WO_callx _ rfl ((hck2 _).mono ?_)
    rintro w SD ⟨rfl, hk7⟩
    have hzC' := hk7.lt hzC
    have oC' := hk7.obj hzC oC
    clear hzC oC hk6
    cases c2 : ((chk true 1 4096 t).1 != 0)
    case true => 
      simp only [c2, go_sem, ↓reduceIte, reduceCtorEq, Nat.reduceEqDiff, Nat.reduceAdd, Nat.reduceSub, Nat.reduceMul, Nat.reduceLeDiff, Nat.reduceLT, loadA, rdCells, storeA, setAt, binA]
      exact ⟨by simp, _, rfl, rfl⟩
    have hc1 : (chk true 1 4096 t).1 = 0 := by simpa using c2
    have hv := chk_val _ _ _ t hc1
    have hts := chk_tsz hc1
    have hzC := hzC'
    have oC := oC'
    have hnt := fun S => norm_law (isl_tycs (lof t)) hv (by unfold big; omega) S
    have hvn : Val (nf t) := val_nf _ t (Nat.le_refl _) hv
    have hnn := nf_tsz _ t (Nat.le_refl _) hv
    have hnt2 := fun S => norm_law (isl_tycs (lof (nf t))) hvn (by unfold big; omega) S
    rw [nf_idem _ t (Nat.le_refl _) hv] at hnt2
    simp only [U1.tyw] at hnt hnt2
    simp only [c2, oC, Nat.le_add_left, go_sem, ↓reduceIte, reduceCtorEq, Nat.reduceEqDiff, Nat.reduceAdd, Nat.reduceSub, Nat.reduceMul, Nat.reduceLeDiff, Nat.reduceLT, loadA, rdCells, storeA, setAt, binA]
    refine WO_callx _ rfl ((hnt _).mono ?_)
    rintro w S8 ⟨rfl, hs8⟩
    rw [hs8]
    rw [tyc_w (nf t), U1.tyw]
    simp only [Nat.le_add_left, go_sem, ↓reduceIte, reduceCtorEq, Nat.reduceEqDiff, Nat.reduceAdd, Nat.reduceSub, Nat.reduceMul, Nat.reduceLeDiff, Nat.reduceLT, loadA, rdCells, storeA, setAt, binA]
    refine WO_callx _ rfl ((hnt2 _).mono ?_)
    rintro w S9 ⟨rfl, hs9⟩
    rw [hs9]
    rw [tyc_w (nf t), U1.tyw]
    have hs1 := fun S => same_law (isl_tycs (lof t)) (isl_tycs (lof (nf t))) hv hvn (by unfold big; omega) (by unfold big; omega) S
    have hs2 := fun S => same_law (isl_tycs (lof (nf t))) (isl_tycs (lof (nf t))) hvn hvn (by unfold big; omega) (by unfold big; omega) S
    have hs3 := fun S => srt_law hX (tsz (nf t)) (nf t) (Nat.le_refl _) (by unfold big; omega) S
    have hf1 := fun S => (U1.free_law hX (tsz (nf t)) (nf t) (Nat.le_refl _) (by omega) _ S (isl_tycs (lof (nf t)))).sub sub
    have hf2 := fun S => (U1.free_law hX (tsz t) t (Nat.le_refl _) (by omega) _ S (isl_tycs (lof t))).sub sub
    rw [nf_idem _ t (Nat.le_refl _) hv, eqb_rfl] at hs1 hs2
    rw [srtd_nf _ t (Nat.le_refl _) hv, tyc_w, U1.tyw] at hs3
    simp only [U1.tyw] at hs1 hs2 hf1 hf2
    simp only [oC, ne_a hzC, ne_b hzC, ne_c hzC, ne_d hzC, Nat.le_add_left, go_sem, ↓reduceIte, reduceCtorEq, Nat.reduceEqDiff, Nat.reduceAdd, Nat.reduceSub, Nat.reduceMul, Nat.reduceLeDiff, Nat.reduceLT, loadA, rdCells, storeA, setAt, binA]
    refine W_dreg ?_
    simp only [wt_ops, stpT, Tr, wt_gs, grdT_t, oC, ne_a hzC, ne_b hzC, ne_c hzC, ne_d hzC, wt_alloc, wt_nil, chk1, avr, Bool.or_true, Bool.false_or, Nat.le_add_left, go_sem, ↓reduceIte, reduceCtorEq, Nat.reduceEqDiff, Nat.reduceAdd, Nat.reduceSub, Nat.reduceMul, Nat.reduceLeDiff, Nat.reduceLT, loadA, rdCells, storeA, setAt, binA]
    obtain ⟨SA, hSA⟩ : ∃ SA, SA = (((SD.new (.cells [.int .i64 0, .str ⟨#[]⟩, .int .i64 0, .nils])).put SD.size (some (.cells [.int .i64 (kof (nf t)), .str (nof (nf t)), .int .i64 (vof (nf t)), .sl (tycs (lof (nf t))) (lof (nf t)).length false none]))).new (.cells [.int .i64 0, .str ⟨#[]⟩, .int .i64 0, .nils])).put (SD.size + 1) (some (.cells [.int .i64 (kof (nf t)), .str (nof (nf t)), .int .i64 (vof (nf t)), .sl (tycs (lof (nf t))) (lof (nf t)).length false none])) := ⟨_, rfl⟩
    have hzA : SA.size = SD.size + 1 + 1 := by rw [hSA]; rfl
    have oA0 : SA.obj s.size = some (.cells [.int .i64 (kof t), .str (nof t), .int .i64 (vof t), .sl (tycs (lof t)) (lof t).length false none]) := by
      rw [hSA, put_ne (by omega), new_ne (by simp only [St.put, St.new]; omega), put_ne (by omega), new_ne (by omega)]; exact oC
    have oA1 : SA.obj SD.size = some (.cells [.int .i64 (kof (nf t)), .str (nof (nf t)), .int .i64 (vof (nf t)), .sl (tycs (lof (nf t))) (lof (nf t)).length false none]) := by
      rw [hSA, put_ne (by omega), new_ne (by simp only [St.put, St.new]; omega), put_eq]
    have oA2 : SA.obj (SD.size + 1) = some (.cells [.int .i64 (kof (nf t)), .str (nof (nf t)), .int .i64 (vof (nf t)), .sl (tycs (lof (nf t))) (lof (nf t)).length false none]) := by
      rw [hSA, put_eq]
    rw [← hSA]
    refine WT_callx _ rfl ((hs1 _).mono ?_)
    rintro w SF ⟨rfl, hkF⟩
    have oF0 := hkF.obj (by omega) oA0
    have oF1 := hkF.obj (by omega) oA1
    have oF2 := hkF.obj (by omega) oA2
    have hzF := hkF.1
    simp only [wt_ops, stpT, Tr, wt_gs, grdT_t, oF0, oF1, oF2, wt_alloc, wt_nil, chk1, avr, Bool.or_true, Bool.false_or, Nat.le_add_left, go_sem, ↓reduceIte, reduceCtorEq, Nat.reduceEqDiff, Nat.reduceAdd, Nat.reduceSub, Nat.reduceMul, Nat.reduceLeDiff, Nat.reduceLT, loadA, rdCells, storeA, setAt, binA]
    refine WT_callg _ (by simp only [go_sem, ↓reduceIte, reduceCtorEq, Nat.reduceEqDiff, Nat.reduceAdd, Nat.reduceSub, Nat.reduceMul, Nat.reduceLeDiff, Nat.reduceLT, loadA, rdCells, storeA, setAt, binA]) rfl ((hs2 _).mono ?_)
    rintro w SG ⟨rfl, hkG⟩
    have oG0 := hkG.obj (by omega) oF0
    have oG1 := hkG.obj (by omega) oF1
    have hzG := hkG.1
    simp only [wt_ops, stpT, Tr, wt_gs, grdT_t, oG0, oG1, wt_alloc, wt_nil, chk1, avr, Bool.or_true, Bool.false_or, Nat.le_add_left, go_sem, ↓reduceIte, reduceCtorEq, Nat.reduceEqDiff, Nat.reduceAdd, Nat.reduceSub, Nat.reduceMul, Nat.reduceLeDiff, Nat.reduceLT, loadA, rdCells, storeA, setAt, binA]
    refine WT_callg _ (by simp only [go_sem, ↓reduceIte, reduceCtorEq, Nat.reduceEqDiff, Nat.reduceAdd, Nat.reduceSub, Nat.reduceMul, Nat.reduceLeDiff, Nat.reduceLT, loadA, rdCells, storeA, setAt, binA]) rfl ((hs3 _).mono ?_)
    rintro w SH ⟨rfl, hkH⟩
    have oH0 := hkH.obj (by omega) oG0
    have oH1 := hkH.obj (by omega) oG1
    have hzH := hkH.1
    simp only [wt_ops, stpT, Tr, wt_gs, grdT_t, oH0, oH1, wt_alloc, wt_nil, chk1, avr, Bool.or_true, Bool.false_or, Nat.le_add_left, go_sem, ↓reduceIte, reduceCtorEq, Nat.reduceEqDiff, Nat.reduceAdd, Nat.reduceSub, Nat.reduceMul, Nat.reduceLeDiff, Nat.reduceLT, loadA, rdCells, storeA, setAt, binA]
    refine WT_callg _ (by simp only [go_sem, ↓reduceIte, reduceCtorEq, Nat.reduceEqDiff, Nat.reduceAdd, Nat.reduceSub, Nat.reduceMul, Nat.reduceLeDiff, Nat.reduceLT, loadA, rdCells, storeA, setAt, binA]) rfl ((hf1 _).mono ?_)
    rintro fv1 SI ⟨hfv1, hkI⟩
    have oI0 := hkI.obj (by omega) oH0
    have hl1 := hfv1.len
    rw [fre_nf hv] at hl1
    simp only [wt_ops, stpT, Tr, wt_gs, grdT_t, oH0, oI0, hl1, wt_alloc, wt_nil, chk1, avr, Bool.or_true, Bool.false_or, Nat.le_add_left, go_sem, ↓reduceIte, reduceCtorEq, Nat.reduceEqDiff, Nat.reduceAdd, Nat.reduceSub, Nat.reduceMul, Nat.reduceLeDiff, Nat.reduceLT, loadA, rdCells, storeA, setAt, binA]
    refine WT_callg _ (by simp only [go_sem, ↓reduceIte, reduceCtorEq, Nat.reduceEqDiff, Nat.reduceAdd, Nat.reduceSub, Nat.reduceMul, Nat.reduceLeDiff, Nat.reduceLT, loadA, rdCells, storeA, setAt, binA]) rfl ((hf2 _).mono ?_)
    rintro fv2 SJ ⟨hfv2, hkJ⟩
    have hl2 := hfv2.len
    simp only [wt_ops, stpT, Tr, wt_gs, grdT_t, oH0, oI0, hl1, hl2, wt_alloc, wt_nil, chk1, avr, Bool.or_true, Bool.false_or, Nat.le_add_left, go_sem, ↓reduceIte, reduceCtorEq, Nat.reduceEqDiff, Nat.reduceAdd, Nat.reduceSub, Nat.reduceMul, Nat.reduceLeDiff, Nat.reduceLT, loadA, rdCells, storeA, setAt, binA]
    exact ⟨by simp, _, rfl, rfl⟩

theorem normal_all : ∀ us, TyAs Tryd.prog [24] us → WC T Xb 4 us st0 (fun v _ => v = .bool true) := by
  intro us h
  cases h with
  | cons t a ts vs h1 hs =>
    cases hs
    unfold TyAR at h1
    rw [Tryd.underlying24] at h1
    obtain ⟨cs, rfl, h3⟩ := h1
    obtain ⟨t, rfl⟩ := U1.tm_of _ cs (Nat.le_refl _) h3
    exact normal_law t st0
end Go.Am.U2
