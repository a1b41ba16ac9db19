/- Entail: checks, then the search. Conditions: none. -/
import Derived.Test.YtfleakoephmgaaaDoorClJ
set_option linter.unusedSimpArgs false
set_option linter.unusedVariables false
namespace Go.Am.U3
open Go.Am.Un Go.So
open Go.Am.U1 (NoX drop_at ne_a ne_b ne_c ne_d avr tyw tyc_w tycP isl_tycs len_tszs tsz_pos)
open Go.Am.U2 (Xb)
set_option maxRecDepth 100000
set_option linter.unusedSimpArgs false
attribute [local go_sem] wseq COp.isStore wreg wdreg wret wskip wexit wblock wcnd cnd_t cnd_f then_n then_x then_r catch_n rnd_n rnd_x rnd_r catch_x catch_r wo_nil wo_grd grdO_t grdO_f wo_ops stpO wr_nil wr_alloc wr_guards grdR_t grdR_f wr_ops stpR evAllocs evOp env0_app eput_some eput_none eset_app Opd.ev wantedA faddrA snew_obj snew_size sput_obj sput_size av_cells av_one av_strip av_still unA eqbA fillA fldA lensA mmA mm2 mmFold List.getD_cons_zero List.getD_cons_succ List.getD_nil List.length_cons List.length_nil List.drop_zero List.drop_succ_cons List.take_succ_cons List.take_zero List.map_cons List.map_nil List.set_cons_zero List.set_cons_succ List.all_cons List.all_nil List.getElem?_cons_zero List.getElem?_cons_succ List.nil_append List.cons_append Nat.zero_add Nat.add_zero beq_self_eq_true bt bf Bool.not_true Bool.not_false Bool.and_true Bool.true_and Bool.and_false Bool.false_and and_self and_true true_and n0 n1 n2 n3 n4 m0 m1 m2 m3 c1 retA resAs resA undefA Option.map_some Option.map_none
variable {X : Ext}

/-- A list whose being nil is known, with what an append to its copy gives. -/
theorem clone_pr (hX : NoX X) {v : AV} {l : List Pr} (h : ISl prc v l) (hn : Known v) (hb : (l.length + 1) * 72 ≤ 140737488355328) (S : St) :
    WC T X 38 [v] S (fun r s' => Keep S s' ∧ ∀ s2, Keep s' s2 → ∀ u m, ISl prc u [m] → ∃ v' s3, appendA s2 false 5 72 r u = some (v', s3) ∧ ISl prc v' (l ++ [m]) ∧ Keep S s3) := by
  have hmt : ∀ (s2 : St) (u : AV) (m : Pr), Keep S s2 → ISl prc u [m] → ∀ r, r = .nils ∨ r = .sl [] 0 true none → ∃ v' s3, appendA s2 false 5 72 r u = some (v', s3) ∧ ISl prc v' ([] ++ [m]) ∧ Keep S s3 := by
    intro s2 u m hk hu r hr
    have hc := hu.contents prcP (s := s2)
    refine ⟨.sl ([m].flatMap prc) 1 false (some s2.size), s2.new .right, ?_, Or.inr ⟨false, _, rfl⟩, hk.new' _⟩
    rcases hr with rfl | rfl
    · simp only [appendA, hc, freshA, List.length_singleton]
      rw [if_neg (by omega), if_pos (by omega), if_neg (by simp), if_pos (prcP.stills [m]), prcP.strips]
    · simp only [appendA, hc, freshA, List.length_singleton]
      rw [if_neg (by omega), if_pos ⟨by simp, by omega⟩, if_pos trivial, if_neg (by simp), List.nil_append, if_pos (prcP.stills [m]), prcP.strips]
  refine WC_fn cf38 (hX 38 (by decide)) T38 (by simp [cf38]) ?_
  rcases h with ⟨rfl, hl⟩ | ⟨full, tok, rfl⟩
  · have he : eqnilA false false .nils = some (.bool true) := rfl
    simp only [cf38, he, go_sem, ↓reduceIte, reduceCtorEq, Nat.reduceEqDiff, Nat.reduceAdd, Nat.reduceSub, Nat.reduceMul, Nat.reduceLeDiff, Nat.reduceLT, loadA, rdCells, storeA, setAt, binA]
    exact ⟨by simp, _, rfl, Keep.refl S, fun s2 hk u m hu => by rw [hl]; exact hmt s2 u m hk hu _ (Or.inl rfl)⟩
  · by_cases h0 : l.length = 0
    · obtain rfl := List.eq_nil_of_length_eq_zero h0
      have htk : tok.isSome = true := by
        rcases hn with h | ⟨cs, len, fl, tk, h, hh⟩
        · cases h
        · cases h
          rcases hh with hh | hh
          · simp at hh
          · exact hh
      have hen : eqnilA false false (.sl (([] : List Pr).flatMap prc) 0 full tok) = some (.bool false) := by
        simp only [eqnilA]
        rw [if_neg (by simp), if_pos (Or.inr htk)]
      have hap : appendA S false 5 72 (.sl [] 0 true none) (.sl (([] : List Pr).flatMap prc) 0 full tok) = some (.sl [] 0 true none, S) := by
        simp [appendA, contents]
      simp only [cf38, hen, hap, go_sem, ↓reduceIte, reduceCtorEq, Nat.reduceEqDiff, Nat.reduceAdd, Nat.reduceSub, Nat.reduceMul, Nat.reduceLeDiff, Nat.reduceLT, loadA, rdCells, storeA, setAt, binA]
      exact ⟨by simp, _, rfl, Keep.refl S, fun s2 hk u m hu => hmt s2 u m hk hu _ (Or.inr rfl)⟩
    · have hen : eqnilA false false (.sl (l.flatMap prc) l.length full tok) = some (.bool false) := by
        simp only [eqnilA]
        rw [if_neg (by simp), if_pos (Or.inl (by omega))]
      have hI : ISl prc (.sl (l.flatMap prc) l.length full tok) l := Or.inr ⟨_, _, rfl⟩
      have hap : appendA S false 5 72 (.sl [] 0 true none) (.sl (l.flatMap prc) l.length full tok) = some (.sl (l.flatMap prc) l.length false (some S.size), S.new .right) := by
        simp only [appendA, hI.contents prcP, freshA]
        rw [if_neg (by omega), if_pos ⟨by simp, by omega⟩, if_pos trivial, if_neg (by simp), List.nil_append, if_pos (prcP.stills l), prcP.strips, Nat.zero_add]
      simp only [cf38, hen, hap, go_sem, ↓reduceIte, reduceCtorEq, Nat.reduceEqDiff, Nat.reduceAdd, Nat.reduceSub, Nat.reduceMul, Nat.reduceLeDiff, Nat.reduceLT, loadA, rdCells, storeA, setAt, binA]
      refine ⟨by simp, _, rfl, Keep.new _ _, fun s2 hk u m hu => ?_⟩
      have hR : RSl prc S.size s2 (.sl (l.flatMap prc) l.length false (some S.size)) l := by
        refine ⟨by omega, false, some S.size, rfl, Or.inr ⟨S.size, rfl, ?_, Nat.le_refl _, ?_⟩⟩
        · exact hk.obj (by simp [St.new]) (new_eq rfl)
        · exact hk.lt (by simp [St.new])
      have hkS : Keep S s2 := (Keep.new _ _).trans hk
      obtain ⟨v', s3, ha, hr, hs, hkk, -⟩ := hR.app prcP hu (by simp) hkS.1 (bytes := 72) (by simpa using hb)
      exact ⟨v', s3, ha, hr.i, by have := hkS.1; omega, fun j hj => by rw [hkk j hj]; exact hkS.2 j hj⟩

/-- The first thing wrong with requirements. -/
def gvn (l : List Cl) : List Pr → Int
  | [] => 0
  | p :: r => bif !(isC l p.cls) then 6 else bif ((chk false 1 4096 p.ty).1 != 0) then (chk false 1 4096 p.ty).1 else gvn l r
/-- What is wrong ahead of the search. -/
def pre35 (l : List Cl) (ins : List In) (hv : List Pr) (w : Pr) : Int :=
  bif (inst l ins != 0) then inst l ins else bif decide ((hv.length : Int) > 4096) then 2 else gvn l (hv ++ [w])
theorem gvn_mem {l : List Cl} : ∀ {ps : List Pr}, gvn l ps = 0 → ∀ p, p ∈ ps → isC l p.cls = true ∧ (chk false 1 4096 p.ty).1 = 0
  | [], _, p, hp => by cases hp
  | q :: r, h, p, hp => by
    rw [gvn] at h
    cases h1 : isC l q.cls
    · rw [h1] at h; exact absurd (show (6 : Int) = 0 from h) (by decide)
    · cases h2 : ((chk false 1 4096 q.ty).1 != 0)
      · rw [h1, h2] at h
        rcases List.mem_cons.1 hp with rfl | hp
        · exact ⟨h1, by simpa using h2⟩
        · exact gvn_mem h p hp
      · rw [h1, h2] at h; exact absurd h (by simpa using h2)
theorem gvn_vp {l : List Cl} {ps : List Pr} (h : gvn l ps = 0) : ∀ p, p ∈ ps → VP p := fun p hp => by
  have := (gvn_mem h p hp).2
  exact ⟨U2.chk_val _ _ _ _ this, U1.chk_tsz this⟩

/-- What Entail answers. -/
def EntR (l : List Cl) (ins : List In) (hv : List Pr) (w : Pr) (e : Int) (p : Pf) : Prop :=
  (pre35 l ins hv w ≠ 0 ∧ e = pre35 l ins hv w ∧ p = noPf) ∨ (pre35 l ins hv w = 0 ∧ ∃ left', En l ins hv 4096 (.one w 1) e p left')

theorem hdv_nd : ∀ (pre r : List Tm), hdv pre r = true → (∀ a, a ∈ r → ∀ b, b ∈ pre → vof b ≠ vof a) ∧ (r.map vof).Nodup
  | pre, [], _ => ⟨fun a ha => absurd ha (by simp), List.nodup_nil⟩
  | pre, a :: r, h => by
    rw [hdv] at h
    cases h1 : (kof a != 0)
    · cases h2 : pre.any (fun b => vof b == vof a)
      · rw [h1, h2] at h
        obtain ⟨q1, q2⟩ := hdv_nd (pre ++ [a]) r h
        rw [List.any_eq_false] at h2
        refine ⟨fun c hc b hb => ?_, ?_⟩
        · rcases List.mem_cons.1 hc with rfl | hc
          · simpa using h2 b hb
          · exact q1 c hc b (by simp [hb])
        · rw [List.map_cons, List.nodup_cons]
          refine ⟨fun hm => ?_, q2⟩
          obtain ⟨c, hc, he⟩ := List.mem_map.1 hm
          exact q1 c hc a (by simp) he.symm
      · rw [h1, h2] at h; exact absurd h (by simp)
    · rw [h1] at h; exact absurd h (by simp)
theorem zip_one (q : Pr) : ∀ (xs bs : List Tm), (xs.map vof).Nodup → ∀ c : ByteArray, ((xs.zip bs).filterMap fun z => bif vof z.1 == vof q.ty then some (Pr.mk c z.2) else none).length ≤ 1
  | [], _, _, _ => by simp
  | _ :: _, [], _, _ => by simp
  | a :: xs, b :: bs, h, c => by
    rw [List.map_cons, List.nodup_cons] at h
    rw [List.zip_cons_cons, List.filterMap_cons]
    cases h1 : (vof a == vof q.ty)
    · exact zip_one q xs bs h.2 c
    · have : ((xs.zip bs).filterMap fun z => bif vof z.1 == vof q.ty then some (Pr.mk c z.2) else none) = [] := by
        rw [List.filterMap_eq_nil_iff]
        rintro ⟨x, y⟩ hz
        have hx := (List.of_mem_zip hz).1
        have hne : (vof x == vof q.ty) = false := by
          rw [beq_eq_false_iff_ne]
          intro he
          exact h.1 (List.mem_map.2 ⟨x, hx, he.trans (by simpa using h1 : vof a = vof q.ty).symm⟩)
        show (bif vof x == vof q.ty then some (Pr.mk c y) else none) = none
        rw [hne]; rfl
      show (_ :: _ : List Pr).length ≤ 1
      simp [this]
theorem needs_len {x : In} (h : headed x.hd = true) (t : Tm) : (needs x t).length ≤ x.pre.length := by
  have hnd : ((lof x.hd).map vof).Nodup := by
    unfold headed at h
    cases h1 : (kof x.hd != 1)
    · rw [h1] at h; exact (hdv_nd [] _ h).2
    · rw [h1] at h; exact absurd h (by simp)
  unfold needs
  have : ∀ ps : List Pr, (ps.flatMap (need1 x t)).length ≤ ps.length := fun ps => by
    induction ps with
    | nil => simp
    | cons p r ih =>
      rw [List.flatMap_cons, List.length_append, List.length_cons]
      have := zip_one p (lof x.hd) (lof t) hnd p.cls
      unfold need1 at *
      omega
  exact this _
theorem insA_mem {l : List Cl} : ∀ {r pre : List In}, insA l pre r = 0 → ∀ x, x ∈ r → ∃ pre', ins1 l pre' x = 0
  | [], _, _, x, hx => by cases hx
  | y :: r, pre, h, x, hx => by
    rw [insA] at h
    cases h1 : (ins1 l pre y != 0)
    · rw [h1] at h
      rcases List.mem_cons.1 hx with rfl | hx
      · exact ⟨pre, by simpa using h1⟩
      · exact insA_mem h x hx
    · rw [h1] at h; exact absurd h (by simpa using h1)
/-- What is known of checked instances. -/
theorem inst_ok {l : List Cl} {ins : List In} (h : inst l ins = 0) : chkC l = 0 ∧ ins.length ≤ 4096 ∧ ∀ x, x ∈ ins → isC l x.cls = true ∧ (chk false 1 4096 x.hd).1 = 0 ∧ headed x.hd = true ∧ prs l x.hd x.pre = 0 := by
  rw [inst] at h
  cases h1 : (chkC l != 0)
  · cases h2 : decide ((ins.length : Int) > 4096)
    · rw [h1, h2] at h
      refine ⟨by simpa using h1, by have : ¬ ((ins.length : Int) > 4096) := of_decide_eq_false h2; omega, fun x hx => ?_⟩
      obtain ⟨pre, hp⟩ := insA_mem h x hx
      rw [ins1] at hp
      cases a1 : isC l x.cls
      · rw [a1] at hp; exact absurd (show (6 : Int) = 0 from hp) (by decide)
      · cases a2 : ((chk false 1 4096 x.hd).1 != 0)
        · cases a3 : headed x.hd
          · rw [a1, a2, a3] at hp; exact absurd (show (3 : Int) = 0 from hp) (by decide)
          · cases a4 : (prs l x.hd x.pre != 0)
            · exact ⟨rfl, by simpa using a2, rfl, by simpa using a4⟩
            · rw [a1, a2, a3, a4] at hp; exact absurd hp (by simpa using a4)
        · rw [a1, a2] at hp; exact absurd hp (by simpa using a2)
    · rw [h1, h2] at h; exact absurd (show (2 : Int) = 0 from h) (by decide)
  · rw [h1] at h; exact absurd h (by simpa using h1)
theorem inst_pl {l : List Cl} {ins : List In} (h : inst l ins = 0) (hp : ∀ x, x ∈ ins → x.pre.length * 72 ≤ 140737488355328) : ∀ x, x ∈ ins → x.pre.length * 72 ≤ 140737488355328 ∧ tsz x.hd ≤ 4096 ∧ ∀ t, (needs x t).length ≤ x.pre.length := fun x hx => by
  obtain ⟨-, h2, h3, -⟩ := (inst_ok h).2.2 x hx
  exact ⟨hp x hx, U1.chk_tsz h2, needs_len h3⟩
end Go.Am.U3

/- Entail, as the machine runs it. Conditions: none. -/
namespace Go.Am.U3
open Go.Am.Un Go.So
open Go.Am.U1 (NoX drop_at ne_a ne_b ne_c ne_d avr tyw tyc_w tycP isl_tycs len_tszs tsz_pos)
open Go.Am.U2 (Xb)
set_option maxRecDepth 100000
set_option linter.unusedSimpArgs false
attribute [local go_sem] wseq COp.isStore wreg wdreg wret wskip wexit wblock wcnd cnd_t cnd_f then_n then_x then_r catch_n rnd_n rnd_x rnd_r catch_x catch_r wo_nil wo_grd grdO_t grdO_f wo_ops stpO wr_nil wr_alloc wr_guards grdR_t grdR_f wr_ops stpR evAllocs evOp env0_app eput_some eput_none eset_app Opd.ev wantedA faddrA snew_obj snew_size sput_obj sput_size av_cells av_one av_strip av_still unA eqbA fillA fldA lensA mmA mm2 mmFold List.getD_cons_zero List.getD_cons_succ List.getD_nil List.length_cons List.length_nil List.drop_zero List.drop_succ_cons List.take_succ_cons List.take_zero List.map_cons List.map_nil List.set_cons_zero List.set_cons_succ List.all_cons List.all_nil List.getElem?_cons_zero List.getElem?_cons_succ List.nil_append List.cons_append Nat.zero_add Nat.add_zero beq_self_eq_true bt bf Bool.not_true Bool.not_false Bool.and_true Bool.true_and Bool.and_false Bool.false_and and_self and_true true_and n0 n1 n2 n3 n4 m0 m1 m2 m3 c1 retA resAs resA undefA Option.map_some Option.map_none

set_option maxHeartbeats 16000000 in
theorem ent_law {lv iv hvv : AV} {l : List Cl} {ins : List In} {hv : List Pr} (hl : ISl clc lv l) (hi : ISl inc iv ins) (hhv : ISl prc hvv hv) (hkn : Known hvv) (hbl : l.length ≤ 8796093022208) (hbh : hv.length ≤ 8796093022208) (hbi : ins.length ≤ 8796093022208) (hs : ∀ c, c ∈ l → c.sup.length ≤ 8796093022208)
    (hpl : ∀ x, x ∈ ins → x.pre.length * 72 ≤ 140737488355328) {w : Pr} {e : Int} {p : Pf} (h : EntR l ins hv w e p) (s : St) :
    WC T Xb 35 [lv, iv, hvv, .agg (prc w)] s (fun r s' => r = .tup [.agg (pfc p), .int .i64 e] ∧ Keep s s') := by
  have hX : NoX Xb := U2.Xb_none
  refine WC_fn cf35 (hX 35 (by decide)) T35 (by simp [cf35]) ?_
  have hil := fun S => inst_law hX hl hi hs hbl hbi (fun x hx => by have := hpl x hx; omega) S
  have hhl := hhv.len
  have hpw : pfc noPf = [.int .i64 0, .int .i64 0, .sl [] 0 false none] := nop_c
  obtain ⟨S1, hS1⟩ : ∃ S1, S1 = (s.new (.cells (prc w))).new (.cells [.int .i64 0, .int .i64 0, .nils]) := ⟨_, rfl⟩
  have hk1 : Keep s S1 := by rw [hS1]; exact ((Keep.refl s).new' _).new' _
  have o7 : S1.obj s.size = some (.cells (prc w)) := by rw [hS1, new_ne (by simp [St.new])]; exact new_eq rfl
  have o8 : S1.obj (s.size + 1) = some (.cells [.int .i64 0, .int .i64 0, .nils]) := by rw [hS1]; exact new_eq rfl
  have z1 : S1.size = s.size + 2 := by rw [hS1]; rfl
  have o7' := o7
  simp only [prc] at hS1 o7' ⊢
  simp only [cf35, Nat.le_add_left, go_sem, ↓reduceIte, reduceCtorEq, Nat.reduceEqDiff, Nat.reduceAdd, Nat.reduceSub, Nat.reduceMul, Nat.reduceLeDiff, Nat.reduceLT, loadA, rdCells, storeA, setAt, binA]
  rw [← hS1]
  refine WO_callx _ rfl ((hil S1).mono ?_)
  rintro w2 S2 ⟨rfl, hk2⟩
  have hk02 := hk1.trans hk2
  have o82 := hk2.obj (by omega) o8
  have o72 := hk2.obj (by omega) o7'
  have z2 := hk2.1
  cases hc : (inst l ins != 0)
  · cases hg : decide ((hv.length : Int) > 4096)
    · have hh4 : hv.length ≤ 4096 := by have : ¬ ((hv.length : Int) > 4096) := of_decide_eq_false hg; omega
      have hin : inst l ins = 0 := by simpa using hc
      have hpl2 := inst_pl hin hpl
      have hb4 := (inst_ok hin).2.1
      have hpre : pre35 l ins hv w = gvn l (hv ++ [w]) := by rw [pre35, hc, hg]; rfl
      simp only [hc, hhl, hg, Nat.le_add_left, go_sem, ↓reduceIte, reduceCtorEq, Nat.reduceEqDiff, Nat.reduceAdd, Nat.reduceSub, Nat.reduceMul, Nat.reduceLeDiff, Nat.reduceLT, loadA, rdCells, storeA, setAt, binA]
      refine W_dreg ?_
      simp only [wt_ops, stpT, Tr, o72, wt_nil, chk1, avr, Bool.or_true, Nat.le_add_left, go_sem, ↓reduceIte, reduceCtorEq, Nat.reduceEqDiff, Nat.reduceAdd, Nat.reduceSub, Nat.reduceMul, Nat.reduceLeDiff, Nat.reduceLT, loadA, rdCells, storeA, setAt, binA]
      refine WT_callx _ rfl ((clone_pr hX hhv hkn (by omega) S2).mono ?_)
      rintro cv S3 ⟨hk3, hcv⟩
      have o73 := hk3.obj (by omega) o72
      have hu : ISl prc (.sl (prc w) 1 true none) [w] := Or.inr ⟨true, none, by simp⟩
      obtain ⟨v', S4, hap, hv', hk4⟩ := hcv S3 (Keep.refl S3) _ w hu
      have hln := hv'.len
      simp only [prc] at hap
      simp only [wt_ops, stpT, Tr, o72, o73, hap, hln, wt_nil, chk1, avr, Bool.or_true, Nat.le_add_left, go_sem, ↓reduceIte, reduceCtorEq, Nat.reduceEqDiff, Nat.reduceAdd, Nat.reduceSub, Nat.reduceMul, Nat.reduceLeDiff, Nat.reduceLT, loadA, rdCells, storeA, setAt, binA]
      have hk04 := hk4
      have hk24 : Keep S2 S4 := hk4
      have hfl : (hv ++ [w]).length = hv.length + 1 := by simp
      refine W_loop_nat (fun k e0' S => ∃ i, i + k = (hv ++ [w]).length ∧ e0' 0 = lv ∧ e0' 1 = iv ∧ e0' 2 = hvv ∧ e0' 7 = .ptr s.size 0 ∧ e0' 8 = .ptr (s.size + 1) 0 ∧ e0' 32 = v' ∧ e0' 33 = .int .i64 (hv ++ [w]).length ∧ e0' 34 = .int .i64 i ∧ gvn l (hv ++ [w]) = gvn l ((hv ++ [w]).drop i) ∧ Keep S2 S) ?_ (hv ++ [w]).length _ _ ⟨0, by omega, ?_, ?_, ?_, ?_, ?_, ?_, ?_, ?_, by simp, hk24⟩
      · rintro k en S ⟨i, hik, e0, e1, e2, e7, e8, e32, e33, e34, hf, hk⟩
        have o8S := hk.obj (by omega) o82
        have o7S := hk.obj (by omega) o72
        have zS := hk.1
        by_cases hin2 : i < (hv ++ [w]).length
        · obtain ⟨x, hx⟩ : ∃ x, (hv ++ [w])[i]? = some x := ⟨_, List.getElem?_eq_getElem hin2⟩
          have hd : decide ((i : Int) < ((hv ++ [w]).length : Int)) = true := by simp only [decide_eq_true_eq]; omega
          have hat := hv'.at prcP.len hx
          have hfx : gvn l ((hv ++ [w]).drop i) = bif !(isC l x.cls) then 6 else bif ((chk false 1 4096 x.ty).1 != 0) then (chk false 1 4096 x.ty).1 else gvn l ((hv ++ [w]).drop (i + 1)) := by rw [drop_at hx, gvn]
          have hres : ∀ r, gvn l ((hv ++ [w]).drop i) = r → r ≠ 0 → e = r ∧ p = noPf := fun r h1 h2 => by
            have h3 : pre35 l ins hv w = r := by rw [hpre, hf, h1]
            rcases h with ⟨-, he, hp⟩ | ⟨h0, -⟩
            · exact ⟨he.trans h3, hp⟩
            · exact absurd (h3.symm.trans h0) h2
          simp only [prc, List.cons_append, List.nil_append] at hat
          obtain ⟨S5, hS5⟩ : ∃ S5, S5 = (S.new (.cells [.str ⟨#[]⟩, .int .i64 0, .str ⟨#[]⟩, .int .i64 0, .nils])).put S.size (some (.cells [.str x.cls, .int .i64 (kof x.ty), .str (nof x.ty), .int .i64 (vof x.ty), .sl (tycs (lof x.ty)) (lof x.ty).length false none])) := ⟨_, rfl⟩
          have hkS : Keep S S5 := by rw [hS5]; exact ((Keep.refl S).new' _).put' (Nat.le_refl _) _
          have o5 : S5.obj S.size = some (.cells [.str x.cls, .int .i64 (kof x.ty), .str (nof x.ty), .int .i64 (vof x.ty), .sl (tycs (lof x.ty)) (lof x.ty).length false none]) := by rw [hS5, put_eq]
          have z5 : S.size < S5.size := by rw [hS5]; simp [St.new, St.put]
          simp only [cf35_l0, e0, e1, e2, e7, e8, e32, e33, e34, hd, hat, Nat.le_add_left, go_sem, ↓reduceIte, reduceCtorEq, Nat.reduceEqDiff, Nat.reduceAdd, Nat.reduceSub, Nat.reduceMul, Nat.reduceLeDiff, Nat.reduceLT, loadA, rdCells, storeA, setAt, binA]
          rw [← hS5]
          refine WO_callx _ rfl ((find_law hX hl hbl x.cls S5).mono ?_)
          rintro w3 S6 ⟨rfl, hk6⟩
          have o6 := hk6.obj z5 o5
          have z6 := hk6.lt z5
          have hk26 := (hk.trans hkS).trans hk6
          simp only [clc, e0, e1, e2, e7, e8, e32, e33, e34, Nat.le_add_left, go_sem, ↓reduceIte, reduceCtorEq, Nat.reduceEqDiff, Nat.reduceAdd, Nat.reduceSub, Nat.reduceMul, Nat.reduceLeDiff, Nat.reduceLT, loadA, rdCells, storeA, setAt, binA]
          obtain ⟨S7, hS7⟩ : ∃ S7, S7 = (S6.new (.cells [.str ⟨#[]⟩, .nils, .nils])).put S6.size (some (.cells [.str (fnd l x.cls).name, .sl ((fnd l x.cls).sup.flatMap scc) (fnd l x.cls).sup.length false none, .sl (fnd l x.cls).ops (fnd l x.cls).opn false none])) := ⟨_, rfl⟩
          have hk67 : Keep S6 S7 := by rw [hS7]; exact ((Keep.refl S6).new' _).put' (Nat.le_refl _) _
          rw [← hS7]
          have o7x := hk67.obj z6 o6
          have z7 := hk67.lt z6
          have hk27 := hk26.trans hk67
          have o87 := hk27.obj (by omega) o82
          have z27 := hk27.1
          cases hq : isC l x.cls
          · obtain ⟨rfl, rfl⟩ := hres 6 (by rw [hfx, hq]; rfl) (by decide)
            simp only [hq, o87, e8, Nat.le_add_left, setAt, go_sem, ↓reduceIte, reduceCtorEq, Nat.reduceEqDiff, Nat.reduceAdd, Nat.reduceSub, Nat.reduceMul, Nat.reduceLeDiff, Nat.reduceLT, loadA, rdCells, storeA, setAt, binA]
            exact ⟨by simp, _, rfl, by rw [nop_c], (hk02.trans hk27).put' (by omega) _⟩
          · have hck := fun S => (U1.check18_law hX x.ty _ (isl_tycs (lof x.ty)) S).sub U2.sub |>.sub sub
            simp only [tyw] at hck
            simp only [hq, o7x, e0, e1, e2, e7, e8, e32, e33, e34, Nat.le_add_left, go_sem, ↓reduceIte, reduceCtorEq, Nat.reduceEqDiff, Nat.reduceAdd, Nat.reduceSub, Nat.reduceMul, Nat.reduceLeDiff, Nat.reduceLT, loadA, rdCells, storeA, setAt, binA]
            refine WO_callx _ rfl ((hck _).mono ?_)
            rintro w4 S8 ⟨rfl, hk78⟩
            have o88 := hk78.obj (by omega) o87
            have z78 := hk78.1
            cases hch : ((chk false 1 4096 x.ty).1 != 0)
            · simp only [hch, e0, e1, e2, e7, e8, e32, e33, e34, wrapc (n := i) (by omega), Nat.le_add_left, go_sem, ↓reduceIte, reduceCtorEq, Nat.reduceEqDiff, Nat.reduceAdd, Nat.reduceSub, Nat.reduceMul, Nat.reduceLeDiff, Nat.reduceLT, loadA, rdCells, storeA, setAt, binA]
              exact ⟨k - 1, by omega, i + 1, by omega, rfl, by rw [hf, hfx, hq, hch]; rfl, hk27.trans hk78⟩
            · obtain ⟨rfl, rfl⟩ := hres _ rfl (by rw [hfx, hq, hch]; simpa using hch)
              simp only [hch, o88, e0, e1, e2, e7, e8, e32, e33, e34, Nat.le_add_left, setAt, go_sem, ↓reduceIte, reduceCtorEq, Nat.reduceEqDiff, Nat.reduceAdd, Nat.reduceSub, Nat.reduceMul, Nat.reduceLeDiff, Nat.reduceLT, loadA, rdCells, storeA, setAt, binA]
              exact ⟨by simp, _, rfl, by rw [nop_c, hfx, hq, hch]; rfl, ((hk02.trans hk27).trans hk78).put' (by omega) _⟩
        · have hd : decide ((i : Int) < ((hv ++ [w]).length : Int)) = false := by simp only [decide_eq_false_iff_not]; omega
          have hg0 : gvn l (hv ++ [w]) = 0 := by rw [hf, List.drop_eq_nil_of_le (by omega), gvn]
          have hvp := gvn_vp hg0
          obtain ⟨left', hrun⟩ : ∃ left', En l ins hv 4096 (.one w 1) e p left' := by
            rcases h with ⟨h0, -⟩ | ⟨-, h⟩
            · exact absurd (hpre.trans hg0) h0
            · exact h
          have hwp := hvp w (by simp)
          have hen := fun (lf : Nat) (S : St) (a : S.obj lf = some (.cells [.int .i64 4096])) (b : lf < S.size) => en_law hl hi hhv hbl hbh hs (fun q hq => hvp q (by simp [hq])) hb4 hpl2 (lf := lf) hrun (by decide) (by decide) hwp (by decide) (by decide) S a b
          simp only [prc] at hen
          have n7 : (s.size = S.size) = False := eq_false (by omega)
          obtain ⟨S9, hS9⟩ : ∃ S9, S9 = (S.new (.cells [.int .i64 0])).put S.size (some (.cells [.int .i64 4096])) := ⟨_, rfl⟩
          have hk9 : Keep S S9 := by rw [hS9]; exact ((Keep.refl S).new' _).put' (Nat.le_refl _) _
          have o9 : S9.obj S.size = some (.cells [.int .i64 4096]) := by rw [hS9, put_eq]
          have z9 : S.size < S9.size := by rw [hS9]; simp [St.new, St.put]
          simp only [cf35_l0, e0, e1, e2, e7, e8, e32, e33, e34, hd, n7, o7S, Nat.le_add_left, setAt, go_sem, ↓reduceIte, reduceCtorEq, Nat.reduceEqDiff, Nat.reduceAdd, Nat.reduceSub, Nat.reduceMul, Nat.reduceLeDiff, Nat.reduceLT, loadA, rdCells, storeA, setAt, binA]
          rw [← hS9]
          refine WO_callx _ rfl ((hen S.size S9 o9 z9).mono ?_)
          rintro w9 S10 ⟨rfl, -, hk10⟩
          have o810 : S10.obj (s.size + 1) = some (.cells [.int .i64 0, .int .i64 0, .nils]) := by rw [hk10.2 _ (by omega) (by omega)]; exact hk9.obj (by omega) o8S
          have hz10 := hk10.1
          have hst : (pfc p).map AV.strip = pfc p := by have := pfcP.strips [p]; simpa using this
          rw [pfc_w] at hst ⊢
          simp only [o810, hst, e8, Nat.le_add_left, setAt, go_sem, ↓reduceIte, reduceCtorEq, Nat.reduceEqDiff, Nat.reduceAdd, Nat.reduceSub, Nat.reduceMul, Nat.reduceLeDiff, Nat.reduceLT, loadA, rdCells, storeA, setAt, binA]
          refine ⟨by simp, _, rfl, rfl, by simp only [St.put]; have := hk9.1; omega, fun j hj => ?_⟩
          rw [put_ne (by omega), hk10.2 j (by have := hk9.1; omega) (by omega), hk9.2 j (by omega)]
          exact (hk02.trans hk).2 j hj
      · simp only [go_sem, ↓reduceIte, reduceCtorEq, Nat.reduceEqDiff, Nat.reduceAdd, Nat.reduceSub, Nat.reduceMul, Nat.reduceLeDiff, Nat.reduceLT, loadA, rdCells, storeA, setAt, binA]
      · simp only [go_sem, ↓reduceIte, reduceCtorEq, Nat.reduceEqDiff, Nat.reduceAdd, Nat.reduceSub, Nat.reduceMul, Nat.reduceLeDiff, Nat.reduceLT, loadA, rdCells, storeA, setAt, binA]
      · simp only [go_sem, ↓reduceIte, reduceCtorEq, Nat.reduceEqDiff, Nat.reduceAdd, Nat.reduceSub, Nat.reduceMul, Nat.reduceLeDiff, Nat.reduceLT, loadA, rdCells, storeA, setAt, binA]
      · simp only [go_sem, ↓reduceIte, reduceCtorEq, Nat.reduceEqDiff, Nat.reduceAdd, Nat.reduceSub, Nat.reduceMul, Nat.reduceLeDiff, Nat.reduceLT, loadA, rdCells, storeA, setAt, binA]
      · simp only [go_sem, ↓reduceIte, reduceCtorEq, Nat.reduceEqDiff, Nat.reduceAdd, Nat.reduceSub, Nat.reduceMul, Nat.reduceLeDiff, Nat.reduceLT, loadA, rdCells, storeA, setAt, binA]
      · simp only [go_sem, ↓reduceIte, reduceCtorEq, Nat.reduceEqDiff, Nat.reduceAdd, Nat.reduceSub, Nat.reduceMul, Nat.reduceLeDiff, Nat.reduceLT, loadA, rdCells, storeA, setAt, binA]
      · simp only [go_sem, ↓reduceIte, reduceCtorEq, Nat.reduceEqDiff, Nat.reduceAdd, Nat.reduceSub, Nat.reduceMul, Nat.reduceLeDiff, Nat.reduceLT, loadA, rdCells, storeA, setAt, binA]
      · simp only [go_sem, ↓reduceIte, reduceCtorEq, Nat.reduceEqDiff, Nat.reduceAdd, Nat.reduceSub, Nat.reduceMul, Nat.reduceLeDiff, Nat.reduceLT, loadA, rdCells, storeA, setAt, binA]; rfl
    · obtain ⟨rfl, rfl⟩ : e = 2 ∧ p = noPf := by
        have h3 : pre35 l ins hv w = 2 := by rw [pre35, hc, hg]; rfl
        rcases h with ⟨-, he, hp⟩ | ⟨h0, -⟩
        · exact ⟨he.trans h3, hp⟩
        · exact absurd (h3.symm.trans h0) (by decide)
      simp only [hc, hhl, hg, o82, Nat.le_add_left, setAt, go_sem, ↓reduceIte, reduceCtorEq, Nat.reduceEqDiff, Nat.reduceAdd, Nat.reduceSub, Nat.reduceMul, Nat.reduceLeDiff, Nat.reduceLT, loadA, rdCells, storeA, setAt, binA]
      exact ⟨by simp, _, rfl, by rw [nop_c], hk02.put' (by omega) _⟩
  · obtain ⟨rfl, rfl⟩ : e = inst l ins ∧ p = noPf := by
      have h3 : pre35 l ins hv w = inst l ins := by rw [pre35, hc]; rfl
      rcases h with ⟨-, he, hp⟩ | ⟨h0, -⟩
      · exact ⟨he.trans h3, hp⟩
      · exact absurd (h3.symm.trans h0) (by simpa using hc)
    simp only [hc, o82, Nat.le_add_left, setAt, go_sem, ↓reduceIte, reduceCtorEq, Nat.reduceEqDiff, Nat.reduceAdd, Nat.reduceSub, Nat.reduceMul, Nat.reduceLeDiff, Nat.reduceLT, loadA, rdCells, storeA, setAt, binA]
    exact ⟨by simp, _, rfl, by rw [nop_c], hk02.put' (by omega) _⟩
end Go.Am.U3
