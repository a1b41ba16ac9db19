/- Extend and Unify over the unifier's runs. Conditions: none. -/
import Derived.Test.YtfleakoephmgaaaDoorUtI
import Derived.Test.YtfleakoephmgaaaDoorUnN
import Derived.Test.YtfleakoephmgaaaDoorUoM
import Derived.Test.YtfleakoephmgaaaDoorUoB
set_option linter.unusedSimpArgs false
set_option linter.unusedVariables false
namespace Go.Am.U1
open Go.Am.Un
set_option maxRecDepth 100000
set_option linter.unusedSimpArgs false
attribute [local go_sem] wseq COp.isStore wreg wdreg wret wskip wexit wblock wcnd cnd_t cnd_f then_n then_x then_r catch_n rnd_n rnd_x rnd_r catch_x catch_r wo_nil wo_grd grdO_t grdO_f wo_ops stpO wr_nil wr_alloc wr_guards grdR_t grdR_f wr_ops stpR evAllocs evOp env0_app eput_some eput_none eset_app Opd.ev wantedA faddrA snew_obj snew_size sput_obj sput_size av_cells av_one av_strip av_still unA eqbA fillA fldA lensA mmA mm2 mmFold List.getD_cons_zero List.getD_cons_succ List.getD_nil List.length_cons List.length_nil List.drop_zero List.drop_succ_cons List.take_succ_cons List.take_zero List.map_cons List.map_nil List.set_cons_zero List.set_cons_succ List.all_cons List.all_nil List.getElem?_cons_zero List.getElem?_cons_succ List.nil_append List.cons_append Nat.zero_add Nat.add_zero beq_self_eq_true bt bf Bool.not_true Bool.not_false Bool.and_true Bool.true_and Bool.and_false Bool.false_and and_self and_true true_and n0 n1 n2 n3 n4 m0 m1 m2 m3 c1 retA resAs resA undefA Option.map_some Option.map_none
variable {X : Ext}

end Go.Am.U1

/- Runs of the unifier over rows of labels. Conditions: none. -/
namespace Go.Am.U2
open Go.Am.Un
open Go.Am.U1 (vtm vars vars_len vars_at WalkTo ExR TlE Un Jb BdR OC szd Fine Wt JWt Acy wt_vtm Wts wt_le)
set_option linter.unusedSimpArgs false

theorem walk_v {i : Nat} (h : i < 12) : WalkTo (vars 12) (vtm i) (vtm i) := U1.walk_vtm h
theorem walk_num (ss : List Tm) : WalkTo ss numT numT := .con _ (by simp [numT, kof])
theorem fine_vars : Fine (vars 12) := by
  refine ⟨⟨fun _ => 0, ⟨fun i u hi => ?_, fun i u hi => ?_⟩⟩, by rw [vars_len]; decide⟩
  · have h : i < 12 := by have := (List.getElem?_eq_some_iff.1 hi).1; rwa [vars_len] at this
    rw [vars_at h] at hi; cases hi
    rw [vars_len]; exact wt_vtm h
  · have h : i < 12 := by have := (List.getElem?_eq_some_iff.1 hi).1; rwa [vars_len] at this
    rw [vars_at h] at hi; cases hi
    exact Or.inl ⟨rfl, rfl⟩
theorem wt_num : Wt 12 numT := by rw [numT, Wt]; simp [Wts]
end Go.Am.U2

/- Rows of labels: the check, the variables, the size, the normal form. Conditions: none. -/
namespace Go.Am.U2
open Go.Am.Un Go.So
open Go.Am.U1 (vtm)
set_option linter.unusedSimpArgs false

/-- What stands at a label. -/
def ElT (t : Tm) : Prop := t = numT ∨ ∃ i, i < 12 ∧ t = vtm i
theorem chk_el {t : Tm} (h : ElT t) {d left : Int} (hl : 1 ≤ left) (hd : d ≤ 400) : chk false d left t = (0, left - 1) := by
  rcases h with rfl | ⟨i, hi, rfl⟩
  · rw [numT, chk, if_neg (by omega), if_neg (by omega), if_neg (by simp [szK]), if_neg (by simp), if_neg (by simp), chks]
  · rw [vtm, chk, if_neg (by omega), if_neg (by omega), if_neg (by simp [szK]), if_neg (by simp), if_neg (by omega), chks]
theorem ltB_tot {a b : ByteArray} (h1 : ltB a b = false) (h2 : ltB b a = false) : a = b := by
  have h := bl_tri a.toList b.toList
  unfold ltB at h1 h2
  rw [h1, h2] at h
  refine bts_inj (beq_iff_eq.1 ?_)
  simpa using h
end Go.Am.U2

/- The sizes of what a substitution makes; the first runs of the unifier's laws. Conditions: none. -/
namespace Go.Am.U2
open Go.Am.Un Go.So
open Go.Am.U1 (vtm vars vars_len vars_at vtm_c WalkTo Ap Aps Acy Wt Wts Un BdR OC Small szd szd_0 Fine JWt Self TyOk CkOk Le ap_con ap_det wt_var self_ap grow two ExR tsz_pos)
set_option linter.unusedSimpArgs false

theorem bd_small {ss ss' : List Tm} {i : Nat} {t : Tm} {e : Int} (h : BdR ss i t e ss') (he : e = 0) (hs : Small ss) : Small ss' := by
  rcases h with ⟨-, -, -, rfl⟩ | ⟨-, -, rfl, -⟩ | ⟨-, -, h, rfl⟩
  · exact hs
  · cases he
  · exact szd_0.1 (h.symm.trans he)
theorem ex_small {l : ByteArray} {z : Int} {ss ss' : List Tm} {r t q : Tm} {e : Int} (h : ExR l z ss r e t q ss') : e = 0 → Small ss → Small ss' := by
  induction h with
  | cyc => exact fun h => by cases h
  | large => exact fun h => by cases h
  | new => exact fun h _ => szd_0.1 h
  | stop => exact fun h => by cases h
  | here => exact fun _ h => h
  | there r m v x y e t q ss' hw hm h ih => exact ih
theorem un_small {ss ss' : List Tm} {j : U1.Jb} {e : Int} (h : Un ss j e ss') : e = 0 → Small ss → Small ss' := by
  induction h with
  | bl ss a b b' i e ss' wa wb h => exact bd_small h
  | br ss a b a' i e ss' wa ha wb h => exact bd_small h
  | row ss a b b' n v x y e ss' wa wb hb h ih => exact ih
  | bad => exact fun h => by cases h
  | args ss a b k n n' v v' l l' e ss' wa wb hk hr hn hl' h ih => exact ih
  | nil => exact fun _ h => h
  | ok ss ss1 ss2 a b l m e h hs ih1 ih2 => exact fun he hs => ih2 he (ih1 rfl hs)
  | fail ss ss1 a b l m e h he hl' ih => exact fun h => absurd h he
  | exf ss ss1 n v x y b t q z e ht h he => exact fun h => absurd h he
  | hdf ss ss1 ss2 n v x y b t q z e ht h h1 he ih => exact fun h => absurd h he
  | rok ss ss1 ss2 ss3 n v x y b t q z e ht h h1 h2 ih1 ih2 => exact fun he hs => ih2 he (ih1 rfl (ex_small h rfl hs))

mutual
theorem ap_wt {ss : List Tm} {rk : Nat → Nat} (hac : Acy ss rk) : ∀ {t A : Tm}, Ap ss t A → Wt ss.length t → Wt ss.length A
  | _, _, .self t u i h hv hi hu hw, hw2 => hw2
  | _, _, .step t u A i h hv hi hn hr, _ => ap_wt hac hr (hac.wt i u hi)
  | _, _, .con k n v l L hk hs, hw2 => by
    rw [Wt] at hw2 ⊢
    have hl := U1.aps_len hs
    obtain ⟨h1, h2, h3, h4, h5, h6, h7, h8, h9, h10⟩ := hw2
    exact ⟨h1, h2, fun h => absurd h hk, h4, fun h => hl.trans (h5 h), fun h => hl.trans (h6 h), fun h => hl.trans (h7 h), fun h => hl.trans (h8 h), by omega, aps_wt hac hs h10⟩
theorem aps_wt {ss : List Tm} {rk : Nat → Nat} (hac : Acy ss rk) : ∀ {l L : List Tm}, Aps ss l L → Wts ss.length l → Wts ss.length L
  | _, _, .nil, h => h
  | _, _, .cons a A l L h hs, hw => by
    rw [Wts] at hw ⊢
    exact ⟨ap_wt hac h hw.1, aps_wt hac hs hw.2⟩
end
mutual
theorem ap_tsz {ss : List Tm} (hsm : Small ss) : ∀ {t A : Tm}, Ap ss t A → Wt ss.length t → tsz A ≤ 4096 * tsz t
  | _, _, .self t u i h hv hi hu hw, _ => by omega
  | _, _, .step t u A i h hv hi hn hr, hw => by
    obtain ⟨j, hj, rfl⟩ := wt_var hw h
    have := hsm j A hj (.step _ u A i h hv hi hn hr)
    have := tsz_pos (vtm j)
    omega
  | _, _, .con k n v l L hk hs, hw => by
    rw [Wt] at hw
    have := aps_tsz hsm hs hw.2.2.2.2.2.2.2.2.2
    rw [tsz, tsz]
    omega
theorem aps_tsz {ss : List Tm} (hsm : Small ss) : ∀ {l L : List Tm}, Aps ss l L → Wts ss.length l → tszs L ≤ 4096 * tszs l
  | _, _, .nil, _ => by simp [tszs]
  | _, _, .cons a A l L h hs, hw => by
    rw [Wts] at hw
    have h1 := ap_tsz hsm h hw.1
    have h2 := aps_tsz hsm hs hw.2
    rw [tszs, tszs]
    omega
end

theorem ap_vars {i : Nat} (hi : i < 12) {A : Tm} (h : Ap (vars 12) (vtm i) A) : A = vtm i :=
  ap_det h (.self _ (vtm i) i rfl rfl (vars_at hi) rfl rfl)
theorem small_vars : Small (vars 12) := fun i A hi h => by
  rw [vars_len] at hi
  rw [ap_vars hi h, vtm, tsz, tszs]; omega
theorem ty_vtm {i N : Nat} (hi : i < 12) (hN : i < N) : TyOk N (vtm i) := by
  refine ⟨?_, ?_⟩
  · rw [show decide (kof (vtm i) ≥ 4) = false from rfl, U1.chk_vtm hi]
  · rw [vtm, fre, if_pos rfl]; simp; omega
theorem ty_num (N : Nat) : TyOk N numT := by
  refine ⟨?_, ?_⟩
  · rw [show decide (kof numT ≥ 4) = false from rfl, chk_el (Or.inl rfl) (by omega) (by omega)]
  · rw [numT, fre]; simp [fres]
theorem ck_vars : CkOk (vars 12) := by
  refine ⟨by rw [vars_len]; decide, fun i u hu => ?_, fine_vars.1, small_vars⟩
  have hi : i < 12 := by have := (List.getElem?_eq_some_iff.1 hu).1; rwa [vars_len] at this
  rw [vars_at hi] at hu; cases hu
  exact ty_vtm hi (by rw [vars_len]; exact hi)

theorem not_occ_num (x : Int) : ¬ Occ x numT := by rw [numT, Occ]; simp [Occs]
theorem ap_num {ss : List Tm} {A : Tm} (h : Ap ss numT A) : A = numT := by
  obtain ⟨L, rfl, hL⟩ := ap_con (by decide) h
  cases hL; rfl
theorem bd_num {i : Nat} (hi : i < 12) : BdR (vars 12) i numT 0 ((vars 12).set i numT) := by
  have hn : ¬ (kof numT = 0 ∧ vof numT = (i : Int)) := by simp [numT, kof]
  refine Or.inr (Or.inr ⟨hn, fun ⟨B, h1, h2⟩ => by rw [ap_num h1] at h2; exact not_occ_num _ h2, (szd_0.2 fun j A hj hA => ?_).symm, rfl⟩)
  rw [List.length_set, vars_len] at hj
  have hl : i < (vars 12).length := by rw [vars_len]; exact hi
  by_cases hij : i = j
  · subst hij
    rw [ap_num (U1.ap_bound (List.getElem?_set_self hl) hn hA), numT, tsz, tszs]; omega
  · have : A = vtm j := ap_det hA (.self _ (vtm j) j rfl rfl (by rw [List.getElem?_set_ne hij]; exact vars_at hj) rfl rfl)
    rw [this, vtm, tsz, tszs]; omega
theorem run_nv {i : Nat} (hi : i < 12) : Un (vars 12) (.un numT (vtm i)) 0 ((vars 12).set i numT) :=
  .br _ _ _ _ i 0 _ (walk_num _) (by simp [numT, kof]) (walk_v hi) (bd_num hi)
end Go.Am.U2
