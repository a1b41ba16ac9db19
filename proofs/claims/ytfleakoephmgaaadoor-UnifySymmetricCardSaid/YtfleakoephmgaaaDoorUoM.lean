/- UnifyNormal. Conditions: none. -/
import Derived.Test.YtfleakoephmgaaaDoorUoI
import Derived.Test.YtfleakoephmgaaaDoorAmWa
set_option linter.unusedSimpArgs false
set_option linter.unusedVariables false
namespace Go.Am.U2
open Go.Am.Un Go.So Go.Proofs
open Go.Am.U1 (tycP isl_tycs drop_at tyw tyc_w NoX vtm vtm_c len_tszs tsz_pos ne_a ne_b ne_c ne_d ne_e ne_f avr chks_cons chk_tsz)
set_option maxRecDepth 100000
set_option linter.unusedSimpArgs false
attribute [local go_sem] wseq COp.isStore wreg wdreg wret wskip wexit wblock wcnd cnd_t cnd_f then_n then_x then_r catch_n rnd_n rnd_x rnd_r catch_x catch_r wo_nil wo_grd grdO_t grdO_f wo_ops stpO wr_nil wr_alloc wr_guards grdR_t grdR_f wr_ops stpR evAllocs evOp env0_app eput_some eput_none eset_app Opd.ev wantedA faddrA snew_obj snew_size sput_obj sput_size av_cells av_one av_strip av_still unA eqbA fillA fldA lensA mmA mm2 mmFold List.getD_cons_zero List.getD_cons_succ List.getD_nil List.length_cons List.length_nil List.drop_zero List.drop_succ_cons List.take_succ_cons List.take_zero List.map_cons List.map_nil List.set_cons_zero List.set_cons_succ List.all_cons List.all_nil List.getElem?_cons_zero List.getElem?_cons_succ List.nil_append List.cons_append Nat.zero_add Nat.add_zero beq_self_eq_true bt bf Bool.not_true Bool.not_false Bool.and_true Bool.true_and Bool.and_false Bool.false_and and_self and_true true_and n0 n1 n2 n3 n4 m0 m1 m2 m3 c1 retA resAs resA undefA Option.map_some Option.map_none
variable {X : Ext}

mutual
theorem chk_val (row : Bool) (d left : Int) : ∀ t : Tm, (chk row d left t).1 = 0 → Val t
  | .mk k n v l => by
    intro h
    rw [chk] at h
    split at h
    · simp at h
    split at h
    · simp at h
    split at h
    · simp at h
    split at h
    · simp at h
    split at h
    · simp at h
    rename_i h1 h2 h3 h4 h5
    rw [Val]
    have h31 : ¬ (szK k ≥ 0 ∧ (l.length : Int) ≠ szK k) := fun hh => h3 (Or.inl hh)
    refine ⟨by omega, by omega, fun hk => ?_, fun hk => ?_, fun hk => ?_, fun hk => ?_, fun hk => ?_, vals_of fun i t hi => chks_val k 0 (d + 1) (left - 1) l h t (List.mem_of_getElem? hi)⟩
    · subst hk; simp only [szK, if_true] at h31; omega
    · subst hk; simp [szK] at h31; omega
    · subst hk; simp [szK] at h31; omega
    · subst hk; simp [szK] at h31; simp [h31]
    · subst hk; simp [szK] at h31; omega
theorem chks_val (k : Int) (i : Nat) (d left : Int) : ∀ l : List Tm, (chks k i d left l).1 = 0 → ∀ a, a ∈ l → Val a
  | [] => fun _ a ha => by simp at ha
  | a :: r => fun h b hb => by
    rcases List.mem_cons.1 hb with hb' | hb'
    · rw [hb']; exact chk_val _ d left a (chks_cons h).1
    · exact chks_val k (i + 1) d _ r (chks_cons h).2.1 b hb'
end

theorem val_bld : ∀ (L : List Lb) (e : Tm), Val e → (∀ x, x ∈ L → Val x.2) → Val (bld L e)
  | [], e, he, _ => he
  | x :: L, e, he, hL => by
    rw [bld, Val]
    simp only [Vals]
    exact ⟨by decide, by decide, by simp, by simp, by simp, by simp, by simp, hL x (by simp), val_bld L e he fun y hy => hL y (by simp [hy]), trivial⟩
theorem val_nf : ∀ (n : Nat) (t : Tm), tsz t ≤ n → Val t → Val (nf t) := by
  intro n
  induction n with
  | zero => intro t h; have := tsz_pos t; omega
  | succ n ih =>
    intro t h hv
    obtain ⟨L, e, hs⟩ := spn_of _ t (Nat.le_refl _) hv
    obtain ⟨h1, h2, h3⟩ := spn_mem hs
    have he := spn_end hs
    rw [nf_spn hs]
    refine val_bld _ _ ?_ fun x hx => ?_
    · have hve := h3 hv
      rw [nf_oth he]
      obtain ⟨k, m, v, l⟩ := e
      rw [Val] at hve ⊢
      simp only [U1.kof_mk, U1.vof_mk, U1.lof_mk, List.length_map]
      refine ⟨hve.1, hve.2.1, hve.2.2.1, hve.2.2.2.1, hve.2.2.2.2.1, hve.2.2.2.2.2.1, hve.2.2.2.2.2.2.1, vals_of fun i t hi => ?_⟩
      obtain ⟨a, ha, rfl⟩ := List.mem_map.1 (List.mem_of_getElem? hi)
      have := tsz_mem (t := .mk k m v l) ha
      exact ih a (by omega) (val_arg (t := .mk k m v l) (h3 hv) ha)
    · rw [isort_mem] at hx
      obtain ⟨y, hy, rfl⟩ := List.mem_map.1 hx
      obtain ⟨h8, h9⟩ := h1 y hy
      exact ih y.2 (by omega) (h9 hv)

def bA : ByteArray := ⟨#[97]⟩
def bB : ByteArray := ⟨#[98]⟩
end Go.Am.U2

/- Strings in the machine, and rows of labels. Conditions: none. -/
namespace Go.Am.U2
open Go.Am.Un
open Go.Am.U1 (drop_at tyw tyc_w NoX vtm vtm_c isl_tycs ne_a ne_b ne_c ne_d ne_e ne_f)
set_option maxRecDepth 100000
set_option linter.unusedSimpArgs false
attribute [local go_sem] wseq COp.isStore wreg wdreg wret wskip wexit wblock wcnd cnd_t cnd_f then_n then_x then_r catch_n rnd_n rnd_x rnd_r catch_x catch_r wo_nil wo_grd grdO_t grdO_f wo_ops stpO wr_nil wr_alloc wr_guards grdR_t grdR_f wr_ops stpR evAllocs evOp env0_app eput_some eput_none eset_app Opd.ev wantedA faddrA snew_obj snew_size sput_obj sput_size av_cells av_one av_strip av_still unA eqbA fillA fldA lensA mmA mm2 mmFold List.getD_cons_zero List.getD_cons_succ List.getD_nil List.length_cons List.length_nil List.drop_zero List.drop_succ_cons List.take_succ_cons List.take_zero List.map_cons List.map_nil List.set_cons_zero List.set_cons_succ List.all_cons List.all_nil List.getElem?_cons_zero List.getElem?_cons_succ List.nil_append List.cons_append Nat.zero_add Nat.add_zero beq_self_eq_true bt bf Bool.not_true Bool.not_false Bool.and_true Bool.true_and Bool.and_false Bool.false_and and_self and_true true_and n0 n1 n2 n3 n4 m0 m1 m2 m3 c1 retA resAs resA undefA Option.map_some Option.map_none
variable {X : Ext}

end Go.Am.U2
