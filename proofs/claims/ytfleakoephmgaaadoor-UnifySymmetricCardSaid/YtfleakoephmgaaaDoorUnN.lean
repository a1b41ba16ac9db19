/- A part of the proof of unifySymmetric. Conditions: none. -/
import Derived.Test.YtfleakoephmgaaaDoorVbA
set_option linter.unusedSimpArgs false
set_option linter.unusedVariables false
namespace Go.Am.U1
open Go.Am.Un
set_option maxRecDepth 100000
set_option linter.unusedSimpArgs false
attribute [local go_sem] wseq COp.isStore wreg wdreg wret wskip wexit wblock wcnd cnd_t cnd_f then_n then_x then_r catch_n rnd_n rnd_x rnd_r catch_x catch_r wo_nil wo_grd grdO_t grdO_f wo_ops stpO wr_nil wr_alloc wr_guards grdR_t grdR_f wr_ops stpR evAllocs evOp env0_app eput_some eput_none eset_app Opd.ev wantedA faddrA snew_obj snew_size sput_obj sput_size av_cells av_one av_strip av_still unA eqbA fillA fldA lensA mmA mm2 mmFold List.getD_cons_zero List.getD_cons_succ List.getD_nil List.length_cons List.length_nil List.drop_zero List.drop_succ_cons List.take_succ_cons List.take_zero List.map_cons List.map_nil List.set_cons_zero List.set_cons_succ List.all_cons List.all_nil List.getElem?_cons_zero List.getElem?_cons_succ List.nil_append List.cons_append Nat.zero_add Nat.add_zero beq_self_eq_true bt bf Bool.not_true Bool.not_false Bool.and_true Bool.true_and Bool.and_false Bool.false_and and_self and_true true_and n0 n1 n2 n3 n4 m0 m1 m2 m3 c1 retA resAs resA undefA Option.map_some Option.map_none
variable {X : Ext}

theorem walk_vtm {N i : Nat} (hi : i < N) : WalkTo (vars N) (vtm i) (vtm i) := .self _ (vtm i) i rfl rfl (vars_at hi) rfl rfl

theorem clone_law (hX : NoX X) {sv : AV} {ss : List Tm} (hsv : ISl tyc sv ss) (h0 : 0 < ss.length) (hb : ss.length ≤ 5000) (s : St) : WC T X 33 [sv] s (fun v s' => v = .msl s.size 0 ss.length 4 ∧ s'.obj s.size = some (.cells (ss.flatMap tyc)) ∧ s.size < s'.size ∧ Keep s s') := by
  refine WC_fn cf33 (hX 33 (by decide)) T33 (by simp [cf33]) ?_
  have hap : ∃ v' s1, appendA s true 4 56 (.sl [] 0 true none) sv = some (v', s1) ∧ v' = .msl s.size 0 ss.length 4 ∧ s1 = s.new (.cells (ss.flatMap tyc)) := by
    have hc := hsv.contents tycP (s := s)
    refine ⟨_, _, ?_, rfl, rfl⟩
    simp only [appendA, hc, freshA]
    rw [if_neg (by omega), if_pos ⟨by simp, by omega⟩, if_pos trivial, if_pos trivial, List.nil_append, if_pos (tycP.ones ss), Nat.zero_add]
  obtain ⟨v', s1, hap, rfl, rfl⟩ := hap
  obtain ⟨m, hm⟩ : ∃ m, ss.length = m + 1 := ⟨ss.length - 1, by omega⟩
  rcases hsv with ⟨rfl, h⟩ | ⟨f, tk, rfl⟩
  · rw [h] at h0; simp at h0
  · have hen : eqnilA false false (.sl (ss.flatMap tyc) ss.length f tk) = some (.bool false) := by
      simp only [eqnilA, hm]
      simp
    simp only [cf33, hap, hen, go_sem, ↓reduceIte, reduceCtorEq, Nat.reduceEqDiff, Nat.reduceAdd, Nat.reduceSub, Nat.reduceMul, Nat.reduceLeDiff, Nat.reduceLT, loadA, rdCells, storeA, setAt, binA]
    exact ⟨by simp, _, rfl, rfl, Nat.lt_succ_self _, Keep.new _ _⟩

end Go.Am.U1

/- A part of the proof of unifySymmetric. Conditions: none. -/
namespace Go.Am.U1
open Go.Am.Un
set_option maxRecDepth 100000

theorem chk_inv {row : Bool} {d left k v : Int} {n : ByteArray} {l : List Tm} (h : (chk row d left (.mk k n v l)).1 = 0) :
    1 ≤ left ∧ 0 ≤ k ∧ k ≤ 5 ∧ (k = 0 → l = [] ∧ 0 ≤ v ∧ v < 4096) ∧ (k = 5 → l.length = 2) ∧ chk row d left (.mk k n v l) = chks k 0 (d + 1) (left - 1) l := by
  rw [chk] at h ⊢
  split at h
  · simp at h
  · rename_i h1
    split at h
    · simp at h
    · rename_i h2
      split at h
      · simp at h
      · rename_i h3
        split at h
        · simp at h
        · rename_i h4
          split at h
          · simp at h
          · rename_i h5
            rw [if_neg h1, if_neg h2, if_neg h3, if_neg h4, if_neg h5]
            have h30 : ¬ (szK k ≥ 0 ∧ (l.length : Int) ≠ szK k) := fun hh => h3 (Or.inl hh)
            refine ⟨by omega, by omega, by omega, fun hk => ⟨?_, by omega, by omega⟩, fun hk => ?_, rfl⟩
            · subst hk
              simp only [szK, if_true] at h30
              exact List.eq_nil_of_length_eq_zero (by omega)
            · subst hk
              have : szK 5 = 2 := rfl
              rw [this] at h30
              omega

theorem chks_cons {k : Int} {i : Nat} {d left : Int} {a : Tm} {r : List Tm} (h : (chks k i d left (a :: r)).1 = 0) :
    (chk (rowed k i a) d left a).1 = 0 ∧ (chks k (i + 1) d (chk (rowed k i a) d left a).2 r).1 = 0 ∧ (chks k i d left (a :: r)).2 = (chks k (i + 1) d (chk (rowed k i a) d left a).2 r).2 := by
  rw [chks] at h ⊢
  split at h
  · rename_i h2; exact absurd h h2
  · rename_i h2
    rw [if_neg h2]
    exact ⟨Classical.not_not.1 h2, h, rfl⟩

theorem mem_adds : ∀ (f out : List Int) (x : Int), x ∈ out ∨ x ∈ f → x ∈ adds out f
  | [], out, x, h => by rw [adds]; simpa using h
  | v :: r, out, x, h => by
    rw [adds]
    refine mem_adds r _ x ?_
    rcases h with h | h
    · left; split
      · exact h
      · simp [h]
    · rcases List.mem_cons.1 h with rfl | h
      · left; split
        · rename_i hc; simpa using hc
        · simp
      · exact Or.inr h
theorem mem_fres : ∀ (l : List Tm) (out : List Int) (x : Int), (x ∈ out ∨ ∃ a, a ∈ l ∧ x ∈ fre a) → x ∈ fres out l
  | [], out, x, h => by rw [fres]; rcases h with h | ⟨a, h, -⟩; exact h; simp at h
  | a :: r, out, x, h => by
    rw [fres]
    refine mem_fres r _ x ?_
    rcases h with h | ⟨b, hb, hx⟩
    · exact Or.inl (mem_adds _ _ _ (Or.inl h))
    · rcases List.mem_cons.1 hb with rfl | hb
      · exact Or.inl (mem_adds _ _ _ (Or.inr hx))
      · exact Or.inr ⟨b, hb, hx⟩

mutual
theorem sub_id (N : Nat) (row : Bool) (d left : Int) : ∀ t : Tm, (chk row d left t).1 = 0 → (∀ x, x ∈ fre t → x < N) → Sub (vars N) t t
  | .mk k n v l => by
    intro h hf
    obtain ⟨h1, h2, h3, h4, h5, h6⟩ := chk_inv h
    by_cases hk : k = 0
    · subst hk
      obtain ⟨rfl, hv0, hv1⟩ := h4 rfl
      have hvN : v < N := hf v (by rw [fre, if_pos rfl]; simp)
      obtain ⟨i, rfl⟩ : ∃ i : Nat, v = i := ⟨v.toNat, by omega⟩
      exact .var _ _ (.self _ (vtm i) i rfl rfl (vars_at (by omega)) rfl rfl) rfl
    · refine .con _ k n v l l (.con _ hk) hk (subs_id N k 0 (d + 1) (left - 1) l (by rw [← h6]; exact h) fun x a ha hx => hf x ?_)
      rw [fre, if_neg hk]
      exact mem_fres _ _ _ (Or.inr ⟨a, ha, hx⟩)
theorem subs_id (N : Nat) (k : Int) (i : Nat) (d left : Int) : ∀ l : List Tm, (chks k i d left l).1 = 0 → (∀ x a, a ∈ l → x ∈ fre a → x < N) → Subs (vars N) l l
  | [] => fun _ _ => .nil
  | a :: r => fun h hf => .cons _ _ _ _ (sub_id N _ d left a (chks_cons h).1 fun x hx => hf x a (by simp) hx) (subs_id N k (i + 1) d _ r (chks_cons h).2.1 fun x b hb hx => hf x b (by simp [hb]) hx)
end
theorem eqvs_of : ∀ l : List Tm, (∀ a, a ∈ l → Eqv a a) → Eqvs l l
  | [], _ => .nil
  | a :: r, h => .cons _ _ _ _ (h a (by simp)) (eqvs_of r fun b hb => h b (by simp [hb]))
mutual
theorem eqv_id (row : Bool) (d left : Int) : ∀ t : Tm, (chk row d left t).1 = 0 → Eqv t t
  | .mk k n v l => by
    intro h
    obtain ⟨h1, h2, h3, h4, h5, h6⟩ := chk_inv h
    have hl := eqv_ids k 0 (d + 1) (left - 1) l (by rw [← h6]; exact h)
    by_cases hk : k = 0
    · subst hk; exact .var _ _ rfl rfl rfl
    · by_cases hk5 : k = 5
      · subst hk5
        have hlen := h5 rfl
        match l, hlen, hl with
        | [x, r], _, hl => exact .row n v x r _ x r (.here v x r) (hl x (by simp)) (hl r (by simp))
      · exact .app k n n v v l l hk hk5 (by simp) (eqvs_of l hl)
theorem eqv_ids (k : Int) (i : Nat) (d left : Int) : ∀ l : List Tm, (chks k i d left l).1 = 0 → ∀ a, a ∈ l → Eqv a a
  | [] => fun _ a ha => by simp at ha
  | a :: r => fun h b hb => by
    rcases List.mem_cons.1 hb with hb' | hb'
    · rw [hb']; exact eqv_id _ d left a (chks_cons h).1
    · exact eqv_ids k (i + 1) d _ r (chks_cons h).2.1 b hb'
end
mutual
theorem chk_size (row : Bool) (d left : Int) : ∀ t : Tm, (chk row d left t).1 = 0 → (chk row d left t).2 + tsz t = left
  | .mk k n v l => by
    intro h
    obtain ⟨h1, h2, h3, h4, h5, h6⟩ := chk_inv h
    rw [h6, tsz]
    have := chks_size k 0 (d + 1) (left - 1) l (by rw [← h6]; exact h)
    omega
theorem chks_size (k : Int) (i : Nat) (d left : Int) : ∀ l : List Tm, (chks k i d left l).1 = 0 → (chks k i d left l).2 + tszs l = left
  | [] => fun _ => by rw [chks, tszs]; simp
  | a :: r => fun h => by
    obtain ⟨h1, h2, h3⟩ := chks_cons h
    have e1 := chk_size _ d left a h1
    have e2 := chks_size k (i + 1) d _ r h2
    rw [h3, tszs]
    omega
end
theorem chk_tsz {row : Bool} {d : Int} {t : Tm} (h : (chk row d 4096 t).1 = 0) : tsz t ≤ 4096 := by
  have h1 := chk_size row d 4096 t h
  have h2 := chk_ok row d 4096 t h
  omega
end Go.Am.U1
