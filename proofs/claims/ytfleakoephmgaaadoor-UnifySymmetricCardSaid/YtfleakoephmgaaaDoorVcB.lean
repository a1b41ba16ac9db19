/- In both orders: solutions of as many variables. Conditions: none. -/
import Derived.Test.YtfleakoephmgaaaDoorVcA
set_option linter.unusedSimpArgs false
set_option linter.unusedVariables false
namespace Go.Am.U2
open Go.Am.Un Go.So
open Go.Am.U1 (vtm vars vars_len vars_at Ap Aps Wt Wts Un Fine JWt Le ap_det wt_var tsz_pos kof_mk insL_ps insL_comm TyOk CkOk)
set_option linter.unusedSimpArgs false

mutual
theorem sb_sb (σ τ : Int → Tm) : ∀ t : Tm, sb (fun v => sb τ (σ v)) t = sb τ (sb σ t)
  | .mk k n v l => by
    by_cases hk : k = 0
    · rw [sb, if_pos hk, sb, if_pos hk]
    · rw [sb, if_neg hk, sb, if_neg hk, sb, if_neg hk, sbs_sbs σ τ l]
theorem sbs_sbs (σ τ : Int → Tm) : ∀ l : List Tm, sbs (fun v => sb τ (σ v)) l = sbs τ (sbs σ l)
  | [] => by rw [sbs, sbs, sbs]
  | t :: r => by rw [sbs, sbs, sbs, sb_sb σ τ t, sbs_sbs σ τ r]
end
theorem nf_sb_insL (τ : Int → Tm) (n : ByteArray) (A : Tm) : ∀ (N : Nat) (R : Tm), tsz R ≤ N → nf (sb τ (insL n A R)) = insL n (nf (sb τ A)) (nf (sb τ R)) := by
  intro N
  induction N with
  | zero => intro r h; have := tsz_pos r; omega
  | succ N ih =>
    intro R hz
    rcases insL_cs n A R with ⟨p, v, c, r', rfl, h, e⟩ | ⟨h, e⟩ <;> rw [e]
    · rw [tsz, tszs, tszs, tszs] at hz
      rw [sb_row, sb_row, nf_ext, nf_ext, ih r' (by omega), insL_comm]
      exact fun e => by subst e; rw [ltB_irr] at h; cases h
    · rw [sb_row, nf_ext]
theorem val_row {t : Tm} (hv : Val t) (h5 : kof t = 5) : ∃ n v a r, t = .mk 5 n v [a, r] ∧ Val a ∧ Val r := by
  obtain ⟨k, m, v, l⟩ := t
  rw [kof_mk] at h5; subst h5
  have hv' := hv
  rw [Val] at hv
  obtain ⟨a, r, rfl⟩ := two_of (hv.2.2.2.2.2.2.1 rfl)
  rw [val_ext] at hv'
  exact ⟨m, v, a, r, rfl, hv'.1, hv'.2⟩
theorem val_vl {t : Tm} (hv : Val t) (h0 : kof t = 0) : lof t = [] := by
  obtain ⟨k, m, v, l⟩ := t
  rw [Val] at hv
  exact List.eq_nil_of_length_eq_zero (hv.2.2.1 h0).1
theorem nf_sb_nf (τ : Int → Tm) : ∀ (N : Nat) (t : Tm), tsz t ≤ N → Val t → nf (sb τ (nf t)) = nf (sb τ t) := by
  intro N
  induction N with
  | zero => intro r h; have := tsz_pos r; omega
  | succ N ih =>
    intro t hz hv
    by_cases h5 : kof t = 5
    · obtain ⟨n, v, a, r, rfl, va, vr⟩ := val_row hv h5
      rw [tsz, tszs, tszs, tszs] at hz
      rw [nf_ext, nf_sb_insL τ n _ _ _ (Nat.le_refl _), ih a (by omega) va, ih r (by omega) vr, sb_row, nf_ext]
    · by_cases h0 : kof t = 0
      · rw [nf_oth h5, sb_var τ h0, sb_var τ (by exact h0)]; rfl
      · have hm := fun a (ha : a ∈ lof t) => ih a (by have := tsz_mem ha; omega) (val_arg hv ha)
        rw [nf_oth h5]
        obtain ⟨k, m, v, l⟩ := t
        simp only [kof, nof, vof, lof] at h0 hm ⊢
        rw [sb_con τ h0, sb_con τ h0]
        refine nf_cong ?_
        rw [List.map_map, List.map_map, List.map_map]
        exact List.map_congr_left fun a ha => hm a ha
theorem nf_sb_eq (τ : Int → Tm) {s t : Tm} (hs : Val s) (ht : Val t) (h : nf s = nf t) : nf (sb τ s) = nf (sb τ t) := by
  rw [← nf_sb_nf τ _ s (Nat.le_refl _) hs, h, nf_sb_nf τ _ t (Nat.le_refl _) ht]

/-! ### Sizes -/
theorem tszs_mono (θ : Int → Tm) : ∀ l : List Tm, (∀ a, a ∈ l → tsz a ≤ tsz (sb θ a)) → tszs l ≤ tszs (l.map (sb θ)) ∧ ∀ a, a ∈ l → tszs l + tsz (sb θ a) ≤ tszs (l.map (sb θ)) + tsz a
  | [], _ => ⟨by simp [tszs], fun a h => by simp at h⟩
  | b :: r, h => by
    obtain ⟨h1, h2⟩ := tszs_mono θ r fun a ha => h a (by simp [ha])
    have hb := h b (by simp)
    simp only [List.map_cons, tszs]
    refine ⟨by omega, fun a ha => ?_⟩
    rcases List.mem_cons.1 ha with rfl | ha
    · omega
    · have := h2 a ha; omega
theorem sb_mono (θ : Int → Tm) : ∀ (N : Nat) (t : Tm), tsz t ≤ N → Val t → tsz t ≤ tsz (sb θ t) := by
  intro N
  induction N with
  | zero => intro r h; have := tsz_pos r; omega
  | succ N ih =>
    intro t hz hv
    have hm := fun a (ha : a ∈ lof t) => ih a (by have := tsz_mem ha; omega) (val_arg hv ha)
    by_cases h0 : kof t = 0
    · have hl := val_vl hv h0
      obtain ⟨k, m, v, l⟩ := t
      simp only [lof] at hl; subst hl
      rw [tsz, tszs]; exact tsz_pos _
    · obtain ⟨k, m, v, l⟩ := t
      simp only [kof, lof] at h0 hm
      have := (tszs_mono θ l hm).1
      rw [sb_con θ h0, tsz, tsz]; omega
theorem sb_grow (θ : Int → Tm) {x : Int} : ∀ (N : Nat) (t : Tm), tsz t ≤ N → Val t → Occ x t → tsz t + tsz (θ x) ≤ tsz (sb θ t) + 1 := by
  intro N
  induction N with
  | zero => intro r h; have := tsz_pos r; omega
  | succ N ih =>
    intro t hz hv ho
    have hm := fun a (ha : a ∈ lof t) => sb_mono θ _ a (Nat.le_refl _) (val_arg hv ha)
    by_cases h0 : kof t = 0
    · have hl := val_vl hv h0
      obtain ⟨k, m, v, l⟩ := t
      simp only [lof] at hl; subst hl
      rw [kof_mk] at h0; subst h0
      rw [Occ, if_pos rfl] at ho; subst ho
      rw [sb, if_pos rfl, tsz, tszs]; omega
    · obtain ⟨a, ha, ho⟩ := (occ_oth x h0).1 ho
      have h1 := ih a (by have := tsz_mem ha; omega) (val_arg hv ha) ho
      obtain ⟨k, m, v, l⟩ := t
      simp only [kof, lof] at h0 hm ha
      have := (tszs_mono θ l hm).2 a ha
      rw [sb_con θ h0, tsz, tsz]; omega

/-! ### A substitution that changes nothing -/
theorem sb_insL (ρ : Int → Tm) (n : ByteArray) (A : Tm) : ∀ (N : Nat) (R : Tm), tsz R ≤ N → Val R → (∀ v, Occ v R → kof (ρ v) ≠ 5) → sb ρ (insL n A R) = insL n (sb ρ A) (sb ρ R) := by
  intro N
  induction N with
  | zero => intro r h; have := tsz_pos r; omega
  | succ N ih =>
    intro R hz hv hk
    rcases insL_cs n A R with ⟨p, v, c, r', rfl, h, e⟩ | ⟨h, e⟩ <;> rw [e]
    · rw [tsz, tszs, tszs, tszs] at hz
      rw [sb_row, sb_row, insL_ps h, ih r' (by omega) (val_ext.1 hv).2 fun x hx => hk x ((occ_oth x (by simp [kof])).2 ⟨r', by simp [lof], hx⟩)]
    · rw [sb_row, insL_np]
      intro m v b r he
      by_cases h0 : kof R = 0
      · rw [sb_var ρ h0] at he
        have := hk (vof R) (by
          obtain ⟨k, m, v, l⟩ := R
          rw [kof_mk] at h0; subst h0
          rw [Occ, if_pos rfl]; rfl)
        rw [he] at this; exact absurd rfl this
      · by_cases h5 : kof R = 5
        · obtain ⟨n', v', a', r', rfl, -, -⟩ := val_row hv h5
          rw [sb_row] at he
          injection he with h1 h2
          subst h2
          exact h _ _ _ _ rfl
        · obtain ⟨k, m', v', l⟩ := R
          rw [sb_con ρ (show k ≠ 0 from h0)] at he
          injection he with h1
          exact absurd h1 h5
theorem nf_sb_com (ρ : Int → Tm) : ∀ (N : Nat) (t : Tm), tsz t ≤ N → Val t → (∀ v, Occ v t → kof (ρ v) ≠ 5 ∧ nf (ρ v) = ρ v) → nf (sb ρ t) = sb ρ (nf t) := by
  intro N
  induction N with
  | zero => intro r h; have := tsz_pos r; omega
  | succ N ih =>
    intro t hz hv ho
    by_cases h5 : kof t = 5
    · obtain ⟨n, v, a, r, rfl, va, vr⟩ := val_row hv h5
      rw [tsz, tszs, tszs, tszs] at hz
      have hoa : ∀ x, Occ x a → kof (ρ x) ≠ 5 ∧ nf (ρ x) = ρ x := fun x hx => ho x ((occ_oth x (by simp [kof])).2 ⟨a, by simp [lof], hx⟩)
      have hor : ∀ x, Occ x r → kof (ρ x) ≠ 5 ∧ nf (ρ x) = ρ x := fun x hx => ho x ((occ_oth x (by simp [kof])).2 ⟨r, by simp [lof], hx⟩)
      rw [sb_row, nf_ext, nf_ext, ih a (by omega) va hoa, ih r (by omega) vr hor, sb_insL ρ n _ _ _ (Nat.le_refl _) (val_nf _ _ (Nat.le_refl _) vr) fun x hx => (hor x ((occ_nf x _ r (Nat.le_refl _) vr).1 hx)).1]
    · by_cases h0 : kof t = 0
      · have hl := val_vl hv h0
        rw [nf_oth h5, sb_var ρ h0, sb_var ρ (t := .mk (kof t) (nof t) (vof t) _) h0]
        refine (ho (vof t) ?_).2
        obtain ⟨k, m, v, l⟩ := t
        rw [kof_mk] at h0; subst h0
        rw [Occ, if_pos rfl]; rfl
      · have hm := fun a (ha : a ∈ lof t) => ih a (by have := tsz_mem ha; omega) (val_arg hv ha) fun x hx => ho x ((occ_oth x h0).2 ⟨a, ha, hx⟩)
        rw [nf_oth h5]
        obtain ⟨k, m, v, l⟩ := t
        simp only [kof, nof, vof, lof] at h0 h5 hm ⊢
        rw [sb_con ρ h0, sb_con ρ h0, nf_oth (by exact h5)]
        simp only [kof, nof, vof, lof, List.map_map]
        congr 1
        exact List.map_congr_left fun a ha => hm a ha
theorem sb_fix (ρ : Int → Tm) {x : Int} : ∀ (N : Nat) (t : Tm), tsz t ≤ N → sb ρ t = t → Occ x t → kof (ρ x) = 0 ∧ vof (ρ x) = x := by
  intro N
  induction N with
  | zero => intro r h; have := tsz_pos r; omega
  | succ N ih =>
    intro t hz he ho
    by_cases h0 : kof t = 0
    · rw [sb_var ρ h0] at he
      have hx : vof t = x := by
        obtain ⟨k, m, v, l⟩ := t
        rw [kof_mk] at h0; subst h0
        rw [Occ, if_pos rfl] at ho; exact ho
      rw [hx] at he
      rw [he]; exact ⟨h0, hx⟩
    · obtain ⟨a, ha, hoa⟩ := (occ_oth x h0).1 ho
      refine ih a (by have := tsz_mem ha; omega) ?_ hoa
      obtain ⟨k, m, v, l⟩ := t
      rw [sb_con ρ (show k ≠ 0 from h0)] at he
      injection he with h1 h2 h3 h4
      simp only [lof] at ha
      obtain ⟨i, hi⟩ := List.getElem?_of_mem ha
      have h5 := congrArg (fun l : List Tm => l[i]?) h4
      simp only [List.getElem?_map, hi, Option.map_some, Option.some.injEq] at h5
      exact h5
theorem occ_im (σ : Int → Tm) {x : Int} (hk : kof (σ x) = 0) : ∀ (N : Nat) (t : Tm), tsz t ≤ N → Occ x t → Occ (vof (σ x)) (sb σ t) := by
  intro N
  induction N with
  | zero => intro r h; have := tsz_pos r; omega
  | succ N ih =>
    intro t hz ho
    by_cases h0 : kof t = 0
    · have hx : vof t = x := by
        obtain ⟨k, m, v, l⟩ := t
        rw [kof_mk] at h0; subst h0
        rw [Occ, if_pos rfl] at ho; exact ho
      rw [sb_var σ h0, hx]
      cases hs : σ x with
      | mk k m v l =>
        rw [hs, kof_mk] at hk; subst hk
        rw [Occ, if_pos rfl]; rfl
    · obtain ⟨a, ha, hoa⟩ := (occ_oth x h0).1 ho
      have := ih a (by have := tsz_mem ha; omega) hoa
      obtain ⟨k, m, v, l⟩ := t
      rw [sb_con σ (show k ≠ 0 from h0)]
      exact (occ_oth _ (by exact h0)).2 ⟨sb σ a, List.mem_map_of_mem ha, this⟩
theorem nodup_map {f : Int → Int} : ∀ l : List Int, l.Nodup → (∀ x y, x ∈ l → y ∈ l → f x = f y → x = y) → (l.map f).Nodup
  | [], _, _ => by simp
  | a :: r, h, hi => by
    rw [List.map_cons, List.nodup_cons]
    refine ⟨fun hm => ?_, nodup_map r (List.nodup_cons.1 h).2 fun x y hx hy => hi x y (by simp [hx]) (by simp [hy])⟩
    obtain ⟨b, hb, he⟩ := List.mem_map.1 hm
    have := hi b a (by simp [hb]) (by simp) he
    subst this
    exact (List.nodup_cons.1 h).1 hb

theorem free_le {σ τ : Int → Tm} {X Y : Tm} (hσ : ∀ v, Val (σ v)) (hτ : ∀ v, Val (τ v)) (vX : Val X) (vY : Val Y) (h1 : nf (sb σ X) = nf Y) (h2 : nf (sb τ Y) = nf X) : (fre X).length ≤ (fre Y).length := by
  obtain ⟨ρ, hρ⟩ : ∃ ρ : Int → Tm, ρ = fun v => sb τ (σ v) := ⟨_, rfl⟩
  have vρ : ∀ v, Val (ρ v) := fun v => by rw [hρ]; exact val_sb hτ _ (hσ v)
  have vsX := val_sb hσ X vX
  have e1 : nf (sb ρ X) = nf X := by
    rw [hρ, sb_sb, nf_sb_eq τ vsX vY h1, h2]
  have hz : tsz (sb ρ X) = tsz X := by
    have := congrArg tsz e1
    rwa [nf_tsz _ _ (Nat.le_refl _) (val_sb vρ X vX), nf_tsz _ _ (Nat.le_refl _) vX] at this
  have hone : ∀ v, Occ v X → kof (ρ v) ≠ 5 ∧ nf (ρ v) = ρ v := fun v ho => by
    have h3 := sb_grow ρ _ X (Nat.le_refl _) vX ho
    have h4 : tsz (ρ v) ≤ 1 := by omega
    cases hr : ρ v with
    | mk k m w l =>
      rw [hr, tsz] at h4
      have hl : l = [] := by
        cases l with
        | nil => rfl
        | cons a r => rw [tszs] at h4; have := tsz_pos a; omega
      subst hl
      have h5 : k ≠ 5 := fun h => by
        have := vρ v
        rw [hr, Val] at this
        have := this.2.2.2.2.2.2.1 h
        simp at this
      exact ⟨h5, by rw [nf_oth (by exact h5)]; rfl⟩
  have e2 : sb ρ (nf X) = nf X := by rw [← nf_sb_com ρ _ X (Nat.le_refl _) vX hone, e1]
  have hfx : ∀ v, v ∈ fre X → kof (ρ v) = 0 ∧ vof (ρ v) = v := fun v hv =>
    sb_fix ρ _ (nf X) (Nat.le_refl _) e2 ((occ_nf v _ X (Nat.le_refl _) vX).2 ((fre_mem v X).1 hv))
  have hσk : ∀ v, v ∈ fre X → kof (σ v) = 0 := fun v hv => by
    have h3 := (hfx v hv).1
    rw [hρ] at h3
    by_cases h0 : kof (σ v) = 0
    · exact h0
    · cases hs : σ v with
      | mk k m w l =>
        rw [hs] at h0
        simp only [hs] at h3
        rw [sb_con τ (show k ≠ 0 from h0)] at h3
        exact h3
  have hl : ((fre X).map fun v => vof (σ v)).length = (fre X).length := by simp
  rw [← hl]
  refine nodup_le _ _ (nodup_map _ (fre_nodup X) fun x y hx hy he => ?_) fun w hw => ?_
  · have h3 := (hfx x hx).2
    have h4 := (hfx y hy).2
    rw [hρ] at h3 h4
    simp only [sb_var τ (hσk x hx)] at h3
    simp only [sb_var τ (hσk y hy)] at h4
    rw [← h3, ← h4, he]
  · obtain ⟨v, hv, rfl⟩ := List.mem_map.1 hw
    have h3 := occ_im σ (hσk v hv) _ X (Nat.le_refl _) ((fre_mem v X).1 hv)
    have h4 := (occ_nf _ _ (sb σ X) (Nat.le_refl _) vsX).2 h3
    rw [h1] at h4
    exact (fre_mem _ Y).2 ((occ_nf _ _ Y (Nat.le_refl _) vY).1 h4)

/-! ### Both orders -/
mutual
theorem sb_apx {ss : List Tm} {N : Nat} {θ : Int → Tm} (h : ∀ i : Nat, i < N → Ap ss (vtm i) (θ i)) : ∀ t : Tm, Wt N t → Ap ss t (sb θ t)
  | .mk k n v l => fun hw => by
    have hw' := hw
    rw [Wt] at hw'
    by_cases hk : k = 0
    · obtain ⟨i, hi, he⟩ := wt_var hw (by simpa [kof] using hk)
      rw [he, sb_var θ rfl]
      exact h i hi
    · rw [sb, if_neg hk]
      exact .con k n v l _ hk (sbs_apx h l hw'.2.2.2.2.2.2.2.2.2)
theorem sbs_apx {ss : List Tm} {N : Nat} {θ : Int → Tm} (h : ∀ i : Nat, i < N → Ap ss (vtm i) (θ i)) : ∀ l : List Tm, Wts N l → Aps ss l (sbs θ l)
  | [], _ => by rw [sbs]; exact .nil
  | t :: r, hw => by rw [Wts] at hw; rw [sbs]; exact .cons _ _ _ _ (sb_apx h t hw.1) (sbs_apx h r hw.2)
end
theorem val_num : Val numT := U1.wt_val numT wt_num
theorem sym_dir {a b : Tm} (wa : Wt 12 a) (wb : Wt 12 b) {f : Int} {ss1 ss2 : List Tm} (h1 : Un (vars 12) (.un a b) 0 ss1) (h2 : Un (vars 12) (.un b a) f ss2) : (f = 0 ∨ f = 2) ∧ (f = 0 → ∀ A1 A2, Ap ss1 a A1 → Ap ss2 a A2 → ∃ σ : Int → Tm, (∀ v, Val (σ v)) ∧ nf (sb σ A2) = nf A1) := by
  have hvl := vars_len 12
  have hfn := fine_vars
  have h12 : (vars 12).length ≤ 4096 := by rw [hvl]; decide
  have wa' : Wt (vars 12).length a := by rw [hvl]; exact wa
  have wb' : Wt (vars 12).length b := by rw [hvl]; exact wb
  obtain ⟨f1, g1, -⟩ := U1.un_fine h1 hfn h12 ⟨wa', wb'⟩
  rw [hvl] at g1
  obtain ⟨rk, hac⟩ := f1.1
  have hth : ∀ i : Nat, ∃ T, (i < 12 → Ap ss1 (vtm i) T) ∧ Val T := fun i => by
    by_cases hi : i < 12
    · have hw : Wt ss1.length (vtm i) := U1.wt_vtm (by omega)
      obtain ⟨T, hT⟩ := hac.ex hw
      exact ⟨T, fun _ => hT, U1.wt_val _ (ap_wt hac hT hw)⟩
    · exact ⟨numT, fun h => absurd h hi, val_num⟩
  obtain ⟨θ, hθ⟩ : ∃ θ : Int → Tm, θ = fun v => (hth v.toNat).choose := ⟨_, rfl⟩
  have ha : ∀ i : Nat, i < 12 → Ap ss1 (vtm i) (θ i) := fun i hi => by rw [hθ]; exact (hth i).choose_spec.1 hi
  have hv : ∀ v, Val (θ v) := fun v => by rw [hθ]; exact (hth v.toNat).choose_spec.2
  have aa := sb_apx ha a wa
  have ab := sb_apx ha b wb
  have heq : nf (sb θ a) = nf (sb θ b) := U1.un_snd h1 rfl hfn h12 ⟨wa', wb'⟩ ss1 (Le.refl _) _ _ aa ab
  have hs : Sat θ (vars 12) := fun i u hu => by
    have hi : i < 12 := by have := (List.getElem?_eq_some_iff.1 hu).1; rwa [hvl] at this
    rw [vars_at hi] at hu; cases hu
    rw [sb_var θ rfl]; rfl
  obtain ⟨k1, k2⟩ := un_cmp h2 hfn h12 ⟨wb', wa'⟩ θ hv hs heq.symm
  refine ⟨k1, fun h0 A1 A2 hA1 hA2 => ?_⟩
  obtain ⟨σ, j1, j2, j3⟩ := k2 h0
  refine ⟨σ, j1, ?_⟩
  rw [← ap_sat j3 hA2, sb_ag j2 a wa', ap_det hA1 aa]
theorem sym_free {a b : Tm} (wa : Wt 12 a) (wb : Wt 12 b) {ss1 ss2 : List Tm} (h1 : Un (vars 12) (.un a b) 0 ss1) (h2 : Un (vars 12) (.un b a) 0 ss2) {A1 A2 : Tm} (hA1 : Ap ss1 a A1) (hA2 : Ap ss2 a A2) (v1 : Val A1) (v2 : Val A2) : (fre A1).length = (fre A2).length := by
  obtain ⟨σ, s1, s2⟩ := (sym_dir wa wb h1 h2).2 rfl A1 A2 hA1 hA2
  have hvl := vars_len 12
  have h12 : (vars 12).length ≤ 4096 := by rw [hvl]; decide
  have wa' : Wt (vars 12).length a := by rw [hvl]; exact wa
  have wb' : Wt (vars 12).length b := by rw [hvl]; exact wb
  obtain ⟨f1, g1, -⟩ := U1.un_fine h1 fine_vars h12 ⟨wa', wb'⟩
  obtain ⟨f2, g2, -⟩ := U1.un_fine h2 fine_vars h12 ⟨wb', wa'⟩
  obtain ⟨B1, hB1⟩ := U1.fine_ex f1 (U1.wt_le g1 _ wb')
  obtain ⟨B2, hB2⟩ := U1.fine_ex f2 (U1.wt_le g2 _ wb')
  obtain ⟨rk1, hac1⟩ := f1.1
  obtain ⟨rk2, hac2⟩ := f2.1
  have e1 : nf A1 = nf B1 := U1.un_snd h1 rfl fine_vars h12 ⟨wa', wb'⟩ ss1 (Le.refl _) _ _ hA1 hB1
  have e2 : nf B2 = nf A2 := U1.un_snd h2 rfl fine_vars h12 ⟨wb', wa'⟩ ss2 (Le.refl _) _ _ hB2 hA2
  have vB1 := U1.wt_val _ (ap_wt hac1 hB1 (U1.wt_le g1 _ wb'))
  obtain ⟨τ, t1, t2⟩ := (sym_dir wb wa h2 h1).2 rfl B2 B1 hB2 hB1
  have t3 : nf (sb τ A1) = nf A2 := by rw [nf_sb_eq τ v1 vB1 e1, t2, e2]
  exact Nat.le_antisymm (free_le t1 s1 v1 v2 t3 s2) (free_le s1 t1 v2 v1 s2 t3)
end Go.Am.U2
