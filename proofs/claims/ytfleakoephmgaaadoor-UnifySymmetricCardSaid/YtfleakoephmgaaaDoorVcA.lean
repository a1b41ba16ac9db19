/- The unifier finds a solution where there is one, and no solution is lost. Conditions: none. -/
import Derived.Test.YtfleakoephmgaaaDoorUuA
import Derived.Test.YtfleakoephmgaaaDoorUoM
set_option linter.unusedSimpArgs false
set_option linter.unusedVariables false
namespace Go.Am.U2
open Go.Am.Un Go.So
open Go.Am.U1 (vtm vars vars_len vars_at WalkTo Ap Aps Acy Wt Wts Un BdR OC Small szd szd_0 Fine JWt Self Le ap_con ap_det wt_var self_ap grow two ExR TlE tsz_pos kof_mk insL_ps insL_comm ltB_asym ltB_trans)
set_option linter.unusedSimpArgs false

/-! ### Labels put into a row -/
def Np (n : ByteArray) (t : Tm) : Prop := ∀ m v b r, t = .mk 5 m v [b, r] → ltB m n = false
theorem insL_cs (n : ByteArray) (a t : Tm) : (∃ m v b r, t = .mk 5 m v [b, r] ∧ ltB m n = true ∧ insL n a t = .mk 5 m v [b, insL n a r]) ∨ (Np n t ∧ insL n a t = .mk 5 n 0 [a, t]) := by
  by_cases h5 : kof t = 5
  · obtain ⟨k, p, v, l⟩ := t
    rw [kof_mk] at h5; subst h5
    match l with
    | [c, r] =>
      cases h : ltB p n
      · exact Or.inr ⟨fun m v' b r' e => by cases e; exact h, by rw [insL, if_neg (by simp [h])]⟩
      · exact Or.inl ⟨p, v, c, r, rfl, h, insL_ps h⟩
    | [] => exact Or.inr ⟨fun m v b r e => by simp at e, by rw [insL]; simp⟩
    | [_] => exact Or.inr ⟨fun m v b r e => by simp at e, by rw [insL]; simp⟩
    | _ :: _ :: _ :: _ => exact Or.inr ⟨fun m v b r e => by simp at e, by rw [insL]; simp⟩
  · exact Or.inr ⟨fun m v b r e => by subst e; exact absurd rfl h5, insL_end h5⟩
theorem insL_np {n : ByteArray} {a t : Tm} (h : Np n t) : insL n a t = .mk 5 n 0 [a, t] := by
  rcases insL_cs n a t with ⟨m, v, b, r, rfl, h1, -⟩ | ⟨-, h⟩
  · rw [h m v b r rfl] at h1; cases h1
  · exact h
theorem insL_inj {n : ByteArray} {a a' : Tm} : ∀ (N : Nat) (r r' : Tm), tsz r ≤ N → insL n a r = insL n a' r' → a = a' ∧ r = r' := by
  intro N
  induction N with
  | zero => intro r r' h; have := tsz_pos r; omega
  | succ N ih =>
    intro r r' hz he
    rcases insL_cs n a r with ⟨m, v, b, t, rfl, h, e⟩ | ⟨h, e⟩ <;> rcases insL_cs n a' r' with ⟨m', v', b', t', rfl, h', e'⟩ | ⟨h', e'⟩ <;> rw [e, e'] at he
    · injection he with h1 h2 h3 h4
      injection h4 with h5 h6
      injection h6 with h7
      rw [tsz, tszs, tszs, tszs] at hz
      obtain ⟨g1, g2⟩ := ih t t' (by omega) h7
      exact ⟨g1, by rw [h2, h3, h5, g2]⟩
    · injection he with h1 h2
      subst h2; rw [ltB_irr] at h; cases h
    · injection he with h1 h2
      subst h2; rw [ltB_irr] at h'; cases h'
    · injection he with h1 h2 h3 h4
      injection h4 with h5 h6
      injection h6 with h7
      exact ⟨h5, h7⟩
theorem insL_ex1 {n m : ByteArray} (hlt : ltB n m = true) {a b : Tm} : ∀ (N : Nat) (r s : Tm), tsz r ≤ N → insL n a r = insL m b s → ∃ u, s = insL n a u ∧ r = insL m b u := by
  have hml := ltB_asym hlt
  have hne : n ≠ m := fun e => by subst e; rw [ltB_irr] at hlt; cases hlt
  intro N
  induction N with
  | zero => intro r s h; have := tsz_pos r; omega
  | succ N ih =>
    intro r s hz he
    rcases insL_cs n a r with ⟨p, v, c, r', rfl, h, e⟩ | ⟨h, e⟩ <;> rcases insL_cs m b s with ⟨p', v', c', s', rfl, h', e'⟩ | ⟨h', e'⟩ <;> rw [e, e'] at he
    · injection he with h1 h2 h3 h4
      injection h4 with h5 h6
      injection h6 with h7
      subst h2; subst h3; subst h5
      rw [tsz, tszs, tszs, tszs] at hz
      obtain ⟨u, g1, g2⟩ := ih r' s' (by omega) h7
      exact ⟨.mk 5 p v [c, u], by rw [insL_ps h, g1], by rw [insL_ps h', g2]⟩
    · injection he with h1 h2
      subst h2; rw [hml] at h; cases h
    · injection he with h1 h2 h3 h4
      injection h4 with h5 h6
      injection h6 with h7
      subst h2; subst h3; subst h5
      refine ⟨s', ?_, h7⟩
      rw [insL_np]
      intro p' v' c' r'' e2
      subst e2
      cases hp : ltB p' n
      · rfl
      · have hpm := ltB_trans hp hlt
        rw [insL_ps hpm] at h7
        rw [h _ _ _ _ h7] at hp; cases hp
    · injection he with h1 h2
      exact absurd h2 hne
theorem insL_ex {n m : ByteArray} (hne : n ≠ m) {a b r s : Tm} (he : insL n a r = insL m b s) : ∃ u, s = insL n a u ∧ r = insL m b u := by
  cases h : ltB n m
  · obtain ⟨u, h1, h2⟩ := insL_ex1 (U1.ltB_tot hne h) _ s r (Nat.le_refl _) he.symm
    exact ⟨u, h2, h1⟩
  · exact insL_ex1 h _ r s (Nat.le_refl _) he
theorem nf_insL (n : ByteArray) (a : Tm) : ∀ (N : Nat) (r : Tm), tsz r ≤ N → nf (insL n a r) = insL n (nf a) (nf r) := by
  intro N
  induction N with
  | zero => intro r h; have := tsz_pos r; omega
  | succ N ih =>
    intro r hz
    rcases insL_cs n a r with ⟨p, v, c, r', rfl, h, e⟩ | ⟨h, e⟩ <;> rw [e]
    · rw [tsz, tszs, tszs, tszs] at hz
      rw [nf_ext, nf_ext, ih r' (by omega), insL_comm]
      exact fun e => by subst e; rw [ltB_irr] at h; cases h
    · rw [nf_ext]
theorem val_ext {n : ByteArray} {v : Int} {a r : Tm} : Val (.mk 5 n v [a, r]) ↔ Val a ∧ Val r := by
  rw [Val, Vals, Vals, Vals]
  constructor
  · rintro ⟨-, -, -, -, -, -, -, h1, h2, -⟩; exact ⟨h1, h2⟩
  · rintro ⟨h1, h2⟩; exact ⟨by decide, by decide, by simp, by simp, by simp, by simp, by simp, h1, h2, trivial⟩
theorem val_insL {n : ByteArray} {a : Tm} : ∀ (N : Nat) (r : Tm), tsz r ≤ N → (Val (insL n a r) ↔ Val a ∧ Val r) := by
  intro N
  induction N with
  | zero => intro r h; have := tsz_pos r; omega
  | succ N ih =>
    intro r hz
    rcases insL_cs n a r with ⟨p, v, c, r', rfl, h, e⟩ | ⟨h, e⟩ <;> rw [e]
    · rw [tsz, tszs, tszs, tszs] at hz
      rw [val_ext, val_ext, ih r' (by omega)]
      constructor
      · rintro ⟨h1, h2, h3⟩; exact ⟨h2, h1, h3⟩
      · rintro ⟨h1, h2, h3⟩; exact ⟨h2, h1, h3⟩
    · rw [val_ext]

/-- How often a label stands in a row. -/
def cn (n : ByteArray) : Tm → Nat
  | .mk k m _ [_, r] => if k = 5 then (if m = n then 1 else 0) + cn n r else 0
  | _ => 0
theorem cn_ext (n m : ByteArray) (v : Int) (b r : Tm) : cn n (.mk 5 m v [b, r]) = (if m = n then 1 else 0) + cn n r := by rw [cn, if_pos rfl]
theorem cn_insL (n m : ByteArray) (a : Tm) : ∀ (N : Nat) (r : Tm), tsz r ≤ N → cn n (insL m a r) = (if m = n then 1 else 0) + cn n r := by
  intro N
  induction N with
  | zero => intro r h; have := tsz_pos r; omega
  | succ N ih =>
    intro r hz
    rcases insL_cs m a r with ⟨p, v, c, r', rfl, h, e⟩ | ⟨h, e⟩ <;> rw [e]
    · rw [tsz, tszs, tszs, tszs] at hz
      rw [cn_ext, cn_ext, ih r' (by omega)]; omega
    · rw [cn_ext]

theorem insL_kof (n : ByteArray) (a r : Tm) : kof (insL n a r) = 5 := by
  rcases insL_cs n a r with ⟨p, v, c, r', -, -, e⟩ | ⟨-, e⟩ <;> rw [e] <;> rfl
theorem nf_kof {t : Tm} (hv : Val t) : kof (nf t) = kof t := by
  by_cases h5 : kof t = 5
  · obtain ⟨k, m, v, l⟩ := t
    rw [kof_mk] at h5; subst h5
    rw [Val] at hv
    obtain ⟨a, r, rfl⟩ := two_of (hv.2.2.2.2.2.2.1 rfl)
    rw [nf_ext, insL_kof]; rfl
  · rw [nf_oth h5]; rfl
theorem nf_cong {k v : Int} {n : ByteArray} {l l' : List Tm} (h : l.map nf = l'.map nf) : nf (.mk k n v l) = nf (.mk k n v l') := by
  rw [nf, nf, nfs_map, nfs_map, h]

/-! ### Substitutions -/
mutual
def sb (θ : Int → Tm) : Tm → Tm
  | .mk k n v l => if k = 0 then θ v else .mk k n v (sbs θ l)
def sbs (θ : Int → Tm) : List Tm → List Tm
  | [] => []
  | t :: r => sb θ t :: sbs θ r
end
theorem sbs_map (θ : Int → Tm) : ∀ l : List Tm, sbs θ l = l.map (sb θ)
  | [] => by rw [sbs]; rfl
  | t :: r => by rw [sbs, sbs_map θ r]; rfl
theorem sb_var (θ : Int → Tm) {t : Tm} (h : kof t = 0) : sb θ t = θ (vof t) := by
  obtain ⟨k, n, v, l⟩ := t
  rw [sb, if_pos (show k = 0 from h)]; rfl
theorem sb_con (θ : Int → Tm) {k v : Int} {n : ByteArray} {l : List Tm} (h : k ≠ 0) : sb θ (.mk k n v l) = .mk k n v (l.map (sb θ)) := by
  rw [sb, if_neg h, sbs_map]
theorem sb_row (θ : Int → Tm) (n : ByteArray) (v : Int) (a r : Tm) : sb θ (.mk 5 n v [a, r]) = .mk 5 n v [sb θ a, sb θ r] := sb_con θ (by decide)
mutual
theorem val_sb {θ : Int → Tm} (hθ : ∀ v, Val (θ v)) : ∀ t : Tm, Val t → Val (sb θ t)
  | .mk k n v l => fun h => by
    by_cases hk : k = 0
    · rw [sb, if_pos hk]; exact hθ v
    · rw [sb, if_neg hk]
      rw [Val] at h ⊢
      obtain ⟨h1, h2, h3, h4, h5, h6, h7, h8⟩ := h
      have hl : (sbs θ l).length = l.length := by rw [sbs_map]; simp
      exact ⟨h1, h2, fun h => absurd h hk, fun h => hl.trans (h4 h), fun h => hl.trans (h5 h), fun h => hl.trans (h6 h), fun h => hl.trans (h7 h), vals_sb hθ l h8⟩
theorem vals_sb {θ : Int → Tm} (hθ : ∀ v, Val (θ v)) : ∀ l : List Tm, Vals l → Vals (sbs θ l)
  | [], _ => by rw [sbs, Vals]; trivial
  | t :: r, h => by rw [Vals] at h; rw [sbs, Vals]; exact ⟨val_sb hθ t h.1, vals_sb hθ r h.2⟩
end
mutual
theorem sb_ag {θ θ' : Int → Tm} {N : Nat} (h : ∀ i : Nat, i < N → θ' i = θ i) : ∀ t : Tm, Wt N t → sb θ' t = sb θ t
  | .mk k n v l => fun hw => by
    rw [Wt] at hw
    by_cases hk : k = 0
    · obtain ⟨-, -, h1, h2⟩ := hw.2.2.1 hk
      rw [sb, sb, if_pos hk, if_pos hk]
      have := h v.toNat (by omega)
      rwa [Int.toNat_of_nonneg h1] at this
    · rw [sb, sb, if_neg hk, if_neg hk, sbs_ag h l hw.2.2.2.2.2.2.2.2.2]
theorem sbs_ag {θ θ' : Int → Tm} {N : Nat} (h : ∀ i : Nat, i < N → θ' i = θ i) : ∀ l : List Tm, Wts N l → sbs θ' l = sbs θ l
  | [], _ => by rw [sbs, sbs]
  | t :: r, hw => by rw [Wts] at hw; rw [sbs, sbs, sb_ag h t hw.1, sbs_ag h r hw.2]
end

/-- The substitution holds under a solution. -/
def Sat (θ : Int → Tm) (ss : List Tm) : Prop := ∀ (i : Nat) u, ss[i]? = some u → nf (θ i) = nf (sb θ u)
theorem walk_sat {θ : Int → Tm} {ss : List Tm} (hs : Sat θ ss) {t t' : Tm} (h : WalkTo ss t t') : nf (sb θ t) = nf (sb θ t') := by
  induction h with
  | con => rfl
  | self => rfl
  | step t u t' i h hv hi hn hr ih => rw [sb_var θ h, hv, hs i u hi, ih]
mutual
theorem ap_sat {θ : Int → Tm} {ss : List Tm} (hs : Sat θ ss) : ∀ {t A : Tm}, Ap ss t A → nf (sb θ t) = nf (sb θ A)
  | _, _, .self t u i h hv hi hu hw => rfl
  | _, _, .step t u A i h hv hi hn hr => by rw [sb_var θ h, hv, hs i u hi, ap_sat hs hr]
  | _, _, .con k n v l L hk h => by rw [sb_con θ hk, sb_con θ hk]; exact nf_cong (aps_sat hs h)
theorem aps_sat {θ : Int → Tm} {ss : List Tm} (hs : Sat θ ss) : ∀ {l L : List Tm}, Aps ss l L → (l.map (sb θ)).map nf = (L.map (sb θ)).map nf
  | _, _, .nil => rfl
  | _, _, .cons a A l L h hs' => by simp only [List.map_cons]; rw [ap_sat hs h, aps_sat hs hs']
end
theorem occ_sb (θ : Int → Tm) {x : Int} : ∀ (N : Nat) (t : Tm), tsz t ≤ N → Occ x t → tsz (θ x) ≤ tsz (sb θ t) ∧ (kof t ≠ 0 → tsz (θ x) < tsz (sb θ t)) := by
  intro N
  induction N with
  | zero => intro t h; have := tsz_pos t; omega
  | succ N ih =>
    intro t hz ho
    by_cases hk : kof t = 0
    · obtain ⟨k, n, v, l⟩ := t
      rw [kof_mk] at hk; subst hk
      rw [Occ, if_pos rfl] at ho
      subst ho
      rw [sb, if_pos rfl]
      exact ⟨Nat.le_refl _, fun h => absurd rfl h⟩
    · obtain ⟨a, ha, ho⟩ := (occ_oth x hk).1 ho
      have hza := tsz_mem ha
      obtain ⟨h1, -⟩ := ih a (by omega) ho
      have : tsz (sb θ a) < tsz (sb θ t) := by
        obtain ⟨k, n, v, l⟩ := t
        rw [sb_con θ (show k ≠ 0 from hk)]
        exact tsz_mem (t := .mk k n v (l.map (sb θ))) (List.mem_map_of_mem ha)
      exact ⟨by omega, fun _ => by omega⟩

/-- What is to hold. -/
def JS (θ : Int → Tm) : U1.Jb → Prop
  | .un a b => nf (sb θ a) = nf (sb θ b)
  | .us l m => (l.map (sb θ)).map nf = (m.map (sb θ)).map nf
  | .rw n _ x y b => insL n (nf (sb θ x)) (nf (sb θ y)) = nf (sb θ b)
theorem tle_cn {θ : Int → Tm} {ss : List Tm} (hs : Sat θ ss) (n : ByteArray) {t : Tm} {z : Int} (h : TlE ss t z) : ∀ i : Nat, (i : Int) = z → cn n (nf (θ i)) ≤ cn n (nf (sb θ t)) := by
  induction h with
  | var t h => intro i hi; rw [sb_var θ h, hi]; exact Nat.le_refl _
  | stop t h0 h5 => intro i hi; omega
  | row m v x y y' z hw h ih =>
    intro i hi
    rw [sb_row, nf_ext, cn_insL n m _ _ _ (Nat.le_refl _), walk_sat hs hw]
    have := ih i hi
    omega

theorem ex_cmp {n : ByteArray} {z : Int} {ss ss' : List Tm} {r t q : Tm} {e : Int} (h : ExR n z ss r e t q ss') (hf : Fine ss) : Wt ss.length r → ∀ θ : Int → Tm, (∀ v, Val (θ v)) → Sat θ ss → ∀ NX NY, Val NX → Val NY → nf NX = NX → nf NY = NY → insL n NX NY = nf (sb θ r) →
    (∀ i : Nat, (i : Int) = z → cn n (nf (θ i)) < cn n (nf (sb θ r))) → (e = 0 ∨ e = 2) ∧ (e = 0 → ∃ θ' : Int → Tm, (∀ v, Val (θ' v)) ∧ (∀ i : Nat, i < ss.length → θ' i = θ i) ∧ Sat θ' ss' ∧ nf (sb θ' t) = NX ∧ nf (sb θ' q) = NY) := by
  induction h with
  | cyc r i hw hz =>
    intro _ θ hv hs NX NY vX vY nX nY he hc
    have := hc i hz
    rw [walk_sat hs hw, sb_var θ rfl] at this
    exact absurd this (Nat.lt_irrefl _)
  | large r i hw hz hl => exact fun _ _ _ _ _ _ _ _ _ _ _ _ => ⟨Or.inr rfl, fun h => by cases h⟩
  | stop r r' hw h0 h5 =>
    intro hwr θ hv hs NX NY vX vY nX nY he hc
    have hw' := U1.fine_walk hf hw hwr
    have h1 := congrArg kof he
    have hk : kof (sb θ r') = kof r' := by obtain ⟨k, m, v, l⟩ := r'; rw [sb_con θ (show k ≠ 0 from h0)]; rfl
    rw [insL_kof, walk_sat hs hw, nf_kof (val_sb hv _ (U1.wt_val _ hw')), hk] at h1
    exact absurd h1.symm h5
  | new r i hw hz hl =>
    intro hwr θ hv hs NX NY vX vY nX nY he hc
    have hsi := U1.walk_var hw
    refine ⟨?_, fun _ => ?_⟩
    · by_cases h : Small (grow ss i n)
      · exact Or.inl (szd_0.2 h)
      · exact Or.inr (U1.szd_2 h)
    · have hil : i < ss.length := by obtain ⟨u, h1, -⟩ := hsi; exact (List.getElem?_eq_some_iff.1 h1).1
      have ag : ∀ j : Nat, j < ss.length → (fun x : Int => if x = (ss.length : Int) then NX else if x = ((ss.length + 1 : Nat) : Int) then NY else θ x) j = θ j := fun j hj => by
        show (if (j : Int) = (ss.length : Int) then NX else if (j : Int) = ((ss.length + 1 : Nat) : Int) then NY else θ j) = θ j
        rw [if_neg (by omega), if_neg (by omega)]
      have f0 : (fun x : Int => if x = (ss.length : Int) then NX else if x = ((ss.length + 1 : Nat) : Int) then NY else θ x) (ss.length : Int) = NX := if_pos rfl
      have f1 : (fun x : Int => if x = (ss.length : Int) then NX else if x = ((ss.length + 1 : Nat) : Int) then NY else θ x) ((ss.length + 1 : Nat) : Int) = NY := by
        show (if ((ss.length + 1 : Nat) : Int) = (ss.length : Int) then NX else if ((ss.length + 1 : Nat) : Int) = ((ss.length + 1 : Nat) : Int) then NY else θ _) = NY
        rw [if_neg (by omega), if_pos rfl]
      obtain ⟨θ', hθ⟩ : ∃ θ' : Int → Tm, θ' = fun x : Int => if x = (ss.length : Int) then NX else if x = ((ss.length + 1 : Nat) : Int) then NY else θ x := ⟨_, rfl⟩
      rw [← hθ] at ag f0 f1
      refine ⟨θ', fun v => ?_, ag, fun j u hj => ?_, by rw [sb_var θ' rfl]; exact (congrArg nf f0).trans nX, by rw [sb_var θ' rfl]; exact (congrArg nf f1).trans nY⟩
      · rw [hθ]
        show Val (if v = (ss.length : Int) then NX else if v = ((ss.length + 1 : Nat) : Int) then NY else θ v)
        split
        · exact vX
        · split
          · exact vY
          · exact hv v
      · by_cases hij : i = j
        · subst hij
          rw [grow, U1.set_at (U1.self_two hsi)] at hj; cases hj
          rw [ag i hil, U1.exl, sb_row, nf_ext, sb_var θ' rfl, sb_var θ' rfl]
          have e1 : θ' (vof (vtm ss.length)) = NX := f0
          have e2 : θ' (vof (vtm (ss.length + 1))) = NY := f1
          rw [e1, e2, nX, nY, he, walk_sat hs hw, sb_var θ rfl]; rfl
        · rw [grow, List.getElem?_set_ne hij] at hj
          by_cases hjl : j < ss.length
          · rw [U1.two_old hjl] at hj
            obtain ⟨rk, hac⟩ := hf.1
            rw [ag j hjl, sb_ag ag u (hac.wt j u hj), hs j u hj]
          · have : j = ss.length ∨ j = ss.length + 1 := by
              have := (List.getElem?_eq_some_iff.1 hj).1
              rw [U1.two_len] at this; omega
            rcases this with rfl | rfl
            · rw [U1.two_0] at hj; cases hj; rw [sb_var θ' rfl]; rfl
            · rw [U1.two_1] at hj; cases hj; rw [sb_var θ' rfl]; rfl
  | here r m v x y hw hm =>
    intro hwr θ hv hs NX NY vX vY nX nY he hc
    rw [walk_sat hs hw, sb_row, nf_ext, bts_inj (beq_iff_eq.1 hm)] at he
    obtain ⟨h1, h2⟩ := insL_inj _ _ _ (Nat.le_refl _) he
    exact ⟨Or.inl rfl, fun _ => ⟨θ, hv, fun _ _ => rfl, hs, h1.symm, h2.symm⟩⟩
  | there r m v x y e t q ss' hw hm h ih =>
    intro hwr θ hv hs NX NY vX vY nX nY he hc
    have hw' := U1.fine_walk hf hw hwr
    have hxy := U1.row_wt hw'
    have hne : n ≠ m := fun e => by subst e; simp at hm
    rw [walk_sat hs hw, sb_row, nf_ext] at he hc
    obtain ⟨u, h1, h2⟩ := insL_ex hne he
    have vy := val_sb hv y (U1.wt_val y hxy.2)
    have vny := val_nf _ _ (Nat.le_refl _) vy
    have vu : Val u := by rw [h1] at vny; exact ((val_insL _ u (Nat.le_refl _)).1 vny).2
    have nu : nf u = u := by
      have h3 := nf_idem _ _ (Nat.le_refl _) vy
      rw [h1, nf_insL n NX _ u (Nat.le_refl _), nX] at h3
      exact (insL_inj _ _ _ (Nat.le_refl _) h3).2
    obtain ⟨g1, g2⟩ := ih hxy.2 θ hv hs NX u vX vu nX nu h1.symm (fun i hi => by
      have := hc i hi
      rw [cn_insL n m _ _ _ (Nat.le_refl _), if_neg (Ne.symm hne)] at this
      omega)
    refine ⟨g1, fun h0 => ?_⟩
    obtain ⟨θ', k1, k2, k3, k4, k5⟩ := g2 h0
    exact ⟨θ', k1, k2, k3, k4, by rw [sb_row, nf_ext, k5, sb_ag k2 x hxy.1, h2]⟩

theorem rw_cmp {n : ByteArray} {v z : Int} {ss ss' : List Tm} {x y b t q : Tm} {e : Int} (hf : Fine ss) (hj : JWt ss.length (.rw n v x y b)) (ht : TlE ss (.mk 5 n v [x, y]) z) (h : ExR n z ss b e t q ss') {θ : Int → Tm} (hv : ∀ v, Val (θ v)) (hs : Sat θ ss) (hjs : JS θ (.rw n v x y b)) :
    (e = 0 ∨ e = 2) ∧ (e = 0 → ∃ θ' : Int → Tm, (∀ v, Val (θ' v)) ∧ (∀ i : Nat, i < ss.length → θ' i = θ i) ∧ Sat θ' ss' ∧ nf (sb θ' t) = nf (sb θ x) ∧ nf (sb θ' q) = nf (sb θ y)) := by
  have vx := val_sb hv x (U1.wt_val x hj.1)
  have vy := val_sb hv y (U1.wt_val y hj.2.1)
  refine ex_cmp h hf hj.2.2 θ hv hs _ _ (val_nf _ _ (Nat.le_refl _) vx) (val_nf _ _ (Nat.le_refl _) vy) (nf_idem _ _ (Nat.le_refl _) vx) (nf_idem _ _ (Nat.le_refl _) vy) hjs fun i hi => ?_
  have he : insL n (nf (sb θ x)) (nf (sb θ y)) = nf (sb θ b) := hjs
  rw [← he, cn_insL n n _ _ _ (Nat.le_refl _), if_pos rfl]
  cases ht with
  | var _ h0 => exact absurd (show (5 : Int) = 0 from h0) (by decide)
  | stop _ h0 h5 => exact absurd rfl h5
  | row _ _ _ _ y' _ hw h =>
    have := tle_cn hs n h i hi
    rw [walk_sat hs hw]
    omega

theorem bd_cmp {ss ss' : List Tm} {i : Nat} {t : Tm} {e : Int} (hf : Fine ss) (hsi : Self ss i) (hw : Wt ss.length t) (hwk : WalkTo ss t t) (h : BdR ss i t e ss') {θ : Int → Tm} (hv : ∀ v, Val (θ v)) (hs : Sat θ ss) (he : nf (θ i) = nf (sb θ t)) :
    (e = 0 ∨ e = 2) ∧ (e = 0 → ∃ θ' : Int → Tm, (∀ v, Val (θ' v)) ∧ (∀ i : Nat, i < ss.length → θ' i = θ i) ∧ Sat θ' ss') := by
  rcases h with ⟨-, -, rfl, rfl⟩ | ⟨hn, ⟨B, hB, ho⟩, -, -⟩ | ⟨hn, -, rfl, rfl⟩
  · exact ⟨Or.inl rfl, fun _ => ⟨θ, hv, fun _ _ => rfl, hs⟩⟩
  · exfalso
    obtain ⟨rk, hac⟩ := hf.1
    by_cases h0 : kof t = 0
    · have := ap_det hB (U1.walk_self hwk h0)
      subst this
      obtain ⟨k, m, v, l⟩ := B
      rw [kof_mk] at h0; subst h0
      rw [Occ, if_pos rfl] at ho
      exact hn ⟨rfl, ho⟩
    · have hkB : kof B ≠ 0 := by
        obtain ⟨k, m, v, l⟩ := t
        obtain ⟨L, rfl, -⟩ := ap_con h0 hB
        exact h0
      have h1 := (occ_sb θ _ B (Nat.le_refl _) ho).2 hkB
      have vB := val_sb hv B (U1.wt_val B (ap_wt hac hB hw))
      have h2 := congrArg tsz (he.trans (ap_sat hs hB))
      rw [nf_tsz _ _ (Nat.le_refl _) (hv i), nf_tsz _ _ (Nat.le_refl _) vB] at h2
      omega
  · refine ⟨?_, fun _ => ⟨θ, hv, fun _ _ => rfl, fun j u hj => ?_⟩⟩
    · by_cases h : Small (ss.set i t)
      · exact Or.inl (szd_0.2 h)
      · exact Or.inr (U1.szd_2 h)
    · by_cases hij : i = j
      · subst hij
        rw [U1.set_at hsi] at hj; cases hj; exact he
      · rw [List.getElem?_set_ne hij] at hj; exact hs j u hj
theorem walk_end {ss : List Tm} {t t' : Tm} (h : WalkTo ss t t') : WalkTo ss t' t' := by
  induction h with
  | con t h => exact .con t h
  | self t u i h hv hi hu hw => exact .self t u i h hv hi hu hw
  | step t u t' i h hv hi hn hr ih => exact ih

theorem un_cmp {ss ss' : List Tm} {j : U1.Jb} {e : Int} (h : Un ss j e ss') : Fine ss → ss.length ≤ 4096 → JWt ss.length j → ∀ θ : Int → Tm, (∀ v, Val (θ v)) → Sat θ ss → JS θ j →
    (e = 0 ∨ e = 2) ∧ (e = 0 → ∃ θ' : Int → Tm, (∀ v, Val (θ' v)) ∧ (∀ i : Nat, i < ss.length → θ' i = θ i) ∧ Sat θ' ss') := by
  induction h with
  | bl ss a b b' i e ss' wa wb h =>
    intro hf hl hj θ hv hs hjs
    have he : nf (sb θ a) = nf (sb θ b) := hjs
    rw [walk_sat hs wa, walk_sat hs wb, sb_var θ rfl] at he
    exact bd_cmp hf (U1.walk_var wa) (U1.fine_walk hf wb hj.2) (walk_end wb) h hv hs he
  | br ss a b a' i e ss' wa ha wb h =>
    intro hf hl hj θ hv hs hjs
    have he : nf (sb θ a) = nf (sb θ b) := hjs
    rw [walk_sat hs wa, walk_sat hs wb, sb_var θ (t := vtm i) rfl] at he
    exact bd_cmp hf (U1.walk_var wb) (U1.fine_walk hf wa hj.1) (walk_end wa) h hv hs he.symm
  | row ss a b b' n v x y e ss' wa wb hb h ih =>
    intro hf hl hj θ hv hs hjs
    have he : nf (sb θ a) = nf (sb θ b) := hjs
    rw [walk_sat hs wa, walk_sat hs wb, sb_row, nf_ext] at he
    have := U1.row_wt (U1.fine_walk hf wa hj.1)
    exact ih hf hl ⟨this.1, this.2, U1.fine_walk hf wb hj.2⟩ θ hv hs he
  | bad ss a b a' b' wa wb ha hb hr hn =>
    intro hf hl hj θ hv hs hjs
    exfalso
    have he : nf (sb θ a) = nf (sb θ b) := hjs
    rw [walk_sat hs wa, walk_sat hs wb] at he
    have w1 := U1.fine_walk hf wa hj.1
    have w2 := U1.fine_walk hf wb hj.2
    have v1 := val_sb hv a' (U1.wt_val _ w1)
    have v2 := val_sb hv b' (U1.wt_val _ w2)
    obtain ⟨k, n, v, l⟩ := a'
    obtain ⟨k', n', v', l'⟩ := b'
    simp only [kof, nof, lof] at ha hb hr hn
    rw [sb_con θ ha] at he v1
    rw [sb_con θ hb] at he v2
    have hk := congrArg kof he
    rw [nf_kof v1, nf_kof v2] at hk
    have hk : k = k' := hk
    subst hk
    have h5 : k ≠ 5 := fun h => hr ⟨h, by omega⟩
    rw [nf_oth (by exact h5), nf_oth (by exact h5)] at he
    simp only [kof, nof, vof, lof, Tm.mk.injEq] at he
    rcases hn with h | h | h
    · exact h rfl
    · rw [he.2.1] at h; simp at h
    · have := congrArg List.length he.2.2.2
      simp at this; exact h this
  | args ss a b k n n' v v' l l' e ss' wa wb hk hr hn hl' h ih =>
    intro hf hl hj θ hv hs hjs
    have he : nf (sb θ a) = nf (sb θ b) := hjs
    rw [walk_sat hs wa, walk_sat hs wb, sb_con θ hk, sb_con θ hk, nf_oth (by exact hr), nf_oth (by exact hr)] at he
    simp only [kof, nof, vof, lof, Tm.mk.injEq] at he
    exact ih hf hl ⟨fun a ha => U1.wt_arg (U1.fine_walk hf wa hj.1) ha, fun a ha => U1.wt_arg (U1.fine_walk hf wb hj.2) ha⟩ θ hv hs he.2.2.2
  | nil => exact fun _ _ _ θ hv hs _ => ⟨Or.inl rfl, fun _ => ⟨θ, hv, fun _ _ => rfl, hs⟩⟩
  | ok ss ss1 ss2 a b l m e h hs' ih1 ih2 =>
    intro hf hl hj θ hv hs hjs
    have hj1 : JWt ss.length (.un a b) := ⟨hj.1 a (by simp), hj.2 b (by simp)⟩
    obtain ⟨h1, h2, h3⟩ := U1.un_fine h hf hl hj1
    simp only [JS, List.map_cons, List.cons.injEq] at hjs
    obtain ⟨θ1, k1, k2, k3⟩ := (ih1 hf hl hj1 θ hv hs hjs.1).2 rfl
    have el : l.map (sb θ1) = l.map (sb θ) := List.map_congr_left fun x hx => sb_ag k2 x (hj.1 x (by simp [hx]))
    have em : m.map (sb θ1) = m.map (sb θ) := List.map_congr_left fun x hx => sb_ag k2 x (hj.2 x (by simp [hx]))
    obtain ⟨g1, g2⟩ := ih2 h1 (h3 rfl) (U1.jwt_le h2 (j := .us l m) ⟨fun a ha => hj.1 a (by simp [ha]), fun a ha => hj.2 a (by simp [ha])⟩) θ1 k1 k3 (by simp only [JS]; rw [el, em]; exact hjs.2)
    refine ⟨g1, fun h0 => ?_⟩
    obtain ⟨θ2, j1, j2, j3⟩ := g2 h0
    exact ⟨θ2, j1, fun i hi => (j2 i (by omega)).trans (k2 i hi), j3⟩
  | fail ss ss1 a b l m e h he hl' ih =>
    intro hf hl hj θ hv hs hjs
    simp only [JS, List.map_cons, List.cons.injEq] at hjs
    exact ⟨(ih hf hl ⟨hj.1 a (by simp), hj.2 b (by simp)⟩ θ hv hs hjs.1).1, fun h0 => absurd h0 he⟩
  | exf ss ss1 n v x y b t q z e ht h he =>
    intro hf hl hj θ hv hs hjs
    exact ⟨(rw_cmp hf hj ht h hv hs hjs).1, fun h0 => absurd h0 he⟩
  | hdf ss ss1 ss2 n v x y b t q z e ht h h1 he ih =>
    intro hf hl hj θ hv hs hjs
    obtain ⟨g1, g2, g3⟩ := U1.ex_fine hf hl h hj.2.2
    obtain ⟨θ1, k1, k2, k3, k4, k5⟩ := (rw_cmp hf hj ht h hv hs hjs).2 rfl
    exact ⟨(ih g1 (g3 rfl).1 ⟨U1.wt_le g2 _ hj.1, (g3 rfl).2.1⟩ θ1 k1 k3 (by simp only [JS]; rw [k4, sb_ag k2 x hj.1])).1, fun h0 => absurd h0 he⟩
  | rok ss ss1 ss2 ss3 n v x y b t q z e ht h h1 h2 ih1 ih2 =>
    intro hf hl hj θ hv hs hjs
    obtain ⟨g1, g2, g3⟩ := U1.ex_fine hf hl h hj.2.2
    have hj1 : JWt ss1.length (.un x t) := ⟨U1.wt_le g2 _ hj.1, (g3 rfl).2.1⟩
    obtain ⟨g4, g5, g6⟩ := U1.un_fine h1 g1 (g3 rfl).1 hj1
    obtain ⟨θ1, k1, k2, k3, k4, k5⟩ := (rw_cmp hf hj ht h hv hs hjs).2 rfl
    obtain ⟨θ2, j1, j2, j3⟩ := (ih1 g1 (g3 rfl).1 hj1 θ1 k1 k3 (by simp only [JS]; rw [k4, sb_ag k2 x hj.1])).2 rfl
    have ey : sb θ2 y = sb θ y := by rw [sb_ag j2 y (U1.wt_le g2 _ hj.2.1), sb_ag k2 y hj.2.1]
    have eq : sb θ2 q = sb θ1 q := sb_ag j2 q (g3 rfl).2.2
    obtain ⟨f1, f2⟩ := ih2 g4 (g6 rfl) ⟨U1.wt_le (by omega) _ hj.2.1, U1.wt_le g5 _ (g3 rfl).2.2⟩ θ2 j1 j3 (by simp only [JS]; rw [ey, eq, k5])
    refine ⟨f1, fun h0 => ?_⟩
    obtain ⟨θ3, i1, i2, i3⟩ := f2 h0
    exact ⟨θ3, i1, fun i hi => (i2 i (by omega)).trans ((j2 i (by omega)).trans (k2 i hi)), i3⟩
end Go.Am.U2
