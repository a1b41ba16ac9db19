/- What a substitution makes of types, step by step. Conditions: none. -/
import Derived.Test.YtfleakoephmgaaaDoorUnL
import Derived.Test.YtfleakoephmgaaaDoorUnL
set_option linter.unusedSimpArgs false
set_option linter.unusedVariables false
namespace Go.Am.U1
open Go.Am.Un
set_option linter.unusedSimpArgs false

/-- A variable's own entry. -/
def Self (ss : List Tm) (i : Nat) : Prop := ∃ u, ss[i]? = some u ∧ kof u = 0 ∧ vof u = i

mutual
/-- What a substitution makes of a type, a step at a time. -/
inductive Ap (ss : List Tm) : Tm → Tm → Prop
  | self (t u : Tm) (i : Nat) (h : kof t = 0) (hv : vof t = i) (hi : ss[i]? = some u) (hu : kof u = 0) (hw : vof u = vof t) : Ap ss t t
  | step (t u A : Tm) (i : Nat) (h : kof t = 0) (hv : vof t = i) (hi : ss[i]? = some u) (hn : ¬ (kof u = 0 ∧ vof u = vof t)) (hr : Ap ss u A) : Ap ss t A
  | con (k : Int) (n : ByteArray) (v : Int) (l L : List Tm) (hk : k ≠ 0) (hs : Aps ss l L) : Ap ss (.mk k n v l) (.mk k n v L)
inductive Aps (ss : List Tm) : List Tm → List Tm → Prop
  | nil : Aps ss [] []
  | cons (a A : Tm) (l L : List Tm) (h : Ap ss a A) (hs : Aps ss l L) : Aps ss (a :: l) (A :: L)
end

theorem nat_eq {i j : Nat} {v : Int} (h : v = i) (h2 : v = j) : i = j := by omega
mutual
theorem ap_det {ss : List Tm} : ∀ {t A B : Tm}, Ap ss t A → Ap ss t B → A = B
  | _, _, _, .self t u i h hv hi hu hw, h2 => by
    cases h2 with
    | self => rfl
    | step _ u' _ j h' hv' hi' hn' hr' =>
      obtain rfl := nat_eq hv hv'
      rw [hi] at hi'; cases hi'
      exact absurd ⟨hu, hw⟩ hn'
    | con => exact absurd h (by assumption)
  | _, _, _, .step t u A i h hv hi hn hr, h2 => by
    cases h2 with
    | self _ u' j h' hv' hi' hu' hw' =>
      obtain rfl := nat_eq hv hv'
      rw [hi] at hi'; cases hi'
      exact absurd ⟨hu', hw'⟩ hn
    | step _ u' _ j h' hv' hi' hn' hr' =>
      obtain rfl := nat_eq hv hv'
      rw [hi] at hi'; cases hi'
      exact ap_det hr hr'
    | con => exact absurd h (by assumption)
  | _, _, _, .con k n v l L hk hs, h2 => by
    cases h2 with
    | self _ _ _ h => exact absurd h hk
    | step _ _ _ _ h => exact absurd h hk
    | con _ _ _ _ L' _ hs' => rw [aps_det hs hs']
theorem aps_det {ss : List Tm} : ∀ {l L M : List Tm}, Aps ss l L → Aps ss l M → L = M
  | _, _, _, .nil, h2 => by cases h2; rfl
  | _, _, _, .cons a A l L h hs, h2 => by
    cases h2 with
    | cons _ B _ M h' hs' => rw [ap_det h h', aps_det hs hs']
end

theorem ap_walk {ss : List Tm} {t t' A : Tm} (h : WalkTo ss t t') (h2 : Ap ss t' A) : Ap ss t A := by
  induction h with
  | con t h => exact h2
  | self t u i h hv hi hu hw => exact h2
  | step t u t' i h hv hi hn hr ih => exact .step t u A i h hv hi hn (ih h2)
theorem walk_self {ss : List Tm} {t t' : Tm} (h : WalkTo ss t t') : kof t' = 0 → Ap ss t' t' := by
  induction h with
  | con t h => intro h2; exact absurd h2 h
  | self t u i h hv hi hu hw => intro _; exact .self t u i h hv hi hu hw
  | step t u t' i h hv hi hn hr ih => exact ih
mutual
theorem ap_sub {ss : List Tm} : ∀ {t A : Tm}, Sub ss t A → Ap ss t A
  | _, _, .var t t' h hk => ap_walk h (walk_self h hk)
  | _, _, .con t k n v l L h hk hs => ap_walk h (.con k n v l L hk (aps_subs hs))
theorem aps_subs {ss : List Tm} : ∀ {l L : List Tm}, Subs ss l L → Aps ss l L
  | _, _, .nil => .nil
  | _, _, .cons a A l L h hs => .cons a A l L (ap_sub h) (aps_subs hs)
end
/-- Where a walk ends. -/
theorem walk_ap {ss : List Tm} {t A : Tm} (h : Ap ss t A) : ∃ t', WalkTo ss t t' ∧ kof t' = kof A ∧ Ap ss t' A := by
  match h with
  | .self t u i h hv hi hu hw => exact ⟨t, .self t u i h hv hi hu hw, rfl, .self t u i h hv hi hu hw⟩
  | .step t u A i h hv hi hn hr =>
    obtain ⟨t', h1, h2, h3⟩ := walk_ap hr
    exact ⟨t', .step t u t' i h hv hi hn h1, h2, h3⟩
  | .con k n v l L hk hs => exact ⟨.mk k n v l, .con _ hk, rfl, .con k n v l L hk hs⟩
mutual
theorem sub_ap {ss : List Tm} : ∀ {t A : Tm}, Ap ss t A → Sub ss t A
  | _, _, .self t u i h hv hi hu hw => .var t t (.self t u i h hv hi hu hw) h
  | _, _, .step t u A i h hv hi hn hr => by
    cases sub_ap hr with
    | var _ _ h1 h2 => exact .var t A (.step t u A i h hv hi hn h1) h2
    | con _ k n v l L h1 h2 h3 => exact .con t k n v l L (.step t u _ i h hv hi hn h1) h2 h3
  | _, _, .con k n v l L hk hs => .con _ k n v l L (.con _ hk) hk (subs_aps hs)
theorem subs_aps {ss : List Tm} : ∀ {l L : List Tm}, Aps ss l L → Subs ss l L
  | _, _, .nil => .nil
  | _, _, .cons a A l L h hs => .cons a A l L (sub_ap h) (subs_aps hs)
end
theorem aps_len {ss : List Tm} {l L : List Tm} (h : Aps ss l L) : L.length = l.length := subs_len (subs_aps h)
theorem aps_at {ss : List Tm} {l L : List Tm} (h : Aps ss l L) {i : Nat} {a : Tm} (hi : l[i]? = some a) : ∃ A, L[i]? = some A ∧ Ap ss a A := by
  obtain ⟨A, h1, h2⟩ := subs_at (subs_aps h) hi
  exact ⟨A, h1, ap_sub h2⟩
theorem ap_con {ss : List Tm} {k : Int} {n : ByteArray} {v : Int} {l : List Tm} {A : Tm} (hk : k ≠ 0) (h : Ap ss (.mk k n v l) A) : ∃ L, A = .mk k n v L ∧ Aps ss l L := by
  cases h with
  | self _ _ _ h => exact absurd h hk
  | step _ _ _ _ h => exact absurd h hk
  | con _ _ _ _ L _ hs => exact ⟨L, rfl, hs⟩

mutual
/-- A type with variables below N. -/
def Wt (N : Nat) : Tm → Prop
  | .mk k n v l => 0 ≤ k ∧ k ≤ 5 ∧ (k = 0 → n = ⟨#[]⟩ ∧ l = [] ∧ 0 ≤ v ∧ v < N) ∧ (k ≠ 0 → v = 0) ∧ (k = 2 → l.length = 3) ∧ (k = 3 → l.length = 1) ∧ (k = 4 → l.length = 0) ∧ (k = 5 → l.length = 2) ∧ l.length ≤ 1099511627776 ∧ Wts N l
def Wts (N : Nat) : List Tm → Prop
  | [] => True
  | t :: r => Wt N t ∧ Wts N r
end
theorem wts_iff {N : Nat} : ∀ {l : List Tm}, Wts N l ↔ ∀ a, a ∈ l → Wt N a
  | [] => by simp [Wts]
  | a :: r => by rw [Wts, wts_iff]; simp
theorem wt_arg {N : Nat} {t a : Tm} (h : Wt N t) (ha : a ∈ lof t) : Wt N a := by
  obtain ⟨k, n, v, l⟩ := t
  rw [Wt] at h
  exact wts_iff.1 h.2.2.2.2.2.2.2.2.2 a ha
theorem wt_lof {N : Nat} {t : Tm} (h : Wt N t) : (lof t).length ≤ 1099511627776 := by
  obtain ⟨k, n, v, l⟩ := t
  rw [Wt] at h
  exact h.2.2.2.2.2.2.2.2.1
theorem wt_var {N : Nat} {t : Tm} (h : Wt N t) (hk : kof t = 0) : ∃ i, i < N ∧ t = vtm i := by
  obtain ⟨k, n, v, l⟩ := t
  rw [kof_mk] at hk
  subst hk
  rw [Wt] at h
  obtain ⟨rfl, rfl, h1, h2⟩ := h.2.2.1 rfl
  exact ⟨v.toNat, by omega, by rw [vtm]; congr 1; omega⟩
theorem wt_vtm {N i : Nat} (h : i < N) : Wt N (vtm i) := by
  rw [vtm, Wt]
  simp [Wts]; omega
mutual
theorem wt_le {N M : Nat} (hNM : N ≤ M) : ∀ t : Tm, Wt N t → Wt M t
  | .mk k n v l => fun h => by
    rw [Wt] at h ⊢
    obtain ⟨h1, h2, h3, h4, h5, h6, h7, h8, h8', h9⟩ := h
    exact ⟨h1, h2, fun hk => ⟨(h3 hk).1, (h3 hk).2.1, (h3 hk).2.2.1, by have := (h3 hk).2.2.2; omega⟩, h4, h5, h6, h7, h8, h8', wts_le hNM l h9⟩
theorem wts_le {N M : Nat} (hNM : N ≤ M) : ∀ l : List Tm, Wts N l → Wts M l
  | [], _ => by rw [Wts]; trivial
  | t :: r, h => by rw [Wts] at h ⊢; exact ⟨wt_le hNM t h.1, wts_le hNM r h.2⟩
end
mutual
theorem wt_val {N : Nat} : ∀ t : Tm, Wt N t → Val t
  | .mk k n v l => fun h => by
    rw [Wt] at h
    obtain ⟨h1, h2, h3, h4, h5, h6, h7, h8, h8', h9⟩ := h
    rw [Val]
    exact ⟨h1, h2, fun hk => ⟨by rw [(h3 hk).2.1]; rfl, (h3 hk).2.2.1⟩, h5, h6, h7, h8, wts_vals l h9⟩
theorem wts_vals {N : Nat} : ∀ l : List Tm, Wts N l → Vals l
  | [], _ => by rw [Vals]; trivial
  | t :: r, h => by rw [Wts] at h; rw [Vals]; exact ⟨wt_val t h.1, wts_vals r h.2⟩
end
theorem wt_occ {N : Nat} {x : Int} : ∀ (n : Nat) (t : Tm), tsz t ≤ n → Wt N t → Occ x t → 0 ≤ x ∧ x < N := by
  intro n
  induction n with
  | zero => intro t h; have := tsz_pos t; omega
  | succ n ih =>
    rintro ⟨k, m, v, l⟩ h hw ho
    by_cases hk : k = 0
    · subst hk
      rw [Wt] at hw
      obtain ⟨-, -, h1, h2⟩ := hw.2.2.1 rfl
      rw [Occ, if_pos rfl] at ho
      omega
    · rw [occ_oth x (by simpa [kof_mk] using hk)] at ho
      obtain ⟨a, ha, ho⟩ := ho
      have := tsz_mem ha
      exact ih a (by omega) (wt_arg hw ha) ho

/-- A substitution without cycles. -/
structure Acy (ss : List Tm) (rk : Nat → Nat) : Prop where
  wt : ∀ (i : Nat) u, ss[i]? = some u → Wt ss.length u
  dn : ∀ (i : Nat) u, ss[i]? = some u → (kof u = 0 ∧ vof u = i) ∨ ∀ x : Nat, Occ x u → rk x < rk i

theorem ap_ex {ss : List Tm} {rk : Nat → Nat} (h : Acy ss rk) : ∀ (R n : Nat) (t : Tm), (∀ x : Nat, Occ x t → rk x < R) → Wt ss.length t → tsz t ≤ n → ∃ A, Ap ss t A := by
  intro R
  induction R with
  | zero =>
    intro n
    induction n with
    | zero => intro t _ _ h; have := tsz_pos t; omega
    | succ n ih =>
      rintro ⟨k, m, v, l⟩ hr hw hs
      by_cases hk : k = 0
      · subst hk
        rw [Wt] at hw
        obtain ⟨-, -, h1, h2⟩ := hw.2.2.1 rfl
        have := hr v.toNat (by rw [Occ, if_pos rfl]; omega)
        omega
      · have : ∀ l' : List Tm, (∀ a, a ∈ l' → a ∈ l) → ∃ L, Aps ss l' L := by
          intro l'
          induction l' with
          | nil => intro _; exact ⟨[], .nil⟩
          | cons a l' ihl =>
            intro hm
            have hal : a ∈ lof (Tm.mk k m v l) := hm a (by simp)
            have hz := tsz_mem hal
            obtain ⟨A, hA⟩ := ih a (fun x ho => hr x ((occ_oth x (by simpa [kof_mk] using hk)).2 ⟨a, hal, ho⟩)) (wt_arg hw hal) (by omega)
            obtain ⟨L, hL⟩ := ihl fun b hb => hm b (by simp [hb])
            exact ⟨A :: L, .cons _ _ _ _ hA hL⟩
        obtain ⟨L, hL⟩ := this l fun _ h => h
        exact ⟨_, .con k m v l L hk hL⟩
  | succ R ihR =>
    intro n
    induction n with
    | zero => intro t _ _ h; have := tsz_pos t; omega
    | succ n ih =>
      rintro ⟨k, m, v, l⟩ hr hw hs
      by_cases hk : k = 0
      · subst hk
        have hw' := hw
        rw [Wt] at hw
        obtain ⟨-, -, h1, h2⟩ := hw.2.2.1 rfl
        obtain ⟨i, rfl⟩ : ∃ i : Nat, v = i := ⟨v.toNat, by omega⟩
        obtain ⟨u, hu⟩ : ∃ u, ss[i]? = some u := ⟨_, List.getElem?_eq_getElem (by omega)⟩
        have hri := hr i (by rw [Occ, if_pos rfl])
        by_cases hse : kof u = 0 ∧ vof u = i
        · exact ⟨_, .self _ u i rfl rfl hu hse.1 hse.2⟩
        · rcases h.dn i u hu with hd | hd
          · exact absurd hd hse
          · obtain ⟨A, hA⟩ := ihR (tsz u) u (fun x ho => by have := hd x ho; omega) (h.wt i u hu) (Nat.le_refl _)
            exact ⟨A, .step _ u A i rfl rfl hu hse hA⟩
      · have : ∀ l' : List Tm, (∀ a, a ∈ l' → a ∈ l) → ∃ L, Aps ss l' L := by
          intro l'
          induction l' with
          | nil => intro _; exact ⟨[], .nil⟩
          | cons a l' ihl =>
            intro hm
            have hal : a ∈ lof (Tm.mk k m v l) := hm a (by simp)
            have hz := tsz_mem hal
            obtain ⟨A, hA⟩ := ih a (fun x ho => hr x ((occ_oth x (by simpa [kof_mk] using hk)).2 ⟨a, hal, ho⟩)) (wt_arg hw hal) (by omega)
            obtain ⟨L, hL⟩ := ihl fun b hb => hm b (by simp [hb])
            exact ⟨A :: L, .cons _ _ _ _ hA hL⟩
        obtain ⟨L, hL⟩ := this l fun _ h => h
        exact ⟨_, .con k m v l L hk hL⟩
/-- A bound of the ranks. -/
theorem rk_bound (rk : Nat → Nat) : ∀ N : Nat, ∃ R, ∀ i, i < N → rk i < R
  | 0 => ⟨0, fun i h => by omega⟩
  | N + 1 => by
    obtain ⟨R, hR⟩ := rk_bound rk N
    exact ⟨max R (rk N + 1), fun i hi => by
      by_cases h : i = N
      · subst h; omega
      · have := hR i (by omega); omega⟩
theorem Acy.ex {ss : List Tm} {rk : Nat → Nat} (h : Acy ss rk) {t : Tm} (hw : Wt ss.length t) : ∃ A, Ap ss t A := by
  obtain ⟨R, hR⟩ := rk_bound rk ss.length
  exact ap_ex h R _ t (fun x ho => hR x (by have := wt_occ _ t (Nat.le_refl _) hw ho; omega)) hw (Nat.le_refl _)
end Go.Am.U1
