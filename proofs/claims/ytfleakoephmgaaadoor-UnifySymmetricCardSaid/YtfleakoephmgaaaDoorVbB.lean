/- Runs of cyclic: they exist; without an answer 'true' the substitution has no cycle; of a substitution without cycles none answers 'true'. Conditions: none. -/
import Derived.Test.YtfleakoephmgaaaDoorVbA
import Derived.Test.YtfleakoephmgaaaDoorUnN
set_option linter.unusedSimpArgs false
set_option linter.unusedVariables false
namespace Go.Am.U1
open Go.Am.Un
set_option linter.unusedSimpArgs false

def zc : List Int → Nat
  | [] => 0
  | x :: r => (if x = 0 then 1 else 0) + zc r
theorem zc_lt : ∀ (l : List Int) (v : Nat) (x : Int), l[v]? = some 0 → x ≠ 0 → zc (l.set v x) < zc l
  | [], v, x, h, _ => by simp at h
  | a :: r, 0, x, h, hx => by
    simp at h; subst h
    rw [List.set_cons_zero, zc, zc, if_neg hx, if_pos rfl]; omega
  | a :: r, v + 1, x, h, hx => by
    have := zc_lt r v x (by simpa using h) hx
    rw [List.set_cons_succ, zc, zc]; omega
theorem zc_le : ∀ (l : List Int) (v : Nat) (x : Int), x ≠ 0 → zc (l.set v x) ≤ zc l
  | [], v, x, _ => by simp
  | a :: r, 0, x, hx => by rw [List.set_cons_zero, zc, zc, if_neg hx]; omega
  | a :: r, v + 1, x, hx => by
    have := zc_le r v x hx
    rw [List.set_cons_succ, zc, zc]; omega
/-- States are 0, 1 or 2. -/
def S3 (st : List Int) : Prop := ∀ (v : Nat) x, st[v]? = some x → x = 0 ∨ x = 1 ∨ x = 2
theorem s3_set {st : List Int} (h : S3 st) (v : Nat) {x : Int} (hx : x = 0 ∨ x = 1 ∨ x = 2) : S3 (st.set v x) := by
  intro w y hy
  by_cases hw : v = w
  · subst hw
    have hl : v < st.length := by have := (List.getElem?_eq_some_iff.1 hy).1; rwa [List.length_set] at this
    rw [List.getElem?_set_self hl] at hy; cases hy; exact hx
  · rw [List.getElem?_set_ne hw] at hy; exact h w y hy
theorem cy_mono {ss : List Tm} {st st' : List Int} {j : CyJ} {b : Bool} (h : Cy ss st j b st') : S3 st → S3 st' ∧ zc st' ≤ zc st := by
  induction h with
  | done => exact fun h => ⟨h, Nat.le_refl _⟩
  | self => exact fun h => ⟨h, Nat.le_refl _⟩
  | go st st' v u h hu hn hr ih =>
    intro h3
    obtain ⟨h1, h2⟩ := ih (s3_set h3 v (Or.inr (Or.inl rfl)))
    have := zc_le st v 1 (by decide)
    have := zc_le st' v 2 (by decide)
    exact ⟨s3_set h1 v (Or.inr (Or.inr rfl)), by omega⟩
  | bad st st' v u h hu hn hr ih =>
    intro h3
    obtain ⟨h1, h2⟩ := ih (s3_set h3 v (Or.inr (Or.inl rfl)))
    have := zc_le st v 1 (by decide)
    exact ⟨h1, by omega⟩
  | nil => exact fun h => ⟨h, Nat.le_refl _⟩
  | cons st st1 st2 w l b h hs ih1 ih2 =>
    intro h3
    obtain ⟨h1, h2⟩ := ih1 h3
    obtain ⟨h4, h5⟩ := ih2 h1
    exact ⟨h4, by omega⟩
  | stop st st1 w l h ih => exact ih

/-- The variables of the entries are variables of the substitution. -/
def Rng (ss : List Tm) : Prop := ∀ (i : Nat) u, ss[i]? = some u → ∀ x, x ∈ fre u → 0 ≤ x ∧ x < ss.length
theorem cy_ex {ss : List Tm} (hr : Rng ss) : ∀ (n : Nat) (st : List Int), zc st ≤ n → S3 st → st.length = ss.length →
    (∀ v, v < ss.length → ∃ b st', Cy ss st (.one v) b st') ∧ (∀ l : List Int, (∀ x, x ∈ l → 0 ≤ x ∧ x < ss.length) → ∃ b st', Cy ss st (.all l) b st') := by
  intro n
  have lists : ∀ (m : Nat), (∀ st : List Int, zc st ≤ m → S3 st → st.length = ss.length → ∀ v, v < ss.length → ∃ b st', Cy ss st (.one v) b st') → ∀ (l : List Int) (st : List Int), zc st ≤ m → S3 st → st.length = ss.length → (∀ x, x ∈ l → 0 ≤ x ∧ x < ss.length) → ∃ b st', Cy ss st (.all l) b st' := by
    intro m hone l
    induction l with
    | nil => intro st _ _ _ _; exact ⟨_, _, .nil st⟩
    | cons x l ih =>
      intro st hz h3 hl hx
      obtain ⟨w, rfl⟩ : ∃ w : Nat, x = w := ⟨x.toNat, by have := (hx x (by simp)).1; omega⟩
      obtain ⟨b, st1, h1⟩ := hone st hz h3 hl w (by have := (hx w (by simp)).2; omega)
      cases b
      · obtain ⟨g1, g2⟩ := cy_mono h1 h3
        obtain ⟨b, st2, h2⟩ := ih st1 (by omega) g1 ((cy_len h1).trans hl) fun y hy => hx y (by simp [hy])
        exact ⟨b, st2, .cons st st1 st2 w l b h1 h2⟩
      · exact ⟨true, st1, .stop st st1 w l h1⟩
  have ones : ∀ (m : Nat) (st : List Int), zc st ≤ m → S3 st → st.length = ss.length → ∀ v, v < ss.length → ∃ b st', Cy ss st (.one v) b st' := by
    intro m
    induction m with
    | zero =>
      intro st hz h3 hl v hv
      obtain ⟨x, hx⟩ : ∃ x, st[v]? = some x := ⟨_, List.getElem?_eq_getElem (by omega)⟩
      rcases h3 v x hx with rfl | rfl | rfl
      · have := zc_lt st v 1 hx (by decide); omega
      · exact ⟨_, _, .done st v 1 hx (by decide)⟩
      · exact ⟨_, _, .done st v 2 hx (by decide)⟩
    | succ m ihm =>
      intro st hz h3 hl v hv
      obtain ⟨x, hx⟩ : ∃ x, st[v]? = some x := ⟨_, List.getElem?_eq_getElem (by omega)⟩
      obtain ⟨u, hu⟩ : ∃ u, ss[v]? = some u := ⟨_, List.getElem?_eq_getElem hv⟩
      rcases h3 v x hx with rfl | rfl | rfl
      · by_cases hs : kof u = 0 ∧ vof u = v
        · exact ⟨_, _, .self st v u hx hu hs.1 hs.2⟩
        · have := zc_lt st v 1 hx (by decide)
          obtain ⟨b, st', hc⟩ := lists m ihm (fre u) (st.set v 1) (by omega) (s3_set h3 v (Or.inr (Or.inl rfl))) (by rw [List.length_set]; exact hl) (hr v u hu)
          cases b
          · exact ⟨_, _, .go st st' v u hx hu hs hc⟩
          · exact ⟨_, _, .bad st st' v u hx hu hs hc⟩
      · exact ⟨_, _, .done st v 1 hx (by decide)⟩
      · exact ⟨_, _, .done st v 2 hx (by decide)⟩
  exact fun st hz h3 hl => ⟨ones n st hz h3 hl, fun l hx => lists n (ones n) l st hz h3 hl hx⟩

theorem get_set {st : List Int} {v w : Nat} {x y : Int} (h : (st.set v x)[w]? = some y) : (w = v ∧ y = x) ∨ (w ≠ v ∧ st[w]? = some y) := by
  by_cases hw : v = w
  · subst hw
    have hl : v < st.length := by have := (List.getElem?_eq_some_iff.1 h).1; rwa [List.length_set] at this
    rw [List.getElem?_set_self hl] at h; cases h; exact Or.inl ⟨rfl, rfl⟩
  · rw [List.getElem?_set_ne hw] at h; exact Or.inr ⟨fun e => hw e.symm, h⟩
theorem cy_stay {ss : List Tm} {st st' : List Int} {j : CyJ} {b : Bool} (h : Cy ss st j b st') : ∀ w : Nat, (st[w]? = some 1 → st'[w]? = some 1) ∧ (st[w]? = some 2 → st'[w]? = some 2) := by
  induction h with
  | done => exact fun w => ⟨id, id⟩
  | self => exact fun w => ⟨id, id⟩
  | go st st' v u h hu hn hr ih =>
    intro w
    refine ⟨fun h1 => ?_, fun h1 => ?_⟩ <;>
    · have hw : w ≠ v := fun e => by subst e; rw [h] at h1; cases h1
      rw [List.getElem?_set_ne (Ne.symm hw)]
      first | (refine (ih w).1 ?_; rw [List.getElem?_set_ne (Ne.symm hw)]; exact h1) | (refine (ih w).2 ?_; rw [List.getElem?_set_ne (Ne.symm hw)]; exact h1)
  | bad st st' v u h hu hn hr ih =>
    intro w
    refine ⟨fun h1 => ?_, fun h1 => ?_⟩ <;>
    · have hw : w ≠ v := fun e => by subst e; rw [h] at h1; cases h1
      first | (refine (ih w).1 ?_; rw [List.getElem?_set_ne (Ne.symm hw)]; exact h1) | (refine (ih w).2 ?_; rw [List.getElem?_set_ne (Ne.symm hw)]; exact h1)
  | nil => exact fun w => ⟨id, id⟩
  | cons st st1 st2 w l b h hs ih1 ih2 => exact fun w => ⟨fun h => (ih2 w).1 ((ih1 w).1 h), fun h => (ih2 w).2 ((ih1 w).2 h)⟩
  | stop st st1 w l h ih => exact ih

/-- What is marked 2 leads down. -/
def Dn (ss : List Tm) (st : List Int) (rk : Nat → Nat) : Prop := ∀ (v : Nat) u, st[v]? = some 2 → ss[v]? = some u → ¬ (kof u = 0 ∧ vof u = v) ∧ ∀ x : Nat, Occ x u → Self ss x ∨ (st[x]? = some 2 ∧ rk x < rk v)
def CyD (ss : List Tm) (st : List Int) : CyJ → Prop
  | .one v => st[v]? = some 2 ∨ Self ss v
  | .all l => ∀ w : Nat, (w : Int) ∈ l → st[w]? = some 2 ∨ Self ss w
theorem cy_snd {ss : List Tm} {st st' : List Int} {j : CyJ} {b : Bool} (h : Cy ss st j b st') : b = false → st.length = ss.length → S3 st → ∀ rk, Dn ss st rk → (∃ rk', Dn ss st' rk') ∧ CyD ss st' j := by
  induction h with
  | done st v x h hx =>
    intro hb _ h3 rk hd
    refine ⟨⟨rk, hd⟩, Or.inl ?_⟩
    rcases h3 v x h with rfl | rfl | rfl
    · omega
    · simp at hb
    · exact h
  | self st v u h hu h0 h1 => exact fun _ _ _ rk hd => ⟨⟨rk, hd⟩, Or.inr ⟨u, hu, h0, h1⟩⟩
  | go st st' v u h hu hn hr ih =>
    intro _ hl h3 rk hd
    have hvl : v < st.length := (List.getElem?_eq_some_iff.1 h).1
    have hd1 : Dn ss (st.set v 1) rk := by
      intro w y hw hy
      rcases get_set hw with ⟨-, h2⟩ | ⟨hwv, h2⟩
      · cases h2
      · obtain ⟨h4, h5⟩ := hd w y h2 hy
        refine ⟨h4, fun x hx => ?_⟩
        rcases h5 x hx with h6 | ⟨h6, h7⟩
        · exact Or.inl h6
        · refine Or.inr ⟨?_, h7⟩
          rw [List.getElem?_set_ne (fun e => by subst e; rw [h] at h6; cases h6)]; exact h6
    obtain ⟨⟨rk', hd2⟩, hall⟩ := ih rfl (by rw [List.length_set]; exact hl) (s3_set h3 v (Or.inr (Or.inl rfl))) rk hd1
    have hv1 : st'[v]? = some 1 := (cy_stay hr v).1 (List.getElem?_set_self hvl)
    have hvl' : v < st'.length := (List.getElem?_eq_some_iff.1 hv1).1
    obtain ⟨R, hR⟩ := rk_bound rk' ss.length
    have hl' : st'.length = ss.length := by rw [cy_len hr, List.length_set, hl]
    refine ⟨⟨fun x => if x = v then R else rk' x, fun w y hw hy => ?_⟩, Or.inl (List.getElem?_set_self hvl')⟩
    by_cases hwv : w = v
    · subst hwv
      rw [hu] at hy; cases hy
      refine ⟨hn, fun x hx => ?_⟩
      rcases hall x ((fre_mem _ _).2 hx) with h6 | h6
      · have hxv : x ≠ w := fun e => by subst e; rw [hv1] at h6; cases h6
        have hxl : x < ss.length := by rw [← hl']; exact (List.getElem?_eq_some_iff.1 h6).1
        refine Or.inr ⟨by rw [List.getElem?_set_ne (Ne.symm hxv)]; exact h6, ?_⟩
        show (if x = w then R else rk' x) < (if w = w then R else rk' w)
        rw [if_neg hxv, if_pos rfl]; exact hR x hxl
      · exact Or.inl h6
    · rw [List.getElem?_set_ne (Ne.symm hwv)] at hw
      obtain ⟨h4, h5⟩ := hd2 w y hw hy
      refine ⟨h4, fun x hx => ?_⟩
      rcases h5 x hx with h6 | ⟨h6, h7⟩
      · exact Or.inl h6
      · have hxv : x ≠ v := fun e => by subst e; rw [hv1] at h6; cases h6
        refine Or.inr ⟨by rw [List.getElem?_set_ne (Ne.symm hxv)]; exact h6, ?_⟩
        show (if x = v then R else rk' x) < (if w = v then R else rk' w)
        rw [if_neg hxv, if_neg hwv]; exact h7
  | bad => intro h; cases h
  | nil => exact fun _ _ _ rk hd => ⟨⟨rk, hd⟩, fun w hw => by simp at hw⟩
  | cons st st1 st2 w l b h hs ih1 ih2 =>
    intro hb hl h3 rk hd
    obtain ⟨⟨rk1, hd1⟩, hw⟩ := ih1 rfl hl h3 rk hd
    obtain ⟨⟨rk2, hd2⟩, hall⟩ := ih2 hb ((cy_len h).trans hl) (cy_mono h h3).1 rk1 hd1
    refine ⟨⟨rk2, hd2⟩, fun x hx => ?_⟩
    rcases List.mem_cons.1 hx with hx | hx
    · obtain rfl : x = w := by omega
      rcases hw with hw | hw
      · exact Or.inl ((cy_stay hs x).2 hw)
      · exact Or.inr hw
    · exact hall x hx
  | stop => intro h; cases h

theorem cy_acy {ss : List Tm} {st : List Int} {rk : Nat → Nat} (hw : ∀ (i : Nat) u, ss[i]? = some u → Wt ss.length u) (hd : Dn ss st rk) (hall : ∀ v, v < ss.length → st[v]? = some 2 ∨ Self ss v) : ∃ rk', Acy ss rk' := by
  have hcl := fun x => Classical.propDecidable (Self ss x)
  refine ⟨fun x => if Self ss x then 0 else rk x + 1, ⟨hw, fun i u hi => ?_⟩⟩
  by_cases hs : kof u = 0 ∧ vof u = i
  · exact Or.inl hs
  · refine Or.inr fun x hx => ?_
    have hns : ¬ Self ss i := fun h => hs (self_not h hi)
    rcases hall i (List.getElem?_eq_some_iff.1 hi).1 with h | h
    · rcases (hd i u h hi).2 x hx with h6 | ⟨h6, h7⟩
      · simp only [if_pos h6, if_neg hns]; omega
      · have hnx : ¬ Self ss x := by
          intro hx
          obtain ⟨y, hy, hy0, hy1⟩ := hx
          exact (hd x y h6 hy).1 ⟨hy0, hy1⟩
        simp only [if_neg hnx, if_neg hns]; omega
    · exact absurd h hns

theorem cy_acl {ss : List Tm} {rk : Nat → Nat} (hac : Acy ss rk) {st st' : List Int} {j : CyJ} {b : Bool} (h : Cy ss st j b st') :
    (∀ w : Nat, st[w]? = some 1 → (match j with | .one v => rk v < rk w | .all l => ∀ x : Nat, (x : Int) ∈ l → rk x < rk w)) → b = false ∧ ∀ w : Nat, st'[w]? = some 1 → st[w]? = some 1 := by
  induction h with
  | done st v x h hx =>
    intro hh
    refine ⟨?_, fun w h => h⟩
    cases hx1 : (x == 1)
    · rfl
    · have : x = 1 := by simpa using hx1
      subst this
      have := hh v h
      simp at this
  | self => exact fun _ => ⟨rfl, fun w h => h⟩
  | go st st' v u h hu hn hr ih =>
    intro hh
    have hd : ∀ x : Nat, Occ x u → rk x < rk v := by
      rcases hac.dn v u hu with h | h
      · exact absurd h hn
      · exact h
    obtain ⟨-, h2⟩ := ih (by
      intro w hw x hx
      have hx' := hd x ((fre_mem _ _).1 hx)
      rcases get_set hw with ⟨rfl, -⟩ | ⟨-, h3⟩
      · exact hx'
      · have := hh w h3
        simp only at this
        omega)
    refine ⟨rfl, fun w hw => ?_⟩
    rcases get_set hw with ⟨-, h3⟩ | ⟨hwv, h3⟩
    · cases h3
    · rcases get_set (h2 w h3) with ⟨h4, -⟩ | ⟨-, h4⟩
      · exact absurd h4 hwv
      · exact h4
  | bad st st' v u h hu hn hr ih =>
    intro hh
    have hd : ∀ x : Nat, Occ x u → rk x < rk v := by
      rcases hac.dn v u hu with h | h
      · exact absurd h hn
      · exact h
    obtain ⟨h1, -⟩ := ih (by
      intro w hw x hx
      have hx' := hd x ((fre_mem _ _).1 hx)
      rcases get_set hw with ⟨rfl, -⟩ | ⟨-, h3⟩
      · exact hx'
      · have := hh w h3
        simp only at this
        omega)
    cases h1
  | nil => exact fun _ => ⟨rfl, fun w h => h⟩
  | cons st st1 st2 w l b h hs ih1 ih2 =>
    intro hh
    obtain ⟨-, h2⟩ := ih1 fun x hx => by
      have := hh x hx
      exact this w (by simp)
    obtain ⟨h3, h4⟩ := ih2 fun x hx y hy => by
      have := hh x (h2 x hx)
      exact this y (by simp [hy])
    exact ⟨h3, fun x hx => h2 x (h4 x hx)⟩
  | stop st st1 w l h ih =>
    intro hh
    obtain ⟨h1, -⟩ := ih fun x hx => by
      have := hh x hx
      exact this w (by simp)
    cases h1

mutual
theorem wt_of_chk (N : Nat) (row : Bool) (d left : Int) : ∀ t : Tm, (chk row d left t).1 = 0 → (∀ x, x ∈ fre t → x < N) → tsz t ≤ 1099511627776 → Wt N t
  | .mk k n v l => by
    intro h hf hs
    rw [chk] at h
    split at h
    · simp at h
    split at h
    · simp at h
    split at h
    · simp at h
    split at h
    · simp at h
    split at h
    · simp at h
    rename_i h1 h2 h3 h4 h5
    have h31 : ¬ (szK k ≥ 0 ∧ (l.length : Int) ≠ szK k) := fun hh => h3 (Or.inl hh)
    have hlt := len_tszs l
    rw [tsz] at hs
    rw [Wt]
    refine ⟨by omega, by omega, fun hk => ?_, fun hk => ?_, fun hk => ?_, fun hk => ?_, fun hk => ?_, fun hk => ?_, by omega, wts_of_chk N k 0 (d + 1) (left - 1) l h (fun a ha x hx => ?_) (by omega)⟩
    · subst hk
      have hl0 : l = [] := by simp only [szK, if_true] at h31; exact List.eq_nil_of_length_eq_zero (by omega)
      have hn : n.toList = ({ data := #[] } : ByteArray).toList := by
        have : ¬ ((n.toList == ({ data := #[] } : ByteArray).toList) = false) := fun hh => h3 (Or.inr (Or.inr ⟨by decide, by decide, hh⟩))
        simpa using this
      have hv := hf v (by rw [fre, if_pos rfl]; simp)
      have hv0 : ¬ (v < 0) := fun hh => h5 ⟨rfl, Or.inl hh⟩
      exact ⟨bts_inj hn, hl0, by omega, hv⟩
    · exact Classical.byContradiction fun hh => h3 (Or.inr (Or.inl ⟨hk, hh⟩))
    · subst hk; simp [szK] at h31; omega
    · subst hk; simp [szK] at h31; omega
    · subst hk; simp [szK] at h31; simp [h31]
    · subst hk; simp [szK] at h31; omega
    · by_cases hk : k = 0
      · subst hk
        have hl0 : l = [] := by simp only [szK, if_true] at h31; exact List.eq_nil_of_length_eq_zero (by omega)
        subst hl0; simp at ha
      · exact hf x ((fre_mem _ _).2 ((occ_oth x (by simpa [kof] using hk)).2 ⟨a, ha, (fre_mem _ _).1 hx⟩))
theorem wts_of_chk (N : Nat) (k : Int) (i : Nat) (d left : Int) : ∀ l : List Tm, (chks k i d left l).1 = 0 → (∀ a, a ∈ l → ∀ x, x ∈ fre a → x < N) → tszs l ≤ 1099511627776 → Wts N l
  | [] => fun _ _ _ => by rw [Wts]; trivial
  | a :: r => fun h hf hs => by
    rw [tszs] at hs
    rw [Wts]
    exact ⟨wt_of_chk N _ d left a (chks_cons h).1 (fun x hx => hf a (by simp) x hx) (by omega), wts_of_chk N k (i + 1) d _ r (chks_cons h).2.1 (fun b hb x hx => hf b (by simp [hb]) x hx) (by omega)⟩
end
end Go.Am.U1
