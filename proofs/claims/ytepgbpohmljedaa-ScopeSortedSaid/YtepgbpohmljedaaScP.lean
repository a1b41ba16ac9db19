/- Repetitions removed. Conditions: none. -/
set_option linter.unusedSimpArgs false
set_option linter.unusedVariables false
namespace Go.Sc
section
variable {α : Type} (eq : α → α → Bool)

/-- One more, unless it is the last one. -/
def add (acc : List α) (x : α) : List α := match acc.getLast? with
  | some y => if eq x y then acc else acc ++ [x]
  | none => acc ++ [x]
def cpt (l : List α) : List α := l.foldl (add eq) []
theorem cpt_snoc (l : List α) (x : α) : cpt eq (l ++ [x]) = add eq (cpt eq l) x := by rw [cpt, List.foldl_append]; rfl
variable {eq}
theorem rev_ind {p : List α → Prop} (h0 : p []) (h1 : ∀ l x, p l → p (l ++ [x])) : ∀ l, p l := by
  intro l
  have : ∀ m : List α, p m.reverse := by
    intro m
    induction m with
    | nil => exact h0
    | cons x m ih => rw [List.reverse_cons]; exact h1 _ _ ih
  simpa using this l.reverse
theorem add_last (heq : ∀ x y, eq x y = true → x = y) (acc : List α) (x : α) : (add eq acc x).getLast? = some x := by
  unfold add
  split
  · rename_i y hy
    split
    · rename_i h; rw [hy, heq _ _ h]
    · simp
  · simp
theorem cpt_last (heq : ∀ x y, eq x y = true → x = y) : ∀ l : List α, (cpt eq l).getLast? = l.getLast? := by
  refine rev_ind rfl fun l x _ => ?_
  rw [cpt_snoc, add_last heq]; simp
theorem cpt_sub (l : List α) : (cpt eq l).Sublist l := by
  revert l
  refine rev_ind (List.Sublist.refl _) fun l x ih => ?_
  rw [cpt_snoc]
  unfold add
  split
  · split
    · exact ih.trans (List.sublist_append_left _ _)
    · exact ih.append (List.Sublist.refl _)
  · exact ih.append (List.Sublist.refl _)
theorem cpt_mem (heq : ∀ x y, eq x y = true → x = y) : ∀ (l : List α) (z : α), z ∈ l → z ∈ cpt eq l := by
  refine rev_ind (by simp) fun l x ih z hz => ?_
  rw [cpt_snoc]
  rcases List.mem_append.1 hz with hz | hz
  · have := ih z hz
    unfold add
    split
    · split
      · exact this
      · simp [this]
    · simp [this]
  · rw [List.mem_singleton.1 hz]
    exact List.mem_of_getLast? (add_last heq _ _)
/-- Neighbours differ. -/
theorem cpt_diff : ∀ (l : List α) (i : Nat) (x y : α), (cpt eq l)[i]? = some x → (cpt eq l)[i + 1]? = some y → eq y x = false := by
  refine rev_ind (by simp [cpt]) fun l z ih i x y hx hy => ?_
  rw [cpt_snoc] at hx hy
  have key : ∀ w, (cpt eq l).getLast? = some w → eq z w = false → (cpt eq l ++ [z])[i]? = some x → (cpt eq l ++ [z])[i + 1]? = some y → eq y x = false := by
    intro w hw hne hx hy
    by_cases h : i + 1 < (cpt eq l).length
    · rw [List.getElem?_append_left (by omega)] at hx
      rw [List.getElem?_append_left h] at hy
      exact ih i x y hx hy
    · have hlt := (List.getElem?_eq_some_iff.1 hy).1
      simp only [List.length_append, List.length_singleton] at hlt
      have hi : i + 1 = (cpt eq l).length := by omega
      rw [List.getElem?_append_right (by omega), hi] at hy
      simp at hy
      subst hy
      rw [List.getElem?_append_left (by omega)] at hx
      rw [List.getLast?_eq_getElem?, show (cpt eq l).length - 1 = i by omega, hx] at hw
      cases hw
      exact hne
  unfold add at hx hy
  split at hx
  · rename_i w hw
    rw [hw] at hy
    simp only at hy
    split at hx
    · rename_i h
      rw [if_pos h] at hy
      exact ih i x y hx hy
    · rename_i h
      rw [if_neg h] at hy
      exact key w hw (by simpa using h) hx hy
  · rename_i hn
    rw [hn] at hy
    simp only at hy
    have hnil : cpt eq l = [] := by simpa using hn
    rw [hnil] at hy
    simp at hy
end
end Go.Sc
