/- Appending one struct to an array that is written. Conditions: none. -/
import Derived.Test.YtfleakoephmgaaaDoorAmY1
set_option linter.unusedSimpArgs false
set_option linter.unusedVariables false
namespace Go.Am
section
variable {α : Type} {f : α → List AV} {z : Nat}

theorem ISl.take (hf : ∀ a, (f a).length = z) {v : AV} {l : List α} (h : ISl f v l) {i : Nat} (hi : i ≤ l.length) : ∃ w, slcA z v none (some (.int .i64 i)) none = some w ∧ ISl f w (l.take i) := by
  rcases h with ⟨rfl, rfl⟩ | ⟨full, tok, rfl⟩
  · obtain rfl : i = 0 := by simpa using hi
    exact ⟨.nils, by simp [slcA, optOf, natOf], Or.inl ⟨rfl, rfl⟩⟩
  · refine ⟨_, ?_, Or.inr ⟨full && i == l.length, if 0 = 0 ∧ i = l.length ∧ (none : Option AV).isNone = true then tok else none, rfl⟩⟩
    simp only [slcA, optOf, natOf]
    rw [if_pos (flat_len hf l), if_pos (by omega), Int.toNat_natCast]
    simp only
    rw [if_pos (by omega), Nat.zero_mul, List.drop_zero, Nat.sub_zero, flat_take hf, List.length_take, Nat.min_eq_left (by omega)]

theorem MSl.app1 (hP : Plain f z) {s : St} {v : AV} {l : List α} (h : MSl f z s v l) (x : α) {bytes : Nat} (hb : (l.length + 1) * bytes ≤ 140737488355328) :
    ∃ v' s1, appendA s true z bytes v (.sl (f x) 1 true none) = some (v', s1) ∧ MSl f z s1 v' (l ++ [x]) ∧ freshO s.size v' ∧ s.size < s1.size ∧ v'.cells = [v'] ∧ v'.one = true ∧ ∀ j, j < s.size → notO v j → s1.obj j = s.obj j := by
  have hc : contents s z (.sl (f x) 1 true none) = some (1, f x) := by simp only [contents]; rw [if_pos (by rw [hP.len]; omega)]
  rcases h with ⟨rfl, rfl⟩ | ⟨rfl, rfl⟩ | ⟨t, rfl, ht, hlt⟩
  · refine ⟨.msl s.size 0 1 z, s.new (.cells (f x)), ?_, Or.inr (Or.inr ⟨s.size, rfl, ?_, by simp [St.new]⟩), ?_, by simp [St.new], rfl, rfl, fun j hj _ => new_ne (by omega)⟩
    · simp only [appendA, hc, freshA]
      rw [if_neg (by omega), if_pos (by simpa using hb), if_pos trivial, if_pos (hP.one x)]
    · rw [new_eq rfl]; simp
    · intro p o n y he; cases he; exact Nat.le_refl _
  · refine ⟨.msl s.size 0 1 z, s.new (.cells (f x)), ?_, Or.inr (Or.inr ⟨s.size, rfl, ?_, by simp [St.new]⟩), ?_, by simp [St.new], rfl, rfl, fun j hj _ => new_ne (by omega)⟩
    · simp only [appendA, hc, freshA]
      rw [if_neg (by omega), if_pos ⟨by simp, by simpa using hb⟩, if_pos trivial, if_pos trivial, List.nil_append, if_pos (hP.one x)]
    · rw [new_eq rfl]; simp
    · intro p o n y he; cases he; exact Nat.le_refl _
  · refine ⟨.msl s.size 0 (l.length + 1) z, (s.put t none).new (.cells (l.flatMap f ++ f x)), ?_, Or.inr (Or.inr ⟨s.size, by simp, ?_, by simp [St.new, St.put]⟩), ?_, by simp [St.new, St.put], rfl, rfl, fun j hj hn => ?_⟩
    · simp only [appendA, hc, ht]
      rw [if_neg (by omega), if_pos ⟨trivial, trivial, by rw [hP.lens]; exact Nat.le_refl _, hb, hP.one x⟩, List.take_of_length_le (by rw [hP.lens]; exact Nat.le_refl _)]
    · rw [new_eq (by simp [St.put]), List.flatMap_append]; simp
    · intro p o n y he; cases he; exact Nat.le_refl _
    · rw [new_ne (by simp only [St.put]; omega), put_ne (by intro h; subst h; exact hn _ _ _ rfl)]
end
end Go.Am
