/- Rows of plain structs, changed one by one. Conditions: none. -/
import Derived.Test.YtfleakoephmgaaaDoorAmW
set_option linter.unusedSimpArgs false
set_option linter.unusedVariables false
namespace Go.Am

section
variable {α : Type} {g : α → α} {f : α → List AV} {z : Nat}
/-- All stays but this array. -/
def KeepX (v : AV) (s s' : St) : Prop := s.size ≤ s'.size ∧ ∀ j, j < s.size → notO v j → s'.obj j = s.obj j
theorem KeepX.refl (v : AV) (s : St) : KeepX v s s := ⟨Nat.le_refl _, fun _ _ _ => rfl⟩
theorem KeepX.trans {v : AV} {a b c : St} (h : KeepX v a b) (k : KeepX v b c) : KeepX v a c := ⟨Nat.le_trans h.1 k.1, fun j hj hn => (k.2 j (Nat.lt_of_lt_of_le hj h.1) hn).trans (h.2 j hj hn)⟩
theorem Keep.x {v : AV} {s s' : St} (h : Keep s s') : KeepX v s s' := ⟨h.1, fun j hj _ => h.2 j hj⟩
theorem KeepX.put {s s' : St} {p o l z : Nat} (h : KeepX (.msl p o l z) s s') (x : Option AO) : KeepX (.msl p o l z) s (s'.put p x) :=
  ⟨h.1, fun j hj hn => by rw [put_ne (by intro hh; subst hh; exact hn _ _ _ rfl)]; exact h.2 j hj hn⟩

/-- They lie in different objects. -/
def apart (v u : AV) : Prop := ∀ p o l z, v = .msl p o l z → notO u p
theorem MSl.x {s s' : St} {v u : AV} {l : List α} (h : MSl f z s v l) (hk : KeepX u s s') (ha : apart v u) : MSl f z s' v l := h.of (fun p hp hl => hk.2 p hl (ha _ _ _ _ hp)) hk.1
theorem FSl.x {s s' : St} {v u : AV} {l : List α} (h : FSl f z s v l) (hk : KeepX u s s') (ha : apart v u) : FSl f z s' v l := h.of (fun p hp hl => hk.2 p hl (ha _ _ _ _ hp)) hk.1
theorem MSl.apart {s : St} {v u : AV} {l : List α} (h : MSl f z s v l) (hu : freshO s.size u) : apart v u := by
  intro p o n y he
  rcases h with ⟨rfl, _⟩ | ⟨rfl, _⟩ | ⟨q, rfl, _, hq⟩
  · cases he
  · cases he
  · cases he; exact hu.ne hq
theorem FSl.apart {s : St} {v u : AV} {l : List α} (h : FSl f z s v l) (hu : freshO s.size u) : Am.apart v u := by
  intro p o n y he
  rcases h with ⟨rfl, _⟩ | ⟨rfl, _⟩ | ⟨q, rfl, _, hq⟩
  · cases he
  · cases he
  · cases he; exact hu.ne hq
theorem apart.symm {v u : AV} (h : apart v u) : apart u v := by
  intro p o l z he o' l' z' he'
  exact h p o' l' z' he' o l z he
/-- One cell of the written array changed. -/
theorem MSl.set1 (hf : ∀ a, (f a).length = z) {s : St} {l : List α} {i j p n : Nat} {x y : α} {v : AV} (hi : l[i]? = some x) (hj : j < z) (hv : (f x).set j v = f y) (hp : p < s.size) (hn : n = l.length) :
    MSl f z (s.put p (some (.cells ((l.flatMap f).set (i * z + j) v)))) (.msl p 0 n z) (l.set i y) := by subst hn; exact MSl.set hf hi hj hv hp
end
end Go.Am

/- Appending one struct to an array that is written. Conditions: none. -/
namespace Go.Am
section
variable {α : Type} {f : α → List AV} {z : Nat}

theorem ISl.take (hf : ∀ a, (f a).length = z) {v : AV} {l : List α} (h : ISl f v l) {i : Nat} (hi : i ≤ l.length) : ∃ w, slcA z v none (some (.int .i64 i)) none = some w ∧ ISl f w (l.take i) := by
  rcases h with ⟨rfl, rfl⟩ | ⟨full, tok, rfl⟩
  · obtain rfl : i = 0 := by simpa using hi
    exact ⟨.nils, by simp [slcA, optOf, natOf], Or.inl ⟨rfl, rfl⟩⟩
  · refine ⟨_, ?_, Or.inr ⟨full && i == l.length, if 0 = 0 ∧ i = l.length ∧ (none : Option AV).isNone = true then tok else none, rfl⟩⟩
    simp only [slcA, optOf, natOf]
    rw [if_pos (flat_len hf l), if_pos (by omega), Int.toNat_natCast]
    simp only
    rw [if_pos (by omega), Nat.zero_mul, List.drop_zero, Nat.sub_zero, flat_take hf, List.length_take, Nat.min_eq_left (by omega)]

theorem MSl.app1 (hP : Plain f z) {s : St} {v : AV} {l : List α} (h : MSl f z s v l) (x : α) {bytes : Nat} (hb : (l.length + 1) * bytes ≤ 140737488355328) :
    ∃ v' s1, appendA s true z bytes v (.sl (f x) 1 true none) = some (v', s1) ∧ MSl f z s1 v' (l ++ [x]) ∧ freshO s.size v' ∧ s.size < s1.size ∧ v'.cells = [v'] ∧ v'.one = true ∧ ∀ j, j < s.size → notO v j → s1.obj j = s.obj j := by
  have hc : contents s z (.sl (f x) 1 true none) = some (1, f x) := by simp only [contents]; rw [if_pos (by rw [hP.len]; omega)]
  rcases h with ⟨rfl, rfl⟩ | ⟨rfl, rfl⟩ | ⟨t, rfl, ht, hlt⟩
  · refine ⟨.msl s.size 0 1 z, s.new (.cells (f x)), ?_, Or.inr (Or.inr ⟨s.size, rfl, ?_, by simp [St.new]⟩), ?_, by simp [St.new], rfl, rfl, fun j hj _ => new_ne (by omega)⟩
    · simp only [appendA, hc, freshA]
      rw [if_neg (by omega), if_pos (by simpa using hb), if_pos trivial, if_pos (hP.one x)]
    · rw [new_eq rfl]; simp
    · intro p o n y he; cases he; exact Nat.le_refl _
  · refine ⟨.msl s.size 0 1 z, s.new (.cells (f x)), ?_, Or.inr (Or.inr ⟨s.size, rfl, ?_, by simp [St.new]⟩), ?_, by simp [St.new], rfl, rfl, fun j hj _ => new_ne (by omega)⟩
    · simp only [appendA, hc, freshA]
      rw [if_neg (by omega), if_pos ⟨by simp, by simpa using hb⟩, if_pos trivial, if_pos trivial, List.nil_append, if_pos (hP.one x)]
    · rw [new_eq rfl]; simp
    · intro p o n y he; cases he; exact Nat.le_refl _
  · refine ⟨.msl s.size 0 (l.length + 1) z, (s.put t none).new (.cells (l.flatMap f ++ f x)), ?_, Or.inr (Or.inr ⟨s.size, by simp, ?_, by simp [St.new, St.put]⟩), ?_, by simp [St.new, St.put], rfl, rfl, fun j hj hn => ?_⟩
    · simp only [appendA, hc, ht]
      rw [if_neg (by omega), if_pos ⟨trivial, trivial, by rw [hP.lens]; exact Nat.le_refl _, hb, hP.one x⟩, List.take_of_length_le (by rw [hP.lens]; exact Nat.le_refl _)]
    · rw [new_eq (by simp [St.put]), List.flatMap_append]; simp
    · intro p o n y he; cases he; exact Nat.le_refl _
    · rw [new_ne (by simp only [St.put]; omega), put_ne (by intro h; subst h; exact hn _ _ _ rfl)]
end
end Go.Am
