/- Rows of plain structs, changed one by one. Conditions: none. -/
import Derived.Test.YtfleakoephmgaaaDoorAmY1
set_option linter.unusedSimpArgs false
set_option linter.unusedVariables false
namespace Go.Am

/-- The first elements changed. -/
def mapTo {α : Type} (g : α → α) (l : List α) (i : Nat) : List α := (l.take i).map g ++ l.drop i

section
variable {α : Type} {g : α → α} {f : α → List AV} {z : Nat}
theorem mapTo_zero (g : α → α) (l : List α) : mapTo g l 0 = l := by simp [mapTo]
theorem mapTo_len (g : α → α) (l : List α) (i : Nat) : (mapTo g l i).length = l.length := by simp [mapTo]; omega
theorem mapTo_at {l : List α} {i : Nat} {x : α} (hx : l[i]? = some x) : (mapTo g l i)[i]? = some x := by
  have := (List.getElem?_eq_some_iff.1 hx).1
  rw [mapTo, List.getElem?_append_right (by simp; omega)]
  simp only [List.length_map, List.length_take, Nat.min_eq_left (Nat.le_of_lt this), Nat.sub_self, List.getElem?_drop, Nat.add_zero]
  exact hx
theorem mapTo_set {l : List α} {i : Nat} {x : α} (hx : l[i]? = some x) : (mapTo g l i).set i (g x) = mapTo g l (i + 1) := by
  have hlt := (List.getElem?_eq_some_iff.1 hx).1
  have hl : ((l.take i).map g).length = i := by simp; omega
  have hd : l.drop i = x :: l.drop (i + 1) := by rw [List.drop_eq_getElem_cons hlt, (List.getElem?_eq_some_iff.1 hx).2]
  rw [mapTo, List.set_append_right _ _ (by omega), hl, Nat.sub_self, hd, List.set_cons_zero, mapTo, List.take_add_one, hx, List.map_append, Option.toList_some, List.map_cons, List.map_nil, List.append_assoc]
  rfl
theorem mapTo_same {l : List α} {i : Nat} {x : α} (hx : l[i]? = some x) (hg : g x = x) : mapTo g l (i + 1) = mapTo g l i := by
  have h := mapTo_at (g := g) hx
  rw [← mapTo_set hx, hg]
  obtain ⟨h1, h2⟩ := List.getElem?_eq_some_iff.1 h
  conv => lhs; rw [← h2]
  exact List.set_getElem_self h1
theorem mapTo_all {l : List α} {n : Nat} (h : l.length ≤ n) : mapTo g l n = l.map g := by rw [mapTo, List.take_of_length_le h, List.drop_eq_nil_of_le h, List.append_nil]

/-- All stays but this array. -/
def KeepX (v : AV) (s s' : St) : Prop := s.size ≤ s'.size ∧ ∀ j, j < s.size → notO v j → s'.obj j = s.obj j
theorem KeepX.refl (v : AV) (s : St) : KeepX v s s := ⟨Nat.le_refl _, fun _ _ _ => rfl⟩
theorem KeepX.trans {v : AV} {a b c : St} (h : KeepX v a b) (k : KeepX v b c) : KeepX v a c := ⟨Nat.le_trans h.1 k.1, fun j hj hn => (k.2 j (Nat.lt_of_lt_of_le hj h.1) hn).trans (h.2 j hj hn)⟩
theorem Keep.x {v : AV} {s s' : St} (h : Keep s s') : KeepX v s s' := ⟨h.1, fun j hj _ => h.2 j hj⟩
theorem KeepX.put {s s' : St} {p o l z : Nat} (h : KeepX (.msl p o l z) s s') (x : Option AO) : KeepX (.msl p o l z) s (s'.put p x) :=
  ⟨h.1, fun j hj hn => by rw [put_ne (by intro hh; subst hh; exact hn _ _ _ rfl)]; exact h.2 j hj hn⟩

/-- They lie in different objects. -/
def apart (v u : AV) : Prop := ∀ p o l z, v = .msl p o l z → notO u p
theorem MSl.x {s s' : St} {v u : AV} {l : List α} (h : MSl f z s v l) (hk : KeepX u s s') (ha : apart v u) : MSl f z s' v l := h.of (fun p hp hl => hk.2 p hl (ha _ _ _ _ hp)) hk.1
theorem FSl.x {s s' : St} {v u : AV} {l : List α} (h : FSl f z s v l) (hk : KeepX u s s') (ha : apart v u) : FSl f z s' v l := h.of (fun p hp hl => hk.2 p hl (ha _ _ _ _ hp)) hk.1
theorem MSl.apart {s : St} {v u : AV} {l : List α} (h : MSl f z s v l) (hu : freshO s.size u) : apart v u := by
  intro p o n y he
  rcases h with ⟨rfl, _⟩ | ⟨rfl, _⟩ | ⟨q, rfl, _, hq⟩
  · cases he
  · cases he
  · cases he; exact hu.ne hq
theorem FSl.apart {s : St} {v u : AV} {l : List α} (h : FSl f z s v l) (hu : freshO s.size u) : Am.apart v u := by
  intro p o n y he
  rcases h with ⟨rfl, _⟩ | ⟨rfl, _⟩ | ⟨q, rfl, _, hq⟩
  · cases he
  · cases he
  · cases he; exact hu.ne hq
theorem apart.symm {v u : AV} (h : apart v u) : apart u v := by
  intro p o l z he o' l' z' he'
  exact h p o' l' z' he' o l z he
theorem MSl.frz' (hP : Plain f z) {s : St} {v : AV} {l : List α} (h : MSl f z s v l) : ∃ v' s1, frzA s v = some (v', s1) ∧ ISl f v' l ∧ FSl f z s1 v l ∧ KeepX v s s1 := by
  obtain ⟨v', s1, h1, h2, h3, h4, h5⟩ := h.frz hP
  exact ⟨v', s1, h1, h2, h3, by omega, fun j _ hn => h5 j hn⟩

/-- One cell of the written array changed. -/
theorem MSl.set1 (hf : ∀ a, (f a).length = z) {s : St} {l : List α} {i j p n : Nat} {x y : α} {v : AV} (hi : l[i]? = some x) (hj : j < z) (hv : (f x).set j v = f y) (hp : p < s.size) (hn : n = l.length) :
    MSl f z (s.put p (some (.cells ((l.flatMap f).set (i * z + j) v)))) (.msl p 0 n z) (l.set i y) := by subst hn; exact MSl.set hf hi hj hv hp
end
end Go.Am
