/- What stays, loops, rows. Conditions: none. -/
import Derived.Test.YtfleakoephmgaaaDoorAmV
set_option linter.unusedSimpArgs false
set_option linter.unusedVariables false
namespace Go.Am

/-- What was there is as it was. -/
def Keep (s s' : St) : Prop := s.size ≤ s'.size ∧ ∀ j, j < s.size → s'.obj j = s.obj j
theorem Keep.refl (s : St) : Keep s s := ⟨Nat.le_refl _, fun _ _ => rfl⟩
theorem Keep.trans {a b c : St} (h : Keep a b) (k : Keep b c) : Keep a c := ⟨Nat.le_trans h.1 k.1, fun j hj => (k.2 j (Nat.lt_of_lt_of_le hj h.1)).trans (h.2 j hj)⟩
theorem Keep.new (s : St) (o : AO) : Keep s (s.new o) := ⟨by simp [St.new], fun j hj => by simp only [St.new]; rw [if_neg (by omega)]⟩
theorem Keep.new' {s s' : St} (h : Keep s s') (o : AO) : Keep s (s'.new o) := h.trans (Keep.new _ _)
theorem Keep.put' {s s' : St} (h : Keep s s') {p : Nat} (hp : s.size ≤ p) (o : Option AO) : Keep s (s'.put p o) := ⟨h.1, fun j hj => by simp only [St.put]; rw [if_neg (by omega)]; exact h.2 j hj⟩
theorem Keep.obj {s s' : St} (h : Keep s s') {j : Nat} {o : Option AO} (hj : j < s.size) (ho : s.obj j = o) : s'.obj j = o := (h.2 j hj).trans ho
theorem Keep.lt {s s' : St} (h : Keep s s') {j : Nat} (hj : j < s.size) : j < s'.size := Nat.lt_of_lt_of_le hj h.1

theorem new_ne {s : St} {o : AO} {j : Nat} (h : j ≠ s.size) : (s.new o).obj j = s.obj j := by simp only [St.new]; rw [if_neg h]
theorem new_eq {s : St} {o : AO} {j : Nat} (h : j = s.size) : (s.new o).obj j = some o := by simp only [St.new]; rw [if_pos h]
theorem put_ne {s : St} {o : Option AO} {i j : Nat} (h : j ≠ i) : (s.put i o).obj j = s.obj j := by simp only [St.put]; rw [if_neg h]
theorem put_eq {s : St} {o : Option AO} {i : Nat} : (s.put i o).obj i = o := by simp [St.put]

/-- The same but for one object. -/
def KeepBut (p : Nat) (s s' : St) : Prop := s.size ≤ s'.size ∧ ∀ j, j < s.size → j ≠ p → s'.obj j = s.obj j
theorem KeepBut.trans {p : Nat} {a b c : St} (h : KeepBut p a b) (k : KeepBut p b c) : KeepBut p a c := ⟨Nat.le_trans h.1 k.1, fun j hj hp => (k.2 j (Nat.lt_of_lt_of_le hj h.1) hp).trans (h.2 j hj hp)⟩
theorem Keep.but {p : Nat} {a b : St} (h : Keep a b) : KeepBut p a b := ⟨h.1, fun j hj _ => h.2 j hj⟩
theorem KeepBut.put {p : Nat} {a b : St} (h : KeepBut p a b) (o : Option AO) : KeepBut p a (b.put p o) := ⟨h.1, fun j hj hp => by simp only [St.put]; rw [if_neg hp]; exact h.2 j hj hp⟩
theorem KeepBut.keep {p : Nat} {a b c : St} (h : Keep a b) (k : KeepBut p b c) (hp : a.size ≤ p) : Keep a c := ⟨Nat.le_trans h.1 k.1, fun j hj => (k.2 j (Nat.lt_of_lt_of_le hj h.1) (by omega)).trans (h.2 j hj)⟩

section
variable {T : Nat → Option CF} {X : Ext}

/-- Behind a round: the next one, or the loop's end. -/
def Rnd (I : Nat → Env → St → Prop) (k : Nat) (Q : CX → Env → St → Prop) (x : CX) (e : Env) (s : St) : Prop :=
  match x with
  | .normal => ∃ k', k' < k ∧ I k' e s
  | y => Q y e s
theorem rnd_n {I : Nat → Env → St → Prop} {k : Nat} {Q : CX → Env → St → Prop} {e : Env} {s : St} : Rnd I k Q .normal e s ↔ ∃ k', k' < k ∧ I k' e s := Iff.rfl
theorem rnd_x {I : Nat → Env → St → Prop} {k : Nat} {Q : CX → Env → St → Prop} {e : Env} {s : St} {j : Nat} : Rnd I k Q (.exit j) e s ↔ Q (.exit j) e s := Iff.rfl
theorem rnd_r {I : Nat → Env → St → Prop} {k : Nat} {Q : CX → Env → St → Prop} {e : Env} {s : St} : Rnd I k Q .ret e s ↔ Q .ret e s := Iff.rfl

theorem W_loop_nat {b : CC} {Q : CX → Env → St → Prop} (I : Nat → Env → St → Prop)
    (hstep : ∀ k e s, I k e s → W T X b e s (Rnd I k Q)) : ∀ k e s, I k e s → W T X (.loop b) e s Q := by
  intro k
  induction k using Nat.strongRecOn with
  | ind k ih =>
    intro e s h
    refine W_loop ((hstep k e s h).mono fun x e' s' hx => ?_)
    cases x with
    | normal => obtain ⟨k', hk, hI⟩ := hx; exact ih k' hk e' s' hI
    | exit j => exact hx
    | ret => exact hx

theorem flat_len {α : Type} {f : α → List AV} {z : Nat} (hf : ∀ a, (f a).length = z) (l : List α) : (l.flatMap f).length = l.length * z := by
  induction l with
  | nil => simp
  | cons a l ih => rw [List.flatMap_cons, List.length_append, ih, hf, List.length_cons, Nat.add_mul]; omega

theorem flat_drop {α : Type} {f : α → List AV} {z : Nat} (hf : ∀ a, (f a).length = z) : ∀ (l : List α) (i : Nat), (l.flatMap f).drop (i * z) = (l.drop i).flatMap f
  | l, 0 => by simp
  | [], i + 1 => by simp
  | a :: l, i + 1 => by
    rw [List.flatMap_cons, Nat.add_mul, Nat.one_mul, Nat.add_comm, ← List.drop_drop, List.drop_left' (hf a), List.drop_succ_cons]
    exact flat_drop hf l i

theorem flat_take {α : Type} {f : α → List AV} {z : Nat} (hf : ∀ a, (f a).length = z) : ∀ (l : List α) (i : Nat), (l.flatMap f).take (i * z) = (l.take i).flatMap f
  | l, 0 => by simp
  | [], i + 1 => by simp
  | a :: l, i + 1 => by
    rw [List.flatMap_cons, List.take_succ_cons, List.flatMap_cons, Nat.add_mul, Nat.one_mul, Nat.add_comm, ← flat_take hf l i]
    conv => lhs; rw [← hf a, List.take_length_add_append]
    rw [hf a]

theorem flat_at {α : Type} {f : α → List AV} {z : Nat} (hf : ∀ a, (f a).length = z) {l : List α} {i : Nat} {a : α} (h : l[i]? = some a) : (l.flatMap f).drop (i * z) = f a ++ (l.drop (i + 1)).flatMap f := by
  rw [flat_drop hf]
  obtain ⟨hi, hl⟩ := List.getElem?_eq_some_iff.1 h
  rw [List.drop_eq_getElem_cons hi, hl, List.flatMap_cons]

theorem WO_callx {d : Option Nat} {f : Nat} {args : List Opd} {r : List CO} {e : Env} {s : St} {R : Env → St → Prop} (as' : List AV) (ha : args.map (Opd.ev e) = as')
    (h : WC T X f as' s (fun v s1 => WO T X r (e.put d v) s1 R)) : WO T X (⟨d, none, .call f args⟩ :: r) e s R := WO_call rfl (by rw [ha]; exact h)
theorem WT_callx {d : Option Nat} {f : Nat} {args : List Opd} {r : List CO} {e : Env} {s : St} {U : List (Env × St) → Env → St → Prop} (as' : List AV) (ha : args.map (Opd.ev e) = as')
    (h : WC T X f as' s (fun v s1 => WT T X r (e.put d v) s1 (Tr e s U))) : WT T X (⟨d, none, .call f args⟩ :: r) e s U := WT_call rfl (by rw [ha]; exact h)

theorem WO_callvx {d : Option Nat} {x : Opd} {args : List Opd} {r : List CO} {e : Env} {s : St} {R : Env → St → Prop} (f : Nat) (cap as' : List AV) (hx : x.ev e = .func f cap) (ha : args.map (Opd.ev e) ++ cap = as')
    (h : WC T X f as' s (fun v s1 => WO T X r (e.put d v) s1 R)) : WO T X (⟨d, none, .callv x args⟩ :: r) e s R := WO_callv rfl hx (by rw [ha]; exact h)

end
end Go.Am

/- Rows of plain structs, some written. Conditions: none. -/
namespace Go.Am

/-- What a struct of plain cells looks like. -/
structure Plain {α : Type} (f : α → List AV) (z : Nat) : Prop where
  len : ∀ a, (f a).length = z
  one : ∀ a, (f a).all AV.one = true
  still : ∀ a, (f a).all AV.still = true
  strip : ∀ a, (f a).map AV.strip = f a

/-- It is not in this object. -/
def notO (ov : AV) (j : Nat) : Prop := ∀ o l z, ov ≠ .msl j o l z
def freshO (N : Nat) (ov : AV) : Prop := ∀ p o l z, ov = .msl p o l z → N ≤ p
theorem freshO.le {N M : Nat} {ov : AV} (h : freshO N ov) (hm : M ≤ N) : freshO M ov := fun p o l z he => Nat.le_trans hm (h p o l z he)
theorem freshO.ne {N j : Nat} {ov : AV} (h : freshO N ov) (hj : j < N) : notO ov j := fun o l z he => by have := h j o l z he; omega
theorem freshO_nils (N : Nat) : freshO N .nils := fun p o l z h => by cases h
/-- It is known whether it is nil. -/
def Known (v : AV) : Prop := v = .nils ∨ ∃ cs len full tok, v = .sl cs len full tok ∧ (0 < len ∨ tok.isSome = true)

section
variable {α : Type} {f : α → List AV} {z : Nat}

theorem Plain.ones (h : Plain f z) (l : List α) : (l.flatMap f).all AV.one = true := by
  induction l with
  | nil => rfl
  | cons a l ih => rw [List.flatMap_cons, List.all_append, h.one, ih]; rfl
theorem Plain.stills (h : Plain f z) (l : List α) : (l.flatMap f).all AV.still = true := by
  induction l with
  | nil => rfl
  | cons a l ih => rw [List.flatMap_cons, List.all_append, h.still, ih]; rfl
theorem Plain.strips (h : Plain f z) (l : List α) : (l.flatMap f).map AV.strip = l.flatMap f := by
  induction l with
  | nil => rfl
  | cons a l ih => rw [List.flatMap_cons, List.map_append, h.strip, ih]
theorem Plain.lens (h : Plain f z) (l : List α) : (l.flatMap f).length = l.length * z := flat_len h.len l

theorem flat_split (hf : ∀ a, (f a).length = z) {l : List α} {i : Nat} {x : α} (hi : l[i]? = some x) : l.flatMap f = (l.take i).flatMap f ++ (f x ++ (l.drop (i + 1)).flatMap f) ∧ ((l.take i).flatMap f).length = i * z := by
  obtain ⟨hlt, hx⟩ := List.getElem?_eq_some_iff.1 hi
  refine ⟨?_, by rw [flat_len hf, List.length_take, Nat.min_eq_left (by omega)]⟩
  conv => lhs; rw [← List.take_append_drop i l, List.flatMap_append, List.drop_eq_getElem_cons hlt, hx, List.flatMap_cons]

theorem flat_row (hf : ∀ a, (f a).length = z) {l : List α} {i : Nat} {x : α} (hi : l[i]? = some x) : ((l.flatMap f).drop (i * z)).take z = f x := by
  rw [flat_at hf hi, List.take_append_of_le_length (by rw [hf]; exact Nat.le_refl _), ← hf x, List.take_length]

theorem flat_le (hf : ∀ a, (f a).length = z) {l : List α} {i : Nat} {x : α} (hi : l[i]? = some x) (j : Nat) (hj : j ≤ z) : i * z + j ≤ (l.flatMap f).length := by
  have := (List.getElem?_eq_some_iff.1 hi).1
  rw [flat_len hf]
  have h2 : (i + 1) * z ≤ l.length * z := Nat.mul_le_mul_right _ this
  rw [Nat.add_mul] at h2
  omega

theorem flat_set (hf : ∀ a, (f a).length = z) {l : List α} {i j : Nat} {x y : α} {v : AV} (hi : l[i]? = some x) (hj : j < z) (hv : (f x).set j v = f y) : (l.flatMap f).set (i * z + j) v = (l.set i y).flatMap f := by
  obtain ⟨h1, h2⟩ := flat_split hf hi
  have hlt := (List.getElem?_eq_some_iff.1 hi).1
  rw [h1, List.set_append_right _ _ (by omega), show i * z + j - ((l.take i).flatMap f).length = j by omega, List.set_append_left _ _ (by rw [hf]; exact hj), hv]
  have h3 : (l.set i y)[i]? = some y := by rw [List.getElem?_set_self hlt]
  obtain ⟨h4, -⟩ := flat_split hf h3
  rw [h4, List.take_set_of_le (Nat.le_refl _), List.drop_set_of_lt (by omega)]

/-- A slice that never changes. -/
def ISl (f : α → List AV) (v : AV) (l : List α) : Prop := (v = .nils ∧ l = []) ∨ ∃ full tok, v = .sl (l.flatMap f) l.length full tok
/-- An array that is written. -/
def MSl (f : α → List AV) (z : Nat) (s : St) (v : AV) (l : List α) : Prop := (v = .nils ∧ l = []) ∨ (v = .sl [] 0 true none ∧ l = []) ∨ ∃ p, v = .msl p 0 l.length z ∧ s.obj p = some (.cells (l.flatMap f)) ∧ p < s.size
/-- An array that was written. -/
def FSl (f : α → List AV) (z : Nat) (s : St) (v : AV) (l : List α) : Prop := (v = .nils ∧ l = []) ∨ (v = .sl [] 0 true none ∧ l = []) ∨ ∃ p, v = .msl p 0 l.length z ∧ s.obj p = some (.froz (l.flatMap f)) ∧ p < s.size

theorem ISl.len {v : AV} {l : List α} (h : ISl f v l) : lenA v = some (.int .i64 l.length) := by
  rcases h with ⟨rfl, rfl⟩ | ⟨full, tok, rfl⟩ <;> rfl
theorem MSl.len {s : St} {v : AV} {l : List α} (h : MSl f z s v l) : lenA v = some (.int .i64 l.length) := by
  rcases h with ⟨rfl, rfl⟩ | ⟨rfl, rfl⟩ | ⟨p, rfl, _⟩ <;> rfl
theorem FSl.len {s : St} {v : AV} {l : List α} (h : FSl f z s v l) : lenA v = some (.int .i64 l.length) := by
  rcases h with ⟨rfl, rfl⟩ | ⟨rfl, rfl⟩ | ⟨p, rfl, _⟩ <;> rfl
theorem ISl.at (hf : ∀ a, (f a).length = z) {v : AV} {l : List α} (ht : ISl f v l) {i : Nat} {x : α} (hi : l[i]? = some x) : iaddrA z v (.int .i64 i) = some (.eptr (f x ++ (l.drop (i + 1)).flatMap f)) := by
  rcases ht with ⟨rfl, rfl⟩ | ⟨full, tok, rfl⟩
  · simp at hi
  · have := (List.getElem?_eq_some_iff.1 hi).1
    simp only [iaddrA]
    rw [if_pos (by omega), Int.toNat_natCast, flat_at hf hi]
theorem MSl.at {s : St} {v : AV} {l : List α} (ht : MSl f z s v l) {i : Nat} {x : α} (hi : l[i]? = some x) : ∃ p, v = .msl p 0 l.length z ∧ s.obj p = some (.cells (l.flatMap f)) ∧ p < s.size ∧ iaddrA z v (.int .i64 i) = some (.ptr p (i * z)) := by
  rcases ht with ⟨rfl, rfl⟩ | ⟨rfl, rfl⟩ | ⟨p, rfl, h1, h2⟩
  · simp at hi
  · simp at hi
  · have := (List.getElem?_eq_some_iff.1 hi).1
    refine ⟨p, rfl, h1, h2, ?_⟩
    simp only [iaddrA]
    rw [if_pos (by exact ⟨by omega, by omega, trivial⟩), Int.toNat_natCast, Nat.zero_add]
theorem MSl.one {s : St} {v : AV} {l : List α} (h : MSl f z s v l) : v.one = true ∧ v.cells = [v] := by
  rcases h with ⟨rfl, rfl⟩ | ⟨rfl, rfl⟩ | ⟨p, rfl, _⟩ <;> exact ⟨rfl, rfl⟩

theorem MSl.of {s s' : St} {v : AV} {l : List α} (h : MSl f z s v l) (hk : ∀ p, v = .msl p 0 l.length z → p < s.size → s'.obj p = s.obj p) (hs : s.size ≤ s'.size) : MSl f z s' v l := by
  rcases h with h | h | ⟨p, h1, h2, h3⟩
  · exact Or.inl h
  · exact Or.inr (Or.inl h)
  · exact Or.inr (Or.inr ⟨p, h1, (hk p h1 h3).trans h2, by omega⟩)
theorem FSl.of {s s' : St} {v : AV} {l : List α} (h : FSl f z s v l) (hk : ∀ p, v = .msl p 0 l.length z → p < s.size → s'.obj p = s.obj p) (hs : s.size ≤ s'.size) : FSl f z s' v l := by
  rcases h with h | h | ⟨p, h1, h2, h3⟩
  · exact Or.inl h
  · exact Or.inr (Or.inl h)
  · exact Or.inr (Or.inr ⟨p, h1, (hk p h1 h3).trans h2, by omega⟩)
theorem MSl.keep {s s' : St} {v : AV} {l : List α} (h : MSl f z s v l) (hk : Keep s s') : MSl f z s' v l := h.of (fun p _ hp => hk.2 p hp) hk.1
theorem FSl.keep {s s' : St} {v : AV} {l : List α} (h : FSl f z s v l) (hk : Keep s s') : FSl f z s' v l := h.of (fun p _ hp => hk.2 p hp) hk.1

theorem MSl.frz (hP : Plain f z) {s : St} {v : AV} {l : List α} (h : MSl f z s v l) :
    ∃ v' s1, frzA s v = some (v', s1) ∧ ISl f v' l ∧ FSl f z s1 v l ∧ s1.size = s.size ∧ ∀ j, notO v j → s1.obj j = s.obj j := by
  rcases h with ⟨rfl, rfl⟩ | ⟨rfl, rfl⟩ | ⟨p, rfl, h1, h2⟩
  · exact ⟨.nils, s, rfl, Or.inl ⟨rfl, rfl⟩, Or.inl ⟨rfl, rfl⟩, rfl, fun _ _ => rfl⟩
  · exact ⟨_, s, rfl, Or.inr ⟨true, none, rfl⟩, Or.inr (Or.inl ⟨rfl, rfl⟩), rfl, fun _ _ => rfl⟩
  · refine ⟨.sl (l.flatMap f) l.length false none, s.put p (some (.froz (l.flatMap f))), ?_, Or.inr ⟨false, none, rfl⟩, Or.inr (Or.inr ⟨p, rfl, put_eq, h2⟩), rfl, fun j hj => put_ne (fun hh => by subst hh; exact hj _ _ _ rfl)⟩
    simp only [frzA, h1]
    rw [if_pos ⟨by rw [hP.lens]; omega, hP.stills l⟩, List.drop_zero, ← hP.lens, List.take_length, hP.strips]
theorem FSl.frz (hP : Plain f z) {s : St} {v : AV} {l : List α} (h : FSl f z s v l) : ∃ v', frzA s v = some (v', s) ∧ ISl f v' l := by
  rcases h with ⟨rfl, rfl⟩ | ⟨rfl, rfl⟩ | ⟨p, rfl, h1, h2⟩
  · exact ⟨.nils, rfl, Or.inl ⟨rfl, rfl⟩⟩
  · exact ⟨_, rfl, Or.inr ⟨true, none, rfl⟩⟩
  · refine ⟨.sl (l.flatMap f) l.length false none, ?_, Or.inr ⟨false, none, rfl⟩⟩
    simp only [frzA, h1]
    rw [if_pos (by rw [hP.lens]; omega), List.drop_zero, ← hP.lens, List.take_length]

theorem ISl.contents (hP : Plain f z) {s : St} {v : AV} {l : List α} (h : ISl f v l) : contents s z v = some (l.length, l.flatMap f) := by
  rcases h with ⟨rfl, rfl⟩ | ⟨full, tok, rfl⟩
  · rfl
  · simp only [Am.contents]; rw [if_pos (hP.lens l)]

/-- A slice that may grow, or is full. -/
def RSl (f : α → List AV) (N : Nat) (s : St) (v : AV) (l : List α) : Prop := 0 < l.length ∧ ∃ full tok, v = .sl (l.flatMap f) l.length full tok ∧ (full = true ∨ ∃ t, tok = some t ∧ s.obj t = some .right ∧ N ≤ t ∧ t < s.size)
theorem RSl.i {N : Nat} {s : St} {v : AV} {l : List α} (h : RSl f N s v l) : ISl f v l := by
  obtain ⟨-, full, tok, rfl, -⟩ := h; exact Or.inr ⟨full, tok, rfl⟩
theorem RSl.of {N M : Nat} {s s' : St} {v : AV} {l : List α} (h : RSl f N s v l) (hM : M ≤ N) (hk : ∀ p, N ≤ p → p < s.size → s.obj p = some .right → s'.obj p = s.obj p) (hs : s.size ≤ s'.size) : RSl f M s' v l := by
  obtain ⟨h0, full, tok, rfl, h⟩ := h
  refine ⟨h0, full, tok, rfl, ?_⟩
  rcases h with h | ⟨t, h1, h2, h3, h4⟩
  · exact Or.inl h
  · exact Or.inr ⟨t, h1, (hk t h3 h4 h2).trans h2, by omega, by omega⟩

theorem RSl.app (hP : Plain f z) {N : Nat} {s : St} {v u : AV} {l m : List α} (h : RSl f N s v l) (hu : ISl f u m) (hm : 0 < m.length) (hN : N ≤ s.size) {bytes : Nat} (hb : (l.length + m.length) * bytes ≤ 140737488355328) :
    ∃ v' s1, appendA s false z bytes v u = some (v', s1) ∧ RSl f N s1 v' (l ++ m) ∧ s.size ≤ s1.size ∧ (∀ j, j < N → s1.obj j = s.obj j) ∧ ∀ j cs, j < s.size → s.obj j = some (.cells cs) → s1.obj j = some (.cells cs) := by
  have hc := hu.contents hP (s := s)
  obtain ⟨h0, full, tok, rfl, h⟩ := h
  refine ⟨.sl ((l ++ m).flatMap f) (l ++ m).length false (some s.size), if full then s.new .right else (s.put (tok.getD 0) none).new .right, ?_, ?_, ?_, ?_, ?_⟩
  · simp only [appendA, hc]
    rw [if_neg (by omega), if_pos ⟨hP.lens l, hb⟩]
    have e1 : l.flatMap f ++ m.flatMap f = (l ++ m).flatMap f := (List.flatMap_append ..).symm
    have e2 : l.length + m.length = (l ++ m).length := (List.length_append ..).symm
    cases full with
    | true =>
      rw [if_pos rfl, if_pos rfl, e1, e2]
      simp only [freshA]
      rw [if_neg (by simp), if_pos (hP.stills _), hP.strips]
    | false =>
      obtain ⟨t, rfl, h2, h3, h4⟩ := h.resolve_left (by simp)
      rw [if_neg (by simp), if_neg (by simp)]
      simp only [h2, Option.getD_some]
      rw [if_pos ⟨hP.stills m, h0⟩, hP.strips, e1, e2]
  · refine ⟨by simp; omega, false, some s.size, rfl, Or.inr ⟨s.size, rfl, ?_, hN, ?_⟩⟩ <;> cases full <;> simp [St.new, St.put]
  · cases full <;> simp [St.new, St.put]
  · intro j hj
    cases full with
    | true => simp only [if_true]; rw [new_ne (by omega)]
    | false =>
      obtain ⟨t, rfl, h2, h3, h4⟩ := h.resolve_left (by simp)
      simp only [Bool.false_eq_true, if_false, Option.getD_some]
      rw [new_ne (by simp only [St.put]; omega), put_ne (by omega)]
  · intro j cs hj ho
    cases full with
    | true => simp only [if_true]; rw [new_ne (by omega)]; exact ho
    | false =>
      obtain ⟨t, rfl, h2, h3, h4⟩ := h.resolve_left (by simp)
      simp only [Bool.false_eq_true, if_false, Option.getD_some]
      rw [new_ne (by simp only [St.put]; omega), put_ne (by intro hh; subst hh; rw [h2] at ho; cases ho)]
      exact ho

/-- The written array at this place. -/
theorem MSl.set (hf : ∀ a, (f a).length = z) {s : St} {l : List α} {i j p : Nat} {x y : α} {v : AV} (hi : l[i]? = some x) (hj : j < z) (hv : (f x).set j v = f y) (hp : p < s.size) :
    MSl f z (s.put p (some (.cells ((l.flatMap f).set (i * z + j) v)))) (.msl p 0 l.length z) (l.set i y) :=
  Or.inr (Or.inr ⟨p, by rw [List.length_set], by rw [put_eq, flat_set hf hi hj hv], hp⟩)
end
end Go.Am

/- Rows of plain structs, changed one by one. Conditions: none. -/
namespace Go.Am

section
variable {α : Type} {g : α → α} {f : α → List AV} {z : Nat}
/-- All stays but this array. -/
def KeepX (v : AV) (s s' : St) : Prop := s.size ≤ s'.size ∧ ∀ j, j < s.size → notO v j → s'.obj j = s.obj j
theorem KeepX.refl (v : AV) (s : St) : KeepX v s s := ⟨Nat.le_refl _, fun _ _ _ => rfl⟩
theorem KeepX.trans {v : AV} {a b c : St} (h : KeepX v a b) (k : KeepX v b c) : KeepX v a c := ⟨Nat.le_trans h.1 k.1, fun j hj hn => (k.2 j (Nat.lt_of_lt_of_le hj h.1) hn).trans (h.2 j hj hn)⟩
theorem Keep.x {v : AV} {s s' : St} (h : Keep s s') : KeepX v s s' := ⟨h.1, fun j hj _ => h.2 j hj⟩
theorem KeepX.put {s s' : St} {p o l z : Nat} (h : KeepX (.msl p o l z) s s') (x : Option AO) : KeepX (.msl p o l z) s (s'.put p x) :=
  ⟨h.1, fun j hj hn => by rw [put_ne (by intro hh; subst hh; exact hn _ _ _ rfl)]; exact h.2 j hj hn⟩

/-- They lie in different objects. -/
def apart (v u : AV) : Prop := ∀ p o l z, v = .msl p o l z → notO u p
theorem MSl.x {s s' : St} {v u : AV} {l : List α} (h : MSl f z s v l) (hk : KeepX u s s') (ha : apart v u) : MSl f z s' v l := h.of (fun p hp hl => hk.2 p hl (ha _ _ _ _ hp)) hk.1
theorem FSl.x {s s' : St} {v u : AV} {l : List α} (h : FSl f z s v l) (hk : KeepX u s s') (ha : apart v u) : FSl f z s' v l := h.of (fun p hp hl => hk.2 p hl (ha _ _ _ _ hp)) hk.1
theorem MSl.apart {s : St} {v u : AV} {l : List α} (h : MSl f z s v l) (hu : freshO s.size u) : apart v u := by
  intro p o n y he
  rcases h with ⟨rfl, _⟩ | ⟨rfl, _⟩ | ⟨q, rfl, _, hq⟩
  · cases he
  · cases he
  · cases he; exact hu.ne hq
theorem FSl.apart {s : St} {v u : AV} {l : List α} (h : FSl f z s v l) (hu : freshO s.size u) : Am.apart v u := by
  intro p o n y he
  rcases h with ⟨rfl, _⟩ | ⟨rfl, _⟩ | ⟨q, rfl, _, hq⟩
  · cases he
  · cases he
  · cases he; exact hu.ne hq
theorem apart.symm {v u : AV} (h : apart v u) : apart u v := by
  intro p o l z he o' l' z' he'
  exact h p o' l' z' he' o l z he
/-- One cell of the written array changed. -/
theorem MSl.set1 (hf : ∀ a, (f a).length = z) {s : St} {l : List α} {i j p n : Nat} {x y : α} {v : AV} (hi : l[i]? = some x) (hj : j < z) (hv : (f x).set j v = f y) (hp : p < s.size) (hn : n = l.length) :
    MSl f z (s.put p (some (.cells ((l.flatMap f).set (i * z + j) v)))) (.msl p 0 n z) (l.set i y) := by subst hn; exact MSl.set hf hi hj hv hp
end
end Go.Am

/- Appending one struct to an array that is written. Conditions: none. -/
namespace Go.Am
section
variable {α : Type} {f : α → List AV} {z : Nat}

theorem ISl.take (hf : ∀ a, (f a).length = z) {v : AV} {l : List α} (h : ISl f v l) {i : Nat} (hi : i ≤ l.length) : ∃ w, slcA z v none (some (.int .i64 i)) none = some w ∧ ISl f w (l.take i) := by
  rcases h with ⟨rfl, rfl⟩ | ⟨full, tok, rfl⟩
  · obtain rfl : i = 0 := by simpa using hi
    exact ⟨.nils, by simp [slcA, optOf, natOf], Or.inl ⟨rfl, rfl⟩⟩
  · refine ⟨_, ?_, Or.inr ⟨full && i == l.length, if 0 = 0 ∧ i = l.length ∧ (none : Option AV).isNone = true then tok else none, rfl⟩⟩
    simp only [slcA, optOf, natOf]
    rw [if_pos (flat_len hf l), if_pos (by omega), Int.toNat_natCast]
    simp only
    rw [if_pos (by omega), Nat.zero_mul, List.drop_zero, Nat.sub_zero, flat_take hf, List.length_take, Nat.min_eq_left (by omega)]

theorem MSl.app1 (hP : Plain f z) {s : St} {v : AV} {l : List α} (h : MSl f z s v l) (x : α) {bytes : Nat} (hb : (l.length + 1) * bytes ≤ 140737488355328) :
    ∃ v' s1, appendA s true z bytes v (.sl (f x) 1 true none) = some (v', s1) ∧ MSl f z s1 v' (l ++ [x]) ∧ freshO s.size v' ∧ s.size < s1.size ∧ v'.cells = [v'] ∧ v'.one = true ∧ ∀ j, j < s.size → notO v j → s1.obj j = s.obj j := by
  have hc : contents s z (.sl (f x) 1 true none) = some (1, f x) := by simp only [contents]; rw [if_pos (by rw [hP.len]; omega)]
  rcases h with ⟨rfl, rfl⟩ | ⟨rfl, rfl⟩ | ⟨t, rfl, ht, hlt⟩
  · refine ⟨.msl s.size 0 1 z, s.new (.cells (f x)), ?_, Or.inr (Or.inr ⟨s.size, rfl, ?_, by simp [St.new]⟩), ?_, by simp [St.new], rfl, rfl, fun j hj _ => new_ne (by omega)⟩
    · simp only [appendA, hc, freshA]
      rw [if_neg (by omega), if_pos (by simpa using hb), if_pos trivial, if_pos (hP.one x)]
    · rw [new_eq rfl]; simp
    · intro p o n y he; cases he; exact Nat.le_refl _
  · refine ⟨.msl s.size 0 1 z, s.new (.cells (f x)), ?_, Or.inr (Or.inr ⟨s.size, rfl, ?_, by simp [St.new]⟩), ?_, by simp [St.new], rfl, rfl, fun j hj _ => new_ne (by omega)⟩
    · simp only [appendA, hc, freshA]
      rw [if_neg (by omega), if_pos ⟨by simp, by simpa using hb⟩, if_pos trivial, if_pos trivial, List.nil_append, if_pos (hP.one x)]
    · rw [new_eq rfl]; simp
    · intro p o n y he; cases he; exact Nat.le_refl _
  · refine ⟨.msl s.size 0 (l.length + 1) z, (s.put t none).new (.cells (l.flatMap f ++ f x)), ?_, Or.inr (Or.inr ⟨s.size, by simp, ?_, by simp [St.new, St.put]⟩), ?_, by simp [St.new, St.put], rfl, rfl, fun j hj hn => ?_⟩
    · simp only [appendA, hc, ht]
      rw [if_neg (by omega), if_pos ⟨trivial, trivial, by rw [hP.lens]; exact Nat.le_refl _, hb, hP.one x⟩, List.take_of_length_le (by rw [hP.lens]; exact Nat.le_refl _)]
    · rw [new_eq (by simp [St.put]), List.flatMap_append]; simp
    · intro p o n y he; cases he; exact Nat.le_refl _
    · rw [new_ne (by simp only [St.put]; omega), put_ne (by intro h; subst h; exact hn _ _ _ rfl)]
end
end Go.Am

/- Types as trees, and slots that lead to roots. Conditions: none. -/
namespace Go.Am

inductive Tm where
  | mk (kind : Int) (name : ByteArray) (var : Int) (args : List Tm)

mutual
def tyc : Tm → List AV
  | .mk k n v l => [.int .i64 k, .str n, .int .i64 v, .sl (tycs l) l.length false none]
def tycs : List Tm → List AV
  | [] => []
  | t :: r => tyc t ++ tycs r
end
theorem tycs_flat : ∀ l : List Tm, tycs l = l.flatMap tyc
  | [] => by rw [tycs]; rfl
  | t :: r => by rw [tycs, tycs_flat r]; rfl
theorem tyc_len (t : Tm) : (tyc t).length = 4 := by cases t; rw [tyc]; rfl

mutual
/-- What the check of a type lets in. -/
def Val : Tm → Prop
  | .mk k _ v l => 0 ≤ k ∧ k ≤ 5 ∧ (k = 0 → l.length = 0 ∧ 0 ≤ v) ∧ (k = 2 → l.length = 3) ∧ (k = 3 → l.length = 1) ∧ (k = 4 → l.length = 0) ∧ (k = 5 → l.length = 2) ∧ Vals l
def Vals : List Tm → Prop
  | [] => True
  | t :: r => Val t ∧ Vals r
end
theorem vals_at : ∀ {l : List Tm}, Vals l → ∀ {i : Nat} {t : Tm}, l[i]? = some t → Val t
  | [], _, i, t, h => by simp at h
  | a :: r, h, i, t, ht => by
    rw [Vals] at h
    cases i with
    | zero => simp at ht; subst ht; exact h.1
    | succ i => exact vals_at h.2 (by simpa using ht)
theorem vals_of : ∀ {l : List Tm}, (∀ (i : Nat) t, l[i]? = some t → Val t) → Vals l
  | [], _ => by rw [Vals]; trivial
  | a :: r, h => by rw [Vals]; exact ⟨h 0 a rfl, vals_of fun i t ht => h (i + 1) t (by simpa using ht)⟩

/-- A slot leads to a root. -/
inductive RT (up : List Nat) : Nat → Nat → Prop
  | root (i : Nat) (h : up[i]? = some i) : RT up i i
  | step (i j k : Nat) (h : up[i]? = some j) (hn : j ≠ i) (hr : RT up j k) : RT up i k

def Uf (up : List Nat) : Prop := ∀ i, i < up.length → ∃ k, RT up i k

theorem RT.is {up : List Nat} {i k : Nat} (h : RT up i k) : up[k]? = some k := by
  induction h with
  | root i h => exact h
  | step i j k h hn hr ih => exact ih
theorem RT.lt {up : List Nat} {i k : Nat} (h : RT up i k) : k < up.length := (List.getElem?_eq_some_iff.1 h.is).1
theorem RT.app {up : List Nat} {i k : Nat} (h : RT up i k) (l : List Nat) : RT (up ++ l) i k := by
  induction h with
  | root i h => exact .root i (by rw [List.getElem?_append_left (List.getElem?_eq_some_iff.1 h).1]; exact h)
  | step i j k h hn hr ih => exact .step i j k (by rw [List.getElem?_append_left (List.getElem?_eq_some_iff.1 h).1]; exact h) hn ih
theorem Uf.new {up : List Nat} (h : Uf up) : Uf (up ++ [up.length]) := by
  intro i hi
  by_cases hlt : i < up.length
  · obtain ⟨k, hk⟩ := h i hlt
    exact ⟨k, hk.app _⟩
  · simp only [List.length_append, List.length_cons, List.length_nil] at hi
    obtain rfl : i = up.length := by omega
    exact ⟨up.length, .root _ (by simp)⟩
end Go.Am
