/- A ring of items, each with the one behind it and the one ahead of it. Conditions: none. -/
set_option linter.unusedSimpArgs false
set_option linter.unusedVariables false
namespace Go.St

/-- Neighbours point to each other: ol to the older one, la to the later one. -/
def Lk (la ol : Nat → Nat) : List Nat → Prop
  | a :: b :: t => ol a = b ∧ la b = a ∧ Lk la ol (b :: t)
  | _ => True
/-- The ring of r and these, the most recent one first. -/
structure Ring (la ol : Nat → Nat) (r : Nat) (bs : List Nat) : Prop where
  nd : (r :: bs).Nodup
  lk : Lk la ol (r :: bs ++ [r])

theorem Lk.split {la ol : Nat → Nat} : ∀ (A : List Nat) (a : Nat) (B : List Nat), Lk la ol (A ++ a :: B) ↔ Lk la ol (A ++ [a]) ∧ Lk la ol (a :: B)
  | [], a, B => by simp [Lk]
  | [x], a, B => by simp [Lk, and_assoc]
  | x :: y :: A, a, B => by
    have := Lk.split (la := la) (ol := ol) (y :: A) a B
    simp only [List.cons_append, Lk] at this ⊢
    rw [this]
    simp only [and_assoc]

def up (f : Nat → Nat) (k v : Nat) : Nat → Nat := fun j => if j = k then v else f j
theorem up_same (f : Nat → Nat) (k v : Nat) : up f k v k = v := by simp [up]
theorem up_ne {f : Nat → Nat} {k v j : Nat} (h : j ≠ k) : up f k v j = f j := by simp [up, h]

/-- What a chain reads. -/
theorem Lk.of {la ol la' ol' : Nat → Nat} : ∀ {L : List Nat}, Lk la ol L → (∀ a, a ∈ L.dropLast → ol' a = ol a) → (∀ b, b ∈ L.tail → la' b = la b) → Lk la' ol' L
  | [], _, _, _ => trivial
  | [_], _, _, _ => trivial
  | a :: b :: t, ⟨h1, h2, h3⟩, ho, hl => by
    refine ⟨by rw [ho a (by simp)]; exact h1, by rw [hl b (by simp)]; exact h2, Lk.of h3 (fun x hx => ho x ?_) (fun x hx => hl x ?_)⟩
    · simp only [List.dropLast_cons_cons, List.mem_cons]; exact Or.inr hx
    · simp only [List.tail_cons, List.mem_cons]
      simp only [List.tail_cons] at hx
      exact Or.inr hx

theorem Ring.older {la ol : Nat → Nat} {r x : Nat} {bs : List Nat} (h : Ring la ol r (x :: bs)) : ol r = x ∧ la x = r := by
  have := h.lk
  simp only [List.cons_append, Lk] at this
  exact ⟨this.1, this.2.1⟩
theorem Ring.alone {la ol : Nat → Nat} {r : Nat} (h : Ring la ol r []) : ol r = r ∧ la r = r := by
  have := h.lk
  simp only [List.cons_append, List.nil_append, Lk] at this
  exact ⟨this.1, this.2.1⟩

/-- Put in front. -/
theorem Ring.front {la ol : Nat → Nat} {r x : Nat} {bs : List Nat} (h : Ring la ol r bs) (hx : x ∉ r :: bs) :
    Ring (up (up la x r) (ol r) x) (up (up ol x (ol r)) r x) r (x :: bs) := by
  have hxr : x ≠ r := fun e => hx (by simp [e])
  have hxb : x ∉ bs := fun e => hx (by simp [e])
  have hnd := h.nd
  simp only [List.nodup_cons] at hnd
  refine ⟨by simp only [List.nodup_cons, List.mem_cons, not_or]; exact ⟨⟨Ne.symm hxr, hnd.1⟩, hxb, hnd.2⟩, ?_⟩
  cases bs with
  | nil =>
    obtain ⟨h1, h2⟩ := h.alone
    simp only [List.cons_append, List.nil_append, Lk, h1, and_true]
    refine ⟨up_same _ _ _, ?_, ?_, up_same _ _ _⟩
    · rw [up_ne hxr, up_same]
    · rw [up_ne hxr, up_same]
  | cons y bs =>
    obtain ⟨h1, h2⟩ := h.older
    have hyr : y ≠ r := fun e => hnd.1 (by simp [e])
    have hxy : x ≠ y := fun e => hxb (by simp [e])
    have hyb : y ∉ bs := (List.nodup_cons.1 hnd.2).1
    have hrb : r ∉ bs := fun e => hnd.1 (by simp [e])
    have hl := h.lk
    simp only [List.cons_append, Lk] at hl
    simp only [List.cons_append, Lk, h1]
    refine ⟨up_same _ _ _, by rw [up_ne hxy, up_same], by rw [up_ne hxr, up_same], up_same _ _ _, Lk.of hl.2.2 (fun a ha => ?_) (fun a ha => ?_)⟩
    · have hm : a ∈ y :: bs := by
        have e : (y :: (bs ++ [r])).dropLast = y :: bs := by rw [← List.cons_append, List.dropLast_concat]
        rw [e] at ha; exact ha
      rw [up_ne (by rintro rfl; exact hnd.1 hm), up_ne (by rintro rfl; exact hxb hm)]
    · simp only [List.tail_cons, List.mem_append, List.mem_singleton] at ha
      have h3 : a ≠ y := by
        rintro rfl
        rcases ha with ha | ha
        · exact hyb ha
        · exact hyr ha
      have h4 : a ≠ x := by
        rintro rfl
        rcases ha with ha | ha
        · exact hxb (by simp [ha])
        · exact hxr ha
      rw [up_ne h3, up_ne h4]

theorem snoc_of {α : Type} : ∀ (l : List α) (a : α), ∃ A p, a :: l = A ++ [p]
  | [], a => ⟨[], a, rfl⟩
  | b :: l, a => by
    obtain ⟨A, p, h⟩ := snoc_of l b
    exact ⟨a :: A, p, by rw [h]; rfl⟩

/-- Taken out. -/
theorem Ring.out {la ol : Nat → Nat} {r x : Nat} {l1 l2 : List Nat} (h : Ring la ol r (l1 ++ x :: l2)) :
    la x ∈ r :: (l1 ++ l2) ∧ ol x ∈ r :: (l1 ++ l2) ∧ Ring (up la (ol x) (la x)) (up ol (la x) (ol x)) r (l1 ++ l2) := by
  obtain ⟨A, p, hA⟩ := snoc_of l1 r
  obtain ⟨q, B, hB⟩ : ∃ q B, l2 ++ [r] = q :: B := by cases l2 <;> exact ⟨_, _, rfl⟩
  have hl := h.lk
  have e1 : r :: (l1 ++ x :: l2) ++ [r] = A ++ p :: x :: q :: B := by
    have : r :: (l1 ++ x :: l2) ++ [r] = (r :: l1) ++ (x :: (l2 ++ [r])) := by simp
    rw [this, hA, hB]; simp
  rw [e1, Lk.split] at hl
  obtain ⟨hl1, hl2⟩ := hl
  simp only [Lk] at hl2
  obtain ⟨hp1, hp2, hq1, hq2, hl3⟩ := hl2
  have hnd := h.nd
  have hnd2 : (r :: (l1 ++ l2)).Nodup := by
    refine hnd.sublist ?_
    exact List.Sublist.cons_cons _ (List.Sublist.append (List.Sublist.refl _) (List.sublist_cons_self ..))
  have hpm : p ∈ r :: l1 := by rw [hA]; simp
  have hqm : q ∈ l2 ++ [r] := by rw [hB]; simp
  rw [hp2, hq1]
  refine ⟨?_, ?_, hnd2, ?_⟩
  · rcases List.mem_cons.1 hpm with rfl | hp
    · simp
    · simp [hp]
  · rcases List.mem_append.1 hqm with hq | hq
    · simp [hq]
    · simp [List.mem_singleton.1 hq]
  · have e2 : r :: (l1 ++ l2) ++ [r] = A ++ p :: q :: B := by
      have : r :: (l1 ++ l2) ++ [r] = (r :: l1) ++ (l2 ++ [r]) := by simp
      rw [this, hA, hB]; simp
    rw [e2, Lk.split]
    -- who stands where
    have hnA : (A ++ [p]).Nodup := by rw [← hA]; exact hnd2.sublist (List.Sublist.cons_cons _ (List.sublist_append_left ..))
    have hpA : p ∉ A := by
      rw [List.nodup_append] at hnA
      exact fun hm => hnA.2.2 p hm p (by simp) rfl
    have hdis : ∀ a, a ∈ r :: l1 → a ∉ l2 := fun a ha hb => by
      have : (r :: l1 ++ l2).Nodup := hnd2
      rw [List.nodup_append] at this
      exact this.2.2 a ha a hb rfl
    refine ⟨Lk.of hl1 (fun a ha => ?_) (fun b hb => ?_), up_same _ _ _, up_same _ _ _, Lk.of hl3 (fun a ha => ?_) (fun b hb => ?_)⟩
    · rw [List.dropLast_concat] at ha
      exact up_ne (by rintro rfl; exact hpA ha)
    · -- what stands behind r in the first part is not q
      refine up_ne ?_
      rintro rfl
      have hb1 : b ∈ l1 := by
        have : (A ++ [p]).tail = l1 := by rw [← hA]; rfl
        rw [this] at hb; exact hb
      rcases List.mem_append.1 hqm with hq | hq
      · exact hdis b (by simp [hb1]) hq
      · rw [List.mem_singleton.1 hq] at hb1
        simp only [List.nodup_cons, List.mem_append, not_or] at hnd2
        exact hnd2.1.1 hb1
    · refine up_ne ?_
      rintro rfl
      have : (q :: B).dropLast = l2 := by rw [← hB, List.dropLast_concat]
      rw [this] at ha
      exact hdis a hpm ha
    · refine up_ne ?_
      rintro rfl
      simp only [List.tail_cons] at hb
      have hq2 : (l2 ++ [r]).Nodup := by
        have hr : r ∉ l2 := hdis r (by simp)
        have hl2n : l2.Nodup := hnd2.sublist (List.Sublist.cons _ (List.sublist_append_right ..))
        rw [List.nodup_append]
        refine ⟨hl2n, by simp, fun a ha c hc => ?_⟩
        rw [List.mem_singleton.1 hc]
        rintro rfl
        exact hr ha
      rw [hB, List.nodup_cons] at hq2
      exact hq2.1 hb
end Go.St
