/- A stable sort by insertion, and what leaves its result as it is. Conditions: none. -/
set_option linter.unusedSimpArgs false
set_option linter.unusedVariables false
namespace Go.So

structure Ord {α : Type} (lt : α → α → Bool) : Prop where
  asym : ∀ a b, lt a b = true → lt b a = false
  trans : ∀ a b c, lt b a = false → lt c b = false → lt c a = false

section
variable {α : Type} {lt : α → α → Bool}

/-- Into a sorted list: ahead of those that are equal. -/
def ins (lt : α → α → Bool) (x : α) : List α → List α
  | [] => [x]
  | y :: l => if lt y x then y :: ins lt x l else x :: y :: l
def isort (lt : α → α → Bool) (l : List α) : List α := l.foldr (ins lt) []

/-- Sorted. -/
def Srt (lt : α → α → Bool) (l : List α) : Prop := l.Pairwise fun a b => lt b a = false

theorem Ord.strict (O : Ord lt) {a b c : α} (h1 : lt a b = true) (h2 : lt c b = false) : lt a c = true := by
  cases h : lt a c with
  | true => rfl
  | false => have := O.trans b c a h2 h; rw [h1] at this; cases this
theorem Ord.strict' (O : Ord lt) {a b c : α} (h1 : lt b a = false) (h2 : lt b c = true) : lt a c = true := by
  cases h : lt a c with
  | true => rfl
  | false =>
    have := O.trans c a b h h1; rw [h2] at this; cases this
theorem Ord.irr (O : Ord lt) (a : α) : lt a a = false := by
  cases h : lt a a with
  | false => rfl
  | true => have := O.asym a a h; rw [h] at this; cases this

theorem ins_len (x : α) : ∀ l, (ins lt x l).length = l.length + 1
  | [] => rfl
  | y :: l => by
    rw [ins]; split
    · simp [ins_len x l]
    · rfl
theorem isort_len (l : List α) : (isort lt l).length = l.length := by
  induction l with
  | nil => rfl
  | cons x l ih => show (ins lt x (isort lt l)).length = _; rw [ins_len, ih]; rfl
theorem ins_mem (x : α) : ∀ (l : List α) (z : α), z ∈ ins lt x l ↔ z = x ∨ z ∈ l
  | [], z => by simp [ins]
  | y :: l, z => by
    rw [ins]; split
    · simp only [List.mem_cons, ins_mem x l z]
      exact ⟨fun h => h.elim (fun h => Or.inr (Or.inl h)) fun h => h.elim Or.inl fun h => Or.inr (Or.inr h), fun h => h.elim (fun h => Or.inr (Or.inl h)) fun h => h.elim Or.inl fun h => Or.inr (Or.inr h)⟩
    · simp
theorem isort_mem (l : List α) (z : α) : z ∈ isort lt l ↔ z ∈ l := by
  induction l with
  | nil => simp [isort]
  | cons x l ih => show z ∈ ins lt x (isort lt l) ↔ _; rw [ins_mem, ih]; simp
theorem ins_srt (O : Ord lt) (x : α) : ∀ {l : List α}, Srt lt l → Srt lt (ins lt x l)
  | [], _ => by simp [Srt, ins]
  | y :: l, h => by
    have h' := List.pairwise_cons.1 h
    rw [ins]; split
    · rename_i hyx
      refine List.pairwise_cons.2 ⟨fun z hz => ?_, ins_srt O x h'.2⟩
      rcases (ins_mem x l z).1 hz with rfl | hz
      · exact O.asym _ _ hyx
      · exact h'.1 z hz
    · rename_i hyx
      have hyx' : lt y x = false := by simpa using hyx
      refine List.pairwise_cons.2 ⟨fun z hz => ?_, h⟩
      rcases List.mem_cons.1 hz with rfl | hz
      · exact hyx'
      · exact O.trans x y z hyx' (h'.1 z hz)
theorem foldr_srt (O : Ord lt) {S : List α} (hS : Srt lt S) (l : List α) : Srt lt (l.foldr (ins lt) S) := by
  induction l with
  | nil => exact hS
  | cons x l ih => exact ins_srt O x ih
theorem isort_srt (O : Ord lt) (l : List α) : Srt lt (isort lt l) := foldr_srt O List.Pairwise.nil l
theorem ins_front {x : α} : ∀ {l : List α}, (∀ z, z ∈ l → lt z x = false) → ins lt x l = x :: l
  | [], _ => rfl
  | y :: l, h => by rw [ins, if_neg (by rw [h y (by simp)]; simp)]
theorem isort_of : ∀ {l : List α}, Srt lt l → isort lt l = l
  | [], _ => rfl
  | x :: l, h => by
    have h' := List.pairwise_cons.1 h
    show ins lt x (isort lt l) = _
    rw [isort_of h'.2, ins_front h'.1]

/-- Two that are apart change places. -/
theorem ins_comm (O : Ord lt) {x y : α} (hyx : lt y x = true) : ∀ {S : List α}, Srt lt S → ins lt x (ins lt y S) = ins lt y (ins lt x S)
  | [], _ => by
    have hxy := O.asym _ _ hyx
    simp [ins, hyx, hxy]
  | z :: S, h => by
    have h' := List.pairwise_cons.1 h
    have hxy := O.asym _ _ hyx
    by_cases hzy : lt z y = true
    · have hzx : lt z x = true := by
        cases hc : lt z x with
        | true => rfl
        | false => have := O.trans y x z hxy hc; rw [hzy] at this; cases this
      simp only [ins, hzy, hzx, if_true]
      rw [ins_comm O hyx h'.2]
    · have hzy' : lt z y = false := by simpa using hzy
      by_cases hzx : lt z x = true
      · simp [ins, hzy', hzx, hyx]
      · have hzx' : lt z x = false := by simpa using hzx
        simp [ins, hzy', hzx', hyx, hxy]

theorem foldr_ins (O : Ord lt) {S : List α} (hS : Srt lt S) (x : α) : ∀ (t : List α), (ins lt x t).foldr (ins lt) S = ins lt x (t.foldr (ins lt) S)
  | [] => rfl
  | y :: t => by
    rw [ins]; split
    · rename_i hyx
      show ins lt y ((ins lt x t).foldr (ins lt) S) = ins lt x (ins lt y (t.foldr (ins lt) S))
      rw [foldr_ins O hS x t, ins_comm O hyx (foldr_srt O hS t)]
    · rfl
theorem foldr_isort (O : Ord lt) {S : List α} (hS : Srt lt S) : ∀ (l : List α), (isort lt l).foldr (ins lt) S = l.foldr (ins lt) S
  | [] => rfl
  | x :: l => by
    show (ins lt x (isort lt l)).foldr (ins lt) S = ins lt x (l.foldr (ins lt) S)
    rw [foldr_ins O hS, foldr_isort O hS l]

theorem isort_app (l m : List α) : isort lt (l ++ m) = l.foldr (ins lt) (isort lt m) := by rw [isort, List.foldr_append]; rfl
/-- What is sorted alike may stand for one another. -/
theorem isort_congr (O : Ord lt) {X l l' Y : List α} (h : isort lt l = isort lt l') : isort lt (X ++ l ++ Y) = isort lt (X ++ l' ++ Y) := by
  rw [List.append_assoc, List.append_assoc, isort_app, isort_app X, isort_app l, isort_app l', ← foldr_isort O (isort_srt O Y) l, ← foldr_isort O (isort_srt O Y) l', h]
theorem isort_idem (O : Ord lt) (l : List α) : isort lt (isort lt l) = isort lt l := isort_of (isort_srt O l)
theorem isort_two (O : Ord lt) (l m : List α) : isort lt (isort lt l ++ isort lt m) = isort lt (l ++ m) := by
  have h1 := isort_congr O (X := []) (Y := isort lt m) (isort_idem O l)
  have h2 := isort_congr O (X := l) (Y := []) (isort_idem O m)
  simp only [List.nil_append, List.append_nil] at h1 h2
  rw [h1, h2]

/-- One passes over those that are all less. -/
theorem over (O : Ord lt) {x : α} {S : List α} (hS : Srt lt S) : ∀ (V : List α), (∀ v, v ∈ V → lt v x = true) → ins lt x (V.foldr (ins lt) S) = V.foldr (ins lt) (ins lt x S)
  | [], _ => rfl
  | v :: V, h => by
    show ins lt x (ins lt v (V.foldr (ins lt) S)) = ins lt v (V.foldr (ins lt) (ins lt x S))
    rw [ins_comm O (h v (by simp)) (foldr_srt O hS V), over O hS V fun u hu => h u (by simp [hu])]
theorem over_all (O : Ord lt) {S : List α} (hS : Srt lt S) : ∀ (U V : List α), (∀ u, u ∈ U → ∀ v, v ∈ V → lt v u = true) → U.foldr (ins lt) (V.foldr (ins lt) S) = V.foldr (ins lt) (U.foldr (ins lt) S)
  | [], _, _ => rfl
  | u :: U, V, h => by
    show ins lt u (U.foldr (ins lt) (V.foldr (ins lt) S)) = V.foldr (ins lt) (ins lt u (U.foldr (ins lt) S))
    rw [over_all O hS U V fun u hu => h u (by simp [hu]), over O (foldr_srt O hS U) V (h u (by simp))]
/-- Blocks change places, if what comes ahead is less. -/
theorem isort_rot (O : Ord lt) (X U V Y : List α) (h : ∀ u, u ∈ U → ∀ v, v ∈ V → lt v u = true) : isort lt (X ++ U ++ V ++ Y) = isort lt (X ++ V ++ U ++ Y) := by
  have e1 : X ++ U ++ V ++ Y = X ++ (U ++ (V ++ Y)) := by simp
  have e2 : X ++ V ++ U ++ Y = X ++ (V ++ (U ++ Y)) := by simp
  rw [e1, e2, isort_app, isort_app X, isort_app U, isort_app V, isort_app V, isort_app U, over_all O (isort_srt O Y) U V h]

theorem srt_app {l m : List α} : Srt lt (l ++ m) ↔ Srt lt l ∧ Srt lt m ∧ ∀ a, a ∈ l → ∀ b, b ∈ m → lt b a = false := List.pairwise_append
/-- A merge by halves. -/
theorem merge_halves (O : Ord lt) {A1 A2 B1 B2 : List α} (hA : Srt lt (A1 ++ A2)) (hB : Srt lt (B1 ++ B2)) (h1 : ∀ a, a ∈ A2 → ∀ b, b ∈ B1 → lt b a = true) (h2 : ∀ a, a ∈ A1 → ∀ b, b ∈ B2 → lt b a = false) :
    isort lt (A1 ++ B1) ++ isort lt (A2 ++ B2) = isort lt (A1 ++ A2 ++ (B1 ++ B2)) := by
  have hA' := srt_app.1 hA
  have hB' := srt_app.1 hB
  have hs : Srt lt (isort lt (A1 ++ B1) ++ isort lt (A2 ++ B2)) := by
    refine srt_app.2 ⟨isort_srt O _, isort_srt O _, fun a ha b hb => ?_⟩
    rw [isort_mem, List.mem_append] at ha hb
    rcases ha with ha | ha <;> rcases hb with hb | hb
    · exact hA'.2.2 a ha b hb
    · exact h2 a ha b hb
    · exact O.asym _ _ (h1 b hb a ha)
    · exact hB'.2.2 a ha b hb
  rw [← isort_of hs, isort_two O]
  have := isort_rot O A1 A2 B1 B2 h1
  have e1 : A1 ++ A2 ++ (B1 ++ B2) = A1 ++ A2 ++ B1 ++ B2 := by simp
  have e2 : A1 ++ B1 ++ (A2 ++ B2) = A1 ++ B1 ++ A2 ++ B2 := by simp
  rw [e1, e2, this]
/-- One more at the end of a sorted list. -/
theorem isort_snoc (O : Ord lt) (A B : List α) (x : α) (h : Srt lt (A ++ B)) (hA : ∀ a, a ∈ A → lt x a = false) (hB : ∀ b, b ∈ B → lt x b = true) : A ++ x :: B = isort lt (A ++ B ++ [x]) := by
  have h' := srt_app.1 h
  have hs : Srt lt (A ++ x :: B) := by
    refine srt_app.2 ⟨h'.1, List.pairwise_cons.2 ⟨fun b hb => O.asym _ _ (hB b hb), h'.2.1⟩, fun a ha b hb => ?_⟩
    rcases List.mem_cons.1 hb with rfl | hb
    · exact hA a ha
    · exact h'.2.2 a ha b hb
  have hr := isort_rot O A B [x] [] (fun u hu v hv => by rw [List.mem_singleton.1 hv]; exact hB u hu)
  simp only [List.append_nil] at hr
  rw [hr]
  have e : A ++ [x] ++ B = A ++ x :: B := by simp
  rw [e, isort_of hs]
end
end Go.So
