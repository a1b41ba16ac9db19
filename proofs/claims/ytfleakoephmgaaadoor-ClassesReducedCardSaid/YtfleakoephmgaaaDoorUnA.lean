/- The check of a type, and its variables, as functions. Conditions: none. -/
import Derived.Test.YtfleakoephmgaaaDoorAmW
import Derived.Shelf.Abstract
set_option linter.unusedSimpArgs false
set_option linter.unusedVariables false
namespace Go.Am
namespace Un

def kof : Tm → Int | .mk k _ _ _ => k
def nof : Tm → ByteArray | .mk _ n _ _ => n
def vof : Tm → Int | .mk _ _ v _ => v
def lof : Tm → List Tm | .mk _ _ _ l => l

mutual
def tsz : Tm → Nat
  | .mk _ _ _ l => 1 + tszs l
def tszs : List Tm → Nat
  | [] => 0
  | t :: r => tsz t + tszs r
end
theorem tsz_at : ∀ {l : List Tm} {i : Nat} {t : Tm}, l[i]? = some t → tsz t ≤ tszs l
  | [], i, t, h => by simp at h
  | a :: r, i, t, h => by
    rw [tszs]
    cases i with
    | zero => simp at h; subst h; omega
    | succ i => have := tsz_at (l := r) (i := i) (by simpa using h); omega

def szK (k : Int) : Int := if k = 0 then 0 else if k = 1 then -1 else if k = 2 then 3 else if k = 3 then 1 else if k = 4 then 0 else 2

/-- Is the argument a row? -/
def rowed (k : Int) (i : Nat) (a : Tm) : Bool :=
  bif k == 1 then decide (kof a ≥ 4) else (k == 2 && (i : Int) == 1) || (k == 3) || (k == 5 && (i : Int) == 1)

mutual
/-- What the check of a type says, and what it leaves. -/
def chk (row : Bool) (depth left : Int) : Tm → Int × Int
  | .mk k n v l =>
    if left - 1 < 0 ∨ depth > 400 then (2, left - 1)
    else if k < 0 ∨ k > 5 then (9, left - 1)
    else if (szK k ≥ 0 ∧ (l.length : Int) ≠ szK k) ∨ (k ≠ 0 ∧ v ≠ 0) ∨ (k ≠ 1 ∧ k ≠ 5 ∧ (n.toList == ({ data := #[] } : ByteArray).toList) = false) then (3, left - 1)
    else if k ≠ 0 ∧ row ≠ decide (k ≥ 4) then (9, left - 1)
    else if k = 0 ∧ (v < 0 ∨ v ≥ 4096) then (4, left - 1)
    else chks k 0 (depth + 1) (left - 1) l
def chks (k : Int) (i : Nat) (depth left : Int) : List Tm → Int × Int
  | [] => (0, left)
  | a :: r => if (chk (rowed k i a) depth left a).1 ≠ 0 then chk (rowed k i a) depth left a else chks k (i + 1) depth (chk (rowed k i a) depth left a).2 r
end

section
variable {row : Bool} {depth left k v : Int} {n : ByteArray} {l : List Tm}
theorem chk_large (h : left - 1 < 0 ∨ depth > 400) : chk row depth left (.mk k n v l) = (2, left - 1) := by rw [chk, if_pos h]
theorem chk_kind (h : ¬ (left - 1 < 0 ∨ depth > 400)) (hk : k < 0 ∨ k > 5) : chk row depth left (.mk k n v l) = (9, left - 1) := by rw [chk, if_neg h, if_pos hk]
theorem chk0 (h : ¬ (left - 1 < 0 ∨ depth > 400)) : chk row depth left (.mk 0 n v l) = (bif ((l.length : Int) != 0) then (3, left - 1) else bif (n.toList == ({ data := #[] } : ByteArray).toList) then (bif decide (v < 0) then (4, left - 1) else bif decide (v ≥ 4096) then (4, left - 1) else chks 0 0 (depth + 1) (left - 1) l) else (3, left - 1)) := by
  rw [chk, if_neg h, if_neg (by omega)]
  cases l <;> cases c2 : (n.toList == ({ data := #[] } : ByteArray).toList) <;> cases c3 : decide (v < 0) <;> cases c4 : decide (v ≥ 4096) <;>
    simp only [bne_iff_ne, bne_eq_false_iff_eq, decide_eq_true_eq, decide_eq_false_iff_not] at c3 c4 <;> simp [szK, c2, c3, c4] <;> intros <;> omega
theorem chk1 (h : ¬ (left - 1 < 0 ∨ depth > 400)) : chk row depth left (.mk 1 n v l) = (bif (v != 0) then (3, left - 1) else bif row then (9, left - 1) else chks 1 0 (depth + 1) (left - 1) l) := by
  rw [chk, if_neg h, if_neg (by omega)]
  cases c3 : (v != 0) <;> cases row <;>
    simp only [bne_iff_ne, bne_eq_false_iff_eq, decide_eq_true_eq, decide_eq_false_iff_not] at c3 <;> simp [szK, c3]
theorem chk2 (h : ¬ (left - 1 < 0 ∨ depth > 400)) : chk row depth left (.mk 2 n v l) = (bif ((l.length : Int) != 3) then (3, left - 1) else bif (v != 0) then (3, left - 1) else bif (n.toList == ({ data := #[] } : ByteArray).toList) then (bif row then (9, left - 1) else chks 2 0 (depth + 1) (left - 1) l) else (3, left - 1)) := by
  rw [chk, if_neg h, if_neg (by omega)]
  cases c1 : ((l.length : Int) != 3) <;> cases c2 : (n.toList == ({ data := #[] } : ByteArray).toList) <;> cases c3 : (v != 0) <;> cases row <;>
    simp only [bne_iff_ne, bne_eq_false_iff_eq, decide_eq_true_eq, decide_eq_false_iff_not] at c1 c3 <;> simp [szK, c1, c2, c3]
theorem chk3 (h : ¬ (left - 1 < 0 ∨ depth > 400)) : chk row depth left (.mk 3 n v l) = (bif ((l.length : Int) != 1) then (3, left - 1) else bif (v != 0) then (3, left - 1) else bif (n.toList == ({ data := #[] } : ByteArray).toList) then (bif row then (9, left - 1) else chks 3 0 (depth + 1) (left - 1) l) else (3, left - 1)) := by
  rw [chk, if_neg h, if_neg (by omega)]
  cases c1 : ((l.length : Int) != 1) <;> cases c2 : (n.toList == ({ data := #[] } : ByteArray).toList) <;> cases c3 : (v != 0) <;> cases row <;>
    simp only [bne_iff_ne, bne_eq_false_iff_eq, decide_eq_true_eq, decide_eq_false_iff_not] at c1 c3 <;> simp [szK, c1, c2, c3]
theorem chk4 (h : ¬ (left - 1 < 0 ∨ depth > 400)) : chk row depth left (.mk 4 n v l) = (bif ((l.length : Int) != 0) then (3, left - 1) else bif (v != 0) then (3, left - 1) else bif (n.toList == ({ data := #[] } : ByteArray).toList) then (bif row then chks 4 0 (depth + 1) (left - 1) l else (9, left - 1)) else (3, left - 1)) := by
  rw [chk, if_neg h, if_neg (by omega)]
  cases l <;> cases c2 : (n.toList == ({ data := #[] } : ByteArray).toList) <;> cases c3 : (v != 0) <;> cases row <;>
    simp only [bne_iff_ne, bne_eq_false_iff_eq, decide_eq_true_eq, decide_eq_false_iff_not] at c3 <;> simp [szK, c2, c3] <;> intros <;> omega
theorem chk5 (h : ¬ (left - 1 < 0 ∨ depth > 400)) : chk row depth left (.mk 5 n v l) = (bif ((l.length : Int) != 2) then (3, left - 1) else bif (v != 0) then (3, left - 1) else bif row then chks 5 0 (depth + 1) (left - 1) l else (9, left - 1)) := by
  rw [chk, if_neg h, if_neg (by omega)]
  cases c1 : ((l.length : Int) != 2) <;> cases c3 : (v != 0) <;> cases row <;>
    simp only [bne_iff_ne, bne_eq_false_iff_eq, decide_eq_true_eq, decide_eq_false_iff_not] at c1 c3 <;> simp [szK, c1, c3]
end

mutual
theorem chk_le (row : Bool) (depth left : Int) : ∀ t : Tm, (chk row depth left t).2 + 1 ≤ left
  | .mk k n v l => by
    have := chks_le k 0 (depth + 1) (left - 1) l
    rw [chk]
    (repeat' split) <;> first | omega | (simp only []; omega) | (show _ + 1 ≤ left; omega)
theorem chks_le (k : Int) (i : Nat) (depth left : Int) : ∀ l : List Tm, (chks k i depth left l).2 ≤ left
  | [] => by rw [chks]; simp
  | a :: r => by
    have h1 := chk_le (rowed k i a) depth left a
    have h2 := chks_le k (i + 1) depth (chk (rowed k i a) depth left a).2 r
    rw [chks]
    split <;> omega
end
mutual
theorem chk_ok (row : Bool) (depth left : Int) : ∀ t : Tm, (chk row depth left t).1 = 0 → 0 ≤ (chk row depth left t).2
  | .mk k n v l => by
    by_cases h1 : left - 1 < 0
    · rw [chk_large (Or.inl h1)]; simp
    · have := chks_ok k 0 (depth + 1) (left - 1) l (by omega)
      rw [chk]
      (repeat' split) <;> first | exact this | (intro h; simp at h)
theorem chks_ok (k : Int) (i : Nat) (depth left : Int) : ∀ l : List Tm, 0 ≤ left → (chks k i depth left l).1 = 0 → 0 ≤ (chks k i depth left l).2
  | [] => fun h _ => by rw [chks]; exact h
  | a :: r => by
    intro h h1
    rw [chks] at h1 ⊢
    split at h1
    · rename_i h2; exact absurd h1 h2
    · rename_i h2
      have h3 : (chk (rowed k i a) depth left a).1 = 0 := Classical.not_not.1 h2
      rw [if_neg h2]
      exact chks_ok k (i + 1) depth _ r (chk_ok (rowed k i a) depth left a h3) h1
end

mutual
/-- The variables in the order in which they come first. -/
def fre : Tm → List Int
  | .mk k _ v l => if k = 0 then [v] else fres [] l
def fres (out : List Int) : List Tm → List Int
  | [] => out
  | a :: r => fres (adds out (fre a)) r
def adds (out : List Int) : List Int → List Int
  | [] => out
  | v :: r => adds (if out.contains v then out else out ++ [v]) r
end
end Un
end Go.Am

/- A stable sort by insertion, and what leaves its result as it is. Conditions: none. -/
namespace Go.So

structure Ord {α : Type} (lt : α → α → Bool) : Prop where
  asym : ∀ a b, lt a b = true → lt b a = false
  trans : ∀ a b c, lt b a = false → lt c b = false → lt c a = false

section
variable {α : Type} {lt : α → α → Bool}

/-- Into a sorted list: ahead of those that are equal. -/
def ins (lt : α → α → Bool) (x : α) : List α → List α
  | [] => [x]
  | y :: l => if lt y x then y :: ins lt x l else x :: y :: l
def isort (lt : α → α → Bool) (l : List α) : List α := l.foldr (ins lt) []

/-- Sorted. -/
def Srt (lt : α → α → Bool) (l : List α) : Prop := l.Pairwise fun a b => lt b a = false

theorem Ord.strict (O : Ord lt) {a b c : α} (h1 : lt a b = true) (h2 : lt c b = false) : lt a c = true := by
  cases h : lt a c with
  | true => rfl
  | false => have := O.trans b c a h2 h; rw [h1] at this; cases this
theorem Ord.strict' (O : Ord lt) {a b c : α} (h1 : lt b a = false) (h2 : lt b c = true) : lt a c = true := by
  cases h : lt a c with
  | true => rfl
  | false =>
    have := O.trans c a b h h1; rw [h2] at this; cases this
theorem Ord.irr (O : Ord lt) (a : α) : lt a a = false := by
  cases h : lt a a with
  | false => rfl
  | true => have := O.asym a a h; rw [h] at this; cases this

theorem ins_len (x : α) : ∀ l, (ins lt x l).length = l.length + 1
  | [] => rfl
  | y :: l => by
    rw [ins]; split
    · simp [ins_len x l]
    · rfl
theorem isort_len (l : List α) : (isort lt l).length = l.length := by
  induction l with
  | nil => rfl
  | cons x l ih => show (ins lt x (isort lt l)).length = _; rw [ins_len, ih]; rfl
theorem ins_mem (x : α) : ∀ (l : List α) (z : α), z ∈ ins lt x l ↔ z = x ∨ z ∈ l
  | [], z => by simp [ins]
  | y :: l, z => by
    rw [ins]; split
    · simp only [List.mem_cons, ins_mem x l z]
      exact ⟨fun h => h.elim (fun h => Or.inr (Or.inl h)) fun h => h.elim Or.inl fun h => Or.inr (Or.inr h), fun h => h.elim (fun h => Or.inr (Or.inl h)) fun h => h.elim Or.inl fun h => Or.inr (Or.inr h)⟩
    · simp
theorem isort_mem (l : List α) (z : α) : z ∈ isort lt l ↔ z ∈ l := by
  induction l with
  | nil => simp [isort]
  | cons x l ih => show z ∈ ins lt x (isort lt l) ↔ _; rw [ins_mem, ih]; simp
theorem ins_srt (O : Ord lt) (x : α) : ∀ {l : List α}, Srt lt l → Srt lt (ins lt x l)
  | [], _ => by simp [Srt, ins]
  | y :: l, h => by
    have h' := List.pairwise_cons.1 h
    rw [ins]; split
    · rename_i hyx
      refine List.pairwise_cons.2 ⟨fun z hz => ?_, ins_srt O x h'.2⟩
      rcases (ins_mem x l z).1 hz with rfl | hz
      · exact O.asym _ _ hyx
      · exact h'.1 z hz
    · rename_i hyx
      have hyx' : lt y x = false := by simpa using hyx
      refine List.pairwise_cons.2 ⟨fun z hz => ?_, h⟩
      rcases List.mem_cons.1 hz with rfl | hz
      · exact hyx'
      · exact O.trans x y z hyx' (h'.1 z hz)
theorem foldr_srt (O : Ord lt) {S : List α} (hS : Srt lt S) (l : List α) : Srt lt (l.foldr (ins lt) S) := by
  induction l with
  | nil => exact hS
  | cons x l ih => exact ins_srt O x ih
theorem isort_srt (O : Ord lt) (l : List α) : Srt lt (isort lt l) := foldr_srt O List.Pairwise.nil l
theorem ins_front {x : α} : ∀ {l : List α}, (∀ z, z ∈ l → lt z x = false) → ins lt x l = x :: l
  | [], _ => rfl
  | y :: l, h => by rw [ins, if_neg (by rw [h y (by simp)]; simp)]
theorem isort_of : ∀ {l : List α}, Srt lt l → isort lt l = l
  | [], _ => rfl
  | x :: l, h => by
    have h' := List.pairwise_cons.1 h
    show ins lt x (isort lt l) = _
    rw [isort_of h'.2, ins_front h'.1]

/-- Two that are apart change places. -/
theorem ins_comm (O : Ord lt) {x y : α} (hyx : lt y x = true) : ∀ {S : List α}, Srt lt S → ins lt x (ins lt y S) = ins lt y (ins lt x S)
  | [], _ => by
    have hxy := O.asym _ _ hyx
    simp [ins, hyx, hxy]
  | z :: S, h => by
    have h' := List.pairwise_cons.1 h
    have hxy := O.asym _ _ hyx
    by_cases hzy : lt z y = true
    · have hzx : lt z x = true := by
        cases hc : lt z x with
        | true => rfl
        | false => have := O.trans y x z hxy hc; rw [hzy] at this; cases this
      simp only [ins, hzy, hzx, if_true]
      rw [ins_comm O hyx h'.2]
    · have hzy' : lt z y = false := by simpa using hzy
      by_cases hzx : lt z x = true
      · simp [ins, hzy', hzx, hyx]
      · have hzx' : lt z x = false := by simpa using hzx
        simp [ins, hzy', hzx', hyx, hxy]

theorem foldr_ins (O : Ord lt) {S : List α} (hS : Srt lt S) (x : α) : ∀ (t : List α), (ins lt x t).foldr (ins lt) S = ins lt x (t.foldr (ins lt) S)
  | [] => rfl
  | y :: t => by
    rw [ins]; split
    · rename_i hyx
      show ins lt y ((ins lt x t).foldr (ins lt) S) = ins lt x (ins lt y (t.foldr (ins lt) S))
      rw [foldr_ins O hS x t, ins_comm O hyx (foldr_srt O hS t)]
    · rfl
theorem foldr_isort (O : Ord lt) {S : List α} (hS : Srt lt S) : ∀ (l : List α), (isort lt l).foldr (ins lt) S = l.foldr (ins lt) S
  | [] => rfl
  | x :: l => by
    show (ins lt x (isort lt l)).foldr (ins lt) S = ins lt x (l.foldr (ins lt) S)
    rw [foldr_ins O hS, foldr_isort O hS l]

theorem isort_app (l m : List α) : isort lt (l ++ m) = l.foldr (ins lt) (isort lt m) := by rw [isort, List.foldr_append]; rfl
/-- What is sorted alike may stand for one another. -/
theorem isort_congr (O : Ord lt) {X l l' Y : List α} (h : isort lt l = isort lt l') : isort lt (X ++ l ++ Y) = isort lt (X ++ l' ++ Y) := by
  rw [List.append_assoc, List.append_assoc, isort_app, isort_app X, isort_app l, isort_app l', ← foldr_isort O (isort_srt O Y) l, ← foldr_isort O (isort_srt O Y) l', h]
theorem isort_idem (O : Ord lt) (l : List α) : isort lt (isort lt l) = isort lt l := isort_of (isort_srt O l)
theorem isort_two (O : Ord lt) (l m : List α) : isort lt (isort lt l ++ isort lt m) = isort lt (l ++ m) := by
  have h1 := isort_congr O (X := []) (Y := isort lt m) (isort_idem O l)
  have h2 := isort_congr O (X := l) (Y := []) (isort_idem O m)
  simp only [List.nil_append, List.append_nil] at h1 h2
  rw [h1, h2]

/-- One passes over those that are all less. -/
theorem over (O : Ord lt) {x : α} {S : List α} (hS : Srt lt S) : ∀ (V : List α), (∀ v, v ∈ V → lt v x = true) → ins lt x (V.foldr (ins lt) S) = V.foldr (ins lt) (ins lt x S)
  | [], _ => rfl
  | v :: V, h => by
    show ins lt x (ins lt v (V.foldr (ins lt) S)) = ins lt v (V.foldr (ins lt) (ins lt x S))
    rw [ins_comm O (h v (by simp)) (foldr_srt O hS V), over O hS V fun u hu => h u (by simp [hu])]
theorem over_all (O : Ord lt) {S : List α} (hS : Srt lt S) : ∀ (U V : List α), (∀ u, u ∈ U → ∀ v, v ∈ V → lt v u = true) → U.foldr (ins lt) (V.foldr (ins lt) S) = V.foldr (ins lt) (U.foldr (ins lt) S)
  | [], _, _ => rfl
  | u :: U, V, h => by
    show ins lt u (U.foldr (ins lt) (V.foldr (ins lt) S)) = V.foldr (ins lt) (ins lt u (U.foldr (ins lt) S))
    rw [over_all O hS U V fun u hu => h u (by simp [hu]), over O (foldr_srt O hS U) V (h u (by simp))]
/-- Blocks change places, if what comes ahead is less. -/
theorem isort_rot (O : Ord lt) (X U V Y : List α) (h : ∀ u, u ∈ U → ∀ v, v ∈ V → lt v u = true) : isort lt (X ++ U ++ V ++ Y) = isort lt (X ++ V ++ U ++ Y) := by
  have e1 : X ++ U ++ V ++ Y = X ++ (U ++ (V ++ Y)) := by simp
  have e2 : X ++ V ++ U ++ Y = X ++ (V ++ (U ++ Y)) := by simp
  rw [e1, e2, isort_app, isort_app X, isort_app U, isort_app V, isort_app V, isort_app U, over_all O (isort_srt O Y) U V h]

theorem srt_app {l m : List α} : Srt lt (l ++ m) ↔ Srt lt l ∧ Srt lt m ∧ ∀ a, a ∈ l → ∀ b, b ∈ m → lt b a = false := List.pairwise_append
/-- A merge by halves. -/
theorem merge_halves (O : Ord lt) {A1 A2 B1 B2 : List α} (hA : Srt lt (A1 ++ A2)) (hB : Srt lt (B1 ++ B2)) (h1 : ∀ a, a ∈ A2 → ∀ b, b ∈ B1 → lt b a = true) (h2 : ∀ a, a ∈ A1 → ∀ b, b ∈ B2 → lt b a = false) :
    isort lt (A1 ++ B1) ++ isort lt (A2 ++ B2) = isort lt (A1 ++ A2 ++ (B1 ++ B2)) := by
  have hA' := srt_app.1 hA
  have hB' := srt_app.1 hB
  have hs : Srt lt (isort lt (A1 ++ B1) ++ isort lt (A2 ++ B2)) := by
    refine srt_app.2 ⟨isort_srt O _, isort_srt O _, fun a ha b hb => ?_⟩
    rw [isort_mem, List.mem_append] at ha hb
    rcases ha with ha | ha <;> rcases hb with hb | hb
    · exact hA'.2.2 a ha b hb
    · exact h2 a ha b hb
    · exact O.asym _ _ (h1 b hb a ha)
    · exact hB'.2.2 a ha b hb
  rw [← isort_of hs, isort_two O]
  have := isort_rot O A1 A2 B1 B2 h1
  have e1 : A1 ++ A2 ++ (B1 ++ B2) = A1 ++ A2 ++ B1 ++ B2 := by simp
  have e2 : A1 ++ B1 ++ (A2 ++ B2) = A1 ++ B1 ++ A2 ++ B2 := by simp
  rw [e1, e2, this]
/-- One more at the end of a sorted list. -/
theorem isort_snoc (O : Ord lt) (A B : List α) (x : α) (h : Srt lt (A ++ B)) (hA : ∀ a, a ∈ A → lt x a = false) (hB : ∀ b, b ∈ B → lt x b = true) : A ++ x :: B = isort lt (A ++ B ++ [x]) := by
  have h' := srt_app.1 h
  have hs : Srt lt (A ++ x :: B) := by
    refine srt_app.2 ⟨h'.1, List.pairwise_cons.2 ⟨fun b hb => O.asym _ _ (hB b hb), h'.2.1⟩, fun a ha b hb => ?_⟩
    rcases List.mem_cons.1 hb with rfl | hb
    · exact hA a ha
    · exact h'.2.2 a ha b hb
  have hr := isort_rot O A B [x] [] (fun u hu v hv => by rw [List.mem_singleton.1 hv]; exact hB u hu)
  simp only [List.append_nil] at hr
  rw [hr]
  have e : A ++ [x] ++ B = A ++ x :: B := by simp
  rw [e, isort_of hs]
end
end Go.So

/- The normal form of a type: its rows sorted by label. Conditions: none. -/
namespace Go.Am
namespace Un
open Go.So

abbrev Lb := ByteArray × Tm
def ltB (x y : ByteArray) : Bool := Op.bytesLess x.toList y.toList
def ltL (x y : Lb) : Bool := ltB x.1 y.1

theorem bl_asym : ∀ (a b : List UInt8), Op.bytesLess a b = true → Op.bytesLess b a = false
  | [], [], h => by simp [Op.bytesLess] at h
  | [], _ :: _, _ => by simp [Op.bytesLess]
  | _ :: _, [], h => by simp [Op.bytesLess] at h
  | x :: a, y :: b, h => by
    have ih := bl_asym a b
    simp only [Op.bytesLess, Bool.or_eq_true, Bool.and_eq_true, decide_eq_true_eq, beq_iff_eq] at h
    simp only [Op.bytesLess, Bool.or_eq_false_iff, Bool.and_eq_false_iff, decide_eq_false_iff_not, beq_eq_false_iff_ne]
    rcases h with h | ⟨rfl, h⟩
    · exact ⟨fun h2 => by simp only [UInt8.lt_iff_toNat_lt] at h h2; omega, Or.inl fun h2 => by subst h2; simp [UInt8.lt_iff_toNat_lt] at h⟩
    · exact ⟨by simp [UInt8.lt_iff_toNat_lt], Or.inr (ih h)⟩
theorem bl_trans : ∀ (a b c : List UInt8), Op.bytesLess b a = false → Op.bytesLess c b = false → Op.bytesLess c a = false
  | [], _, [], _, _ => by simp [Op.bytesLess]
  | _ :: _, [], _, h, _ => by simp [Op.bytesLess] at h
  | [], [], _ :: _, _, _ => by simp [Op.bytesLess]
  | [], _ :: _, _ :: _, _, _ => by simp [Op.bytesLess]
  | _ :: _, _ :: _, [], _, h => by simp [Op.bytesLess] at h
  | x :: a, y :: b, z :: c, h1, h2 => by
    have ih := bl_trans a b c
    simp only [Op.bytesLess, Bool.or_eq_false_iff, Bool.and_eq_false_iff, decide_eq_false_iff_not, beq_eq_false_iff_ne, UInt8.lt_iff_toNat_lt] at h1 h2 ⊢
    refine ⟨by omega, ?_⟩
    by_cases hxz : z = x
    · right
      subst hxz
      by_cases hyz : y = z
      · subst hyz
        rcases h1.2 with h | h
        · exact absurd rfl h
        rcases h2.2 with h' | h'
        · exact absurd rfl h'
        exact ih h h'
      · exfalso
        apply hyz
        apply UInt8.toNat_inj.1
        omega
    · exact Or.inl hxz
theorem ltL_ord : Ord ltL := ⟨fun a b h => bl_asym _ _ h, fun a b c h1 h2 => bl_trans _ _ _ h1 h2⟩
/-- A label more, in its place in a sorted row: ahead of those that are equal. -/
def insL (n : ByteArray) (a : Tm) : Tm → Tm
  | .mk k m v [b, r] => if k = 5 ∧ ltB m n = true then .mk 5 m v [b, insL n a r] else .mk 5 n 0 [a, .mk k m v [b, r]]
  | t => .mk 5 n 0 [a, t]
theorem insL_end {n : ByteArray} {a e : Tm} (h : kof e ≠ 5) : insL n a e = .mk 5 n 0 [a, e] := by
  match e, h with
  | .mk k m v [b, r], h => rw [insL, if_neg fun hh => h hh.1]
  | .mk k m v [], _ => rw [insL]; simp
  | .mk k m v [_], _ => rw [insL]; simp
  | .mk k m v (_ :: _ :: _ :: _), _ => rw [insL]; simp

mutual
def nf : Tm → Tm
  | .mk k n v l => if k = 5 then (match nfs l with
    | [a, r] => insL n a r
    | l' => .mk 5 n 0 l') else .mk k n v (nfs l)
def nfs : List Tm → List Tm
  | [] => []
  | t :: r => nf t :: nfs r
end
theorem nfs_map : ∀ l : List Tm, nfs l = l.map nf
  | [] => by rw [nfs]; rfl
  | t :: r => by rw [nfs, nfs_map r]; rfl
theorem nf_ext (n : ByteArray) (v : Int) (a r : Tm) : nf (.mk 5 n v [a, r]) = insL n (nf a) (nf r) := by
  rw [nf, if_pos rfl, nfs, nfs, nfs]
theorem nf_oth {t : Tm} (h : kof t ≠ 5) : nf t = .mk (kof t) (nof t) (vof t) ((lof t).map nf) := by
  obtain ⟨k, n, v, l⟩ := t
  rw [nf, if_neg (show ¬ k = 5 from h), nfs_map]; rfl

def bld : List Lb → Tm → Tm
  | [], t => t
  | x :: r, t => .mk 5 x.1 0 [x.2, bld r t]

/-- A row's labels, and its end. -/
inductive Spn : Tm → List Lb → Tm → Prop
  | nil (t : Tm) (h : kof t ≠ 5) : Spn t [] t
  | cons (n : ByteArray) (v : Int) (a r : Tm) (L : List Lb) (e : Tm) (h : Spn r L e) : Spn (.mk 5 n v [a, r]) ((n, a) :: L) e

theorem spn_end {t : Tm} {L : List Lb} {e : Tm} (h : Spn t L e) : kof e ≠ 5 := by
  induction h with
  | nil t h => exact h
  | cons n v a r L e h ih => exact ih
theorem two_of {l : List Tm} (h : l.length = 2) : ∃ a r, l = [a, r] := by
  match l, h with
  | [a, r], _ => exact ⟨a, r, rfl⟩
theorem spn_of : ∀ (n : Nat) (t : Tm), tsz t ≤ n → Val t → ∃ L e, Spn t L e := by
  intro n
  induction n with
  | zero => intro t h; cases t; rw [tsz] at h; omega
  | succ n ih =>
    rintro ⟨k, m, v, l⟩ h hv
    by_cases hk : k = 5
    · subst hk
      rw [Val] at hv
      obtain ⟨-, -, -, -, -, -, h5, hvs⟩ := hv
      obtain ⟨a, r, rfl⟩ := two_of (h5 rfl)
      rw [tsz, tszs, tszs, tszs] at h
      obtain ⟨L, e, hs⟩ := ih r (by omega) (vals_at hvs (i := 1) rfl)
      exact ⟨_, _, .cons m v a r L e hs⟩
    · exact ⟨[], _, .nil _ hk⟩

theorem insL_bld (n : ByteArray) (a : Tm) : ∀ (L : List Lb) {e : Tm}, kof e ≠ 5 → insL n a (bld L e) = bld (ins ltL (n, a) L) e
  | [], e, he => by
    rw [bld, insL_end he, ins]; rfl
  | x :: L, e, he => by
    rw [bld, Un.insL, Go.So.ins]
    cases h : ltL x (n, a)
    · have h' : ltB x.1 n = false := h
      rw [if_neg (by simp [h'])]
      rfl
    · have h' : ltB x.1 n = true := h
      rw [if_pos ⟨rfl, h'⟩]
      simp only [insL_bld n a L he]
      rfl

def nfl (x : Lb) : Lb := (x.1, nf x.2)
theorem nf_end {e : Tm} (h : kof e ≠ 5) : kof (nf e) ≠ 5 := by rw [nf_oth h]; exact h
theorem nf_spn {t : Tm} {L : List Lb} {e : Tm} (h : Spn t L e) : nf t = bld (isort ltL (L.map nfl)) (nf e) := by
  induction h with
  | nil t h => rfl
  | cons n v a r L e h ih => rw [nf_ext, ih, insL_bld _ _ _ (nf_end (spn_end h))]; rfl

theorem spn_mem {t : Tm} {L : List Lb} {e : Tm} (h : Spn t L e) : (∀ x, x ∈ L → tsz x.2 < tsz t ∧ (Val t → Val x.2)) ∧ tsz e ≤ tsz t ∧ (Val t → Val e) := by
  induction h with
  | nil t h => exact ⟨(fun x hx => nomatch hx), Nat.le_refl _, id⟩
  | cons n v a r L e h ih =>
    obtain ⟨h1, h2, h3⟩ := ih
    have hs : tsz (.mk 5 n v [a, r]) = 1 + (tsz a + (tsz r + 0)) := by rw [tsz, tszs, tszs, tszs]
    have hva : Val (.mk 5 n v [a, r]) → Val a ∧ Val r := fun hv => by
      rw [Val] at hv
      exact ⟨vals_at hv.2.2.2.2.2.2.2 (i := 0) rfl, vals_at hv.2.2.2.2.2.2.2 (i := 1) rfl⟩
    refine ⟨fun x hx => ?_, by omega, fun hv => h3 (hva hv).2⟩
    rcases List.mem_cons.1 hx with rfl | hx
    · exact ⟨by show tsz a < _; omega, fun hv => (hva hv).1⟩
    · obtain ⟨h4, h5⟩ := h1 x hx
      exact ⟨by omega, fun hv => h5 (hva hv).2⟩
theorem val_arg {t a : Tm} (hv : Val t) (h : a ∈ lof t) : Val a := by
  obtain ⟨k, n, v, l⟩ := t
  rw [Val] at hv
  obtain ⟨i, hi⟩ := List.getElem?_of_mem h
  exact vals_at hv.2.2.2.2.2.2.2 hi
theorem tsz_mem {t a : Tm} (h : a ∈ lof t) : tsz a < tsz t := by
  obtain ⟨k, n, v, l⟩ := t
  obtain ⟨i, hi⟩ := List.getElem?_of_mem h
  have := tsz_at hi
  simp only [lof] at this
  rw [tsz]
  omega

/-! ### Sorted rows -/
def top2 (n : ByteArray) : List Tm → Bool
  | [_, r] => kof r == 5 && ltB (nof r) n
  | _ => false
mutual
def srtd : Tm → Bool
  | .mk k n _ l => !(k == 5 && top2 n l) && srtds l
def srtds : List Tm → Bool
  | [] => true
  | t :: r => srtd t && srtds r
end
/-! ### Variables -/
mutual
def Occ (x : Int) : Tm → Prop
  | .mk k _ v l => if k = 0 then v = x else Occs x l
def Occs (x : Int) : List Tm → Prop
  | [] => False
  | t :: r => Occ x t ∨ Occs x r
end
theorem adds_mem : ∀ (f out : List Int) (x : Int), x ∈ adds out f ↔ x ∈ out ∨ x ∈ f
  | [], out, x => by rw [adds]; simp
  | v :: r, out, x => by
    rw [adds, adds_mem r]
    split
    · rename_i h
      have h' : v ∈ out := by simpa using h
      constructor
      · rintro (h1 | h1)
        · exact Or.inl h1
        · exact Or.inr (by simp [h1])
      · rintro (h1 | h1)
        · exact Or.inl h1
        · rcases List.mem_cons.1 h1 with rfl | h1
          · exact Or.inl h'
          · exact Or.inr h1
    · simp only [List.mem_append, List.mem_cons, List.not_mem_nil, or_false]
      constructor
      · rintro ((h1 | h1) | h1)
        · exact Or.inl h1
        · exact Or.inr (Or.inl h1)
        · exact Or.inr (Or.inr h1)
      · rintro (h1 | h1 | h1)
        · exact Or.inl (Or.inl h1)
        · exact Or.inl (Or.inr h1)
        · exact Or.inr h1
theorem adds_nodup : ∀ (f out : List Int), out.Nodup → (adds out f).Nodup
  | [], out, h => by rw [adds]; exact h
  | v :: r, out, h => by
    rw [adds]
    refine adds_nodup r _ ?_
    split
    · exact h
    · rename_i hc
      have hc' : v ∉ out := by simpa using hc
      rw [List.nodup_append]
      exact ⟨h, by simp, fun a ha b hb => by simp at hb; subst hb; exact fun e => hc' (e ▸ ha)⟩
mutual
theorem fre_mem (x : Int) : ∀ t : Tm, x ∈ fre t ↔ Occ x t
  | .mk k n v l => by
    rw [fre, Occ]
    split
    · simp [eq_comm]
    · rw [fres_mem x l []]; simp
theorem fres_mem (x : Int) : ∀ (l : List Tm) (out : List Int), x ∈ fres out l ↔ x ∈ out ∨ Occs x l
  | [], out => by rw [fres, Occs]; simp
  | a :: r, out => by rw [fres, Occs, fres_mem x r, adds_mem, fre_mem x a, or_assoc]
end
mutual
theorem fre_nodup : ∀ t : Tm, (fre t).Nodup
  | .mk k n v l => by
    rw [fre]
    split
    · simp
    · exact fres_nodup l [] (by simp)
theorem fres_nodup : ∀ (l : List Tm) (out : List Int), out.Nodup → (fres out l).Nodup
  | [], out, h => by rw [fres]; exact h
  | a :: r, out, h => by rw [fres]; exact fres_nodup r _ (adds_nodup _ _ h)
end
/-! ### Equal types -/
mutual
def eqb : Tm → Tm → Bool
  | .mk k n v l, .mk k' n' v' l' => k == k' && n.toList == n'.toList && v == v' && eqbs l l'
def eqbs : List Tm → List Tm → Bool
  | [], [] => true
  | a :: l, b :: l' => eqb a b && eqbs l l'
  | _, _ => false
end
theorem bts_inj {a b : ByteArray} (h : a.toList = b.toList) : a = b := by
  rw [ByteArray.toList_eq, ByteArray.toList_eq] at h
  obtain ⟨⟨x⟩⟩ := a
  obtain ⟨⟨y⟩⟩ := b
  simp at h
  subst h
  rfl
mutual
theorem eqb_iff : ∀ a b : Tm, eqb a b = true ↔ a = b
  | .mk k n v l, .mk k' n' v' l' => by
    rw [eqb]
    simp only [Bool.and_eq_true, beq_iff_eq, eqbs_iff l l', Tm.mk.injEq]
    constructor
    · rintro ⟨⟨⟨h1, h2⟩, h3⟩, h4⟩; exact ⟨h1, bts_inj h2, h3, h4⟩
    · rintro ⟨h1, h2, h3, h4⟩; exact ⟨⟨⟨h1, by rw [h2]⟩, h3⟩, h4⟩
theorem eqbs_iff : ∀ a b : List Tm, eqbs a b = true ↔ a = b
  | [], [] => by simp [eqbs]
  | [], _ :: _ => by simp [eqbs]
  | _ :: _, [] => by simp [eqbs]
  | a :: l, b :: l' => by rw [eqbs]; simp [eqb_iff a b, eqbs_iff l l']
end
theorem eqb_rfl (a : Tm) : eqb a a = true := (eqb_iff a a).2 rfl
end Un
end Go.Am
