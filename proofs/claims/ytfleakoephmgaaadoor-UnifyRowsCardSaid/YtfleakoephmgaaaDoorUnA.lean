/- The check of a type, and its variables, as functions. Conditions: none. -/
import Derived.Test.YtfleakoephmgaaaDoorAmKa
set_option linter.unusedSimpArgs false
set_option linter.unusedVariables false
namespace Go.Am
namespace Un

def kof : Tm → Int | .mk k _ _ _ => k
def nof : Tm → ByteArray | .mk _ n _ _ => n
def vof : Tm → Int | .mk _ _ v _ => v
def lof : Tm → List Tm | .mk _ _ _ l => l

mutual
def tsz : Tm → Nat
  | .mk _ _ _ l => 1 + tszs l
def tszs : List Tm → Nat
  | [] => 0
  | t :: r => tsz t + tszs r
end
theorem tsz_at : ∀ {l : List Tm} {i : Nat} {t : Tm}, l[i]? = some t → tsz t ≤ tszs l
  | [], i, t, h => by simp at h
  | a :: r, i, t, h => by
    rw [tszs]
    cases i with
    | zero => simp at h; subst h; omega
    | succ i => have := tsz_at (l := r) (i := i) (by simpa using h); omega

def szK (k : Int) : Int := if k = 0 then 0 else if k = 1 then -1 else if k = 2 then 3 else if k = 3 then 1 else if k = 4 then 0 else 2

/-- Is the argument a row? -/
def rowed (k : Int) (i : Nat) (a : Tm) : Bool :=
  bif k == 1 then decide (kof a ≥ 4) else (k == 2 && (i : Int) == 1) || (k == 3) || (k == 5 && (i : Int) == 1)

mutual
/-- What the check of a type says, and what it leaves. -/
def chk (row : Bool) (depth left : Int) : Tm → Int × Int
  | .mk k n v l =>
    if left - 1 < 0 ∨ depth > 400 then (2, left - 1)
    else if k < 0 ∨ k > 5 then (9, left - 1)
    else if (szK k ≥ 0 ∧ (l.length : Int) ≠ szK k) ∨ (k ≠ 0 ∧ v ≠ 0) ∨ (k ≠ 1 ∧ k ≠ 5 ∧ (n.toList == ({ data := #[] } : ByteArray).toList) = false) then (3, left - 1)
    else if k ≠ 0 ∧ row ≠ decide (k ≥ 4) then (9, left - 1)
    else if k = 0 ∧ (v < 0 ∨ v ≥ 4096) then (4, left - 1)
    else chks k 0 (depth + 1) (left - 1) l
def chks (k : Int) (i : Nat) (depth left : Int) : List Tm → Int × Int
  | [] => (0, left)
  | a :: r => if (chk (rowed k i a) depth left a).1 ≠ 0 then chk (rowed k i a) depth left a else chks k (i + 1) depth (chk (rowed k i a) depth left a).2 r
end

section
variable {row : Bool} {depth left k v : Int} {n : ByteArray} {l : List Tm}
theorem chk_large (h : left - 1 < 0 ∨ depth > 400) : chk row depth left (.mk k n v l) = (2, left - 1) := by rw [chk, if_pos h]
theorem chk_kind (h : ¬ (left - 1 < 0 ∨ depth > 400)) (hk : k < 0 ∨ k > 5) : chk row depth left (.mk k n v l) = (9, left - 1) := by rw [chk, if_neg h, if_pos hk]
theorem chk0 (h : ¬ (left - 1 < 0 ∨ depth > 400)) : chk row depth left (.mk 0 n v l) = (bif ((l.length : Int) != 0) then (3, left - 1) else bif (n.toList == ({ data := #[] } : ByteArray).toList) then (bif decide (v < 0) then (4, left - 1) else bif decide (v ≥ 4096) then (4, left - 1) else chks 0 0 (depth + 1) (left - 1) l) else (3, left - 1)) := by
  rw [chk, if_neg h, if_neg (by omega)]
  cases l <;> cases c2 : (n.toList == ({ data := #[] } : ByteArray).toList) <;> cases c3 : decide (v < 0) <;> cases c4 : decide (v ≥ 4096) <;>
    simp only [bne_iff_ne, bne_eq_false_iff_eq, decide_eq_true_eq, decide_eq_false_iff_not] at c3 c4 <;> simp [szK, c2, c3, c4] <;> intros <;> omega
theorem chk1 (h : ¬ (left - 1 < 0 ∨ depth > 400)) : chk row depth left (.mk 1 n v l) = (bif (v != 0) then (3, left - 1) else bif row then (9, left - 1) else chks 1 0 (depth + 1) (left - 1) l) := by
  rw [chk, if_neg h, if_neg (by omega)]
  cases c3 : (v != 0) <;> cases row <;>
    simp only [bne_iff_ne, bne_eq_false_iff_eq, decide_eq_true_eq, decide_eq_false_iff_not] at c3 <;> simp [szK, c3]
theorem chk2 (h : ¬ (left - 1 < 0 ∨ depth > 400)) : chk row depth left (.mk 2 n v l) = (bif ((l.length : Int) != 3) then (3, left - 1) else bif (v != 0) then (3, left - 1) else bif (n.toList == ({ data := #[] } : ByteArray).toList) then (bif row then (9, left - 1) else chks 2 0 (depth + 1) (left - 1) l) else (3, left - 1)) := by
  rw [chk, if_neg h, if_neg (by omega)]
  cases c1 : ((l.length : Int) != 3) <;> cases c2 : (n.toList == ({ data := #[] } : ByteArray).toList) <;> cases c3 : (v != 0) <;> cases row <;>
    simp only [bne_iff_ne, bne_eq_false_iff_eq, decide_eq_true_eq, decide_eq_false_iff_not] at c1 c3 <;> simp [szK, c1, c2, c3]
theorem chk3 (h : ¬ (left - 1 < 0 ∨ depth > 400)) : chk row depth left (.mk 3 n v l) = (bif ((l.length : Int) != 1) then (3, left - 1) else bif (v != 0) then (3, left - 1) else bif (n.toList == ({ data := #[] } : ByteArray).toList) then (bif row then (9, left - 1) else chks 3 0 (depth + 1) (left - 1) l) else (3, left - 1)) := by
  rw [chk, if_neg h, if_neg (by omega)]
  cases c1 : ((l.length : Int) != 1) <;> cases c2 : (n.toList == ({ data := #[] } : ByteArray).toList) <;> cases c3 : (v != 0) <;> cases row <;>
    simp only [bne_iff_ne, bne_eq_false_iff_eq, decide_eq_true_eq, decide_eq_false_iff_not] at c1 c3 <;> simp [szK, c1, c2, c3]
theorem chk4 (h : ¬ (left - 1 < 0 ∨ depth > 400)) : chk row depth left (.mk 4 n v l) = (bif ((l.length : Int) != 0) then (3, left - 1) else bif (v != 0) then (3, left - 1) else bif (n.toList == ({ data := #[] } : ByteArray).toList) then (bif row then chks 4 0 (depth + 1) (left - 1) l else (9, left - 1)) else (3, left - 1)) := by
  rw [chk, if_neg h, if_neg (by omega)]
  cases l <;> cases c2 : (n.toList == ({ data := #[] } : ByteArray).toList) <;> cases c3 : (v != 0) <;> cases row <;>
    simp only [bne_iff_ne, bne_eq_false_iff_eq, decide_eq_true_eq, decide_eq_false_iff_not] at c3 <;> simp [szK, c2, c3] <;> intros <;> omega
theorem chk5 (h : ¬ (left - 1 < 0 ∨ depth > 400)) : chk row depth left (.mk 5 n v l) = (bif ((l.length : Int) != 2) then (3, left - 1) else bif (v != 0) then (3, left - 1) else bif row then chks 5 0 (depth + 1) (left - 1) l else (9, left - 1)) := by
  rw [chk, if_neg h, if_neg (by omega)]
  cases c1 : ((l.length : Int) != 2) <;> cases c3 : (v != 0) <;> cases row <;>
    simp only [bne_iff_ne, bne_eq_false_iff_eq, decide_eq_true_eq, decide_eq_false_iff_not] at c1 c3 <;> simp [szK, c1, c3]
end

mutual
theorem chk_le (row : Bool) (depth left : Int) : ∀ t : Tm, (chk row depth left t).2 + 1 ≤ left
  | .mk k n v l => by
    have := chks_le k 0 (depth + 1) (left - 1) l
    rw [chk]
    (repeat' split) <;> first | omega | (simp only []; omega) | (show _ + 1 ≤ left; omega)
theorem chks_le (k : Int) (i : Nat) (depth left : Int) : ∀ l : List Tm, (chks k i depth left l).2 ≤ left
  | [] => by rw [chks]; simp
  | a :: r => by
    have h1 := chk_le (rowed k i a) depth left a
    have h2 := chks_le k (i + 1) depth (chk (rowed k i a) depth left a).2 r
    rw [chks]
    split <;> omega
end
mutual
theorem chk_ok (row : Bool) (depth left : Int) : ∀ t : Tm, (chk row depth left t).1 = 0 → 0 ≤ (chk row depth left t).2
  | .mk k n v l => by
    by_cases h1 : left - 1 < 0
    · rw [chk_large (Or.inl h1)]; simp
    · have := chks_ok k 0 (depth + 1) (left - 1) l (by omega)
      rw [chk]
      (repeat' split) <;> first | exact this | (intro h; simp at h)
theorem chks_ok (k : Int) (i : Nat) (depth left : Int) : ∀ l : List Tm, 0 ≤ left → (chks k i depth left l).1 = 0 → 0 ≤ (chks k i depth left l).2
  | [] => fun h _ => by rw [chks]; exact h
  | a :: r => by
    intro h h1
    rw [chks] at h1 ⊢
    split at h1
    · rename_i h2; exact absurd h1 h2
    · rename_i h2
      have h3 : (chk (rowed k i a) depth left a).1 = 0 := Classical.not_not.1 h2
      rw [if_neg h2]
      exact chks_ok k (i + 1) depth _ r (chk_ok (rowed k i a) depth left a h3) h1
end

mutual
/-- The variables in the order in which they come first. -/
def fre : Tm → List Int
  | .mk k _ v l => if k = 0 then [v] else fres [] l
def fres (out : List Int) : List Tm → List Int
  | [] => out
  | a :: r => fres (adds out (fre a)) r
def adds (out : List Int) : List Int → List Int
  | [] => out
  | v :: r => adds (if out.contains v then out else out ++ [v]) r
end
end Un
end Go.Am
