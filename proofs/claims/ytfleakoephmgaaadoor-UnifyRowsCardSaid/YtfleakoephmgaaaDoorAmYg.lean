/- A list that grows by appending. Conditions: none. -/
import Derived.Test.YtfleakoephmgaaaDoorAmY2
set_option linter.unusedSimpArgs false
set_option linter.unusedVariables false
namespace Go.Am
set_option linter.unusedSimpArgs false

/-- A list that grows, with its right. -/
def Grw {α : Type} (f : α → List AV) (N : Nat) (S : St) (v : AV) (l : List α) (t : Option Nat) : Prop :=
  (v = .nils ∧ l = [] ∧ t = none) ∨ ∃ k, t = some k ∧ v = .sl (l.flatMap f) l.length false (some k) ∧ 0 < l.length ∧ S.obj k = some .right ∧ k < S.size ∧ N ≤ k
theorem Grw.isl {α : Type} {f : α → List AV} {N : Nat} {S : St} {v : AV} {l : List α} {t : Option Nat} (h : Grw f N S v l t) : ISl f v l := by
  rcases h with ⟨rfl, rfl, -⟩ | ⟨k, -, rfl, -⟩
  · exact Or.inl ⟨rfl, rfl⟩
  · exact Or.inr ⟨_, _, rfl⟩
theorem Grw.keep {α : Type} {f : α → List AV} {N : Nat} {S S' : St} {v : AV} {l : List α} {t : Option Nat} (h : Grw f N S v l t) (hs : S.size ≤ S'.size) (hk : ∀ k, t = some k → S'.obj k = S.obj k) : Grw f N S' v l t := by
  rcases h with h | ⟨k, rfl, h2, h3, h4, h5, h6⟩
  · exact Or.inl h
  · exact Or.inr ⟨k, rfl, h2, h3, (hk k rfl).trans h4, by omega, h6⟩
theorem Grw.app {α : Type} {f : α → List AV} {z : Nat} (hP : Plain f z) {N : Nat} {S : St} {v : AV} {l : List α} {t : Option Nat} (h : Grw f N S v l t) (hN : N ≤ S.size) (x : α) {bytes : Nat} (hb : (l.length + 1) * bytes ≤ 140737488355328) :
    ∃ v' s1, appendA S false z bytes v (.sl (f x) 1 true none) = some (v', s1) ∧ Grw f N s1 v' (l ++ [x]) (some S.size) ∧ s1.size = S.size + 1 ∧ ∀ j, j < S.size → some j ≠ t → s1.obj j = S.obj j := by
  have hc : contents S z (.sl (f x) 1 true none) = some (1, f x) := by simp only [contents]; rw [if_pos (by rw [hP.len]; omega)]
  have hst : (f x).all AV.still = true := by have := hP.stills [x]; simpa using this
  have hsp : (f x).map AV.strip = f x := by have := hP.strips [x]; simpa using this
  rcases h with ⟨rfl, rfl, rfl⟩ | ⟨k, rfl, rfl, h3, h4, h5, h6⟩
  · refine ⟨.sl (f x) 1 false (some S.size), S.new .right, ?_, Or.inr ⟨S.size, rfl, by simp, by simp, new_eq rfl, by simp [St.new], hN⟩, rfl, fun j hj _ => new_ne (by omega)⟩
    simp only [appendA, hc, freshA]
    rw [if_neg (by omega), if_pos (by simpa using hb), if_neg (by simp), if_pos hst, hsp]
  · refine ⟨.sl (l.flatMap f ++ f x) (l.length + 1) false (some S.size), (S.put k none).new .right, ?_, Or.inr ⟨S.size, rfl, by simp, by simp, new_eq rfl, by simp [St.new, St.put], hN⟩, rfl, fun j hj hn => ?_⟩
    · simp only [appendA, hc, h4]
      rw [if_neg (by omega), if_pos ⟨hP.lens l, hb⟩, if_neg (by simp), if_pos ⟨hst, h3⟩, hsp]
    · rw [new_ne (by simp only [St.put]; omega), put_ne (by intro h; subst h; exact hn rfl)]
end Go.Am
