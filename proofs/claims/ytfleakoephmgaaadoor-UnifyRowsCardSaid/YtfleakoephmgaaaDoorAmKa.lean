/- Types as trees, and slots that lead to roots. Conditions: none. -/
import Derived.Test.YtfleakoephmgaaaDoorAmY2
set_option linter.unusedSimpArgs false
set_option linter.unusedVariables false
namespace Go.Am

inductive Tm where
  | mk (kind : Int) (name : ByteArray) (var : Int) (args : List Tm)

mutual
def tyc : Tm → List AV
  | .mk k n v l => [.int .i64 k, .str n, .int .i64 v, .sl (tycs l) l.length false none]
def tycs : List Tm → List AV
  | [] => []
  | t :: r => tyc t ++ tycs r
end
theorem tycs_flat : ∀ l : List Tm, tycs l = l.flatMap tyc
  | [] => by rw [tycs]; rfl
  | t :: r => by rw [tycs, tycs_flat r]; rfl
theorem tyc_len (t : Tm) : (tyc t).length = 4 := by cases t; rw [tyc]; rfl

mutual
/-- What the check of a type lets in. -/
def Val : Tm → Prop
  | .mk k _ v l => 0 ≤ k ∧ k ≤ 5 ∧ (k = 0 → l.length = 0 ∧ 0 ≤ v) ∧ (k = 2 → l.length = 3) ∧ (k = 3 → l.length = 1) ∧ (k = 4 → l.length = 0) ∧ (k = 5 → l.length = 2) ∧ Vals l
def Vals : List Tm → Prop
  | [] => True
  | t :: r => Val t ∧ Vals r
end
theorem vals_at : ∀ {l : List Tm}, Vals l → ∀ {i : Nat} {t : Tm}, l[i]? = some t → Val t
  | [], _, i, t, h => by simp at h
  | a :: r, h, i, t, ht => by
    rw [Vals] at h
    cases i with
    | zero => simp at ht; subst ht; exact h.1
    | succ i => exact vals_at h.2 (by simpa using ht)
theorem vals_of : ∀ {l : List Tm}, (∀ (i : Nat) t, l[i]? = some t → Val t) → Vals l
  | [], _ => by rw [Vals]; trivial
  | a :: r, h => by rw [Vals]; exact ⟨h 0 a rfl, vals_of fun i t ht => h (i + 1) t (by simpa using ht)⟩

/-- A slot leads to a root. -/
inductive RT (up : List Nat) : Nat → Nat → Prop
  | root (i : Nat) (h : up[i]? = some i) : RT up i i
  | step (i j k : Nat) (h : up[i]? = some j) (hn : j ≠ i) (hr : RT up j k) : RT up i k

def Uf (up : List Nat) : Prop := ∀ i, i < up.length → ∃ k, RT up i k

theorem RT.is {up : List Nat} {i k : Nat} (h : RT up i k) : up[k]? = some k := by
  induction h with
  | root i h => exact h
  | step i j k h hn hr ih => exact ih
theorem RT.lt {up : List Nat} {i k : Nat} (h : RT up i k) : k < up.length := (List.getElem?_eq_some_iff.1 h.is).1
theorem RT.app {up : List Nat} {i k : Nat} (h : RT up i k) (l : List Nat) : RT (up ++ l) i k := by
  induction h with
  | root i h => exact .root i (by rw [List.getElem?_append_left (List.getElem?_eq_some_iff.1 h).1]; exact h)
  | step i j k h hn hr ih => exact .step i j k (by rw [List.getElem?_append_left (List.getElem?_eq_some_iff.1 h).1]; exact h) hn ih
theorem Uf.new {up : List Nat} (h : Uf up) : Uf (up ++ [up.length]) := by
  intro i hi
  by_cases hlt : i < up.length
  · obtain ⟨k, hk⟩ := h i hlt
    exact ⟨k, hk.app _⟩
  · simp only [List.length_append, List.length_cons, List.length_nil] at hi
    obtain rfl : i = up.length := by omega
    exact ⟨up.length, .root _ (by simp)⟩
end Go.Am
