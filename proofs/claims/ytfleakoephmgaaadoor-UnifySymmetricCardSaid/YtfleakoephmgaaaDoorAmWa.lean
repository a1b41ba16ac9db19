/- Guarded steps, blocks and clear in regions of no order. Conditions: none. -/
import Derived.Test.YtfleakoephmgaaaDoorAmW
import Derived.Test.YtfleakoephmgaaaDoorAmTu
import Derived.Test.YtfleakoephmgaaaDoorAmSp
set_option linter.unusedSimpArgs false
set_option linter.unusedVariables false
namespace Go.Am
set_option maxRecDepth 100000
set_option linter.unusedSimpArgs false

theorem wt_alloc {T : Nat → Option CF} {X : Ext} {d : Option Nat} {g : Option (Option Nat × Bool)} {zs : List AV} {r : List CO} {e : Env} {s : St} {U : List (Env × St) → Env → St → Prop} : WT T X (⟨d, g, .alloc zs⟩ :: r) e s U ↔ WT T X r e s (Tr e s U) := by
  refine ⟨fun ⟨n, e', s', h1, h2⟩ => ⟨n, e', s', by simpa [evRest, isAlloc] using h1, by have := h2; simp only [evTr, isAlloc, if_true] at this; exact this⟩, WT_alloc⟩

end Go.Am

/- A list that grows by appending. Conditions: none. -/
namespace Go.Am
set_option linter.unusedSimpArgs false

/-- A list that grows, with its right. -/
def Grw {α : Type} (f : α → List AV) (N : Nat) (S : St) (v : AV) (l : List α) (t : Option Nat) : Prop :=
  (v = .nils ∧ l = [] ∧ t = none) ∨ ∃ k, t = some k ∧ v = .sl (l.flatMap f) l.length false (some k) ∧ 0 < l.length ∧ S.obj k = some .right ∧ k < S.size ∧ N ≤ k
theorem Grw.isl {α : Type} {f : α → List AV} {N : Nat} {S : St} {v : AV} {l : List α} {t : Option Nat} (h : Grw f N S v l t) : ISl f v l := by
  rcases h with ⟨rfl, rfl, -⟩ | ⟨k, -, rfl, -⟩
  · exact Or.inl ⟨rfl, rfl⟩
  · exact Or.inr ⟨_, _, rfl⟩
theorem Grw.keep {α : Type} {f : α → List AV} {N : Nat} {S S' : St} {v : AV} {l : List α} {t : Option Nat} (h : Grw f N S v l t) (hs : S.size ≤ S'.size) (hk : ∀ k, t = some k → S'.obj k = S.obj k) : Grw f N S' v l t := by
  rcases h with h | ⟨k, rfl, h2, h3, h4, h5, h6⟩
  · exact Or.inl h
  · exact Or.inr ⟨k, rfl, h2, h3, (hk k rfl).trans h4, by omega, h6⟩
theorem Grw.app {α : Type} {f : α → List AV} {z : Nat} (hP : Plain f z) {N : Nat} {S : St} {v : AV} {l : List α} {t : Option Nat} (h : Grw f N S v l t) (hN : N ≤ S.size) (x : α) {bytes : Nat} (hb : (l.length + 1) * bytes ≤ 140737488355328) :
    ∃ v' s1, appendA S false z bytes v (.sl (f x) 1 true none) = some (v', s1) ∧ Grw f N s1 v' (l ++ [x]) (some S.size) ∧ s1.size = S.size + 1 ∧ ∀ j, j < S.size → some j ≠ t → s1.obj j = S.obj j := by
  have hc : contents S z (.sl (f x) 1 true none) = some (1, f x) := by simp only [contents]; rw [if_pos (by rw [hP.len]; omega)]
  have hst : (f x).all AV.still = true := by have := hP.stills [x]; simpa using this
  have hsp : (f x).map AV.strip = f x := by have := hP.strips [x]; simpa using this
  rcases h with ⟨rfl, rfl, rfl⟩ | ⟨k, rfl, rfl, h3, h4, h5, h6⟩
  · refine ⟨.sl (f x) 1 false (some S.size), S.new .right, ?_, Or.inr ⟨S.size, rfl, by simp, by simp, new_eq rfl, by simp [St.new], hN⟩, rfl, fun j hj _ => new_ne (by omega)⟩
    simp only [appendA, hc, freshA]
    rw [if_neg (by omega), if_pos (by simpa using hb), if_neg (by simp), if_pos hst, hsp]
  · refine ⟨.sl (l.flatMap f ++ f x) (l.length + 1) false (some S.size), (S.put k none).new .right, ?_, Or.inr ⟨S.size, rfl, by simp, by simp, new_eq rfl, by simp [St.new, St.put], hN⟩, rfl, fun j hj hn => ?_⟩
    · simp only [appendA, hc, h4]
      rw [if_neg (by omega), if_pos ⟨hP.lens l, hb⟩, if_neg (by simp), if_pos ⟨hst, h3⟩, hsp]
    · rw [new_ne (by simp only [St.put]; omega), put_ne (by intro h; subst h; exact hn rfl)]
end Go.Am

/- Appending one struct to an array that is written. Conditions: none. -/
namespace Go.Am
section
variable {α : Type} {f : α → List AV} {z : Nat}

theorem ISl.take (hf : ∀ a, (f a).length = z) {v : AV} {l : List α} (h : ISl f v l) {i : Nat} (hi : i ≤ l.length) : ∃ w, slcA z v none (some (.int .i64 i)) none = some w ∧ ISl f w (l.take i) := by
  rcases h with ⟨rfl, rfl⟩ | ⟨full, tok, rfl⟩
  · obtain rfl : i = 0 := by simpa using hi
    exact ⟨.nils, by simp [slcA, optOf, natOf], Or.inl ⟨rfl, rfl⟩⟩
  · refine ⟨_, ?_, Or.inr ⟨full && i == l.length, if 0 = 0 ∧ i = l.length ∧ (none : Option AV).isNone = true then tok else none, rfl⟩⟩
    simp only [slcA, optOf, natOf]
    rw [if_pos (flat_len hf l), if_pos (by omega), Int.toNat_natCast]
    simp only
    rw [if_pos (by omega), Nat.zero_mul, List.drop_zero, Nat.sub_zero, flat_take hf, List.length_take, Nat.min_eq_left (by omega)]

theorem MSl.app1 (hP : Plain f z) {s : St} {v : AV} {l : List α} (h : MSl f z s v l) (x : α) {bytes : Nat} (hb : (l.length + 1) * bytes ≤ 140737488355328) :
    ∃ v' s1, appendA s true z bytes v (.sl (f x) 1 true none) = some (v', s1) ∧ MSl f z s1 v' (l ++ [x]) ∧ freshO s.size v' ∧ s.size < s1.size ∧ v'.cells = [v'] ∧ v'.one = true ∧ ∀ j, j < s.size → notO v j → s1.obj j = s.obj j := by
  have hc : contents s z (.sl (f x) 1 true none) = some (1, f x) := by simp only [contents]; rw [if_pos (by rw [hP.len]; omega)]
  rcases h with ⟨rfl, rfl⟩ | ⟨rfl, rfl⟩ | ⟨t, rfl, ht, hlt⟩
  · refine ⟨.msl s.size 0 1 z, s.new (.cells (f x)), ?_, Or.inr (Or.inr ⟨s.size, rfl, ?_, by simp [St.new]⟩), ?_, by simp [St.new], rfl, rfl, fun j hj _ => new_ne (by omega)⟩
    · simp only [appendA, hc, freshA]
      rw [if_neg (by omega), if_pos (by simpa using hb), if_pos trivial, if_pos (hP.one x)]
    · rw [new_eq rfl]; simp
    · intro p o n y he; cases he; exact Nat.le_refl _
  · refine ⟨.msl s.size 0 1 z, s.new (.cells (f x)), ?_, Or.inr (Or.inr ⟨s.size, rfl, ?_, by simp [St.new]⟩), ?_, by simp [St.new], rfl, rfl, fun j hj _ => new_ne (by omega)⟩
    · simp only [appendA, hc, freshA]
      rw [if_neg (by omega), if_pos ⟨by simp, by simpa using hb⟩, if_pos trivial, if_pos trivial, List.nil_append, if_pos (hP.one x)]
    · rw [new_eq rfl]; simp
    · intro p o n y he; cases he; exact Nat.le_refl _
  · refine ⟨.msl s.size 0 (l.length + 1) z, (s.put t none).new (.cells (l.flatMap f ++ f x)), ?_, Or.inr (Or.inr ⟨s.size, by simp, ?_, by simp [St.new, St.put]⟩), ?_, by simp [St.new, St.put], rfl, rfl, fun j hj hn => ?_⟩
    · simp only [appendA, hc, ht]
      rw [if_neg (by omega), if_pos ⟨trivial, trivial, by rw [hP.lens]; exact Nat.le_refl _, hb, hP.one x⟩, List.take_of_length_le (by rw [hP.lens]; exact Nat.le_refl _)]
    · rw [new_eq (by simp [St.put]), List.flatMap_append]; simp
    · intro p o n y he; cases he; exact Nat.le_refl _
    · rw [new_ne (by simp only [St.put]; omega), put_ne (by intro h; subst h; exact hn _ _ _ rfl)]
end
end Go.Am

/- Types as trees, and slots that lead to roots. Conditions: none. -/
namespace Go.Am

inductive Tm where
  | mk (kind : Int) (name : ByteArray) (var : Int) (args : List Tm)

mutual
def tyc : Tm → List AV
  | .mk k n v l => [.int .i64 k, .str n, .int .i64 v, .sl (tycs l) l.length false none]
def tycs : List Tm → List AV
  | [] => []
  | t :: r => tyc t ++ tycs r
end
theorem tycs_flat : ∀ l : List Tm, tycs l = l.flatMap tyc
  | [] => by rw [tycs]; rfl
  | t :: r => by rw [tycs, tycs_flat r]; rfl
theorem tyc_len (t : Tm) : (tyc t).length = 4 := by cases t; rw [tyc]; rfl

mutual
/-- What the check of a type lets in. -/
def Val : Tm → Prop
  | .mk k _ v l => 0 ≤ k ∧ k ≤ 5 ∧ (k = 0 → l.length = 0 ∧ 0 ≤ v) ∧ (k = 2 → l.length = 3) ∧ (k = 3 → l.length = 1) ∧ (k = 4 → l.length = 0) ∧ (k = 5 → l.length = 2) ∧ Vals l
def Vals : List Tm → Prop
  | [] => True
  | t :: r => Val t ∧ Vals r
end
theorem vals_at : ∀ {l : List Tm}, Vals l → ∀ {i : Nat} {t : Tm}, l[i]? = some t → Val t
  | [], _, i, t, h => by simp at h
  | a :: r, h, i, t, ht => by
    rw [Vals] at h
    cases i with
    | zero => simp at ht; subst ht; exact h.1
    | succ i => exact vals_at h.2 (by simpa using ht)
theorem vals_of : ∀ {l : List Tm}, (∀ (i : Nat) t, l[i]? = some t → Val t) → Vals l
  | [], _ => by rw [Vals]; trivial
  | a :: r, h => by rw [Vals]; exact ⟨h 0 a rfl, vals_of fun i t ht => h (i + 1) t (by simpa using ht)⟩

/-- A slot leads to a root. -/
inductive RT (up : List Nat) : Nat → Nat → Prop
  | root (i : Nat) (h : up[i]? = some i) : RT up i i
  | step (i j k : Nat) (h : up[i]? = some j) (hn : j ≠ i) (hr : RT up j k) : RT up i k

def Uf (up : List Nat) : Prop := ∀ i, i < up.length → ∃ k, RT up i k

theorem RT.is {up : List Nat} {i k : Nat} (h : RT up i k) : up[k]? = some k := by
  induction h with
  | root i h => exact h
  | step i j k h hn hr ih => exact ih
theorem RT.lt {up : List Nat} {i k : Nat} (h : RT up i k) : k < up.length := (List.getElem?_eq_some_iff.1 h.is).1
theorem RT.app {up : List Nat} {i k : Nat} (h : RT up i k) (l : List Nat) : RT (up ++ l) i k := by
  induction h with
  | root i h => exact .root i (by rw [List.getElem?_append_left (List.getElem?_eq_some_iff.1 h).1]; exact h)
  | step i j k h hn hr ih => exact .step i j k (by rw [List.getElem?_append_left (List.getElem?_eq_some_iff.1 h).1]; exact h) hn ih
theorem Uf.new {up : List Nat} (h : Uf up) : Uf (up ++ [up.length]) := by
  intro i hi
  by_cases hlt : i < up.length
  · obtain ⟨k, hk⟩ := h i hlt
    exact ⟨k, hk.app _⟩
  · simp only [List.length_append, List.length_cons, List.length_nil] at hi
    obtain rfl : i = up.length := by omega
    exact ⟨up.length, .root _ (by simp)⟩
end Go.Am

/- The check of a type, and its variables, as functions. Conditions: none. -/
namespace Go.Am
namespace Un

def kof : Tm → Int | .mk k _ _ _ => k
def nof : Tm → ByteArray | .mk _ n _ _ => n
def vof : Tm → Int | .mk _ _ v _ => v
def lof : Tm → List Tm | .mk _ _ _ l => l

mutual
def tsz : Tm → Nat
  | .mk _ _ _ l => 1 + tszs l
def tszs : List Tm → Nat
  | [] => 0
  | t :: r => tsz t + tszs r
end
theorem tsz_at : ∀ {l : List Tm} {i : Nat} {t : Tm}, l[i]? = some t → tsz t ≤ tszs l
  | [], i, t, h => by simp at h
  | a :: r, i, t, h => by
    rw [tszs]
    cases i with
    | zero => simp at h; subst h; omega
    | succ i => have := tsz_at (l := r) (i := i) (by simpa using h); omega

def szK (k : Int) : Int := if k = 0 then 0 else if k = 1 then -1 else if k = 2 then 3 else if k = 3 then 1 else if k = 4 then 0 else 2

/-- Is the argument a row? -/
def rowed (k : Int) (i : Nat) (a : Tm) : Bool :=
  bif k == 1 then decide (kof a ≥ 4) else (k == 2 && (i : Int) == 1) || (k == 3) || (k == 5 && (i : Int) == 1)

mutual
/-- What the check of a type says, and what it leaves. -/
def chk (row : Bool) (depth left : Int) : Tm → Int × Int
  | .mk k n v l =>
    if left - 1 < 0 ∨ depth > 400 then (2, left - 1)
    else if k < 0 ∨ k > 5 then (9, left - 1)
    else if (szK k ≥ 0 ∧ (l.length : Int) ≠ szK k) ∨ (k ≠ 0 ∧ v ≠ 0) ∨ (k ≠ 1 ∧ k ≠ 5 ∧ (n.toList == ({ data := #[] } : ByteArray).toList) = false) then (3, left - 1)
    else if k ≠ 0 ∧ row ≠ decide (k ≥ 4) then (9, left - 1)
    else if k = 0 ∧ (v < 0 ∨ v ≥ 4096) then (4, left - 1)
    else chks k 0 (depth + 1) (left - 1) l
def chks (k : Int) (i : Nat) (depth left : Int) : List Tm → Int × Int
  | [] => (0, left)
  | a :: r => if (chk (rowed k i a) depth left a).1 ≠ 0 then chk (rowed k i a) depth left a else chks k (i + 1) depth (chk (rowed k i a) depth left a).2 r
end

section
variable {row : Bool} {depth left k v : Int} {n : ByteArray} {l : List Tm}
theorem chk_large (h : left - 1 < 0 ∨ depth > 400) : chk row depth left (.mk k n v l) = (2, left - 1) := by rw [chk, if_pos h]
theorem chk_kind (h : ¬ (left - 1 < 0 ∨ depth > 400)) (hk : k < 0 ∨ k > 5) : chk row depth left (.mk k n v l) = (9, left - 1) := by rw [chk, if_neg h, if_pos hk]
theorem chk0 (h : ¬ (left - 1 < 0 ∨ depth > 400)) : chk row depth left (.mk 0 n v l) = (bif ((l.length : Int) != 0) then (3, left - 1) else bif (n.toList == ({ data := #[] } : ByteArray).toList) then (bif decide (v < 0) then (4, left - 1) else bif decide (v ≥ 4096) then (4, left - 1) else chks 0 0 (depth + 1) (left - 1) l) else (3, left - 1)) := by
  rw [chk, if_neg h, if_neg (by omega)]
  cases l <;> cases c2 : (n.toList == ({ data := #[] } : ByteArray).toList) <;> cases c3 : decide (v < 0) <;> cases c4 : decide (v ≥ 4096) <;>
    simp only [bne_iff_ne, bne_eq_false_iff_eq, decide_eq_true_eq, decide_eq_false_iff_not] at c3 c4 <;> simp [szK, c2, c3, c4] <;> intros <;> omega
theorem chk1 (h : ¬ (left - 1 < 0 ∨ depth > 400)) : chk row depth left (.mk 1 n v l) = (bif (v != 0) then (3, left - 1) else bif row then (9, left - 1) else chks 1 0 (depth + 1) (left - 1) l) := by
  rw [chk, if_neg h, if_neg (by omega)]
  cases c3 : (v != 0) <;> cases row <;>
    simp only [bne_iff_ne, bne_eq_false_iff_eq, decide_eq_true_eq, decide_eq_false_iff_not] at c3 <;> simp [szK, c3]
theorem chk2 (h : ¬ (left - 1 < 0 ∨ depth > 400)) : chk row depth left (.mk 2 n v l) = (bif ((l.length : Int) != 3) then (3, left - 1) else bif (v != 0) then (3, left - 1) else bif (n.toList == ({ data := #[] } : ByteArray).toList) then (bif row then (9, left - 1) else chks 2 0 (depth + 1) (left - 1) l) else (3, left - 1)) := by
  rw [chk, if_neg h, if_neg (by omega)]
  cases c1 : ((l.length : Int) != 3) <;> cases c2 : (n.toList == ({ data := #[] } : ByteArray).toList) <;> cases c3 : (v != 0) <;> cases row <;>
    simp only [bne_iff_ne, bne_eq_false_iff_eq, decide_eq_true_eq, decide_eq_false_iff_not] at c1 c3 <;> simp [szK, c1, c2, c3]
theorem chk3 (h : ¬ (left - 1 < 0 ∨ depth > 400)) : chk row depth left (.mk 3 n v l) = (bif ((l.length : Int) != 1) then (3, left - 1) else bif (v != 0) then (3, left - 1) else bif (n.toList == ({ data := #[] } : ByteArray).toList) then (bif row then (9, left - 1) else chks 3 0 (depth + 1) (left - 1) l) else (3, left - 1)) := by
  rw [chk, if_neg h, if_neg (by omega)]
  cases c1 : ((l.length : Int) != 1) <;> cases c2 : (n.toList == ({ data := #[] } : ByteArray).toList) <;> cases c3 : (v != 0) <;> cases row <;>
    simp only [bne_iff_ne, bne_eq_false_iff_eq, decide_eq_true_eq, decide_eq_false_iff_not] at c1 c3 <;> simp [szK, c1, c2, c3]
theorem chk4 (h : ¬ (left - 1 < 0 ∨ depth > 400)) : chk row depth left (.mk 4 n v l) = (bif ((l.length : Int) != 0) then (3, left - 1) else bif (v != 0) then (3, left - 1) else bif (n.toList == ({ data := #[] } : ByteArray).toList) then (bif row then chks 4 0 (depth + 1) (left - 1) l else (9, left - 1)) else (3, left - 1)) := by
  rw [chk, if_neg h, if_neg (by omega)]
  cases l <;> cases c2 : (n.toList == ({ data := #[] } : ByteArray).toList) <;> cases c3 : (v != 0) <;> cases row <;>
    simp only [bne_iff_ne, bne_eq_false_iff_eq, decide_eq_true_eq, decide_eq_false_iff_not] at c3 <;> simp [szK, c2, c3] <;> intros <;> omega
theorem chk5 (h : ¬ (left - 1 < 0 ∨ depth > 400)) : chk row depth left (.mk 5 n v l) = (bif ((l.length : Int) != 2) then (3, left - 1) else bif (v != 0) then (3, left - 1) else bif row then chks 5 0 (depth + 1) (left - 1) l else (9, left - 1)) := by
  rw [chk, if_neg h, if_neg (by omega)]
  cases c1 : ((l.length : Int) != 2) <;> cases c3 : (v != 0) <;> cases row <;>
    simp only [bne_iff_ne, bne_eq_false_iff_eq, decide_eq_true_eq, decide_eq_false_iff_not] at c1 c3 <;> simp [szK, c1, c3]
end

mutual
theorem chk_le (row : Bool) (depth left : Int) : ∀ t : Tm, (chk row depth left t).2 + 1 ≤ left
  | .mk k n v l => by
    have := chks_le k 0 (depth + 1) (left - 1) l
    rw [chk]
    (repeat' split) <;> first | omega | (simp only []; omega) | (show _ + 1 ≤ left; omega)
theorem chks_le (k : Int) (i : Nat) (depth left : Int) : ∀ l : List Tm, (chks k i depth left l).2 ≤ left
  | [] => by rw [chks]; simp
  | a :: r => by
    have h1 := chk_le (rowed k i a) depth left a
    have h2 := chks_le k (i + 1) depth (chk (rowed k i a) depth left a).2 r
    rw [chks]
    split <;> omega
end
mutual
theorem chk_ok (row : Bool) (depth left : Int) : ∀ t : Tm, (chk row depth left t).1 = 0 → 0 ≤ (chk row depth left t).2
  | .mk k n v l => by
    by_cases h1 : left - 1 < 0
    · rw [chk_large (Or.inl h1)]; simp
    · have := chks_ok k 0 (depth + 1) (left - 1) l (by omega)
      rw [chk]
      (repeat' split) <;> first | exact this | (intro h; simp at h)
theorem chks_ok (k : Int) (i : Nat) (depth left : Int) : ∀ l : List Tm, 0 ≤ left → (chks k i depth left l).1 = 0 → 0 ≤ (chks k i depth left l).2
  | [] => fun h _ => by rw [chks]; exact h
  | a :: r => by
    intro h h1
    rw [chks] at h1 ⊢
    split at h1
    · rename_i h2; exact absurd h1 h2
    · rename_i h2
      have h3 : (chk (rowed k i a) depth left a).1 = 0 := Classical.not_not.1 h2
      rw [if_neg h2]
      exact chks_ok k (i + 1) depth _ r (chk_ok (rowed k i a) depth left a h3) h1
end

mutual
/-- The variables in the order in which they come first. -/
def fre : Tm → List Int
  | .mk k _ v l => if k = 0 then [v] else fres [] l
def fres (out : List Int) : List Tm → List Int
  | [] => out
  | a :: r => fres (adds out (fre a)) r
def adds (out : List Int) : List Int → List Int
  | [] => out
  | v :: r => adds (if out.contains v then out else out ++ [v]) r
end
end Un
end Go.Am

/- Types in the machine: variables, Contains, Free. Conditions: none. -/
namespace Go.Am.U1
open Go.Am.Un
set_option maxRecDepth 100000
set_option linter.unusedSimpArgs false
attribute [local go_sem] wseq COp.isStore wreg wdreg wret wskip wexit wblock wcnd cnd_t cnd_f then_n then_x then_r catch_n rnd_n rnd_x rnd_r catch_x catch_r wo_nil wo_grd grdO_t grdO_f wo_ops stpO wr_nil wr_alloc wr_guards grdR_t grdR_f wr_ops stpR evAllocs evOp env0_app eput_some eput_none eset_app Opd.ev wantedA faddrA snew_obj snew_size sput_obj sput_size av_cells av_one av_strip av_still unA eqbA fillA fldA lensA mmA mm2 mmFold List.getD_cons_zero List.getD_cons_succ List.getD_nil List.length_cons List.length_nil List.drop_zero List.drop_succ_cons List.take_succ_cons List.take_zero List.map_cons List.map_nil List.set_cons_zero List.set_cons_succ List.all_cons List.all_nil List.getElem?_cons_zero List.getElem?_cons_succ List.nil_append List.cons_append Nat.zero_add Nat.add_zero beq_self_eq_true bt bf Bool.not_true Bool.not_false Bool.and_true Bool.true_and Bool.and_false Bool.false_and and_self and_true true_and n0 n1 n2 n3 n4 m0 m1 m2 m3 c1 retA resAs resA undefA Option.map_some Option.map_none

/-- Nothing is told but what a type's normal form is. -/
def NoX (X : Ext) : Prop := ∀ f, f ≠ 24 → X f = none

theorem tycP : Plain tyc 4 where
  len := tyc_len
  one := fun t => by cases t; rw [tyc]; rfl
  still := fun t => by cases t; rw [tyc]; rfl
  strip := fun t => by cases t; rw [tyc]; rfl
def ic (x : Int) : List AV := [.int .i64 x]
theorem ic_len (x : Int) : (ic x).length = 1 := rfl
theorem icP : Plain ic 1 := ⟨ic_len, fun _ => rfl, fun _ => rfl, fun _ => rfl⟩

theorem isl_tycs (l : List Tm) : ISl tyc (.sl (tycs l) l.length false none) l := Or.inr ⟨false, none, by rw [tycs_flat]⟩
theorem wrapn {n : Nat} (h : n ≤ 4398046511104) : IntKind.i64.wrap ((n : Int) + 1) = ((n + 1 : Nat) : Int) := by rw [IntKind.wrap_i64]; omega
theorem drop_at {α : Type} {l : List α} {i : Nat} {x : α} (hx : l[i]? = some x) : l.drop i = x :: l.drop (i + 1) := by
  obtain ⟨hi, hl⟩ := List.getElem?_eq_some_iff.1 hx
  rw [List.drop_eq_getElem_cons hi, hl]

/-- A type's cells, whose arguments are this slice. -/
def tyw (t : Tm) (w : AV) : List AV := [.int .i64 (kof t), .str (nof t), .int .i64 (vof t), w]
theorem tyc_w (t : Tm) : tyc t = tyw t (.sl (tycs (lof t)) (lof t).length false none) := by cases t; rw [tyc]; rfl

variable {X : Ext}

theorem var_law (hX : NoX X) (n : Int) (s : St) : WC T X 68 [.int .i64 n] s (fun v s' => v = .agg [.int .i64 0, .str ⟨#[]⟩, .int .i64 n, .sl [] 0 false none] ∧ Keep s s') := by
  refine WC_fn cf68 (hX 68 (by decide)) T68 (by simp [cf68]) ?_
  simp only [cf68, go_sem, ↓reduceIte, reduceCtorEq, Nat.reduceEqDiff, Nat.reduceAdd, Nat.reduceSub, Nat.reduceMul, Nat.reduceLeDiff, Nat.reduceLT, loadA, rdCells, storeA, setAt, binA]
  exact ⟨by simp, _, rfl, rfl, ((Keep.refl s).new' _).put' (Nat.le_refl _) _⟩

theorem index_int (hX : NoX X) {v : AV} {l : List Int} (h : ISl ic v l) (hb : l.length ≤ 4398046511104) (x : Int) (s : St) :
    WC T X 70 [v, .int .i64 x] s (fun r s' => (∃ m : Int, r = .int .i64 m ∧ decide (m ≥ 0) = l.contains x) ∧ s' = s) := by
  refine WC_fn cf70 (hX 70 (by decide)) T70 (by simp [cf70]) ?_
  have hlen := h.len
  simp only [cf70, hlen, go_sem, ↓reduceIte, reduceCtorEq, Nat.reduceEqDiff, Nat.reduceAdd, Nat.reduceSub, Nat.reduceMul, Nat.reduceLeDiff, Nat.reduceLT, loadA, rdCells, storeA, setAt, binA]
  refine W_loop_nat (fun k e s1 => ∃ i, i + k = l.length ∧ e 0 = v ∧ e 1 = .int .i64 x ∧ e 7 = .int .i64 l.length ∧ e 8 = .int .i64 i ∧ l.contains x = (l.drop i).contains x ∧ s1 = s) ?_ l.length _ _ ⟨0, by simp, ?_⟩
  · rintro k e s1 ⟨i, hik, h0, h1, h7, h8, hf, rfl⟩
    by_cases hi : i < l.length
    · obtain ⟨y, hy⟩ : ∃ x, l[i]? = some x := ⟨_, List.getElem?_eq_getElem hi⟩
      have hd : decide ((i : Int) < (l.length : Int)) = true := by simp; omega
      simp only [cf70_l0, h0, h1, h7, h8, hd, h.at ic_len hy, ic, Nat.le_add_left, go_sem, ↓reduceIte, reduceCtorEq, Nat.reduceEqDiff, Nat.reduceAdd, Nat.reduceSub, Nat.reduceMul, Nat.reduceLeDiff, Nat.reduceLT, loadA, rdCells, storeA, setAt, binA]
      cases hp : (x == y) <;> simp only [h0, h1, h7, h8, wrapn (n := i) (by omega), go_sem, ↓reduceIte, reduceCtorEq, Nat.reduceEqDiff, Nat.reduceAdd, Nat.reduceSub, Nat.reduceMul, Nat.reduceLeDiff, Nat.reduceLT, loadA, rdCells, storeA, setAt, binA]
      · exact ⟨k - 1, by omega, i + 1, by omega, rfl, by rw [hf, drop_at hy, List.contains_cons, hp, Bool.false_or]⟩
      · exact ⟨by simp, _, rfl, (i : Int), rfl, by rw [hf, drop_at hy, List.contains_cons, hp, Bool.true_or]; simp⟩
    · have hd : decide ((i : Int) < (l.length : Int)) = false := by simp; omega
      simp only [cf70_l0, h0, h1, h7, h8, hd, go_sem, ↓reduceIte, reduceCtorEq, Nat.reduceEqDiff, Nat.reduceAdd, Nat.reduceSub, Nat.reduceMul, Nat.reduceLeDiff, Nat.reduceLT, loadA, rdCells, storeA, setAt, binA]
      exact ⟨by simp, _, rfl, -1, rfl, by rw [hf, List.drop_eq_nil_of_le (by omega)]; rfl⟩
  · simp only [go_sem, ↓reduceIte, reduceCtorEq, Nat.reduceEqDiff, Nat.reduceAdd, Nat.reduceSub, Nat.reduceMul, Nat.reduceLeDiff, Nat.reduceLT, loadA, rdCells, storeA, setAt, binA]; rfl

theorem contains_int (hX : NoX X) {v : AV} {l : List Int} (h : ISl ic v l) (hb : l.length ≤ 4398046511104) (x : Int) (s : St) :
    WC T X 49 [v, .int .i64 x] s (fun r s' => r = .bool (l.contains x) ∧ s' = s) := by
  refine WC_fn cf49 (hX 49 (by decide)) T49 (by simp [cf49]) ?_
  simp only [cf49, go_sem, ↓reduceIte, reduceCtorEq, Nat.reduceEqDiff, Nat.reduceAdd, Nat.reduceSub, Nat.reduceMul, Nat.reduceLeDiff, Nat.reduceLT, loadA, rdCells, storeA, setAt, binA]
  refine WO_callx [v, .int .i64 x] (by simp only [go_sem, ↓reduceIte, reduceCtorEq, Nat.reduceEqDiff, Nat.reduceAdd, Nat.reduceSub, Nat.reduceMul, Nat.reduceLeDiff, Nat.reduceLT, loadA, rdCells, storeA, setAt, binA]) ((index_int hX h hb x s).mono ?_)
  rintro r s2 ⟨⟨m, rfl, hm⟩, rfl⟩
  simp only [go_sem, ↓reduceIte, reduceCtorEq, Nat.reduceEqDiff, Nat.reduceAdd, Nat.reduceSub, Nat.reduceMul, Nat.reduceLeDiff, Nat.reduceLT, loadA, rdCells, storeA, setAt, binA]
  exact ⟨by simp, _, rfl, by rw [hm]⟩
end Go.Am.U1
