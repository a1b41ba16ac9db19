/- What stays, loops, rows. Conditions: none. -/
import Derived.Test.YtfleakoephmgaaaDoorAmV
set_option linter.unusedSimpArgs false
set_option linter.unusedVariables false
namespace Go.Am

/-- What was there is as it was. -/
def Keep (s s' : St) : Prop := s.size ≤ s'.size ∧ ∀ j, j < s.size → s'.obj j = s.obj j
theorem Keep.refl (s : St) : Keep s s := ⟨Nat.le_refl _, fun _ _ => rfl⟩
theorem Keep.trans {a b c : St} (h : Keep a b) (k : Keep b c) : Keep a c := ⟨Nat.le_trans h.1 k.1, fun j hj => (k.2 j (Nat.lt_of_lt_of_le hj h.1)).trans (h.2 j hj)⟩
theorem Keep.new (s : St) (o : AO) : Keep s (s.new o) := ⟨by simp [St.new], fun j hj => by simp only [St.new]; rw [if_neg (by omega)]⟩
theorem Keep.new' {s s' : St} (h : Keep s s') (o : AO) : Keep s (s'.new o) := h.trans (Keep.new _ _)
theorem Keep.put' {s s' : St} (h : Keep s s') {p : Nat} (hp : s.size ≤ p) (o : Option AO) : Keep s (s'.put p o) := ⟨h.1, fun j hj => by simp only [St.put]; rw [if_neg (by omega)]; exact h.2 j hj⟩
theorem Keep.obj {s s' : St} (h : Keep s s') {j : Nat} {o : Option AO} (hj : j < s.size) (ho : s.obj j = o) : s'.obj j = o := (h.2 j hj).trans ho
theorem Keep.lt {s s' : St} (h : Keep s s') {j : Nat} (hj : j < s.size) : j < s'.size := Nat.lt_of_lt_of_le hj h.1

theorem new_ne {s : St} {o : AO} {j : Nat} (h : j ≠ s.size) : (s.new o).obj j = s.obj j := by simp only [St.new]; rw [if_neg h]
theorem new_eq {s : St} {o : AO} {j : Nat} (h : j = s.size) : (s.new o).obj j = some o := by simp only [St.new]; rw [if_pos h]
theorem put_ne {s : St} {o : Option AO} {i j : Nat} (h : j ≠ i) : (s.put i o).obj j = s.obj j := by simp only [St.put]; rw [if_neg h]
theorem put_eq {s : St} {o : Option AO} {i : Nat} : (s.put i o).obj i = o := by simp [St.put]

/-- The same but for one object. -/
def KeepBut (p : Nat) (s s' : St) : Prop := s.size ≤ s'.size ∧ ∀ j, j < s.size → j ≠ p → s'.obj j = s.obj j
theorem KeepBut.trans {p : Nat} {a b c : St} (h : KeepBut p a b) (k : KeepBut p b c) : KeepBut p a c := ⟨Nat.le_trans h.1 k.1, fun j hj hp => (k.2 j (Nat.lt_of_lt_of_le hj h.1) hp).trans (h.2 j hj hp)⟩
theorem Keep.but {p : Nat} {a b : St} (h : Keep a b) : KeepBut p a b := ⟨h.1, fun j hj _ => h.2 j hj⟩
theorem KeepBut.put {p : Nat} {a b : St} (h : KeepBut p a b) (o : Option AO) : KeepBut p a (b.put p o) := ⟨h.1, fun j hj hp => by simp only [St.put]; rw [if_neg hp]; exact h.2 j hj hp⟩
theorem KeepBut.keep {p : Nat} {a b c : St} (h : Keep a b) (k : KeepBut p b c) (hp : a.size ≤ p) : Keep a c := ⟨Nat.le_trans h.1 k.1, fun j hj => (k.2 j (Nat.lt_of_lt_of_le hj h.1) (by omega)).trans (h.2 j hj)⟩

section
variable {T : Nat → Option CF} {X : Ext}

/-- Behind a round: the next one, or the loop's end. -/
def Rnd (I : Nat → Env → St → Prop) (k : Nat) (Q : CX → Env → St → Prop) (x : CX) (e : Env) (s : St) : Prop :=
  match x with
  | .normal => ∃ k', k' < k ∧ I k' e s
  | y => Q y e s
theorem rnd_n {I : Nat → Env → St → Prop} {k : Nat} {Q : CX → Env → St → Prop} {e : Env} {s : St} : Rnd I k Q .normal e s ↔ ∃ k', k' < k ∧ I k' e s := Iff.rfl
theorem rnd_x {I : Nat → Env → St → Prop} {k : Nat} {Q : CX → Env → St → Prop} {e : Env} {s : St} {j : Nat} : Rnd I k Q (.exit j) e s ↔ Q (.exit j) e s := Iff.rfl
theorem rnd_r {I : Nat → Env → St → Prop} {k : Nat} {Q : CX → Env → St → Prop} {e : Env} {s : St} : Rnd I k Q .ret e s ↔ Q .ret e s := Iff.rfl

theorem W_loop_nat {b : CC} {Q : CX → Env → St → Prop} (I : Nat → Env → St → Prop)
    (hstep : ∀ k e s, I k e s → W T X b e s (Rnd I k Q)) : ∀ k e s, I k e s → W T X (.loop b) e s Q := by
  intro k
  induction k using Nat.strongRecOn with
  | ind k ih =>
    intro e s h
    refine W_loop ((hstep k e s h).mono fun x e' s' hx => ?_)
    cases x with
    | normal => obtain ⟨k', hk, hI⟩ := hx; exact ih k' hk e' s' hI
    | exit j => exact hx
    | ret => exact hx

theorem flat_len {α : Type} {f : α → List AV} {z : Nat} (hf : ∀ a, (f a).length = z) (l : List α) : (l.flatMap f).length = l.length * z := by
  induction l with
  | nil => simp
  | cons a l ih => rw [List.flatMap_cons, List.length_append, ih, hf, List.length_cons, Nat.add_mul]; omega

theorem flat_drop {α : Type} {f : α → List AV} {z : Nat} (hf : ∀ a, (f a).length = z) : ∀ (l : List α) (i : Nat), (l.flatMap f).drop (i * z) = (l.drop i).flatMap f
  | l, 0 => by simp
  | [], i + 1 => by simp
  | a :: l, i + 1 => by
    rw [List.flatMap_cons, Nat.add_mul, Nat.one_mul, Nat.add_comm, ← List.drop_drop, List.drop_left' (hf a), List.drop_succ_cons]
    exact flat_drop hf l i

theorem flat_take {α : Type} {f : α → List AV} {z : Nat} (hf : ∀ a, (f a).length = z) : ∀ (l : List α) (i : Nat), (l.flatMap f).take (i * z) = (l.take i).flatMap f
  | l, 0 => by simp
  | [], i + 1 => by simp
  | a :: l, i + 1 => by
    rw [List.flatMap_cons, List.take_succ_cons, List.flatMap_cons, Nat.add_mul, Nat.one_mul, Nat.add_comm, ← flat_take hf l i]
    conv => lhs; rw [← hf a, List.take_length_add_append]
    rw [hf a]

theorem flat_at {α : Type} {f : α → List AV} {z : Nat} (hf : ∀ a, (f a).length = z) {l : List α} {i : Nat} {a : α} (h : l[i]? = some a) : (l.flatMap f).drop (i * z) = f a ++ (l.drop (i + 1)).flatMap f := by
  rw [flat_drop hf]
  obtain ⟨hi, hl⟩ := List.getElem?_eq_some_iff.1 h
  rw [List.drop_eq_getElem_cons hi, hl, List.flatMap_cons]

theorem WR_callx {d : Option Nat} {f : Nat} {args : List Opd} {r : List CO} {e : Env} {s : St} {R : Env → St → Prop} (as' : List AV) (ha : args.map (Opd.ev e) = as')
    (h : WC T X f as' s (fun v s1 => WR T X r (e.put d v) s1 R)) : WR T X (⟨d, none, .call f args⟩ :: r) e s R := WR_call (by rw [ha]; exact h)
theorem WO_callx {d : Option Nat} {f : Nat} {args : List Opd} {r : List CO} {e : Env} {s : St} {R : Env → St → Prop} (as' : List AV) (ha : args.map (Opd.ev e) = as')
    (h : WC T X f as' s (fun v s1 => WO T X r (e.put d v) s1 R)) : WO T X (⟨d, none, .call f args⟩ :: r) e s R := WO_call rfl (by rw [ha]; exact h)
theorem WT_callx {d : Option Nat} {f : Nat} {args : List Opd} {r : List CO} {e : Env} {s : St} {U : List (Env × St) → Env → St → Prop} (as' : List AV) (ha : args.map (Opd.ev e) = as')
    (h : WC T X f as' s (fun v s1 => WT T X r (e.put d v) s1 (Tr e s U))) : WT T X (⟨d, none, .call f args⟩ :: r) e s U := WT_call rfl (by rw [ha]; exact h)

theorem WO_callvx {d : Option Nat} {x : Opd} {args : List Opd} {r : List CO} {e : Env} {s : St} {R : Env → St → Prop} (f : Nat) (cap as' : List AV) (hx : x.ev e = .func f cap) (ha : args.map (Opd.ev e) ++ cap = as')
    (h : WC T X f as' s (fun v s1 => WO T X r (e.put d v) s1 R)) : WO T X (⟨d, none, .callv x args⟩ :: r) e s R := WO_callv rfl hx (by rw [ha]; exact h)

theorem WC_of {f : Nat} {args : List AV} {s : St} {Q R : AV → St → Prop} (h : WC T X f args s Q) (hq : ∀ v s', Q v s' → R v s') : WC T X f args s R := h.mono hq

end
end Go.Am
