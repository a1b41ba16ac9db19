/- Lines of a text: what strings.Split, Join, Count, IndexByte and LastIndexByte come to at a line feed. Conditions: none. -/
import Derived.Test.YtepgbpohmljedaaAmY3
import Derived.Shelf.Strings.Split
import Derived.Lib.LastIndexByte
import Derived.Lib.Join
set_option linter.unusedSimpArgs false
set_option linter.unusedVariables false
namespace Go.Am

/-- The lines. -/
def sp : List UInt8 → List (List UInt8)
  | [] => [[]]
  | c :: r => if c = 10 then [] :: sp r else match sp r with
    | p :: ps => (c :: p) :: ps
    | [] => [[c]]

theorem sp_ne : ∀ l, ∃ p ps, sp l = p :: ps
  | [] => ⟨[], [], rfl⟩
  | c :: r => by
    obtain ⟨p, ps, h⟩ := sp_ne r
    by_cases hc : c = 10
    · exact ⟨[], sp r, by rw [sp, if_pos hc]⟩
    · exact ⟨c :: p, ps, by rw [sp, if_neg hc, h]⟩

theorem sp_len : ∀ l : List UInt8, (sp l).length = l.count 10 + 1
  | [] => rfl
  | c :: r => by
    obtain ⟨p, ps, h⟩ := sp_ne r
    have ih := sp_len r
    by_cases hc : c = 10
    · subst hc; rw [sp, if_pos rfl, List.length_cons, ih, List.count_cons_self]
    · rw [sp, if_neg hc, h, List.count_cons_of_ne (by simpa using hc)]; rw [h] at ih; exact ih

theorem sp_none : ∀ l : List UInt8, (∀ k : Nat, l[k]? ≠ some 10) → sp l = [l]
  | [], _ => rfl
  | c :: r, h => by
    have hc : c ≠ 10 := fun hc => h 0 (by rw [hc]; rfl)
    rw [sp, if_neg hc, sp_none r (fun k hk => h (k + 1) (by simpa using hk))]

theorem sp_hit : ∀ (i : Nat) (l : List UInt8), l[i]? = some 10 → (∀ k : Nat, k < i → l[k]? ≠ some 10) → sp l = l.take i :: sp (l.drop (i + 1))
  | i, [], h, _ => by simp at h
  | 0, c :: r, h, _ => by simp at h; subst h; rw [sp, if_pos rfl]; rfl
  | i + 1, c :: r, h, hn => by
    have hc : c ≠ 10 := fun hc => hn 0 (by omega) (by rw [hc]; rfl)
    have ih := sp_hit i r (by simpa using h) (fun k hk => by have := hn (k + 1) (by omega); simpa using this)
    rw [sp, if_neg hc, ih]
    simp

theorem splitK_sp : ∀ (n : Nat) (l : List UInt8), l.count 10 = n → Lib.splitK [10] 0 n l = sp l
  | 0, l, h => by
    rw [Lib.splitK, sp_none]
    intro k hk
    have := List.count_pos_iff.2 (List.mem_of_getElem? hk)
    omega
  | n + 1, l, h => by
    have hix := Lib.index_one l 10
    rcases Int.lt_or_le (Lib.indexByte l 10) 0 with hneg | hpos
    · have h1 : Lib.indexByte l 10 = -1 := by have := Lib.indexByte_ge l 10; omega
      have h0 : l.count 10 = 0 := by
        rw [List.count_eq_zero]
        intro hm
        obtain ⟨k, hk⟩ := List.getElem?_of_mem hm
        exact Lib.indexByte_none h1 k hk
      omega
    · obtain ⟨i, hi⟩ := Int.eq_ofNat_of_zero_le hpos
      obtain ⟨h1, h2⟩ := Lib.indexByte_some hi
      rw [Lib.splitK, if_neg (by rw [hix, hi]; simp), hix, hi, Int.toNat_natCast, Nat.add_zero, sp_hit i l h1 h2]
      congr 1
      refine splitK_sp n _ ?_
      obtain ⟨hlt, hge⟩ := List.getElem?_eq_some_iff.1 h1
      have h3 : l.count 10 = (l.take i).count 10 + (l.drop i).count 10 := by conv => lhs; rw [← List.take_append_drop i l, List.count_append]
      have h4 : (l.take i).count 10 = 0 := by
        rw [List.count_eq_zero]
        intro hm
        obtain ⟨k, hk⟩ := List.getElem?_of_mem hm
        have hki : k < i := by
          have := (List.getElem?_eq_some_iff.1 hk).1
          rw [List.length_take] at this; omega
        rw [List.getElem?_take_of_lt hki] at hk
        exact h2 k hki hk
      rw [List.drop_eq_getElem_cons hlt, hge, List.count_cons_self] at h3
      show (l.drop (i + [10].length)).count 10 = n
      rw [List.length_singleton]
      omega

theorem sp_join : ∀ l : List UInt8, Lib.join (sp l) [10] = l
  | [] => rfl
  | c :: r => by
    obtain ⟨p, ps, h⟩ := sp_ne r
    have ih := sp_join r
    by_cases hc : c = 10
    · subst hc
      rw [sp, if_pos rfl, h]
      rw [h] at ih
      unfold Lib.join at ih ⊢
      rw [List.intercalate, List.intersperse_cons_cons] <;> try simp
      all_goals first
        | (rw [List.intercalate] at ih; simpa using ih)
        | simpa [List.intercalate] using ih
    · rw [sp, if_neg hc, h]
      rw [h] at ih
      unfold Lib.join at ih ⊢
      cases ps with
      | nil => simp [List.intercalate] at ih ⊢; exact ih
      | cons q qs => simp [List.intercalate] at ih ⊢; exact ih

/-- Where a line begins. -/
def off : List UInt8 → Nat → Nat
  | _, 0 => 0
  | [], _ + 1 => 0
  | c :: r, k + 1 => if c = 10 then 1 + off r k else 1 + off r (k + 1)
theorem off_zero (l : List UInt8) : off l 0 = 0 := by cases l <;> rfl

theorem off_next : ∀ (l : List UInt8) (k : Nat), k < l.count 10 → 0 ≤ Lib.indexByte (l.drop (off l k)) 10 ∧ off l (k + 1) = off l k + (Lib.indexByte (l.drop (off l k)) 10).toNat + 1 ∧ off l (k + 1) ≤ l.length
  | [], k, h => by simp at h
  | c :: r, 0, h => by
    rw [off_zero, List.drop_zero, off]
    by_cases hc : c = 10
    · subst hc
      rw [if_pos rfl, off_zero, Lib.indexByte]
      simp
    · rw [List.count_cons_of_ne (by simpa using hc)] at h
      obtain ⟨h1, h2, h3⟩ := off_next r 0 h
      rw [off_zero, List.drop_zero] at h1 h2
      rw [if_neg hc, Lib.indexByte, if_neg (by simpa using hc), if_neg (by simp; omega), h2]
      refine ⟨by omega, by omega, ?_⟩
      rw [h2] at h3
      simp only [List.length_cons]; omega
  | c :: r, k + 1, h => by
    by_cases hc : c = 10
    · subst hc
      rw [List.count_cons_self] at h
      obtain ⟨h1, h2, h3⟩ := off_next r k (by omega)
      have e1 : off (10 :: r) (k + 1) = off r k + 1 := by rw [off, if_pos rfl, Nat.add_comm]
      have e2 : off (10 :: r) (k + 1 + 1) = off r (k + 1) + 1 := by rw [off, if_pos rfl, Nat.add_comm]
      rw [e1, e2, List.drop_succ_cons]
      exact ⟨h1, by omega, by simp only [List.length_cons]; omega⟩
    · rw [List.count_cons_of_ne (by simpa using hc)] at h
      obtain ⟨h1, h2, h3⟩ := off_next r (k + 1) h
      have e1 : off (c :: r) (k + 1) = off r (k + 1) + 1 := by rw [off, if_neg hc, Nat.add_comm]
      have e2 : off (c :: r) (k + 1 + 1) = off r (k + 1 + 1) + 1 := by rw [off, if_neg hc, Nat.add_comm]
      rw [e1, e2, List.drop_succ_cons]
      exact ⟨h1, by omega, by simp only [List.length_cons]; omega⟩

theorem off_at : ∀ (l : List UInt8) (n : Nat), n ≤ l.length → off l ((l.take n).count 10) ≤ n ∧ (∀ j : Nat, off l ((l.take n).count 10) ≤ j → j < n → l[j]? ≠ some 10) ∧
    ((l.take n).count 10 = 0 ∨ (1 ≤ off l ((l.take n).count 10) ∧ l[off l ((l.take n).count 10) - 1]? = some 10)) ∧ ∃ p, (sp l)[(l.take n).count 10]? = some p ∧ n ≤ off l ((l.take n).count 10) + p.length
  | l, 0, _ => by
    obtain ⟨p, ps, h⟩ := sp_ne l
    rw [List.take_zero, List.count_nil, off_zero, h]
    exact ⟨by omega, fun j _ hj => by omega, Or.inl rfl, p, rfl, by omega⟩
  | [], n + 1, h => by simp at h
  | c :: r, n + 1, h => by
    obtain ⟨h1, h2, h3, p, h4, h5⟩ := off_at r n (by simpa using h)
    rw [List.take_succ_cons]
    by_cases hc : c = 10
    · subst hc
      rw [List.count_cons_self]
      generalize (r.take n).count 10 = k at *
      have e1 : off (10 :: r) (k + 1) = off r k + 1 := by rw [off, if_pos rfl, Nat.add_comm]
      rw [e1, sp, if_pos rfl]
      refine ⟨by omega, fun j hj hjn => ?_, Or.inr ⟨by omega, ?_⟩, p, by simpa using h4, by omega⟩
      · cases j with
        | zero => omega
        | succ j => rw [List.getElem?_cons_succ]; exact h2 j (by omega) (by omega)
      · rw [Nat.add_sub_cancel]
        rcases h3 with rfl | ⟨ha, hb⟩
        · rw [off_zero]; rfl
        · obtain ⟨m, hm⟩ : ∃ m, off r k = m + 1 := ⟨off r k - 1, by omega⟩
          rw [hm, List.getElem?_cons_succ]
          rw [hm, Nat.add_sub_cancel] at hb
          exact hb
    · rw [List.count_cons_of_ne (by simpa using hc)]
      generalize (r.take n).count 10 = k at *
      obtain ⟨q, qs, hq⟩ := sp_ne r
      rw [sp, if_neg hc, hq]
      rw [hq] at h4
      cases k with
      | zero =>
        rw [off_zero] at h1 h2 h5 ⊢
        simp at h4
        subst h4
        refine ⟨by omega, fun j hj hjn => ?_, Or.inl rfl, c :: q, rfl, by simp only [List.length_cons]; omega⟩
        cases j with
        | zero => simpa using hc
        | succ j => rw [List.getElem?_cons_succ]; exact h2 j (by omega) (by omega)
      | succ k =>
        have e1 : off (c :: r) (k + 1) = off r (k + 1) + 1 := by rw [off, if_neg hc, Nat.add_comm]
        rw [e1]
        rcases h3 with h3 | ⟨ha, hb⟩
        · omega
        refine ⟨by omega, fun j hj hjn => ?_, Or.inr ⟨by omega, ?_⟩, p, by simpa using h4, by omega⟩
        · cases j with
          | zero => omega
          | succ j => rw [List.getElem?_cons_succ]; exact h2 j (by omega) (by omega)
        · rw [Nat.add_sub_cancel]
          obtain ⟨m, hm⟩ : ∃ m, off r (k + 1) = m + 1 := ⟨off r (k + 1) - 1, by omega⟩
          rw [hm, List.getElem?_cons_succ]
          rw [hm, Nat.add_sub_cancel] at hb
          exact hb
end Go.Am
