/- What the sort and the compact of strings come to. Conditions: none. -/
import Derived.Test.YtjhbakfgoaeeoaaAmY3
namespace Go.Am

abbrev BL := List UInt8
theorem bl_trans {a b c : BL} (h : a < b) (k : b < c) : a < c := List.lt_trans h k
theorem bl_irrefl (a : BL) : ¬ a < a := List.lt_irrefl a
theorem bl_le_trans {a b c : BL} (h : a ≤ b) (k : b ≤ c) : a ≤ c := List.le_trans h k
theorem bl_total (a b : BL) : a ≤ b ∨ b ≤ a := List.le_total a b
theorem bl_lt_of {a b : BL} (h : a ≤ b) (hn : b ≠ a) : a < b := by
  refine Classical.byContradiction fun hab => hn ?_
  exact List.le_antisymm (List.not_lt.1 hab) h
theorem bl_le_of_lt {a b : BL} (h : a < b) : a ≤ b := List.le_of_lt h
theorem bl_lt_of_le_of_lt {a b c : BL} (h : a ≤ b) (k : b < c) : a < c := List.lt_of_le_of_lt h k

theorem sorted_merge (l : List BL) : (l.mergeSort fun x y => decide (x ≤ y)).Pairwise (· ≤ ·) := by
  have := List.pairwise_mergeSort (le := fun x y : BL => decide (x ≤ y)) (fun a b c h k => by simp only [decide_eq_true_eq] at *; exact bl_le_trans h k) (fun a b => by simp only [Bool.or_eq_true, decide_eq_true_eq]; exact bl_total a b) l
  exact this.imp (fun h => by simpa using h)

theorem compact_facts (d : Array BL) (hs : ∀ i j, i ≤ j → j < d.size → d[i]! ≤ d[j]!) : ∀ m, m ≤ d.size →
    (∀ x, x ∈ Lib.compactUpTo d m ↔ ∃ j, j < m ∧ d[j]! = x) ∧ (Lib.compactUpTo d m).Pairwise (· < ·) ∧ (Lib.compactUpTo d m).length ≤ m
  | 0, _ => by simp [Lib.compactUpTo]
  | m + 1, hm => by
    obtain ⟨h1, h2, h3⟩ := compact_facts d hs m (by omega)
    rw [Lib.compactUpTo_succ]
    cases hk : Lib.keeps d m with
    | true =>
      simp only [if_true]
      refine ⟨fun x => ?_, ?_, by simp; omega⟩
      · rw [List.mem_append, h1]
        constructor
        · rintro (⟨j, hj, rfl⟩ | hx)
          · exact ⟨j, by omega, rfl⟩
          · simp only [List.mem_singleton] at hx; exact ⟨m, by omega, hx.symm⟩
        · rintro ⟨j, hj, rfl⟩
          by_cases hjm : j < m
          · exact Or.inl ⟨j, hjm, rfl⟩
          · obtain rfl : j = m := by omega
            exact Or.inr (by simp)
      · rw [List.pairwise_append]
        refine ⟨h2, by simp, fun a ha b hb => ?_⟩
        simp only [List.mem_singleton] at hb
        subst hb
        obtain ⟨j, hj, rfl⟩ := (h1 a).1 ha
        simp only [Lib.keeps, decide_eq_true_eq] at hk
        rcases hk with rfl | hk
        · omega
        · exact bl_lt_of_le_of_lt (hs j (m - 1) (by omega) (by omega)) (bl_lt_of (hs (m - 1) m (by omega) (by omega)) hk)
    | false =>
      simp only [Bool.false_eq_true, if_false, List.append_nil]
      simp only [Lib.keeps, decide_eq_false_iff_not, not_or, Decidable.not_not] at hk
      refine ⟨fun x => ?_, h2, by omega⟩
      rw [h1]
      constructor
      · rintro ⟨j, hj, rfl⟩
        exact ⟨j, by omega, rfl⟩
      · rintro ⟨j, hj, rfl⟩
        by_cases hjm : j < m
        · exact ⟨j, hjm, rfl⟩
        · obtain rfl : j = m := by omega
          exact ⟨j - 1, by omega, hk.2.symm⟩

theorem compact_len (l : List BL) : (Lib.compact l).length ≤ l.length := by
  unfold Lib.compact Lib.compactUpTo
  rw [List.length_map]
  exact Nat.le_trans (List.length_filter_le _ _) (by simp)
theorem compactB_len (l : List ByteArray) : (compactB l).length ≤ l.length := by
  unfold compactB
  rw [List.length_map]
  exact Nat.le_trans (compact_len _) (by simp)

/-- Strictly rising. -/
def Rise (l : List ByteArray) : Prop := (l.map bts).Pairwise (· < ·)

theorem cs_facts (l : List ByteArray) : (∀ x, x ∈ compactB (sortB l) ↔ x ∈ l) ∧ Rise (compactB (sortB l)) := by
  have hmb : (sortB l).map bts = (l.map bts).mergeSort fun x y => decide (x ≤ y) := by
    unfold sortB; rw [List.map_map, show bts ∘ ofB = id from rfl, List.map_id]
  have hs := sorted_merge (l.map bts)
  generalize hd : ((l.map bts).mergeSort fun x y => decide (x ≤ y)) = d at *
  have hmem : ∀ x, x ∈ d ↔ x ∈ l.map bts := by intro x; rw [← hd]; exact List.mem_mergeSort
  have hidx : ∀ i j, i ≤ j → j < d.toArray.size → d.toArray[i]! ≤ d.toArray[j]! := by
    intro i j hij hj
    have hj' : j < d.length := by simpa using hj
    rw [getElem!_pos _ i (by simp; omega), getElem!_pos _ j hj]
    by_cases h : i = j
    · subst h; exact List.le_refl _
    · exact List.pairwise_iff_getElem.1 hs i j (by omega) hj' (by omega)
  obtain ⟨h1, h2, -⟩ := compact_facts d.toArray hidx d.length (by simp)
  have hc : Lib.compact ((sortB l).map bts) = Lib.compactUpTo d.toArray d.length := by rw [hmb]; rfl
  refine ⟨fun x => ?_, ?_⟩
  · unfold compactB
    rw [hc, List.mem_map]
    constructor
    · rintro ⟨y, hy, rfl⟩
      obtain ⟨j, hj, rfl⟩ := (h1 y).1 hy
      have : d.toArray[j]! ∈ d := by rw [getElem!_pos _ j (by simpa using hj)]; exact List.getElem_mem _
      obtain ⟨z, hz, he⟩ := List.mem_map.1 ((hmem _).1 this)
      rw [← he]
      exact hz
    · intro hx
      refine ⟨bts x, (h1 _).2 ?_, rfl⟩
      obtain ⟨j, hj, he⟩ := List.getElem_of_mem ((hmem (bts x)).2 (List.mem_map.2 ⟨x, hx, rfl⟩))
      exact ⟨j, hj, by rw [getElem!_pos _ j (by simpa using hj)]; exact he⟩
  · unfold Rise compactB
    rw [hc, List.map_map, show bts ∘ ofB = id from rfl, List.map_id]
    exact h2

theorem rise_eq {l m : List BL} (hl : l.Pairwise (· < ·)) (hm : m.Pairwise (· < ·)) (h : ∀ x, x ∈ l ↔ x ∈ m) : l = m := by
  have nd : ∀ {l : List BL}, l.Pairwise (· < ·) → l.Nodup := fun h => h.imp (fun {a b} hab he => by subst he; exact bl_irrefl _ hab)
  have hp : l.Perm m := (List.perm_ext_iff_of_nodup (nd hl) (nd hm)).2 h
  refine List.Perm.eq_of_pairwise (le := fun a b => a ≤ b) (fun a b _ _ h1 h2 => List.le_antisymm h1 h2) (hl.imp bl_le_of_lt) (hm.imp bl_le_of_lt) hp

theorem Rise.eq {l m : List ByteArray} (hl : Rise l) (hm : Rise m) (h : ∀ x, x ∈ l ↔ x ∈ m) : l = m := by
  have := rise_eq hl hm (fun x => by
    rw [List.mem_map, List.mem_map]
    constructor
    · rintro ⟨y, hy, rfl⟩; exact ⟨y, (h y).1 hy, rfl⟩
    · rintro ⟨y, hy, rfl⟩; exact ⟨y, (h y).2 hy, rfl⟩)
  have h2 := congrArg (List.map ofB) this
  rwa [List.map_map, List.map_map, show ofB ∘ bts = id from rfl, List.map_id, List.map_id] at h2
end Go.Am
