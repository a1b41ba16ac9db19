/- What a bound of bulk says of the weights of arguments. Conditions: none. -/
import Derived.Test.YtjhbakfgoaeeoaaAmP
import Derived.Test.YtjhbakfgoaeeoaaRows
namespace Go.Am.M2
open Go.RowKit Go.Proofs.Ytjhbakfgoaeeoaa

theorem one_le {H : Type} (d : DataW H) : 1 ≤ Rows.uptoBulk d := by
  cases d with
  | lit l => cases l <;> simp [Rows.uptoBulk]
  | nil => simp [Rows.uptoBulk]
  | ptr d => simp [Rows.uptoBulk]
  | slice elems spare => simp [Rows.uptoBulk]
  | agg parts => simp [Rows.uptoBulk]
  | iface t d => simp [Rows.uptoBulk]
  | map entries => simp [Rows.uptoBulk]
  | held h => simp [Rows.uptoBulk]
theorem len_le {H : Type} (l : List (DataW H)) : l.length ≤ Rows.uptoBulkAll l := by
  induction l with
  | nil => simp [Rows.uptoBulkAll]
  | cons x r ih => have := one_le x; simp only [Rows.uptoBulkAll, List.length_cons]; omega

section
variable {H : Type} {P : Program} {ts : List TypeId} {B K : Nat}

mutual
theorem w_le (hc : closedB P ts = true) (hK : ∀ t, t ∈ ts → P.bytesOf t ≤ K) (h1 : 1 ≤ K) : ∀ (d : DataW H) (t : TypeId), t ∈ ts → Rows.uptoBulk d ≤ B → ∀ n, n ∈ d.weights P t → n ≤ B * K
  | .lit l, t, _, hb, n, hn => by
    cases l with
    | string b =>
      simp only [DataW.weights, List.mem_singleton] at hn
      simp only [Rows.uptoBulk] at hb
      subst hn
      exact Nat.le_trans (by omega : b.length ≤ B) (Nat.le_mul_of_pos_right _ h1)
    | _ => simp [DataW.weights] at hn
  | .nil, t, _, hb, n, hn => by simp [DataW.weights] at hn
  | .ptr d, t, ht, hb, n, hn => by
    rcases closed_at hc ht with hu | ⟨k, hu⟩ | hu | ⟨e, hu, he, hpos⟩ | ⟨fs, hu, hcg, hfs⟩ <;> simp [DataW.weights, hu] at hn
  | .slice elems spare, t, ht, hb, n, hn => by
    rcases closed_at hc ht with hu | ⟨k, hu⟩ | hu | ⟨e, hu, he, hpos⟩ | ⟨fs, hu, hcg, hfs⟩
    · simp [DataW.weights, hu] at hn
    · simp [DataW.weights, hu] at hn
    · simp [DataW.weights, hu] at hn
    · simp only [DataW.weights, hu, List.mem_cons, List.mem_append] at hn
      simp only [Rows.uptoBulk] at hb
      rcases hn with rfl | hn | hn
      · have h2 := len_le elems
        have h3 := len_le spare
        exact Nat.mul_le_mul (by omega) (hK e he)
      · exact wAll_le hc hK h1 elems e he (by omega) n hn
      · exact wAll_le hc hK h1 spare e he (by omega) n hn
    · simp [DataW.weights, hu] at hn
  | .agg parts, t, ht, hb, n, hn => by
    rcases closed_at hc ht with hu | ⟨k, hu⟩ | hu | ⟨e, hu, he, hpos⟩ | ⟨fs, hu, hcg, hfs⟩
    · simp [DataW.weights, hu] at hn
    · simp [DataW.weights, hu] at hn
    · simp [DataW.weights, hu] at hn
    · simp [DataW.weights, hu] at hn
    · simp only [DataW.weights, hu] at hn
      simp only [Rows.uptoBulk] at hb
      exact wEach_le hc hK h1 parts (fs.toList.map (·.type)) (fun t ht => by obtain ⟨f, hf, rfl⟩ := List.mem_map.1 ht; exact hfs f hf) (by omega) n hn
  | .iface _ _, t, _, hb, n, hn => by simp [DataW.weights] at hn
  | .map entries, t, ht, hb, n, hn => by
    rcases closed_at hc ht with hu | ⟨k, hu⟩ | hu | ⟨e, hu, he, hpos⟩ | ⟨fs, hu, hcg, hfs⟩ <;> simp [DataW.weights, hu] at hn
  | .held _, t, _, hb, n, hn => by simp [DataW.weights] at hn
theorem wAll_le (hc : closedB P ts = true) (hK : ∀ t, t ∈ ts → P.bytesOf t ≤ K) (h1 : 1 ≤ K) : ∀ (l : List (DataW H)) (t : TypeId), t ∈ ts → Rows.uptoBulkAll l ≤ B → ∀ n, n ∈ DataW.weightsAll P t l → n ≤ B * K
  | [], t, _, _, n, hn => by simp [DataW.weightsAll] at hn
  | d :: r, t, ht, hb, n, hn => by
    simp only [Rows.uptoBulkAll] at hb
    simp only [DataW.weightsAll, List.mem_append] at hn
    rcases hn with hn | hn
    · exact w_le hc hK h1 d t ht (by omega) n hn
    · exact wAll_le hc hK h1 r t ht (by omega) n hn
theorem wEach_le (hc : closedB P ts = true) (hK : ∀ t, t ∈ ts → P.bytesOf t ≤ K) (h1 : 1 ≤ K) : ∀ (l : List (DataW H)) (us : List TypeId), (∀ t, t ∈ us → t ∈ ts) → Rows.uptoBulkAll l ≤ B → ∀ n, n ∈ DataW.weightsEach P us l → n ≤ B * K
  | [], us, _, _, n, hn => by cases us <;> simp [DataW.weightsEach] at hn
  | d :: r, [], _, hb, n, hn => by simp [DataW.weightsEach] at hn
  | d :: r, t :: us, hin, hb, n, hn => by
    simp only [Rows.uptoBulkAll] at hb
    simp only [DataW.weightsEach, List.mem_append] at hn
    rcases hn with hn | hn
    · exact w_le hc hK h1 d t (hin t (by simp)) (by omega) n hn
    · exact wEach_le hc hK h1 r us (fun t ht => hin t (by simp [ht])) (by omega) n hn
end

theorem each_le (hc : closedB P ts = true) (hK : ts.all (fun t => decide (P.bytesOf t ≤ K)) = true) (h1 : 1 ≤ K) {l : List (DataW H)} {us : List TypeId} (hin : us.all (fun t => ts.contains t) = true) (hb : Rows.uptoBulkAll l ≤ B) :
    (DataW.weightsEach P us l).all (· ≤ B * K) = true := by
  rw [List.all_eq_true]
  intro n hn
  exact decide_eq_true (wEach_le hc (fun t ht => by simpa using List.all_eq_true.1 hK t ht) h1 l us (fun t ht => by simpa using List.all_eq_true.1 hin t ht) hb n hn)
end
end Go.Am.M2
