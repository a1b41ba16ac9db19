/- Tokens with spaces between them are scanned as the same tokens. Conditions: none. -/
import Derived.Test.YtjhbakfgoaeeoaaDoorAmLj
set_option linter.unusedSimpArgs false
set_option linter.unusedVariables false
namespace Go.Am.L1
set_option maxRecDepth 100000
set_option linter.unusedSimpArgs false

theorem tw32 {q : UInt8 → Bool} (h : q 32 = false) (y : List UInt8) : ∀ x : List UInt8, (x.takeWhile q ++ 32 :: y).takeWhile q = x.takeWhile q
  | [] => by simp [h]
  | b :: x => by
    rw [List.takeWhile_cons]
    cases hb : q b
    · simp [h]
    · simp only [if_true, List.cons_append, List.takeWhile_cons, hb]
      rw [tw32 h y x]
theorem inn32 : innB 32 = false := by decide
theorem dig32 : digB 32 = false := by decide
theorem mrk32 : mrkB 32 = false := by decide

theorem item_tok {b : UInt8} {r t : List UInt8} {k n : Int} (h : item b (b :: r) = .tok k t n false) : (∃ r', t = b :: r') ∧ ∀ y, item b (t ++ 32 :: y) = .tok k t n false := by
  have hd : ∀ q : UInt8 → Bool, q b = true → ∃ r', (b :: r).takeWhile q = b :: r' := fun q hq => ⟨r.takeWhile q, by rw [List.takeWhile_cons, hq]; rfl⟩
  unfold item at h
  split at h
  · cases h
  rename_i h1
  split at h
  · cases h
  rename_i h2
  split at h
  · rename_i h3
    simp only [It.tok.injEq] at h
    obtain ⟨rfl, rfl, rfl, -⟩ := h
    refine ⟨hd innB (by simp only [innB, innerZ, h3, Bool.true_or]), fun y => ?_⟩
    unfold item
    rw [if_neg h1, if_neg h2, if_pos h3, tw32 inn32]
  rename_i h3
  split at h
  · rename_i h4
    simp only [It.tok.injEq] at h
    obtain ⟨rfl, rfl, rfl, -⟩ := h
    refine ⟨hd innB (by simp only [innB, innerZ, h4, Bool.or_true, Bool.true_or]), fun y => ?_⟩
    unfold item
    rw [if_neg h1, if_neg h2, if_neg h3, if_pos h4, tw32 inn32]
  rename_i h4
  split at h
  · rename_i h5
    simp only [It.tok.injEq] at h
    obtain ⟨rfl, rfl, rfl, hb⟩ := h
    refine ⟨hd digB h5, fun y => ?_⟩
    unfold item
    rw [if_neg h1, if_neg h2, if_neg h3, if_neg h4, if_pos h5, tw32 dig32, hb]
  rename_i h5
  split at h
  · rename_i h6
    simp only [It.tok.injEq] at h
    obtain ⟨rfl, rfl, rfl, -⟩ := h
    refine ⟨⟨[], rfl⟩, fun y => ?_⟩
    unfold item
    rw [if_neg h1, if_neg h2, if_neg h3, if_neg h4, if_neg h5, if_pos h6]
  rename_i h6
  split at h
  · rename_i h7
    split at h
    · cases h
    rename_i h8
    simp only [It.tok.injEq] at h
    obtain ⟨rfl, rfl, rfl, -⟩ := h
    refine ⟨hd mrkB h7, fun y => ?_⟩
    unfold item
    rw [if_neg h1, if_neg h2, if_neg h3, if_neg h4, if_neg h5, if_neg h6, if_pos h7, tw32 mrk32, if_neg h8]
  · cases h

/-- A token that is scanned as itself ahead of a space. -/
def GoodT (t : Tk) : Prop := ∃ b r, bts t.text = b :: r ∧ ∀ y, item b ((b :: r) ++ 32 :: y) = .tok t.kind (b :: r) t.n false
theorem lex_good : ∀ (n : Nat) (r : List UInt8), r.length ≤ n → ∀ (l c : Nat), (lexA r l c).2.1 = [] → ∀ t, t ∈ (lexA r l c).1 → GoodT t ∧ ∀ x, x ∈ bts t.text → x ∈ r
  | _, [], _, l, c, _, t, ht => by simp [lexA, lexL] at ht
  | 0, _ :: _, h, _, _, _, _, _ => by simp at h
  | n + 1, b :: r, h, l, c, hb, t, ht => by
    have hp := item_pos b r
    rw [lexA_cons] at hb ht
    have hb1 := (List.append_eq_nil_iff.1 hb).1
    have hb2 := (List.append_eq_nil_iff.1 hb).2
    simp only [List.length_cons] at h
    rcases List.mem_append.1 ht with ht | ht
    · have hle := item_le b r
      rcases item_cases b r with ⟨-, hi⟩ | ⟨-, hi⟩ | ⟨hi, -⟩ | ⟨k, u, m, z, hi, hu, -, -⟩ | hi
      · rw [hi] at ht; simp [It.toks] at ht
      · rw [hi] at ht; simp [It.toks] at ht
      · rw [hi] at ht; simp [It.toks] at ht
      · rw [hi] at ht hb1
        cases z with
        | true => simp [It.bads] at hb1
        | false =>
          simp only [It.toks, List.mem_singleton] at ht
          subst ht
          obtain ⟨⟨r', hr'⟩, hy⟩ := item_tok hi
          refine ⟨⟨b, r', by rw [bts_ofB]; exact hr', fun y => ?_⟩, fun x hx => ?_⟩
          · rw [← hr']; exact hy y
          · rw [bts_ofB, hu] at hx
            exact List.mem_of_mem_take hx
      · rw [hi] at ht; simp [It.toks] at ht
    · obtain ⟨h1, h2⟩ := lex_good n _ (by rw [List.length_drop, List.length_cons]; omega) _ _ hb2 t ht
      exact ⟨h1, fun x hx => List.mem_of_mem_drop (h2 x hx)⟩

/-- The text of tokens, a space behind each. -/
def spc (T : List Tk) : List UInt8 := T.flatMap fun t => bts t.text ++ [32]
def key (t : Tk) : Int × ByteArray × Int := (t.kind, t.text, t.n)
theorem lex_sp32 (r : List UInt8) (l c : Nat) : lexA (32 :: r) l c = lexA r l (c + 1) := by
  rw [lexA_cons]
  have : item 32 (32 :: r) = .gap 1 := rfl
  rw [this]
  simp [It.toks, It.bads, It.len, It.line, It.col]
theorem lex_spc : ∀ (T : List Tk), (∀ t, t ∈ T → GoodT t) → ∀ (l c : Nat), (lexA (spc T ++ [32]) l c).1.map key = T.map key ∧ (lexA (spc T ++ [32]) l c).2.1 = []
  | [], _, l, c => by
    have : lexA (spc [] ++ [32]) l c = lexA [] l (c + 1) := lex_sp32 [] l c
    rw [this]
    exact ⟨rfl, rfl⟩
  | t :: T, h, l, c => by
    obtain ⟨b, r, hbr, hy⟩ := h t (List.mem_cons_self ..)
    have e : spc (t :: T) ++ [32] = b :: (r ++ 32 :: (spc T ++ [32])) := by
      simp only [spc, List.flatMap_cons, hbr, List.append_assoc, List.cons_append, List.nil_append]
    have hi : item b (b :: (r ++ 32 :: (spc T ++ [32]))) = .tok t.kind (b :: r) t.n false := hy _
    have hd : (b :: (r ++ 32 :: (spc T ++ [32]))).drop (b :: r).length = 32 :: (spc T ++ [32]) := by
      rw [← List.cons_append, List.drop_left]
    obtain ⟨h1, h2⟩ := lex_spc T (fun u hu => h u (List.mem_cons_of_mem _ hu)) l (c + (b :: r).length + 1)
    rw [e, lexA_cons, hi]
    simp only [It.toks, It.bads, It.len, It.line, It.col, hd, lex_sp32, List.map_append, List.map_cons, List.map_nil, h1, h2, List.nil_append, List.append_nil, and_true]
    simp only [key, List.singleton_append, List.cons.injEq, Prod.mk.injEq, true_and, and_true]
    have : t.text = ofB (b :: r) := by rw [← hbr, ofB_bts]
    exact this.symm

/-- The law on texts. -/
theorem scan_spaced {s u : ByteArray} (hok : OkS s) (hb : (scanW s).2.1 = []) (hu : bts u = spc (scanT s)) (hsz : u.size ≤ 8192) :
    OkS u ∧ (scanW u).2.1 = [] ∧ (scanT u).map key = (scanT s).map key := by
  rw [scan_eq] at hb
  have hg := lex_good _ (bts s) (Nat.le_refl _) 1 1 hb
  have e : bts u = spc (lexA (bts s) 1 1).1 ++ [32] := by
    rw [hu, scanT, scan_eq]
    simp only [spc, List.flatMap_append, List.flatMap_cons, List.flatMap_nil, List.append_nil]
    rfl
  obtain ⟨h1, h2⟩ := lex_spc (lexA (bts s) 1 1).1 (fun t ht => (hg t ht).1) 1 1
  rw [← e] at h1 h2
  refine ⟨⟨hsz, fun i b hi => ?_⟩, by rw [scan_eq]; exact h2, ?_⟩
  · have hm := List.mem_of_getElem? hi
    rw [e] at hm
    rcases List.mem_append.1 hm with hm | hm
    · obtain ⟨t, ht, hbt⟩ := List.mem_flatMap.1 hm
      rcases List.mem_append.1 hbt with hbt | hbt
      · obtain ⟨j, hj⟩ := List.mem_iff_getElem?.1 ((hg t ht).2 b hbt)
        exact hok.ok j b hj
      · rw [List.mem_singleton.1 hbt]; rfl
    · rw [List.mem_singleton.1 hm]; rfl
  · rw [scanT, scanT, scan_eq, scan_eq, List.map_append, List.map_append, h1]
    rfl
end Go.Am.L1
