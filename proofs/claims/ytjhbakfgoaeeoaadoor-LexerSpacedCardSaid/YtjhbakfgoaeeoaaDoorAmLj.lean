/- Where the tokens of a text stand, and what lies between them. Conditions: none. -/
import Derived.Test.YtjhbakfgoaeeoaaDoorAmLg
set_option linter.unusedSimpArgs false
set_option linter.unusedVariables false
namespace Go.Am.L1
set_option maxRecDepth 100000
set_option linter.unusedSimpArgs false

/-! ### Places -/
def cnt (s : List UInt8) (a : Nat) : Nat := (s.take a).count 10
structure AtP (s : List UInt8) (a l c : Nat) : Prop where
  le : a ≤ s.length
  line : l = cnt s a + 1
  col : c + off s (cnt s a) = a + 1

theorem cnt_add (s : List UInt8) (a k : Nat) : cnt s (a + k) = cnt s a + ((s.drop a).take k).count 10 := by
  rw [cnt, cnt, List.take_add, List.count_append]

theorem off_nl {s : List UInt8} {a : Nat} (h : s[a]? = some 10) : off s (cnt s (a + 1)) = a + 1 := by
  have hl := (List.getElem?_eq_some_iff.1 h).1
  obtain ⟨h1, h2, -, -⟩ := off_at s (a + 1) (by omega)
  by_cases hle : off s (cnt s (a + 1)) ≤ a
  · exact absurd h (h2 a hle (by omega))
  · have h1' : off s (cnt s (a + 1)) ≤ a + 1 := h1
    omega

theorem tw_take (q : UInt8 → Bool) : ∀ l : List UInt8, l.takeWhile q = l.take (l.takeWhile q).length
  | [] => rfl
  | b :: l => by
    rw [List.takeWhile_cons]
    cases h : q b
    · simp
    · simp only [if_true, List.length_cons, List.take_succ_cons]
      rw [← tw_take q l]

/-- An item is a line feed, or has none. -/
theorem item_kind (b : UInt8) (r : List UInt8) : (b = 10 ∧ item b (b :: r) = .nl) ∨ (b ≠ 10 ∧ ((b :: r).take (item b (b :: r)).len).count 10 = 0 ∧ (∀ l, (item b (b :: r)).line l = l) ∧ ∀ c, (item b (b :: r)).col c = c + (item b (b :: r)).len) := by
  by_cases h : b = 10
  · subst h; exact Or.inl ⟨rfl, item_nl _⟩
  · refine Or.inr ⟨h, ?_⟩
    have hb : (b == 10) = false := by simpa using h
    have hone : ((b :: r).take 1).count 10 = 0 := by simp [List.count_cons, h]
    have tk : ∀ q : UInt8 → Bool, q 10 = false → ((b :: r).take ((b :: r).takeWhile q).length).count 10 = 0 := fun q hq => by rw [← tw_take q]; exact tw_cnt hq _
    unfold item
    rw [hb]
    simp only [Bool.false_eq_true, if_false]
    repeat' split
    all_goals first
      | exact ⟨hone, fun _ => rfl, fun _ => rfl⟩
      | exact ⟨tk innB inn10, fun _ => rfl, fun _ => rfl⟩
      | exact ⟨tk digB dig10, fun _ => rfl, fun _ => rfl⟩
      | exact ⟨tk mrkB mrk10, fun _ => rfl, fun _ => rfl⟩
      | exact ⟨tk nnlB nnl10, fun _ => rfl, fun _ => rfl⟩

theorem AtP.item {s : List UInt8} {a l c : Nat} (h : AtP s a l c) {b : UInt8} {r : List UInt8} (hd : s.drop a = b :: r) : AtP s (a + (item b (b :: r)).len) ((L1.item b (b :: r)).line l) ((L1.item b (b :: r)).col c) := by
  have hle := item_le b r
  have hlen : a + (b :: r).length = s.length := by rw [← hd, List.length_drop]; have := h.le; omega
  rcases item_kind b r with ⟨rfl, hi⟩ | ⟨-, h0, hl, hc⟩
  · rw [hi]
    have hs : s[a]? = some 10 := by
      have := congrArg (·[0]?) hd
      simpa using this
    have hc1 : cnt s (a + 1) = cnt s a + 1 := by rw [cnt_add, hd]; simp
    have ho := off_nl hs
    simp only [List.length_cons] at hlen
    exact ⟨by simp only [It.len]; omega, by simp only [It.line, It.len, hc1, h.line], by simp only [It.col, It.len, ho]; omega⟩
  · have hcn : cnt s (a + (L1.item b (b :: r)).len) = cnt s a := by rw [cnt_add, hd, h0, Nat.add_zero]
    have := h.col
    exact ⟨by omega, by rw [hl, hcn, h.line], by rw [hc, hcn]; omega⟩

/-! ### What lies between tokens -/
def Blank (p : List UInt8) : Prop := ∃ k m, p = List.replicate k 32 ++ m ∧ (m = [] ∨ ∃ q, m = 45 :: 45 :: q)
def GapB (g : List UInt8) : Prop := ∀ p, p ∈ sp g → Blank p

theorem gap_nil : GapB [] := fun p hp => by
  simp only [sp, List.mem_singleton] at hp
  exact ⟨0, [], by simp [hp], Or.inl rfl⟩
theorem gap_sp {g : List UInt8} (h : GapB g) : GapB (32 :: g) := fun p hp => by
  obtain ⟨q, qs, e⟩ := sp_ne g
  rw [sp, if_neg (by decide), e] at hp
  rcases List.mem_cons.1 hp with rfl | hp
  · obtain ⟨k, m, hq, hm⟩ := h q (by rw [e]; exact List.mem_cons_self)
    exact ⟨k + 1, m, by rw [hq, List.replicate_succ, List.cons_append], hm⟩
  · exact h p (by rw [e]; exact List.mem_cons_of_mem _ hp)
theorem gap_nl {g : List UInt8} (h : GapB g) : GapB (10 :: g) := fun p hp => by
  rw [sp, if_pos rfl] at hp
  rcases List.mem_cons.1 hp with rfl | hp
  · exact ⟨0, [], rfl, Or.inl rfl⟩
  · exact h p hp
theorem nnl_ne {b : UInt8} (h : nnlB b = true) : b ≠ 10 := by
  rintro rfl
  rw [nnl10] at h; cases h
theorem gap_com {m g : List UInt8} (h10 : ∀ b, b ∈ m → b ≠ 10) (hm : ∃ q, m = 45 :: 45 :: q) (hg : g = [] ∨ ∃ g', g = 10 :: g') (h : GapB g) : GapB (m ++ g) := by
  have hn : ∀ k : Nat, m[k]? ≠ some 10 := fun k hk => h10 10 (List.mem_of_getElem? hk) rfl
  rcases hg with rfl | ⟨g', rfl⟩
  · rw [List.append_nil]
    intro p hp
    rw [sp_none m hn, List.mem_singleton] at hp
    exact ⟨0, m, by simp [hp], Or.inr hm⟩
  · intro p hp
    rw [sp_hit m.length (m ++ 10 :: g') (by simp) (fun k hk => by rw [List.getElem?_append_left hk]; exact hn k)] at hp
    rcases List.mem_cons.1 hp with rfl | hp
    · rw [List.take_left]
      exact ⟨0, m, rfl, Or.inr hm⟩
    · have e : (m ++ 10 :: g').drop (m.length + 1) = g' := by
        rw [← List.drop_drop, List.drop_left]; rfl
      rw [e] at hp
      exact h p (by rw [sp, if_pos rfl]; exact List.mem_cons_of_mem _ hp)

theorem mrk_dash : ∀ (r : List UInt8), (r.takeWhile mrkB).length > 1 → (r.takeWhile mrkB).all (· == 45) = true → ∃ q, r = 45 :: 45 :: q := by
  intro r h1 h2
  match r, h1, h2 with
  | [], h1, _ => simp at h1
  | [a], h1, _ =>
    rw [List.takeWhile_cons] at h1
    split at h1 <;> simp at h1
  | a :: b :: q, h1, h2 =>
    rw [List.takeWhile_cons] at h1 h2
    split at h1
    · rename_i ha
      rw [if_pos ha, List.takeWhile_cons] at h2
      rw [List.takeWhile_cons] at h1
      split at h1
      · rename_i hb
        rw [if_pos hb] at h2
        simp only [List.all_cons, Bool.and_eq_true, beq_iff_eq] at h2
        exact ⟨q, by rw [h2.1, h2.2.1]⟩
      · simp at h1
    · simp at h1

theorem item_cases (b : UInt8) (r : List UInt8) :
    (b = 10 ∧ item b (b :: r) = .nl) ∨ (b = 32 ∧ item b (b :: r) = .gap 1) ∨
    (item b (b :: r) = .gap ((b :: r).takeWhile nnlB).length ∧ ∃ q, b :: r = 45 :: 45 :: q) ∨
    (∃ k t n z, item b (b :: r) = .tok k t n z ∧ t = (b :: r).take t.length ∧ k ≠ 9 ∧ b ≠ 10) ∨ item b (b :: r) = .err := by
  by_cases h : b = 10
  · subst h; exact Or.inl ⟨rfl, item_nl _⟩
  refine Or.inr ?_
  by_cases h3 : b = 32
  · subst h3; exact Or.inl ⟨rfl, rfl⟩
  refine Or.inr ?_
  have hb : (b == 10) = false := by simpa using h
  have hb3 : (b == 32) = false := by simpa using h3
  have tk : ∀ q : UInt8 → Bool, (b :: r).takeWhile q = (b :: r).take ((b :: r).takeWhile q).length := fun q => tw_take q _
  have k1 : ∀ (z : Bool) (a : Int), a ≠ 9 → (if z = true then (4 : Int) else a) ≠ 9 := fun z a ha => by cases z <;> simp [ha]
  unfold item
  rw [hb, hb3]
  simp only [Bool.false_eq_true, if_false]
  split
  · exact Or.inr (Or.inl ⟨_, _, _, _, rfl, tk innB, k1 _ 0 (by decide), h⟩)
  split
  · exact Or.inr (Or.inl ⟨_, _, _, _, rfl, tk innB, by decide, h⟩)
  split
  · exact Or.inr (Or.inl ⟨_, _, _, _, rfl, tk digB, by decide, h⟩)
  split
  · exact Or.inr (Or.inl ⟨_, _, _, _, rfl, rfl, by decide, h⟩)
  split
  · split
    · rename_i hc
      rw [Bool.and_eq_true] at hc
      exact Or.inl ⟨rfl, mrk_dash _ (of_decide_eq_true hc.1) hc.2⟩
    · exact Or.inr (Or.inl ⟨_, _, _, _, rfl, tk mrkB, k1 _ 3 (by decide), h⟩)
  · exact Or.inr (Or.inr rfl)

theorem nnl_stop (r : List UInt8) : r.drop (r.takeWhile nnlB).length = [] ∨ ∃ g, r.drop (r.takeWhile nnlB).length = 10 :: g := by
  induction r with
  | nil => exact Or.inl rfl
  | cons b r ih =>
    rw [List.takeWhile_cons]
    cases h : nnlB b
    · refine Or.inr ⟨r, ?_⟩
      have : b = 10 := by
        simp only [nnlB, bne_eq_false_iff_eq] at h
        exact UInt8.toNat_inj.1 (by have : ((10 : UInt8).toNat : Int) = 10 := rfl; omega)
      simp [this]
    · simpa using ih

/-- The next token. -/
theorem next_tok (s : List UInt8) : ∀ (n : Nat) (r : List UInt8), r.length ≤ n → ∀ (a l c : Nat), AtP s a l c → s.drop a = r → (lexA r l c).2.1 = [] →
    ((lexA r l c).1 = [] ∧ GapB r ∧ AtP s s.length (lexA r l c).2.2.1 (lexA r l c).2.2.2) ∨
    ∃ d t l' c', d + t.text.size ≤ r.length ∧ GapB (r.take d) ∧ (∀ g, r = 10 :: g → 0 < d) ∧ AtP s (a + d) t.line t.col ∧ (r.drop d).take t.text.size = bts t.text ∧ t.kind ≠ 9 ∧ AtP s (a + d + t.text.size) l' c' ∧
      (lexA r l c).1 = t :: (lexA (r.drop (d + t.text.size)) l' c').1 ∧ (lexA r l c).2 = (lexA (r.drop (d + t.text.size)) l' c').2
  | _, [], _, a, l, c, hA, hd, hb => by
    have : s.length ≤ a := by
      have := congrArg List.length hd
      rw [List.length_drop] at this; simp at this; omega
    have ha : a = s.length := by have := hA.le; omega
    subst ha
    exact Or.inl ⟨rfl, gap_nil, hA⟩
  | 0, _ :: _, h, _, _, _, _, _, _ => by simp at h
  | n + 1, b :: r, h, a, l, c, hA, hd, hb => by
    have hp := item_pos b r
    have hle := item_le b r
    have hA2 := hA.item hd
    have hd2 : s.drop (a + (item b (b :: r)).len) = (b :: r).drop (item b (b :: r)).len := by rw [← hd, List.drop_drop]
    rw [lexA_cons] at hb
    have hb1 := (List.append_eq_nil_iff.1 hb).1
    have hb2 := (List.append_eq_nil_iff.1 hb).2
    simp only [List.length_cons] at h
    have hln : ((b :: r).drop (item b (b :: r)).len).length ≤ n := by rw [List.length_drop, List.length_cons]; omega
    have ih := next_tok s n _ hln _ _ _ hA2 hd2 hb2
    rw [lexA_cons]
    -- an item that is no token
    have skip : (∀ l c, (item b (b :: r)).toks l c = []) → (∀ g, ((b :: r).drop (item b (b :: r)).len = [] → g = []) → (∀ g', (b :: r).drop (item b (b :: r)).len = 10 :: g' → g = [] ∨ ∃ g', g = 10 :: g') → GapB g → GapB ((b :: r).take (item b (b :: r)).len ++ g)) →
        ((item b (b :: r)).toks l c ++ (lexA ((b :: r).drop (item b (b :: r)).len) ((item b (b :: r)).line l) ((item b (b :: r)).col c)).1 = [] ∧ GapB (b :: r) ∧ AtP s s.length (lexA ((b :: r).drop (item b (b :: r)).len) ((item b (b :: r)).line l) ((item b (b :: r)).col c)).2.2.1 (lexA ((b :: r).drop (item b (b :: r)).len) ((item b (b :: r)).line l) ((item b (b :: r)).col c)).2.2.2) ∨
        ∃ d t l' c', d + t.text.size ≤ (b :: r).length ∧ GapB ((b :: r).take d) ∧ (∀ g, b :: r = 10 :: g → 0 < d) ∧ AtP s (a + d) t.line t.col ∧ ((b :: r).drop d).take t.text.size = bts t.text ∧ t.kind ≠ 9 ∧ AtP s (a + d + t.text.size) l' c' ∧
          (item b (b :: r)).toks l c ++ (lexA ((b :: r).drop (item b (b :: r)).len) ((item b (b :: r)).line l) ((item b (b :: r)).col c)).1 = t :: (lexA ((b :: r).drop (d + t.text.size)) l' c').1 ∧
          ((item b (b :: r)).bads l c ++ (lexA ((b :: r).drop (item b (b :: r)).len) ((item b (b :: r)).line l) ((item b (b :: r)).col c)).2.1, (lexA ((b :: r).drop (item b (b :: r)).len) ((item b (b :: r)).line l) ((item b (b :: r)).col c)).2.2) = (lexA ((b :: r).drop (d + t.text.size)) l' c').2 := by
      intro ht hg
      rw [ht, hb1, List.nil_append, List.nil_append]
      generalize hk : (item b (b :: r)).len = k at *
      have hcat : (b :: r).take k ++ (b :: r).drop k = b :: r := List.take_append_drop k _
      rcases ih with ⟨h1, h2, h3⟩ | ⟨d, t, l', c', h1, h2, h0, h3, h4, h5, h6, h7, h8⟩
      · refine Or.inl ⟨h1, ?_, h3⟩
        rw [← hcat]
        exact hg _ (fun e => e) (fun g' e => Or.inr ⟨g', e⟩) h2
      · refine Or.inr ⟨k + d, t, l', c', ?_, ?_, fun _ _ => by omega, ?_, ?_, h5, ?_, ?_, ?_⟩
        · rw [List.length_drop] at h1; simp only [List.length_cons] at h1 hle ⊢; omega
        · rw [List.take_add]
          refine hg _ (fun e => by rw [e]; simp) (fun g' e => ?_) h2
          have hd0 := h0 g' e
          obtain ⟨d', rfl⟩ : ∃ d', d = d' + 1 := ⟨d - 1, by omega⟩
          exact Or.inr ⟨g'.take d', by rw [e]; rfl⟩
        · rw [← Nat.add_assoc]; exact h3
        · rw [← List.drop_drop]; exact h4
        · rw [← Nat.add_assoc]; exact h6
        · rw [h7, List.drop_drop, Nat.add_assoc]
        · rw [h8, List.drop_drop, Nat.add_assoc]
    rcases item_cases b r with ⟨rfl, hi⟩ | ⟨rfl, hi⟩ | ⟨hi, hq⟩ | ⟨k, t, nn, z, hi, ht, hk9, h10⟩ | hi
    · refine skip (fun _ _ => by rw [hi]; rfl) fun g _ _ hg => ?_
      rw [hi]; exact gap_nl hg
    · refine skip (fun _ _ => by rw [hi]; rfl) fun g _ _ hg => ?_
      rw [hi]; exact gap_sp hg
    · refine skip (fun _ _ => by rw [hi]; rfl) fun g g1 g2 hg => ?_
      rw [hi] at g1 g2 ⊢
      simp only [It.len] at g1 g2 ⊢
      rw [← tw_take]
      refine gap_com (fun x hx => nnl_ne (tw_all hx)) ?_ ?_ hg
      · obtain ⟨q, hq⟩ := hq
        rw [hq]
        exact ⟨q.takeWhile nnlB, by rw [List.takeWhile_cons, if_pos (by decide), List.takeWhile_cons, if_pos (by decide)]⟩
      · rcases nnl_stop (b :: r) with e | ⟨g', e⟩
        · exact Or.inl (g1 e)
        · exact g2 g' e
    · rw [hi] at hA2 hb1 hle ⊢
      have hz : z = false := by
        cases z
        · rfl
        · simp [It.bads] at hb1
      subst hz
      have hsz : (ofB t).size = t.length := ofB_size t
      refine Or.inr ⟨0, ⟨k, ofB t, nn, l, c⟩, (It.tok k t nn false).line l, (It.tok k t nn false).col c, ?_, ?_, ?_, hA, ?_, hk9, ?_, ?_, ?_⟩
      · show 0 + (ofB t).size ≤ _
        rw [hsz]; simp only [It.len] at hle; omega
      · exact gap_nil
      · rintro g hg; cases hg; exact absurd rfl h10
      · show ((b :: r).drop 0).take (ofB t).size = bts (ofB t)
        rw [hsz, List.drop_zero, ← ht]; rfl
      · show AtP s (a + 0 + (ofB t).size) _ _
        rw [hsz]; exact hA2
      · show _ = _ :: (lexA ((b :: r).drop (0 + (ofB t).size)) _ _).1
        rw [hsz, Nat.zero_add]; rfl
      · show _ = (lexA ((b :: r).drop (0 + (ofB t).size)) _ _).2
        rw [hsz, Nat.zero_add]; rfl
    · rw [hi] at hb1
      simp [It.bads] at hb1
end Go.Am.L1
