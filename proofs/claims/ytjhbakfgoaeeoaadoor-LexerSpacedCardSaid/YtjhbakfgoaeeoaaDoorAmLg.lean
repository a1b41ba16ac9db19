/- LexerLines: what Scan gives for a text with a line put before it. Conditions: none. -/
import Derived.Test.YtjhbakfgoaeeoaaDoorAmLf
set_option linter.unusedSimpArgs false
set_option linter.unusedVariables false
namespace Go.Am.L1
set_option maxRecDepth 100000
set_option linter.unusedSimpArgs false

/-! ### The tokens of two texts with a line feed between them -/
theorem tw_app {q : UInt8 → Bool} (h : q 10 = false) (y : List UInt8) : ∀ x : List UInt8, (x ++ 10 :: y).takeWhile q = x.takeWhile q
  | [] => by simp [h]
  | b :: x => by
    rw [List.cons_append, List.takeWhile_cons, List.takeWhile_cons, tw_app h y x]
theorem inn10 : innB 10 = false := by decide
theorem dig10 : digB 10 = false := by decide
theorem mrk10 : mrkB 10 = false := by decide
theorem nnl10 : nnlB 10 = false := by decide

theorem item_app (b : UInt8) (x y : List UInt8) : item b (x ++ 10 :: y) = item b x := by
  simp only [item, tw_app inn10, tw_app dig10, tw_app mrk10, tw_app nnl10]

theorem lexL_fuel : ∀ (n : Nat) (r : List UInt8), r.length ≤ n → ∀ (f l c : Nat), r.length ≤ f → lexL f r l c = lexL r.length r l c
  | _, [], _, f, l, c, _ => by rw [lexL_nil, lexL_nil]
  | 0, b :: r, h, _, _, _, _ => by simp at h
  | n + 1, b :: r, h, f, l, c, hf => by
    have hp := item_pos b r
    obtain ⟨f', rfl⟩ : ∃ f', f = f' + 1 := ⟨f - 1, by simp at hf; omega⟩
    have hd : ((b :: r).drop (item b (b :: r)).len).length ≤ r.length := by rw [List.length_drop, List.length_cons]; omega
    simp only [List.length_cons] at h hf ⊢
    rw [lexL, lexL, lexL_fuel n _ (by omega) f' _ _ (by omega), lexL_fuel n _ (by omega) r.length _ _ hd]

def lexA (r : List UInt8) (l c : Nat) : List Tk × List Dg × Nat × Nat := lexL r.length r l c
theorem lexA_cons (b : UInt8) (r : List UInt8) (l c : Nat) : lexA (b :: r) l c =
    ((item b (b :: r)).toks l c ++ (lexA ((b :: r).drop (item b (b :: r)).len) ((item b (b :: r)).line l) ((item b (b :: r)).col c)).1,
     (item b (b :: r)).bads l c ++ (lexA ((b :: r).drop (item b (b :: r)).len) ((item b (b :: r)).line l) ((item b (b :: r)).col c)).2.1,
     (lexA ((b :: r).drop (item b (b :: r)).len) ((item b (b :: r)).line l) ((item b (b :: r)).col c)).2.2) := by
  have hp := item_pos b r
  have hd : ((b :: r).drop (item b (b :: r)).len).length ≤ r.length := by rw [List.length_drop, List.length_cons]; omega
  simp only [lexA, List.length_cons]
  rw [lexL, lexL_fuel _ _ (Nat.le_refl _) r.length _ _ hd]

theorem lex_app (y : List UInt8) : ∀ (n : Nat) (x : List UInt8), x.length ≤ n → ∀ (l c : Nat), lexA (x ++ 10 :: y) l c =
    ((lexA x l c).1 ++ (lexA (10 :: y) (lexA x l c).2.2.1 (lexA x l c).2.2.2).1, (lexA x l c).2.1 ++ (lexA (10 :: y) (lexA x l c).2.2.1 (lexA x l c).2.2.2).2.1, (lexA (10 :: y) (lexA x l c).2.2.1 (lexA x l c).2.2.2).2.2)
  | _, [], _, l, c => by simp [lexA, lexL]
  | 0, _ :: _, h, _, _ => by simp at h
  | n + 1, b :: x, h, l, c => by
    have hp := item_pos b x
    have hle := item_le b x
    have hia : item b (b :: (x ++ 10 :: y)) = item b (b :: x) := item_app b (b :: x) y
    have hdr : (b :: (x ++ 10 :: y)).drop (item b (b :: x)).len = (b :: x).drop (item b (b :: x)).len ++ 10 :: y := by
      rw [← List.cons_append, List.drop_append_of_le_length hle]
    simp only [List.length_cons] at h
    rw [List.cons_append, lexA_cons, lexA_cons, hia, hdr, lex_app y n _ (by rw [List.length_drop, List.length_cons]; omega)]
    simp only [List.append_assoc]

theorem item_nl (r : List UInt8) : item 10 r = .nl := by simp [item]
theorem lex_nl (y : List UInt8) (l c : Nat) : lexA (10 :: y) l c = lexA y (l + 1) 1 := by
  rw [lexA_cons, item_nl]; rfl

theorem tw_cnt {q : UInt8 → Bool} (h : q 10 = false) (r : List UInt8) : (r.takeWhile q).count 10 = 0 := by
  rw [List.count_eq_zero]
  intro hm
  have := tw_all hm
  rw [h] at this; cases this
theorem cnt_take {q : UInt8 → Bool} (h : q 10 = false) (r : List UInt8) : r.count 10 = (r.drop (r.takeWhile q).length).count 10 := by
  have e : r = r.takeWhile q ++ r.drop (r.takeWhile q).length := by
    conv => lhs; rw [← List.takeWhile_append_dropWhile (p := q) (l := r)]
    congr 1
    have := List.takeWhile_append_dropWhile (p := q) (l := r)
    conv => rhs; arg 2; rw [← this]
    rw [List.drop_left]
  conv => lhs; rw [e]
  rw [List.count_append, tw_cnt h]; omega

theorem item_cnt (b : UInt8) (r : List UInt8) (l : Nat) : (item b (b :: r)).line l + ((b :: r).drop (item b (b :: r)).len).count 10 = l + (b :: r).count 10 := by
  unfold item
  split
  · rename_i h; have : b = 10 := by simpa using h
    subst this; simp [It.line, It.len]; omega
  · rename_i h10
    have h10' : (b == 10) = false := by simpa using h10
    have hone : ((b :: r).drop 1).count 10 = (b :: r).count 10 := by rw [List.drop_one, List.tail_cons, List.count_cons, h10']; simp
    repeat' split
    all_goals first
      | (simp only [It.line, It.len]; rw [← cnt_take inn10])
      | (simp only [It.line, It.len]; rw [← cnt_take dig10])
      | (simp only [It.line, It.len]; rw [← cnt_take mrk10])
      | (simp only [It.line, It.len]; rw [← cnt_take nnl10])
      | (simp only [It.line, It.len]; rw [hone])
      | (simp only [It.line, It.len, List.length_singleton]; rw [hone])

theorem lex_line : ∀ (n : Nat) (r : List UInt8), r.length ≤ n → ∀ (l c : Nat), (lexA r l c).2.2.1 = l + r.count 10
  | _, [], _, l, c => by simp [lexA, lexL]
  | 0, _ :: _, h, _, _ => by simp at h
  | n + 1, b :: r, h, l, c => by
    have hp := item_pos b r
    simp only [List.length_cons] at h
    rw [lexA_cons]
    simp only
    rw [lex_line n _ (by rw [List.length_drop, List.length_cons]; omega), item_cnt]

def Tk.down (k : Nat) (t : Tk) : Tk := { t with line := t.line + k }
def Dg.down (k : Nat) (t : Dg) : Dg := { t with line := t.line + k }
theorem toks_down (i : It) (l c k : Nat) : i.toks (l + k) c = (i.toks l c).map (Tk.down k) := by cases i <;> simp [It.toks, Tk.down]
theorem bads_down (i : It) (l c k : Nat) : i.bads (l + k) c = (i.bads l c).map (Dg.down k) := by
  cases i with
  | tok _ _ _ b => cases b <;> simp [It.bads, Dg.down]
  | _ => simp [It.bads, Dg.down]
theorem line_down (i : It) (l k : Nat) : i.line (l + k) = i.line l + k := by cases i <;> simp [It.line]; omega

theorem lex_down (k : Nat) : ∀ (n : Nat) (r : List UInt8), r.length ≤ n → ∀ (l c : Nat), lexA r (l + k) c = ((lexA r l c).1.map (Tk.down k), (lexA r l c).2.1.map (Dg.down k), (lexA r l c).2.2.1 + k, (lexA r l c).2.2.2)
  | _, [], _, l, c => by simp [lexA, lexL]
  | 0, _ :: _, h, _, _ => by simp at h
  | n + 1, b :: r, h, l, c => by
    have hp := item_pos b r
    simp only [List.length_cons] at h
    rw [lexA_cons, lexA_cons, line_down, lex_down k n _ (by rw [List.length_drop, List.length_cons]; omega), toks_down, bads_down]
    simp

theorem scan_eq (s : ByteArray) : scanW s = lexA (bts s) 1 1 := by rw [scanW, lexA, bts_len]

/-- The law on texts: the tokens of both. -/
theorem scan_lines {s t u : ByteArray} (hu : bts u = bts s ++ 10 :: bts t) (h1 : (scanW s).2.1 = []) (h2 : (scanW t).2.1 = []) :
    (scanW u).2.1 = [] ∧ scanT u = (scanW s).1 ++ (scanT t).map (Tk.down ((bts s).count 10 + 1)) := by
  rw [scan_eq] at h1 h2
  have hl := lex_line _ (bts s) (Nat.le_refl _) 1 1
  have hdn := lex_down ((bts s).count 10 + 1) _ (bts t) (Nat.le_refl _) 1 1
  have e : (lexA (bts s) 1 1).2.2.1 + 1 = 1 + ((bts s).count 10 + 1) := by rw [hl]; omega
  have ha : scanW u = ((lexA (bts s) 1 1).1 ++ (lexA (bts t) 1 1).1.map (Tk.down ((bts s).count 10 + 1)), (lexA (bts t) 1 1).2.1.map (Dg.down ((bts s).count 10 + 1)), (lexA (bts t) 1 1).2.2.1 + ((bts s).count 10 + 1), (lexA (bts t) 1 1).2.2.2) := by
    rw [scan_eq, hu, lex_app _ _ _ (Nat.le_refl _), lex_nl, e, hdn, h1, List.nil_append]
  constructor
  · rw [ha]; simp [h2]
  · simp only [scanT, ha, scan_eq, List.map_append, List.append_assoc, List.map_cons, List.map_nil]
    rfl
end Go.Am.L1
