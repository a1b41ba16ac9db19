/- A text moved to the right: its tokens, and what Mark makes of them. Conditions: none. -/
import Derived.Test.YtjhbakfgoaeeoaaDoorAmRm
import Derived.Lib.Replace
import Derived.Lib.SplitLaws
set_option linter.unusedSimpArgs false
set_option linter.unusedVariables false
namespace Go.Am.Y1
open Go.Am.L1 (Tk Dg tkc tkP scanT scanW lexA It item)
set_option maxRecDepth 100000
set_option linter.unusedSimpArgs false

/-! ### The text moved -/
theorem tw_take (q : UInt8 → Bool) : ∀ l : List UInt8, l.takeWhile q = l.take (l.takeWhile q).length
  | [] => rfl
  | b :: l => by
    rw [List.takeWhile_cons]
    cases h : q b
    · simp
    · simp only [if_true, List.length_cons, List.take_succ_cons]
      rw [← tw_take q l]

theorem item_kind (b : UInt8) (r : List UInt8) : (b = 10 ∧ item b (b :: r) = .nl) ∨ (b ≠ 10 ∧ ((b :: r).take (item b (b :: r)).len).count 10 = 0 ∧ (∀ l, (item b (b :: r)).line l = l) ∧ ∀ c, (item b (b :: r)).col c = c + (item b (b :: r)).len) := by
  by_cases h : b = 10
  · subst h; exact Or.inl ⟨rfl, L1.item_nl _⟩
  · refine Or.inr ⟨h, ?_⟩
    have hb : (b == 10) = false := by simpa using h
    have hone : ((b :: r).take 1).count 10 = 0 := by simp [List.count_cons, h]
    have tk : ∀ q : UInt8 → Bool, q 10 = false → ((b :: r).take ((b :: r).takeWhile q).length).count 10 = 0 := fun q hq => by rw [← tw_take q]; exact L1.tw_cnt hq _
    unfold item
    rw [hb]
    simp only [Bool.false_eq_true, if_false]
    repeat' split
    all_goals first
      | exact ⟨hone, fun _ => rfl, fun _ => rfl⟩
      | exact ⟨tk L1.innB L1.inn10, fun _ => rfl, fun _ => rfl⟩
      | exact ⟨tk L1.digB L1.dig10, fun _ => rfl, fun _ => rfl⟩
      | exact ⟨tk L1.mrkB L1.mrk10, fun _ => rfl, fun _ => rfl⟩
      | exact ⟨tk L1.nnlB L1.nnl10, fun _ => rfl, fun _ => rfl⟩
def spL (k : Nat) : List UInt8 := List.replicate k 32
def ind (k : Nat) : List UInt8 → List UInt8
  | [] => []
  | b :: r => if b = 10 then 10 :: (spL k ++ ind k r) else b :: ind k r

theorem ind_tw (k : Nat) {q : UInt8 → Bool} (h : q 10 = false) : ∀ x : List UInt8, (ind k x).takeWhile q = x.takeWhile q
  | [] => rfl
  | b :: x => by
    by_cases hb : b = 10
    · subst hb
      rw [ind, if_pos rfl, List.takeWhile_cons, List.takeWhile_cons, h]
      simp
    · rw [ind, if_neg hb, List.takeWhile_cons, List.takeWhile_cons, ind_tw k h x]
theorem ind_drop (k : Nat) : ∀ (n : Nat) (x : List UInt8), (x.take n).count 10 = 0 → (ind k x).drop n = ind k (x.drop n)
  | 0, x, _ => rfl
  | n + 1, [], _ => by simp [ind]
  | n + 1, b :: x, h => by
    have hb : b ≠ 10 := by rintro rfl; simp at h
    rw [List.take_succ_cons, List.count_cons] at h
    rw [ind, if_neg hb, List.drop_succ_cons, List.drop_succ_cons, ind_drop k n x (by omega)]
theorem ind_item (k : Nat) (b : UInt8) (x : List UInt8) : item b (ind k x) = item b x := by
  simp only [item, ind_tw k L1.inn10, ind_tw k L1.dig10, ind_tw k L1.mrk10, ind_tw k L1.nnl10]

theorem lex_sp (r : List UInt8) (l c : Nat) : lexA (32 :: r) l c = lexA r l (c + 1) := by
  rw [L1.lexA_cons]
  have : item 32 (32 :: r) = .gap 1 := rfl
  rw [this]
  simp [It.toks, It.bads, It.len, It.line, It.col]
theorem lex_sps : ∀ (k : Nat) (r : List UInt8) (l c : Nat), lexA (spL k ++ r) l c = lexA r l (c + k)
  | 0, r, l, c => rfl
  | k + 1, r, l, c => by
    rw [spL, List.replicate_succ, List.cons_append, lex_sp]
    have := lex_sps k r l (c + 1)
    rw [spL] at this
    rw [this]
    congr 1
    omega

def shT (k : Nat) (t : Tk) : Tk := { t with col := t.col + k }
def shD (k : Nat) (t : Dg) : Dg := { t with col := t.col + k }
theorem toks_sh (i : It) (l c k : Nat) : i.toks l (c + k) = (i.toks l c).map (shT k) := by cases i <;> simp [It.toks, shT]
theorem bads_sh (i : It) (l c k : Nat) : i.bads l (c + k) = (i.bads l c).map (shD k) := by
  cases i with
  | tok _ _ _ b => cases b <;> simp [It.bads, shD]
  | _ => simp [It.bads, shD]

theorem lex_ind (k : Nat) : ∀ (n : Nat) (r : List UInt8), r.length ≤ n → ∀ (l c : Nat), lexA (ind k r) l (c + k) = ((lexA r l c).1.map (shT k), (lexA r l c).2.1.map (shD k), (lexA r l c).2.2.1, (lexA r l c).2.2.2 + k)
  | _, [], _, l, c => by simp [lexA, L1.lexL, ind]
  | 0, _ :: _, h, _, _ => by simp at h
  | n + 1, b :: r, h, l, c => by
    have hp := L1.item_pos b r
    simp only [List.length_cons] at h
    rcases item_kind b r with ⟨rfl, hi⟩ | ⟨hb, h0, hl, hc⟩
    · rw [ind, if_pos rfl, L1.lex_nl, L1.lex_nl, lex_sps]
      exact lex_ind k n r (by omega) (l + 1) 1
    · have hd := ind_drop k (item b (b :: r)).len (b :: r) h0
      have hi := ind_item k b (b :: r)
      rw [ind, if_neg hb] at hd hi ⊢
      rw [L1.lexA_cons, L1.lexA_cons, hi, hd, hl, hc, hc, show c + k + (item b (b :: r)).len = c + (item b (b :: r)).len + k by omega,
        lex_ind k n _ (by rw [List.length_drop, List.length_cons]; omega), toks_sh, bads_sh]
      simp

/-- The tokens of the moved text. -/
theorem scan_ind (k : Nat) {s u : ByteArray} (hu : bts u = spL k ++ ind k (bts s)) : scanT u = (scanT s).map (shT k) := by
  have e : scanW u = ((scanW s).1.map (shT k), (scanW s).2.1.map (shD k), (scanW s).2.2.1, (scanW s).2.2.2 + k) := by
    rw [L1.scan_eq, L1.scan_eq]
    show lexA (bts u) 1 1 = _
    rw [hu, lex_sps]
    exact lex_ind k _ _ (Nat.le_refl _) 1 1
  simp only [scanT, e, List.map_append, List.map_cons, List.map_nil]
  rfl
end Go.Am.Y1

/- What Mark makes of tokens moved to the right. Conditions: none. -/
namespace Go.Am.Y1
open Go.Am.L1 (Tk tkc tkP scanT)
open Go.Proofs (Tryd.enclV)
set_option maxRecDepth 100000
set_option linter.unusedSimpArgs false

def shC (k : Nat) (c : Cx) : Cx := if pos c then (c.1 + k, c.2) else c
variable {k : Nat}
theorem shC_pos (c : Cx) : pos (shC k c) = pos c := by
  unfold shC
  split
  · rename_i h
    have : c.1 > 0 := of_decide_eq_true h
    rw [h]; exact decide_eq_true (by simp only; omega)
  · rfl
theorem shC_snd (c : Cx) : (shC k c).2 = c.2 := by unfold shC; split <;> rfl
theorem shC_let (c : Cx) : isLet (shC k c) = isLet c := by simp only [isLet, shC_snd]
theorem shC_nlet (c : Cx) : nlet (shC k c) = nlet c := by simp only [nlet, shC_let]
theorem shC_zer (c : Cx) : zer (shC k c) = zer c := by
  unfold shC
  split
  · rename_i h
    have : c.1 > 0 := of_decide_eq_true h
    have h1 : (c.1 == 0) = false := by simp; omega
    have h2 : (c.1 + (k : Int) == 0) = false := by simp; omega
    simp only [zer, h1, h2]
  · rfl
theorem shC_over (t : Tk) (c : Cx) : over (shT k t) (shC k c) = over t c := by
  unfold shC
  split
  · simp only [over, shT]
    exact decide_eq_decide.2 (by omega)
  · rename_i h
    have : ¬ c.1 > 0 := fun hh => h (decide_eq_true hh)
    simp only [over, shT]
    exact decide_eq_decide.2 (by omega)

theorem tw_sh {α : Type} {f : α → α} {p q : α → Bool} (h : ∀ c, p (f c) = q c) : ∀ r : List α, (r.map f).takeWhile p = (r.takeWhile q).map f
  | [] => rfl
  | c :: r => by
    rw [List.map_cons, List.takeWhile_cons, List.takeWhile_cons, h, tw_sh h r]
    split <;> simp
theorem dw_sh {α : Type} {f : α → α} {p q : α → Bool} (h : ∀ c, p (f c) = q c) : ∀ r : List α, (r.map f).dropWhile p = (r.dropWhile q).map f
  | [] => rfl
  | c :: r => by
    rw [List.map_cons, List.dropWhile_cons, List.dropWhile_cons, h, dw_sh h r]
    split <;> simp
theorem any_sh {α : Type} {f : α → α} {p q : α → Bool} (h : ∀ c, p (f c) = q c) (r : List α) : (r.map f).any p = r.any q := by
  rw [List.any_map]; congr 1; funext c; exact h c
theorem fl_sh {α : Type} {f : α → α} {p q : α → Bool} (h : ∀ c, p (f c) = q c) : ∀ r : List α, ((r.map f).filter p).length = (r.filter q).length
  | [] => rfl
  | c :: r => by
    rw [List.map_cons, List.filter_cons, List.filter_cons, h]
    have := fl_sh h r
    split <;> simp [this]

theorem mkT_sh (n : Int) (t : Tk) : mkT n (shT k t) = shT k (mkT n t) := rfl
theorem closes_sh (n : Nat) (t : Tk) : closes n (shT k t) = (closes n t).map (shT k) := by simp [closes, mkT_sh]
theorem isT_sh (t : Tk) (n : Int) (s : ByteArray) : isT (shT k t) n s = isT t n s := rfl
theorem opensT_sh (t : Tk) : opensT (shT k t) = opensT t := rfl

theorem hcol_sh (r : List Cx) {t : Tk} (ht : 1 ≤ t.col) : (hcol (r.map (shC k)) == ((shT k t).col : Int)) = (hcol r == (t.col : Int)) := by
  cases r with
  | nil =>
    have h1 : ((0 : Int) == ((shT k t).col : Int)) = false := by simp [shT]; omega
    have h2 : ((0 : Int) == (t.col : Int)) = false := by simp; omega
    simp only [hcol, List.map_nil, List.head?_nil, Option.getD_none, h1, h2]
  | cons c r =>
    simp only [hcol, List.map_cons, List.head?_cons, Option.getD_some]
    unfold shC
    split
    · simp only [shT]
      rw [Bool.eq_iff_iff, beq_iff_eq, beq_iff_eq]; omega
    · rename_i h
      have : ¬ c.1 > 0 := fun hh => h (decide_eq_true hh)
      simp only [shT]
      rw [Bool.eq_iff_iff, beq_iff_eq, beq_iff_eq]; omega
theorem semis_sh (r : List Cx) {t : Tk} (ht : 1 ≤ t.col) : semis (r.map (shC k)) (shT k t) = (semis r t).map (shT k) := by
  unfold semis
  rw [hcol_sh r ht]
  split <;> simp [mkT_sh]
theorem encl_sh {t : Tk} (ht : 1 ≤ t.col) : ∀ r : List Cx, decide (((shT k t).col : Int) > Go.Proofs.Tryd.enclV (r.map (shC k))) = decide ((t.col : Int) > Go.Proofs.Tryd.enclV r)
  | [] => by
    simp only [List.map_nil, Go.Proofs.Tryd.enclV, shT]
    exact decide_eq_decide.2 (by omega)
  | c :: r => by
    have ih := encl_sh ht r
    rw [List.map_cons, Go.Proofs.Tryd.enclV, Go.Proofs.Tryd.enclV]
    have hp : (0 < (shC k c).1) ↔ 0 < c.1 := by
      have := shC_pos (k := k) c
      simp only [pos] at this
      exact decide_eq_decide.1 this
    by_cases h : 0 < c.1
    · rw [if_pos h, if_pos (hp.2 h)]
      have : pos c = true := decide_eq_true h
      simp only [shC, this, if_true, shT]
      exact decide_eq_decide.2 (by omega)
    · rw [if_neg h, if_neg (fun hh => h (hp.1 hh))]; exact ih

theorem befR_sh (r : List Cx) (t : Tk) : befR (r.map (shC k)) (shT k t) = ((befR r t).1.map (shC k), (befR r t).2) := by
  simp only [befR, isT_sh, any_sh (shC_zer (k := k)), tw_sh (shC_pos (k := k)), dw_sh (shC_pos (k := k)), tw_sh (shC_nlet (k := k)), any_sh (shC_let (k := k)), List.length_map]
  split
  · simp
  split
  · split <;> simp
  split
  · split <;> simp
  · rfl

theorem openM_sh (prev : Option Tk) {t : Tk} (ht : 1 ≤ t.col) (r : List Cx) (out : List Tk) :
    openM (prev.map (shT k)) (shT k t) (r.map (shC k)) (out.map (shT k)) = ((openM prev t r out).1.map (shC k), (openM prev t r out).2.1.map (shT k), (openM prev t r out).2.2) := by
  cases prev with
  | none => rfl
  | some u =>
    simp only [Option.map_some, openM, opensT_sh, isT_sh, encl_sh ht]
    have hk : (shT k t).kind = t.kind := rfl
    have hl : (shT k t).line = t.line := rfl
    have hl2 : (shT k u).line = u.line := rfl
    rw [hk, hl, hl2]
    split
    · rfl
    split
    · rfl
    split
    · have hp : pos ((t.col : Int), u.text) = true := decide_eq_true (by simp only; omega)
      have : shC k ((t.col : Int), u.text) = (((shT k t).col : Int), (shT k u).text) := by
        simp only [shC, hp, if_true, shT, Prod.mk.injEq, and_true]; omega
      simp [mkT_sh, this]
    · simp [mkT_sh]
theorem tailM_sh {t : Tk} (ht : 1 ≤ t.col) (f : Bool) (r : List Cx) (out : List Tk) :
    tailM (shT k t) f (r.map (shC k)) (out.map (shT k)) = ((tailM t f r out).1.map (shC k), (tailM t f r out).2.map (shT k)) := by
  have h0 : shC k ((0 : Int), (⟨#[]⟩ : ByteArray)) = (0, ⟨#[]⟩) := rfl
  cases f
  · simp only [tailM, Bool.false_eq_true, if_false, befR_sh, isT_sh, closes_sh, List.map_append, List.map_cons, List.map_nil]
    split <;> simp [h0]
  · simp only [tailM, if_true, tw_sh (shC_over (k := k) t), dw_sh (shC_over (k := k) t), befR_sh, isT_sh, closes_sh, semis_sh _ ht, List.length_map, List.map_append, List.map_cons, List.map_nil]
    split <;> simp [h0]
theorem markG_sh : ∀ (R : List Tk) (prev : Option Tk) (r : List Cx) (out : List Tk), (∀ t, t ∈ R → 1 ≤ t.col) →
    markG (prev.map (shT k)) (R.map (shT k)) (r.map (shC k)) (out.map (shT k)) = ((markG prev R r out).1.map (shC k), (markG prev R r out).2.map (shT k))
  | [], prev, r, out, _ => rfl
  | t :: R, prev, r, out, h => by
    have ht := h t (List.mem_cons_self ..)
    have hk : (shT k t).kind = t.kind := rfl
    rw [List.map_cons, markG, markG, openM_sh prev ht, hk]
    split
    · rfl
    · simp only
      rw [tailM_sh ht]
      exact markG_sh R (some t) _ _ fun u hu => h u (List.mem_cons_of_mem _ hu)
theorem lastT_sh {L : List Tk} (h : L ≠ []) : lastT (L.map (shT k)) = shT k (lastT L) := by
  rw [lastT, lastT, List.getLast?_map, List.getLast?_eq_some_getLast h]; rfl
theorem markT_sh {L : List Tk} (hc : ChkL L) : markT (L.map (shT k)) = (markT L).map (shT k) := by
  have hne : L ≠ [] := by intro h0; have := hc.pos; rw [h0] at this; simp at this
  obtain ⟨R, z, e, hR, hz, -, -⟩ := hc.split
  have hcol : ∀ t, t ∈ L → 1 ≤ t.col := fun t ht => by
    rw [e] at ht
    rcases List.mem_append.1 ht with ht | ht
    · exact (hR t ht).1.1
    · rw [List.mem_singleton.1 ht]; exact hz.1
  have := markG_sh (k := k) L none [] [] hcol
  simp only [List.map_nil, Option.map_none] at this
  simp only [markT, this, lastT_sh hne, fl_sh (shC_pos (k := k)), closes_sh, List.map_append, List.map_cons, List.map_nil]
end Go.Am.Y1
