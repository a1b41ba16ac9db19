/- Norm as the abstract machine has it. Conditions: none. -/
import Derived.Test.YtfleakoephmgaaaDoorAmU
import Derived.Test.YtfleakoephmgaaaDoorAmU
set_option linter.unusedSimpArgs false
set_option linter.unusedVariables false
namespace Go.Am.U2
open Go.Proofs Go.RowKit Go.Shelf Go.Am.Un Go.So
open Go.Am.U1 (tyc_w isl_tycs)
attribute [local go_sem] Oper.semAt_some

/-! ### Types in memory, but for one block -/
/-- The memory of a caller, the blocks from M on read as immutable, but for one. -/
def rhoX (ρ : Rho) (lb : Nat → Lab) (M bo : Nat) (W : World) : Rho := { ρ with lab := fun b => if b = bo then .free else if b < M then lb b else if b < W.heap.size then .ro else .free }
theorem immX {ρ : Rho} {lb : Nat → Lab} {M bo : Nat} {W : World} {b o : Nat} : Imm (rhoX ρ lb M bo W) b o ↔ b ≠ bo ∧ ((b < M ∧ ImmL (lb b) o) ∨ (M ≤ b ∧ b < W.heap.size)) := by
  unfold Imm rhoX
  simp only []
  by_cases h1 : b = bo
  · rw [if_pos h1]; simp [ImmL, h1]
  · rw [if_neg h1]
    by_cases h2 : b < M
    · rw [if_pos h2]
      constructor
      · exact fun h => ⟨h1, Or.inl ⟨h2, h⟩⟩
      · rintro ⟨-, ⟨-, h⟩ | ⟨h, -⟩⟩
        · exact h
        · omega
    · rw [if_neg h2]
      by_cases h3 : b < W.heap.size
      · rw [if_pos h3]; simp only [ImmL, true_iff]; exact ⟨h1, Or.inr ⟨by omega, h3⟩⟩
      · rw [if_neg h3]
        simp only [ImmL, false_iff]
        rintro ⟨-, ⟨h, -⟩ | ⟨-, h⟩⟩
        · exact h2 h
        · exact h3 h

/-- What is read as immutable, here, is read so, there. -/
def Carry (ρ : Rho) (w : World) (ρ2 : Rho) (w2 : World) : Prop := ∀ b o v, Imm ρ b o → w.cell? ⟨b, o, none⟩ = some v → Imm ρ2 b o ∧ w2.cell? ⟨b, o, none⟩ = some v

theorem sl_carry {ρ ρ2 : Rho} {w w2 : World} {n m : Nat} (h : Carry ρ w ρ2 w2) {cs : List AV} {len : Nat} {fl : Bool} {tk : Option Nat} {u : Value} (ih : ∀ vs, Vs ρ w n cs vs → Vs ρ2 w2 m cs vs) (hV : V ρ w n (.sl cs len fl tk) u) : V ρ2 w2 m (.sl cs len false none) u := by
  cases hV with
  | sl _ vs b o _ cap _ _ hvs ha hf hl ht => exact .sl cs vs b o len cap false none (ih vs hvs) (fun j v hj => h _ _ _ (ha j v hj).1 (ha j v hj).2) (by simp) hl (by simp)
  | sl0 a cap _ _ hf ha ht => exact .sl0 a cap false none (by simp) ha (by simp)
mutual
theorem tyc_carry {ρ ρ2 : Rho} {w w2 : World} {n m : Nat} (h : Carry ρ w ρ2 w2) : ∀ (t : Tm) (vs : List Value), Vs ρ w n (tyc t) vs → Vs ρ2 w2 m (tyc t) vs
  | .mk k nm v l, vs, hv => by
    rw [tyc] at hv ⊢
    cases hv with | cons _ v0 _ _ h0 hv => cases hv with | cons _ v1 _ _ h1 hv => cases hv with | cons _ v2 _ _ h2 hv => cases hv with | cons _ v3 _ _ h3 hv =>
    cases hv; cases h0; cases h1; cases h2
    exact .cons _ _ _ _ (.int _ _) (.cons _ _ _ _ (.str _) (.cons _ _ _ _ (.int _ _) (.cons _ _ _ _ (sl_carry h (tycs_carry h l) h3) .nil)))
theorem tycs_carry {ρ ρ2 : Rho} {w w2 : World} {n m : Nat} (h : Carry ρ w ρ2 w2) : ∀ (l : List Tm) (vs : List Value), Vs ρ w n (tycs l) vs → Vs ρ2 w2 m (tycs l) vs
  | [], vs, hv => by rw [tycs] at hv ⊢; cases hv; exact .nil
  | t :: r, vs, hv => by
    rw [tycs] at hv ⊢
    have h1 := hv.take 4
    have h2 := hv.drop 4
    rw [List.take_append_of_le_length (by rw [tyc_len]; exact Nat.le_refl _), List.take_of_length_le (by rw [tyc_len]; exact Nat.le_refl _)] at h1
    rw [List.drop_append_of_le_length (by rw [tyc_len]; exact Nat.le_refl _), List.drop_of_length_le (by rw [tyc_len]; exact Nat.le_refl _), List.nil_append] at h2
    have h3 : Vs ρ2 w2 m (tyc t ++ tycs r) (vs.take 4 ++ vs.drop 4) := (tyc_carry h t _ h1).append (tycs_carry h r _ h2)
    rwa [List.take_append_drop] at h3
end
/-- A type's cells, its arguments stripped of their right. -/
theorem tyw_tyc {ρ : Rho} {w : World} {n : Nat} {t : Tm} {a : AV} (ha : ISl tyc a (lof t)) {vs : List Value} (h : Vs ρ w n (U1.tyw t a) vs) : Vs ρ w n (tyc t) vs := by
  obtain ⟨k, nm, v, l⟩ := t
  simp only [U1.tyw, kof, nof, vof, lof] at h ha
  rw [tyc]
  cases h with | cons _ v0 _ _ h0 hv => cases hv with | cons _ v1 _ _ h1 hv => cases hv with | cons _ v2 _ _ h2 hv => cases hv with | cons _ v3 _ _ h3 hv =>
  cases hv
  refine .cons _ _ _ _ h0 (.cons _ _ _ _ h1 (.cons _ _ _ _ h2 (.cons _ _ _ _ ?_ .nil)))
  rcases ha with ⟨rfl, rfl⟩ | ⟨f, tk, rfl⟩
  · rw [tycs]; exact h3.strip
  · rw [tycs_flat]; exact h3.strip

theorem argv1 {ρ : Rho} {w : World} {n : Nat} {a : AV} {argv : List Value} (h : Vs ρ w n [a] argv) : ∃ x, argv = [x] ∧ V ρ w n a x := by
  cases h with
  | cons _ x _ vs h hs => cases hs; exact ⟨x, rfl, h⟩

variable {X : Ext}
theorem sok_step (hG : Good G0 Tryd.prog T X) {n nt : Nat} {mu : Bool} {fz : List Nat} {c1 c2 : Code} {cc1 cc2 : CC} {e e' : Env} {s s' : St} (hc : cCode G0 Tryd.prog mu fz nt c1 = some cc1)
    (hev : ev T X n (.seq cc1 cc2) e s = some (.normal, e', s')) {ρ : Rho} {w : World} {a : Act} {m : Nat} {Q : Exit → Act → World → Prop} (hsim : Sim ρ s w) (hE : EnvR G0 ρ w s.size e a.tmps) (ha : actOk a nt)
    (K : ∀ n1 e1 s1 ρ1 a1 w1, ev T X n1 cc2 e1 s1 = some (.normal, e', s') → Fr ρ s w ρ1 s1 w1 → Sim ρ1 s1 w1 → EnvR G0 ρ1 w1 s1.size e1 a1.tmps → actOk a1 nt → c2.wpIn Fence.wide m Tryd.prog Q a1 w1) :
    (c1.seq c2).wpIn Fence.wide m Tryd.prog Q a w := by
  cases n with
  | zero => simp [ev] at hev
  | succ n =>
    refine wpIn_seq (wpIn_wide.2 ?_)
    rw [ev] at hev
    split at hev
    · rename_i e1 s1 h1
      exact (sound hG n).1 mu fz nt c1 cc1 e e1 s s1 .normal hc h1 ρ w a _ hsim hE ha fun ρ1 a1 w1 hF hs hE' ha' => K n e1 s1 ρ1 a1 w1 hev hF hs hE' ha'
    · rename_i r hne
      exact absurd hev (by simpa using hne e' s')
theorem sok_last (hG : Good G0 Tryd.prog T X) {n nt : Nat} {mu : Bool} {fz : List Nat} {c1 c2 : Code} {cc1 : CC} {e e' : Env} {s s' : St} (hc : cCode G0 Tryd.prog mu fz nt c1 = some cc1)
    (hev : ev T X n cc1 e s = some (.normal, e', s')) {ρ : Rho} {w : World} {a : Act} {m : Nat} {Q : Exit → Act → World → Prop} (hsim : Sim ρ s w) (hE : EnvR G0 ρ w s.size e a.tmps) (ha : actOk a nt)
    (K : ∀ ρ1 a1 w1, Fr ρ s w ρ1 s' w1 → Sim ρ1 s' w1 → EnvR G0 ρ1 w1 s'.size e' a1.tmps → actOk a1 nt → c2.wpIn Fence.wide m Tryd.prog Q a1 w1) :
    (c1.seq c2).wpIn Fence.wide m Tryd.prog Q a w :=
  wpIn_seq (wpIn_wide.2 ((sound hG n).1 mu fz nt c1 cc1 e e' s s' .normal hc hev ρ w a _ hsim hE ha fun ρ1 a1 w1 hF hs hE' ha' => K ρ1 a1 w1 hF hs hE' ha'))

theorem len_succ {α : Type} {n : Nat} {l : List α} (h : l.length = n + 1) : ∃ x r, l = x :: r ∧ r.length = n := by
  cases l with
  | nil => simp at h
  | cons x r => exact ⟨x, r, rfl, by simpa using h⟩
set_option maxRecDepth 100000 in
theorem arr62 (a : Array Value) (h : a.size = 62) : ∃ y0 y1 y2 y3 y4 y5 y6 y7 y8 y9 y10 y11 y12 y13 y14 y15 y16 y17 y18 y19 y20 y21 y22 y23 y24 y25 y26 y27 y28 y29 y30 y31 y32 y33 y34 y35 y36 y37 y38 y39 y40 y41 y42 y43 y44 y45 y46 y47 y48 y49 y50 y51 y52 y53 y54 y55 y56 y57 y58 y59 y60 y61 : Value, a = #[y0, y1, y2, y3, y4, y5, y6, y7, y8, y9, y10, y11, y12, y13, y14, y15, y16, y17, y18, y19, y20, y21, y22, y23, y24, y25, y26, y27, y28, y29, y30, y31, y32, y33, y34, y35, y36, y37, y38, y39, y40, y41, y42, y43, y44, y45, y46, y47, y48, y49, y50, y51, y52, y53, y54, y55, y56, y57, y58, y59, y60, y61] := by
  obtain ⟨l0⟩ := a
  replace h : l0.length = 62 := by simpa using h
  obtain ⟨y0, l1, rfl, h1⟩ := len_succ h
  obtain ⟨y1, l2, rfl, h2⟩ := len_succ h1
  obtain ⟨y2, l3, rfl, h3⟩ := len_succ h2
  obtain ⟨y3, l4, rfl, h4⟩ := len_succ h3
  obtain ⟨y4, l5, rfl, h5⟩ := len_succ h4
  obtain ⟨y5, l6, rfl, h6⟩ := len_succ h5
  obtain ⟨y6, l7, rfl, h7⟩ := len_succ h6
  obtain ⟨y7, l8, rfl, h8⟩ := len_succ h7
  obtain ⟨y8, l9, rfl, h9⟩ := len_succ h8
  obtain ⟨y9, l10, rfl, h10⟩ := len_succ h9
  obtain ⟨y10, l11, rfl, h11⟩ := len_succ h10
  obtain ⟨y11, l12, rfl, h12⟩ := len_succ h11
  obtain ⟨y12, l13, rfl, h13⟩ := len_succ h12
  obtain ⟨y13, l14, rfl, h14⟩ := len_succ h13
  obtain ⟨y14, l15, rfl, h15⟩ := len_succ h14
  obtain ⟨y15, l16, rfl, h16⟩ := len_succ h15
  obtain ⟨y16, l17, rfl, h17⟩ := len_succ h16
  obtain ⟨y17, l18, rfl, h18⟩ := len_succ h17
  obtain ⟨y18, l19, rfl, h19⟩ := len_succ h18
  obtain ⟨y19, l20, rfl, h20⟩ := len_succ h19
  obtain ⟨y20, l21, rfl, h21⟩ := len_succ h20
  obtain ⟨y21, l22, rfl, h22⟩ := len_succ h21
  obtain ⟨y22, l23, rfl, h23⟩ := len_succ h22
  obtain ⟨y23, l24, rfl, h24⟩ := len_succ h23
  obtain ⟨y24, l25, rfl, h25⟩ := len_succ h24
  obtain ⟨y25, l26, rfl, h26⟩ := len_succ h25
  obtain ⟨y26, l27, rfl, h27⟩ := len_succ h26
  obtain ⟨y27, l28, rfl, h28⟩ := len_succ h27
  obtain ⟨y28, l29, rfl, h29⟩ := len_succ h28
  obtain ⟨y29, l30, rfl, h30⟩ := len_succ h29
  obtain ⟨y30, l31, rfl, h31⟩ := len_succ h30
  obtain ⟨y31, l32, rfl, h32⟩ := len_succ h31
  obtain ⟨y32, l33, rfl, h33⟩ := len_succ h32
  obtain ⟨y33, l34, rfl, h34⟩ := len_succ h33
  obtain ⟨y34, l35, rfl, h35⟩ := len_succ h34
  obtain ⟨y35, l36, rfl, h36⟩ := len_succ h35
  obtain ⟨y36, l37, rfl, h37⟩ := len_succ h36
  obtain ⟨y37, l38, rfl, h38⟩ := len_succ h37
  obtain ⟨y38, l39, rfl, h39⟩ := len_succ h38
  obtain ⟨y39, l40, rfl, h40⟩ := len_succ h39
  obtain ⟨y40, l41, rfl, h41⟩ := len_succ h40
  obtain ⟨y41, l42, rfl, h42⟩ := len_succ h41
  obtain ⟨y42, l43, rfl, h43⟩ := len_succ h42
  obtain ⟨y43, l44, rfl, h44⟩ := len_succ h43
  obtain ⟨y44, l45, rfl, h45⟩ := len_succ h44
  obtain ⟨y45, l46, rfl, h46⟩ := len_succ h45
  obtain ⟨y46, l47, rfl, h47⟩ := len_succ h46
  obtain ⟨y47, l48, rfl, h48⟩ := len_succ h47
  obtain ⟨y48, l49, rfl, h49⟩ := len_succ h48
  obtain ⟨y49, l50, rfl, h50⟩ := len_succ h49
  obtain ⟨y50, l51, rfl, h51⟩ := len_succ h50
  obtain ⟨y51, l52, rfl, h52⟩ := len_succ h51
  obtain ⟨y52, l53, rfl, h53⟩ := len_succ h52
  obtain ⟨y53, l54, rfl, h54⟩ := len_succ h53
  obtain ⟨y54, l55, rfl, h55⟩ := len_succ h54
  obtain ⟨y55, l56, rfl, h56⟩ := len_succ h55
  obtain ⟨y56, l57, rfl, h57⟩ := len_succ h56
  obtain ⟨y57, l58, rfl, h58⟩ := len_succ h57
  obtain ⟨y58, l59, rfl, h59⟩ := len_succ h58
  obtain ⟨y59, l60, rfl, h60⟩ := len_succ h59
  obtain ⟨y60, l61, rfl, h61⟩ := len_succ h60
  obtain ⟨y61, l62, rfl, h62⟩ := len_succ h61
  obtain rfl : l62 = [] := List.eq_nil_of_length_eq_zero h62
  exact ⟨y0, y1, y2, y3, y4, y5, y6, y7, y8, y9, y10, y11, y12, y13, y14, y15, y16, y17, y18, y19, y20, y21, y22, y23, y24, y25, y26, y27, y28, y29, y30, y31, y32, y33, y34, y35, y36, y37, y38, y39, y40, y41, y42, y43, y44, y45, y46, y47, y48, y49, y50, y51, y52, y53, y54, y55, y56, y57, y58, y59, y60, y61, rfl⟩

/-- The labels' cells. -/
theorem labs_vs {ρ : Rho} {w : World} {n : Nat} : ∀ (Ls : List Lb) (vs : List Value), Vs ρ w n (Ls.flatMap lc) vs → ∀ (j : Nat) (x : Lb), Ls[j]? = some x →
    vs[j * 4]? = some (.int .i64 0) ∧ vs[j * 4 + 1]? = some (.string x.1) ∧ vs[j * 4 + 2]? = some (.int .i64 0) ∧ ∃ u, vs[j * 4 + 3]? = some u ∧ V ρ w n (.sl (tyc x.2) 1 false none) u
  | [], _, _, j, x, h => by simp at h
  | y :: Ls, vs, hv, j, x, h => by
    rw [List.flatMap_cons, lc_c] at hv
    simp only [List.cons_append, List.nil_append] at hv
    cases hv with | cons _ v0 _ _ h0 hv => cases hv with | cons _ v1 _ _ h1 hv => cases hv with | cons _ v2 _ _ h2 hv => cases hv with | cons _ v3 _ vs' h3 hv =>
    cases h0; cases h1; cases h2
    cases j with
    | zero =>
      simp only [List.getElem?_cons_zero, Option.some.injEq] at h
      subst h
      exact ⟨rfl, rfl, rfl, v3, rfl, h3⟩
    | succ j =>
      simp only [List.getElem?_cons_succ] at h
      obtain ⟨g1, g2, g3, u, g4, g5⟩ := labs_vs Ls vs' hv j x h
      rw [show (j + 1) * 4 = j * 4 + 1 + 1 + 1 + 1 by omega]
      exact ⟨by simpa using g1, by simpa using g2, by simpa using g3, u, by simpa using g4, g5⟩

/-- A round puts a label in front. -/
def step (Ls : List Lb) (o : Tm) (x : Fin Ls.length) : Tm := .mk 5 Ls[x].1 0 [Ls[x].2, o]
theorem bld_foldr {α : Type} (g : α → Lb) (e : Tm) : ∀ l : List α, bld (l.map g) e = l.foldr (fun x o => .mk 5 (g x).1 0 [(g x).2, o]) e
  | [] => rfl
  | x :: l => by rw [List.map_cons, bld, bld_foldr g e l]; rfl
theorem steps_all (Ls : List Lb) (e : Tm) : (dn Ls.length Ls.length).foldl (step Ls) e = bld Ls e := by
  have h1 : (List.finRange Ls.length).map (fun i => Ls[i]) = Ls := by
    apply List.ext_getElem
    · simp
    · intro i h1 h2; simp
  have h2 : dn Ls.length Ls.length = (List.finRange Ls.length).reverse := by rw [dn, List.take_of_length_le (by simp)]
  rw [h2, List.foldl_reverse]
  conv => rhs; rw [← h1]
  rw [bld_foldr]
  rfl

/-- One block may have been written. -/
structure Kb (M bo : Nat) (A B : World) : Prop where
  os : B.os = A.os
  tape : B.tape = A.tape
  output : B.output = A.output
  size : A.heap.size ≤ B.heap.size
  block : ∀ b, b < M → b ≠ bo → B.heap[b]? = A.heap[b]?
theorem Kb.refl (M bo : Nat) (A : World) : Kb M bo A A := ⟨rfl, rfl, rfl, Nat.le_refl _, fun _ _ _ => rfl⟩
theorem Kb.trans {M bo : Nat} {A B C : World} (h : Kb M bo A B) (k : Kb M bo B C) : Kb M bo A C :=
  ⟨k.os.trans h.os, k.tape.trans h.tape, k.output.trans h.output, Nat.le_trans h.size k.size, fun b h1 h2 => (k.block b h1 h2).trans (h.block b h1 h2)⟩

/-- The type that a variable of four cells holds. -/
def OutAt (ρ : Rho) (lb : Nat → Lab) (M bo : Nat) (ty : TypeId) (rest : Array Value) (t : Tm) (W : World) : Prop :=
  ∃ u, W.heap[bo]? = some (.cells (#[.int .i64 (kof t), .string (nof t), .int .i64 (vof t), u] ++ rest) ty (0, 0)) ∧ V (rhoX ρ lb M bo W) W 0 (.sl (tycs (lof t)) (lof t).length false none) u

/-- What is known of values goes on being known where cells are kept. -/
theorem immX_le {ρ : Rho} {lb : Nat → Lab} {M bo : Nat} {A B : World} (hs : A.heap.size ≤ B.heap.size) {b o : Nat} (h : Imm (rhoX ρ lb M bo A) b o) : Imm (rhoX ρ lb M bo B) b o := by
  obtain ⟨h1, h2⟩ := immX.1 h
  refine immX.2 ⟨h1, ?_⟩
  rcases h2 with h2 | ⟨h2, h3⟩
  · exact Or.inl h2
  · exact Or.inr ⟨h2, by omega⟩
theorem carry_kept {ρ : Rho} {lb : Nat → Lab} {M bo : Nat} {A B : World} {row : Option Nat} (hg : A.grownBy B row) (hrow : ∀ r, row = some r → ∃ o : Obj, A.heap[r]? = some o ∧ o.isCells = false) : Carry (rhoX ρ lb M bo A) A (rhoX ρ lb M bo B) B :=
  fun b o v hi hc => ⟨immX_le hg.size hi, cell_kept hc hg hrow⟩
theorem cell_lt {W : World} {b o : Nat} {v : Value} (h : W.cell? ⟨b, o, none⟩ = some v) : b < W.heap.size := by
  unfold World.cell? at h
  cases hb : W.heap[b]? with
  | none => simp [hb] at h
  | some x => exact (Array.getElem?_eq_some_iff.1 hb).1
theorem carry_kb {ρ : Rho} {lb : Nat → Lab} {M bo : Nat} {A B : World} (h : ∀ b, b < A.heap.size → b ≠ bo → B.heap[b]? = A.heap[b]?) (hs : A.heap.size ≤ B.heap.size) : Carry (rhoX ρ lb M bo A) A (rhoX ρ lb M bo B) B :=
  fun b o v hi hc => ⟨immX_le hs hi, (World.cell?_of_block (w := A) (h b (cell_lt hc) (immX.1 hi).1)).trans hc⟩
theorem out_own {β : Type} (ρ : Rho) (lb : Nat → Lab) (M' M bo : Nat) (ty : TypeId) (rest : Array Value) (f : β → Tm) : OwnFrom M (fun s W => OutAt ρ lb M' bo ty rest (f s) W) := by
  rintro s X Y row ⟨u, h1, h2⟩ hg hr
  have hr' : ∀ r, row = some r → ∃ o : Obj, X.heap[r]? = some o ∧ o.isCells = false := fun r e => (hr r e).2
  refine ⟨u, ?_, sl_carry (carry_kept hg hr') (tycs_carry (carry_kept hg hr') _) h2⟩
  rw [hg.block bo (Array.getElem?_eq_some_iff.1 h1).1 fun e => ?_]
  · exact h1
  · obtain ⟨o, ho, hc⟩ := hr' bo e.symm
    rw [h1] at ho; cases ho; cases hc
theorem kb_own {β : Type} (M bo : Nat) (w : World) (hM : M ≤ w.heap.size) : OwnFrom M (fun (_ : β) W => Kb M bo w W) := by
  rintro s X Y row h hg hr
  refine h.trans ⟨hg.os, hg.tape, hg.output, hg.size, fun b hb hn => hg.block b (by have := h.size; omega) fun e => ?_⟩
  have := (hr b e.symm).1
  omega

/-! ### Ext, in any memory -/
set_option maxRecDepth 100000 in
set_option maxHeartbeats 2000000 in
theorem ext_calls (W : World) (l : ByteArray) (a0 b0 a2 b2 : Int) (a1 b1 : ByteArray) (a3 b3 : Option Addr) (an ac bn bc : Nat) :
    Calls Tryd.prog 22 #[.string l, .agg #[.int .i64 a0, .string a1, .int .i64 a2, .slice a3 an ac], .agg #[.int .i64 b0, .string b1, .int .i64 b2, .slice b3 bn bc]] W fun e W' => Below W.heap.size W W' ∧ ∃ q, W.heap.size ≤ q ∧ q < W'.heap.size ∧ e = .returned (.agg #[.int .i64 5, .string l, .int .i64 0, .slice (some ⟨q, 0, none⟩) 2 2]) ∧
      W'.cell? ⟨q, 0, none⟩ = some (.int .i64 a0) ∧ W'.cell? ⟨q, 1, none⟩ = some (.string a1) ∧ W'.cell? ⟨q, 2, none⟩ = some (.int .i64 a2) ∧ W'.cell? ⟨q, 3, none⟩ = some (.slice a3 an ac) ∧
      W'.cell? ⟨q, 4, none⟩ = some (.int .i64 b0) ∧ W'.cell? ⟨q, 5, none⟩ = some (.string b1) ∧ W'.cell? ⟨q, 6, none⟩ = some (.int .i64 b2) ∧ W'.cell? ⟨q, 7, none⟩ = some (.slice b3 bn bc) := by
  refine (callsIn_wide (n := 2)).1 ?_
  refine callsIn_of_wp Tryd.func22 rfl trivial ?_ rfl
  simp only [Tryd.ntmps22, List.size_toArray, List.length_cons, List.length_nil, Nat.reduceAdd, Nat.reduceSub, Array.replicate_succ, Array.replicate_zero, List.push_toArray, List.append_toArray, List.nil_append, List.cons_append]
  gi_wp2
  refine bodyPost_ret (v := .agg #[.int .i64 5, .string l, .int .i64 0, .slice (some ⟨W.heap.size + 1 + 1 + 1, 0, none⟩) 2 2]) (by simp [results, Tryd.f22, go_sem]) rfl ?_
  refine ⟨(((Below.refl _ W).alloc (Nat.le_refl _) _).alloc (by simp) _).alloc (by simp; omega) _ |>.alloc (by simp; omega) _, W.heap.size + 1 + 1 + 1, by omega, by simp, rfl, ?_⟩
  generalize hX : (((W.alloc (Obj.cells #[Value.int IntKind.i64 a0, Value.string a1, Value.int IntKind.i64 a2, Value.slice a3 an ac] 24)).alloc (Obj.cells #[Value.int IntKind.i64 b0, Value.string b1, Value.int IntKind.i64 b2, Value.slice b3 bn bc] 24)).alloc
    (Obj.cells #[Value.int IntKind.i64 5, Value.string l, Value.int IntKind.i64 0, Value.slice (some { block := W.heap.size + 1 + 1 + 1, off := 0 }) 2 2] 24)) = X
  have hx : X.heap.size = W.heap.size + 1 + 1 + 1 := by rw [← hX]; simp
  have hn := World.alloc_heap_new X (Obj.cells #[Value.int IntKind.i64 a0, Value.string a1, Value.int IntKind.i64 a2, Value.slice a3 an ac, Value.int IntKind.i64 b0, Value.string b1, Value.int IntKind.i64 b2, Value.slice b3 bn bc] 24)
  rw [hx] at hn
  simp [World.cell?, hn]
end Go.Am.U2
