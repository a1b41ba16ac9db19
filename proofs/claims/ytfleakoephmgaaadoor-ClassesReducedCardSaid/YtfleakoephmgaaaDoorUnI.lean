/- A part of the proof of Go. Conditions: none. -/
import Derived.Test.YtfleakoephmgaaaDoorUnG
set_option linter.unusedSimpArgs false
set_option linter.unusedVariables false
namespace Go.Am.U1
open Go.Am.Un
set_option maxRecDepth 100000
set_option linter.unusedSimpArgs false
attribute [local go_sem] wseq COp.isStore wreg wdreg wret wskip wexit wblock wcnd cnd_t cnd_f then_n then_x then_r catch_n rnd_n rnd_x rnd_r catch_x catch_r wo_nil wo_grd grdO_t grdO_f wo_ops stpO wr_nil wr_alloc wr_guards grdR_t grdR_f wr_ops stpR evAllocs evOp env0_app eput_some eput_none eset_app Opd.ev wantedA faddrA snew_obj snew_size sput_obj sput_size av_cells av_one av_strip av_still unA eqbA fillA fldA lensA mmA mm2 mmFold List.getD_cons_zero List.getD_cons_succ List.getD_nil List.length_cons List.length_nil List.drop_zero List.drop_succ_cons List.take_succ_cons List.take_zero List.map_cons List.map_nil List.set_cons_zero List.set_cons_succ List.all_cons List.all_nil List.getElem?_cons_zero List.getElem?_cons_succ List.nil_append List.cons_append Nat.zero_add Nat.add_zero beq_self_eq_true bt bf Bool.not_true Bool.not_false Bool.and_true Bool.true_and Bool.and_false Bool.false_and and_self and_true true_and n0 n1 n2 n3 n4 m0 m1 m2 m3 c1 retA resAs resA undefA Option.map_some Option.map_none
variable {X : Ext}

/-- What a variable leads to. -/
inductive WalkTo (ss : List Tm) : Tm → Tm → Prop
  | con (t : Tm) (h : kof t ≠ 0) : WalkTo ss t t
  | self (t u : Tm) (i : Nat) (h : kof t = 0) (hv : vof t = i) (hi : ss[i]? = some u) (hu : kof u = 0) (hw : vof u = vof t) : WalkTo ss t t
  | step (t u t' : Tm) (i : Nat) (h : kof t = 0) (hv : vof t = i) (hi : ss[i]? = some u) (hn : ¬ (kof u = 0 ∧ vof u = vof t)) (hr : WalkTo ss u t') : WalkTo ss t t'

/-- A value that reads as this list. -/
def RdS (sv : AV) (ss : List Tm) (s : St) : Prop := ISl tyc sv ss ∨ ∃ p, sv = .msl p 0 ss.length 4 ∧ s.obj p = some (.cells (ss.flatMap tyc)) ∧ p < s.size
theorem RdS.keep {sv : AV} {ss : List Tm} {s s' : St} (h : RdS sv ss s) (hk : Keep s s') : RdS sv ss s' := by
  rcases h with h | ⟨p, h1, h2, h3⟩
  · exact Or.inl h
  · exact Or.inr ⟨p, h1, hk.obj h3 h2, hk.lt h3⟩
theorem RdS.len {sv : AV} {ss : List Tm} {s : St} (h : RdS sv ss s) : lenA sv = some (.int .i64 ss.length) := by
  rcases h with h | ⟨p, rfl, h2, h3⟩
  · exact h.len
  · rfl
theorem RdS.cells {sv : AV} {ss : List Tm} {s : St} (h : RdS sv ss s) : sv.cells = [sv] := by
  rcases h with (⟨rfl, -⟩ | ⟨f, t, rfl⟩) | ⟨p, rfl, h2, h3⟩ <;> rfl
theorem RdS.at {sv : AV} {ss : List Tm} {s : St} (h : RdS sv ss s) {i : Nat} {x : Tm} (hi : ss[i]? = some x) :
    (∃ r, iaddrA 4 sv (.int .i64 i) = some (.eptr (.int .i64 (kof x) :: .str (nof x) :: .int .i64 (vof x) :: .sl (tycs (lof x)) (lof x).length false none :: r))) ∨
    ∃ p L, iaddrA 4 sv (.int .i64 i) = some (.ptr p (i * 4)) ∧ s.obj p = some (.cells L) ∧ p < s.size ∧ (i * 4 + 4 ≤ L.length) = True ∧ List.take 4 (List.drop (i * 4) L) = [.int .i64 (kof x), .str (nof x), .int .i64 (vof x), .sl (tycs (lof x)) (lof x).length false none] := by
  rcases h with h | ⟨p, rfl, h2, h3⟩
  · have := h.at tyc_len hi
    rw [tyc_w, tyw] at this
    exact Or.inl ⟨_, this⟩
  · have hlt := (List.getElem?_eq_some_iff.1 hi).1
    refine Or.inr ⟨p, _, ?_, h2, h3, eq_true (flat_le tyc_len hi 4 (Nat.le_refl _)), ?_⟩
    · simp only [iaddrA]
      rw [if_pos (by exact ⟨by omega, by omega, trivial⟩), Int.toNat_natCast]; simp
    · have hr := flat_row tyc_len hi
      rw [hr, tyc_w, tyw]

theorem W_loop_eq {b L : CC} (hL : CC.loop b = L) {e : Env} {s : St} {Q : CX → Env → St → Prop} (h : W T X b e s (Then T X L Q)) : W T X L e s Q := by
  subst hL; exact W_loop h

end Go.Am.U1

/- A part of the proof of Go. Conditions: none. -/
namespace Go.Am.U1
open Go.Am.Un
set_option maxRecDepth 100000
set_option linter.unusedSimpArgs false
attribute [local go_sem] wseq COp.isStore wreg wdreg wret wskip wexit wblock wcnd cnd_t cnd_f then_n then_x then_r catch_n rnd_n rnd_x rnd_r catch_x catch_r wo_nil wo_grd grdO_t grdO_f wo_ops stpO wr_nil wr_alloc wr_guards grdR_t grdR_f wr_ops stpR evAllocs evOp env0_app eput_some eput_none eset_app Opd.ev wantedA faddrA snew_obj snew_size sput_obj sput_size av_cells av_one av_strip av_still unA eqbA fillA fldA lensA mmA mm2 mmFold List.getD_cons_zero List.getD_cons_succ List.getD_nil List.length_cons List.length_nil List.drop_zero List.drop_succ_cons List.take_succ_cons List.take_zero List.map_cons List.map_nil List.set_cons_zero List.set_cons_succ List.all_cons List.all_nil List.getElem?_cons_zero List.getElem?_cons_succ List.nil_append List.cons_append Nat.zero_add Nat.add_zero beq_self_eq_true bt bf Bool.not_true Bool.not_false Bool.and_true Bool.true_and Bool.and_false Bool.false_and and_self and_true true_and n0 n1 n2 n3 n4 m0 m1 m2 m3 c1 retA resAs resA undefA Option.map_some Option.map_none
variable {X : Ext}

mutual
/-- What a substitution makes of a type. -/
inductive Sub (ss : List Tm) : Tm → Tm → Prop
  | var (t t' : Tm) (h : WalkTo ss t t') (hk : kof t' = 0) : Sub ss t t'
  | con (t : Tm) (k : Int) (n : ByteArray) (v : Int) (l L : List Tm) (h : WalkTo ss t (.mk k n v l)) (hk : k ≠ 0) (hs : Subs ss l L) : Sub ss t (.mk k n v L)
inductive Subs (ss : List Tm) : List Tm → List Tm → Prop
  | nil : Subs ss [] []
  | cons (a A : Tm) (l L : List Tm) (h : Sub ss a A) (hs : Subs ss l L) : Subs ss (a :: l) (A :: L)
end

/-- A label's type, and the row without it. -/
inductive Extr (l : ByteArray) : Tm → Tm → Tm → Prop
  | here (v : Int) (t r : Tm) : Extr l (.mk 5 l v [t, r]) t r
  | there (m : ByteArray) (v : Int) (x r t r' : Tm) (hm : (m.toList == l.toList) = false) (h : Extr l r t r') : Extr l (.mk 5 m v [x, r]) t (.mk 5 m 0 [x, r'])

mutual
/-- Equal but for the order of labels. -/
inductive Eqv : Tm → Tm → Prop
  | var (A B : Tm) (ha : kof A = 0) (hb : kof B = 0) (h : vof A = vof B) : Eqv A B
  | row (l : ByteArray) (v : Int) (x r B t rest : Tm) (h : Extr l B t rest) (hx : Eqv x t) (hr : Eqv r rest) : Eqv (.mk 5 l v [x, r]) B
  | app (k : Int) (n n' : ByteArray) (v v' : Int) (l l' : List Tm) (h0 : k ≠ 0) (h5 : k ≠ 5) (hn : (n.toList == n'.toList) = true) (hs : Eqvs l l') : Eqv (.mk k n v l) (.mk k n' v' l')
inductive Eqvs : List Tm → List Tm → Prop
  | nil : Eqvs [] []
  | cons (a b : Tm) (l l' : List Tm) (h : Eqv a b) (hs : Eqvs l l') : Eqvs (a :: l) (b :: l')
end

/-- Rows down to their end. -/
inductive RowOk : Tm → Prop
  | nr (A : Tm) (h : kof A ≠ 5) : RowOk A
  | ext (l : ByteArray) (v : Int) (x r : Tm) (h : RowOk r) : RowOk (.mk 5 l v [x, r])

/-- The unifier's substitution. -/
def US (s : St) (b p : Nat) (ss : List Tm) : Prop := s.obj b = some (.cells [.msl p 0 ss.length 4]) ∧ s.obj p = some (.cells (ss.flatMap tyc)) ∧ b < s.size ∧ p < s.size
theorem US.keep {s s' : St} {b p : Nat} {ss : List Tm} (h : US s b p ss) (hk : Keep s s') : US s' b p ss := ⟨hk.obj h.2.2.1 h.1, hk.obj h.2.2.2 h.2.1, hk.lt h.2.2.1, hk.lt h.2.2.2⟩
end Go.Am.U1

/- A part of the proof of Go. Conditions: none. -/
namespace Go.Am.U1
open Go.Am.Un
set_option maxRecDepth 100000
set_option linter.unusedSimpArgs false
attribute [local go_sem] wseq COp.isStore wreg wdreg wret wskip wexit wblock wcnd cnd_t cnd_f then_n then_x then_r catch_n rnd_n rnd_x rnd_r catch_x catch_r wo_nil wo_grd grdO_t grdO_f wo_ops stpO wr_nil wr_alloc wr_guards grdR_t grdR_f wr_ops stpR evAllocs evOp env0_app eput_some eput_none eset_app Opd.ev wantedA faddrA snew_obj snew_size sput_obj sput_size av_cells av_one av_strip av_still unA eqbA fillA fldA lensA mmA mm2 mmFold List.getD_cons_zero List.getD_cons_succ List.getD_nil List.length_cons List.length_nil List.drop_zero List.drop_succ_cons List.take_succ_cons List.take_zero List.map_cons List.map_nil List.set_cons_zero List.set_cons_succ List.all_cons List.all_nil List.getElem?_cons_zero List.getElem?_cons_succ List.nil_append List.cons_append Nat.zero_add Nat.add_zero beq_self_eq_true bt bf Bool.not_true Bool.not_false Bool.and_true Bool.true_and Bool.and_false Bool.false_and and_self and_true true_and n0 n1 n2 n3 n4 m0 m1 m2 m3 c1 retA resAs resA undefA Option.map_some Option.map_none
variable {X : Ext}

theorem ne_e {q n : Nat} (h : q < n) (k j : Nat) : (q = n + k + j) = False := eq_false (by omega)
theorem ne_f {q n : Nat} (h : q < n) (k j : Nat) : (n + k + j = q) = False := eq_false (by omega)

mutual
theorem avr : ∀ v : AV, AV.beq v v = true
  | .bool _ | .int _ _ | .str _ | .nilp | .ptr _ _ | .nils | .msl _ _ _ _ | .nilf | .niliface | .mapv _ | .nilm => by simp [AV.beq]
  | .eptr cs => by simp [AV.beq, avrs cs]
  | .sl cs _ _ _ => by simp [AV.beq, avrs cs]
  | .func _ cs => by simp [AV.beq, avrs cs]
  | .agg cs => by simp [AV.beq, avrs cs]
  | .tup cs => by simp [AV.beq, avrs cs]
  | .iface t v => by simp [AV.beq, avr v]
theorem avrs : ∀ l : List AV, AV.beqs l l = true
  | [] => by simp [AV.beqs]
  | a :: r => by simp [AV.beqs, avr a, avrs r]
end

end Go.Am.U1
