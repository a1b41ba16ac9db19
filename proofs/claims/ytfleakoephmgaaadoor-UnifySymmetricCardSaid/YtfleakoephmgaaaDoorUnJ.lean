/- A part of the proof of unifySymmetric. Conditions: none. -/
import Derived.Test.YtfleakoephmgaaaDoorUnG
set_option linter.unusedSimpArgs false
set_option linter.unusedVariables false
namespace Go.Am.U1
open Go.Am.Un
set_option maxRecDepth 100000
set_option linter.unusedSimpArgs false
attribute [local go_sem] wseq COp.isStore wreg wdreg wret wskip wexit wblock wcnd cnd_t cnd_f then_n then_x then_r catch_n rnd_n rnd_x rnd_r catch_x catch_r wo_nil wo_grd grdO_t grdO_f wo_ops stpO wr_nil wr_alloc wr_guards grdR_t grdR_f wr_ops stpR evAllocs evOp env0_app eput_some eput_none eset_app Opd.ev wantedA faddrA snew_obj snew_size sput_obj sput_size av_cells av_one av_strip av_still unA eqbA fillA fldA lensA mmA mm2 mmFold List.getD_cons_zero List.getD_cons_succ List.getD_nil List.length_cons List.length_nil List.drop_zero List.drop_succ_cons List.take_succ_cons List.take_zero List.map_cons List.map_nil List.set_cons_zero List.set_cons_succ List.all_cons List.all_nil List.getElem?_cons_zero List.getElem?_cons_succ List.nil_append List.cons_append Nat.zero_add Nat.add_zero beq_self_eq_true bt bf Bool.not_true Bool.not_false Bool.and_true Bool.true_and Bool.and_false Bool.false_and and_self and_true true_and n0 n1 n2 n3 n4 m0 m1 m2 m3 c1 retA resAs resA undefA Option.map_some Option.map_none
variable {X : Ext}

mutual
/-- What a substitution makes of a type. -/
inductive Sub (ss : List Tm) : Tm → Tm → Prop
  | var (t t' : Tm) (h : WalkTo ss t t') (hk : kof t' = 0) : Sub ss t t'
  | con (t : Tm) (k : Int) (n : ByteArray) (v : Int) (l L : List Tm) (h : WalkTo ss t (.mk k n v l)) (hk : k ≠ 0) (hs : Subs ss l L) : Sub ss t (.mk k n v L)
inductive Subs (ss : List Tm) : List Tm → List Tm → Prop
  | nil : Subs ss [] []
  | cons (a A : Tm) (l L : List Tm) (h : Sub ss a A) (hs : Subs ss l L) : Subs ss (a :: l) (A :: L)
end

theorem subs_len {ss : List Tm} : ∀ {l L : List Tm}, Subs ss l L → L.length = l.length
  | [], _, h => by cases h; rfl
  | a :: l, _, h => by cases h with | cons _ A _ L h hs => simp [subs_len hs]
theorem subs_at {ss : List Tm} : ∀ {l L : List Tm}, Subs ss l L → ∀ {i : Nat} {a : Tm}, l[i]? = some a → ∃ A, L[i]? = some A ∧ Sub ss a A
  | [], _, h, i, a, hi => by simp at hi
  | x :: l, _, h, i, a, hi => by
    cases h with
    | cons _ A _ L h hs =>
      cases i with
      | zero => simp at hi; subst hi; exact ⟨A, by simp, h⟩
      | succ i => obtain ⟨B, h1, h2⟩ := subs_at hs (i := i) (by simpa using hi); exact ⟨B, by simpa using h1, h2⟩

/-- A label's type, and the row without it. -/
inductive Extr (l : ByteArray) : Tm → Tm → Tm → Prop
  | here (v : Int) (t r : Tm) : Extr l (.mk 5 l v [t, r]) t r
  | there (m : ByteArray) (v : Int) (x r t r' : Tm) (hm : (m.toList == l.toList) = false) (h : Extr l r t r') : Extr l (.mk 5 m v [x, r]) t (.mk 5 m 0 [x, r'])

mutual
/-- Equal but for the order of labels. -/
inductive Eqv : Tm → Tm → Prop
  | var (A B : Tm) (ha : kof A = 0) (hb : kof B = 0) (h : vof A = vof B) : Eqv A B
  | row (l : ByteArray) (v : Int) (x r B t rest : Tm) (h : Extr l B t rest) (hx : Eqv x t) (hr : Eqv r rest) : Eqv (.mk 5 l v [x, r]) B
  | app (k : Int) (n n' : ByteArray) (v v' : Int) (l l' : List Tm) (h0 : k ≠ 0) (h5 : k ≠ 5) (hn : (n.toList == n'.toList) = true) (hs : Eqvs l l') : Eqv (.mk k n v l) (.mk k n' v' l')
inductive Eqvs : List Tm → List Tm → Prop
  | nil : Eqvs [] []
  | cons (a b : Tm) (l l' : List Tm) (h : Eqv a b) (hs : Eqvs l l') : Eqvs (a :: l) (b :: l')
end

/-- Rows down to their end. -/
inductive RowOk : Tm → Prop
  | nr (A : Tm) (h : kof A ≠ 5) : RowOk A
  | ext (l : ByteArray) (v : Int) (x r : Tm) (h : RowOk r) : RowOk (.mk 5 l v [x, r])

theorem ext_law (hX : NoX X) (l : ByteArray) (a b : Tm) (s : St) : WC T X 22 [.str l, .agg (tyc a), .agg (tyc b)] s (fun v s' => v = .agg (tyc (.mk 5 l 0 [a, b])) ∧ Keep s s') := by
  refine WC_fn cf22 (hX 22 (by decide)) T22 (by simp [cf22]) ?_
  have hr : tyc (.mk 5 l 0 [a, b]) = [.int .i64 5, .str l, .int .i64 0, .sl (tyc a ++ tyc b) 2 false none] := by
    rw [tyc, tycs, tycs, tycs, List.append_nil]; rfl
  rw [hr, tyc_w a, tyc_w b]
  simp only [cf22, tyw, Nat.le_add_left, go_sem, ↓reduceIte, reduceCtorEq, Nat.reduceEqDiff, Nat.reduceAdd, Nat.reduceSub, Nat.reduceMul, Nat.reduceLeDiff, Nat.reduceLT, loadA, rdCells, storeA, setAt, binA]
  exact ⟨by simp, _, rfl, rfl, ((((Keep.refl s).new' _).new' _).new' _).put' (by show s.size ≤ s.size + 1 + 1; omega) _⟩

/-- The unifier's substitution. -/
def US (s : St) (b p : Nat) (ss : List Tm) : Prop := s.obj b = some (.cells [.msl p 0 ss.length 4]) ∧ s.obj p = some (.cells (ss.flatMap tyc)) ∧ b < s.size ∧ p < s.size
theorem US.keep {s s' : St} {b p : Nat} {ss : List Tm} (h : US s b p ss) (hk : Keep s s') : US s' b p ss := ⟨hk.obj h.2.2.1 h.1, hk.obj h.2.2.2 h.2.1, hk.lt h.2.2.1, hk.lt h.2.2.2⟩
theorem US.rd {s : St} {b p : Nat} {ss : List Tm} (h : US s b p ss) : RdS (.msl p 0 ss.length 4) ss s := Or.inr ⟨p, rfl, h.2.1, h.2.2.2⟩

theorem ia0 (a b c d e f g h : AV) (n : Nat) (fl : Bool) (tk : Option Nat) (hn : 0 < n) : iaddrA 4 (.sl [a, b, c, d, e, f, g, h] n fl tk) (.int .i64 0) = some (.eptr [a, b, c, d, e, f, g, h]) := by
  simp only [iaddrA]
  rw [if_pos (by exact ⟨by omega, by omega⟩)]; rfl
theorem ia1 (a b c d e f g h : AV) (fl : Bool) (tk : Option Nat) : iaddrA 4 (.sl [a, b, c, d, e, f, g, h] 2 fl tk) (.int .i64 1) = some (.eptr [e, f, g, h]) := rfl

end Go.Am.U1

/- A part of the proof of unifySymmetric. Conditions: none. -/
namespace Go.Am.U1
open Go.Am.Un
set_option maxRecDepth 100000
set_option linter.unusedSimpArgs false
attribute [local go_sem] wseq COp.isStore wreg wdreg wret wskip wexit wblock wcnd cnd_t cnd_f then_n then_x then_r catch_n rnd_n rnd_x rnd_r catch_x catch_r wo_nil wo_grd grdO_t grdO_f wo_ops stpO wr_nil wr_alloc wr_guards grdR_t grdR_f wr_ops stpR evAllocs evOp env0_app eput_some eput_none eset_app Opd.ev wantedA faddrA snew_obj snew_size sput_obj sput_size av_cells av_one av_strip av_still unA eqbA fillA fldA lensA mmA mm2 mmFold List.getD_cons_zero List.getD_cons_succ List.getD_nil List.length_cons List.length_nil List.drop_zero List.drop_succ_cons List.take_succ_cons List.take_zero List.map_cons List.map_nil List.set_cons_zero List.set_cons_succ List.all_cons List.all_nil List.getElem?_cons_zero List.getElem?_cons_succ List.nil_append List.cons_append Nat.zero_add Nat.add_zero beq_self_eq_true bt bf Bool.not_true Bool.not_false Bool.and_true Bool.true_and Bool.and_false Bool.false_and and_self and_true true_and n0 n1 n2 n3 n4 m0 m1 m2 m3 c1 retA resAs resA undefA Option.map_some Option.map_none
variable {X : Ext}

theorem ne_e {q n : Nat} (h : q < n) (k j : Nat) : (q = n + k + j) = False := eq_false (by omega)
theorem ne_f {q n : Nat} (h : q < n) (k j : Nat) : (n + k + j = q) = False := eq_false (by omega)

theorem row_c (l : ByteArray) (v : Int) (a b : Tm) : tyc (.mk 5 l v [a, b]) = [.int .i64 5, .str l, .int .i64 v, .sl [.int .i64 (kof a), .str (nof a), .int .i64 (vof a), .sl (tycs (lof a)) (lof a).length false none, .int .i64 (kof b), .str (nof b), .int .i64 (vof b), .sl (tycs (lof b)) (lof b).length false none] 2 false none] := by
  rw [tyc, tycs, tycs, tycs, List.append_nil, tyc_w a, tyc_w b]; rfl

mutual
theorem avr : ∀ v : AV, AV.beq v v = true
  | .bool _ | .int _ _ | .str _ | .nilp | .ptr _ _ | .nils | .msl _ _ _ _ | .nilf | .niliface | .mapv _ | .nilm => by simp [AV.beq]
  | .eptr cs => by simp [AV.beq, avrs cs]
  | .sl cs _ _ _ => by simp [AV.beq, avrs cs]
  | .func _ cs => by simp [AV.beq, avrs cs]
  | .agg cs => by simp [AV.beq, avrs cs]
  | .tup cs => by simp [AV.beq, avrs cs]
  | .iface t v => by simp [AV.beq, avr v]
theorem avrs : ∀ l : List AV, AV.beqs l l = true
  | [] => by simp [AV.beqs]
  | a :: r => by simp [AV.beqs, avr a, avrs r]
end

end Go.Am.U1
