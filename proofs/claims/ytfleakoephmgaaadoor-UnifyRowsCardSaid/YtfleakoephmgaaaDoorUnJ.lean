/- A part of the proof of unifyRows. Conditions: none. -/
import Derived.Test.YtfleakoephmgaaaDoorUnH
import Derived.Test.YtfleakoephmgaaaDoorAmSq
set_option linter.unusedSimpArgs false
set_option linter.unusedVariables false
namespace Go.Am.U1
open Go.Am.Un
set_option maxRecDepth 100000
set_option linter.unusedSimpArgs false
attribute [local go_sem] wseq COp.isStore wreg wdreg wret wskip wexit wblock wcnd cnd_t cnd_f then_n then_x then_r catch_n rnd_n rnd_x rnd_r catch_x catch_r wo_nil wo_grd grdO_t grdO_f wo_ops stpO wr_nil wr_alloc wr_guards grdR_t grdR_f wr_ops stpR evAllocs evOp env0_app eput_some eput_none eset_app Opd.ev wantedA faddrA snew_obj snew_size sput_obj sput_size av_cells av_one av_strip av_still unA eqbA fillA fldA lensA mmA mm2 mmFold List.getD_cons_zero List.getD_cons_succ List.getD_nil List.length_cons List.length_nil List.drop_zero List.drop_succ_cons List.take_succ_cons List.take_zero List.map_cons List.map_nil List.set_cons_zero List.set_cons_succ List.all_cons List.all_nil List.getElem?_cons_zero List.getElem?_cons_succ List.nil_append List.cons_append Nat.zero_add Nat.add_zero beq_self_eq_true bt bf Bool.not_true Bool.not_false Bool.and_true Bool.true_and Bool.and_false Bool.false_and and_self and_true true_and n0 n1 n2 n3 n4 m0 m1 m2 m3 c1 retA resAs resA undefA Option.map_some Option.map_none
variable {X : Ext}

mutual
/-- What a substitution makes of a type. -/
inductive Sub (ss : List Tm) : Tm → Tm → Prop
  | var (t t' : Tm) (h : WalkTo ss t t') (hk : kof t' = 0) : Sub ss t t'
  | con (t : Tm) (k : Int) (n : ByteArray) (v : Int) (l L : List Tm) (h : WalkTo ss t (.mk k n v l)) (hk : k ≠ 0) (hs : Subs ss l L) : Sub ss t (.mk k n v L)
inductive Subs (ss : List Tm) : List Tm → List Tm → Prop
  | nil : Subs ss [] []
  | cons (a A : Tm) (l L : List Tm) (h : Sub ss a A) (hs : Subs ss l L) : Subs ss (a :: l) (A :: L)
end

theorem subs_len {ss : List Tm} : ∀ {l L : List Tm}, Subs ss l L → L.length = l.length
  | [], _, h => by cases h; rfl
  | a :: l, _, h => by cases h with | cons _ A _ L h hs => simp [subs_len hs]
theorem subs_at {ss : List Tm} : ∀ {l L : List Tm}, Subs ss l L → ∀ {i : Nat} {a : Tm}, l[i]? = some a → ∃ A, L[i]? = some A ∧ Sub ss a A
  | [], _, h, i, a, hi => by simp at hi
  | x :: l, _, h, i, a, hi => by
    cases h with
    | cons _ A _ L h hs =>
      cases i with
      | zero => simp at hi; subst hi; exact ⟨A, by simp, h⟩
      | succ i => obtain ⟨B, h1, h2⟩ := subs_at hs (i := i) (by simpa using hi); exact ⟨B, by simpa using h1, h2⟩

/-- A label's type, and the row without it. -/
inductive Extr (l : ByteArray) : Tm → Tm → Tm → Prop
  | here (v : Int) (t r : Tm) : Extr l (.mk 5 l v [t, r]) t r
  | there (m : ByteArray) (v : Int) (x r t r' : Tm) (hm : (m.toList == l.toList) = false) (h : Extr l r t r') : Extr l (.mk 5 m v [x, r]) t (.mk 5 m 0 [x, r'])

mutual
/-- Equal but for the order of labels. -/
inductive Eqv : Tm → Tm → Prop
  | var (A B : Tm) (ha : kof A = 0) (hb : kof B = 0) (h : vof A = vof B) : Eqv A B
  | row (l : ByteArray) (v : Int) (x r B t rest : Tm) (h : Extr l B t rest) (hx : Eqv x t) (hr : Eqv r rest) : Eqv (.mk 5 l v [x, r]) B
  | app (k : Int) (n n' : ByteArray) (v v' : Int) (l l' : List Tm) (h0 : k ≠ 0) (h5 : k ≠ 5) (hn : (n.toList == n'.toList) = true) (hs : Eqvs l l') : Eqv (.mk k n v l) (.mk k n' v' l')
inductive Eqvs : List Tm → List Tm → Prop
  | nil : Eqvs [] []
  | cons (a b : Tm) (l l' : List Tm) (h : Eqv a b) (hs : Eqvs l l') : Eqvs (a :: l) (b :: l')
end

/-- Rows down to their end. -/
inductive RowOk : Tm → Prop
  | nr (A : Tm) (h : kof A ≠ 5) : RowOk A
  | ext (l : ByteArray) (v : Int) (x r : Tm) (h : RowOk r) : RowOk (.mk 5 l v [x, r])

theorem ext_law (hX : NoX X) (l : ByteArray) (a b : Tm) (s : St) : WC T X 22 [.str l, .agg (tyc a), .agg (tyc b)] s (fun v s' => v = .agg (tyc (.mk 5 l 0 [a, b])) ∧ Keep s s') := by
  refine WC_fn cf22 (hX 22 (by decide)) T22 (by simp [cf22]) ?_
  have hr : tyc (.mk 5 l 0 [a, b]) = [.int .i64 5, .str l, .int .i64 0, .sl (tyc a ++ tyc b) 2 false none] := by
    rw [tyc, tycs, tycs, tycs, List.append_nil]; rfl
  rw [hr, tyc_w a, tyc_w b]
  simp only [cf22, tyw, Nat.le_add_left, go_sem, ↓reduceIte, reduceCtorEq, Nat.reduceEqDiff, Nat.reduceAdd, Nat.reduceSub, Nat.reduceMul, Nat.reduceLeDiff, Nat.reduceLT, loadA, rdCells, storeA, setAt, binA]
  exact ⟨by simp, _, rfl, rfl, ((((Keep.refl s).new' _).new' _).new' _).put' (by show s.size ≤ s.size + 1 + 1; omega) _⟩

/-- The unifier's substitution. -/
def US (s : St) (b p : Nat) (ss : List Tm) : Prop := s.obj b = some (.cells [.msl p 0 ss.length 4]) ∧ s.obj p = some (.cells (ss.flatMap tyc)) ∧ b < s.size ∧ p < s.size
theorem US.keep {s s' : St} {b p : Nat} {ss : List Tm} (h : US s b p ss) (hk : Keep s s') : US s' b p ss := ⟨hk.obj h.2.2.1 h.1, hk.obj h.2.2.2 h.2.1, hk.lt h.2.2.1, hk.lt h.2.2.2⟩
theorem US.rd {s : St} {b p : Nat} {ss : List Tm} (h : US s b p ss) : RdS (.msl p 0 ss.length 4) ss s := Or.inr ⟨p, rfl, h.2.1, h.2.2.2⟩

theorem sub_walk {ss : List Tm} {t A : Tm} (h : Sub ss t A) : ∃ t', WalkTo ss t t' ∧ kof t' = kof A ∧ nof t' = nof A ∧ vof t' = vof A ∧ (kof A ≠ 0 → Subs ss (lof t') (lof A)) ∧ (kof A = 0 → t' = A) := by
  cases h with
  | var t t' h hk => exact ⟨A, h, rfl, rfl, rfl, fun hn => absurd hk hn, fun _ => rfl⟩
  | con t k n v l L h hk hs => exact ⟨_, h, rfl, rfl, rfl, fun _ => hs, fun h0 => absurd h0 hk⟩

theorem ia0 (a b c d e f g h : AV) (n : Nat) (fl : Bool) (tk : Option Nat) (hn : 0 < n) : iaddrA 4 (.sl [a, b, c, d, e, f, g, h] n fl tk) (.int .i64 0) = some (.eptr [a, b, c, d, e, f, g, h]) := by
  simp only [iaddrA]
  rw [if_pos (by exact ⟨by omega, by omega⟩)]; rfl
theorem ia1 (a b c d e f g h : AV) (fl : Bool) (tk : Option Nat) : iaddrA 4 (.sl [a, b, c, d, e, f, g, h] 2 fl tk) (.int .i64 1) = some (.eptr [e, f, g, h]) := rfl

set_option maxHeartbeats 1000000 in
theorem tail_loop (hX : NoX X) {ss : List Tm} {b p : Nat} : ∀ (A : Tm), RowOk A → ∀ (t' : Tm), kof t' = kof A → (kof A ≠ 0 → Subs ss (lof t') (lof A)) → ∀ (e : Env) (S S0 : St) (q : Nat), US S0 b p ss → S0.size ≤ q → Keep S0 S → e 0 = .ptr b 0 → e 3 = .ptr q 0 → S.obj q = some (.cells (tyc t')) → q < S.size →
    W T X (.loop cf99_l0) e S (fun x e' S' => x = .exit 0 ∧ e' 3 = .ptr q 0 ∧ (∃ t2, S'.obj q = some (.cells (tyc t2))) ∧ Keep S0 S') := by
  intro A hA
  induction hA with
  | nr A h =>
    intro t' hk hs e S S0 q hu hq0 hkp e0 e3 ho hq
    refine W_loop ?_
    have hk0 : (kof t' == 5) = false := by rw [hk]; simpa using h
    rw [tyc_w, tyw] at ho
    simp only [cf99_l0, e0, e3, ho, hk0, Nat.le_add_left, go_sem, ↓reduceIte, reduceCtorEq, Nat.reduceEqDiff, Nat.reduceAdd, Nat.reduceSub, Nat.reduceMul, Nat.reduceLeDiff, Nat.reduceLT, loadA, rdCells, storeA, setAt, binA]
    exact ⟨⟨t', by rw [tyc_w, tyw]⟩, hkp⟩
  | ext l v x r h ih =>
    intro t' hk hs e S S0 q hu hq0 hkp e0 e3 ho hq
    obtain ⟨k', n', v', l'⟩ := t'
    simp only [kof] at hk
    subst hk
    have hs' := hs (by simp [kof])
    simp only [lof] at hs'
    cases hs' with
    | cons x0 _ l1 _ hx0 hs1 =>
      cases hs1 with
      | cons r0 _ l2 _ hr0 hs2 =>
        cases hs2
        obtain ⟨r', hw, h1, h2, h3, h4, h5⟩ := sub_walk hr0
        generalize hL : CC.loop cf99_l0 = L
        refine W_loop_eq hL ?_
        rw [tyc, tycs, tycs, tycs, List.append_nil, tyc_w x0, tyc_w r0, tyw, tyw] at ho
        have hww := walk_law hX hw S (hu.keep hkp).rd
        rw [tyc_w r0, tyw, tyc_w r', tyw] at hww
        simp only [cf99_l0, e0, e3, ho, (hu.keep hkp).1, ia1, Nat.le_add_left, go_sem, ↓reduceIte, reduceCtorEq, Nat.reduceEqDiff, Nat.reduceAdd, Nat.reduceSub, Nat.reduceMul, Nat.reduceLeDiff, Nat.reduceLT, loadA, rdCells, storeA, setAt, binA]
        refine WR_callx _ rfl (hww.mono ?_)
        rintro w2 S2 ⟨rfl, hk2⟩
        have ho2 := hk2.obj hq ho
        simp only [e0, e3, ho2, Nat.le_add_left, go_sem, ↓reduceIte, reduceCtorEq, Nat.reduceEqDiff, Nat.reduceAdd, Nat.reduceSub, Nat.reduceMul, Nat.reduceLeDiff, Nat.reduceLT, loadA, rdCells, storeA, setAt, binA]
        subst hL
        refine (ih r' h1 h4 _ _ S0 q hu hq0 ((hkp.trans hk2).put' hq0 _) ?_ ?_ ?_ ?_)
        · simp only [e0, go_sem, ↓reduceIte, reduceCtorEq, Nat.reduceEqDiff, Nat.reduceAdd, Nat.reduceSub, Nat.reduceMul, Nat.reduceLeDiff, Nat.reduceLT, loadA, rdCells, storeA, setAt, binA]
        · simp only [e3, go_sem, ↓reduceIte, reduceCtorEq, Nat.reduceEqDiff, Nat.reduceAdd, Nat.reduceSub, Nat.reduceMul, Nat.reduceLeDiff, Nat.reduceLT, loadA, rdCells, storeA, setAt, binA]
        · rw [put_eq, tyc_w, tyw]
        · exact hk2.lt hq

theorem tail_law (hX : NoX X) {ss : List Tm} {b p : Nat} {A t : Tm} (hA : RowOk A) (h : Sub ss t A) (s : St) (hu : US s b p ss) : WC T X 99 [.ptr b 0, .agg (tyc t)] s (fun v s' => (∃ z : Int, v = .int .i64 z) ∧ Keep s s') := by
  refine WC_fn cf99 (hX 99 (by decide)) T99 (by simp [cf99]) ?_
  obtain ⟨t', hw, h1, h2, h3, h4, h5⟩ := sub_walk h
  have hk1 := (Keep.refl s).new' (.cells (tyc t))
  have hww := walk_law hX hw _ (hu.keep hk1).rd
  rw [tyc_w t, tyw, tyc_w t', tyw] at hww
  rw [tyc_w t, tyw] at hk1
  rw [tyc_w t, tyw]
  simp only [cf99, hu.1, ne_a hu.2.2.1, ne_b hu.2.2.1, Nat.le_add_left, go_sem, ↓reduceIte, reduceCtorEq, Nat.reduceEqDiff, Nat.reduceAdd, Nat.reduceSub, Nat.reduceMul, Nat.reduceLeDiff, Nat.reduceLT, loadA, rdCells, storeA, setAt, binA]
  refine WR_callx _ rfl (hww.mono ?_)
  rintro w2 S2 ⟨rfl, hk2⟩
  have ho2 := hk2.obj (by simp [St.new]) (new_eq rfl : (s.new (.cells [.int .i64 (kof t), .str (nof t), .int .i64 (vof t), .sl (tycs (lof t)) (lof t).length false none])).obj s.size = _)
  simp only [ho2, Nat.le_add_left, go_sem, ↓reduceIte, reduceCtorEq, Nat.reduceEqDiff, Nat.reduceAdd, Nat.reduceSub, Nat.reduceMul, Nat.reduceLeDiff, Nat.reduceLT, loadA, rdCells, storeA, setAt, binA]
  refine (tail_loop hX A hA t' h1 h4 _ _ s s.size hu (Nat.le_refl _) ((hk1.trans hk2).put' (Nat.le_refl _) _) ?_ ?_ ?_ ?_).mono ?_
  · simp only [go_sem, ↓reduceIte, reduceCtorEq, Nat.reduceEqDiff, Nat.reduceAdd, Nat.reduceSub, Nat.reduceMul, Nat.reduceLeDiff, Nat.reduceLT, loadA, rdCells, storeA, setAt, binA]
  · simp only [go_sem, ↓reduceIte, reduceCtorEq, Nat.reduceEqDiff, Nat.reduceAdd, Nat.reduceSub, Nat.reduceMul, Nat.reduceLeDiff, Nat.reduceLT, loadA, rdCells, storeA, setAt, binA]
  · rw [put_eq, tyc_w, tyw]
  · exact hk2.lt (by simp [St.new])
  · rintro x e' S' ⟨rfl, e3, ⟨t2, ho⟩, hk⟩
    rw [tyc_w, tyw] at ho
    cases hz : (kof t2 == 0) <;> simp only [e3, ho, hz, Nat.le_add_left, go_sem, ↓reduceIte, reduceCtorEq, Nat.reduceEqDiff, Nat.reduceAdd, Nat.reduceSub, Nat.reduceMul, Nat.reduceLeDiff, Nat.reduceLT, loadA, rdCells, storeA, setAt, binA]
    · exact ⟨by simp, _, rfl, ⟨_, rfl⟩, hk⟩
    · exact ⟨by simp, _, rfl, ⟨_, rfl⟩, hk⟩
end Go.Am.U1

/- A part of the proof of unifyRows. Conditions: none. -/
namespace Go.Am.U1
open Go.Am.Un
set_option maxRecDepth 100000
set_option linter.unusedSimpArgs false
attribute [local go_sem] wseq COp.isStore wreg wdreg wret wskip wexit wblock wcnd cnd_t cnd_f then_n then_x then_r catch_n rnd_n rnd_x rnd_r catch_x catch_r wo_nil wo_grd grdO_t grdO_f wo_ops stpO wr_nil wr_alloc wr_guards grdR_t grdR_f wr_ops stpR evAllocs evOp env0_app eput_some eput_none eset_app Opd.ev wantedA faddrA snew_obj snew_size sput_obj sput_size av_cells av_one av_strip av_still unA eqbA fillA fldA lensA mmA mm2 mmFold List.getD_cons_zero List.getD_cons_succ List.getD_nil List.length_cons List.length_nil List.drop_zero List.drop_succ_cons List.take_succ_cons List.take_zero List.map_cons List.map_nil List.set_cons_zero List.set_cons_succ List.all_cons List.all_nil List.getElem?_cons_zero List.getElem?_cons_succ List.nil_append List.cons_append Nat.zero_add Nat.add_zero beq_self_eq_true bt bf Bool.not_true Bool.not_false Bool.and_true Bool.true_and Bool.and_false Bool.false_and and_self and_true true_and n0 n1 n2 n3 n4 m0 m1 m2 m3 c1 retA resAs resA undefA Option.map_some Option.map_none
variable {X : Ext}

theorem ne_e {q n : Nat} (h : q < n) (k j : Nat) : (q = n + k + j) = False := eq_false (by omega)
theorem ne_f {q n : Nat} (h : q < n) (k j : Nat) : (n + k + j = q) = False := eq_false (by omega)

theorem row_c (l : ByteArray) (v : Int) (a b : Tm) : tyc (.mk 5 l v [a, b]) = [.int .i64 5, .str l, .int .i64 v, .sl [.int .i64 (kof a), .str (nof a), .int .i64 (vof a), .sl (tycs (lof a)) (lof a).length false none, .int .i64 (kof b), .str (nof b), .int .i64 (vof b), .sl (tycs (lof b)) (lof b).length false none] 2 false none] := by
  rw [tyc, tycs, tycs, tycs, List.append_nil, tyc_w a, tyc_w b]; rfl

/-- What an extraction finds. -/
def ExQ (ss : List Tm) (t' r' : Tm) (s : St) (v : AV) (s' : St) : Prop :=
  ∃ t r, v = .tup [.agg (tyc t), .agg (tyc r), .int .i64 0] ∧ Sub ss t t' ∧ Sub ss r r' ∧ Keep s s'

mutual
theorem avr : ∀ v : AV, AV.beq v v = true
  | .bool _ | .int _ _ | .str _ | .nilp | .ptr _ _ | .nils | .msl _ _ _ _ | .nilf | .niliface | .mapv _ | .nilm => by simp [AV.beq]
  | .eptr cs => by simp [AV.beq, avrs cs]
  | .sl cs _ _ _ => by simp [AV.beq, avrs cs]
  | .func _ cs => by simp [AV.beq, avrs cs]
  | .agg cs => by simp [AV.beq, avrs cs]
  | .tup cs => by simp [AV.beq, avrs cs]
  | .iface t v => by simp [AV.beq, avr v]
theorem avrs : ∀ l : List AV, AV.beqs l l = true
  | [] => by simp [AV.beqs]
  | a :: r => by simp [AV.beqs, avr a, avrs r]
end

set_option maxHeartbeats 4000000 in
theorem extr_law (hX : NoX X) {ss : List Tm} {b p : Nat} {l : ByteArray} {B t' r' : Tm} (h : Extr l B t' r') : ∀ (b0 : Tm), Sub ss b0 B → ∀ (no : Int) (s : St), US s b p ss →
    WC T X 98 [.ptr b 0, .str l, .agg (tyc b0), .int .i64 no] s (ExQ ss t' r' s) := by
  induction h with
  | here v t' r' =>
    intro b0 hb0 no s hu
    refine WC_fn cf98 (hX 98 (by decide)) T98 (by simp [cf98]) ?_
    obtain ⟨b1, hw, h1, h2, h3, h4, h5⟩ := sub_walk hb0
    have hs4 := h4 (by simp [kof])
    obtain ⟨k1, n1, v1, l1⟩ := b1
    simp only [kof, nof, vof, lof] at h1 h2 h3 hs4
    subst h1 h2 h3
    cases hs4 with
    | cons x0 _ l1 _ hx0 hs1 =>
    cases hs1 with
    | cons r0 _ l2 _ hr0 hs2 =>
    cases hs2
    have hk1 := ((((Keep.refl s).new' (.cells (tyc b0))).new' (.cells [.int .i64 0, .str ⟨#[]⟩, .int .i64 0, .nils])).new' (.cells [.int .i64 0, .str ⟨#[]⟩, .int .i64 0, .nils]))
    have hww := walk_law hX hw _ (hu.keep hk1).rd
    rw [tyc, tycs, tycs, tycs, List.append_nil, tyc_w b0, tyc_w x0, tyc_w r0, tyw, tyw, tyw] at hww
    rw [tyc_w b0, tyw] at hk1 ⊢
    have hq : s.size < (((s.new (.cells [.int .i64 (kof b0), .str (nof b0), .int .i64 (vof b0), .sl (tycs (lof b0)) (lof b0).length false none])).new (.cells [.int .i64 0, .str ⟨#[]⟩, .int .i64 0, .nils])).new (.cells [.int .i64 0, .str ⟨#[]⟩, .int .i64 0, .nils])).size := by simp only [St.new]; omega
    have z1 : ((5 : Int) == 0) = false := rfl
    have z2 : ((5 : Int) != 5) = false := rfl
    have z3 : (n1.toList == n1.toList) = true := by simp
    simp only [cf98, hu.1, ne_a hu.2.2.1, ne_b hu.2.2.1, ne_c hu.2.2.1, ne_d hu.2.2.1, ne_e hu.2.2.1, ne_f hu.2.2.1, Nat.le_add_left, go_sem, ↓reduceIte, reduceCtorEq, Nat.reduceEqDiff, Nat.reduceAdd, Nat.reduceSub, Nat.reduceMul, Nat.reduceLeDiff, Nat.reduceLT, loadA, rdCells, storeA, setAt, binA]
    refine WR_callx _ rfl (hww.mono ?_)
    rintro w2 S2 ⟨rfl, hk2⟩
    have a1 := hk2.2 s.size (by simp only [St.new]; omega)
    have a2 := hk2.2 (s.size + 1) (by simp only [St.new]; omega)
    have a3 := hk2.2 (s.size + 1 + 1) (by simp only [St.new]; omega)
    simp only [go_sem, ↓reduceIte, reduceCtorEq, Nat.reduceEqDiff, Nat.reduceAdd, Nat.reduceSub, Nat.reduceMul, Nat.reduceLeDiff, Nat.reduceLT, loadA, rdCells, storeA, setAt, binA] at a1 a2 a3
    simp only [a1, a2, a3, z1, z2, z3, ia0, ia1, Nat.le_add_left, go_sem, ↓reduceIte, reduceCtorEq, Nat.reduceEqDiff, Nat.reduceAdd, Nat.reduceSub, Nat.reduceMul, Nat.reduceLeDiff, Nat.reduceLT, loadA, rdCells, storeA, setAt, binA]
    refine W_dreg ?_
    simp only [wt_ops, stpT, Tr, a1, a2, a3, ia0, ia1, wt_nil, chk1, avr, Bool.or_true, Nat.le_add_left, go_sem, ↓reduceIte, reduceCtorEq, Nat.reduceEqDiff, Nat.reduceAdd, Nat.reduceSub, Nat.reduceMul, Nat.reduceLeDiff, Nat.reduceLT, loadA, rdCells, storeA, setAt, binA]
    refine ⟨by simp, _, rfl, x0, r0, by rw [tyc_w x0, tyc_w r0]; rfl, hx0, hr0, ?_⟩
    exact (((((hk1.trans hk2).put' (Nat.le_refl _) _).put' (by omega) _).put' (by omega) _))
  | there m v x r t' r' hm h ih =>
    intro b0 hb0 no s hu
    refine WC_fn cf98 (hX 98 (by decide)) T98 (by simp [cf98]) ?_
    obtain ⟨b1, hw, h1, h2, h3, h4, h5⟩ := sub_walk hb0
    have hs4 := h4 (by simp [kof])
    obtain ⟨k1, n1, v1, l1⟩ := b1
    simp only [kof, nof, vof, lof] at h1 h2 h3 hs4
    subst h1 h2 h3
    cases hs4 with
    | cons x0 _ l1 _ hx0 hs1 =>
    cases hs1 with
    | cons r0 _ l2 _ hr0 hs2 =>
    cases hs2
    have hk1 := ((((Keep.refl s).new' (.cells (tyc b0))).new' (.cells [.int .i64 0, .str ⟨#[]⟩, .int .i64 0, .nils])).new' (.cells [.int .i64 0, .str ⟨#[]⟩, .int .i64 0, .nils]))
    have hww := walk_law hX hw _ (hu.keep hk1).rd
    have ihx := fun (S2 : St) (hk2 : Keep s S2) => ih r0 hr0 no S2 (hu.keep hk2)
    rw [tyc_w r0, tyw] at ihx
    rw [tyc, tycs, tycs, tycs, List.append_nil, tyc_w b0, tyc_w x0, tyc_w r0, tyw, tyw, tyw] at hww
    rw [tyc_w b0, tyw] at hk1 ⊢
    have hq : s.size < (((s.new (.cells [.int .i64 (kof b0), .str (nof b0), .int .i64 (vof b0), .sl (tycs (lof b0)) (lof b0).length false none])).new (.cells [.int .i64 0, .str ⟨#[]⟩, .int .i64 0, .nils])).new (.cells [.int .i64 0, .str ⟨#[]⟩, .int .i64 0, .nils])).size := by simp only [St.new]; omega
    have z1 : ((5 : Int) == 0) = false := rfl
    have z2 : ((5 : Int) != 5) = false := rfl
    simp only [cf98, hu.1, ne_a hu.2.2.1, ne_b hu.2.2.1, ne_c hu.2.2.1, ne_d hu.2.2.1, ne_e hu.2.2.1, ne_f hu.2.2.1, Nat.le_add_left, go_sem, ↓reduceIte, reduceCtorEq, Nat.reduceEqDiff, Nat.reduceAdd, Nat.reduceSub, Nat.reduceMul, Nat.reduceLeDiff, Nat.reduceLT, loadA, rdCells, storeA, setAt, binA]
    refine WR_callx _ rfl (hww.mono ?_)
    rintro w2 S2 ⟨rfl, hk2⟩
    have a1 := hk2.2 s.size (by simp only [St.new]; omega)
    have a2 := hk2.2 (s.size + 1) (by simp only [St.new]; omega)
    have a3 := hk2.2 (s.size + 1 + 1) (by simp only [St.new]; omega)
    simp only [go_sem, ↓reduceIte, reduceCtorEq, Nat.reduceEqDiff, Nat.reduceAdd, Nat.reduceSub, Nat.reduceMul, Nat.reduceLeDiff, Nat.reduceLT, loadA, rdCells, storeA, setAt, binA] at a1 a2 a3
    simp only [a1, a2, a3, z1, z2, hm, ia0, ia1, Nat.le_add_left, go_sem, ↓reduceIte, reduceCtorEq, Nat.reduceEqDiff, Nat.reduceAdd, Nat.reduceSub, Nat.reduceMul, Nat.reduceLeDiff, Nat.reduceLT, loadA, rdCells, storeA, setAt, binA]
    refine WO_callx _ rfl ((ihx _ ((hk1.trans hk2).put' (Nat.le_refl _) _)).mono ?_)
    rintro w3 S3 ⟨t3, r3, rfl, ht3, hr3, hk3⟩
    have hz3 := hk3.1
    have hz2 := hk2.1
    simp only [St.new, St.put] at hz3 hz2
    have b1 := hk3.2 s.size (by simp only [St.put]; omega)
    have b2 := hk3.2 (s.size + 1) (by simp only [St.put]; omega)
    have b3 := hk3.2 (s.size + 1 + 1) (by simp only [St.put]; omega)
    simp only [a1, a2, a3, go_sem, ↓reduceIte, reduceCtorEq, Nat.reduceEqDiff, Nat.reduceAdd, Nat.reduceSub, Nat.reduceMul, Nat.reduceLeDiff, Nat.reduceLT, loadA, rdCells, storeA, setAt, binA] at b1 b2 b3
    have hkA : Keep s S3 := ((hk1.trans hk2).put' (Nat.le_refl _) _).trans hk3
    have hq3 : s.size < S3.size := by omega
    rw [tyc_w t3, tyc_w r3, tyw, tyw]
    have o1 : s.size + 1 < S3.size := by omega
    have o2 : s.size + 1 + 1 < S3.size := by omega
    simp only [b1, b2, b3, ia0, ia1, Nat.le_add_left, go_sem, ↓reduceIte, reduceCtorEq, Nat.reduceEqDiff, Nat.reduceAdd, Nat.reduceSub, Nat.reduceMul, Nat.reduceLeDiff, Nat.reduceLT, loadA, rdCells, storeA, setAt, binA]
    refine W_dreg ?_
    simp only [wt_ops, stpT, Tr, b1, b2, b3, ia0, ia1, wt_nil, chk1, avr, ne_a hq3, ne_b hq3, ne_c hq3, ne_d hq3, ne_a o1, ne_b o1, ne_c o1, ne_d o1, ne_a o2, ne_b o2, ne_c o2, ne_d o2, Bool.or_true, Nat.le_add_left, go_sem, ↓reduceIte, reduceCtorEq, Nat.reduceEqDiff, Nat.reduceAdd, Nat.reduceSub, Nat.reduceMul, Nat.reduceLeDiff, Nat.reduceLT, loadA, rdCells, storeA, setAt, binA]
    have hext := fun S => ext_law hX n1 x0 r3 S
    rw [row_c, tyc_w x0, tyc_w r3, tyw, tyw] at hext
    refine WT_callx _ rfl ((hext _).mono ?_)
    rintro w4 S4 ⟨rfl, hk4⟩
    have hz4 := hk4.1
    simp only [St.new, St.put] at hz4
    have c1 := hk4.2 s.size (by simp only [St.put, St.new]; omega)
    have c2 := hk4.2 (s.size + 1) (by simp only [St.put, St.new]; omega)
    have c3 := hk4.2 (s.size + 1 + 1) (by simp only [St.put, St.new]; omega)
    have c4 := hk4.2 S3.size (by simp only [St.put, St.new]; omega)
    simp only [b1, b2, b3, ne_a hq3, ne_b hq3, ne_c hq3, ne_d hq3, ne_a o1, ne_b o1, ne_c o1, ne_d o1, ne_a o2, ne_b o2, ne_c o2, ne_d o2, go_sem, ↓reduceIte, reduceCtorEq, Nat.reduceEqDiff, Nat.reduceAdd, Nat.reduceSub, Nat.reduceMul, Nat.reduceLeDiff, Nat.reduceLT, loadA, rdCells, storeA, setAt, binA] at c1 c2 c3 c4
    simp only [wt_ops, stpT, Tr, b1, b2, b3, c1, c2, c3, c4, ia0, ia1, wt_nil, chk1, avr, ne_a hq3, ne_b hq3, ne_c hq3, ne_d hq3, ne_a o1, ne_b o1, ne_c o1, ne_d o1, ne_a o2, ne_b o2, ne_c o2, ne_d o2, Bool.or_true, Nat.le_add_left, go_sem, ↓reduceIte, reduceCtorEq, Nat.reduceEqDiff, Nat.reduceAdd, Nat.reduceSub, Nat.reduceMul, Nat.reduceLeDiff, Nat.reduceLT, loadA, rdCells, storeA, setAt, binA]
    refine ⟨by simp, _, rfl, t3, .mk 5 n1 0 [x0, r3], by rw [row_c, tyc_w t3, tyw], ht3, .con _ 5 n1 0 [x0, r3] _ (.con _ (by simp [kof])) (by decide) (.cons _ _ _ _ hx0 (.cons _ _ _ _ hr3 .nil)), ?_⟩
    exact ((((((hkA.new' _).new' _).put' (by omega) _).put' (by omega) _).trans hk4).put' (by omega) _).put' (by omega) _
end Go.Am.U1

/- A part of the proof of unifyRows. Conditions: none. -/
namespace Go.Am.U1
open Go.Am.Un
set_option maxRecDepth 100000
set_option linter.unusedSimpArgs false
attribute [local go_sem] wseq COp.isStore wreg wdreg wret wskip wexit wblock wcnd cnd_t cnd_f then_n then_x then_r catch_n rnd_n rnd_x rnd_r catch_x catch_r wo_nil wo_grd grdO_t grdO_f wo_ops stpO wr_nil wr_alloc wr_guards grdR_t grdR_f wr_ops stpR evAllocs evOp env0_app eput_some eput_none eset_app Opd.ev wantedA faddrA snew_obj snew_size sput_obj sput_size av_cells av_one av_strip av_still unA eqbA fillA fldA lensA mmA mm2 mmFold List.getD_cons_zero List.getD_cons_succ List.getD_nil List.length_cons List.length_nil List.drop_zero List.drop_succ_cons List.take_succ_cons List.take_zero List.map_cons List.map_nil List.set_cons_zero List.set_cons_succ List.all_cons List.all_nil List.getElem?_cons_zero List.getElem?_cons_succ List.nil_append List.cons_append Nat.zero_add Nat.add_zero beq_self_eq_true bt bf Bool.not_true Bool.not_false Bool.and_true Bool.true_and Bool.and_false Bool.false_and and_self and_true true_and n0 n1 n2 n3 n4 m0 m1 m2 m3 c1 retA resAs resA undefA Option.map_some Option.map_none
variable {X : Ext}

theorem kof_mk (k : Int) (n : ByteArray) (v : Int) (l : List Tm) : kof (.mk k n v l) = k := rfl
theorem nof_mk (k : Int) (n : ByteArray) (v : Int) (l : List Tm) : nof (.mk k n v l) = n := rfl
theorem vof_mk (k : Int) (n : ByteArray) (v : Int) (l : List Tm) : vof (.mk k n v l) = v := rfl
theorem lof_mk (k : Int) (n : ByteArray) (v : Int) (l : List Tm) : lof (.mk k n v l) = l := rfl

/-- A call of unify that changes nothing. -/
def Uns (X : Ext) (ss : List Tm) (b p : Nat) (A B : Tm) : Prop :=
  ∀ a0 b0, Sub ss a0 A → Sub ss b0 B → ∀ s, US s b p ss → WC T X 69 [.ptr b 0, .agg (tyc a0), .agg (tyc b0)] s (fun v s' => v = .int .i64 0 ∧ Keep s s')

set_option maxHeartbeats 4000000 in
theorem rows_law (hX : NoX X) {ss : List Tm} {b p : Nat} {l : ByteArray} {v : Int} {x r B t rest x0 r0 b0 : Tm} (hB : Extr l B t rest) (hx0 : Sub ss x0 x) (hr0 : Sub ss r0 r) (hb0 : Sub ss b0 B) (hro : RowOk r)
    (h1 : Uns X ss b p x t) (h2 : Uns X ss b p r rest) (s : St) (hu : US s b p ss) : WC T X 87 [.ptr b 0, .agg (tyc (.mk 5 l v [x0, r0])), .agg (tyc b0)] s (fun v s' => v = .int .i64 0 ∧ Keep s s') := by
  refine WC_fn cf87 (hX 87 (by decide)) T87 (by simp [cf87]) ?_
  have htl := fun S => tail_law hX (p := p) (b := b) (RowOk.ext l v x r hro) (.con _ 5 l v [x0, r0] [x, r] (.con _ (by simp [kof])) (by decide) (.cons _ _ _ _ hx0 (.cons _ _ _ _ hr0 .nil))) S
  have hex := fun (S : St) (no : Int) => extr_law hX (p := p) (b := b) hB b0 hb0 no S
  rw [row_c] at htl ⊢
  rw [tyc_w b0, tyw] at hex ⊢
  have hk1 := ((((Keep.refl s).new' (.cells [.int .i64 5, .str l, .int .i64 v, .sl [.int .i64 (kof x0), .str (nof x0), .int .i64 (vof x0), .sl (tycs (lof x0)) (lof x0).length false none, .int .i64 (kof r0), .str (nof r0), .int .i64 (vof r0), .sl (tycs (lof r0)) (lof r0).length false none] 2 false none])).new' (.cells [.int .i64 (kof b0), .str (nof b0), .int .i64 (vof b0), .sl (tycs (lof b0)) (lof b0).length false none])).new' (.cells [.int .i64 0, .str ⟨#[]⟩, .int .i64 0, .nils])).new' (.cells [.int .i64 0, .str ⟨#[]⟩, .int .i64 0, .nils])
  simp only [cf87, go_sem, ↓reduceIte, reduceCtorEq, Nat.reduceEqDiff, Nat.reduceAdd, Nat.reduceSub, Nat.reduceMul, Nat.reduceLeDiff, Nat.reduceLT, loadA, rdCells, storeA, setAt, binA]
  refine W_dreg ?_
  simp only [wt_ops, stpT, Tr, ia0, ia1, wt_nil, chk1, avr, ne_a hu.2.2.1, ne_b hu.2.2.1, ne_c hu.2.2.1, ne_d hu.2.2.1, ne_e hu.2.2.1, ne_f hu.2.2.1, Bool.or_true, Nat.le_add_left, go_sem, ↓reduceIte, reduceCtorEq, Nat.reduceEqDiff, Nat.reduceAdd, Nat.reduceSub, Nat.reduceMul, Nat.reduceLeDiff, Nat.reduceLT, loadA, rdCells, storeA, setAt, binA]
  refine WT_callx _ rfl ((htl _ (hu.keep hk1)).mono ?_)
  rintro w2 S2 ⟨⟨z, rfl⟩, hk2⟩
  have hz2 := hk2.1
  simp only [St.new, St.put] at hz2
  have a1 := hk2.2 s.size (by simp only [St.new]; omega)
  have a2 := hk2.2 (s.size + 1) (by simp only [St.new]; omega)
  have a3 := hk2.2 (s.size + 1 + 1) (by simp only [St.new]; omega)
  have a4 := hk2.2 (s.size + 1 + 1 + 1) (by simp only [St.new]; omega)
  simp only [go_sem, ↓reduceIte, reduceCtorEq, Nat.reduceEqDiff, Nat.reduceAdd, Nat.reduceSub, Nat.reduceMul, Nat.reduceLeDiff, Nat.reduceLT, loadA, rdCells, storeA, setAt, binA] at a1 a2 a3 a4
  refine WT_callx _ rfl ((hex _ z (hu.keep (hk1.trans hk2))).mono ?_)
  rintro w3 S3 ⟨t3, r3, rfl, ht3, hr3, hk3⟩
  have hz3 := hk3.1
  have b1 := (hk3.2 s.size (by omega)).trans a1
  have b2 := (hk3.2 (s.size + 1) (by omega)).trans a2
  have b3 := (hk3.2 (s.size + 1 + 1) (by omega)).trans a3
  have b4 := (hk3.2 (s.size + 1 + 1 + 1) (by omega)).trans a4
  rw [tyc_w t3, tyc_w r3, tyw, tyw]
  simp only [wt_ops, stpT, Tr, a1, a2, b1, b2, b3, b4, ia0, ia1, wt_alloc, wt_nil, chk1, avr, ne_a hu.2.2.1, ne_b hu.2.2.1, ne_c hu.2.2.1, ne_d hu.2.2.1, ne_e hu.2.2.1, ne_f hu.2.2.1, Bool.or_true, Nat.le_add_left, go_sem, ↓reduceIte, reduceCtorEq, Nat.reduceEqDiff, Nat.reduceAdd, Nat.reduceSub, Nat.reduceMul, Nat.reduceLeDiff, Nat.reduceLT, loadA, rdCells, storeA, setAt, binA]
  have d0 : ((0 : Int) != 0) = false := rfl
  simp only [d0, b1, b2, b3, b4, ia0, ia1, Nat.le_add_left, go_sem, ↓reduceIte, reduceCtorEq, Nat.reduceEqDiff, Nat.reduceAdd, Nat.reduceSub, Nat.reduceMul, Nat.reduceLeDiff, Nat.reduceLT, loadA, rdCells, storeA, setAt, binA]
  have hkA : Keep s ((S3.put (s.size + 1 + 1) (some (.cells [.int .i64 (kof t3), .str (nof t3), .int .i64 (vof t3), .sl (tycs (lof t3)) (lof t3).length false none]))).put (s.size + 1 + 1 + 1) (some (.cells [.int .i64 (kof r3), .str (nof r3), .int .i64 (vof r3), .sl (tycs (lof r3)) (lof r3).length false none]))) := (((hk1.trans hk2).trans hk3).put' (by omega) _).put' (by omega) _
  have hc1 := h1 x0 t3 hx0 ht3 _ (hu.keep hkA)
  rw [tyc_w x0, tyc_w t3, tyw, tyw] at hc1
  refine WR_callx _ rfl (hc1.mono ?_)
  rintro w4 S4 ⟨rfl, hk4⟩
  have hz4 := hk4.1
  simp only [St.put] at hz4
  have c1 := hk4.2 s.size (by simp only [St.put]; omega)
  have c2 := hk4.2 (s.size + 1) (by simp only [St.put]; omega)
  have c4 := hk4.2 (s.size + 1 + 1 + 1) (by simp only [St.put]; omega)
  simp only [b1, b2, b4, go_sem, ↓reduceIte, reduceCtorEq, Nat.reduceEqDiff, Nat.reduceAdd, Nat.reduceSub, Nat.reduceMul, Nat.reduceLeDiff, Nat.reduceLT, loadA, rdCells, storeA, setAt, binA] at c1 c2 c4
  simp only [d0, c1, c2, c4, ia0, ia1, Nat.le_add_left, go_sem, ↓reduceIte, reduceCtorEq, Nat.reduceEqDiff, Nat.reduceAdd, Nat.reduceSub, Nat.reduceMul, Nat.reduceLeDiff, Nat.reduceLT, loadA, rdCells, storeA, setAt, binA]
  have hc2 := h2 r0 r3 hr0 hr3 _ (hu.keep (hkA.trans hk4))
  rw [tyc_w r0, tyc_w r3, tyw, tyw] at hc2
  refine WR_callx _ rfl (hc2.mono ?_)
  rintro w5 S5 ⟨rfl, hk5⟩
  simp only [go_sem, ↓reduceIte, reduceCtorEq, Nat.reduceEqDiff, Nat.reduceAdd, Nat.reduceSub, Nat.reduceMul, Nat.reduceLeDiff, Nat.reduceLT, loadA, rdCells, storeA, setAt, binA]
  exact ⟨by simp, _, rfl, rfl, (hkA.trans hk4).trans hk5⟩

end Go.Am.U1

/- The stable sort: two sorted rows merged in place. Conditions: none. -/
namespace Go.Am
open Go.So (Ord Srt ins isort)
set_option maxRecDepth 100000
set_option linter.unusedSimpArgs false
attribute [local go_sem] wseq COp.isStore wreg wdreg wret wskip wexit wblock wcnd cnd_t cnd_f then_n then_x then_r catch_n rnd_n rnd_x rnd_r catch_x catch_r wo_nil wo_grd grdO_t grdO_f wo_ops stpO wr_nil wr_alloc wr_guards grdR_t grdR_f wr_ops stpR evAllocs evOp env0_app eput_some eput_none eset_app Opd.ev wantedA faddrA snew_obj snew_size sput_obj sput_size av_cells av_one av_strip av_still unA eqbA fillA fldA lensA mmA mm2 mmFold List.getD_cons_zero List.getD_cons_succ List.getD_nil List.length_cons List.length_nil List.drop_zero List.drop_succ_cons List.take_succ_cons List.take_zero List.map_cons List.map_nil List.set_cons_zero List.set_cons_succ List.all_cons List.all_nil List.getElem?_cons_zero List.getElem?_cons_succ List.nil_append List.cons_append Nat.zero_add Nat.add_zero beq_self_eq_true bt bf Bool.not_true Bool.not_false Bool.and_true Bool.true_and Bool.and_false Bool.false_and and_self and_true true_and n0 n1 n2 n3 n4 m0 m1 m2 m3 c1 retA resAs resA undefA Option.map_some Option.map_none

theorem half {i j : Nat} (h : i + j ≤ 17592186044416) : IntKind.i64.wrap ((i : Int) + (j : Int)) = ((i + j : Nat) : Int) ∧ IntKind.u64.wrap ((i + j : Nat) : Int) = ((i + j : Nat) : Int) ∧
    shfA .shr (.int .u64 ((i + j : Nat) : Int)) (.int .u64 1) = some (.int .u64 (((i + j) / 2 : Nat) : Int)) ∧ IntKind.i64.wrap (((i + j) / 2 : Nat) : Int) = (((i + j) / 2 : Nat) : Int) := by
  refine ⟨by rw [IntKind.wrap_i64]; omega, IntWalk.u64_in _ (by omega), ?_, by rw [IntKind.wrap_i64]; omega⟩
  have e : (min (1 : Int).toNat IntKind.u64.bits) = 1 := rfl
  simp only [shfA]
  rw [if_pos (by omega), e, Int.fdiv_eq_ediv_of_nonneg _ (by omega)]
  congr 1

section
variable {α : Type} {f : α → List AV} {T : Nat → Option CF} {X : Ext} {nI nM nR nS : Nat}

theorem srt_get {lt : α → α → Bool} (O : Ord lt) {V : List α} (h : Srt lt V) {s t : Nat} {u v : α} (hs : V[s]? = some u) (ht : V[t]? = some v) (hst : s ≤ t) : lt v u = false := by
  rcases Nat.lt_or_ge s t with hlt | hge
  · obtain ⟨h1, rfl⟩ := List.getElem?_eq_some_iff.1 hs
    obtain ⟨h2, rfl⟩ := List.getElem?_eq_some_iff.1 ht
    exact List.pairwise_iff_getElem.1 h s t h1 h2 hlt
  · have : s = t := by omega
    subst this
    rw [hs] at ht
    cases ht
    exact O.irr u
theorem ins_mid {lt : α → α → Bool} (x : α) : ∀ (V1 V2 : List α), (∀ v, v ∈ V1 → lt v x = true) → (∀ v, v ∈ V2 → lt v x = false) → ins lt x (V1 ++ V2) = V1 ++ x :: V2
  | [], V2, _, h2 => Go.So.ins_front h2
  | v :: V1, V2, h1, h2 => by
    show ins lt x (v :: (V1 ++ V2)) = _
    rw [ins, if_pos (h1 v (by simp)), ins_mid x V1 V2 (fun u hu => h1 u (by simp [hu])) h2]; rfl
theorem mem_take {V : List α} {c : Nat} {v : α} (h : v ∈ V.take c) : ∃ t, t < c ∧ V[t]? = some v := by
  obtain ⟨t, ht⟩ := List.mem_iff_getElem?.1 h
  rw [List.getElem?_take] at ht
  split at ht
  · exact ⟨t, by assumption, ht⟩
  · cases ht
theorem mem_drop {V : List α} {c : Nat} {v : α} (h : v ∈ V.drop c) : ∃ t, c ≤ t ∧ V[t]? = some v := by
  obtain ⟨t, ht⟩ := List.mem_iff_getElem?.1 h
  rw [List.getElem?_drop] at ht
  exact ⟨c + t, by omega, ht⟩

/-- What has been merged. -/
def Mrg (T : Nat → Option CF) (X : Ext) (f : α → List AV) (lt : α → α → Bool) (nM g : Nat) (cap : List AV) (Xs U V Y : List α) (p : Nat) (S : St) : Prop :=
  WC T X nM [.msl p 0 (Xs ++ U ++ V ++ Y).length 4, .int .i64 (Xs.length : Nat), .int .i64 (Xs.length + U.length : Nat), .int .i64 (Xs.length + U.length + V.length : Nat), .func g cap] S (fun _ S' => S'.obj p = some (.cells ((Xs ++ isort lt (U ++ V) ++ Y).flatMap f)) ∧ KeepBut p S S')

set_option maxHeartbeats 1000000 in
/-- One ahead of a sorted row. -/
theorem sym_one (hT : SortT T X nI nM nR nS) (hP : Plain f 4) {lt : α → α → Bool} (O : Ord lt) {g : Nat} {cap : List AV} (hc : Cmps T X f g cap lt) (Xs V Y : List α) (x : α) (hV : Srt lt V) (hV0 : 0 < V.length) (hb : (Xs ++ [x] ++ V ++ Y).length ≤ 4398046511104) {p : Nat} {S : St} (hp : p < S.size) (ho : S.obj p = some (.cells ((Xs ++ [x] ++ V ++ Y).flatMap f))) :
    Mrg T X f lt nM g cap Xs [x] V Y p S := by
  refine WC_fn (sSym nM nR) hT.xM hT.tM (by simp [sSym]) ?_
  obtain ⟨n, hn⟩ : ∃ n, n = (Xs ++ [x] ++ V ++ Y).length := ⟨_, rfl⟩
  obtain ⟨a, ha⟩ : ∃ a, a = Xs.length := ⟨_, rfl⟩
  obtain ⟨m, hm⟩ : ∃ m, m = Xs.length + [x].length := ⟨_, rfl⟩
  obtain ⟨b, hbb⟩ : ∃ b, b = Xs.length + [x].length + V.length := ⟨_, rfl⟩
  rw [← hbb, ← hm, ← ha, ← hn]
  have hma : m = a + 1 := by simp at hm; omega
  have hbm : b = m + V.length := by simp at hm hbb; omega
  have hnl : n = a + 1 + V.length + Y.length := by rw [hn]; simp; omega
  have hbn : n ≤ 4398046511104 := by rw [hn]; exact hb
  have w1 : IntKind.i64.wrap ((m : Int) - (a : Int)) = 1 := by rw [IntKind.wrap_i64]; omega
  have h11 : ((1 : Int) == 1) = true := rfl
  simp only [sSym, w1, h11, go_sem, ↓reduceIte, reduceCtorEq, Nat.reduceEqDiff, Nat.reduceAdd, Nat.reduceSub, Nat.reduceMul, Nat.reduceLeDiff, Nat.reduceLT, loadA, rdCells, storeA, setAt, binA]
  refine W_loop_nat (fun k e s => ∃ i j : Nat, k = j - i ∧ m ≤ i ∧ i ≤ j ∧ j ≤ b ∧ (∀ t v, V[t]? = some v → m + t < i → lt v x = true) ∧ (∀ t v, V[t]? = some v → j ≤ m + t → lt v x = false) ∧ e 0 = .msl p 0 n 4 ∧ e 1 = .int .i64 a ∧ e 4 = .func g cap ∧ e 10 = .int .i64 i ∧ e 11 = .int .i64 j ∧
    s.obj p = some (.cells ((Xs ++ [x] ++ V ++ Y).flatMap f)) ∧ KeepBut p S s) ?_ V.length _ _
    ⟨m, b, by omega, by omega, by omega, by omega, fun t v _ h => by omega, fun t v h1 h2 => by have := (List.getElem?_eq_some_iff.1 h1).1; omega, by simp only [go_sem, ↓reduceIte, reduceCtorEq, Nat.reduceEqDiff, Nat.reduceAdd, Nat.reduceSub, Nat.reduceMul, Nat.reduceLeDiff, Nat.reduceLT, loadA, rdCells, storeA, setAt, binA], by simp only [go_sem, ↓reduceIte, reduceCtorEq, Nat.reduceEqDiff, Nat.reduceAdd, Nat.reduceSub, Nat.reduceMul, Nat.reduceLeDiff, Nat.reduceLT, loadA, rdCells, storeA, setAt, binA], by simp only [go_sem, ↓reduceIte, reduceCtorEq, Nat.reduceEqDiff, Nat.reduceAdd, Nat.reduceSub, Nat.reduceMul, Nat.reduceLeDiff, Nat.reduceLT, loadA, rdCells, storeA, setAt, binA], by simp only [go_sem, ↓reduceIte, reduceCtorEq, Nat.reduceEqDiff, Nat.reduceAdd, Nat.reduceSub, Nat.reduceMul, Nat.reduceLeDiff, Nat.reduceLT, loadA, rdCells, storeA, setAt, binA], by simp only [go_sem, ↓reduceIte, reduceCtorEq, Nat.reduceEqDiff, Nat.reduceAdd, Nat.reduceSub, Nat.reduceMul, Nat.reduceLeDiff, Nat.reduceLT, loadA, rdCells, storeA, setAt, binA], ho, KeepBut.refl _ _⟩
  rintro k e s ⟨i, j, rfl, hmi, hij, hjb, hlo, hhi, e0, e1, e4, e10, e11, hs, hk⟩
  by_cases hlt : i < j
  · have hd : decide ((i : Int) < (j : Int)) = true := by simp; omega
    obtain ⟨q1, q2, q3, q4⟩ := half (i := i) (j := j) (by omega)
    obtain ⟨c, hcd⟩ : ∃ c, c = (i + j) / 2 := ⟨_, rfl⟩
    have hci : i ≤ c ∧ c < j := by omega
    rw [← hcd] at q3 q4
    obtain ⟨v, hv⟩ : ∃ v, V[c - m]? = some v := ⟨_, List.getElem?_eq_getElem (by omega)⟩
    have a1 := maddr (p := p) (n := n) (i := c) (by omega)
    have a2 := maddr (p := p) (n := n) (i := a) (by omega)
    have g1 := mload hP hs (i := c) (x := v) (by rw [List.append_assoc, List.getElem?_append_right (by simp; omega), List.getElem?_append_left (by simp; omega)]; rw [← hv]; congr 1; simp; omega)
    have g2 := mload hP hs (i := a) (x := x) (by have : Xs ++ [x] ++ V ++ Y = Xs ++ x :: (V ++ Y) := by simp
                                                 rw [this]; exact get_mid _ _ x ha)
    simp only [sSym_l4, e0, e1, e4, e10, e11, hd, q1, q2, q3, q4, a1, a2, g1, g2, go_sem, ↓reduceIte, reduceCtorEq, Nat.reduceEqDiff, Nat.reduceAdd, Nat.reduceSub, Nat.reduceMul, Nat.reduceLeDiff, Nat.reduceLT, binA]
    refine WR_callv g cap ([.agg (f v), .agg (f x)] ++ cap) (by simp only [e4, go_sem, ↓reduceIte, reduceCtorEq, Nat.reduceEqDiff, Nat.reduceAdd, Nat.reduceSub, Nat.reduceMul, Nat.reduceLeDiff, Nat.reduceLT, loadA, rdCells, storeA, setAt, binA]) (by simp only [go_sem, ↓reduceIte, reduceCtorEq, Nat.reduceEqDiff, Nat.reduceAdd, Nat.reduceSub, Nat.reduceMul, Nat.reduceLeDiff, Nat.reduceLT, loadA, rdCells, storeA, setAt, binA]) ((hc v x s).mono ?_)
    rintro u s1 ⟨z, rfl, hz, hk1⟩
    have hs1 : s1.obj p = some (.cells ((Xs ++ [x] ++ V ++ Y).flatMap f)) := (hk1.2 p (Nat.lt_of_lt_of_le hp hk.1)).trans hs
    cases hvx : lt v x with
    | true =>
      rw [hvx] at hz
      have w2 : IntKind.i64.wrap ((c : Int) + 1) = ((c + 1 : Nat) : Int) := by rw [IntKind.wrap_i64]; omega
      simp only [e0, e1, e4, e10, e11, hz, w2, go_sem, ↓reduceIte, reduceCtorEq, Nat.reduceEqDiff, Nat.reduceAdd, Nat.reduceSub, Nat.reduceMul, Nat.reduceLeDiff, Nat.reduceLT, loadA, rdCells, storeA, setAt, binA]
      refine ⟨j - (c + 1), by omega, c + 1, j, rfl, by omega, by omega, by omega, fun t w hw htc => ?_, hhi, rfl, rfl, hs1, hk.trans hk1.but⟩
      exact O.strict' (srt_get O hV hw hv (by omega)) hvx
    | false =>
      rw [hvx] at hz
      simp only [e0, e1, e4, e10, e11, hz, go_sem, ↓reduceIte, reduceCtorEq, Nat.reduceEqDiff, Nat.reduceAdd, Nat.reduceSub, Nat.reduceMul, Nat.reduceLeDiff, Nat.reduceLT, loadA, rdCells, storeA, setAt, binA]
      refine ⟨c - i, by omega, i, c, rfl, by omega, by omega, by omega, hlo, fun t w hw htc => ?_, rfl, rfl, hs1, hk.trans hk1.but⟩
      exact O.trans x v w hvx (srt_get O hV hv hw (by omega))
  · have hd : decide ((i : Int) < (j : Int)) = false := by simp; omega
    obtain rfl : i = j := by omega
    simp only [sSym_l4, e0, e1, e4, e10, e11, hd, go_sem, ↓reduceIte, reduceCtorEq, Nat.reduceEqDiff, Nat.reduceAdd, Nat.reduceSub, Nat.reduceMul, Nat.reduceLeDiff, Nat.reduceLT, loadA, rdCells, storeA, setAt, binA]
    have hfin : Xs ++ isort lt (x :: V) ++ Y = Xs ++ (V.take (i - m) ++ x :: V.drop (i - m)) ++ Y := by
      have h1 : isort lt (x :: V) = ins lt x V := by show ins lt x (isort lt V) = _; rw [Go.So.isort_of hV]
      rw [h1]
      conv => lhs; rw [← List.take_append_drop (i - m) V]
      rw [ins_mid x]
      · intro v hv; obtain ⟨t, ht, hg⟩ := mem_take hv; exact hlo t v hg (by omega)
      · intro v hv; obtain ⟨t, ht, hg⟩ := mem_drop hv; exact hhi t v hg (by omega)
    have w3 : IntKind.i64.wrap ((i : Int) - 1) = ((i - 1 : Nat) : Int) := by rw [IntKind.wrap_i64]; omega
    refine W_loop_nat (fun k e s => ∃ c : Nat, c + k = i - m ∧ e 0 = .msl p 0 n 4 ∧ e 10 = .int .i64 i ∧ e 13 = .int .i64 (a + c : Nat) ∧ s.obj p = some (.cells ((Xs ++ (V.take c ++ x :: V.drop c) ++ Y).flatMap f)) ∧ KeepBut p S s) ?_ (i - m) _ _
      ⟨0, by omega, by simp only [e0, go_sem, ↓reduceIte, reduceCtorEq, Nat.reduceEqDiff, Nat.reduceAdd, Nat.reduceSub, Nat.reduceMul, Nat.reduceLeDiff, Nat.reduceLT, loadA, rdCells, storeA, setAt, binA], by simp only [e10, go_sem, ↓reduceIte, reduceCtorEq, Nat.reduceEqDiff, Nat.reduceAdd, Nat.reduceSub, Nat.reduceMul, Nat.reduceLeDiff, Nat.reduceLT, loadA, rdCells, storeA, setAt, binA], by simp only [go_sem, ↓reduceIte, reduceCtorEq, Nat.reduceEqDiff, Nat.reduceAdd, Nat.reduceSub, Nat.reduceMul, Nat.reduceLeDiff, Nat.reduceLT, loadA, rdCells, storeA, setAt, binA], by rw [hs]; simp, hk⟩
    rintro k e' s' ⟨c, hck, f0, f10, f13, hs', hk'⟩
    by_cases hcm : c < i - m
    · have hd2 : decide (((a + c : Nat) : Int) < ((i - 1 : Nat) : Int)) = true := by simp; omega
      obtain ⟨v, hv⟩ : ∃ v, V[c]? = some v := ⟨_, List.getElem?_eq_getElem (by omega)⟩
      have dv : V.drop c = v :: V.drop (c + 1) := by rw [List.drop_eq_getElem_cons (by omega)]; congr 1; rw [List.getElem?_eq_getElem (by omega)] at hv; exact Option.some.inj hv
      have tv : V.take (c + 1) = V.take c ++ [v] := by rw [List.take_add_one, hv]; rfl
      have htl : (V.take c).length = c := by simp; omega
      have w4 : IntKind.i64.wrap (((a + c : Nat) : Int) + 1) = ((a + (c + 1) : Nat) : Int) := by rw [IntKind.wrap_i64]; omega
      have a1 := maddr (p := p) (n := n) (i := a + c) (by omega)
      have a2 := maddr (p := p) (n := n) (i := a + (c + 1)) (by omega)
      have r1 : Xs ++ (V.take c ++ x :: V.drop c) ++ Y = (Xs ++ V.take c) ++ x :: v :: (V.drop (c + 1) ++ Y) := by rw [dv]; simp
      have r2 : Xs ++ (V.take c ++ x :: V.drop c) ++ Y = (Xs ++ V.take c ++ [x]) ++ v :: (V.drop (c + 1) ++ Y) := by rw [dv]; simp
      have g1 := mload hP hs' (by rw [r1]; exact get_mid _ _ x (n := a + c) (by simp [htl]; omega))
      have g2 := mload hP hs' (by rw [r2]; exact get_mid _ _ v (n := a + (c + 1)) (by simp [htl]; omega))
      have s2 := mstore hP hs' (i := a + c) (by rw [r1]; simp; omega) v
      rw [r1, set_mid _ _ x v (n := a + c) (by simp [htl]; omega)] at s2
      have o2 : (s'.put p (some (.cells ((Xs ++ V.take c ++ v :: v :: (V.drop (c + 1) ++ Y)).flatMap f)))).obj p = some (.cells ((Xs ++ V.take c ++ v :: v :: (V.drop (c + 1) ++ Y)).flatMap f)) := put_eq
      have s3 := mstore hP o2 (i := a + (c + 1)) (by simp; omega) x
      have r3 : (Xs ++ V.take c ++ v :: v :: (V.drop (c + 1) ++ Y)).set (a + (c + 1)) x = Xs ++ (V.take (c + 1) ++ x :: V.drop (c + 1)) ++ Y := by
        have : Xs ++ V.take c ++ v :: v :: (V.drop (c + 1) ++ Y) = (Xs ++ V.take c ++ [v]) ++ v :: (V.drop (c + 1) ++ Y) := by simp
        rw [this, set_mid _ _ v x (by simp [htl]; omega), tv]; simp
      rw [r3] at s3
      simp only [sSym_l3, f0, f10, f13, w3, w4, hd2, a1, a2, g1, g2, s2, s3, go_sem, ↓reduceIte, reduceCtorEq, Nat.reduceEqDiff, Nat.reduceAdd, Nat.reduceSub, Nat.reduceMul, Nat.reduceLeDiff, Nat.reduceLT, binA]
      exact ⟨k - 1, by omega, c + 1, by omega, rfl, rfl, (hk'.put _).put _⟩
    · have hd2 : decide (((a + c : Nat) : Int) < ((i - 1 : Nat) : Int)) = false := by simp; omega
      simp only [sSym_l3, f0, f10, f13, w3, hd2, go_sem, ↓reduceIte, reduceCtorEq, Nat.reduceEqDiff, Nat.reduceAdd, Nat.reduceSub, Nat.reduceMul, Nat.reduceLeDiff, Nat.reduceLT, loadA, rdCells, storeA, setAt, binA]
      refine ⟨by simp, _, rfl, ?_, hk'⟩
      rw [hfin, hs', show c = i - m by omega]
end
end Go.Am
