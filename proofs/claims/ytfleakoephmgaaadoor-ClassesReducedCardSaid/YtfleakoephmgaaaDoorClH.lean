/- super: a class reached from another one. Conditions: none. -/
import Derived.Test.YtfleakoephmgaaaDoorClG
set_option linter.unusedSimpArgs false
set_option linter.unusedVariables false
namespace Go.Am.U3
open Go.Am.Un Go.So
open Go.Am.U1 (NoX drop_at ne_a ne_b ne_c ne_d avr tyw tyc_w tycP isl_tycs len_tszs tsz_pos)
set_option maxRecDepth 100000
set_option linter.unusedSimpArgs false
attribute [local go_sem] wseq COp.isStore wreg wdreg wret wskip wexit wblock wcnd cnd_t cnd_f then_n then_x then_r catch_n rnd_n rnd_x rnd_r catch_x catch_r wo_nil wo_grd grdO_t grdO_f wo_ops stpO wr_nil wr_alloc wr_guards grdR_t grdR_f wr_ops stpR evAllocs evOp env0_app eput_some eput_none eset_app Opd.ev wantedA faddrA snew_obj snew_size sput_obj sput_size av_cells av_one av_strip av_still unA eqbA fillA fldA lensA mmA mm2 mmFold List.getD_cons_zero List.getD_cons_succ List.getD_nil List.length_cons List.length_nil List.drop_zero List.drop_succ_cons List.take_succ_cons List.take_zero List.map_cons List.map_nil List.set_cons_zero List.set_cons_succ List.all_cons List.all_nil List.getElem?_cons_zero List.getElem?_cons_succ List.nil_append List.cons_append Nat.zero_add Nat.add_zero beq_self_eq_true bt bf Bool.not_true Bool.not_false Bool.and_true Bool.true_and Bool.and_false Bool.false_and and_self and_true true_and n0 n1 n2 n3 n4 m0 m1 m2 m3 c1 retA resAs resA undefA Option.map_some Option.map_none
variable {X : Ext}

/-- A proof. -/
inductive Pf where
  | mk (k n : Int) (subs : List Pf)
def noPf : Pf := .mk 0 0 []
mutual
def pfc : Pf → List AV
  | .mk k n l => [.int .i64 k, .int .i64 n, .sl (pfcs l) l.length false none]
def pfcs : List Pf → List AV
  | [] => []
  | p :: r => pfc p ++ pfcs r
end
theorem pfcs_flat : ∀ l : List Pf, pfcs l = l.flatMap pfc
  | [] => by rw [pfcs]; rfl
  | p :: r => by rw [pfcs, pfcs_flat r]; rfl
theorem pfcP : Plain pfc 3 := ⟨fun p => by cases p; rw [pfc]; rfl, fun p => by cases p; rw [pfc]; rfl, fun p => by cases p; rw [pfc]; rfl, fun p => by cases p; rw [pfc]; rfl⟩
def kofP : Pf → Int | .mk k _ _ => k
def nofP : Pf → Int | .mk _ n _ => n
def subP : Pf → List Pf | .mk _ _ l => l
theorem pfc_w (p : Pf) : pfc p = [.int .i64 (kofP p), .int .i64 (nofP p), .sl (pfcs (subP p)) (subP p).length false none] := by cases p; rw [pfc]; rfl

inductive SuJ where
  | one (have' : ByteArray) (pf : Pf)
  | all (ss : List ByteArray) (i : Nat) (pf : Pf)
/-- A run of super: what was seen ahead, the work, whether it is found, the proof, what was seen then. -/
inductive Su (l : List Cl) (want : ByteArray) : List ByteArray → SuJ → Bool → Pf → List ByteArray → Prop
  | hit (seen : List ByteArray) (h : ByteArray) (pf : Pf) (he : sq h want = true) : Su l want seen (.one h pf) true pf seen
  | old (seen : List ByteArray) (h : ByteArray) (pf : Pf) (hb : seen.length ≤ 100000) (he : sq h want = false) (hs : hasS seen h = true) : Su l want seen (.one h pf) false noPf seen
  | go (seen seen' : List ByteArray) (h : ByteArray) (pf p : Pf) (b : Bool) (hb : seen.length ≤ 100000) (he : sq h want = false) (hs : hasS seen h = false) (hr : Su l want (seen ++ [h]) (.all (fnd l h).sup 0 pf) b p seen') : Su l want seen (.one h pf) b p seen'
  | nil (seen : List ByteArray) (i : Nat) (pf : Pf) : Su l want seen (.all [] i pf) false noPf seen
  | yes (seen s1 : List ByteArray) (s : ByteArray) (r : List ByteArray) (i : Nat) (pf p : Pf) (h : Su l want seen (.one s (.mk 1 i [pf])) true p s1) : Su l want seen (.all (s :: r) i pf) true p s1
  | next (seen s1 s2 : List ByteArray) (s : ByteArray) (r : List ByteArray) (i : Nat) (pf p q : Pf) (b : Bool) (h : Su l want seen (.one s (.mk 1 i [pf])) false p s1) (hr : Su l want s1 (.all r (i + 1) pf) b q s2) : Su l want seen (.all (s :: r) i pf) b q s2

/-- The list of seen names. -/
def SnA (o : Nat) (seen : List ByteArray) (ov : AV) (tok : Option Nat) (s : St) : Prop := s.obj o = some (.cells [ov]) ∧ Grw scc 0 s ov seen tok ∧ o < s.size
def SnP (o : Nat) (seen' : List ByteArray) (tok : Option Nat) (s s' : St) : Prop :=
  ∃ ov' tok', s'.obj o = some (.cells [ov']) ∧ Grw scc 0 s' ov' seen' tok' ∧ (tok' = tok ∨ ∃ k, tok' = some k ∧ s.size ≤ k) ∧ KeepR o o tok s s'
theorem SnA.ntok {o : Nat} {seen : List ByteArray} {ov : AV} {tok : Option Nat} {s : St} (h : SnA o seen ov tok s) {j : Nat} {cs : List AV} (hj : s.obj j = some (.cells cs)) : some j ≠ tok := fun ht => by
  rcases h.2.1 with ⟨-, -, h⟩ | ⟨k2, h, -, -, h4, -, -⟩
  · rw [h] at ht; cases ht
  · rw [h] at ht; cases ht; rw [hj] at h4; cases h4
theorem grw_keepS {s s' : St} {v : AV} {l : List ByteArray} {tok : Option Nat} (h : Grw scc 0 s v l tok) (hs : s.size ≤ s'.size) (hk : ∀ j, j < s.size → some j = tok → s'.obj j = s.obj j) : Grw scc 0 s' v l tok :=
  h.keep hs (fun q hq => by
    rcases h with ⟨-, -, h⟩ | ⟨k2, h, -, -, -, h5, -⟩
    · rw [h] at hq; cases hq
    · rw [h] at hq; cases hq; exact hk _ h5 h.symm)
theorem SnA.keep {o : Nat} {seen : List ByteArray} {ov : AV} {tok : Option Nat} {s s' : St} (h : SnA o seen ov tok s) (hk : Keep s s') : SnA o seen ov tok s' :=
  ⟨hk.obj h.2.2 h.1, grw_keepS h.2.1 hk.1 fun j hj _ => hk.2 j hj, hk.lt h.2.2⟩
theorem SnP.from {o : Nat} {seen' : List ByteArray} {tok : Option Nat} {s0 s s' : St} (h : SnP o seen' tok s s') (hk : Keep s0 s) : SnP o seen' tok s0 s' := by
  obtain ⟨ov', tok', h1, h2, h4, h5⟩ := h
  refine ⟨ov', tok', h1, h2, ?_, Nat.le_trans hk.1 h5.1, fun j hj a b c => (h5.2 j (Nat.lt_of_lt_of_le hj hk.1) a b c).trans (hk.2 j hj)⟩
  rcases h4 with h4 | ⟨k, h4, h6⟩
  · exact Or.inl h4
  · exact Or.inr ⟨k, h4, Nat.le_trans hk.1 h6⟩
theorem SnP.to {o : Nat} {seen' : List ByteArray} {tok : Option Nat} {s s' s2 : St} (h : SnP o seen' tok s s') (hk : Keep s' s2) (ho : o < s'.size) : SnP o seen' tok s s2 := by
  obtain ⟨ov', tok', h1, h2, h4, h5⟩ := h
  exact ⟨ov', tok', hk.obj ho h1, grw_keepS h2 hk.1 fun j hj _ => hk.2 j hj, h4, Nat.le_trans h5.1 hk.1, fun j hj a b c => (hk.2 j (Nat.lt_of_lt_of_le hj h5.1)).trans (h5.2 j hj a b c)⟩
theorem SnP.trans {o : Nat} {s1 s2 : List ByteArray} {tok : Option Nat} {S S1 S2 : St} (h : SnP o s1 tok S S1) (k : ∀ ov1 tok1, SnA o s1 ov1 tok1 S1 → SnP o s2 tok1 S1 S2) (ho : o < S.size) : SnP o s2 tok S S2 := by
  obtain ⟨ov1, tok1, h1, h2, h4, h5⟩ := h
  obtain ⟨ov2, tok2, k1, k2, k4, k5⟩ := k ov1 tok1 ⟨h1, h2, Nat.lt_of_lt_of_le ho h5.1⟩
  refine ⟨ov2, tok2, k1, k2, ?_, Nat.le_trans h5.1 k5.1, fun j hj a b c => ?_⟩
  · rcases k4 with rfl | ⟨q, rfl, hq⟩
    · exact h4
    · exact Or.inr ⟨q, rfl, Nat.le_trans h5.1 hq⟩
  · rw [k5.2 j (Nat.lt_of_lt_of_le hj h5.1) a b (fun ht => by
      rcases h4 with rfl | ⟨q, rfl, hq⟩
      · exact c ht
      · cases ht; omega)]
    exact h5.2 j hj a b c

/-- What the machine does at it. -/
def SuC (X : Ext) (l : List Cl) (want : ByteArray) (lv : AV) (o : Nat) (seen : List ByteArray) (b : Bool) (p : Pf) (seen' : List ByteArray) : SuJ → Prop
  | .one h pf => ∀ w ov tok s, AV.strip w = .sl (pfcs (subP pf)) (subP pf).length false none → SnA o seen ov tok s → WC T X 82 [lv, .str h, .str want, .agg [.int .i64 (kofP pf), .int .i64 (nofP pf), w], .ptr o 0] s (fun r s' => r = .tup [.agg (pfc p), .bool b] ∧ SnP o seen' tok s s')
  | .all ss i pf => ∀ (full : List ByteArray) (nv ov : AV) (tok : Option Nat) (S : St) (en : Env) (a r : Nat) (w : AV), AV.strip w = .sl (pfcs (subP pf)) (subP pf).length false none → ISl scc nv full → full.length ≤ 8796093022208 → i ≤ full.length → full.drop i = ss → en 0 = lv → en 2 = .str want → en 4 = .ptr o 0 → en 8 = .ptr a 0 → en 10 = .ptr r 0 → en 43 = nv → en 44 = .int .i64 full.length → en 45 = .int .i64 i →
      S.obj a = some (.cells [.int .i64 (kofP pf), .int .i64 (nofP pf), w]) → a < S.size → (∃ c0 c1 c2, S.obj r = some (.cells [c0, c1, c2])) → r < S.size → a ≠ o → r ≠ o → a ≠ r → SnA o seen ov tok S →
      W T X (.loop cf82_l0) en S (fun x e' S' => ((x = .exit 0 ∧ b = false ∧ e' 10 = .ptr r 0 ∧ ∃ c0 c1 c2, S'.obj r = some (.cells [c0, c1, c2])) ∨ (x = .ret ∧ b = true ∧ e' 11 = .bool true ∧ e' 10 = .ptr r 0 ∧ S'.obj r = some (.cells (pfc p)))) ∧
        ∃ ov' tok', S'.obj o = some (.cells [ov']) ∧ Grw scc 0 S' ov' seen' tok' ∧ (tok' = tok ∨ ∃ k, tok' = some k ∧ S.size ≤ k) ∧ S.size ≤ S'.size ∧ ∀ j, j < S.size → j ≠ o → j ≠ r → some j ≠ tok → S'.obj j = S.obj j)
theorem su_f {l : List Cl} {want : ByteArray} {seen seen' : List ByteArray} {j : SuJ} {b : Bool} {p : Pf} (h : Su l want seen j b p seen') : b = false → p = noPf := by
  induction h with
  | hit => intro h; cases h
  | old => exact fun _ => rfl
  | go seen seen' h pf p b hb he hs hr ih => exact ih
  | nil => exact fun _ => rfl
  | yes => intro h; cases h
  | next seen s1 s2 s r i pf p q b h hr ih1 ih2 => exact ih2
theorem nop_c : pfc noPf = [.int .i64 0, .int .i64 0, .sl [] 0 false none] := by rw [noPf, pfc, pfcs]; rfl
theorem drop_invS {full : List ByteArray} {i : Nat} {x : ByteArray} {l : List ByteArray} (h : full.drop i = x :: l) : i + 1 ≤ full.length ∧ full[i]? = some x ∧ full.drop (i + 1) = l := by
  have hi : i < full.length := by
    have := congrArg List.length h
    simp at this; omega
  rw [List.drop_eq_getElem_cons hi] at h
  cases h
  exact ⟨hi, List.getElem?_eq_getElem hi, rfl⟩

set_option maxHeartbeats 16000000 in
theorem su_law (hX : NoX X) {lv : AV} {l : List Cl} (hl : ISl clc lv l) (hbl : l.length ≤ 8796093022208) (hs : ∀ c, c ∈ l → c.sup.length ≤ 8796093022208) {want : ByteArray} {o : Nat} {seen seen' : List ByteArray} {j : SuJ} {b : Bool} {p : Pf} (h : Su l want seen j b p seen') : SuC X l want lv o seen b p seen' j := by
  have hfs : ∀ n, (fnd l n).sup.length ≤ 8796093022208 := fun n => by
    unfold fnd
    cases hf : find l n with
    | none => simp [noC]
    | some c => exact hs c (List.mem_of_find?_eq_some hf)
  induction h with
  | hit seen h pf he =>
    intro w ov tok s hw hA
    have he' : (h.toList == want.toList) = true := he
    refine WC_fn cf82 (hX 82 (by decide)) T82 (by simp [cf82]) ?_
    rw [pfc_w]
    simp only [cf82, he', hw, Nat.le_add_left, setAt, go_sem, ↓reduceIte, reduceCtorEq, Nat.reduceEqDiff, Nat.reduceAdd, Nat.reduceSub, Nat.reduceMul, Nat.reduceLeDiff, Nat.reduceLT, loadA, rdCells, storeA, setAt, binA]
    refine ⟨by simp, _, rfl, rfl, ?_⟩
    have key : ∀ x, SnP o seen tok s (((s.new (.cells [.int .i64 (kofP pf), .int .i64 (nofP pf), w])).new (.cells [.int .i64 0, .int .i64 0, .nils])).put (s.size + 1) x) := fun x => by
      have hk := (((Keep.refl s).new' (.cells [.int .i64 (kofP pf), .int .i64 (nofP pf), w])).new' (.cells [.int .i64 0, .int .i64 0, .nils])).put' (show s.size ≤ s.size + 1 by omega) x
      have hA' := hA.keep hk
      exact ⟨ov, tok, hA'.1, hA'.2.1, Or.inl rfl, KeepR.of hk⟩
    exact key _
  | old seen h pf hb he hss =>
    intro w ov tok s hw hA
    have he' : (h.toList == want.toList) = false := he
    refine WC_fn cf82 (hX 82 (by decide)) T82 (by simp [cf82]) ?_
    rw [nop_c]
    have a1 := hA.1
    have a3 := hA.2.2
    have hk0 : Keep s ((s.new (.cells [.int .i64 (kofP pf), .int .i64 (nofP pf), w])).new (.cells [.int .i64 0, .int .i64 0, .nils])) := ((Keep.refl s).new' _).new' _
    simp only [cf82, he', a1, ne_a a3, ne_b a3, ne_c a3, ne_d a3, Nat.le_add_left, setAt, go_sem, ↓reduceIte, reduceCtorEq, Nat.reduceEqDiff, Nat.reduceAdd, Nat.reduceSub, Nat.reduceMul, Nat.reduceLeDiff, Nat.reduceLT, loadA, rdCells, storeA, setAt, binA]
    refine WO_callx _ rfl ((has_law hX hA.2.1.isl (by omega) h _).mono ?_)
    rintro w0 S2 ⟨rfl, hk2⟩
    have hz := hk2.1
    simp only [St.new] at hz
    have o10 := hk2.2 (s.size + 1) (by simp only [St.new]; omega)
    simp only [go_sem, ↓reduceIte, reduceCtorEq, Nat.reduceEqDiff, Nat.reduceAdd, Nat.reduceSub, Nat.reduceMul, Nat.reduceLeDiff, Nat.reduceLT, loadA, rdCells, storeA, setAt, binA] at o10
    simp only [hss, o10, Nat.le_add_left, setAt, go_sem, ↓reduceIte, reduceCtorEq, Nat.reduceEqDiff, Nat.reduceAdd, Nat.reduceSub, Nat.reduceMul, Nat.reduceLeDiff, Nat.reduceLT, loadA, rdCells, storeA, setAt, binA]
    have hk02 := hk0.trans hk2
    have hk := hk02.put' (show s.size ≤ s.size + 1 by omega) (some (.cells [.int .i64 0, .int .i64 0, .nils]))
    have hA' := hA.keep hk
    exact ⟨by simp, _, rfl, rfl, ov, tok, hA'.1, hA'.2.1, Or.inl rfl, KeepR.of hk⟩
  | go seen seen' h pf p b hb he hss hr ih =>
    intro w ov tok s hw hA
    have he' : (h.toList == want.toList) = false := he
    refine WC_fn cf82 (hX 82 (by decide)) T82 (by simp [cf82]) ?_
    have a1 := hA.1
    have a3 := hA.2.2
    obtain ⟨S1, hS1⟩ : ∃ S1, S1 = (s.new (.cells [.int .i64 (kofP pf), .int .i64 (nofP pf), w])).new (.cells [.int .i64 0, .int .i64 0, .nils]) := ⟨_, rfl⟩
    have hk0 : Keep s S1 := by rw [hS1]; exact ((Keep.refl s).new' _).new' _
    have z1 : S1.size = s.size + 2 := by rw [hS1]; rfl
    have o8 : S1.obj s.size = some (.cells [.int .i64 (kofP pf), .int .i64 (nofP pf), w]) := by rw [hS1, new_ne (by simp only [St.new]; omega), new_eq rfl]
    have o10 : S1.obj (s.size + 1) = some (.cells [.int .i64 0, .int .i64 0, .nils]) := by rw [hS1]; exact new_eq rfl
    simp only [cf82, he', a1, ne_a a3, ne_b a3, ne_c a3, ne_d a3, Nat.le_add_left, setAt, go_sem, ↓reduceIte, reduceCtorEq, Nat.reduceEqDiff, Nat.reduceAdd, Nat.reduceSub, Nat.reduceMul, Nat.reduceLeDiff, Nat.reduceLT, loadA, rdCells, storeA, setAt, binA]
    rw [← hS1]
    have hA1 := hA.keep hk0
    refine WO_callx _ rfl ((has_law hX hA.2.1.isl (by omega) h _).mono ?_)
    rintro w0 S2 ⟨rfl, hk2⟩
    have hA2 := hA1.keep hk2
    have o2 := hA2.1
    obtain ⟨v', S4, hap, hg4, hz4, hk4⟩ := hA2.2.1.app sccP (Nat.zero_le _) h (bytes := 16) (by omega)
    simp only [scc] at hap
    have no := hA2.ntok hA2.1
    have o4 : S4.obj o = some (.cells [ov]) := by rw [hk4 o hA2.2.2 no]; exact o2
    have hv' : v'.cells = [v'] := by
      rcases hg4 with ⟨rfl, -, -⟩ | ⟨k2, -, rfl, -⟩ <;> rfl
    have hv1 : v'.one = true := by
      rcases hg4 with ⟨rfl, -, -⟩ | ⟨k2, -, rfl, -⟩ <;> rfl
    simp only [hss, o2, hap, o4, hv', hv1, Nat.le_add_left, setAt, go_sem, ↓reduceIte, reduceCtorEq, Nat.reduceEqDiff, Nat.reduceAdd, Nat.reduceSub, Nat.reduceMul, Nat.reduceLeDiff, Nat.reduceLT, loadA, rdCells, storeA, setAt, binA]
    have hk24 : ∀ j, j < S2.size → some j ≠ tok → S4.obj j = S2.obj j := hk4
    obtain ⟨S5, hS5⟩ : ∃ S5, S5 = S4.put o (some (.cells [v'])) := ⟨_, rfl⟩
    rw [← hS5]
    have z2 := hk2.1
    have za2 := hA2.2.2
    have z5 : S5.size = S2.size + 1 := by rw [hS5]; exact hz4
    have o82 := hk2.obj (by omega) o8
    have o102 := hk2.obj (by omega) o10
    have n8 := hA2.ntok o82
    have n10 := hA2.ntok o102
    have hA5 : SnA o (seen ++ [h]) v' (some S2.size) S5 := by
      refine ⟨by rw [hS5, put_eq], ?_, by omega⟩
      rw [hS5]
      exact grw_keepS hg4 (Nat.le_refl _) fun j hj ht => by cases ht; rw [put_ne (by omega)]
    have o85 : S5.obj s.size = some (.cells [.int .i64 (kofP pf), .int .i64 (nofP pf), w]) := by rw [hS5, put_ne (by omega), hk4 _ (by omega) n8]; exact o82
    have o105 : S5.obj (s.size + 1) = some (.cells [.int .i64 0, .int .i64 0, .nils]) := by rw [hS5, put_ne (by omega), hk4 _ (by omega) n10]; exact o102
    refine WO_callx _ rfl ((find_law hX hl hbl h S5).mono ?_)
    rintro w0 S6 ⟨rfl, hk6⟩
    simp only [clc, Nat.le_add_left, go_sem, ↓reduceIte, reduceCtorEq, Nat.reduceEqDiff, Nat.reduceAdd, Nat.reduceSub, Nat.reduceMul, Nat.reduceLeDiff, Nat.reduceLT, loadA, rdCells, storeA, setAt, binA]
    obtain ⟨S7, hS7⟩ : ∃ S7, S7 = (S6.new (.cells [.str ⟨#[]⟩, .nils, .nils])).put S6.size (some (.cells [.str (fnd l h).name, .sl ((fnd l h).sup.flatMap scc) (fnd l h).sup.length false none, .sl (fnd l h).ops (fnd l h).opn false none])) := ⟨_, rfl⟩
    have hk67 : Keep S6 S7 := by rw [hS7]; exact ((Keep.refl S6).new' _).put' (Nat.le_refl _) _
    rw [← hS7]
    have hk57 := hk6.trans hk67
    have hsup : ISl scc (.sl ((fnd l h).sup.flatMap scc) (fnd l h).sup.length false none) (fnd l h).sup := Or.inr ⟨_, _, rfl⟩
    have hsl := hsup.len
    simp only [hsl, go_sem, ↓reduceIte, reduceCtorEq, Nat.reduceEqDiff, Nat.reduceAdd, Nat.reduceSub, Nat.reduceMul, Nat.reduceLeDiff, Nat.reduceLT, loadA, rdCells, storeA, setAt, binA]
    have o87 := hk57.obj (by omega) o85
    have o107 := hk57.obj (by omega) o105
    have hA7 := hA5.keep hk57
    have z7 := hk57.1
    refine (ih (fnd l h).sup _ v' (some S2.size) S7 _ s.size (s.size + 1) w hw hsup (hfs h) (Nat.zero_le _) rfl ?_ ?_ ?_ ?_ ?_ ?_ ?_ ?_ o87 (by omega) ⟨_, _, _, o107⟩ (by omega) (by omega) (by omega) (by omega) hA7).mono ?_
    · simp only [go_sem, ↓reduceIte, reduceCtorEq, Nat.reduceEqDiff, Nat.reduceAdd, Nat.reduceSub, Nat.reduceMul, Nat.reduceLeDiff, Nat.reduceLT, loadA, rdCells, storeA, setAt, binA]
    · simp only [go_sem, ↓reduceIte, reduceCtorEq, Nat.reduceEqDiff, Nat.reduceAdd, Nat.reduceSub, Nat.reduceMul, Nat.reduceLeDiff, Nat.reduceLT, loadA, rdCells, storeA, setAt, binA]
    · simp only [go_sem, ↓reduceIte, reduceCtorEq, Nat.reduceEqDiff, Nat.reduceAdd, Nat.reduceSub, Nat.reduceMul, Nat.reduceLeDiff, Nat.reduceLT, loadA, rdCells, storeA, setAt, binA]
    · simp only [go_sem, ↓reduceIte, reduceCtorEq, Nat.reduceEqDiff, Nat.reduceAdd, Nat.reduceSub, Nat.reduceMul, Nat.reduceLeDiff, Nat.reduceLT, loadA, rdCells, storeA, setAt, binA]
    · simp only [go_sem, ↓reduceIte, reduceCtorEq, Nat.reduceEqDiff, Nat.reduceAdd, Nat.reduceSub, Nat.reduceMul, Nat.reduceLeDiff, Nat.reduceLT, loadA, rdCells, storeA, setAt, binA]
    · simp only [go_sem, ↓reduceIte, reduceCtorEq, Nat.reduceEqDiff, Nat.reduceAdd, Nat.reduceSub, Nat.reduceMul, Nat.reduceLeDiff, Nat.reduceLT, loadA, rdCells, storeA, setAt, binA]
    · simp only [go_sem, ↓reduceIte, reduceCtorEq, Nat.reduceEqDiff, Nat.reduceAdd, Nat.reduceSub, Nat.reduceMul, Nat.reduceLeDiff, Nat.reduceLT, loadA, rdCells, storeA, setAt, binA]
    · simp only [go_sem, ↓reduceIte, reduceCtorEq, Nat.reduceEqDiff, Nat.reduceAdd, Nat.reduceSub, Nat.reduceMul, Nat.reduceLeDiff, Nat.reduceLT, loadA, rdCells, storeA, setAt, binA]; rfl
    · rintro x e' S8 ⟨hx, ov', tok', q1, q2, q3, q4, q5⟩
      have hfr : ∀ j, j < s.size → j ≠ o → some j ≠ tok → S8.obj j = s.obj j := fun j hj h1 h2 => by
        rw [q5 j (by omega) h1 (by omega) (fun h => by cases h; omega), hk57.2 j (by omega), hS5, put_ne h1, hk4 j (by omega) h2, hk2.2 j (by omega), hk0.2 j hj]
      have htk : tok' = tok ∨ ∃ k, tok' = some k ∧ s.size ≤ k := by
        rcases q3 with rfl | ⟨k, rfl, hk⟩
        · exact Or.inr ⟨_, rfl, by omega⟩
        · exact Or.inr ⟨k, rfl, by omega⟩
      rcases hx with ⟨rfl, rfl, he10, c0, c1, c2, hor⟩ | ⟨rfl, rfl, he11, he10, hor⟩
      · obtain rfl := su_f hr rfl
        rw [nop_c]
        simp only [he10, hor, Nat.le_add_left, setAt, go_sem, ↓reduceIte, reduceCtorEq, Nat.reduceEqDiff, Nat.reduceAdd, Nat.reduceSub, Nat.reduceMul, Nat.reduceLeDiff, Nat.reduceLT, loadA, rdCells, storeA, setAt, binA]
        refine ⟨by simp, _, rfl, rfl, ov', tok', by rw [put_ne (by omega)]; exact q1, ?_, htk, ?_, fun j hj h1 _ h2 => by rw [put_ne (by omega)]; exact hfr j hj h1 h2⟩
        · refine grw_keepS q2 (Nat.le_refl _) fun j hj ht => ?_
          have : j ≠ s.size + 1 := fun h => by
            subst h
            rcases q2 with ⟨-, -, h⟩ | ⟨k2, h, -, -, h4, -, -⟩
            · rw [h] at ht; cases ht
            · rw [h] at ht; cases ht; rw [hor] at h4; cases h4
          rw [put_ne this]
        · simp only [St.put]; omega
      · have hst : (pfc p).map AV.strip = pfc p := by have := pfcP.strips [p]; simpa using this
        have hln : (pfc p).length = 3 := pfcP.len p
        rw [pfc_w] at hor hst
        simp only [he10, he11, hor, hst, Nat.le_add_left, setAt, go_sem, ↓reduceIte, reduceCtorEq, Nat.reduceEqDiff, Nat.reduceAdd, Nat.reduceSub, Nat.reduceMul, Nat.reduceLeDiff, Nat.reduceLT, loadA, rdCells, storeA, setAt, binA]
        refine ⟨by simp, _, rfl, by rw [pfc_w], ov', tok', q1, q2, htk, by omega, fun j hj h1 _ h2 => hfr j hj h1 h2⟩
  | nil seen i pf =>
    intro full nv ov tok S en a r w hw hnv hfl hil hdr e0 e2 e4 e8 e10 e43 e44 e45 oa za oor zr nao nro nar hA
    have hi2 : i = full.length := by have := congrArg List.length hdr; simp at this; omega
    subst hi2
    have hd : decide (((full.length : Nat) : Int) < (full.length : Int)) = false := by simp
    refine W_loop ?_
    simp only [cf82_l0, e0, e2, e4, e8, e10, e43, e44, e45, hd, go_sem, ↓reduceIte, reduceCtorEq, Nat.reduceEqDiff, Nat.reduceAdd, Nat.reduceSub, Nat.reduceMul, Nat.reduceLeDiff, Nat.reduceLT, loadA, rdCells, storeA, setAt, binA]
    exact ⟨Or.inl oor, ov, tok, hA.1, hA.2.1, Or.inl rfl, Nat.le_refl _, fun _ _ _ _ _ => trivial⟩
  | yes seen s1 sn rn i pf p h ih =>
    intro full nv ov tok S en a r w hw hnv hfl hil hdr e0 e2 e4 e8 e10 e43 e44 e45 oa za oor zr nao nro nar hA
    obtain ⟨hi1, hfx, hdr1⟩ := drop_invS hdr
    have hd : decide ((i : Int) < (full.length : Int)) = true := by simp; omega
    have hat := hnv.at sccP.len hfx
    have hcall := fun ov tok S => ih (.sl [.int .i64 (kofP pf), .int .i64 (nofP pf), .sl (pfcs (subP pf)) (subP pf).length false none] 1 true none) ov tok S (by rw [subP, pfcs, pfcs, List.append_nil, pfc_w]; rfl)
    simp only [scc, List.cons_append, List.nil_append] at hat
    simp only [kofP, nofP] at hcall
    have na := hA.ntok oa
    obtain ⟨c0, c1, c2, hor⟩ := oor
    have nr := hA.ntok hor
    refine W_loop ?_
    simp only [cf82_l0, e0, e2, e4, e8, e10, e43, e44, e45, hd, hat, oa, hw, Nat.le_add_left, go_sem, ↓reduceIte, reduceCtorEq, Nat.reduceEqDiff, Nat.reduceAdd, Nat.reduceSub, Nat.reduceMul, Nat.reduceLeDiff, Nat.reduceLT, loadA, rdCells, storeA, setAt, binA]
    refine WO_callx _ rfl ((hcall ov tok S hA).mono ?_)
    rintro w0 S2 ⟨rfl, ov', tok', q1, q2, q3, q4⟩
    have hor2 : S2.obj r = some (.cells [c0, c1, c2]) := by rw [q4.2 r zr nro nro nr]; exact hor
    have zr2 := Nat.lt_of_lt_of_le zr q4.1
    rw [pfc_w]
    simp only [e0, e2, e4, e8, e10, e43, e44, e45, hor2, ne_a zr2, ne_b zr2, Nat.le_add_left, setAt, go_sem, ↓reduceIte, reduceCtorEq, Nat.reduceEqDiff, Nat.reduceAdd, Nat.reduceSub, Nat.reduceMul, Nat.reduceLeDiff, Nat.reduceLT, loadA, rdCells, storeA, setAt, binA]
    have zo2 := Nat.lt_of_lt_of_le hA.2.2 q4.1
    have q41 := q4.1
    refine ⟨Or.inr trivial, ov', tok', ?_, ?_, q3, by omega, fun j hj h1 h2 h3 => ?_⟩
    · rw [if_neg (Ne.symm nro), if_neg (by omega), if_neg (by omega)]; exact q1
    · refine grw_keepS q2 (by simp only [St.new, St.put]; omega) fun j hj ht => ?_
      have hjr : j ≠ r := fun h => by
        subst h
        rcases q2 with ⟨-, -, h⟩ | ⟨k2, h, -, -, h4, -, -⟩
        · rw [h] at ht; cases ht
        · rw [h] at ht; cases ht; rw [hor2] at h4; cases h4
      rw [put_ne hjr, put_ne (by omega), new_ne (by omega)]
    · rw [if_neg h2, if_neg (by omega), if_neg (by omega)]; exact q4.2 j hj h1 h1 h3
  | next seen s1 s2 sn rn i pf p q b h hr ih1 ih2 =>
    intro full nv ov tok S en a r w hw hnv hfl hil hdr e0 e2 e4 e8 e10 e43 e44 e45 oa za oor zr nao nro nar hA
    obtain ⟨hi1, hfx, hdr1⟩ := drop_invS hdr
    have hd : decide ((i : Int) < (full.length : Int)) = true := by simp; omega
    have hat := hnv.at sccP.len hfx
    have hcall := fun ov tok S => ih1 (.sl [.int .i64 (kofP pf), .int .i64 (nofP pf), .sl (pfcs (subP pf)) (subP pf).length false none] 1 true none) ov tok S (by rw [subP, pfcs, pfcs, List.append_nil, pfc_w]; rfl)
    simp only [scc, List.cons_append, List.nil_append] at hat
    simp only [kofP, nofP] at hcall
    have na := hA.ntok oa
    obtain ⟨c0, c1, c2, hor⟩ := oor
    have nr := hA.ntok hor
    generalize hL : CC.loop cf82_l0 = L
    refine W_loop_eq hL ?_
    simp only [cf82_l0, e0, e2, e4, e8, e10, e43, e44, e45, hd, hat, oa, hw, Nat.le_add_left, go_sem, ↓reduceIte, reduceCtorEq, Nat.reduceEqDiff, Nat.reduceAdd, Nat.reduceSub, Nat.reduceMul, Nat.reduceLeDiff, Nat.reduceLT, loadA, rdCells, storeA, setAt, binA]
    refine WO_callx _ rfl ((hcall ov tok S hA).mono ?_)
    rintro w0 S2 ⟨rfl, ov', tok', q1, q2, q3, q4⟩
    have hor2 : S2.obj r = some (.cells [c0, c1, c2]) := by rw [q4.2 r zr nro nro nr]; exact hor
    have oa2 : S2.obj a = some (.cells [.int .i64 (kofP pf), .int .i64 (nofP pf), w]) := by rw [q4.2 a za nao nao na]; exact oa
    have zr2 := Nat.lt_of_lt_of_le zr q4.1
    have za2 := Nat.lt_of_lt_of_le za q4.1
    rw [pfc_w]
    simp only [e0, e2, e4, e8, e10, e43, e44, e45, wrapc (n := i) (by omega), Nat.le_add_left, go_sem, ↓reduceIte, reduceCtorEq, Nat.reduceEqDiff, Nat.reduceAdd, Nat.reduceSub, Nat.reduceMul, Nat.reduceLeDiff, Nat.reduceLT, loadA, rdCells, storeA, setAt, binA]
    subst hL
    obtain ⟨S3, hS3⟩ : ∃ S3, S3 = (S2.new (.cells [.int .i64 0, .int .i64 0, .nils])).put S2.size (some (.cells [.int .i64 (kofP p), .int .i64 (nofP p), .sl (pfcs (subP p)) (subP p).length false none])) := ⟨_, rfl⟩
    have hk23 : Keep S2 S3 := by rw [hS3]; exact ((Keep.refl S2).new' _).put' (Nat.le_refl _) _
    rw [← hS3]
    have hA3 : SnA o s1 ov' tok' S3 := SnA.keep ⟨q1, q2, Nat.lt_of_lt_of_le hA.2.2 q4.1⟩ hk23
    have q41 := q4.1
    refine (ih2 full nv ov' tok' S3 _ a r w hw hnv hfl hi1 hdr1 ?_ ?_ ?_ ?_ ?_ ?_ ?_ ?_ (hk23.obj za2 oa2) (hk23.lt za2) ⟨c0, c1, c2, hk23.obj zr2 hor2⟩ (hk23.lt zr2) nao nro nar hA3).mono ?_
    · simp only [e0, go_sem, ↓reduceIte, reduceCtorEq, Nat.reduceEqDiff, Nat.reduceAdd, Nat.reduceSub, Nat.reduceMul, Nat.reduceLeDiff, Nat.reduceLT, loadA, rdCells, storeA, setAt, binA]
    · simp only [e2, go_sem, ↓reduceIte, reduceCtorEq, Nat.reduceEqDiff, Nat.reduceAdd, Nat.reduceSub, Nat.reduceMul, Nat.reduceLeDiff, Nat.reduceLT, loadA, rdCells, storeA, setAt, binA]
    · simp only [e4, go_sem, ↓reduceIte, reduceCtorEq, Nat.reduceEqDiff, Nat.reduceAdd, Nat.reduceSub, Nat.reduceMul, Nat.reduceLeDiff, Nat.reduceLT, loadA, rdCells, storeA, setAt, binA]
    · simp only [e8, go_sem, ↓reduceIte, reduceCtorEq, Nat.reduceEqDiff, Nat.reduceAdd, Nat.reduceSub, Nat.reduceMul, Nat.reduceLeDiff, Nat.reduceLT, loadA, rdCells, storeA, setAt, binA]
    · simp only [e10, go_sem, ↓reduceIte, reduceCtorEq, Nat.reduceEqDiff, Nat.reduceAdd, Nat.reduceSub, Nat.reduceMul, Nat.reduceLeDiff, Nat.reduceLT, loadA, rdCells, storeA, setAt, binA]
    · simp only [e43, go_sem, ↓reduceIte, reduceCtorEq, Nat.reduceEqDiff, Nat.reduceAdd, Nat.reduceSub, Nat.reduceMul, Nat.reduceLeDiff, Nat.reduceLT, loadA, rdCells, storeA, setAt, binA]
    · simp only [e44, go_sem, ↓reduceIte, reduceCtorEq, Nat.reduceEqDiff, Nat.reduceAdd, Nat.reduceSub, Nat.reduceMul, Nat.reduceLeDiff, Nat.reduceLT, loadA, rdCells, storeA, setAt, binA]
    · simp only [go_sem, ↓reduceIte, reduceCtorEq, Nat.reduceEqDiff, Nat.reduceAdd, Nat.reduceSub, Nat.reduceMul, Nat.reduceLeDiff, Nat.reduceLT, loadA, rdCells, storeA, setAt, binA]
    · rintro x e' S4 ⟨hx, ov2, tok2, w1, w2, w3, w4, w5⟩
      have z3 := hk23.1
      refine ⟨hx, ov2, tok2, w1, w2, ?_, by omega, fun j hj h1 h2 h3 => ?_⟩
      · rcases w3 with rfl | ⟨k, rfl, hk⟩
        · exact q3
        · exact Or.inr ⟨k, rfl, by omega⟩
      · rw [w5 j (by omega) h1 h2 (fun ht => by
          rcases q3 with rfl | ⟨k, rfl, hk⟩
          · exact h3 ht
          · cases ht; omega), hk23.2 j (by omega)]
        exact q4.2 j hj h1 h1 h3
end Go.Am.U3
