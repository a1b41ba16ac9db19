/- A part of the proof of unifyOccurs. Conditions: none. -/
import Derived.Test.YtfleakoephmgaaaDoorUnK
set_option linter.unusedSimpArgs false
set_option linter.unusedVariables false
namespace Go.Am.U1
open Go.Am.Un
set_option maxRecDepth 100000
set_option linter.unusedSimpArgs false
attribute [local go_sem] wseq COp.isStore wreg wdreg wret wskip wexit wblock wcnd cnd_t cnd_f then_n then_x then_r catch_n rnd_n rnd_x rnd_r catch_x catch_r wo_nil wo_grd grdO_t grdO_f wo_ops stpO wr_nil wr_alloc wr_guards grdR_t grdR_f wr_ops stpR evAllocs evOp env0_app eput_some eput_none eset_app Opd.ev wantedA faddrA snew_obj snew_size sput_obj sput_size av_cells av_one av_strip av_still unA eqbA fillA fldA lensA mmA mm2 mmFold List.getD_cons_zero List.getD_cons_succ List.getD_nil List.length_cons List.length_nil List.drop_zero List.drop_succ_cons List.take_succ_cons List.take_zero List.map_cons List.map_nil List.set_cons_zero List.set_cons_succ List.all_cons List.all_nil List.getElem?_cons_zero List.getElem?_cons_succ List.nil_append List.cons_append Nat.zero_add Nat.add_zero beq_self_eq_true bt bf Bool.not_true Bool.not_false Bool.and_true Bool.true_and Bool.and_false Bool.false_and and_self and_true true_and n0 n1 n2 n3 n4 m0 m1 m2 m3 c1 retA resAs resA undefA Option.map_some Option.map_none
variable {X : Ext}

theorem kof_mk (k : Int) (n : ByteArray) (v : Int) (l : List Tm) : kof (.mk k n v l) = k := rfl
theorem nof_mk (k : Int) (n : ByteArray) (v : Int) (l : List Tm) : nof (.mk k n v l) = n := rfl
theorem vof_mk (k : Int) (n : ByteArray) (v : Int) (l : List Tm) : vof (.mk k n v l) = v := rfl
theorem lof_mk (k : Int) (n : ByteArray) (v : Int) (l : List Tm) : lof (.mk k n v l) = l := rfl

theorem bind_same (hX : NoX X) (t : Tm) (h : kof t = 0) (b : Nat) (s : St) : WC T X 86 [.ptr b 0, .int .i64 (vof t), .agg (tyc t)] s (fun v s' => v = .int .i64 0 ∧ Keep s s') := by
  refine WC_fn cf86 (hX 86 (by decide)) T86 (by simp [cf86]) ?_
  rw [tyc_w, tyw, h]
  simp only [cf86, i_ne1, Nat.le_add_left, go_sem, ↓reduceIte, reduceCtorEq, Nat.reduceEqDiff, Nat.reduceAdd, Nat.reduceSub, Nat.reduceMul, Nat.reduceLeDiff, Nat.reduceLT, loadA, rdCells, storeA, setAt, binA]
  exact ⟨by simp, _, rfl, rfl, (Keep.refl s).new' _⟩

/-- A call of unify that changes nothing. -/
def Uns (X : Ext) (ss : List Tm) (b p : Nat) (A B : Tm) : Prop :=
  ∀ a0 b0, Sub ss a0 A → Sub ss b0 B → ∀ s, US s b p ss → WC T X 69 [.ptr b 0, .agg (tyc a0), .agg (tyc b0)] s (fun v s' => v = .int .i64 0 ∧ Keep s s')

set_option maxHeartbeats 4000000 in
theorem rows_law (hX : NoX X) {ss : List Tm} {b p : Nat} {l : ByteArray} {v : Int} {x r B t rest x0 r0 b0 : Tm} (hB : Extr l B t rest) (hx0 : Sub ss x0 x) (hr0 : Sub ss r0 r) (hb0 : Sub ss b0 B) (hro : RowOk r)
    (h1 : Uns X ss b p x t) (h2 : Uns X ss b p r rest) (s : St) (hu : US s b p ss) : WC T X 87 [.ptr b 0, .agg (tyc (.mk 5 l v [x0, r0])), .agg (tyc b0)] s (fun v s' => v = .int .i64 0 ∧ Keep s s') := by
  refine WC_fn cf87 (hX 87 (by decide)) T87 (by simp [cf87]) ?_
  have htl := fun S => tail_law hX (p := p) (b := b) (RowOk.ext l v x r hro) (.con _ 5 l v [x0, r0] [x, r] (.con _ (by simp [kof])) (by decide) (.cons _ _ _ _ hx0 (.cons _ _ _ _ hr0 .nil))) S
  have hex := fun (S : St) (no : Int) => extr_law hX (p := p) (b := b) hB b0 hb0 no S
  rw [row_c] at htl ⊢
  rw [tyc_w b0, tyw] at hex ⊢
  have hk1 := ((((Keep.refl s).new' (.cells [.int .i64 5, .str l, .int .i64 v, .sl [.int .i64 (kof x0), .str (nof x0), .int .i64 (vof x0), .sl (tycs (lof x0)) (lof x0).length false none, .int .i64 (kof r0), .str (nof r0), .int .i64 (vof r0), .sl (tycs (lof r0)) (lof r0).length false none] 2 false none])).new' (.cells [.int .i64 (kof b0), .str (nof b0), .int .i64 (vof b0), .sl (tycs (lof b0)) (lof b0).length false none])).new' (.cells [.int .i64 0, .str ⟨#[]⟩, .int .i64 0, .nils])).new' (.cells [.int .i64 0, .str ⟨#[]⟩, .int .i64 0, .nils])
  simp only [cf87, go_sem, ↓reduceIte, reduceCtorEq, Nat.reduceEqDiff, Nat.reduceAdd, Nat.reduceSub, Nat.reduceMul, Nat.reduceLeDiff, Nat.reduceLT, loadA, rdCells, storeA, setAt, binA]
  refine W_dreg ?_
  simp only [wt_ops, stpT, Tr, ia0, ia1, wt_nil, chk1, avr, ne_a hu.2.2.1, ne_b hu.2.2.1, ne_c hu.2.2.1, ne_d hu.2.2.1, ne_e hu.2.2.1, ne_f hu.2.2.1, Bool.or_true, Nat.le_add_left, go_sem, ↓reduceIte, reduceCtorEq, Nat.reduceEqDiff, Nat.reduceAdd, Nat.reduceSub, Nat.reduceMul, Nat.reduceLeDiff, Nat.reduceLT, loadA, rdCells, storeA, setAt, binA]
  refine WT_callx _ rfl ((htl _ (hu.keep hk1)).mono ?_)
  rintro w2 S2 ⟨⟨z, rfl⟩, hk2⟩
  have hz2 := hk2.1
  simp only [St.new, St.put] at hz2
  have a1 := hk2.2 s.size (by simp only [St.new]; omega)
  have a2 := hk2.2 (s.size + 1) (by simp only [St.new]; omega)
  have a3 := hk2.2 (s.size + 1 + 1) (by simp only [St.new]; omega)
  have a4 := hk2.2 (s.size + 1 + 1 + 1) (by simp only [St.new]; omega)
  simp only [go_sem, ↓reduceIte, reduceCtorEq, Nat.reduceEqDiff, Nat.reduceAdd, Nat.reduceSub, Nat.reduceMul, Nat.reduceLeDiff, Nat.reduceLT, loadA, rdCells, storeA, setAt, binA] at a1 a2 a3 a4
  refine WT_callx _ rfl ((hex _ z (hu.keep (hk1.trans hk2))).mono ?_)
  rintro w3 S3 ⟨t3, r3, rfl, ht3, hr3, hk3⟩
  have hz3 := hk3.1
  have b1 := (hk3.2 s.size (by omega)).trans a1
  have b2 := (hk3.2 (s.size + 1) (by omega)).trans a2
  have b3 := (hk3.2 (s.size + 1 + 1) (by omega)).trans a3
  have b4 := (hk3.2 (s.size + 1 + 1 + 1) (by omega)).trans a4
  rw [tyc_w t3, tyc_w r3, tyw, tyw]
  simp only [wt_ops, stpT, Tr, a1, a2, b1, b2, b3, b4, ia0, ia1, wt_alloc, wt_nil, chk1, avr, ne_a hu.2.2.1, ne_b hu.2.2.1, ne_c hu.2.2.1, ne_d hu.2.2.1, ne_e hu.2.2.1, ne_f hu.2.2.1, Bool.or_true, Nat.le_add_left, go_sem, ↓reduceIte, reduceCtorEq, Nat.reduceEqDiff, Nat.reduceAdd, Nat.reduceSub, Nat.reduceMul, Nat.reduceLeDiff, Nat.reduceLT, loadA, rdCells, storeA, setAt, binA]
  have d0 : ((0 : Int) != 0) = false := rfl
  simp only [d0, b1, b2, b3, b4, ia0, ia1, Nat.le_add_left, go_sem, ↓reduceIte, reduceCtorEq, Nat.reduceEqDiff, Nat.reduceAdd, Nat.reduceSub, Nat.reduceMul, Nat.reduceLeDiff, Nat.reduceLT, loadA, rdCells, storeA, setAt, binA]
  have hkA : Keep s ((S3.put (s.size + 1 + 1) (some (.cells [.int .i64 (kof t3), .str (nof t3), .int .i64 (vof t3), .sl (tycs (lof t3)) (lof t3).length false none]))).put (s.size + 1 + 1 + 1) (some (.cells [.int .i64 (kof r3), .str (nof r3), .int .i64 (vof r3), .sl (tycs (lof r3)) (lof r3).length false none]))) := (((hk1.trans hk2).trans hk3).put' (by omega) _).put' (by omega) _
  have hc1 := h1 x0 t3 hx0 ht3 _ (hu.keep hkA)
  rw [tyc_w x0, tyc_w t3, tyw, tyw] at hc1
  refine WR_callx _ rfl (hc1.mono ?_)
  rintro w4 S4 ⟨rfl, hk4⟩
  have hz4 := hk4.1
  simp only [St.put] at hz4
  have c1 := hk4.2 s.size (by simp only [St.put]; omega)
  have c2 := hk4.2 (s.size + 1) (by simp only [St.put]; omega)
  have c4 := hk4.2 (s.size + 1 + 1 + 1) (by simp only [St.put]; omega)
  simp only [b1, b2, b4, go_sem, ↓reduceIte, reduceCtorEq, Nat.reduceEqDiff, Nat.reduceAdd, Nat.reduceSub, Nat.reduceMul, Nat.reduceLeDiff, Nat.reduceLT, loadA, rdCells, storeA, setAt, binA] at c1 c2 c4
  simp only [d0, c1, c2, c4, ia0, ia1, Nat.le_add_left, go_sem, ↓reduceIte, reduceCtorEq, Nat.reduceEqDiff, Nat.reduceAdd, Nat.reduceSub, Nat.reduceMul, Nat.reduceLeDiff, Nat.reduceLT, loadA, rdCells, storeA, setAt, binA]
  have hc2 := h2 r0 r3 hr0 hr3 _ (hu.keep (hkA.trans hk4))
  rw [tyc_w r0, tyc_w r3, tyw, tyw] at hc2
  refine WR_callx _ rfl (hc2.mono ?_)
  rintro w5 S5 ⟨rfl, hk5⟩
  simp only [go_sem, ↓reduceIte, reduceCtorEq, Nat.reduceEqDiff, Nat.reduceAdd, Nat.reduceSub, Nat.reduceMul, Nat.reduceLeDiff, Nat.reduceLT, loadA, rdCells, storeA, setAt, binA]
  exact ⟨by simp, _, rfl, rfl, (hkA.trans hk4).trans hk5⟩

theorem eqvs_len : ∀ {l l' : List Tm}, Eqvs l l' → l'.length = l.length
  | [], _, h => by cases h; rfl
  | a :: l, _, h => by cases h with | cons _ b _ l' h hs => simp [eqvs_len hs]
theorem eqvs_at : ∀ {l l' : List Tm}, Eqvs l l' → ∀ {i : Nat} {a : Tm}, l[i]? = some a → ∃ b, l'[i]? = some b ∧ Eqv a b
  | [], _, h, i, a, hi => by simp at hi
  | x :: l, _, h, i, a, hi => by
    cases h with
    | cons _ b _ l' h hs =>
      cases i with
      | zero => simp at hi; subst hi; exact ⟨b, by simp, h⟩
      | succ i => obtain ⟨B, h1, h2⟩ := eqvs_at hs (i := i) (by simpa using hi); exact ⟨B, by simpa using h1, h2⟩
theorem tsz2 (k : Int) (l : ByteArray) (v : Int) (x r : Tm) : tsz (.mk k l v [x, r]) = 1 + (tsz x + tsz r) := by rw [tsz, tszs, tszs, tszs]; omega
theorem eqv_row : ∀ (n : Nat) (A B : Tm), tsz A ≤ n → Eqv A B → RowOk A := by
  intro n
  induction n with
  | zero => intro A B h; have := tsz_pos A; omega
  | succ n ih =>
    intro A B hn h
    cases h with
    | var A B ha hb h => exact .nr _ (by omega)
    | row l v x r B t rest h hx hr => rw [tsz2] at hn; exact .ext _ _ _ _ (ih r rest (by have := tsz_pos x; omega) hr)
    | app k n n' v v' l l' h0 h5 hn hs => exact .nr _ h5
theorem extr_kind {l : ByteArray} {B t r : Tm} (h : Extr l B t r) : kof B = 5 := by cases h <;> rfl

set_option maxHeartbeats 8000000 in
theorem unify_law (hX : NoX X) {ss : List Tm} {b p : Nat} : ∀ (n : Nat) (A B : Tm), tsz A ≤ n → n ≤ 1099511627776 → Eqv A B → Uns X ss b p A B := by
  intro n
  induction n with
  | zero => intro A B h; have := tsz_pos A; omega
  | succ n ih =>
    intro A B hn hnb h a0 b0 ha0 hb0 s hu
    refine WC_fn cf69 (hX 69 (by decide)) T69 (by simp [cf69]) ?_
    obtain ⟨a1, hwa, ha1, ha2, ha3, ha4, ha5⟩ := sub_walk ha0
    obtain ⟨b1, hwb, hb1, hb2, hb3, hb4, hb5⟩ := sub_walk hb0
    have hla := fun S (hk : Keep s S) => walk_law hX hwa S (hu.keep hk).rd
    have hlb := fun S (hk : Keep s S) => walk_law hX hwb S (hu.keep hk).rd
    have hk1 := (((Keep.refl s).new' (.cells (tyc a0))).new' (.cells (tyc b0)))
    rw [tyc_w a0, tyw, tyc_w a1, tyw] at hla
    rw [tyc_w b0, tyw, tyc_w b1, tyw] at hlb
    rw [tyc_w a0, tyw, tyc_w b0, tyw] at hk1 ⊢
    simp only [cf69, go_sem, ↓reduceIte, reduceCtorEq, Nat.reduceEqDiff, Nat.reduceAdd, Nat.reduceSub, Nat.reduceMul, Nat.reduceLeDiff, Nat.reduceLT, loadA, rdCells, storeA, setAt, binA]
    refine W_dreg ?_
    simp only [wt_ops, stpT, Tr, hu.1, wt_alloc, wt_nil, chk1, avr, ne_a hu.2.2.1, ne_b hu.2.2.1, ne_c hu.2.2.1, ne_d hu.2.2.1, ne_e hu.2.2.1, ne_f hu.2.2.1, Bool.or_true, Nat.le_add_left, go_sem, ↓reduceIte, reduceCtorEq, Nat.reduceEqDiff, Nat.reduceAdd, Nat.reduceSub, Nat.reduceMul, Nat.reduceLeDiff, Nat.reduceLT, loadA, rdCells, storeA, setAt, binA]
    refine WT_callx _ rfl ((hla _ hk1).mono ?_)
    rintro w2 S2 ⟨rfl, hk2⟩
    have hz2 := hk2.1
    simp only [St.new] at hz2
    have e1 := hk2.2 s.size (by simp only [St.new]; omega)
    have e2 := hk2.2 (s.size + 1) (by simp only [St.new]; omega)
    simp only [go_sem, ↓reduceIte, reduceCtorEq, Nat.reduceEqDiff, Nat.reduceAdd, Nat.reduceSub, Nat.reduceMul, Nat.reduceLeDiff, Nat.reduceLT, loadA, rdCells, storeA, setAt, binA] at e1 e2
    have hu2 := hu.keep (hk1.trans hk2)
    simp only [wt_ops, stpT, Tr, hu.1, hu2.1, e1, e2, wt_alloc, wt_nil, chk1, avr, ne_a hu.2.2.1, ne_b hu.2.2.1, ne_c hu.2.2.1, ne_d hu.2.2.1, ne_e hu.2.2.1, ne_f hu.2.2.1, Bool.or_true, Nat.le_add_left, go_sem, ↓reduceIte, reduceCtorEq, Nat.reduceEqDiff, Nat.reduceAdd, Nat.reduceSub, Nat.reduceMul, Nat.reduceLeDiff, Nat.reduceLT, loadA, rdCells, storeA, setAt, binA]
    refine WT_callx _ rfl ((hlb _ (hk1.trans hk2)).mono ?_)
    rintro w3 S3 ⟨rfl, hk3⟩
    have hz3 := hk3.1
    have f1 := (hk3.2 s.size (by omega)).trans e1
    have f2 := (hk3.2 (s.size + 1) (by omega)).trans e2
    simp only [wt_ops, stpT, Tr, hu.1, hu2.1, e1, e2, f1, f2, wt_alloc, wt_nil, chk1, avr, ne_a hu.2.2.1, ne_b hu.2.2.1, ne_c hu.2.2.1, ne_d hu.2.2.1, ne_e hu.2.2.1, ne_f hu.2.2.1, Bool.or_true, Nat.le_add_left, go_sem, ↓reduceIte, reduceCtorEq, Nat.reduceEqDiff, Nat.reduceAdd, Nat.reduceSub, Nat.reduceMul, Nat.reduceLeDiff, Nat.reduceLT, loadA, rdCells, storeA, setAt, binA]
    have hkA : Keep s S3 := (hk1.trans hk2).trans hk3
    have hkB := ((hkA.put' (Nat.le_refl s.size) (some (.cells [.int .i64 (kof a1), .str (nof a1), .int .i64 (vof a1), .sl (tycs (lof a1)) (lof a1).length false none]))).put' (by omega : s.size ≤ s.size + 1) (some (.cells [.int .i64 (kof b1), .str (nof b1), .int .i64 (vof b1), .sl (tycs (lof b1)) (lof b1).length false none])))
    cases h with
    | var A B hA hB hv =>
      have z1 : (kof a1 == 0) = true := by rw [ha1, hA]; rfl
      have hbs := fun S => bind_same hX b1 (by rw [hb1, hB]) b S
      rw [tyc_w b1, tyw, show vof b1 = vof a1 by rw [hb3, ha3, hv]] at hbs
      rw [show vof b1 = vof a1 by rw [hb3, ha3, hv]]
      simp only [z1, f1, f2, Nat.le_add_left, go_sem, ↓reduceIte, reduceCtorEq, Nat.reduceEqDiff, Nat.reduceAdd, Nat.reduceSub, Nat.reduceMul, Nat.reduceLeDiff, Nat.reduceLT, loadA, rdCells, storeA, setAt, binA]
      refine WO_callx _ rfl ((hbs _).mono ?_)
      rintro w4 S4 ⟨rfl, hk4⟩
      simp only [go_sem, ↓reduceIte, reduceCtorEq, Nat.reduceEqDiff, Nat.reduceAdd, Nat.reduceSub, Nat.reduceMul, Nat.reduceLeDiff, Nat.reduceLT, loadA, rdCells, storeA, setAt, binA]
      rw [show vof b1 = vof a1 by rw [hb3, ha3, hv]] at hkB
      exact ⟨by simp, _, rfl, rfl, hkB.trans hk4⟩
    | row l v x r B t rest hE hx hr =>
      have hkb5 := extr_kind hE
      have hs4 := ha4 (by simp [kof])
      obtain ⟨k1, n1, v1, l1⟩ := a1
      simp only [kof, nof, vof, lof] at ha1 ha2 ha3 hs4
      subst ha1 ha2 ha3
      cases hs4 with
      | cons x0 _ l1 _ hx0 hs1 =>
      cases hs1 with
      | cons r0 _ l2 _ hr0 hs2 =>
      cases hs2
      have z1 : ((5 : Int) == 0) = false := rfl
      have z2 : (kof b1 == 0) = false := by rw [hb1, hkb5]; rfl
      have z3 : ((5 : Int) == 5) = true := rfl
      have z4 : decide (kof b1 ≥ 4) = true := by rw [hb1, hkb5]; rfl
      have hsz := tsz2 5 n1 v1 x r
      have hp1 := tsz_pos x
      have hp2 := tsz_pos r
      have hself : Sub ss b1 B := by
        have hk := hb4 (by omega)
        obtain ⟨kb, nb, vb, lb⟩ := b1
        obtain ⟨kB, nB, vB, lB⟩ := B
        simp only [kof, nof, vof, lof] at hb1 hb2 hb3 hk hkb5
        subst hb1 hb2 hb3
        exact .con _ _ _ _ _ _ (.con _ (by simp only [kof]; omega)) (by omega) hk
      have hrw := rows_law hX (v := v1) hE hx0 hr0 hself (eqv_row _ _ _ (Nat.le_refl _) hr) (ih x t (by omega) (by omega) hx) (ih r rest (by omega) (by omega) hr) _ (hu.keep hkB)
      rw [row_c, tyc_w b1, tyw] at hrw
      simp only [kof_mk, nof_mk, vof_mk, lof_mk, tycs, List.append_nil, tyc_w x0, tyc_w r0, tyw, List.length_cons, List.length_nil, List.cons_append, List.nil_append, Nat.zero_add, Nat.reduceAdd] at hrw hkB ⊢
      simp only [z1, z2, z3, z4, f1, f2, Nat.le_add_left, go_sem, ↓reduceIte, reduceCtorEq, Nat.reduceEqDiff, Nat.reduceAdd, Nat.reduceSub, Nat.reduceMul, Nat.reduceLeDiff, Nat.reduceLT, loadA, rdCells, storeA, setAt, binA]
      refine WO_callx _ rfl (hrw.mono ?_)
      rintro w4 S4 ⟨rfl, hk4⟩
      simp only [go_sem, ↓reduceIte, reduceCtorEq, Nat.reduceEqDiff, Nat.reduceAdd, Nat.reduceSub, Nat.reduceMul, Nat.reduceLeDiff, Nat.reduceLT, loadA, rdCells, storeA, setAt, binA]
      exact ⟨by simp, _, rfl, rfl, hkB.trans hk4⟩
    | app k n n' v v' l l' h0 h5 hnn hs =>
      simp only [kof_mk, nof_mk, vof_mk, lof_mk] at ha1 ha2 ha3 ha4 hb1 hb2 hb3 hb4
      have hsa := ha4 h0
      have hsb := hb4 h0
      have z1 : (kof a1 == 0) = false := by rw [ha1]; simpa using h0
      have z2 : (kof b1 == 0) = false := by rw [hb1]; simpa using h0
      have z3 : (kof a1 == 5) = false := by rw [ha1]; simpa using h5
      have z4 : (kof a1 != kof b1) = false := by rw [ha1, hb1]; simp
      have z5 : ((nof a1).toList == (nof b1).toList) = true := by rw [ha2, hb2]; exact hnn
      have l1 := subs_len hsa
      have l2 := subs_len hsb
      have l3 := eqvs_len hs
      have z6 : (((lof a1).length : Int) != ((lof b1).length : Int)) = false := by simp; omega
      have lsl : ∀ (cs : List AV) (m : Nat) (f : Bool) (tk : Option Nat), lenA (.sl cs m f tk) = some (.int .i64 m) := fun _ _ _ _ => rfl
      simp only [z1, z2, z3, z4, z5, z6, f1, f2, lsl, Nat.le_add_left, go_sem, ↓reduceIte, reduceCtorEq, Nat.reduceEqDiff, Nat.reduceAdd, Nat.reduceSub, Nat.reduceMul, Nat.reduceLeDiff, Nat.reduceLT, loadA, rdCells, storeA, setAt, binA]
      have hll := len_tszs l
      rw [tsz] at hn
      refine W_loop_nat (fun kk e S => ∃ (i : Nat), i + kk = (lof a1).length ∧ e 0 = .ptr b 0 ∧ e 4 = .ptr s.size 0 ∧ e 5 = .ptr (s.size + 1) 0 ∧ e 76 = .int .i64 (lof a1).length ∧ e 77 = .int .i64 i ∧ S.obj s.size = some (.cells [.int .i64 (kof a1), .str (nof a1), .int .i64 (vof a1), .sl (tycs (lof a1)) (lof a1).length false none]) ∧ S.obj (s.size + 1) = some (.cells [.int .i64 (kof b1), .str (nof b1), .int .i64 (vof b1), .sl (tycs (lof b1)) (lof b1).length false none]) ∧ s.size + 1 < S.size ∧ Keep s S) ?_ (lof a1).length _ _
        ⟨0, by simp, ?_, ?_, ?_, ?_, ?_, by rw [put_ne (by omega), put_eq], by rw [put_eq], by simp only [St.put]; omega, hkB⟩
      · rintro kk e S ⟨i, hik, i0, i4, i5, i76, i77, hoa, hob, hz, hkp⟩
        by_cases hi : i < (lof a1).length
        · have hd : decide ((i : Int) < ((lof a1).length : Int)) = true := by simp; omega
          obtain ⟨ai, hai⟩ : ∃ x, (lof a1)[i]? = some x := ⟨_, List.getElem?_eq_getElem hi⟩
          obtain ⟨bi, hbi⟩ : ∃ x, (lof b1)[i]? = some x := ⟨_, List.getElem?_eq_getElem (by omega)⟩
          obtain ⟨Ai, hAi, hsA⟩ := subs_at hsa hai
          obtain ⟨Bi, hBi, hsB⟩ := subs_at hsb hbi
          obtain ⟨Bi', hBi', hev⟩ := eqvs_at hs hAi
          obtain rfl : Bi' = Bi := by rw [hBi] at hBi'; cases hBi'; rfl
          have hta := tsz_at hAi
          have hat := (isl_tycs (lof a1)).at tyc_len hai
          have hbt := (isl_tycs (lof b1)).at tyc_len hbi
          have hcl := ih Ai Bi' (by omega) (by omega) hev ai bi hsA hsB S (hu.keep hkp)
          rw [tyc_w ai, tyw] at hat
          rw [tyc_w bi, tyw] at hbt
          rw [tyc_w ai, tyc_w bi, tyw, tyw] at hcl
          simp only [cf69_l0, i0, i4, i5, i76, i77, hd, hoa, hob, hat, hbt, Nat.le_add_left, go_sem, ↓reduceIte, reduceCtorEq, Nat.reduceEqDiff, Nat.reduceAdd, Nat.reduceSub, Nat.reduceMul, Nat.reduceLeDiff, Nat.reduceLT, loadA, rdCells, storeA, setAt, binA]
          refine WR_callx _ rfl (hcl.mono ?_)
          rintro w4 S4 ⟨rfl, hk4⟩
          have d0 : ((0 : Int) != 0) = false := rfl
          simp only [i0, i4, i5, i76, i77, d0, wrapn (n := i) (by omega), go_sem, ↓reduceIte, reduceCtorEq, Nat.reduceEqDiff, Nat.reduceAdd, Nat.reduceSub, Nat.reduceMul, Nat.reduceLeDiff, Nat.reduceLT, loadA, rdCells, storeA, setAt, binA]
          exact ⟨kk - 1, by omega, i + 1, by omega, rfl, hk4.obj (by omega) hoa, hk4.obj (by omega) hob, hk4.lt hz, hkp.trans hk4⟩
        · have hd : decide ((i : Int) < ((lof a1).length : Int)) = false := by simp; omega
          simp only [cf69_l0, i0, i4, i5, i76, i77, hd, go_sem, ↓reduceIte, reduceCtorEq, Nat.reduceEqDiff, Nat.reduceAdd, Nat.reduceSub, Nat.reduceMul, Nat.reduceLeDiff, Nat.reduceLT, loadA, rdCells, storeA, setAt, binA]
          exact ⟨by simp, _, rfl, rfl, hkp⟩
      · simp only [go_sem, ↓reduceIte, reduceCtorEq, Nat.reduceEqDiff, Nat.reduceAdd, Nat.reduceSub, Nat.reduceMul, Nat.reduceLeDiff, Nat.reduceLT, loadA, rdCells, storeA, setAt, binA]
      · simp only [go_sem, ↓reduceIte, reduceCtorEq, Nat.reduceEqDiff, Nat.reduceAdd, Nat.reduceSub, Nat.reduceMul, Nat.reduceLeDiff, Nat.reduceLT, loadA, rdCells, storeA, setAt, binA]
      · simp only [go_sem, ↓reduceIte, reduceCtorEq, Nat.reduceEqDiff, Nat.reduceAdd, Nat.reduceSub, Nat.reduceMul, Nat.reduceLeDiff, Nat.reduceLT, loadA, rdCells, storeA, setAt, binA]
      · simp only [go_sem, ↓reduceIte, reduceCtorEq, Nat.reduceEqDiff, Nat.reduceAdd, Nat.reduceSub, Nat.reduceMul, Nat.reduceLeDiff, Nat.reduceLT, loadA, rdCells, storeA, setAt, binA]
      · simp only [go_sem, ↓reduceIte, reduceCtorEq, Nat.reduceEqDiff, Nat.reduceAdd, Nat.reduceSub, Nat.reduceMul, Nat.reduceLeDiff, Nat.reduceLT, loadA, rdCells, storeA, setAt, binA]; rfl
end Go.Am.U1
