/- The unifier's runs are the machine's. Conditions: none. -/
import Derived.Test.YtfleakoephmgaaaDoorUtH
set_option linter.unusedSimpArgs false
set_option linter.unusedVariables false
namespace Go.Am.U1
open Go.Am.Un
set_option maxRecDepth 100000
set_option linter.unusedSimpArgs false
attribute [local go_sem] wseq COp.isStore wreg wdreg wret wskip wexit wblock wcnd cnd_t cnd_f then_n then_x then_r catch_n rnd_n rnd_x rnd_r catch_x catch_r wo_nil wo_grd grdO_t grdO_f wo_ops stpO wr_nil wr_alloc wr_guards grdR_t grdR_f wr_ops stpR evAllocs evOp env0_app eput_some eput_none eset_app Opd.ev wantedA faddrA snew_obj snew_size sput_obj sput_size av_cells av_one av_strip av_still unA eqbA fillA fldA lensA mmA mm2 mmFold List.getD_cons_zero List.getD_cons_succ List.getD_nil List.length_cons List.length_nil List.drop_zero List.drop_succ_cons List.take_succ_cons List.take_zero List.map_cons List.map_nil List.set_cons_zero List.set_cons_succ List.all_cons List.all_nil List.getElem?_cons_zero List.getElem?_cons_succ List.nil_append List.cons_append Nat.zero_add Nat.add_zero beq_self_eq_true bt bf Bool.not_true Bool.not_false Bool.and_true Bool.true_and Bool.and_false Bool.false_and and_self and_true true_and n0 n1 n2 n3 n4 m0 m1 m2 m3 c1 retA resAs resA undefA Option.map_some Option.map_none
variable {X : Ext}

theorem bd_det {ss s1 s2 : List Tm} {i : Nat} {t : Tm} {e1 e2 : Int} (h1 : BdR ss i t e1 s1) (h2 : BdR ss i t e2 s2) : e1 = e2 ∧ s1 = s2 := by
  rcases h1 with ⟨a, b, rfl, rfl⟩ | ⟨a, b, rfl, rfl⟩ | ⟨a, b, rfl, rfl⟩
  · rcases h2 with ⟨_, _, rfl, rfl⟩ | ⟨c, -⟩ | ⟨c, -⟩
    · exact ⟨rfl, rfl⟩
    · exact absurd ⟨a, b⟩ c
    · exact absurd ⟨a, b⟩ c
  · rcases h2 with ⟨c, d, -⟩ | ⟨_, _, rfl, rfl⟩ | ⟨_, d, -⟩
    · exact absurd ⟨c, d⟩ a
    · exact ⟨rfl, rfl⟩
    · exact absurd b d
  · rcases h2 with ⟨c, d, -⟩ | ⟨_, d, -⟩ | ⟨_, _, rfl, rfl⟩
    · exact absurd ⟨c, d⟩ a
    · exact absurd d b
    · exact ⟨rfl, rfl⟩

/-- What the machine does with the work. -/
def JC (X : Ext) (b : Nat) (ss : List Tm) (j : Jb) (e : Int) (ss' : List Tm) : Prop := match j with
  | .un a c => ∀ p s, b ≠ p → US s b p ss → WC T X 69 [.ptr b 0, .agg (tyc a), .agg (tyc c)] s (fun r s' => r = .int .i64 e ∧ UN b p s ss' s')
  | .rw n v x y c => ∀ p s, b ≠ p → US s b p ss → WC T X 87 [.ptr b 0, .agg (tyc (.mk 5 n v [x, y])), .agg (tyc c)] s (fun r s' => r = .int .i64 e ∧ UN b p s ss' s')
  | .us l m => ∀ (la lb : List Tm) (i : Nat) (k k' v v' : Int) (n n' : ByteArray) (E : Env) (S : St) (p c : Nat), la.drop i = l → lb.drop i = m → la.length = lb.length → la.length ≤ 1099511627776 → b ≠ p → US S b p ss →
      E 0 = .ptr b 0 → E 4 = .ptr c 0 → E 5 = .ptr (c + 1) 0 → E 76 = .int .i64 la.length → E 77 = .int .i64 i → S.obj c = some (.cells [.int .i64 k, .str n, .int .i64 v, .sl (tycs la) la.length false none]) → S.obj (c + 1) = some (.cells [.int .i64 k', .str n', .int .i64 v', .sl (tycs lb) lb.length false none]) →
      c + 1 < S.size → c ≠ b → c + 1 ≠ b → c ≠ p → c + 1 ≠ p →
      W T X (.loop cf69_l0) E S (fun x E' S' => UN b p S ss' S' ∧ ((x = .exit 1 ∧ e = 0) ∨ (x = .ret ∧ e ≠ 0 ∧ E' 6 = .int .i64 e)))

theorem um_comp {b p p1 M : Nat} {s s1 s2 : St} {ss2 : List Tm} (hpp : p1 = p ∨ M ≤ p1) (hM : M ≤ s1.size) (hs : s.size ≤ M) (k : KB b p s s1) (h : UN b p1 s1 ss2 s2) : UM b p M s ss2 s2 := by
  obtain ⟨p2, u2, hb2, hp2, k2⟩ := h
  refine ⟨p2, u2, hb2, ?_, Nat.le_trans k.1 k2.1, fun j hj a c => ?_⟩
  · rcases hp2 with h | h
    · rw [h]; exact hpp
    · exact Or.inr (Nat.le_trans hM h)
  · rw [k2.2 j (Nat.lt_of_lt_of_le hj k.1) a (by rcases hpp with h | h <;> omega), k.2 j hj a c]

set_option maxHeartbeats 16000000 in
theorem un_law (hX : NoX X) {b : Nat} {ss ss' : List Tm} {j : Jb} {e : Int} (h : Un ss j e ss') : Fine ss → ss.length ≤ 4096 → JWt ss.length j → JC X b ss j e ss' := by
  induction h with
  | bl ss a0 b0 b' i e ss' wa wb h =>
    intro hf hl hj
    have hbs := fun (p : Nat) S (hbp : b ≠ p) (hu : US S b p ss) => bind_law hX hf.1.choose_spec (by omega) (walk_var wa) (fine_walk hf wb hj.2) hbp S hu
    intro p s hbp hu
    refine WC_fn cf69 (hX 69 (by decide)) T69 (by simp [cf69]) ?_
    have hla := fun S (hk : Keep s S) => walk_law hX wa S (hu.keep hk).rd
    have hlb := fun S (hk : Keep s S) => walk_law hX wb S (hu.keep hk).rd
    have hk1 := (((Keep.refl s).new' (.cells (tyc a0))).new' (.cells (tyc b0)))
    rw [tyc_w a0, tyw, vtm_c] at hla
    rw [tyc_w b0, tyw, tyc_w b', tyw] at hlb
    rw [tyc_w a0, tyw, tyc_w b0, tyw] at hk1 ⊢
    simp only [cf69, go_sem, ↓reduceIte, reduceCtorEq, Nat.reduceEqDiff, Nat.reduceAdd, Nat.reduceSub, Nat.reduceMul, Nat.reduceLeDiff, Nat.reduceLT, loadA, rdCells, storeA, setAt, binA]
    refine W_dreg ?_
    simp only [wt_ops, stpT, Tr, hu.1, wt_alloc, wt_nil, chk1, avr, ne_a hu.2.2.1, ne_b hu.2.2.1, ne_c hu.2.2.1, ne_d hu.2.2.1, ne_e hu.2.2.1, ne_f hu.2.2.1, Bool.or_true, Nat.le_add_left, go_sem, ↓reduceIte, reduceCtorEq, Nat.reduceEqDiff, Nat.reduceAdd, Nat.reduceSub, Nat.reduceMul, Nat.reduceLeDiff, Nat.reduceLT, loadA, rdCells, storeA, setAt, binA]
    refine WT_callx _ rfl ((hla _ hk1).mono ?_)
    rintro w2 S2 ⟨rfl, hk2⟩
    have hz2 := hk2.1
    simp only [St.new] at hz2
    have e1 := hk2.2 s.size (by simp only [St.new]; omega)
    have e2 := hk2.2 (s.size + 1) (by simp only [St.new]; omega)
    simp only [go_sem, ↓reduceIte, reduceCtorEq, Nat.reduceEqDiff, Nat.reduceAdd, Nat.reduceSub, Nat.reduceMul, Nat.reduceLeDiff, Nat.reduceLT, loadA, rdCells, storeA, setAt, binA] at e1 e2
    have hu2 := hu.keep (hk1.trans hk2)
    simp only [wt_ops, stpT, Tr, hu.1, hu2.1, e1, e2, wt_alloc, wt_nil, chk1, avr, ne_a hu.2.2.1, ne_b hu.2.2.1, ne_c hu.2.2.1, ne_d hu.2.2.1, ne_e hu.2.2.1, ne_f hu.2.2.1, Bool.or_true, Nat.le_add_left, go_sem, ↓reduceIte, reduceCtorEq, Nat.reduceEqDiff, Nat.reduceAdd, Nat.reduceSub, Nat.reduceMul, Nat.reduceLeDiff, Nat.reduceLT, loadA, rdCells, storeA, setAt, binA]
    refine WT_callx _ rfl ((hlb _ (hk1.trans hk2)).mono ?_)
    rintro w3 S3 ⟨rfl, hk3⟩
    have hz3 := hk3.1
    have f1 := (hk3.2 s.size (by omega)).trans e1
    have f2 := (hk3.2 (s.size + 1) (by omega)).trans e2
    simp only [wt_ops, stpT, Tr, hu.1, hu2.1, e1, e2, f1, f2, wt_alloc, wt_nil, chk1, avr, ne_a hu.2.2.1, ne_b hu.2.2.1, ne_c hu.2.2.1, ne_d hu.2.2.1, ne_e hu.2.2.1, ne_f hu.2.2.1, Bool.or_true, Nat.le_add_left, go_sem, ↓reduceIte, reduceCtorEq, Nat.reduceEqDiff, Nat.reduceAdd, Nat.reduceSub, Nat.reduceMul, Nat.reduceLeDiff, Nat.reduceLT, loadA, rdCells, storeA, setAt, binA]
    have hkA : Keep s S3 := (hk1.trans hk2).trans hk3
    obtain ⟨SA, hSA⟩ : ∃ SA, SA = (S3.put s.size (some (.cells [.int .i64 0, .str ⟨#[]⟩, .int .i64 i, .sl [] 0 false none]))).put (s.size + 1) (some (.cells [.int .i64 (kof b'), .str (nof b'), .int .i64 (vof b'), .sl (tycs (lof b')) (lof b').length false none])) := ⟨_, rfl⟩
    have hkB : Keep s SA := by rw [hSA]; exact (hkA.put' (Nat.le_refl s.size) _).put' (by omega : s.size ≤ s.size + 1) _
    have g1 : SA.obj s.size = some (.cells [.int .i64 0, .str ⟨#[]⟩, .int .i64 i, .sl [] 0 false none]) := by rw [hSA, put_ne (by omega), put_eq]
    have g2 : SA.obj (s.size + 1) = some (.cells [.int .i64 (kof b'), .str (nof b'), .int .i64 (vof b'), .sl (tycs (lof b')) (lof b').length false none]) := by rw [hSA, put_eq]
    have hzA : SA.size = S3.size := by rw [hSA]; rfl
    have huA := hu.keep hkB
    have hb0' := hu.2.2.1
    have hp0' := hu.2.2.2
    rw [← hSA]
    have z1 : ((0 : Int) == 0) = true := rfl
    have hbs' := hbs p SA hbp huA
    rw [tyc_w b', tyw] at hbs'
    refine WO_callx _ rfl (hbs'.mono ?_)
    rintro w4 S4 ⟨er, sr, rfl, hbd, hu4, hkb⟩
    obtain ⟨q1, q2⟩ := bd_det h hbd
    subst q1 q2
    simp only [go_sem, ↓reduceIte, reduceCtorEq, Nat.reduceEqDiff, Nat.reduceAdd, Nat.reduceSub, Nat.reduceMul, Nat.reduceLeDiff, Nat.reduceLT, loadA, rdCells, storeA, setAt, binA]
    exact ⟨by simp, _, rfl, rfl, UN.from ⟨p, hu4, hbp, Or.inl rfl, hkb⟩ hkB⟩
  | br ss a0 b0 a' i e ss' wa ha wb h =>
    intro hf hl hj
    have hbs := fun (p : Nat) S (hbp : b ≠ p) (hu : US S b p ss) => bind_law hX hf.1.choose_spec (by omega) (walk_var wb) (fine_walk hf wa hj.1) hbp S hu
    intro p s hbp hu
    refine WC_fn cf69 (hX 69 (by decide)) T69 (by simp [cf69]) ?_
    have hla := fun S (hk : Keep s S) => walk_law hX wa S (hu.keep hk).rd
    have hlb := fun S (hk : Keep s S) => walk_law hX wb S (hu.keep hk).rd
    have hk1 := (((Keep.refl s).new' (.cells (tyc a0))).new' (.cells (tyc b0)))
    rw [tyc_w a0, tyw, tyc_w a', tyw] at hla
    rw [tyc_w b0, tyw, vtm_c] at hlb
    rw [tyc_w a0, tyw, tyc_w b0, tyw] at hk1 ⊢
    simp only [cf69, go_sem, ↓reduceIte, reduceCtorEq, Nat.reduceEqDiff, Nat.reduceAdd, Nat.reduceSub, Nat.reduceMul, Nat.reduceLeDiff, Nat.reduceLT, loadA, rdCells, storeA, setAt, binA]
    refine W_dreg ?_
    simp only [wt_ops, stpT, Tr, hu.1, wt_alloc, wt_nil, chk1, avr, ne_a hu.2.2.1, ne_b hu.2.2.1, ne_c hu.2.2.1, ne_d hu.2.2.1, ne_e hu.2.2.1, ne_f hu.2.2.1, Bool.or_true, Nat.le_add_left, go_sem, ↓reduceIte, reduceCtorEq, Nat.reduceEqDiff, Nat.reduceAdd, Nat.reduceSub, Nat.reduceMul, Nat.reduceLeDiff, Nat.reduceLT, loadA, rdCells, storeA, setAt, binA]
    refine WT_callx _ rfl ((hla _ hk1).mono ?_)
    rintro w2 S2 ⟨rfl, hk2⟩
    have hz2 := hk2.1
    simp only [St.new] at hz2
    have e1 := hk2.2 s.size (by simp only [St.new]; omega)
    have e2 := hk2.2 (s.size + 1) (by simp only [St.new]; omega)
    simp only [go_sem, ↓reduceIte, reduceCtorEq, Nat.reduceEqDiff, Nat.reduceAdd, Nat.reduceSub, Nat.reduceMul, Nat.reduceLeDiff, Nat.reduceLT, loadA, rdCells, storeA, setAt, binA] at e1 e2
    have hu2 := hu.keep (hk1.trans hk2)
    simp only [wt_ops, stpT, Tr, hu.1, hu2.1, e1, e2, wt_alloc, wt_nil, chk1, avr, ne_a hu.2.2.1, ne_b hu.2.2.1, ne_c hu.2.2.1, ne_d hu.2.2.1, ne_e hu.2.2.1, ne_f hu.2.2.1, Bool.or_true, Nat.le_add_left, go_sem, ↓reduceIte, reduceCtorEq, Nat.reduceEqDiff, Nat.reduceAdd, Nat.reduceSub, Nat.reduceMul, Nat.reduceLeDiff, Nat.reduceLT, loadA, rdCells, storeA, setAt, binA]
    refine WT_callx _ rfl ((hlb _ (hk1.trans hk2)).mono ?_)
    rintro w3 S3 ⟨rfl, hk3⟩
    have hz3 := hk3.1
    have f1 := (hk3.2 s.size (by omega)).trans e1
    have f2 := (hk3.2 (s.size + 1) (by omega)).trans e2
    simp only [wt_ops, stpT, Tr, hu.1, hu2.1, e1, e2, f1, f2, wt_alloc, wt_nil, chk1, avr, ne_a hu.2.2.1, ne_b hu.2.2.1, ne_c hu.2.2.1, ne_d hu.2.2.1, ne_e hu.2.2.1, ne_f hu.2.2.1, Bool.or_true, Nat.le_add_left, go_sem, ↓reduceIte, reduceCtorEq, Nat.reduceEqDiff, Nat.reduceAdd, Nat.reduceSub, Nat.reduceMul, Nat.reduceLeDiff, Nat.reduceLT, loadA, rdCells, storeA, setAt, binA]
    have hkA : Keep s S3 := (hk1.trans hk2).trans hk3
    obtain ⟨SA, hSA⟩ : ∃ SA, SA = (S3.put s.size (some (.cells [.int .i64 (kof a'), .str (nof a'), .int .i64 (vof a'), .sl (tycs (lof a')) (lof a').length false none]))).put (s.size + 1) (some (.cells [.int .i64 0, .str ⟨#[]⟩, .int .i64 i, .sl [] 0 false none])) := ⟨_, rfl⟩
    have hkB : Keep s SA := by rw [hSA]; exact (hkA.put' (Nat.le_refl s.size) _).put' (by omega : s.size ≤ s.size + 1) _
    have g1 : SA.obj s.size = some (.cells [.int .i64 (kof a'), .str (nof a'), .int .i64 (vof a'), .sl (tycs (lof a')) (lof a').length false none]) := by rw [hSA, put_ne (by omega), put_eq]
    have g2 : SA.obj (s.size + 1) = some (.cells [.int .i64 0, .str ⟨#[]⟩, .int .i64 i, .sl [] 0 false none]) := by rw [hSA, put_eq]
    have hzA : SA.size = S3.size := by rw [hSA]; rfl
    have huA := hu.keep hkB
    have hb0' := hu.2.2.1
    have hp0' := hu.2.2.2
    rw [← hSA]
    have z0 : (kof a' == 0) = false := by simpa using ha
    have z1 : ((0 : Int) == 0) = true := rfl
    have hbs' := hbs p SA hbp huA
    rw [tyc_w a', tyw] at hbs'
    simp only [z0, z1, g1, g2, Nat.le_add_left, go_sem, ↓reduceIte, reduceCtorEq, Nat.reduceEqDiff, Nat.reduceAdd, Nat.reduceSub, Nat.reduceMul, Nat.reduceLeDiff, Nat.reduceLT, loadA, rdCells, storeA, setAt, binA]
    refine WO_callx _ rfl (hbs'.mono ?_)
    rintro w4 S4 ⟨er, sr, rfl, hbd, hu4, hkb⟩
    obtain ⟨q1, q2⟩ := bd_det h hbd
    subst q1 q2
    simp only [go_sem, ↓reduceIte, reduceCtorEq, Nat.reduceEqDiff, Nat.reduceAdd, Nat.reduceSub, Nat.reduceMul, Nat.reduceLeDiff, Nat.reduceLT, loadA, rdCells, storeA, setAt, binA]
    exact ⟨by simp, _, rfl, rfl, UN.from ⟨p, hu4, hbp, Or.inl rfl, hkb⟩ hkB⟩
  | row ss a0 b0 b' n v x y e ss' wa wb hb h ih =>
    intro hf hl hj
    have hxy := row_wt (fine_walk hf wa hj.1)
    have hrw := ih hf hl ⟨hxy.1, hxy.2, fine_walk hf wb hj.2⟩
    intro p s hbp hu
    refine WC_fn cf69 (hX 69 (by decide)) T69 (by simp [cf69]) ?_
    have hla := fun S (hk : Keep s S) => walk_law hX wa S (hu.keep hk).rd
    have hlb := fun S (hk : Keep s S) => walk_law hX wb S (hu.keep hk).rd
    have hk1 := (((Keep.refl s).new' (.cells (tyc a0))).new' (.cells (tyc b0)))
    rw [tyc_w a0, tyw, row_c] at hla
    rw [tyc_w b0, tyw, tyc_w b', tyw] at hlb
    rw [tyc_w a0, tyw, tyc_w b0, tyw] at hk1 ⊢
    simp only [cf69, go_sem, ↓reduceIte, reduceCtorEq, Nat.reduceEqDiff, Nat.reduceAdd, Nat.reduceSub, Nat.reduceMul, Nat.reduceLeDiff, Nat.reduceLT, loadA, rdCells, storeA, setAt, binA]
    refine W_dreg ?_
    simp only [wt_ops, stpT, Tr, hu.1, wt_alloc, wt_nil, chk1, avr, ne_a hu.2.2.1, ne_b hu.2.2.1, ne_c hu.2.2.1, ne_d hu.2.2.1, ne_e hu.2.2.1, ne_f hu.2.2.1, Bool.or_true, Nat.le_add_left, go_sem, ↓reduceIte, reduceCtorEq, Nat.reduceEqDiff, Nat.reduceAdd, Nat.reduceSub, Nat.reduceMul, Nat.reduceLeDiff, Nat.reduceLT, loadA, rdCells, storeA, setAt, binA]
    refine WT_callx _ rfl ((hla _ hk1).mono ?_)
    rintro w2 S2 ⟨rfl, hk2⟩
    have hz2 := hk2.1
    simp only [St.new] at hz2
    have e1 := hk2.2 s.size (by simp only [St.new]; omega)
    have e2 := hk2.2 (s.size + 1) (by simp only [St.new]; omega)
    simp only [go_sem, ↓reduceIte, reduceCtorEq, Nat.reduceEqDiff, Nat.reduceAdd, Nat.reduceSub, Nat.reduceMul, Nat.reduceLeDiff, Nat.reduceLT, loadA, rdCells, storeA, setAt, binA] at e1 e2
    have hu2 := hu.keep (hk1.trans hk2)
    simp only [wt_ops, stpT, Tr, hu.1, hu2.1, e1, e2, wt_alloc, wt_nil, chk1, avr, ne_a hu.2.2.1, ne_b hu.2.2.1, ne_c hu.2.2.1, ne_d hu.2.2.1, ne_e hu.2.2.1, ne_f hu.2.2.1, Bool.or_true, Nat.le_add_left, go_sem, ↓reduceIte, reduceCtorEq, Nat.reduceEqDiff, Nat.reduceAdd, Nat.reduceSub, Nat.reduceMul, Nat.reduceLeDiff, Nat.reduceLT, loadA, rdCells, storeA, setAt, binA]
    refine WT_callx _ rfl ((hlb _ (hk1.trans hk2)).mono ?_)
    rintro w3 S3 ⟨rfl, hk3⟩
    have hz3 := hk3.1
    have f1 := (hk3.2 s.size (by omega)).trans e1
    have f2 := (hk3.2 (s.size + 1) (by omega)).trans e2
    simp only [wt_ops, stpT, Tr, hu.1, hu2.1, e1, e2, f1, f2, wt_alloc, wt_nil, chk1, avr, ne_a hu.2.2.1, ne_b hu.2.2.1, ne_c hu.2.2.1, ne_d hu.2.2.1, ne_e hu.2.2.1, ne_f hu.2.2.1, Bool.or_true, Nat.le_add_left, go_sem, ↓reduceIte, reduceCtorEq, Nat.reduceEqDiff, Nat.reduceAdd, Nat.reduceSub, Nat.reduceMul, Nat.reduceLeDiff, Nat.reduceLT, loadA, rdCells, storeA, setAt, binA]
    have hkA : Keep s S3 := (hk1.trans hk2).trans hk3
    obtain ⟨SA, hSA⟩ : ∃ SA, SA = (S3.put s.size (some (.cells [.int .i64 5, .str n, .int .i64 v, .sl [.int .i64 (kof x), .str (nof x), .int .i64 (vof x), .sl (tycs (lof x)) (lof x).length false none, .int .i64 (kof y), .str (nof y), .int .i64 (vof y), .sl (tycs (lof y)) (lof y).length false none] 2 false none]))).put (s.size + 1) (some (.cells [.int .i64 (kof b'), .str (nof b'), .int .i64 (vof b'), .sl (tycs (lof b')) (lof b').length false none])) := ⟨_, rfl⟩
    have hkB : Keep s SA := by rw [hSA]; exact (hkA.put' (Nat.le_refl s.size) _).put' (by omega : s.size ≤ s.size + 1) _
    have g1 : SA.obj s.size = some (.cells [.int .i64 5, .str n, .int .i64 v, .sl [.int .i64 (kof x), .str (nof x), .int .i64 (vof x), .sl (tycs (lof x)) (lof x).length false none, .int .i64 (kof y), .str (nof y), .int .i64 (vof y), .sl (tycs (lof y)) (lof y).length false none] 2 false none]) := by rw [hSA, put_ne (by omega), put_eq]
    have g2 : SA.obj (s.size + 1) = some (.cells [.int .i64 (kof b'), .str (nof b'), .int .i64 (vof b'), .sl (tycs (lof b')) (lof b').length false none]) := by rw [hSA, put_eq]
    have hzA : SA.size = S3.size := by rw [hSA]; rfl
    have huA := hu.keep hkB
    have hb0' := hu.2.2.1
    have hp0' := hu.2.2.2
    rw [← hSA]
    have z0 : ((5 : Int) == 0) = false := rfl
    have z5 : ((5 : Int) == 5) = true := rfl
    have zb : (kof b' == 0) = false := by simp; omega
    have zb4 : decide (kof b' ≥ 4) = true := by simpa using hb
    have hrw' := hrw p SA hbp huA
    rw [row_c, tyc_w b', tyw] at hrw'
    simp only [z0, z5, zb, zb4, g1, g2, Nat.le_add_left, go_sem, ↓reduceIte, reduceCtorEq, Nat.reduceEqDiff, Nat.reduceAdd, Nat.reduceSub, Nat.reduceMul, Nat.reduceLeDiff, Nat.reduceLT, loadA, rdCells, storeA, setAt, binA]
    refine WO_callx _ rfl (hrw'.mono ?_)
    rintro w4 S4 ⟨rfl, hun⟩
    simp only [go_sem, ↓reduceIte, reduceCtorEq, Nat.reduceEqDiff, Nat.reduceAdd, Nat.reduceSub, Nat.reduceMul, Nat.reduceLeDiff, Nat.reduceLT, loadA, rdCells, storeA, setAt, binA]
    exact ⟨by simp, _, rfl, rfl, hun.from hkB⟩
  | bad ss a0 b0 a' b' wa wb ha hb hr hn =>
    intro hf hl hj
    intro p s hbp hu
    refine WC_fn cf69 (hX 69 (by decide)) T69 (by simp [cf69]) ?_
    have hla := fun S (hk : Keep s S) => walk_law hX wa S (hu.keep hk).rd
    have hlb := fun S (hk : Keep s S) => walk_law hX wb S (hu.keep hk).rd
    have hk1 := (((Keep.refl s).new' (.cells (tyc a0))).new' (.cells (tyc b0)))
    rw [tyc_w a0, tyw, tyc_w a', tyw] at hla
    rw [tyc_w b0, tyw, tyc_w b', tyw] at hlb
    rw [tyc_w a0, tyw, tyc_w b0, tyw] at hk1 ⊢
    simp only [cf69, go_sem, ↓reduceIte, reduceCtorEq, Nat.reduceEqDiff, Nat.reduceAdd, Nat.reduceSub, Nat.reduceMul, Nat.reduceLeDiff, Nat.reduceLT, loadA, rdCells, storeA, setAt, binA]
    refine W_dreg ?_
    simp only [wt_ops, stpT, Tr, hu.1, wt_alloc, wt_nil, chk1, avr, ne_a hu.2.2.1, ne_b hu.2.2.1, ne_c hu.2.2.1, ne_d hu.2.2.1, ne_e hu.2.2.1, ne_f hu.2.2.1, Bool.or_true, Nat.le_add_left, go_sem, ↓reduceIte, reduceCtorEq, Nat.reduceEqDiff, Nat.reduceAdd, Nat.reduceSub, Nat.reduceMul, Nat.reduceLeDiff, Nat.reduceLT, loadA, rdCells, storeA, setAt, binA]
    refine WT_callx _ rfl ((hla _ hk1).mono ?_)
    rintro w2 S2 ⟨rfl, hk2⟩
    have hz2 := hk2.1
    simp only [St.new] at hz2
    have e1 := hk2.2 s.size (by simp only [St.new]; omega)
    have e2 := hk2.2 (s.size + 1) (by simp only [St.new]; omega)
    simp only [go_sem, ↓reduceIte, reduceCtorEq, Nat.reduceEqDiff, Nat.reduceAdd, Nat.reduceSub, Nat.reduceMul, Nat.reduceLeDiff, Nat.reduceLT, loadA, rdCells, storeA, setAt, binA] at e1 e2
    have hu2 := hu.keep (hk1.trans hk2)
    simp only [wt_ops, stpT, Tr, hu.1, hu2.1, e1, e2, wt_alloc, wt_nil, chk1, avr, ne_a hu.2.2.1, ne_b hu.2.2.1, ne_c hu.2.2.1, ne_d hu.2.2.1, ne_e hu.2.2.1, ne_f hu.2.2.1, Bool.or_true, Nat.le_add_left, go_sem, ↓reduceIte, reduceCtorEq, Nat.reduceEqDiff, Nat.reduceAdd, Nat.reduceSub, Nat.reduceMul, Nat.reduceLeDiff, Nat.reduceLT, loadA, rdCells, storeA, setAt, binA]
    refine WT_callx _ rfl ((hlb _ (hk1.trans hk2)).mono ?_)
    rintro w3 S3 ⟨rfl, hk3⟩
    have hz3 := hk3.1
    have f1 := (hk3.2 s.size (by omega)).trans e1
    have f2 := (hk3.2 (s.size + 1) (by omega)).trans e2
    simp only [wt_ops, stpT, Tr, hu.1, hu2.1, e1, e2, f1, f2, wt_alloc, wt_nil, chk1, avr, ne_a hu.2.2.1, ne_b hu.2.2.1, ne_c hu.2.2.1, ne_d hu.2.2.1, ne_e hu.2.2.1, ne_f hu.2.2.1, Bool.or_true, Nat.le_add_left, go_sem, ↓reduceIte, reduceCtorEq, Nat.reduceEqDiff, Nat.reduceAdd, Nat.reduceSub, Nat.reduceMul, Nat.reduceLeDiff, Nat.reduceLT, loadA, rdCells, storeA, setAt, binA]
    have hkA : Keep s S3 := (hk1.trans hk2).trans hk3
    obtain ⟨SA, hSA⟩ : ∃ SA, SA = (S3.put s.size (some (.cells [.int .i64 (kof a'), .str (nof a'), .int .i64 (vof a'), .sl (tycs (lof a')) (lof a').length false none]))).put (s.size + 1) (some (.cells [.int .i64 (kof b'), .str (nof b'), .int .i64 (vof b'), .sl (tycs (lof b')) (lof b').length false none])) := ⟨_, rfl⟩
    have hkB : Keep s SA := by rw [hSA]; exact (hkA.put' (Nat.le_refl s.size) _).put' (by omega : s.size ≤ s.size + 1) _
    have g1 : SA.obj s.size = some (.cells [.int .i64 (kof a'), .str (nof a'), .int .i64 (vof a'), .sl (tycs (lof a')) (lof a').length false none]) := by rw [hSA, put_ne (by omega), put_eq]
    have g2 : SA.obj (s.size + 1) = some (.cells [.int .i64 (kof b'), .str (nof b'), .int .i64 (vof b'), .sl (tycs (lof b')) (lof b').length false none]) := by rw [hSA, put_eq]
    have hzA : SA.size = S3.size := by rw [hSA]; rfl
    have huA := hu.keep hkB
    have hb0' := hu.2.2.1
    have hp0' := hu.2.2.2
    rw [← hSA]
    have za : (kof a' == 0) = false := by simpa using ha
    have zb : (kof b' == 0) = false := by simpa using hb
    have la : lenA (.sl (tycs (lof a')) (lof a').length false none) = some (.int .i64 (lof a').length) := rfl
    have lb : lenA (.sl (tycs (lof b')) (lof b').length false none) = some (.int .i64 (lof b').length) := rfl
    have fin : ∀ (P : Prop), P → P := fun _ h => h
    cases h5 : (kof a' == 5) <;> cases h4 : decide (kof b' ≥ 4)
    case true.true => exact absurd ⟨by simpa using h5, by simpa using h4⟩ hr
    all_goals
      simp only [za, zb, h5, h4, g1, g2, la, lb, Nat.le_add_left, go_sem, ↓reduceIte, reduceCtorEq, Nat.reduceEqDiff, Nat.reduceAdd, Nat.reduceSub, Nat.reduceMul, Nat.reduceLeDiff, Nat.reduceLT, loadA, rdCells, storeA, setAt, binA]
      cases c1 : (kof a' != kof b')
      · simp only [c1, za, zb, h5, h4, g1, g2, la, lb, Nat.le_add_left, go_sem, ↓reduceIte, reduceCtorEq, Nat.reduceEqDiff, Nat.reduceAdd, Nat.reduceSub, Nat.reduceMul, Nat.reduceLeDiff, Nat.reduceLT, loadA, rdCells, storeA, setAt, binA]
        cases c2 : ((nof a').toList == (nof b').toList)
        · simp only [c1, c2, za, zb, h5, h4, g1, g2, la, lb, Bool.not_false, Nat.le_add_left, go_sem, ↓reduceIte, reduceCtorEq, Nat.reduceEqDiff, Nat.reduceAdd, Nat.reduceSub, Nat.reduceMul, Nat.reduceLeDiff, Nat.reduceLT, loadA, rdCells, storeA, setAt, binA]
          exact ⟨by simp, _, rfl, rfl, (UN.refl huA hbp).from hkB⟩
        · simp only [c1, c2, za, zb, h5, h4, g1, g2, la, lb, Bool.not_true, Nat.le_add_left, go_sem, ↓reduceIte, reduceCtorEq, Nat.reduceEqDiff, Nat.reduceAdd, Nat.reduceSub, Nat.reduceMul, Nat.reduceLeDiff, Nat.reduceLT, loadA, rdCells, storeA, setAt, binA]
          have c3 : (((lof a').length : Int) != ((lof b').length : Int)) = true := by
            rcases hn with h | h | h
            · simp at c1; exact absurd c1 h
            · rw [c2] at h; cases h
            · simp; omega
          simp only [c1, c2, c3, za, zb, h5, h4, g1, g2, la, lb, Nat.le_add_left, go_sem, ↓reduceIte, reduceCtorEq, Nat.reduceEqDiff, Nat.reduceAdd, Nat.reduceSub, Nat.reduceMul, Nat.reduceLeDiff, Nat.reduceLT, loadA, rdCells, storeA, setAt, binA]
          exact ⟨by simp, _, rfl, rfl, (UN.refl huA hbp).from hkB⟩
      · simp only [c1, za, zb, h5, h4, g1, g2, la, lb, Nat.le_add_left, go_sem, ↓reduceIte, reduceCtorEq, Nat.reduceEqDiff, Nat.reduceAdd, Nat.reduceSub, Nat.reduceMul, Nat.reduceLeDiff, Nat.reduceLT, loadA, rdCells, storeA, setAt, binA]
        exact ⟨by simp, _, rfl, rfl, (UN.refl huA hbp).from hkB⟩
  | args ss a0 b0 k n n' v v' l l' e ss' wa wb hk hr hn hl' h ih =>
    intro hf hl hj
    have hwa := fine_walk hf wa hj.1
    have hwb := fine_walk hf wb hj.2
    have hus := ih hf hl ⟨fun a ha => wt_arg hwa ha, fun a ha => wt_arg hwb ha⟩
    intro p s hbp hu
    refine WC_fn cf69 (hX 69 (by decide)) T69 (by simp [cf69]) ?_
    have hla := fun S (hk : Keep s S) => walk_law hX wa S (hu.keep hk).rd
    have hlb := fun S (hk : Keep s S) => walk_law hX wb S (hu.keep hk).rd
    have hk1 := (((Keep.refl s).new' (.cells (tyc a0))).new' (.cells (tyc b0)))
    rw [tyc_w a0, tyw, tyc] at hla
    rw [tyc_w b0, tyw, tyc] at hlb
    rw [tyc_w a0, tyw, tyc_w b0, tyw] at hk1 ⊢
    simp only [cf69, go_sem, ↓reduceIte, reduceCtorEq, Nat.reduceEqDiff, Nat.reduceAdd, Nat.reduceSub, Nat.reduceMul, Nat.reduceLeDiff, Nat.reduceLT, loadA, rdCells, storeA, setAt, binA]
    refine W_dreg ?_
    simp only [wt_ops, stpT, Tr, hu.1, wt_alloc, wt_nil, chk1, avr, ne_a hu.2.2.1, ne_b hu.2.2.1, ne_c hu.2.2.1, ne_d hu.2.2.1, ne_e hu.2.2.1, ne_f hu.2.2.1, Bool.or_true, Nat.le_add_left, go_sem, ↓reduceIte, reduceCtorEq, Nat.reduceEqDiff, Nat.reduceAdd, Nat.reduceSub, Nat.reduceMul, Nat.reduceLeDiff, Nat.reduceLT, loadA, rdCells, storeA, setAt, binA]
    refine WT_callx _ rfl ((hla _ hk1).mono ?_)
    rintro w2 S2 ⟨rfl, hk2⟩
    have hz2 := hk2.1
    simp only [St.new] at hz2
    have e1 := hk2.2 s.size (by simp only [St.new]; omega)
    have e2 := hk2.2 (s.size + 1) (by simp only [St.new]; omega)
    simp only [go_sem, ↓reduceIte, reduceCtorEq, Nat.reduceEqDiff, Nat.reduceAdd, Nat.reduceSub, Nat.reduceMul, Nat.reduceLeDiff, Nat.reduceLT, loadA, rdCells, storeA, setAt, binA] at e1 e2
    have hu2 := hu.keep (hk1.trans hk2)
    simp only [wt_ops, stpT, Tr, hu.1, hu2.1, e1, e2, wt_alloc, wt_nil, chk1, avr, ne_a hu.2.2.1, ne_b hu.2.2.1, ne_c hu.2.2.1, ne_d hu.2.2.1, ne_e hu.2.2.1, ne_f hu.2.2.1, Bool.or_true, Nat.le_add_left, go_sem, ↓reduceIte, reduceCtorEq, Nat.reduceEqDiff, Nat.reduceAdd, Nat.reduceSub, Nat.reduceMul, Nat.reduceLeDiff, Nat.reduceLT, loadA, rdCells, storeA, setAt, binA]
    refine WT_callx _ rfl ((hlb _ (hk1.trans hk2)).mono ?_)
    rintro w3 S3 ⟨rfl, hk3⟩
    have hz3 := hk3.1
    have f1 := (hk3.2 s.size (by omega)).trans e1
    have f2 := (hk3.2 (s.size + 1) (by omega)).trans e2
    simp only [wt_ops, stpT, Tr, hu.1, hu2.1, e1, e2, f1, f2, wt_alloc, wt_nil, chk1, avr, ne_a hu.2.2.1, ne_b hu.2.2.1, ne_c hu.2.2.1, ne_d hu.2.2.1, ne_e hu.2.2.1, ne_f hu.2.2.1, Bool.or_true, Nat.le_add_left, go_sem, ↓reduceIte, reduceCtorEq, Nat.reduceEqDiff, Nat.reduceAdd, Nat.reduceSub, Nat.reduceMul, Nat.reduceLeDiff, Nat.reduceLT, loadA, rdCells, storeA, setAt, binA]
    have hkA : Keep s S3 := (hk1.trans hk2).trans hk3
    obtain ⟨SA, hSA⟩ : ∃ SA, SA = (S3.put s.size (some (.cells [.int .i64 k, .str n, .int .i64 v, .sl (tycs l) l.length false none]))).put (s.size + 1) (some (.cells [.int .i64 k, .str n', .int .i64 v', .sl (tycs l') l'.length false none])) := ⟨_, rfl⟩
    have hkB : Keep s SA := by rw [hSA]; exact (hkA.put' (Nat.le_refl s.size) _).put' (by omega : s.size ≤ s.size + 1) _
    have g1 : SA.obj s.size = some (.cells [.int .i64 k, .str n, .int .i64 v, .sl (tycs l) l.length false none]) := by rw [hSA, put_ne (by omega), put_eq]
    have g2 : SA.obj (s.size + 1) = some (.cells [.int .i64 k, .str n', .int .i64 v', .sl (tycs l') l'.length false none]) := by rw [hSA, put_eq]
    have hzA : SA.size = S3.size := by rw [hSA]; rfl
    have huA := hu.keep hkB
    have hb0' := hu.2.2.1
    have hp0' := hu.2.2.2
    rw [← hSA]
    have za : (k == 0) = false := by simpa using hk
    have z5 : (k == 5) = false := by simpa using hr
    have la : lenA (.sl (tycs l) l.length false none) = some (.int .i64 l.length) := rfl
    have lb : lenA (.sl (tycs l') l'.length false none) = some (.int .i64 l'.length) := rfl
    have ckk : (k != k) = false := by simp
    have c3 : ((l.length : Int) != (l'.length : Int)) = false := by simp; omega
    simp only [za, z5, ckk, hn, c3, g1, g2, la, lb, Bool.not_true, Nat.le_add_left, go_sem, ↓reduceIte, reduceCtorEq, Nat.reduceEqDiff, Nat.reduceAdd, Nat.reduceSub, Nat.reduceMul, Nat.reduceLeDiff, Nat.reduceLT, loadA, rdCells, storeA, setAt, binA]
    refine (hus l l' 0 k k v v' n n' _ SA p s.size rfl rfl hl' (wt_lof hwa) hbp huA ?_ ?_ ?_ ?_ ?_ g1 g2 (by omega) (by omega) (by omega) (by omega) (by omega)).mono ?_
    · simp only [go_sem, ↓reduceIte, reduceCtorEq, Nat.reduceEqDiff, Nat.reduceAdd, Nat.reduceSub, Nat.reduceMul, Nat.reduceLeDiff, Nat.reduceLT, loadA, rdCells, storeA, setAt, binA]
    · simp only [go_sem, ↓reduceIte, reduceCtorEq, Nat.reduceEqDiff, Nat.reduceAdd, Nat.reduceSub, Nat.reduceMul, Nat.reduceLeDiff, Nat.reduceLT, loadA, rdCells, storeA, setAt, binA]
    · simp only [go_sem, ↓reduceIte, reduceCtorEq, Nat.reduceEqDiff, Nat.reduceAdd, Nat.reduceSub, Nat.reduceMul, Nat.reduceLeDiff, Nat.reduceLT, loadA, rdCells, storeA, setAt, binA]
    · simp only [go_sem, ↓reduceIte, reduceCtorEq, Nat.reduceEqDiff, Nat.reduceAdd, Nat.reduceSub, Nat.reduceMul, Nat.reduceLeDiff, Nat.reduceLT, loadA, rdCells, storeA, setAt, binA]
    · simp only [go_sem, ↓reduceIte, reduceCtorEq, Nat.reduceEqDiff, Nat.reduceAdd, Nat.reduceSub, Nat.reduceMul, Nat.reduceLeDiff, Nat.reduceLT, loadA, rdCells, storeA, setAt, binA]; rfl
    rintro x E' S' ⟨hun, ⟨rfl, rfl⟩ | ⟨rfl, he, h6⟩⟩
    · simp only [go_sem, ↓reduceIte, reduceCtorEq, Nat.reduceEqDiff, Nat.reduceAdd, Nat.reduceSub, Nat.reduceMul, Nat.reduceLeDiff, Nat.reduceLT, loadA, rdCells, storeA, setAt, binA]
      exact ⟨by simp, _, rfl, rfl, hun.from hkB⟩
    · simp only [h6, go_sem, ↓reduceIte, reduceCtorEq, Nat.reduceEqDiff, Nat.reduceAdd, Nat.reduceSub, Nat.reduceMul, Nat.reduceLeDiff, Nat.reduceLT, loadA, rdCells, storeA, setAt, binA]
      exact ⟨by simp, _, rfl, rfl, hun.from hkB⟩
  | nil ss =>
    intro hf hl hj la lb i k k' v v' n n' E S p c hla hlb hll hlen hbp hu E0 E4 E5 E76 E77 hc hc1 hcs hcb hc1b hcp hc1p
    have hi : ¬ i < la.length := by
      have := congrArg List.length hla; rw [List.length_drop, List.length_nil] at this; omega
    have hd : decide ((i : Int) < (la.length : Int)) = false := by simp; omega
    refine W_loop ?_
    simp only [cf69_l0, E0, E4, E5, E76, E77, hd, go_sem, ↓reduceIte, reduceCtorEq, Nat.reduceEqDiff, Nat.reduceAdd, Nat.reduceSub, Nat.reduceMul, Nat.reduceLeDiff, Nat.reduceLT, loadA, rdCells, storeA, setAt, binA]
    exact ⟨UN.refl hu hbp, Or.inl trivial⟩
  | ok ss ss1 ss2 a b0 l m e h hs ih1 ih2 =>
    intro hf hl hj la lb i k k' v v' n n' E S p c hla hlb hll hlen hbp hu E0 E4 E5 E76 E77 hc hc1 hcs hcb hc1b hcp hc1p
    have hi : i < la.length := by
      have := congrArg List.length hla; rw [List.length_drop, List.length_cons] at this; omega
    have ha : la[i]? = some a := by have := congrArg (fun l => l[0]?) hla; simpa [List.getElem?_drop] using this
    have hb : lb[i]? = some b0 := by have := congrArg (fun l => l[0]?) hlb; simpa [List.getElem?_drop] using this
    have hd : decide ((i : Int) < (la.length : Int)) = true := by simp; omega
    have hda : la.drop (i + 1) = l := by rw [← List.drop_drop, hla]; rfl
    have hdb : lb.drop (i + 1) = m := by rw [← List.drop_drop, hlb]; rfl
    have i1 := (isl_tycs la).at tyc_len ha
    have i2 := (isl_tycs lb).at tyc_len hb
    rw [tyc_w, tyw] at i1 i2
    have hwr := wrapn (n := i) (by omega)
    have hc0s : c < S.size := by omega
    have hca := ih1 hf hl ⟨hj.1 a (by simp), hj.2 b0 (by simp)⟩ p S hbp hu
    rw [tyc_w a, tyc_w b0, tyw, tyw] at hca
    generalize hL : CC.loop cf69_l0 = L
    refine W_loop_eq hL ?_
    simp only [cf69_l0, E0, E4, E5, E76, E77, hd, hc, hc1, i1, i2, Nat.le_add_left, go_sem, ↓reduceIte, reduceCtorEq, Nat.reduceEqDiff, Nat.reduceAdd, Nat.reduceSub, Nat.reduceMul, Nat.reduceLeDiff, Nat.reduceLT, loadA, rdCells, storeA, setAt, binA]
    refine WR_callx _ rfl (hca.mono ?_)
    rintro w4 S4 ⟨rfl, hun⟩
    have d0 : ((0 : Int) != 0) = false := rfl
    simp only [E0, E4, E5, E76, E77, d0, hwr, go_sem, ↓reduceIte, reduceCtorEq, Nat.reduceEqDiff, Nat.reduceAdd, Nat.reduceSub, Nat.reduceMul, Nat.reduceLeDiff, Nat.reduceLT, loadA, rdCells, storeA, setAt, binA]
    obtain ⟨hf1, hl1, hl2⟩ := un_fine h hf hl ⟨hj.1 a (by simp), hj.2 b0 (by simp)⟩
    obtain ⟨p1, u1, hbp1, hpp1, k1⟩ := hun
    have hkc := k1.2 c hc0s hcb hcp
    have hkc1 := k1.2 (c + 1) hcs hc1b hc1p
    have hz1 := k1.1
    subst hL
    refine (ih2 hf1 (hl2 rfl) (jwt_le hl1 (j := .us l m) ⟨fun a ha => hj.1 a (by simp [ha]), fun a ha => hj.2 a (by simp [ha])⟩) la lb (i + 1) k k' v v' n n' _ S4 p1 c hda hdb hll hlen hbp1 u1 ?_ ?_ ?_ ?_ ?_ (hkc.trans hc) (hkc1.trans hc1) (by omega) hcb hc1b (by rcases hpp1 with h | h <;> omega) (by rcases hpp1 with h | h <;> omega)).mono ?_
    · simp only [E0, go_sem, ↓reduceIte, reduceCtorEq, Nat.reduceEqDiff, Nat.reduceAdd, Nat.reduceSub, Nat.reduceMul, Nat.reduceLeDiff, Nat.reduceLT, loadA, rdCells, storeA, setAt, binA]
    · simp only [E4, go_sem, ↓reduceIte, reduceCtorEq, Nat.reduceEqDiff, Nat.reduceAdd, Nat.reduceSub, Nat.reduceMul, Nat.reduceLeDiff, Nat.reduceLT, loadA, rdCells, storeA, setAt, binA]
    · simp only [E5, go_sem, ↓reduceIte, reduceCtorEq, Nat.reduceEqDiff, Nat.reduceAdd, Nat.reduceSub, Nat.reduceMul, Nat.reduceLeDiff, Nat.reduceLT, loadA, rdCells, storeA, setAt, binA]
    · simp only [E76, go_sem, ↓reduceIte, reduceCtorEq, Nat.reduceEqDiff, Nat.reduceAdd, Nat.reduceSub, Nat.reduceMul, Nat.reduceLeDiff, Nat.reduceLT, loadA, rdCells, storeA, setAt, binA]
    · simp only [go_sem, ↓reduceIte, reduceCtorEq, Nat.reduceEqDiff, Nat.reduceAdd, Nat.reduceSub, Nat.reduceMul, Nat.reduceLeDiff, Nat.reduceLT, loadA, rdCells, storeA, setAt, binA]
    rintro x E' S' ⟨hun2, hx⟩
    obtain ⟨p2, u2, hbp2, hpp2, k2⟩ := hun2
    refine ⟨⟨p2, u2, hbp2, ?_, by have := k2.1; omega, fun j hj a c => ?_⟩, hx⟩
    · rcases hpp2 with h | h
      · rw [h]; exact hpp1
      · exact Or.inr (by omega)
    · rw [k2.2 j (by omega) a (by rcases hpp1 with h | h <;> omega), k1.2 j hj a c]
  | fail ss ss1 a b0 l m e h he hl' ih =>
    intro hf hl hj la lb i k k' v v' n n' E S p c hla hlb hll hlen hbp hu E0 E4 E5 E76 E77 hc hc1 hcs hcb hc1b hcp hc1p
    have hi : i < la.length := by
      have := congrArg List.length hla; rw [List.length_drop, List.length_cons] at this; omega
    have ha : la[i]? = some a := by have := congrArg (fun l => l[0]?) hla; simpa [List.getElem?_drop] using this
    have hb : lb[i]? = some b0 := by have := congrArg (fun l => l[0]?) hlb; simpa [List.getElem?_drop] using this
    have hd : decide ((i : Int) < (la.length : Int)) = true := by simp; omega
    have hda : la.drop (i + 1) = l := by rw [← List.drop_drop, hla]; rfl
    have hdb : lb.drop (i + 1) = m := by rw [← List.drop_drop, hlb]; rfl
    have i1 := (isl_tycs la).at tyc_len ha
    have i2 := (isl_tycs lb).at tyc_len hb
    rw [tyc_w, tyw] at i1 i2
    have hwr := wrapn (n := i) (by omega)
    have hc0s : c < S.size := by omega
    have hca := ih hf hl ⟨hj.1 a (by simp), hj.2 b0 (by simp)⟩ p S hbp hu
    rw [tyc_w a, tyc_w b0, tyw, tyw] at hca
    generalize hL : CC.loop cf69_l0 = L
    refine W_loop_eq hL ?_
    simp only [cf69_l0, E0, E4, E5, E76, E77, hd, hc, hc1, i1, i2, Nat.le_add_left, go_sem, ↓reduceIte, reduceCtorEq, Nat.reduceEqDiff, Nat.reduceAdd, Nat.reduceSub, Nat.reduceMul, Nat.reduceLeDiff, Nat.reduceLT, loadA, rdCells, storeA, setAt, binA]
    refine WR_callx _ rfl (hca.mono ?_)
    rintro w4 S4 ⟨rfl, hun⟩
    have d0 : (e != 0) = true := by simpa using he
    simp only [E0, E4, E5, E76, E77, d0, hwr, go_sem, ↓reduceIte, reduceCtorEq, Nat.reduceEqDiff, Nat.reduceAdd, Nat.reduceSub, Nat.reduceMul, Nat.reduceLeDiff, Nat.reduceLT, loadA, rdCells, storeA, setAt, binA]
    exact ⟨hun, Or.inr he⟩
  | exf ss ss1 n v x y b0 t q z e ht h he =>
    intro hf hl hj
    intro p s hbp hu
    refine WC_fn cf87 (hX 87 (by decide)) T87 (by simp [cf87]) ?_
    have htl := fun (S : St) (hu : US S b p ss) => tl_law hX (.con _ (by simp [kof])) ht S hu
    have hex := fun (S : St) (hu : US S b p ss) => ex_law hX hf.1.choose_spec (by omega) h p S hbp hu
    rw [row_c] at htl ⊢
    rw [tyc_w b0, tyw] at hex ⊢
    have hk1 := ((((Keep.refl s).new' (.cells [.int .i64 5, .str n, .int .i64 v, .sl [.int .i64 (kof x), .str (nof x), .int .i64 (vof x), .sl (tycs (lof x)) (lof x).length false none, .int .i64 (kof y), .str (nof y), .int .i64 (vof y), .sl (tycs (lof y)) (lof y).length false none] 2 false none])).new' (.cells [.int .i64 (kof b0), .str (nof b0), .int .i64 (vof b0), .sl (tycs (lof b0)) (lof b0).length false none])).new' (.cells [.int .i64 0, .str ⟨#[]⟩, .int .i64 0, .nils])).new' (.cells [.int .i64 0, .str ⟨#[]⟩, .int .i64 0, .nils])
    have hb0' := hu.2.2.1
    have hp0' := hu.2.2.2
    simp only [cf87, go_sem, ↓reduceIte, reduceCtorEq, Nat.reduceEqDiff, Nat.reduceAdd, Nat.reduceSub, Nat.reduceMul, Nat.reduceLeDiff, Nat.reduceLT, loadA, rdCells, storeA, setAt, binA]
    refine W_dreg ?_
    simp only [wt_ops, stpT, Tr, ia0, ia1, wt_nil, chk1, avr, ne_a hu.2.2.1, ne_b hu.2.2.1, ne_c hu.2.2.1, ne_d hu.2.2.1, ne_e hu.2.2.1, ne_f hu.2.2.1, Bool.or_true, Nat.le_add_left, go_sem, ↓reduceIte, reduceCtorEq, Nat.reduceEqDiff, Nat.reduceAdd, Nat.reduceSub, Nat.reduceMul, Nat.reduceLeDiff, Nat.reduceLT, loadA, rdCells, storeA, setAt, binA]
    refine WT_callx _ rfl ((htl _ (hu.keep hk1)).mono ?_)
    rintro w2 S2 ⟨rfl, hk2⟩
    have hz2 := hk2.1
    simp only [St.new, St.put] at hz2
    have a1 := hk2.2 s.size (by simp only [St.new]; omega)
    have a2 := hk2.2 (s.size + 1) (by simp only [St.new]; omega)
    have a3 := hk2.2 (s.size + 1 + 1) (by simp only [St.new]; omega)
    have a4 := hk2.2 (s.size + 1 + 1 + 1) (by simp only [St.new]; omega)
    simp only [go_sem, ↓reduceIte, reduceCtorEq, Nat.reduceEqDiff, Nat.reduceAdd, Nat.reduceSub, Nat.reduceMul, Nat.reduceLeDiff, Nat.reduceLT, loadA, rdCells, storeA, setAt, binA] at a1 a2 a3 a4
    have hk12 := hk1.trans hk2
    refine WT_callx _ rfl ((hex _ (hu.keep hk12)).mono ?_)
    rintro w3 S3 ⟨rfl, hun⟩
    have hz3 := hun.size
    have b1 := hun.obj (j := s.size) (by omega) (by omega) (by omega) a1
    have b2 := hun.obj (j := s.size + 1) (by omega) (by omega) (by omega) a2
    have b3 := hun.obj (j := s.size + 1 + 1) (by omega) (by omega) (by omega) a3
    have b4 := hun.obj (j := s.size + 1 + 1 + 1) (by omega) (by omega) (by omega) a4
    rw [tyc_w t, tyc_w q, tyw, tyw]
    simp only [wt_ops, stpT, Tr, a1, a2, b1, b2, b3, b4, ia0, ia1, wt_alloc, wt_nil, chk1, avr, ne_a hu.2.2.1, ne_b hu.2.2.1, ne_c hu.2.2.1, ne_d hu.2.2.1, ne_e hu.2.2.1, ne_f hu.2.2.1, Bool.or_true, Nat.le_add_left, go_sem, ↓reduceIte, reduceCtorEq, Nat.reduceEqDiff, Nat.reduceAdd, Nat.reduceSub, Nat.reduceMul, Nat.reduceLeDiff, Nat.reduceLT, loadA, rdCells, storeA, setAt, binA]
    obtain ⟨SA, hSA⟩ : ∃ SA, SA = (S3.put (s.size + 1 + 1) (some (.cells [.int .i64 (kof t), .str (nof t), .int .i64 (vof t), .sl (tycs (lof t)) (lof t).length false none]))).put (s.size + 1 + 1 + 1) (some (.cells [.int .i64 (kof q), .str (nof q), .int .i64 (vof q), .sl (tycs (lof q)) (lof q).length false none])) := ⟨_, rfl⟩
    have hzA : SA.size = S3.size := by rw [hSA]; rfl
    have c1 : SA.obj s.size = some (.cells [.int .i64 5, .str n, .int .i64 v, .sl [.int .i64 (kof x), .str (nof x), .int .i64 (vof x), .sl (tycs (lof x)) (lof x).length false none, .int .i64 (kof y), .str (nof y), .int .i64 (vof y), .sl (tycs (lof y)) (lof y).length false none] 2 false none]) := by rw [hSA, put_ne (by omega), put_ne (by omega)]; exact b1
    have c3 : SA.obj (s.size + 1 + 1) = some (.cells [.int .i64 (kof t), .str (nof t), .int .i64 (vof t), .sl (tycs (lof t)) (lof t).length false none]) := by rw [hSA, put_ne (by omega), put_eq]
    have c4 : SA.obj (s.size + 1 + 1 + 1) = some (.cells [.int .i64 (kof q), .str (nof q), .int .i64 (vof q), .sl (tycs (lof q)) (lof q).length false none]) := by rw [hSA, put_eq]
    have hUM : UM b p S2.size s ss1 SA := by
      rw [hSA]
      exact ((hun.um hk12).put (j := s.size + 1 + 1) (by omega) (by omega) (by omega) (by omega) _).put (j := s.size + 1 + 1 + 1) (by omega) (by omega) (by omega) (by omega) _
    have d0 : (e != 0) = true := by simpa using he
    first | rw [← hSA] | skip
    simp only [d0, c1, c3, c4, ia0, ia1, Nat.le_add_left, go_sem, ↓reduceIte, reduceCtorEq, Nat.reduceEqDiff, Nat.reduceAdd, Nat.reduceSub, Nat.reduceMul, Nat.reduceLeDiff, Nat.reduceLT, loadA, rdCells, storeA, setAt, binA]
    exact ⟨by simp, _, rfl, rfl, hUM.un (by omega)⟩
  | hdf ss ss1 ss2 n v x y b0 t q z e ht h h1 he ih =>
    intro hf hl hj
    intro p s hbp hu
    refine WC_fn cf87 (hX 87 (by decide)) T87 (by simp [cf87]) ?_
    have htl := fun (S : St) (hu : US S b p ss) => tl_law hX (.con _ (by simp [kof])) ht S hu
    have hex := fun (S : St) (hu : US S b p ss) => ex_law hX hf.1.choose_spec (by omega) h p S hbp hu
    rw [row_c] at htl ⊢
    rw [tyc_w b0, tyw] at hex ⊢
    have hk1 := ((((Keep.refl s).new' (.cells [.int .i64 5, .str n, .int .i64 v, .sl [.int .i64 (kof x), .str (nof x), .int .i64 (vof x), .sl (tycs (lof x)) (lof x).length false none, .int .i64 (kof y), .str (nof y), .int .i64 (vof y), .sl (tycs (lof y)) (lof y).length false none] 2 false none])).new' (.cells [.int .i64 (kof b0), .str (nof b0), .int .i64 (vof b0), .sl (tycs (lof b0)) (lof b0).length false none])).new' (.cells [.int .i64 0, .str ⟨#[]⟩, .int .i64 0, .nils])).new' (.cells [.int .i64 0, .str ⟨#[]⟩, .int .i64 0, .nils])
    have hb0' := hu.2.2.1
    have hp0' := hu.2.2.2
    simp only [cf87, go_sem, ↓reduceIte, reduceCtorEq, Nat.reduceEqDiff, Nat.reduceAdd, Nat.reduceSub, Nat.reduceMul, Nat.reduceLeDiff, Nat.reduceLT, loadA, rdCells, storeA, setAt, binA]
    refine W_dreg ?_
    simp only [wt_ops, stpT, Tr, ia0, ia1, wt_nil, chk1, avr, ne_a hu.2.2.1, ne_b hu.2.2.1, ne_c hu.2.2.1, ne_d hu.2.2.1, ne_e hu.2.2.1, ne_f hu.2.2.1, Bool.or_true, Nat.le_add_left, go_sem, ↓reduceIte, reduceCtorEq, Nat.reduceEqDiff, Nat.reduceAdd, Nat.reduceSub, Nat.reduceMul, Nat.reduceLeDiff, Nat.reduceLT, loadA, rdCells, storeA, setAt, binA]
    refine WT_callx _ rfl ((htl _ (hu.keep hk1)).mono ?_)
    rintro w2 S2 ⟨rfl, hk2⟩
    have hz2 := hk2.1
    simp only [St.new, St.put] at hz2
    have a1 := hk2.2 s.size (by simp only [St.new]; omega)
    have a2 := hk2.2 (s.size + 1) (by simp only [St.new]; omega)
    have a3 := hk2.2 (s.size + 1 + 1) (by simp only [St.new]; omega)
    have a4 := hk2.2 (s.size + 1 + 1 + 1) (by simp only [St.new]; omega)
    simp only [go_sem, ↓reduceIte, reduceCtorEq, Nat.reduceEqDiff, Nat.reduceAdd, Nat.reduceSub, Nat.reduceMul, Nat.reduceLeDiff, Nat.reduceLT, loadA, rdCells, storeA, setAt, binA] at a1 a2 a3 a4
    have hk12 := hk1.trans hk2
    refine WT_callx _ rfl ((hex _ (hu.keep hk12)).mono ?_)
    rintro w3 S3 ⟨rfl, hun⟩
    have hz3 := hun.size
    have b1 := hun.obj (j := s.size) (by omega) (by omega) (by omega) a1
    have b2 := hun.obj (j := s.size + 1) (by omega) (by omega) (by omega) a2
    have b3 := hun.obj (j := s.size + 1 + 1) (by omega) (by omega) (by omega) a3
    have b4 := hun.obj (j := s.size + 1 + 1 + 1) (by omega) (by omega) (by omega) a4
    rw [tyc_w t, tyc_w q, tyw, tyw]
    simp only [wt_ops, stpT, Tr, a1, a2, b1, b2, b3, b4, ia0, ia1, wt_alloc, wt_nil, chk1, avr, ne_a hu.2.2.1, ne_b hu.2.2.1, ne_c hu.2.2.1, ne_d hu.2.2.1, ne_e hu.2.2.1, ne_f hu.2.2.1, Bool.or_true, Nat.le_add_left, go_sem, ↓reduceIte, reduceCtorEq, Nat.reduceEqDiff, Nat.reduceAdd, Nat.reduceSub, Nat.reduceMul, Nat.reduceLeDiff, Nat.reduceLT, loadA, rdCells, storeA, setAt, binA]
    obtain ⟨SA, hSA⟩ : ∃ SA, SA = (S3.put (s.size + 1 + 1) (some (.cells [.int .i64 (kof t), .str (nof t), .int .i64 (vof t), .sl (tycs (lof t)) (lof t).length false none]))).put (s.size + 1 + 1 + 1) (some (.cells [.int .i64 (kof q), .str (nof q), .int .i64 (vof q), .sl (tycs (lof q)) (lof q).length false none])) := ⟨_, rfl⟩
    have hzA : SA.size = S3.size := by rw [hSA]; rfl
    have c1 : SA.obj s.size = some (.cells [.int .i64 5, .str n, .int .i64 v, .sl [.int .i64 (kof x), .str (nof x), .int .i64 (vof x), .sl (tycs (lof x)) (lof x).length false none, .int .i64 (kof y), .str (nof y), .int .i64 (vof y), .sl (tycs (lof y)) (lof y).length false none] 2 false none]) := by rw [hSA, put_ne (by omega), put_ne (by omega)]; exact b1
    have c3 : SA.obj (s.size + 1 + 1) = some (.cells [.int .i64 (kof t), .str (nof t), .int .i64 (vof t), .sl (tycs (lof t)) (lof t).length false none]) := by rw [hSA, put_ne (by omega), put_eq]
    have c4 : SA.obj (s.size + 1 + 1 + 1) = some (.cells [.int .i64 (kof q), .str (nof q), .int .i64 (vof q), .sl (tycs (lof q)) (lof q).length false none]) := by rw [hSA, put_eq]
    have hUM : UM b p S2.size s ss1 SA := by
      rw [hSA]
      exact ((hun.um hk12).put (j := s.size + 1 + 1) (by omega) (by omega) (by omega) (by omega) _).put (j := s.size + 1 + 1 + 1) (by omega) (by omega) (by omega) (by omega) _
    have d0 : ((0 : Int) != 0) = false := rfl
    first | rw [← hSA] | skip
    obtain ⟨g1, g2, g3⟩ := ex_fine hf hl h hj.2.2
    have hM : S2.size ≤ SA.size := by omega
    obtain ⟨p1, u1, hbp1, hpp1, k1⟩ := hUM
    have hca := ih g1 (g3 rfl).1 ⟨wt_le g2 _ hj.1, (g3 rfl).2.1⟩ p1 SA hbp1 u1
    rw [tyc_w x, tyc_w t, tyw, tyw] at hca
    simp only [d0, c1, c3, c4, ia0, ia1, Nat.le_add_left, go_sem, ↓reduceIte, reduceCtorEq, Nat.reduceEqDiff, Nat.reduceAdd, Nat.reduceSub, Nat.reduceMul, Nat.reduceLeDiff, Nat.reduceLT, loadA, rdCells, storeA, setAt, binA]
    refine WR_callx _ rfl (hca.mono ?_)
    rintro w4 S4 ⟨rfl, hun4⟩
    have hUM4 : UM b p S2.size s ss2 S4 := um_comp hpp1 hM (by omega) k1 hun4
    have d1 : (e != 0) = true := by simpa using he
    have h41 := hun4.obj (j := s.size) (by omega) (by omega) (by rcases hpp1 with h | h <;> omega) c1
    have h44 := hun4.obj (j := s.size + 1 + 1 + 1) (by omega) (by omega) (by rcases hpp1 with h | h <;> omega) c4
    simp only [d1, go_sem, ↓reduceIte, reduceCtorEq, Nat.reduceEqDiff, Nat.reduceAdd, Nat.reduceSub, Nat.reduceMul, Nat.reduceLeDiff, Nat.reduceLT, loadA, rdCells, storeA, setAt, binA]
    exact ⟨by simp, _, rfl, rfl, hUM4.un (by omega)⟩
  | rok ss ss1 ss2 ss3 n v x y b0 t q z e ht h h1 h2 ih1 ih2 =>
    intro hf hl hj
    intro p s hbp hu
    refine WC_fn cf87 (hX 87 (by decide)) T87 (by simp [cf87]) ?_
    have htl := fun (S : St) (hu : US S b p ss) => tl_law hX (.con _ (by simp [kof])) ht S hu
    have hex := fun (S : St) (hu : US S b p ss) => ex_law hX hf.1.choose_spec (by omega) h p S hbp hu
    rw [row_c] at htl ⊢
    rw [tyc_w b0, tyw] at hex ⊢
    have hk1 := ((((Keep.refl s).new' (.cells [.int .i64 5, .str n, .int .i64 v, .sl [.int .i64 (kof x), .str (nof x), .int .i64 (vof x), .sl (tycs (lof x)) (lof x).length false none, .int .i64 (kof y), .str (nof y), .int .i64 (vof y), .sl (tycs (lof y)) (lof y).length false none] 2 false none])).new' (.cells [.int .i64 (kof b0), .str (nof b0), .int .i64 (vof b0), .sl (tycs (lof b0)) (lof b0).length false none])).new' (.cells [.int .i64 0, .str ⟨#[]⟩, .int .i64 0, .nils])).new' (.cells [.int .i64 0, .str ⟨#[]⟩, .int .i64 0, .nils])
    have hb0' := hu.2.2.1
    have hp0' := hu.2.2.2
    simp only [cf87, go_sem, ↓reduceIte, reduceCtorEq, Nat.reduceEqDiff, Nat.reduceAdd, Nat.reduceSub, Nat.reduceMul, Nat.reduceLeDiff, Nat.reduceLT, loadA, rdCells, storeA, setAt, binA]
    refine W_dreg ?_
    simp only [wt_ops, stpT, Tr, ia0, ia1, wt_nil, chk1, avr, ne_a hu.2.2.1, ne_b hu.2.2.1, ne_c hu.2.2.1, ne_d hu.2.2.1, ne_e hu.2.2.1, ne_f hu.2.2.1, Bool.or_true, Nat.le_add_left, go_sem, ↓reduceIte, reduceCtorEq, Nat.reduceEqDiff, Nat.reduceAdd, Nat.reduceSub, Nat.reduceMul, Nat.reduceLeDiff, Nat.reduceLT, loadA, rdCells, storeA, setAt, binA]
    refine WT_callx _ rfl ((htl _ (hu.keep hk1)).mono ?_)
    rintro w2 S2 ⟨rfl, hk2⟩
    have hz2 := hk2.1
    simp only [St.new, St.put] at hz2
    have a1 := hk2.2 s.size (by simp only [St.new]; omega)
    have a2 := hk2.2 (s.size + 1) (by simp only [St.new]; omega)
    have a3 := hk2.2 (s.size + 1 + 1) (by simp only [St.new]; omega)
    have a4 := hk2.2 (s.size + 1 + 1 + 1) (by simp only [St.new]; omega)
    simp only [go_sem, ↓reduceIte, reduceCtorEq, Nat.reduceEqDiff, Nat.reduceAdd, Nat.reduceSub, Nat.reduceMul, Nat.reduceLeDiff, Nat.reduceLT, loadA, rdCells, storeA, setAt, binA] at a1 a2 a3 a4
    have hk12 := hk1.trans hk2
    refine WT_callx _ rfl ((hex _ (hu.keep hk12)).mono ?_)
    rintro w3 S3 ⟨rfl, hun⟩
    have hz3 := hun.size
    have b1 := hun.obj (j := s.size) (by omega) (by omega) (by omega) a1
    have b2 := hun.obj (j := s.size + 1) (by omega) (by omega) (by omega) a2
    have b3 := hun.obj (j := s.size + 1 + 1) (by omega) (by omega) (by omega) a3
    have b4 := hun.obj (j := s.size + 1 + 1 + 1) (by omega) (by omega) (by omega) a4
    rw [tyc_w t, tyc_w q, tyw, tyw]
    simp only [wt_ops, stpT, Tr, a1, a2, b1, b2, b3, b4, ia0, ia1, wt_alloc, wt_nil, chk1, avr, ne_a hu.2.2.1, ne_b hu.2.2.1, ne_c hu.2.2.1, ne_d hu.2.2.1, ne_e hu.2.2.1, ne_f hu.2.2.1, Bool.or_true, Nat.le_add_left, go_sem, ↓reduceIte, reduceCtorEq, Nat.reduceEqDiff, Nat.reduceAdd, Nat.reduceSub, Nat.reduceMul, Nat.reduceLeDiff, Nat.reduceLT, loadA, rdCells, storeA, setAt, binA]
    obtain ⟨SA, hSA⟩ : ∃ SA, SA = (S3.put (s.size + 1 + 1) (some (.cells [.int .i64 (kof t), .str (nof t), .int .i64 (vof t), .sl (tycs (lof t)) (lof t).length false none]))).put (s.size + 1 + 1 + 1) (some (.cells [.int .i64 (kof q), .str (nof q), .int .i64 (vof q), .sl (tycs (lof q)) (lof q).length false none])) := ⟨_, rfl⟩
    have hzA : SA.size = S3.size := by rw [hSA]; rfl
    have c1 : SA.obj s.size = some (.cells [.int .i64 5, .str n, .int .i64 v, .sl [.int .i64 (kof x), .str (nof x), .int .i64 (vof x), .sl (tycs (lof x)) (lof x).length false none, .int .i64 (kof y), .str (nof y), .int .i64 (vof y), .sl (tycs (lof y)) (lof y).length false none] 2 false none]) := by rw [hSA, put_ne (by omega), put_ne (by omega)]; exact b1
    have c3 : SA.obj (s.size + 1 + 1) = some (.cells [.int .i64 (kof t), .str (nof t), .int .i64 (vof t), .sl (tycs (lof t)) (lof t).length false none]) := by rw [hSA, put_ne (by omega), put_eq]
    have c4 : SA.obj (s.size + 1 + 1 + 1) = some (.cells [.int .i64 (kof q), .str (nof q), .int .i64 (vof q), .sl (tycs (lof q)) (lof q).length false none]) := by rw [hSA, put_eq]
    have hUM : UM b p S2.size s ss1 SA := by
      rw [hSA]
      exact ((hun.um hk12).put (j := s.size + 1 + 1) (by omega) (by omega) (by omega) (by omega) _).put (j := s.size + 1 + 1 + 1) (by omega) (by omega) (by omega) (by omega) _
    have d0 : ((0 : Int) != 0) = false := rfl
    first | rw [← hSA] | skip
    obtain ⟨g1, g2, g3⟩ := ex_fine hf hl h hj.2.2
    have hM : S2.size ≤ SA.size := by omega
    obtain ⟨p1, u1, hbp1, hpp1, k1⟩ := hUM
    have hca := ih1 g1 (g3 rfl).1 ⟨wt_le g2 _ hj.1, (g3 rfl).2.1⟩ p1 SA hbp1 u1
    rw [tyc_w x, tyc_w t, tyw, tyw] at hca
    simp only [d0, c1, c3, c4, ia0, ia1, Nat.le_add_left, go_sem, ↓reduceIte, reduceCtorEq, Nat.reduceEqDiff, Nat.reduceAdd, Nat.reduceSub, Nat.reduceMul, Nat.reduceLeDiff, Nat.reduceLT, loadA, rdCells, storeA, setAt, binA]
    refine WR_callx _ rfl (hca.mono ?_)
    rintro w4 S4 ⟨rfl, hun4⟩
    have hUM4 : UM b p S2.size s ss2 S4 := um_comp hpp1 hM (by omega) k1 hun4
    have h41 := hun4.obj (j := s.size) (by omega) (by omega) (by rcases hpp1 with h | h <;> omega) c1
    have h44 := hun4.obj (j := s.size + 1 + 1 + 1) (by omega) (by omega) (by rcases hpp1 with h | h <;> omega) c4
    obtain ⟨g4, g5, g6⟩ := un_fine h1 g1 (g3 rfl).1 ⟨wt_le g2 _ hj.1, (g3 rfl).2.1⟩
    have hz4 := hun4.size
    obtain ⟨p2, u2, hbp2, hpp2, k2⟩ := hUM4
    have hcb := ih2 g4 (g6 rfl) ⟨wt_le (by omega) _ hj.2.1, wt_le g5 _ (g3 rfl).2.2⟩ p2 S4 hbp2 u2
    rw [tyc_w y, tyc_w q, tyw, tyw] at hcb
    simp only [d0, h41, h44, ia0, ia1, Nat.le_add_left, go_sem, ↓reduceIte, reduceCtorEq, Nat.reduceEqDiff, Nat.reduceAdd, Nat.reduceSub, Nat.reduceMul, Nat.reduceLeDiff, Nat.reduceLT, loadA, rdCells, storeA, setAt, binA]
    refine WR_callx _ rfl (hcb.mono ?_)
    rintro w5 S5 ⟨rfl, hun5⟩
    simp only [go_sem, ↓reduceIte, reduceCtorEq, Nat.reduceEqDiff, Nat.reduceAdd, Nat.reduceSub, Nat.reduceMul, Nat.reduceLeDiff, Nat.reduceLT, loadA, rdCells, storeA, setAt, binA]
    exact ⟨by simp, _, rfl, rfl, (um_comp hpp2 (by omega : S2.size ≤ S4.size) (by omega) k2 hun5).un (by omega)⟩
end Go.Am.U1
