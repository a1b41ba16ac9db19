/- LexerLines: Scan's law. Conditions: none. -/
import Derived.Test.YtjhbakfgoaeeoaaDoorAmLd
set_option linter.unusedSimpArgs false
set_option linter.unusedVariables false
namespace Go.Am.L1
set_option maxRecDepth 100000
set_option linter.unusedSimpArgs false
attribute [local go_sem] wseq wreg wdreg wret wskip wexit wblock wcnd cnd_t cnd_f then_n then_x then_r catch_n rnd_n rnd_x rnd_r catch_x catch_r wo_nil wo_grd grdO_t grdO_f wo_ops stpO wr_nil wr_alloc wr_guards grdR_t grdR_f wr_ops stpR evAllocs evOp env0_app eput_some eput_none eset_app Opd.ev wantedA faddrA storeA setAt snew_obj snew_size sput_obj sput_size av_cells av_one av_strip av_still unA eqbA fillA fldA lensA mmA mm2 mmFold List.getD_cons_zero List.getD_cons_succ List.getD_nil List.length_cons List.length_nil List.drop_zero List.drop_succ_cons List.take_succ_cons List.take_zero List.map_cons List.map_nil List.set_cons_zero List.set_cons_succ List.all_cons List.all_nil List.getElem?_cons_zero List.getElem?_cons_succ List.nil_append List.cons_append Nat.zero_add Nat.add_zero beq_self_eq_true bt bf Bool.not_true Bool.not_false Bool.and_true Bool.true_and Bool.and_false Bool.false_and and_self and_true true_and n0 n1 n2 n3 n4 m0 m1 m2 m3 c1 retA resAs resA undefA Option.map_some Option.map_none

def big : Nat := 4611686018427387904
theorem wrap_nat {n : Nat} (h : n ≤ big) : IntKind.i64.wrap ((n : Int) + 1) = ((n + 1 : Nat) : Int) := by
  rw [IntKind.wrap_i64]; simp only [big] at h; omega

def bad (b : UInt8) : Bool := ((b.toNat : Int) != 10) && (decide ((b.toNat : Int) < 32) || decide ((b.toNat : Int) > 126))
structure OkS (s : ByteArray) : Prop where
  le : s.size ≤ 8192
  ok : ∀ (i : Nat) b, (bts s)[i]? = some b → bad b = false

theorem check_law (s : ByteArray) (hb : s.size ≤ big) (st : St) : WC T xs 21 [.str s] st (fun v s' => (∃ e : Int, v = .int .i64 e ∧ (e = 0 ↔ OkS s)) ∧ Keep st s') := by
  refine WC_fn cf21 rfl T21 (by simp [cf21]) ?_
  cases h1 : decide ((s.size : Int) > 8192)
  · simp only [cf21, h1, go_sem, ↓reduceIte, reduceCtorEq, Nat.reduceEqDiff, Nat.reduceAdd, Nat.reduceSub, Nat.reduceMul, Nat.reduceLeDiff, Nat.reduceLT, loadA, rdCells, binA]
    refine W_loop_nat (fun k e s1 => ∃ i, i + k = s.size ∧ e 0 = .str s ∧ e 9 = .int .i64 s.size ∧ e 10 = .int .i64 i ∧ (∀ (j : Nat) b, j < i → (bts s)[j]? = some b → bad b = false) ∧ Keep st s1) ?_ s.size _ _ ⟨0, by simp, ?_⟩
    · rintro k e s1 ⟨i, hik, e0, e9, e10, hall, hk⟩
      by_cases hi : i < s.size
      · have hd : decide ((i : Int) < (s.size : Int)) = true := by simp; omega
        obtain ⟨b, hbi⟩ : ∃ b, (bts s)[i]? = some b := ⟨_, List.getElem?_eq_getElem (by rw [bts_len]; exact hi)⟩
        have hwi := wrap_nat (Nat.le_trans (Nat.le_of_lt hi) hb)
        have hnext : bad b = false → ∀ (j : Nat) b', j < i + 1 → (bts s)[j]? = some b' → bad b' = false := by
          intro hbad j b' hj hjb
          by_cases hji : j < i
          · exact hall j b' hji hjb
          · obtain rfl : j = i := by omega
            rw [hbi] at hjb; cases hjb; exact hbad
        have hno : bad b = true → ¬ OkS s := fun hbad hok => by rw [hok.ok i b hbi] at hbad; cases hbad
        simp only [cf21_l0, e0, e9, e10, hd, idx_at hbi, go_sem, ↓reduceIte, reduceCtorEq, Nat.reduceEqDiff, Nat.reduceAdd, Nat.reduceSub, Nat.reduceMul, Nat.reduceLeDiff, Nat.reduceLT, loadA, rdCells, binA]
        cases c1 : ((b.toNat : Int) != 10)
        · simp only [e0, e9, e10, hwi, go_sem, ↓reduceIte, reduceCtorEq, Nat.reduceEqDiff, Nat.reduceAdd, Nat.reduceSub, Nat.reduceMul, Nat.reduceLeDiff, Nat.reduceLT, loadA, rdCells, binA]
          exact ⟨k - 1, by omega, i + 1, by omega, rfl, hnext (by simp [bad, c1]), hk⟩
        · cases c2 : decide ((b.toNat : Int) < 32)
          · cases c3 : decide ((b.toNat : Int) > 126)
            · simp only [e0, e9, e10, hwi, c2, c3, go_sem, ↓reduceIte, reduceCtorEq, Nat.reduceEqDiff, Nat.reduceAdd, Nat.reduceSub, Nat.reduceMul, Nat.reduceLeDiff, Nat.reduceLT, loadA, rdCells, binA]
              exact ⟨k - 1, by omega, i + 1, by omega, rfl, hnext (by simp [bad, c1, c2, c3]), hk⟩
            · simp only [e0, e9, e10, hwi, c2, c3, go_sem, ↓reduceIte, reduceCtorEq, Nat.reduceEqDiff, Nat.reduceAdd, Nat.reduceSub, Nat.reduceMul, Nat.reduceLeDiff, Nat.reduceLT, loadA, rdCells, binA]
              exact ⟨by simp, _, rfl, ⟨5, rfl, iff_of_false (by decide) (hno (by simp [bad, c1, c2, c3]))⟩, hk⟩
          · simp only [e0, e9, e10, hwi, c2, go_sem, ↓reduceIte, reduceCtorEq, Nat.reduceEqDiff, Nat.reduceAdd, Nat.reduceSub, Nat.reduceMul, Nat.reduceLeDiff, Nat.reduceLT, loadA, rdCells, binA]
            exact ⟨by simp, _, rfl, ⟨5, rfl, iff_of_false (by decide) (hno (by simp [bad, c1, c2]))⟩, hk⟩
      · have hd : decide ((i : Int) < (s.size : Int)) = false := by simp; omega
        simp only [cf21_l0, e0, e9, e10, hd, go_sem, ↓reduceIte, reduceCtorEq, Nat.reduceEqDiff, Nat.reduceAdd, Nat.reduceSub, Nat.reduceMul, Nat.reduceLeDiff, Nat.reduceLT, loadA, rdCells, binA]
        refine ⟨by simp, _, rfl, ⟨0, rfl, iff_of_true rfl ⟨by simp at h1; omega, fun j b hj => hall j b ?_ hj⟩⟩, hk⟩
        have := (List.getElem?_eq_some_iff.1 hj).1
        rw [bts_len] at this; omega
    · simp only [go_sem, ↓reduceIte, reduceCtorEq, Nat.reduceEqDiff, Nat.reduceAdd, Nat.reduceSub, Nat.reduceMul, Nat.reduceLeDiff, Nat.reduceLT, loadA, rdCells, binA]
      exact ⟨rfl, by simp, Keep.refl st⟩
  · simp only [cf21, h1, go_sem, ↓reduceIte, reduceCtorEq, Nat.reduceEqDiff, Nat.reduceAdd, Nat.reduceSub, Nat.reduceMul, Nat.reduceLeDiff, Nat.reduceLT, loadA, rdCells, binA]
    exact ⟨by simp, _, rfl, ⟨2, rfl, iff_of_false (by decide) fun h => by have := h.le; simp at h1; omega⟩, Keep.refl st⟩


/-! ### All tokens of a text -/
def lexL : Nat → List UInt8 → Nat → Nat → List Tk × List Dg × Nat × Nat
  | 0, _, l, c => ([], [], l, c)
  | _ + 1, [], l, c => ([], [], l, c)
  | f + 1, b :: r, l, c =>
    ((item b (b :: r)).toks l c ++ (lexL f ((b :: r).drop (item b (b :: r)).len) ((item b (b :: r)).line l) ((item b (b :: r)).col c)).1,
     (item b (b :: r)).bads l c ++ (lexL f ((b :: r).drop (item b (b :: r)).len) ((item b (b :: r)).line l) ((item b (b :: r)).col c)).2.1,
     (lexL f ((b :: r).drop (item b (b :: r)).len) ((item b (b :: r)).line l) ((item b (b :: r)).col c)).2.2)

theorem tw_pos {q : UInt8 → Bool} {b : UInt8} {r : List UInt8} (h : q b = true) : 1 ≤ ((b :: r).takeWhile q).length := by
  rw [List.takeWhile_cons, h]; simp

theorem item_pos (b : UInt8) (r : List UInt8) : 1 ≤ (item b (b :: r)).len := by
  unfold item
  split
  · exact Nat.le_refl _
  · rename_i h10
    split
    · exact Nat.le_refl _
    · split
      · rename_i h; exact tw_pos (q := innB) (by simp only [innB, innerZ, h, Bool.true_or])
      · split
        · rename_i h; exact tw_pos (q := innB) (by simp only [innB, innerZ, h, Bool.or_true, Bool.true_or])
        · split
          · rename_i h; exact tw_pos (q := digB) h
          · split
            · exact Nat.le_refl _
            · split
              · rename_i h
                split
                · refine tw_pos (q := nnlB) ?_
                  simp only [nnlB, bne_iff_ne, ne_eq]
                  intro he
                  apply h10
                  rw [beq_iff_eq]
                  apply UInt8.toNat_inj.1
                  show b.toNat = 10
                  omega
                · exact tw_pos (q := mrkB) h
              · exact Nat.le_refl _

theorem tw_le (q : UInt8 → Bool) (r : List UInt8) : (r.takeWhile q).length ≤ r.length := (List.takeWhile_sublist q).length_le
theorem item_le (b : UInt8) (r : List UInt8) : (item b (b :: r)).len ≤ (b :: r).length := by
  unfold item
  repeat' split
  all_goals first | exact tw_le _ _ | (simp [It.len])
theorem bads_code (i : It) (l c : Nat) : ∀ d, d ∈ i.bads l c → d.code ≠ 0 := by
  intro d hd
  cases i with
  | tok k t n b => cases b <;> simp [It.bads] at hd; subst hd; simp
  | err => simp [It.bads] at hd; subst hd; simp
  | nl => simp [It.bads] at hd
  | gap k => simp [It.bads] at hd
theorem lexL_code : ∀ (f : Nat) (r : List UInt8) (l c : Nat) (d : Dg), d ∈ (lexL f r l c).2.1 → d.code ≠ 0
  | 0, _, _, _, d, h => by simp [lexL] at h
  | _ + 1, [], _, _, d, h => by simp [lexL] at h
  | f + 1, b :: r, l, c, d, h => by
    rw [lexL] at h
    rcases List.mem_append.1 h with h | h
    · exact bads_code _ _ _ d h
    · exact lexL_code f _ _ _ d h
theorem toks_le (i : It) (l c : Nat) : (i.toks l c).length ≤ 1 := by cases i <;> simp [It.toks]
theorem bads_le (i : It) (l c : Nat) : (i.bads l c).length ≤ 1 := by
  cases i with
  | tok _ _ _ b => cases b <;> simp [It.bads]
  | _ => simp [It.bads]
theorem line_le (i : It) (l : Nat) : i.line l ≤ l + 1 := by cases i <;> simp [It.line]
theorem col_le (i : It) (c : Nat) (h : 1 ≤ i.len) (hc : 1 ≤ c) : i.col c ≤ c + i.len ∧ 1 ≤ i.col c := by cases i <;> simp [It.col, It.len] at * <;> omega

theorem clip_law {S : St} {N : Nat} {bv : AV} {ds : List Dg} (h : RSl dgc N S bv ds) (s : St) : WC T xs 62 [bv] s (fun v s' => s' = s) := by
  refine WC_fn cf62 rfl T62 (by simp [cf62]) ?_
  obtain ⟨h0, full, tok, rfl, -⟩ := h
  have hl : lenA (.sl (ds.flatMap dgc) ds.length full tok) = some (.int .i64 ds.length) := rfl
  have hs : ∃ r, slcA 4 (.sl (ds.flatMap dgc) ds.length full tok) none (some (.int .i64 ds.length)) (some (.int .i64 ds.length)) = some r := by
    simp only [slcA, optOf, natOf]
    rw [if_pos (dgP.lens ds), if_pos ⟨by omega, by omega⟩]
    simp only [Int.toNat_natCast]
    rw [if_pos ⟨by omega, by omega⟩]
    simp
  obtain ⟨r, hs⟩ := hs
  simp only [cf62, hl, hs, go_sem, ↓reduceIte, reduceCtorEq, Nat.reduceEqDiff, Nat.reduceAdd, Nat.reduceSub, Nat.reduceMul, Nat.reduceLeDiff, Nat.reduceLT, loadA, rdCells, binA]
  exact ⟨by simp, _, rfl⟩

def endTk (p : Nat × Nat) : Tk := ⟨9, ⟨#[]⟩, 0, p.1, p.2⟩
/-- The tokens of a text, and the errors. -/
def scanW (s : ByteArray) : List Tk × List Dg × Nat × Nat := lexL s.size (bts s) 1 1
def scanT (s : ByteArray) : List Tk := (scanW s).1 ++ [endTk (scanW s).2.2]

mutual
theorem beq_refl' : ∀ v : AV, AV.beq v v = true
  | .bool b => by simp [AV.beq]
  | .int k n => by simp [AV.beq]
  | .str s => by simp [AV.beq]
  | .nilp => by simp [AV.beq]
  | .ptr i o => by simp [AV.beq]
  | .eptr cs => by simp [AV.beq, beqs_refl' cs]
  | .nils => by simp [AV.beq]
  | .sl cs n f t => by simp [AV.beq, beqs_refl' cs]
  | .msl i o n z => by simp [AV.beq]
  | .func f cs => by simp [AV.beq, beqs_refl' cs]
  | .nilf => by simp [AV.beq]
  | .agg cs => by simp [AV.beq, beqs_refl' cs]
  | .tup cs => by simp [AV.beq, beqs_refl' cs]
  | .iface t v => by simp [AV.beq, beq_refl' v]
  | .niliface => by simp [AV.beq]
theorem beqs_refl' : ∀ l : List AV, AV.beqs l l = true
  | [] => by simp [AV.beqs]
  | a :: r => by simp [AV.beqs, beq_refl' a, beqs_refl' r]
end

theorem lexL_nil (f l c : Nat) : lexL f [] l c = ([], [], l, c) := by cases f <;> rfl

theorem scan_law (s : ByteArray) (hb : s.size ≤ big) (st : St) : WC T xs 26 [.str s] st (fun v st' => Low st.size st st' ∧
    ((∃ q e, v = .tup [.nils, q, .int .i64 e] ∧ e ≠ 0 ∧ ¬ (OkS s ∧ (scanW s).2.1 = [])) ∨
     (∃ p, v = .tup [.msl p 0 (scanT s).length 5, .nils, .int .i64 0] ∧ st'.obj p = some (.cells ((scanT s).flatMap tkc)) ∧ st.size ≤ p ∧ p < st'.size ∧ OkS s ∧ (scanW s).2.1 = []))) := by
  refine WC_fn cf26 rfl T26 (by simp [cf26]) ?_
  simp only [cf26, go_sem, ↓reduceIte, reduceCtorEq, Nat.reduceEqDiff, Nat.reduceAdd, Nat.reduceSub, Nat.reduceMul, Nat.reduceLeDiff, Nat.reduceLT, loadA, rdCells, binA]
  refine WO_callx [.str s] (by simp only [go_sem, ↓reduceIte, reduceCtorEq, Nat.reduceEqDiff, Nat.reduceAdd, Nat.reduceSub, Nat.reduceMul, Nat.reduceLeDiff, Nat.reduceLT, loadA, rdCells, binA]) ((check_law s hb st).mono ?_)
  rintro v st1 ⟨⟨e, rfl, he⟩, hk1⟩
  simp only [go_sem, ↓reduceIte, reduceCtorEq, Nat.reduceEqDiff, Nat.reduceAdd, Nat.reduceSub, Nat.reduceMul, Nat.reduceLeDiff, Nat.reduceLT, loadA, rdCells, binA]
  cases hz : (e != 0)
  · have hz0 : e = 0 := by simpa using hz
    have hok := he.1 hz0
    have hs := hok.le
    simp only [go_sem, ↓reduceIte, reduceCtorEq, Nat.reduceEqDiff, Nat.reduceAdd, Nat.reduceSub, Nat.reduceMul, Nat.reduceLeDiff, Nat.reduceLT, loadA, rdCells, binA]
    have hw : scanW s = lexL s.size (bts s) 1 1 := rfl
    refine W_loop_nat (fun k e S => ∃ a l c tk ds f, a + k = s.size ∧ e 0 = .str s ∧ e 6 = .ptr st1.size 0 ∧ Inv st.size S st1.size s a l c tk ds ∧ Low st.size st S ∧ 1 ≤ c ∧ c ≤ a + 1 ∧ l ≤ a + 1 ∧ tk.length ≤ a ∧ ds.length ≤ a ∧ k ≤ f ∧
      tk ++ (lexL f ((bts s).drop a) l c).1 = (scanW s).1 ∧ ds ++ (lexL f ((bts s).drop a) l c).2.1 = (scanW s).2.1 ∧ (lexL f ((bts s).drop a) l c).2.2 = (scanW s).2.2) ?_ s.size _ _
      ⟨0, 1, 1, [], [], s.size, by omega, by simp only [go_sem, ↓reduceIte, reduceCtorEq, Nat.reduceEqDiff, Nat.reduceAdd, Nat.reduceSub, Nat.reduceMul, Nat.reduceLeDiff, Nat.reduceLT, loadA, rdCells, binA], by simp only [go_sem, ↓reduceIte, reduceCtorEq, Nat.reduceEqDiff, Nat.reduceAdd, Nat.reduceSub, Nat.reduceMul, Nat.reduceLeDiff, Nat.reduceLT, loadA, rdCells, binA], ⟨⟨.nils, .nils, ⟨⟨by simp [St.new], by simp [St.new]⟩, Or.inl ⟨rfl, rfl⟩, fun _ _ _ h => by cases h⟩, Or.inl ⟨rfl, rfl⟩, hk1.1, freshO_nils _⟩⟩, ⟨Nat.le_trans hk1.1 (by simp [St.new]), fun j hj => by rw [new_ne (by have := hk1.1; omega), hk1.2 j hj]⟩, by omega, by omega, by omega, by simp, by simp, Nat.le_refl _, rfl, rfl, rfl⟩
    rintro k e S ⟨a, l, c, tk, ds, f, hak, e0, e6, hI, hlow, hc1, hc2, hl2, htk, hds, hkf, hw1, hw2, hw3⟩
    obtain ⟨ov, bv, hT, hB, hp, hf⟩ := hI.ex
    obtain ⟨hl0, hl1, hl2', hl3, hl4, hl5⟩ := loads hT.scn
    cases hd : decide ((a : Int) < (s.size : Int))
    · have hd' := of_decide_eq_false hd
      obtain rfl : a = s.size := by omega
      have hdn : (bts s).drop s.size = [] := List.drop_eq_nil_of_le (by rw [bts_len]; omega)
      rw [hdn, lexL_nil] at hw1 hw2 hw3
      simp only [List.append_nil] at hw1 hw2
      simp only [cf26_l0, e0, e6, hl1, hd, go_sem, ↓reduceIte, reduceCtorEq, Nat.reduceEqDiff, Nat.reduceAdd, Nat.reduceSub, Nat.reduceMul, Nat.reduceLeDiff, Nat.reduceLT, binA]
      refine WO_callx [.ptr st1.size 0, .int .i64 9, .str ⟨#[]⟩, .int .i64 0] (by simp only [e6, go_sem, ↓reduceIte, reduceCtorEq, Nat.reduceEqDiff, Nat.reduceAdd, Nat.reduceSub, Nat.reduceMul, Nat.reduceLeDiff, Nat.reduceLT, loadA, rdCells, binA]) ((put_inv hI 9 0 ⟨#[]⟩ (by have : (⟨#[]⟩ : ByteArray).size = 0 := rfl; omega) (by have : (⟨#[]⟩ : ByteArray).size = 0 := rfl; omega) (by omega)).mono ?_)
      rintro v S2 ⟨hI2, hlow2⟩
      obtain ⟨ov2, bv2, hT2, hB2, hp2, hf2⟩ := hI2.ex
      obtain ⟨g0, g1, g2, g3, g4, g5⟩ := loads hT2.scn
      have htok : tk ++ [⟨9, ⟨#[]⟩, 0, l, c⟩] = scanT s := by rw [scanT, hw1, ← hw3]; rfl
      rw [htok] at hT2
      rcases hB2 with ⟨rfl, rfl⟩ | hB2
      · have hln : lenA .nils = some (.int .i64 0) := rfl
        have hgt : decide ((0 : Int) > 0) = false := rfl
        simp only [e6, g5, g4, hln, hgt, go_sem, ↓reduceIte, reduceCtorEq, Nat.reduceEqDiff, Nat.reduceAdd, Nat.reduceSub, Nat.reduceMul, Nat.reduceLeDiff, Nat.reduceLT, binA]
        have hne : (scanT s) ≠ [] := by simp [scanT]
        obtain ⟨q, rfl, hq, hql⟩ : ∃ q, ov2 = .msl q 0 (scanT s).length 5 ∧ S2.obj q = some (.cells ((scanT s).flatMap tkc)) ∧ q < S2.size := by
          rcases hT2.out with ⟨_, h⟩ | ⟨_, h⟩ | h
          · exact absurd h hne
          · exact absurd h hne
          · exact h
        exact ⟨by simp, _, rfl, hlow.trans hlow2, Or.inr ⟨q, rfl, hq, hf2 q _ _ _ rfl, hql, hok, hw2.symm⟩⟩
      · have hln : lenA bv2 = some (.int .i64 ds.length) := hB2.i.len
        have hgt : decide ((ds.length : Int) > 0) = true := by have := hB2.1; simp; omega
        simp only [e6, g5, hln, hgt, go_sem, ↓reduceIte, reduceCtorEq, Nat.reduceEqDiff, Nat.reduceAdd, Nat.reduceSub, Nat.reduceMul, Nat.reduceLeDiff, Nat.reduceLT, binA]
        refine W_dreg ?_
        simp only [e6, g5, wt_ops, stpT, wt_nil, Tr, go_sem, ↓reduceIte, reduceCtorEq, Nat.reduceEqDiff, Nat.reduceAdd, Nat.reduceSub, Nat.reduceMul, Nat.reduceLeDiff, Nat.reduceLT, binA]
        refine WT_callx [bv2] (by simp only [go_sem, ↓reduceIte, reduceCtorEq, Nat.reduceEqDiff, Nat.reduceAdd, Nat.reduceSub, Nat.reduceMul, Nat.reduceLeDiff, Nat.reduceLT, loadA, rdCells, binA]) ((clip_law hB2 S2).mono ?_)
        rintro v S3 rfl
        have hbq : AV.beq bv2 bv2 = true := beq_refl' bv2
        obtain ⟨d0, hd0⟩ : ∃ d, ds[0]? = some d := ⟨_, List.getElem?_eq_getElem hB2.1⟩
        have hix : iaddrA 4 bv2 (.int .i64 0) = some (.eptr (dgc d0 ++ (ds.drop 1).flatMap dgc)) := hB2.i.at dgP.len (i := 0) hd0
        have hle : (0 ≤ (dgc d0 ++ (ds.drop 1).flatMap dgc).length) = True := eq_true (Nat.zero_le _)
        have hld : loadA S3 false 1 (.eptr (dgc d0 ++ (ds.drop 1).flatMap dgc)) = some (.int .i64 d0.code) := by simp [loadA, rdCells, dgc]
        simp only [e6, g5, hix, hle, hld, wt_ops, stpT, wt_nil, Tr, chk1, hbq, go_sem, ↓reduceIte, reduceCtorEq, Nat.reduceEqDiff, Nat.reduceAdd, Nat.reduceSub, Nat.reduceMul, Nat.reduceLeDiff, Nat.reduceLT, binA]
        refine ⟨by simp [beq_refl'], by simp, _, rfl, hlow.trans hlow2, Or.inl ⟨_, _, rfl, ?_, fun hh => ?_⟩⟩
        · have hm : d0 ∈ (scanW s).2.1 := by rw [← hw2]; exact List.mem_of_getElem? hd0
          exact lexL_code _ _ _ _ d0 hm
        · rw [← hw2] at hh
          have := hB2.1
          rw [hh.2] at this; simp at this
    · have hd' := of_decide_eq_true hd
      obtain ⟨b, hbi⟩ : ∃ b, (bts s)[a]? = some b := ⟨_, List.getElem?_eq_getElem (by rw [bts_len]; omega)⟩
      simp only [cf26_l0, e0, e6, hl1, hd, go_sem, ↓reduceIte, reduceCtorEq, Nat.reduceEqDiff, Nat.reduceAdd, Nat.reduceSub, Nat.reduceMul, Nat.reduceLeDiff, Nat.reduceLT, binA]
      refine WO_callx [.ptr st1.size 0] (by simp only [e6, go_sem, ↓reduceIte, reduceCtorEq, Nat.reduceEqDiff, Nat.reduceAdd, Nat.reduceSub, Nat.reduceMul, Nat.reduceLeDiff, Nat.reduceLT, loadA, rdCells, binA]) ((step_inv hI (by omega) hbi (by omega) (by omega) (by omega) (by omega)).mono ?_)
      rintro v S2 ⟨hI2, hlow2⟩
      simp only [e0, e6, go_sem, ↓reduceIte, reduceCtorEq, Nat.reduceEqDiff, Nat.reduceAdd, Nat.reduceSub, Nat.reduceMul, Nat.reduceLeDiff, Nat.reduceLT, loadA, rdCells, binA]
      obtain ⟨r, hr⟩ : ∃ r, (bts s).drop a = b :: r := ⟨(bts s).drop (a + 1), by rw [List.drop_eq_getElem_cons (by rw [bts_len]; omega)]; congr 1; exact (List.getElem?_eq_some_iff.1 hbi).2⟩
      have hps := item_pos b r
      rw [hr] at hI2 hw1 hw2 hw3
      have hil : a + (item b (b :: r)).len ≤ s.size := by
        have h1 := item_le b r
        rw [← hr, List.length_drop, bts_len] at h1
        rw [hr] at h1; omega
      obtain ⟨f', rfl⟩ : ∃ f', f = f' + 1 := ⟨f - 1, by omega⟩
      rw [lexL] at hw1 hw2 hw3
      have hdr : (b :: r).drop (item b (b :: r)).len = (bts s).drop (a + (item b (b :: r)).len) := by rw [← hr, List.drop_drop]
      rw [hdr] at hw1 hw2 hw3
      have t1 := toks_le (item b (b :: r)) l c
      have t2 := bads_le (item b (b :: r)) l c
      have t3 := line_le (item b (b :: r)) l
      obtain ⟨t4, t5⟩ := col_le (item b (b :: r)) c hps hc1
      refine ⟨k - (item b (b :: r)).len, by omega, a + (item b (b :: r)).len, _, _, _, _, f', by omega, hI2, hlow.trans hlow2, t5, by omega, by omega, ?_, ?_, by omega, ?_, ?_, hw3⟩
      · rw [List.length_append]; omega
      · rw [List.length_append]; omega
      · rw [List.append_assoc]; exact hw1
      · rw [List.append_assoc]; exact hw2
  · have hne : e ≠ 0 := by simpa using hz
    simp only [go_sem, ↓reduceIte, reduceCtorEq, Nat.reduceEqDiff, Nat.reduceAdd, Nat.reduceSub, Nat.reduceMul, Nat.reduceLeDiff, Nat.reduceLT, loadA, rdCells, binA]
    exact ⟨by simp, _, rfl, ⟨hk1.1, hk1.2⟩, Or.inl ⟨_, _, rfl, hne, fun h => hne (he.2 h.1)⟩⟩
end Go.Am.L1
