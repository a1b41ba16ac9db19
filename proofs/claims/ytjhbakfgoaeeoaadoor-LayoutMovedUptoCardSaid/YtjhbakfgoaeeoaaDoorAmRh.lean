/- layout.Check. Conditions: none. -/
import Derived.Test.YtjhbakfgoaeeoaaDoorAmRd
set_option linter.unusedSimpArgs false
set_option linter.unusedVariables false
namespace Go.Am.Y1
open Go.Am.L1 (bts_len Tk tkc tkP)
set_option maxRecDepth 100000
set_option linter.unusedSimpArgs false
attribute [local go_sem] wseq wreg wdreg wret wskip wexit wblock wcnd cnd_t cnd_f then_n then_x then_r catch_n rnd_n rnd_x rnd_r catch_x catch_r wo_nil wo_grd grdO_t grdO_f wo_ops stpO wr_nil wr_alloc wr_guards grdR_t grdR_f wr_ops stpR evAllocs evOp env0_app eput_some eput_none eset_app Opd.ev wantedA faddrA storeA setAt snew_obj snew_size sput_obj sput_size av_cells av_one av_strip av_still unA eqbA fillA fldA lensA mmA mm2 mmFold List.getD_cons_zero List.getD_cons_succ List.getD_nil List.length_cons List.length_nil List.drop_zero List.drop_succ_cons List.take_succ_cons List.take_zero List.map_cons List.map_nil List.set_cons_zero List.set_cons_succ List.all_cons List.all_nil List.getElem?_cons_zero List.getElem?_cons_succ List.nil_append List.cons_append Nat.zero_add Nat.add_zero beq_self_eq_true bt bf Bool.not_true Bool.not_false Bool.and_true Bool.true_and Bool.and_false Bool.false_and and_self and_true true_and n0 n1 n2 n3 n4 m0 m1 m2 m3 c1 retA resAs resA undefA Option.map_some Option.map_none

/-- These tokens, as Scan has laid them. -/
structure TokL (S : St) (q : Nat) (L : List Tk) : Prop where
  obj : S.obj q = some (.cells (L.flatMap tkc))
  lt : q < S.size
theorem TokL.keep {S S' : St} {q : Nat} {L : List Tk} (h : TokL S q L) (hk : Keep S S') : TokL S' q L := ⟨hk.obj h.lt h.obj, hk.lt h.lt⟩
theorem tok_addr {q n j : Nat} (hj : j < n) : iaddrA 5 (.msl q 0 n 5) (.int .i64 j) = some (.ptr q (j * 5)) := by
  simp only [iaddrA]; rw [if_pos ⟨by omega, by omega, trivial⟩]; simp
theorem TokL.at {S : St} {q : Nat} {L : List Tk} (h : TokL S q L) {j : Nat} {t : Tk} (hj : L[j]? = some t) :
    loadA S true 5 (.ptr q (j * 5)) = some (.agg (tkc t)) ∧ loadA S false 1 (.ptr q (j * 5)) = some (.int .i64 t.kind) ∧ loadA S false 1 (.ptr q (j * 5 + 1)) = some (.str t.text) ∧ loadA S false 1 (.ptr q (j * 5 + 3)) = some (.int .i64 t.line) ∧ loadA S false 1 (.ptr q (j * 5 + 4)) = some (.int .i64 t.col) := by
  have h5 := flat_le tkP.len hj 5 (Nat.le_refl _)
  have c0 := flat_cell tkP.len hj (j := 0) (by omega)
  have c1 := flat_cell tkP.len hj (j := 1) (by omega)
  have c3 := flat_cell tkP.len hj (j := 3) (by omega)
  have c4 := flat_cell tkP.len hj (j := 4) (by omega)
  rw [Nat.add_zero] at c0
  simp only [loadA, rdCells, h.obj]
  rw [if_pos h5, if_pos (by omega), if_pos (by omega), if_pos (by omega), if_pos (by omega), flat_row tkP.len hj, c0, c1, c3, c4]
  simp [tkc, AV.strip]

def bad1 (t : Tk) : Bool := decide ((t.line : Int) < 1) || decide ((t.col : Int) < 1)
def bad2 (t : Tk) (last : Bool) : Bool := decide (t.kind < 0) || decide (t.kind > 9) || (decide (t.kind ≥ 6) && decide (t.kind ≤ 8)) || !((t.kind == 9) == last)
def bad3 (u t : Tk) : Bool := decide ((t.line : Int) < u.line) || (((t.line : Int) == u.line) && decide ((t.col : Int) < u.col))
def okAt (L : List Tk) (i : Nat) (t : Tk) : Bool := !(bad1 t) && !(bad2 t ((i : Int) == ((L.length - 1 : Nat) : Int))) && (match i with | 0 => true | j + 1 => match L[j]? with | some u => !(bad3 u t) | none => true)
theorem okAt_s {L : List Tk} {j : Nat} {u t : Tk} (hu : L[j]? = some u) : okAt L (j + 1) t = (!(bad1 t) && !(bad2 t (((j + 1 : Nat) : Int) == ((L.length - 1 : Nat) : Int))) && !(bad3 u t)) := by
  simp only [okAt, hu]
structure ChkL (L : List Tk) : Prop where
  le : L.length ≤ 8193
  pos : 0 < L.length
  ok : ∀ (i : Nat) t, L[i]? = some t → okAt L i t = true

set_option maxHeartbeats 4000000 in
theorem check_law {S : St} {q : Nat} {L : List Tk} (h : TokL S q L) (hl : L.length ≤ 1000000) : WC T yx 96 [.msl q 0 L.length 5] S (fun v S' => (∃ e : Int, v = .int .i64 e ∧ (e = 0 ↔ ChkL L)) ∧ Keep S S') := by
  refine WC_fn cf96 rfl T96 (by simp [cf96]) ?_
  have hlen : lenA (.msl q 0 L.length 5) = some (.int .i64 L.length) := rfl
  cases hbig : decide ((L.length : Int) > 8193)
  · have hbig' := of_decide_eq_false hbig
    cases hz : ((L.length : Int) == 0)
    · have hne : L.length ≠ 0 := by intro h0; rw [h0] at hz; simp at hz
      have hw : IntKind.i64.wrap ((L.length : Int) - 1) = ((L.length - 1 : Nat) : Int) := by rw [IntKind.wrap_i64]; omega
      obtain ⟨u, hu⟩ : ∃ u, L[L.length - 1]? = some u := ⟨_, List.getElem?_eq_getElem (by omega)⟩
      obtain ⟨-, ku, -⟩ := h.at hu
      have ha1 := tok_addr (q := q) (n := L.length) (j := L.length - 1) (by omega)
      simp only [cf96, hlen, hbig, hz, hw, ha1, ku, go_sem, ↓reduceIte, reduceCtorEq, Nat.reduceEqDiff, Nat.reduceAdd, Nat.reduceSub, Nat.reduceMul, Nat.reduceLeDiff, Nat.reduceLT, binA]
      cases hk : (u.kind != 9)
      · simp only [hlen, go_sem, ↓reduceIte, reduceCtorEq, Nat.reduceEqDiff, Nat.reduceAdd, Nat.reduceSub, Nat.reduceMul, Nat.reduceLeDiff, Nat.reduceLT, binA]
        refine W_loop_nat (fun k e S1 => ∃ i, i + k = L.length ∧ e 0 = .msl q 0 L.length 5 ∧ e 21 = .msl q 0 L.length 5 ∧ e 22 = .int .i64 L.length ∧ e 23 = .int .i64 i ∧ (∀ (j : Nat) t, j < i → L[j]? = some t → okAt L j t = true) ∧ Keep S S1) ?_ L.length _ _
          ⟨0, by omega, by simp only [go_sem, ↓reduceIte, reduceCtorEq, Nat.reduceEqDiff, Nat.reduceAdd, Nat.reduceSub, Nat.reduceMul, Nat.reduceLeDiff, Nat.reduceLT, loadA, rdCells, binA], by simp only [go_sem, ↓reduceIte, reduceCtorEq, Nat.reduceEqDiff, Nat.reduceAdd, Nat.reduceSub, Nat.reduceMul, Nat.reduceLeDiff, Nat.reduceLT, loadA, rdCells, binA], by simp only [go_sem, ↓reduceIte, reduceCtorEq, Nat.reduceEqDiff, Nat.reduceAdd, Nat.reduceSub, Nat.reduceMul, Nat.reduceLeDiff, Nat.reduceLT, loadA, rdCells, binA], by simp only [go_sem, ↓reduceIte, reduceCtorEq, Nat.reduceEqDiff, Nat.reduceAdd, Nat.reduceSub, Nat.reduceMul, Nat.reduceLeDiff, Nat.reduceLT, loadA, rdCells, binA]; rfl, fun j t hj => by omega, Keep.refl S⟩
        rintro k e S1 ⟨i, hik, e0, e21, e22, e23, hall, hk1⟩
        by_cases hi : i < L.length
        · have hd : decide ((i : Int) < (L.length : Int)) = true := by simp; omega
          obtain ⟨t, ht⟩ : ∃ t, L[i]? = some t := ⟨_, List.getElem?_eq_getElem hi⟩
          have hT1 := h.keep hk1
          have hai := tok_addr (q := q) (n := L.length) hi
          have hwi : IntKind.i64.wrap ((i : Int) + 1) = ((i + 1 : Nat) : Int) := by rw [IntKind.wrap_i64]; omega
          have hc5 : ((tkc t).length = 5 ∧ (tkc t).all AV.one = true) = True := by simp [tkc, AV.one]
          have hset : setAt [AV.int IntKind.i64 0, AV.str ⟨#[]⟩, AV.int IntKind.i64 0, AV.int IntKind.i64 0, AV.int IntKind.i64 0] 0 (tkc t) = tkc t := rfl
          simp only [cf96_l0, e21, e22, e23, hd, hai, (hT1.at ht).1, hc5, hset, go_sem, ↓reduceIte, reduceCtorEq, Nat.reduceEqDiff, Nat.reduceAdd, Nat.reduceSub, Nat.reduceMul, Nat.reduceLeDiff, Nat.reduceLT, binA]
          obtain ⟨S2, hS2⟩ : ∃ S2, S2 = (S1.new (AO.cells [AV.int IntKind.i64 0, AV.str ⟨#[]⟩, AV.int IntKind.i64 0, AV.int IntKind.i64 0, AV.int IntKind.i64 0])).put S1.size (some (AO.cells (tkc t))) := ⟨_, rfl⟩
          rw [← hS2]
          have hk2 : Keep S1 S2 := by rw [hS2]; exact (Keep.new _ _).put' (Nat.le_refl _) _
          have hkS : Keep S S2 := hk1.trans hk2
          have hT2 := hT1.keep hk2
          have hbx : S2.obj S1.size = some (.cells (tkc t)) := by rw [hS2]; exact put_eq
          have b0 : loadA S2 false 1 (.ptr S1.size 0) = some (.int .i64 t.kind) := by simp [loadA, rdCells, hbx, tkc]
          have b3 : loadA S2 false 1 (.ptr S1.size 3) = some (.int .i64 t.line) := by simp [loadA, rdCells, hbx, tkc]
          have b4 : loadA S2 false 1 (.ptr S1.size 4) = some (.int .i64 t.col) := by simp [loadA, rdCells, hbx, tkc]
          clear hS2
          generalize S1.size = N at *
          have nx : okAt L i t = true → ∀ (j : Nat) t, j < i + 1 → L[j]? = some t → okAt L j t = true := fun hok j t' hj ht' => by
            by_cases hji : j < i
            · exact hall j t' hji ht'
            · obtain rfl : j = i := by omega
              rw [ht] at ht'; cases ht'; exact hok
          have step : okAt L i t = true → ∃ k', k' < k ∧ ∃ i', i' + k' = L.length ∧ e 21 = .msl q 0 L.length 5 ∧ e 22 = .int .i64 L.length ∧ AV.int .i64 ((i + 1 : Nat) : Int) = .int .i64 (i' : Int) ∧ (∀ (j : Nat) t, j < i' → L[j]? = some t → okAt L j t = true) ∧ Keep S S2 := fun hok => ⟨k - 1, by omega, i + 1, by omega, e21, e22, rfl, nx hok, hkS⟩
          cases h1 : decide ((t.line : Int) < 1)
          · cases h2 : decide ((t.col : Int) < 1)
            · cases h3 : decide (t.kind < 0)
              · cases h4 : decide (t.kind > 9)
                · cases h5 : decide (t.kind ≥ 6)
                  · cases h6 : decide (t.kind ≤ 8)
                    · cases h7 : (t.kind == 9)
                      · cases h8 : ((i : Int) == ((L.length - 1 : Nat) : Int))
                        · have k1 : bad1 t = false := by simp only [bad1, h1, h2]; rfl
                          have k2 : bad2 t ((i : Int) == ((L.length - 1 : Nat) : Int)) = false := by simp only [bad2, h3, h4, h5, h6, h7, h8]; rfl
                          rcases Nat.eq_zero_or_pos i with hi0 | hi0
                          · have g0 : decide ((i : Int) > 0) = false := by simp [hi0]
                            simp only [g0, e0, e23, b0, b3, b4, h1, h2, h3, h4, h5, h6, h7, h8, hlen, hw, hwi, go_sem, ↓reduceIte, reduceCtorEq, Nat.reduceEqDiff, Nat.reduceAdd, Nat.reduceSub, Nat.reduceMul, Nat.reduceLeDiff, Nat.reduceLT, binA]
                            refine step ?_
                            subst hi0
                            show (!(bad1 t) && !(bad2 t _) && true) = true
                            rw [k1, k2]; rfl
                          · have g0 : decide ((i : Int) > 0) = true := by simp; omega
                            have hwj : IntKind.i64.wrap ((i : Int) - 1) = ((i - 1 : Nat) : Int) := by rw [IntKind.wrap_i64]; omega
                            obtain ⟨u, hu⟩ : ∃ u, L[i - 1]? = some u := ⟨_, List.getElem?_eq_getElem (by omega)⟩
                            obtain ⟨-, -, -, u3, u4⟩ := hT2.at hu
                            have haj := tok_addr (q := q) (n := L.length) (j := i - 1) (by omega)
                            have hoks : okAt L i t = !(bad3 u t) := by
                              obtain ⟨j, rfl⟩ : ∃ j, i = j + 1 := ⟨i - 1, by omega⟩
                              rw [Nat.add_sub_cancel] at hu
                              rw [okAt_s hu, k1, k2]; rfl
                            cases q1 : decide ((t.line : Int) < u.line)
                            · cases q2 : ((t.line : Int) == u.line)
                              · simp only [g0, hwj, haj, u3, u4, q1, q2, e0, e23, b0, b3, b4, h1, h2, h3, h4, h5, h6, h7, h8, hlen, hw, hwi, go_sem, ↓reduceIte, reduceCtorEq, Nat.reduceEqDiff, Nat.reduceAdd, Nat.reduceSub, Nat.reduceMul, Nat.reduceLeDiff, Nat.reduceLT, binA]
                                exact step (by rw [hoks]; simp only [bad3, q1, q2]; rfl)
                              · cases q3 : decide ((t.col : Int) < u.col)
                                · simp only [g0, hwj, haj, u3, u4, q1, q2, q3, e0, e23, b0, b3, b4, h1, h2, h3, h4, h5, h6, h7, h8, hlen, hw, hwi, go_sem, ↓reduceIte, reduceCtorEq, Nat.reduceEqDiff, Nat.reduceAdd, Nat.reduceSub, Nat.reduceMul, Nat.reduceLeDiff, Nat.reduceLT, binA]
                                  exact step (by rw [hoks]; simp only [bad3, q1, q2, q3]; rfl)
                                · simp only [g0, hwj, haj, u3, u4, q1, q2, q3, e0, e23, b0, b3, b4, h1, h2, h3, h4, h5, h6, h7, h8, hlen, hw, hwi, go_sem, ↓reduceIte, reduceCtorEq, Nat.reduceEqDiff, Nat.reduceAdd, Nat.reduceSub, Nat.reduceMul, Nat.reduceLeDiff, Nat.reduceLT, binA]
                                  exact ⟨by simp, _, rfl, ⟨3, rfl, iff_of_false (by decide) fun hc => by have := hc.ok i t ht; rw [hoks] at this; simp only [bad3, q1, q2, q3] at this; exact absurd this (by simp)⟩, hkS⟩
                            · simp only [g0, hwj, haj, u3, u4, q1, e0, e23, b0, b3, b4, h1, h2, h3, h4, h5, h6, h7, h8, hlen, hw, hwi, go_sem, ↓reduceIte, reduceCtorEq, Nat.reduceEqDiff, Nat.reduceAdd, Nat.reduceSub, Nat.reduceMul, Nat.reduceLeDiff, Nat.reduceLT, binA]
                              exact ⟨by simp, _, rfl, ⟨3, rfl, iff_of_false (by decide) fun hc => by have := hc.ok i t ht; rw [hoks] at this; simp only [bad3, q1] at this; exact absurd this (by simp)⟩, hkS⟩
                        · simp only [e0, e23, b0, b3, b4, h1, h2, h3, h4, h5, h6, h7, h8, hlen, hw, hwi, go_sem, ↓reduceIte, reduceCtorEq, Nat.reduceEqDiff, Nat.reduceAdd, Nat.reduceSub, Nat.reduceMul, Nat.reduceLeDiff, Nat.reduceLT, binA]
                          exact ⟨by simp, _, rfl, ⟨3, rfl, iff_of_false (by decide) fun hc => by have := hc.ok i t ht; simp only [okAt, bad2, h7, h8] at this; simp at this⟩, hkS⟩
                      · cases h8 : ((i : Int) == ((L.length - 1 : Nat) : Int))
                        · simp only [e0, e23, b0, b3, b4, h1, h2, h3, h4, h5, h6, h7, h8, hlen, hw, hwi, go_sem, ↓reduceIte, reduceCtorEq, Nat.reduceEqDiff, Nat.reduceAdd, Nat.reduceSub, Nat.reduceMul, Nat.reduceLeDiff, Nat.reduceLT, binA]
                          exact ⟨by simp, _, rfl, ⟨3, rfl, iff_of_false (by decide) fun hc => by have := hc.ok i t ht; simp only [okAt, bad2, h7, h8] at this; simp at this⟩, hkS⟩
                        · have k1 : bad1 t = false := by simp only [bad1, h1, h2]; rfl
                          have k2 : bad2 t ((i : Int) == ((L.length - 1 : Nat) : Int)) = false := by simp only [bad2, h3, h4, h5, h6, h7, h8]; rfl
                          rcases Nat.eq_zero_or_pos i with hi0 | hi0
                          · have g0 : decide ((i : Int) > 0) = false := by simp [hi0]
                            simp only [g0, e0, e23, b0, b3, b4, h1, h2, h3, h4, h5, h6, h7, h8, hlen, hw, hwi, go_sem, ↓reduceIte, reduceCtorEq, Nat.reduceEqDiff, Nat.reduceAdd, Nat.reduceSub, Nat.reduceMul, Nat.reduceLeDiff, Nat.reduceLT, binA]
                            refine step ?_
                            subst hi0
                            show (!(bad1 t) && !(bad2 t _) && true) = true
                            rw [k1, k2]; rfl
                          · have g0 : decide ((i : Int) > 0) = true := by simp; omega
                            have hwj : IntKind.i64.wrap ((i : Int) - 1) = ((i - 1 : Nat) : Int) := by rw [IntKind.wrap_i64]; omega
                            obtain ⟨u, hu⟩ : ∃ u, L[i - 1]? = some u := ⟨_, List.getElem?_eq_getElem (by omega)⟩
                            obtain ⟨-, -, -, u3, u4⟩ := hT2.at hu
                            have haj := tok_addr (q := q) (n := L.length) (j := i - 1) (by omega)
                            have hoks : okAt L i t = !(bad3 u t) := by
                              obtain ⟨j, rfl⟩ : ∃ j, i = j + 1 := ⟨i - 1, by omega⟩
                              rw [Nat.add_sub_cancel] at hu
                              rw [okAt_s hu, k1, k2]; rfl
                            cases q1 : decide ((t.line : Int) < u.line)
                            · cases q2 : ((t.line : Int) == u.line)
                              · simp only [g0, hwj, haj, u3, u4, q1, q2, e0, e23, b0, b3, b4, h1, h2, h3, h4, h5, h6, h7, h8, hlen, hw, hwi, go_sem, ↓reduceIte, reduceCtorEq, Nat.reduceEqDiff, Nat.reduceAdd, Nat.reduceSub, Nat.reduceMul, Nat.reduceLeDiff, Nat.reduceLT, binA]
                                exact step (by rw [hoks]; simp only [bad3, q1, q2]; rfl)
                              · cases q3 : decide ((t.col : Int) < u.col)
                                · simp only [g0, hwj, haj, u3, u4, q1, q2, q3, e0, e23, b0, b3, b4, h1, h2, h3, h4, h5, h6, h7, h8, hlen, hw, hwi, go_sem, ↓reduceIte, reduceCtorEq, Nat.reduceEqDiff, Nat.reduceAdd, Nat.reduceSub, Nat.reduceMul, Nat.reduceLeDiff, Nat.reduceLT, binA]
                                  exact step (by rw [hoks]; simp only [bad3, q1, q2, q3]; rfl)
                                · simp only [g0, hwj, haj, u3, u4, q1, q2, q3, e0, e23, b0, b3, b4, h1, h2, h3, h4, h5, h6, h7, h8, hlen, hw, hwi, go_sem, ↓reduceIte, reduceCtorEq, Nat.reduceEqDiff, Nat.reduceAdd, Nat.reduceSub, Nat.reduceMul, Nat.reduceLeDiff, Nat.reduceLT, binA]
                                  exact ⟨by simp, _, rfl, ⟨3, rfl, iff_of_false (by decide) fun hc => by have := hc.ok i t ht; rw [hoks] at this; simp only [bad3, q1, q2, q3] at this; exact absurd this (by simp)⟩, hkS⟩
                            · simp only [g0, hwj, haj, u3, u4, q1, e0, e23, b0, b3, b4, h1, h2, h3, h4, h5, h6, h7, h8, hlen, hw, hwi, go_sem, ↓reduceIte, reduceCtorEq, Nat.reduceEqDiff, Nat.reduceAdd, Nat.reduceSub, Nat.reduceMul, Nat.reduceLeDiff, Nat.reduceLT, binA]
                              exact ⟨by simp, _, rfl, ⟨3, rfl, iff_of_false (by decide) fun hc => by have := hc.ok i t ht; rw [hoks] at this; simp only [bad3, q1] at this; exact absurd this (by simp)⟩, hkS⟩
                    · cases h7 : (t.kind == 9)
                      · cases h8 : ((i : Int) == ((L.length - 1 : Nat) : Int))
                        · have k1 : bad1 t = false := by simp only [bad1, h1, h2]; rfl
                          have k2 : bad2 t ((i : Int) == ((L.length - 1 : Nat) : Int)) = false := by simp only [bad2, h3, h4, h5, h6, h7, h8]; rfl
                          rcases Nat.eq_zero_or_pos i with hi0 | hi0
                          · have g0 : decide ((i : Int) > 0) = false := by simp [hi0]
                            simp only [g0, e0, e23, b0, b3, b4, h1, h2, h3, h4, h5, h6, h7, h8, hlen, hw, hwi, go_sem, ↓reduceIte, reduceCtorEq, Nat.reduceEqDiff, Nat.reduceAdd, Nat.reduceSub, Nat.reduceMul, Nat.reduceLeDiff, Nat.reduceLT, binA]
                            refine step ?_
                            subst hi0
                            show (!(bad1 t) && !(bad2 t _) && true) = true
                            rw [k1, k2]; rfl
                          · have g0 : decide ((i : Int) > 0) = true := by simp; omega
                            have hwj : IntKind.i64.wrap ((i : Int) - 1) = ((i - 1 : Nat) : Int) := by rw [IntKind.wrap_i64]; omega
                            obtain ⟨u, hu⟩ : ∃ u, L[i - 1]? = some u := ⟨_, List.getElem?_eq_getElem (by omega)⟩
                            obtain ⟨-, -, -, u3, u4⟩ := hT2.at hu
                            have haj := tok_addr (q := q) (n := L.length) (j := i - 1) (by omega)
                            have hoks : okAt L i t = !(bad3 u t) := by
                              obtain ⟨j, rfl⟩ : ∃ j, i = j + 1 := ⟨i - 1, by omega⟩
                              rw [Nat.add_sub_cancel] at hu
                              rw [okAt_s hu, k1, k2]; rfl
                            cases q1 : decide ((t.line : Int) < u.line)
                            · cases q2 : ((t.line : Int) == u.line)
                              · simp only [g0, hwj, haj, u3, u4, q1, q2, e0, e23, b0, b3, b4, h1, h2, h3, h4, h5, h6, h7, h8, hlen, hw, hwi, go_sem, ↓reduceIte, reduceCtorEq, Nat.reduceEqDiff, Nat.reduceAdd, Nat.reduceSub, Nat.reduceMul, Nat.reduceLeDiff, Nat.reduceLT, binA]
                                exact step (by rw [hoks]; simp only [bad3, q1, q2]; rfl)
                              · cases q3 : decide ((t.col : Int) < u.col)
                                · simp only [g0, hwj, haj, u3, u4, q1, q2, q3, e0, e23, b0, b3, b4, h1, h2, h3, h4, h5, h6, h7, h8, hlen, hw, hwi, go_sem, ↓reduceIte, reduceCtorEq, Nat.reduceEqDiff, Nat.reduceAdd, Nat.reduceSub, Nat.reduceMul, Nat.reduceLeDiff, Nat.reduceLT, binA]
                                  exact step (by rw [hoks]; simp only [bad3, q1, q2, q3]; rfl)
                                · simp only [g0, hwj, haj, u3, u4, q1, q2, q3, e0, e23, b0, b3, b4, h1, h2, h3, h4, h5, h6, h7, h8, hlen, hw, hwi, go_sem, ↓reduceIte, reduceCtorEq, Nat.reduceEqDiff, Nat.reduceAdd, Nat.reduceSub, Nat.reduceMul, Nat.reduceLeDiff, Nat.reduceLT, binA]
                                  exact ⟨by simp, _, rfl, ⟨3, rfl, iff_of_false (by decide) fun hc => by have := hc.ok i t ht; rw [hoks] at this; simp only [bad3, q1, q2, q3] at this; exact absurd this (by simp)⟩, hkS⟩
                            · simp only [g0, hwj, haj, u3, u4, q1, e0, e23, b0, b3, b4, h1, h2, h3, h4, h5, h6, h7, h8, hlen, hw, hwi, go_sem, ↓reduceIte, reduceCtorEq, Nat.reduceEqDiff, Nat.reduceAdd, Nat.reduceSub, Nat.reduceMul, Nat.reduceLeDiff, Nat.reduceLT, binA]
                              exact ⟨by simp, _, rfl, ⟨3, rfl, iff_of_false (by decide) fun hc => by have := hc.ok i t ht; rw [hoks] at this; simp only [bad3, q1] at this; exact absurd this (by simp)⟩, hkS⟩
                        · simp only [e0, e23, b0, b3, b4, h1, h2, h3, h4, h5, h6, h7, h8, hlen, hw, hwi, go_sem, ↓reduceIte, reduceCtorEq, Nat.reduceEqDiff, Nat.reduceAdd, Nat.reduceSub, Nat.reduceMul, Nat.reduceLeDiff, Nat.reduceLT, binA]
                          exact ⟨by simp, _, rfl, ⟨3, rfl, iff_of_false (by decide) fun hc => by have := hc.ok i t ht; simp only [okAt, bad2, h7, h8] at this; simp at this⟩, hkS⟩
                      · cases h8 : ((i : Int) == ((L.length - 1 : Nat) : Int))
                        · simp only [e0, e23, b0, b3, b4, h1, h2, h3, h4, h5, h6, h7, h8, hlen, hw, hwi, go_sem, ↓reduceIte, reduceCtorEq, Nat.reduceEqDiff, Nat.reduceAdd, Nat.reduceSub, Nat.reduceMul, Nat.reduceLeDiff, Nat.reduceLT, binA]
                          exact ⟨by simp, _, rfl, ⟨3, rfl, iff_of_false (by decide) fun hc => by have := hc.ok i t ht; simp only [okAt, bad2, h7, h8] at this; simp at this⟩, hkS⟩
                        · have k1 : bad1 t = false := by simp only [bad1, h1, h2]; rfl
                          have k2 : bad2 t ((i : Int) == ((L.length - 1 : Nat) : Int)) = false := by simp only [bad2, h3, h4, h5, h6, h7, h8]; rfl
                          rcases Nat.eq_zero_or_pos i with hi0 | hi0
                          · have g0 : decide ((i : Int) > 0) = false := by simp [hi0]
                            simp only [g0, e0, e23, b0, b3, b4, h1, h2, h3, h4, h5, h6, h7, h8, hlen, hw, hwi, go_sem, ↓reduceIte, reduceCtorEq, Nat.reduceEqDiff, Nat.reduceAdd, Nat.reduceSub, Nat.reduceMul, Nat.reduceLeDiff, Nat.reduceLT, binA]
                            refine step ?_
                            subst hi0
                            show (!(bad1 t) && !(bad2 t _) && true) = true
                            rw [k1, k2]; rfl
                          · have g0 : decide ((i : Int) > 0) = true := by simp; omega
                            have hwj : IntKind.i64.wrap ((i : Int) - 1) = ((i - 1 : Nat) : Int) := by rw [IntKind.wrap_i64]; omega
                            obtain ⟨u, hu⟩ : ∃ u, L[i - 1]? = some u := ⟨_, List.getElem?_eq_getElem (by omega)⟩
                            obtain ⟨-, -, -, u3, u4⟩ := hT2.at hu
                            have haj := tok_addr (q := q) (n := L.length) (j := i - 1) (by omega)
                            have hoks : okAt L i t = !(bad3 u t) := by
                              obtain ⟨j, rfl⟩ : ∃ j, i = j + 1 := ⟨i - 1, by omega⟩
                              rw [Nat.add_sub_cancel] at hu
                              rw [okAt_s hu, k1, k2]; rfl
                            cases q1 : decide ((t.line : Int) < u.line)
                            · cases q2 : ((t.line : Int) == u.line)
                              · simp only [g0, hwj, haj, u3, u4, q1, q2, e0, e23, b0, b3, b4, h1, h2, h3, h4, h5, h6, h7, h8, hlen, hw, hwi, go_sem, ↓reduceIte, reduceCtorEq, Nat.reduceEqDiff, Nat.reduceAdd, Nat.reduceSub, Nat.reduceMul, Nat.reduceLeDiff, Nat.reduceLT, binA]
                                exact step (by rw [hoks]; simp only [bad3, q1, q2]; rfl)
                              · cases q3 : decide ((t.col : Int) < u.col)
                                · simp only [g0, hwj, haj, u3, u4, q1, q2, q3, e0, e23, b0, b3, b4, h1, h2, h3, h4, h5, h6, h7, h8, hlen, hw, hwi, go_sem, ↓reduceIte, reduceCtorEq, Nat.reduceEqDiff, Nat.reduceAdd, Nat.reduceSub, Nat.reduceMul, Nat.reduceLeDiff, Nat.reduceLT, binA]
                                  exact step (by rw [hoks]; simp only [bad3, q1, q2, q3]; rfl)
                                · simp only [g0, hwj, haj, u3, u4, q1, q2, q3, e0, e23, b0, b3, b4, h1, h2, h3, h4, h5, h6, h7, h8, hlen, hw, hwi, go_sem, ↓reduceIte, reduceCtorEq, Nat.reduceEqDiff, Nat.reduceAdd, Nat.reduceSub, Nat.reduceMul, Nat.reduceLeDiff, Nat.reduceLT, binA]
                                  exact ⟨by simp, _, rfl, ⟨3, rfl, iff_of_false (by decide) fun hc => by have := hc.ok i t ht; rw [hoks] at this; simp only [bad3, q1, q2, q3] at this; exact absurd this (by simp)⟩, hkS⟩
                            · simp only [g0, hwj, haj, u3, u4, q1, e0, e23, b0, b3, b4, h1, h2, h3, h4, h5, h6, h7, h8, hlen, hw, hwi, go_sem, ↓reduceIte, reduceCtorEq, Nat.reduceEqDiff, Nat.reduceAdd, Nat.reduceSub, Nat.reduceMul, Nat.reduceLeDiff, Nat.reduceLT, binA]
                              exact ⟨by simp, _, rfl, ⟨3, rfl, iff_of_false (by decide) fun hc => by have := hc.ok i t ht; rw [hoks] at this; simp only [bad3, q1] at this; exact absurd this (by simp)⟩, hkS⟩
                  · cases h6 : decide (t.kind ≤ 8)
                    · cases h7 : (t.kind == 9)
                      · cases h8 : ((i : Int) == ((L.length - 1 : Nat) : Int))
                        · have k1 : bad1 t = false := by simp only [bad1, h1, h2]; rfl
                          have k2 : bad2 t ((i : Int) == ((L.length - 1 : Nat) : Int)) = false := by simp only [bad2, h3, h4, h5, h6, h7, h8]; rfl
                          rcases Nat.eq_zero_or_pos i with hi0 | hi0
                          · have g0 : decide ((i : Int) > 0) = false := by simp [hi0]
                            simp only [g0, e0, e23, b0, b3, b4, h1, h2, h3, h4, h5, h6, h7, h8, hlen, hw, hwi, go_sem, ↓reduceIte, reduceCtorEq, Nat.reduceEqDiff, Nat.reduceAdd, Nat.reduceSub, Nat.reduceMul, Nat.reduceLeDiff, Nat.reduceLT, binA]
                            refine step ?_
                            subst hi0
                            show (!(bad1 t) && !(bad2 t _) && true) = true
                            rw [k1, k2]; rfl
                          · have g0 : decide ((i : Int) > 0) = true := by simp; omega
                            have hwj : IntKind.i64.wrap ((i : Int) - 1) = ((i - 1 : Nat) : Int) := by rw [IntKind.wrap_i64]; omega
                            obtain ⟨u, hu⟩ : ∃ u, L[i - 1]? = some u := ⟨_, List.getElem?_eq_getElem (by omega)⟩
                            obtain ⟨-, -, -, u3, u4⟩ := hT2.at hu
                            have haj := tok_addr (q := q) (n := L.length) (j := i - 1) (by omega)
                            have hoks : okAt L i t = !(bad3 u t) := by
                              obtain ⟨j, rfl⟩ : ∃ j, i = j + 1 := ⟨i - 1, by omega⟩
                              rw [Nat.add_sub_cancel] at hu
                              rw [okAt_s hu, k1, k2]; rfl
                            cases q1 : decide ((t.line : Int) < u.line)
                            · cases q2 : ((t.line : Int) == u.line)
                              · simp only [g0, hwj, haj, u3, u4, q1, q2, e0, e23, b0, b3, b4, h1, h2, h3, h4, h5, h6, h7, h8, hlen, hw, hwi, go_sem, ↓reduceIte, reduceCtorEq, Nat.reduceEqDiff, Nat.reduceAdd, Nat.reduceSub, Nat.reduceMul, Nat.reduceLeDiff, Nat.reduceLT, binA]
                                exact step (by rw [hoks]; simp only [bad3, q1, q2]; rfl)
                              · cases q3 : decide ((t.col : Int) < u.col)
                                · simp only [g0, hwj, haj, u3, u4, q1, q2, q3, e0, e23, b0, b3, b4, h1, h2, h3, h4, h5, h6, h7, h8, hlen, hw, hwi, go_sem, ↓reduceIte, reduceCtorEq, Nat.reduceEqDiff, Nat.reduceAdd, Nat.reduceSub, Nat.reduceMul, Nat.reduceLeDiff, Nat.reduceLT, binA]
                                  exact step (by rw [hoks]; simp only [bad3, q1, q2, q3]; rfl)
                                · simp only [g0, hwj, haj, u3, u4, q1, q2, q3, e0, e23, b0, b3, b4, h1, h2, h3, h4, h5, h6, h7, h8, hlen, hw, hwi, go_sem, ↓reduceIte, reduceCtorEq, Nat.reduceEqDiff, Nat.reduceAdd, Nat.reduceSub, Nat.reduceMul, Nat.reduceLeDiff, Nat.reduceLT, binA]
                                  exact ⟨by simp, _, rfl, ⟨3, rfl, iff_of_false (by decide) fun hc => by have := hc.ok i t ht; rw [hoks] at this; simp only [bad3, q1, q2, q3] at this; exact absurd this (by simp)⟩, hkS⟩
                            · simp only [g0, hwj, haj, u3, u4, q1, e0, e23, b0, b3, b4, h1, h2, h3, h4, h5, h6, h7, h8, hlen, hw, hwi, go_sem, ↓reduceIte, reduceCtorEq, Nat.reduceEqDiff, Nat.reduceAdd, Nat.reduceSub, Nat.reduceMul, Nat.reduceLeDiff, Nat.reduceLT, binA]
                              exact ⟨by simp, _, rfl, ⟨3, rfl, iff_of_false (by decide) fun hc => by have := hc.ok i t ht; rw [hoks] at this; simp only [bad3, q1] at this; exact absurd this (by simp)⟩, hkS⟩
                        · simp only [e0, e23, b0, b3, b4, h1, h2, h3, h4, h5, h6, h7, h8, hlen, hw, hwi, go_sem, ↓reduceIte, reduceCtorEq, Nat.reduceEqDiff, Nat.reduceAdd, Nat.reduceSub, Nat.reduceMul, Nat.reduceLeDiff, Nat.reduceLT, binA]
                          exact ⟨by simp, _, rfl, ⟨3, rfl, iff_of_false (by decide) fun hc => by have := hc.ok i t ht; simp only [okAt, bad2, h7, h8] at this; simp at this⟩, hkS⟩
                      · cases h8 : ((i : Int) == ((L.length - 1 : Nat) : Int))
                        · simp only [e0, e23, b0, b3, b4, h1, h2, h3, h4, h5, h6, h7, h8, hlen, hw, hwi, go_sem, ↓reduceIte, reduceCtorEq, Nat.reduceEqDiff, Nat.reduceAdd, Nat.reduceSub, Nat.reduceMul, Nat.reduceLeDiff, Nat.reduceLT, binA]
                          exact ⟨by simp, _, rfl, ⟨3, rfl, iff_of_false (by decide) fun hc => by have := hc.ok i t ht; simp only [okAt, bad2, h7, h8] at this; simp at this⟩, hkS⟩
                        · have k1 : bad1 t = false := by simp only [bad1, h1, h2]; rfl
                          have k2 : bad2 t ((i : Int) == ((L.length - 1 : Nat) : Int)) = false := by simp only [bad2, h3, h4, h5, h6, h7, h8]; rfl
                          rcases Nat.eq_zero_or_pos i with hi0 | hi0
                          · have g0 : decide ((i : Int) > 0) = false := by simp [hi0]
                            simp only [g0, e0, e23, b0, b3, b4, h1, h2, h3, h4, h5, h6, h7, h8, hlen, hw, hwi, go_sem, ↓reduceIte, reduceCtorEq, Nat.reduceEqDiff, Nat.reduceAdd, Nat.reduceSub, Nat.reduceMul, Nat.reduceLeDiff, Nat.reduceLT, binA]
                            refine step ?_
                            subst hi0
                            show (!(bad1 t) && !(bad2 t _) && true) = true
                            rw [k1, k2]; rfl
                          · have g0 : decide ((i : Int) > 0) = true := by simp; omega
                            have hwj : IntKind.i64.wrap ((i : Int) - 1) = ((i - 1 : Nat) : Int) := by rw [IntKind.wrap_i64]; omega
                            obtain ⟨u, hu⟩ : ∃ u, L[i - 1]? = some u := ⟨_, List.getElem?_eq_getElem (by omega)⟩
                            obtain ⟨-, -, -, u3, u4⟩ := hT2.at hu
                            have haj := tok_addr (q := q) (n := L.length) (j := i - 1) (by omega)
                            have hoks : okAt L i t = !(bad3 u t) := by
                              obtain ⟨j, rfl⟩ : ∃ j, i = j + 1 := ⟨i - 1, by omega⟩
                              rw [Nat.add_sub_cancel] at hu
                              rw [okAt_s hu, k1, k2]; rfl
                            cases q1 : decide ((t.line : Int) < u.line)
                            · cases q2 : ((t.line : Int) == u.line)
                              · simp only [g0, hwj, haj, u3, u4, q1, q2, e0, e23, b0, b3, b4, h1, h2, h3, h4, h5, h6, h7, h8, hlen, hw, hwi, go_sem, ↓reduceIte, reduceCtorEq, Nat.reduceEqDiff, Nat.reduceAdd, Nat.reduceSub, Nat.reduceMul, Nat.reduceLeDiff, Nat.reduceLT, binA]
                                exact step (by rw [hoks]; simp only [bad3, q1, q2]; rfl)
                              · cases q3 : decide ((t.col : Int) < u.col)
                                · simp only [g0, hwj, haj, u3, u4, q1, q2, q3, e0, e23, b0, b3, b4, h1, h2, h3, h4, h5, h6, h7, h8, hlen, hw, hwi, go_sem, ↓reduceIte, reduceCtorEq, Nat.reduceEqDiff, Nat.reduceAdd, Nat.reduceSub, Nat.reduceMul, Nat.reduceLeDiff, Nat.reduceLT, binA]
                                  exact step (by rw [hoks]; simp only [bad3, q1, q2, q3]; rfl)
                                · simp only [g0, hwj, haj, u3, u4, q1, q2, q3, e0, e23, b0, b3, b4, h1, h2, h3, h4, h5, h6, h7, h8, hlen, hw, hwi, go_sem, ↓reduceIte, reduceCtorEq, Nat.reduceEqDiff, Nat.reduceAdd, Nat.reduceSub, Nat.reduceMul, Nat.reduceLeDiff, Nat.reduceLT, binA]
                                  exact ⟨by simp, _, rfl, ⟨3, rfl, iff_of_false (by decide) fun hc => by have := hc.ok i t ht; rw [hoks] at this; simp only [bad3, q1, q2, q3] at this; exact absurd this (by simp)⟩, hkS⟩
                            · simp only [g0, hwj, haj, u3, u4, q1, e0, e23, b0, b3, b4, h1, h2, h3, h4, h5, h6, h7, h8, hlen, hw, hwi, go_sem, ↓reduceIte, reduceCtorEq, Nat.reduceEqDiff, Nat.reduceAdd, Nat.reduceSub, Nat.reduceMul, Nat.reduceLeDiff, Nat.reduceLT, binA]
                              exact ⟨by simp, _, rfl, ⟨3, rfl, iff_of_false (by decide) fun hc => by have := hc.ok i t ht; rw [hoks] at this; simp only [bad3, q1] at this; exact absurd this (by simp)⟩, hkS⟩
                    · simp only [b0, b3, b4, h1, h2, h3, h4, h5, h6, go_sem, ↓reduceIte, reduceCtorEq, Nat.reduceEqDiff, Nat.reduceAdd, Nat.reduceSub, Nat.reduceMul, Nat.reduceLeDiff, Nat.reduceLT, binA]
                      exact ⟨by simp, _, rfl, ⟨3, rfl, iff_of_false (by decide) fun hc => by have := hc.ok i t ht; simp only [okAt, bad2, h5, h6] at this; simp at this⟩, hkS⟩
                · simp only [b0, b3, b4, h1, h2, h3, h4, go_sem, ↓reduceIte, reduceCtorEq, Nat.reduceEqDiff, Nat.reduceAdd, Nat.reduceSub, Nat.reduceMul, Nat.reduceLeDiff, Nat.reduceLT, binA]
                  exact ⟨by simp, _, rfl, ⟨3, rfl, iff_of_false (by decide) fun hc => by have := hc.ok i t ht; simp only [okAt, bad2, h4] at this; simp at this⟩, hkS⟩
              · simp only [b0, b3, b4, h1, h2, h3, go_sem, ↓reduceIte, reduceCtorEq, Nat.reduceEqDiff, Nat.reduceAdd, Nat.reduceSub, Nat.reduceMul, Nat.reduceLeDiff, Nat.reduceLT, binA]
                exact ⟨by simp, _, rfl, ⟨3, rfl, iff_of_false (by decide) fun hc => by have := hc.ok i t ht; simp only [okAt, bad2, h3] at this; simp at this⟩, hkS⟩
            · simp only [b3, b4, h1, h2, go_sem, ↓reduceIte, reduceCtorEq, Nat.reduceEqDiff, Nat.reduceAdd, Nat.reduceSub, Nat.reduceMul, Nat.reduceLeDiff, Nat.reduceLT, binA]
              exact ⟨by simp, _, rfl, ⟨4, rfl, iff_of_false (by decide) fun hc => by have := hc.ok i t ht; simp [okAt, bad1, h2] at this⟩, hkS⟩
          · simp only [b3, h1, go_sem, ↓reduceIte, reduceCtorEq, Nat.reduceEqDiff, Nat.reduceAdd, Nat.reduceSub, Nat.reduceMul, Nat.reduceLeDiff, Nat.reduceLT, binA]
            exact ⟨by simp, _, rfl, ⟨4, rfl, iff_of_false (by decide) fun hc => by have := hc.ok i t ht; simp [okAt, bad1, h1] at this⟩, hkS⟩
        · have hd : decide ((i : Int) < (L.length : Int)) = false := by simp; omega
          simp only [cf96_l0, e22, e23, hd, go_sem, ↓reduceIte, reduceCtorEq, Nat.reduceEqDiff, Nat.reduceAdd, Nat.reduceSub, Nat.reduceMul, Nat.reduceLeDiff, Nat.reduceLT, binA]
          exact ⟨by simp, _, rfl, ⟨0, rfl, iff_of_true rfl ⟨by omega, by omega, fun j t hj => hall j t (by have := (List.getElem?_eq_some_iff.1 hj).1; omega) hj⟩⟩, hk1⟩
      · simp only [go_sem, ↓reduceIte, reduceCtorEq, Nat.reduceEqDiff, Nat.reduceAdd, Nat.reduceSub, Nat.reduceMul, Nat.reduceLeDiff, Nat.reduceLT, binA]
        refine ⟨by simp, _, rfl, ⟨3, rfl, iff_of_false (by decide) fun hc => ?_⟩, Keep.refl S⟩
        have := hc.ok _ u hu
        have hk9 : (u.kind == 9) = false := by simpa using hk
        simp [okAt, bad2, hk9] at this
    · have h0 : L.length = 0 := by simpa using hz
      simp only [cf96, hlen, hbig, hz, go_sem, ↓reduceIte, reduceCtorEq, Nat.reduceEqDiff, Nat.reduceAdd, Nat.reduceSub, Nat.reduceMul, Nat.reduceLeDiff, Nat.reduceLT, binA]
      exact ⟨by simp, _, rfl, ⟨3, rfl, iff_of_false (by decide) fun hc => by have := hc.pos; omega⟩, Keep.refl S⟩
  · simp only [cf96, hlen, hbig, go_sem, ↓reduceIte, reduceCtorEq, Nat.reduceEqDiff, Nat.reduceAdd, Nat.reduceSub, Nat.reduceMul, Nat.reduceLeDiff, Nat.reduceLT, binA]
    have := of_decide_eq_true hbig
    exact ⟨by simp, _, rfl, ⟨2, rfl, iff_of_false (by decide) fun hc => by have := hc.le; omega⟩, Keep.refl S⟩
end Go.Am.Y1
