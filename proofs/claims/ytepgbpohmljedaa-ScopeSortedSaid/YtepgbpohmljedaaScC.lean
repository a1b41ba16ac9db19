/- Located errors: repetitions removed in place; Sorted. Conditions: none. -/
import Derived.Test.YtepgbpohmljedaaScB
set_option linter.unusedSimpArgs false
set_option linter.unusedVariables false
namespace Go.Am.W1
open Go.So (Ord Srt ins isort)
open Go.Sc (cpt)
set_option maxRecDepth 100000
set_option linter.unusedSimpArgs false
attribute [local go_sem] wseq wreg wdreg wret wskip wexit wblock wcnd cnd_t cnd_f then_n then_x then_r catch_n rnd_n rnd_x rnd_r catch_x catch_r wo_nil wo_grd grdO_t grdO_f wo_ops stpO wr_nil wr_alloc wr_guards grdR_t grdR_f wr_ops stpR evAllocs evOp env0_app eput_some eput_none eset_app Opd.ev wantedA faddrA snew_obj snew_size sput_obj sput_size av_cells av_one av_strip av_still unA eqbA fillA fldA lensA mmA mm2 mmFold List.getD_cons_zero List.getD_cons_succ List.getD_nil List.length_cons List.length_nil List.drop_zero List.drop_succ_cons List.take_succ_cons List.take_zero List.map_cons List.map_nil List.set_cons_zero List.set_cons_succ List.all_cons List.all_nil List.getElem?_cons_zero List.getElem?_cons_succ List.nil_append List.cons_append Nat.zero_add Nat.add_zero beq_self_eq_true bt bf Bool.not_true Bool.not_false Bool.and_true Bool.true_and Bool.and_false Bool.false_and and_self and_true true_and n0 n1 n2 n3 n4 m0 m1 m2 m3 c1 retA resAs resA undefA Option.map_some Option.map_none

theorem wrapn1 {n : Nat} (h : n ≤ 4398046511104) : IntKind.i64.wrap ((n : Int) + 1) = ((n + 1 : Nat) : Int) := by rw [IntKind.wrap_i64]; omega
theorem wrapm1 {n : Nat} (h : n ≤ 4398046511104) : IntKind.i64.wrap (((n + 1 : Nat) : Int) - 1) = (n : Int) := by rw [IntKind.wrap_i64]; omega

theorem wo_clr {T : Nat → Option CF} {X : Ext} {d : Option Nat} {r : List CO} {e : Env} {s : St} {R : Env → St → Prop} {zs : List AV} {x : Opd} : WO T X (⟨d, none, .clr zs x⟩ :: r) e s R ↔ StpO T X (evOp noCall (.clr zs x) e s) d r e R := wo_op (by simp only [opk]; omega)

theorem add_same {l : List Dg} {x y : Dg} (h : (cpt dgq l).getLast? = some y) (hq : dgq x y = true) : Sc.add dgq (cpt dgq l) x = cpt dgq l := by
  unfold Sc.add; rw [h]; simp [hq]
theorem add_new {l : List Dg} {x y : Dg} (h : (cpt dgq l).getLast? = some y) (hq : dgq x y = false) : Sc.add dgq (cpt dgq l) x = cpt dgq l ++ [x] := by
  unfold Sc.add; rw [h]; simp [hq]
theorem last_take {l : List Dg} {k : Nat} {x : Dg} (h : l[k]? = some x) : (l.take (k + 1)).getLast? = some x := by
  rw [List.take_add_one, h]; simp

set_option maxHeartbeats 2000000 in
theorem compact_law {v : AV} {l : List Dg} {S : St} (h : MSl dgc 4 S v l) (hb : l.length ≤ 1099511627776 * 4) (N : Nat) (hf : ∀ p, v = .msl p 0 l.length 4 → N ≤ p) : WC T xw 27 [v] S (fun r S' => RdS dgc 4 S' r (cpt dgq l) ∧ S.size ≤ S'.size ∧ ∀ j, j < N → j < S.size → S'.obj j = S.obj j) := by
  refine WC_fn cf27 rfl T27 (by simp [cf27]) ?_
  have hlast : ∀ l : List Dg, (cpt dgq l).getLast? = l.getLast? := Go.Sc.cpt_last fun x y h => dgq_eq h
  have hl := h.len
  by_cases h2 : l.length < 2
  · have hd : decide ((l.length : Int) < 2) = true := by simp; omega
    have hc : cpt dgq l = l := by
      match l, h2 with
      | [], _ => rfl
      | [x], _ => rfl
    simp only [cf27, hl, hd, go_sem, ↓reduceIte, reduceCtorEq, Nat.reduceEqDiff, Nat.reduceAdd, Nat.reduceSub, Nat.reduceMul, Nat.reduceLeDiff, Nat.reduceLT, loadA, rdCells, storeA, setAt, binA]
    exact ⟨by simp, _, rfl, by rw [hc]; exact rd_of h, Nat.le_refl _, fun _ _ _ => trivial⟩
  · have hd : decide ((l.length : Int) < 2) = false := by simp; omega
    rcases h with ⟨-, h⟩ | ⟨-, h⟩ | ⟨p, rfl, ho, hp⟩
    · subst h; simp at h2
    · subst h; simp at h2
    · have hN := hf p rfl
      obtain ⟨n, hn⟩ : ∃ n, n = l.length := ⟨_, rfl⟩
      rw [← hn] at hl hd hb h2 ⊢
      simp only [cf27, hl, hd, go_sem, ↓reduceIte, reduceCtorEq, Nat.reduceEqDiff, Nat.reduceAdd, Nat.reduceSub, Nat.reduceMul, Nat.reduceLeDiff, Nat.reduceLT, loadA, rdCells, storeA, setAt, binA]
      refine W_loop_nat (fun k e s => ∃ i : Nat, 1 ≤ i ∧ i + k = n ∧ e 0 = .msl p 0 n 4 ∧ e 3 = .int .i64 i ∧ cpt dgq (l.take i) = l.take i ∧ s = S) ?_ (n - 1) _ _
        ⟨1, Nat.le_refl _, by omega, by simp only [go_sem, ↓reduceIte, reduceCtorEq, Nat.reduceEqDiff, Nat.reduceAdd, Nat.reduceSub, Nat.reduceMul, Nat.reduceLeDiff, Nat.reduceLT, loadA, rdCells, storeA, setAt, binA], by simp only [go_sem, ↓reduceIte, reduceCtorEq, Nat.reduceEqDiff, Nat.reduceAdd, Nat.reduceSub, Nat.reduceMul, Nat.reduceLeDiff, Nat.reduceLT, loadA, rdCells, storeA, setAt, binA]; rfl, by cases l with | nil => rfl | cons x l => rfl, rfl⟩
      rintro k e s ⟨i, hi1, hik, e0, e3, hcp, rfl⟩
      by_cases hi : i < n
      · have hlt : decide ((i : Int) < (n : Int)) = true := by simp; omega
        obtain ⟨j, rfl⟩ : ∃ j, i = j + 1 := ⟨i - 1, by omega⟩
        obtain ⟨x, hx⟩ : ∃ x, l[j + 1]? = some x := ⟨_, List.getElem?_eq_getElem (by omega)⟩
        obtain ⟨y, hy⟩ : ∃ y, l[j]? = some y := ⟨_, List.getElem?_eq_getElem (by omega)⟩
        have a1 := maddr (p := p) (n := n) (i := j + 1) (by omega)
        have a2 := maddr (p := p) (n := n) (i := j) (by omega)
        have g1 := mload dgP ho hx
        have g2 := mload dgP ho hy
        have w1 := wrapm1 (n := j) (by omega)
        have w2 := wrapn1 (n := j + 1) (by omega)
        have lst : (cpt dgq (l.take (j + 1))).getLast? = some y := by rw [hlast, last_take hy]
        have tk : l.take (j + 1 + 1) = l.take (j + 1) ++ [x] := by rw [List.take_add_one, hx]; rfl
        cases hq : dgq x y with
        | false =>
          have hqe := eqs_is false x y
          rw [hq] at hqe
          simp only [cf27_l1, e0, e3, hl, hlt, a1, a2, g1, g2, w1, hqe, w2, go_sem, ↓reduceIte, reduceCtorEq, Nat.reduceEqDiff, Nat.reduceAdd, Nat.reduceSub, Nat.reduceMul, Nat.reduceLeDiff, Nat.reduceLT, binA]
          exact ⟨k - 1, by omega, j + 1 + 1, by omega, by omega, rfl, by rw [tk, Go.Sc.cpt_snoc, add_new lst hq, hcp]⟩
        | true =>
          have hqe := eqs_is false x y
          rw [hq] at hqe
          have hsl : slcA 4 (.msl p 0 n 4) (some (.int .i64 ((j + 1 : Nat) : Int))) none none = some (.msl p ((j + 1) * 4) (n - (j + 1)) 4) := by
            have hnat : natOf n (.int .i64 ((j + 1 : Nat) : Int)) = some (j + 1) := by simp only [natOf]; rw [if_pos (by omega)]; simp
            simp only [slcA, optOf, hnat]
            rw [if_pos ⟨trivial, rfl⟩, if_pos (Or.inl hi)]
            simp
          simp only [cf27_l1, e0, e3, hl, hlt, a1, a2, g1, g2, w1, hqe, hsl, go_sem, ↓reduceIte, reduceCtorEq, Nat.reduceEqDiff, Nat.reduceAdd, Nat.reduceSub, Nat.reduceMul, Nat.reduceLeDiff, Nat.reduceLT, binA]
          refine W_loop_nat (fun k e s' => ∃ (t q : Nat) (M : List Dg), j + 1 < t ∧ t + k = n ∧ 1 ≤ q ∧ q < t ∧ e 0 = .msl p 0 n 4 ∧ e 3 = .int .i64 q ∧ e 4 = .msl p ((j + 1) * 4) (n - (j + 1)) 4 ∧ e 5 = .int .i64 (t - (j + 1) : Nat) ∧ M.length = n ∧ M.drop (t - 1) = l.drop (t - 1) ∧ M.take q = cpt dgq (l.take t) ∧ s'.obj p = some (.cells (M.flatMap dgc)) ∧ p < s'.size ∧ KeepBut p s s') ?_ (n - (j + 2)) _ _
            ⟨j + 2, j + 1, l, by omega, by omega, by omega, by omega, by simp only [e0, go_sem, ↓reduceIte, reduceCtorEq, Nat.reduceEqDiff, Nat.reduceAdd, Nat.reduceSub, Nat.reduceMul, Nat.reduceLeDiff, Nat.reduceLT, loadA, rdCells, storeA, setAt, binA], by simp only [e3, go_sem, ↓reduceIte, reduceCtorEq, Nat.reduceEqDiff, Nat.reduceAdd, Nat.reduceSub, Nat.reduceMul, Nat.reduceLeDiff, Nat.reduceLT, loadA, rdCells, storeA, setAt, binA], by simp only [go_sem, ↓reduceIte, reduceCtorEq, Nat.reduceEqDiff, Nat.reduceAdd, Nat.reduceSub, Nat.reduceMul, Nat.reduceLeDiff, Nat.reduceLT, loadA, rdCells, storeA, setAt, binA], by simp only [go_sem, ↓reduceIte, reduceCtorEq, Nat.reduceEqDiff, Nat.reduceAdd, Nat.reduceSub, Nat.reduceMul, Nat.reduceLeDiff, Nat.reduceLT, loadA, rdCells, storeA, setAt, binA]; congr 1; omega, hn.symm, rfl, by rw [tk, Go.Sc.cpt_snoc, add_same lst hq, hcp], ho, hp, KeepBut.refl _ _⟩
          rintro k' e' s' ⟨t, q, M, htj, htk, hq1, hqt, f0, f3, f4, f5, hMl, hMd, hMt, hs', hp', hk'⟩
          have hl' : lenA (.msl p ((j + 1) * 4) (n - (j + 1)) 4) = some (.int .i64 ((n - (j + 1) : Nat) : Int)) := rfl
          by_cases ht : t < n
          · have hlt2 : decide (((t - (j + 1) : Nat) : Int) < ((n - (j + 1) : Nat) : Int)) = true := by simp; omega
            obtain ⟨u, rfl⟩ : ∃ u, t = u + 1 := ⟨t - 1, by omega⟩
            obtain ⟨x', hx'⟩ : ∃ x', l[u + 1]? = some x' := ⟨_, List.getElem?_eq_getElem (by omega)⟩
            obtain ⟨y', hy'⟩ : ∃ y', l[u]? = some y' := ⟨_, List.getElem?_eq_getElem (by omega)⟩
            have dM : ∀ b : Nat, M[u + b]? = l[u + b]? := fun b => by
              have := congrArg (fun z : List Dg => z[b]?) hMd
              simp only [List.getElem?_drop, Nat.add_sub_cancel] at this
              exact this
            have mx : M[u + 1]? = some x' := (dM 1).trans hx'
            have my : M[u]? = some y' := (dM 0).trans hy'
            have b1 : iaddrA 4 (.msl p ((j + 1) * 4) (n - (j + 1)) 4) (.int .i64 ((u + 1 - (j + 1) : Nat) : Int)) = some (.ptr p ((u + 1) * 4)) := by
              simp only [iaddrA]
              rw [if_pos ⟨by omega, by omega, trivial⟩]
              congr 2; simp; omega
            have b2 : iaddrA 4 (.msl p ((j + 1) * 4) (n - (j + 1)) 4) (.int .i64 ((u - (j + 1) : Nat) : Int)) = some (.ptr p (u * 4)) := by
              simp only [iaddrA]
              rw [if_pos ⟨by omega, by omega, trivial⟩]
              congr 2; simp; omega
            have c1 := mload dgP hs' mx
            have c2 := mload dgP hs' my
            have v1 : IntKind.i64.wrap (((u + 1 - (j + 1) : Nat) : Int) - 1) = ((u - (j + 1) : Nat) : Int) := by rw [IntKind.wrap_i64]; omega
            have v2 : IntKind.i64.wrap (((u + 1 - (j + 1) : Nat) : Int) + 1) = ((u + 1 + 1 - (j + 1) : Nat) : Int) := by rw [IntKind.wrap_i64]; omega
            have lst2 : (cpt dgq (l.take (u + 1))).getLast? = some y' := by rw [hlast, last_take hy']
            have tk2 : l.take (u + 1 + 1) = l.take (u + 1) ++ [x'] := by rw [List.take_add_one, hx']; rfl
            cases hq2 : dgq x' y' with
            | true =>
              have hqe2 := eqs_is true x' y'
              rw [hq2] at hqe2
              simp only [cf27_l0, f0, f3, f4, f5, hl', hlt2, b1, b2, c1, c2, v1, v2, hqe2, go_sem, ↓reduceIte, reduceCtorEq, Nat.reduceEqDiff, Nat.reduceAdd, Nat.reduceSub, Nat.reduceMul, Nat.reduceLeDiff, Nat.reduceLT, binA]
              refine ⟨k' - 1, by omega, u + 1 + 1, q, M, by omega, by omega, hq1, by omega, rfl, rfl, hMl, ?_, ?_, hs', hp', hk'⟩
              · have := congrArg (List.drop 1) hMd
                simp only [List.drop_drop, Nat.add_sub_cancel] at this
                simpa using this
              · rw [tk2, Go.Sc.cpt_snoc, add_same lst2 hq2, hMt]
            | false =>
              have hqe2 := eqs_is true x' y'
              rw [hq2] at hqe2
              have b3 := maddr (p := p) (n := n) (i := q) (by omega)
              have s3 := mstore dgP hs' (i := q) (by omega) x'
              have v3 := wrapn1 (n := q) (by omega)
              simp only [cf27_l0, f0, f3, f4, f5, hl', hlt2, b1, b2, b3, c1, c2, v1, v2, v3, s3, hqe2, go_sem, ↓reduceIte, reduceCtorEq, Nat.reduceEqDiff, Nat.reduceAdd, Nat.reduceSub, Nat.reduceMul, Nat.reduceLeDiff, Nat.reduceLT, binA]
              refine ⟨k' - 1, by omega, u + 1 + 1, q + 1, M.set q x', by omega, by omega, by omega, by omega, rfl, rfl, by simpa using hMl, ?_, ?_, rfl, hp', hk'.put _⟩
              · rw [List.drop_set_of_lt (by omega)]
                have := congrArg (List.drop 1) hMd
                simp only [List.drop_drop, Nat.add_sub_cancel] at this
                simpa using this
              · rw [tk2, Go.Sc.cpt_snoc, add_new lst2 hq2, List.take_add_one, List.take_set_of_le (Nat.le_refl _), hMt, List.getElem?_set_self (by omega)]
                rfl
          · have hlt2 : decide (((t - (j + 1) : Nat) : Int) < ((n - (j + 1) : Nat) : Int)) = false := by simp; omega
            have htn : t = n := by omega
            have hR : cpt dgq l = M.take q := by rw [hMt, List.take_of_length_le (by omega)]
            have hRl : (cpt dgq l).length = q := by rw [hR]; simp; omega
            have hnat : natOf n (.int .i64 (q : Int)) = some q := by simp only [natOf]; rw [if_pos (by omega)]; simp
            have hsl1 : slcA 4 (.msl p 0 n 4) (some (.int .i64 (q : Int))) none none = some (.msl p (q * 4) (n - q) 4) := by
              simp only [slcA, optOf, hnat]
              rw [if_pos ⟨trivial, rfl⟩, if_pos (Or.inl (by omega))]
              simp
            have hsl2 : slcA 4 (.msl p 0 n 4) none (some (.int .i64 (q : Int))) none = some (.msl p 0 q 4) := by
              simp only [slcA, optOf, hnat]
              rw [if_pos ⟨trivial, rfl⟩, if_pos (Or.inl (by omega))]
              simp
            have hfl : (M.flatMap dgc).length = n * 4 := by rw [flat_len dgP.len, hMl]
            have hcl : clrA s' [.int .i64 0, .int .i64 0, .int .i64 0, .str ⟨#[]⟩] (.msl p (q * 4) (n - q) 4) = some (s'.put p (some (.cells (setAt (M.flatMap dgc) (q * 4) (repCells [.int .i64 0, .int .i64 0, .int .i64 0, .str ⟨#[]⟩] (n - q)))))) := by
              simp only [clrA, hs']
              rw [if_neg (by omega), if_pos ⟨rfl, by rw [hfl]; omega, rfl⟩]
            simp only [cf27_l0, f0, f3, f4, f5, hl', hlt2, hsl1, hsl2, wo_clr, hcl, go_sem, ↓reduceIte, reduceCtorEq, Nat.reduceEqDiff, Nat.reduceAdd, Nat.reduceSub, Nat.reduceMul, Nat.reduceLeDiff, Nat.reduceLT, binA]
            refine ⟨by simp, _, rfl, ?_, ?_, ?_⟩
            · refine Or.inr ⟨p, repCells [.int .i64 0, .int .i64 0, .int .i64 0, .str ⟨#[]⟩] (n - q), by rw [hRl], ?_, hp'⟩
              rw [put_eq, setAt_eq _ _ _ (by rw [repCells_len, hfl]; simp only [List.length_cons, List.length_nil]; omega), flat_take dgP.len, ← hR, List.drop_eq_nil_of_le (by rw [repCells_len, hfl]; simp only [List.length_cons, List.length_nil]; omega), List.append_nil]
            · exact hk'.1
            · intro b hb1 hb2
              rw [if_neg (by omega)]
              exact hk'.2 b hb2 (by omega)
      · have hlt : decide ((i : Int) < (n : Int)) = false := by simp; omega
        simp only [cf27_l1, e0, e3, hl, hlt, go_sem, ↓reduceIte, reduceCtorEq, Nat.reduceEqDiff, Nat.reduceAdd, Nat.reduceSub, Nat.reduceMul, Nat.reduceLeDiff, Nat.reduceLT, loadA, rdCells, storeA, setAt, binA]
        refine ⟨by simp, _, rfl, ?_, Nat.le_refl _, fun _ _ _ => trivial⟩
        rw [List.take_of_length_le (by omega)] at hcp
        rw [hcp]
        exact Or.inr ⟨p, [], by rw [hn], by simpa using ho, hp⟩
end Go.Am.W1
