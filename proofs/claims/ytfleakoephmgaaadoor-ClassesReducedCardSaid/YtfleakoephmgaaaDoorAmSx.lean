/- The stable sort: two sorted rows become one. Conditions: none. -/
import Derived.Test.YtfleakoephmgaaaDoorAmSv
set_option linter.unusedSimpArgs false
set_option linter.unusedVariables false
namespace Go.Am
open Go.So (Ord Srt ins isort)
set_option maxRecDepth 100000
set_option linter.unusedSimpArgs false
attribute [local go_sem] wseq COp.isStore wreg wdreg wret wskip wexit wblock wcnd cnd_t cnd_f then_n then_x then_r catch_n rnd_n rnd_x rnd_r catch_x catch_r wo_nil wo_grd grdO_t grdO_f wo_ops stpO wr_nil wr_alloc wr_guards grdR_t grdR_f wr_ops stpR evAllocs evOp env0_app eput_some eput_none eset_app Opd.ev wantedA faddrA snew_obj snew_size sput_obj sput_size av_cells av_one av_strip av_still unA eqbA fillA fldA lensA mmA mm2 mmFold List.getD_cons_zero List.getD_cons_succ List.getD_nil List.length_cons List.length_nil List.drop_zero List.drop_succ_cons List.take_succ_cons List.take_zero List.map_cons List.map_nil List.set_cons_zero List.set_cons_succ List.all_cons List.all_nil List.getElem?_cons_zero List.getElem?_cons_succ List.nil_append List.cons_append Nat.zero_add Nat.add_zero beq_self_eq_true bt bf Bool.not_true Bool.not_false Bool.and_true Bool.true_and Bool.and_false Bool.false_and and_self and_true true_and n0 n1 n2 n3 n4 m0 m1 m2 m3 c1 retA resAs resA undefA Option.map_some Option.map_none

section
variable {α : Type} {f : α → List AV} {T : Nat → Option CF} {X : Ext} {nI nM nR nS : Nat}

theorem nil_of {β : Type} {l : List β} (h : ¬ 0 < l.length) : l = [] := List.eq_nil_of_length_eq_zero (by omega)

set_option maxHeartbeats 4000000 in
theorem sym_law (hT : SortT T X nI nM nR nS) (hP : Plain f 4) {lt : α → α → Bool} (O : Ord lt) {g : Nat} {cap : List AV} (hc : Cmps T X f g cap lt) : ∀ (N : Nat) (U V : List α), U.length + V.length ≤ N → ∀ (Xs Y : List α), 0 < U.length → 0 < V.length → Srt lt U → Srt lt V →
    (Xs ++ U ++ V ++ Y).length ≤ 4398046511104 → ∀ {p : Nat} {S : St}, p < S.size → S.obj p = some (.cells ((Xs ++ U ++ V ++ Y).flatMap f)) → Mrg T X f lt nM g cap Xs U V Y p S
  | 0, U, V, hN, Xs, Y, hU, hV, _, _, _, p, S, _, _ => by omega
  | N + 1, U, V, hN, Xs, Y, hU, hV, hsU, hsV, hb, p, S, hp, ho => by
    by_cases hU1 : U.length = 1
    · obtain ⟨x, rfl⟩ := List.length_eq_one_iff.1 hU1
      exact sym_one hT hP O hc Xs V Y x hsV hV hb hp ho
    by_cases hV1 : V.length = 1
    · obtain ⟨x, rfl⟩ := List.length_eq_one_iff.1 hV1
      exact sym_last hT hP O hc Xs U Y x hsU (by omega) hb hp ho
    refine WC_fn (sSym nM nR) hT.xM hT.tM (by simp [sSym]) ?_
    obtain ⟨n, hn⟩ : ∃ n, n = (Xs ++ U ++ V ++ Y).length := ⟨_, rfl⟩
    obtain ⟨a, ha⟩ : ∃ a, a = Xs.length := ⟨_, rfl⟩
    obtain ⟨m, hm⟩ : ∃ m, m = Xs.length + U.length := ⟨_, rfl⟩
    obtain ⟨b, hbb⟩ : ∃ b, b = Xs.length + U.length + V.length := ⟨_, rfl⟩
    rw [← hbb, ← hm, ← ha, ← hn]
    have hnl : n = b + Y.length := by rw [hn]; simp; omega
    have hbn : n ≤ 4398046511104 := by rw [hn]; exact hb
    have w0 : IntKind.i64.wrap ((m : Int) - (a : Int)) = (U.length : Int) := by rw [IntKind.wrap_i64]; omega
    have w1 : IntKind.i64.wrap ((b : Int) - (m : Int)) = (V.length : Int) := by rw [IntKind.wrap_i64]; omega
    have h10 : ((U.length : Int) == 1) = false := by simp; omega
    have h11 : ((V.length : Int) == 1) = false := by simp; omega
    obtain ⟨q1, q2, q3, q4⟩ := half (i := a) (j := b) (by omega)
    obtain ⟨mid, hmid⟩ : ∃ c, c = (a + b) / 2 := ⟨_, rfl⟩
    rw [← hmid] at q3 q4
    have hm1 : a < mid ∧ mid < b := by omega
    have w2 : IntKind.i64.wrap ((mid : Int) + (m : Int)) = ((mid + m : Nat) : Int) := by rw [IntKind.wrap_i64]; omega
    have w3 : IntKind.i64.wrap (((mid + m : Nat) : Int) - 1) = ((mid + m - 1 : Nat) : Int) := by rw [IntKind.wrap_i64]; omega
    -- where the search starts
    obtain ⟨s0, hs0⟩ : ∃ s0, s0 = if mid < m then mid + m - b else a := ⟨_, rfl⟩
    obtain ⟨r0, hr0⟩ : ∃ r0, r0 = if mid < m then mid else m := ⟨_, rfl⟩
    have hs0a : a ≤ s0 ∧ s0 ≤ r0 ∧ r0 ≤ m ∧ r0 ≤ mid ∧ mid + m ≤ s0 + b := by
      rw [hs0, hr0]; split <;> omega
    have main : ∀ (e : Env), e 0 = .msl p 0 n 4 → e 1 = .int .i64 a → e 2 = .int .i64 m → e 3 = .int .i64 b → e 4 = .func g cap → e 18 = .int .i64 mid → e 19 = .int .i64 (mid + m : Nat) → e 20 = .int .i64 s0 → e 21 = .int .i64 r0 →
        W T X (sSym_u nM nR) e S (fun x e' s' => (∀ j, x ≠ .exit j) ∧ ∃ v, retA e' s' [] = some v ∧ s'.obj p = some (.cells ((Xs ++ isort lt (U ++ V) ++ Y).flatMap f)) ∧ KeepBut p S s') := by
      intro e e0 e1 e2 e3 e4 e18 e19 e20 e21
      simp only [sSym_u, e0, e1, e2, e3, e4, e18, e19, e20, e21, w3, go_sem, ↓reduceIte, reduceCtorEq, Nat.reduceEqDiff, Nat.reduceAdd, Nat.reduceSub, Nat.reduceMul, Nat.reduceLeDiff, Nat.reduceLT, loadA, rdCells, storeA, setAt, binA]
      refine W_loop_nat (fun k e s => ∃ i j : Nat, k = j - i ∧ s0 ≤ i ∧ i ≤ j ∧ j ≤ r0 ∧ (i = s0 ∨ ∃ u v, U[i - 1 - a]? = some u ∧ V[mid - i]? = some v ∧ s0 < i ∧ lt v u = false) ∧ (j = r0 ∨ ∃ u v, U[j - a]? = some u ∧ V[mid - 1 - j]? = some v ∧ j < r0 ∧ lt v u = true) ∧
        e 0 = .msl p 0 n 4 ∧ e 1 = .int .i64 a ∧ e 2 = .int .i64 m ∧ e 3 = .int .i64 b ∧ e 4 = .func g cap ∧ e 18 = .int .i64 mid ∧ e 19 = .int .i64 (mid + m : Nat) ∧ e 20 = .int .i64 i ∧ e 21 = .int .i64 j ∧ e 22 = .int .i64 (mid + m - 1 : Nat) ∧
        s.obj p = some (.cells ((Xs ++ U ++ V ++ Y).flatMap f)) ∧ KeepBut p S s) ?_ (r0 - s0) _ _
        ⟨s0, r0, rfl, Nat.le_refl _, hs0a.2.1, Nat.le_refl _, Or.inl rfl, Or.inl rfl, by simp only [e0, go_sem, ↓reduceIte, reduceCtorEq, Nat.reduceEqDiff, Nat.reduceAdd, Nat.reduceSub, Nat.reduceMul, Nat.reduceLeDiff, Nat.reduceLT, loadA, rdCells, storeA, setAt, binA], by simp only [e1, go_sem, ↓reduceIte, reduceCtorEq, Nat.reduceEqDiff, Nat.reduceAdd, Nat.reduceSub, Nat.reduceMul, Nat.reduceLeDiff, Nat.reduceLT, loadA, rdCells, storeA, setAt, binA], by simp only [e2, go_sem, ↓reduceIte, reduceCtorEq, Nat.reduceEqDiff, Nat.reduceAdd, Nat.reduceSub, Nat.reduceMul, Nat.reduceLeDiff, Nat.reduceLT, loadA, rdCells, storeA, setAt, binA], by simp only [e3, go_sem, ↓reduceIte, reduceCtorEq, Nat.reduceEqDiff, Nat.reduceAdd, Nat.reduceSub, Nat.reduceMul, Nat.reduceLeDiff, Nat.reduceLT, loadA, rdCells, storeA, setAt, binA], by simp only [e4, go_sem, ↓reduceIte, reduceCtorEq, Nat.reduceEqDiff, Nat.reduceAdd, Nat.reduceSub, Nat.reduceMul, Nat.reduceLeDiff, Nat.reduceLT, loadA, rdCells, storeA, setAt, binA], by simp only [e18, go_sem, ↓reduceIte, reduceCtorEq, Nat.reduceEqDiff, Nat.reduceAdd, Nat.reduceSub, Nat.reduceMul, Nat.reduceLeDiff, Nat.reduceLT, loadA, rdCells, storeA, setAt, binA], by simp only [e19, go_sem, ↓reduceIte, reduceCtorEq, Nat.reduceEqDiff, Nat.reduceAdd, Nat.reduceSub, Nat.reduceMul, Nat.reduceLeDiff, Nat.reduceLT, loadA, rdCells, storeA, setAt, binA], by simp only [e20, go_sem, ↓reduceIte, reduceCtorEq, Nat.reduceEqDiff, Nat.reduceAdd, Nat.reduceSub, Nat.reduceMul, Nat.reduceLeDiff, Nat.reduceLT, loadA, rdCells, storeA, setAt, binA], by simp only [e21, go_sem, ↓reduceIte, reduceCtorEq, Nat.reduceEqDiff, Nat.reduceAdd, Nat.reduceSub, Nat.reduceMul, Nat.reduceLeDiff, Nat.reduceLT, loadA, rdCells, storeA, setAt, binA], by simp only [go_sem, ↓reduceIte, reduceCtorEq, Nat.reduceEqDiff, Nat.reduceAdd, Nat.reduceSub, Nat.reduceMul, Nat.reduceLeDiff, Nat.reduceLT, loadA, rdCells, storeA, setAt, binA], ho, KeepBut.refl _ _⟩
      clear e0 e1 e2 e3 e4 e18 e19 e20 e21
      rintro k e s ⟨i, j, rfl, hsi, hij, hjr, hlo, hhi, e0, e1, e2, e3, e4, e18, e19, e20, e21, e22, hs, hk⟩
      by_cases hlt : i < j
      · have hd : decide ((i : Int) < (j : Int)) = true := by simp; omega
        obtain ⟨v1, v2, v3, v4⟩ := half (i := i) (j := j) (by omega)
        obtain ⟨c, hcd⟩ : ∃ c, c = (i + j) / 2 := ⟨_, rfl⟩
        have hci : i ≤ c ∧ c < j := by omega
        rw [← hcd] at v3 v4
        have v5 : IntKind.i64.wrap (((mid + m - 1 : Nat) : Int) - (c : Int)) = ((mid + m - 1 - c : Nat) : Int) := by rw [IntKind.wrap_i64]; omega
        obtain ⟨u, hu⟩ : ∃ u, U[c - a]? = some u := ⟨_, List.getElem?_eq_getElem (by omega)⟩
        obtain ⟨v, hv⟩ : ∃ v, V[mid - 1 - c]? = some v := ⟨_, List.getElem?_eq_getElem (by omega)⟩
        have a1 := maddr (p := p) (n := n) (i := mid + m - 1 - c) (by omega)
        have a2 := maddr (p := p) (n := n) (i := c) (by omega)
        have g1 := mload hP hs (i := mid + m - 1 - c) (x := v) (by rw [List.append_assoc, List.getElem?_append_right (by simp; omega), List.getElem?_append_left (by simp; omega), ← hv]; congr 1; simp; omega)
        have g2 := mload hP hs (i := c) (x := u) (by rw [List.append_assoc, List.getElem?_append_left (by simp; omega), List.getElem?_append_right (by omega), ← hu, ha])
        simp only [sSym_l0, e0, e1, e2, e3, e4, e18, e19, e20, e21, e22, hd, v1, v2, v3, v4, v5, a1, a2, g1, g2, go_sem, ↓reduceIte, reduceCtorEq, Nat.reduceEqDiff, Nat.reduceAdd, Nat.reduceSub, Nat.reduceMul, Nat.reduceLeDiff, Nat.reduceLT, binA]
        refine WR_callv g cap ([.agg (f v), .agg (f u)] ++ cap) (by simp only [e4, go_sem, ↓reduceIte, reduceCtorEq, Nat.reduceEqDiff, Nat.reduceAdd, Nat.reduceSub, Nat.reduceMul, Nat.reduceLeDiff, Nat.reduceLT, loadA, rdCells, storeA, setAt, binA]) (by simp only [go_sem, ↓reduceIte, reduceCtorEq, Nat.reduceEqDiff, Nat.reduceAdd, Nat.reduceSub, Nat.reduceMul, Nat.reduceLeDiff, Nat.reduceLT, loadA, rdCells, storeA, setAt, binA]) ((hc v u s).mono ?_)
        rintro z s1 ⟨z, rfl, hz, hk1⟩
        have hs1 : s1.obj p = some (.cells ((Xs ++ U ++ V ++ Y).flatMap f)) := (hk1.2 p (Nat.lt_of_lt_of_le hp hk.1)).trans hs
        cases hvu : lt v u with
        | false =>
          rw [hvu] at hz
          have v6 : IntKind.i64.wrap ((c : Int) + 1) = ((c + 1 : Nat) : Int) := by rw [IntKind.wrap_i64]; omega
          simp only [e0, e1, e2, e3, e4, e18, e19, e20, e21, e22, hz, v6, go_sem, ↓reduceIte, reduceCtorEq, Nat.reduceEqDiff, Nat.reduceAdd, Nat.reduceSub, Nat.reduceMul, Nat.reduceLeDiff, Nat.reduceLT, loadA, rdCells, storeA, setAt, binA]
          exact ⟨j - (c + 1), by omega, c + 1, j, rfl, by omega, by omega, by omega, Or.inr ⟨u, v, by rw [← hu]; congr 1, by rw [← hv]; congr 1; omega, by omega, hvu⟩, hhi, rfl, rfl, hs1, hk.trans hk1.but⟩
        | true =>
          rw [hvu] at hz
          simp only [e0, e1, e2, e3, e4, e18, e19, e20, e21, e22, hz, go_sem, ↓reduceIte, reduceCtorEq, Nat.reduceEqDiff, Nat.reduceAdd, Nat.reduceSub, Nat.reduceMul, Nat.reduceLeDiff, Nat.reduceLT, loadA, rdCells, storeA, setAt, binA]
          exact ⟨c - i, by omega, i, c, rfl, by omega, by omega, by omega, hlo, Or.inr ⟨u, v, hu, hv, by omega, hvu⟩, rfl, rfl, hs1, hk.trans hk1.but⟩
      · have hd : decide ((i : Int) < (j : Int)) = false := by simp; omega
        obtain rfl : i = j := by omega
        have v7 : IntKind.i64.wrap (((mid + m : Nat) : Int) - (i : Int)) = ((mid + m - i : Nat) : Int) := by rw [IntKind.wrap_i64]; omega
        simp only [sSym_l0, e0, e1, e2, e3, e4, e18, e19, e20, e21, e22, hd, v7, go_sem, ↓reduceIte, reduceCtorEq, Nat.reduceEqDiff, Nat.reduceAdd, Nat.reduceSub, Nat.reduceMul, Nat.reduceLeDiff, Nat.reduceLT, loadA, rdCells, storeA, setAt, binA]
        obtain ⟨z, hz⟩ : ∃ z, z = mid + m - i := ⟨_, rfl⟩
        rw [← hz]
        obtain ⟨A1, hA1⟩ : ∃ A1, A1 = U.take (i - a) := ⟨_, rfl⟩
        obtain ⟨A2, hA2⟩ : ∃ A2, A2 = U.drop (i - a) := ⟨_, rfl⟩
        obtain ⟨B1, hB1⟩ : ∃ B1, B1 = V.take (mid - i) := ⟨_, rfl⟩
        obtain ⟨B2, hB2⟩ : ∃ B2, B2 = V.drop (mid - i) := ⟨_, rfl⟩
        have lA1 : A1.length = i - a := by rw [hA1]; simp; omega
        have lA2 : A2.length = m - i := by rw [hA2]; simp; omega
        have lB1 : B1.length = mid - i := by rw [hB1]; simp; omega
        have lB2 : B2.length = b - z := by rw [hB2]; simp; omega
        have eU : U = A1 ++ A2 := by rw [hA1, hA2, List.take_append_drop]
        have eV : V = B1 ++ B2 := by rw [hB1, hB2, List.take_append_drop]
        have sA := Go.So.srt_app.1 (eU ▸ hsU)
        have sB := Go.So.srt_app.1 (eV ▸ hsV)
        have cross1 : ∀ u, u ∈ A2 → ∀ v, v ∈ B1 → lt v u = true := by
          intro u hu v hv
          rcases hhi with hhi | ⟨u', v', h1, h2, h3, h4⟩
          · exfalso
            have p1 := List.length_pos_of_mem hu
            have p2 := List.length_pos_of_mem hv
            rw [lA2] at p1; rw [lB1] at p2
            rw [hr0] at hhi; split at hhi <;> omega
          · rw [hA2] at hu; rw [hB1] at hv
            obtain ⟨t, ht, hgu⟩ := mem_drop hu
            obtain ⟨t2, ht2, hgv⟩ := mem_take hv
            exact O.strict' (srt_get O hsV hgv h2 (by omega)) (O.strict h4 (srt_get O hsU h1 hgu ht))
        have cross2 : ∀ u, u ∈ A1 → ∀ v, v ∈ B2 → lt v u = false := by
          intro u hu v hv
          rcases hlo with hlo | ⟨u', v', h1, h2, h3, h4⟩
          · exfalso
            have p1 := List.length_pos_of_mem hu
            have p2 := List.length_pos_of_mem hv
            rw [lA1] at p1; rw [lB2] at p2
            rw [hs0] at hlo; split at hlo <;> omega
          · rw [hA1] at hu; rw [hB2] at hv
            obtain ⟨t, ht, hgu⟩ := mem_take hu
            obtain ⟨t2, ht2, hgv⟩ := mem_drop hv
            exact O.trans u v' v (O.trans u u' v' (srt_get O hsU hgu h1 (by omega)) h4) (srt_get O hsV h2 hgv ht2)
        have hfin : Xs ++ isort lt (A1 ++ B1) ++ isort lt (A2 ++ B2) ++ Y = Xs ++ isort lt (U ++ V) ++ Y := by
          rw [List.append_assoc Xs, Go.So.merge_halves O (eU ▸ hsU) (eV ▸ hsV) cross1 cross2, ← eU, ← eV]
        have hz1 : m ≤ z ∧ z ≤ b := by omega
        -- the last part
        have px : ∀ (e : Env) (s : St), e 0 = .msl p 0 n 4 → e 3 = .int .i64 b → e 4 = .func g cap → e 18 = .int .i64 mid → e 24 = .int .i64 z → s.obj p = some (.cells ((Xs ++ isort lt (A1 ++ B1) ++ A2 ++ B2 ++ Y).flatMap f)) → KeepBut p S s →
            W T X (sSym_x nM) e s (fun x e' s' => (∀ j, x ≠ .exit j) ∧ ∃ v, some (AV.tup []) = some v ∧ s'.obj p = some (.cells ((Xs ++ isort lt (U ++ V) ++ Y).flatMap f)) ∧ KeepBut p S s') := by
          intro e s e0 e3 e4 e18 e24 hs hk
          have hM : (isort lt (A1 ++ B1)).length = mid - a := by rw [Go.So.isort_len]; simp only [List.length_append, lA1, lB1]; omega
          by_cases c1 : 0 < A2.length
          · have d1 : decide ((mid : Int) < (z : Int)) = true := by simp; omega
            by_cases c2 : 0 < B2.length
            · have d2 : decide ((z : Int) < (b : Int)) = true := by simp; omega
              have call := sym_law hT hP O hc N A2 B2 (by omega) (Xs ++ isort lt (A1 ++ B1)) Y c1 c2 sA.2.1 sB.2.1 (by simp only [List.length_append, hM, lA2, lB2]; omega) (Nat.lt_of_lt_of_le hp hk.1) hs
              unfold Mrg at call
              have g1 : (Xs ++ isort lt (A1 ++ B1) ++ A2 ++ B2 ++ Y).length = n := by simp only [List.length_append, hM, lA2, lB2]; omega
              have g2 : (Xs ++ isort lt (A1 ++ B1)).length = mid := by simp only [List.length_append, hM]; omega
              rw [g1, g2, show mid + A2.length = z by omega, show z + B2.length = b by omega] at call
              simp only [sSym_x, e0, e3, e4, e18, e24, d1, d2, go_sem, ↓reduceIte, reduceCtorEq, Nat.reduceEqDiff, Nat.reduceAdd, Nat.reduceSub, Nat.reduceMul, Nat.reduceLeDiff, Nat.reduceLT, loadA, rdCells, storeA, setAt, binA]
              refine WO_callx [.msl p 0 n 4, .int .i64 mid, .int .i64 z, .int .i64 b, .func g cap] (by simp only [e4, go_sem, ↓reduceIte, reduceCtorEq, Nat.reduceEqDiff, Nat.reduceAdd, Nat.reduceSub, Nat.reduceMul, Nat.reduceLeDiff, Nat.reduceLT, loadA, rdCells, storeA, setAt, binA]) (call.mono ?_)
              rintro v s1 ⟨h1, k1⟩
              simp only [go_sem, ↓reduceIte, reduceCtorEq, Nat.reduceEqDiff, Nat.reduceAdd, Nat.reduceSub, Nat.reduceMul, Nat.reduceLeDiff, Nat.reduceLT, loadA, rdCells, storeA, setAt, binA]
              exact ⟨by simp, _, rfl, by rw [h1, hfin], hk.trans k1⟩
            · have d2 : decide ((z : Int) < (b : Int)) = false := by simp; omega
              simp only [sSym_x, e0, e3, e4, e18, e24, d1, d2, go_sem, ↓reduceIte, reduceCtorEq, Nat.reduceEqDiff, Nat.reduceAdd, Nat.reduceSub, Nat.reduceMul, Nat.reduceLeDiff, Nat.reduceLT, loadA, rdCells, storeA, setAt, binA]
              refine ⟨by simp, _, rfl, ?_, hk⟩
              rw [hs, ← hfin]
              have : B2 = [] := nil_of c2
              rw [this, List.append_nil, List.append_nil, Go.So.isort_of sA.2.1]
          · have d1 : decide ((mid : Int) < (z : Int)) = false := by simp; omega
            simp only [sSym_x, e0, e3, e4, e18, e24, d1, go_sem, ↓reduceIte, reduceCtorEq, Nat.reduceEqDiff, Nat.reduceAdd, Nat.reduceSub, Nat.reduceMul, Nat.reduceLeDiff, Nat.reduceLT, loadA, rdCells, storeA, setAt, binA]
            refine ⟨by simp, _, rfl, ?_, hk⟩
            rw [hs, ← hfin]
            have : A2 = [] := nil_of c1
            rw [this, List.append_nil, List.nil_append, Go.So.isort_of sB.2.1]
        -- the part ahead of it
        have pw : ∀ (e : Env) (s : St), e 0 = .msl p 0 n 4 → e 1 = .int .i64 a → e 3 = .int .i64 b → e 4 = .func g cap → e 18 = .int .i64 mid → e 20 = .int .i64 i → e 24 = .int .i64 z → s.obj p = some (.cells ((Xs ++ A1 ++ B1 ++ A2 ++ B2 ++ Y).flatMap f)) → KeepBut p S s →
            W T X (sSym_w nM) e s (fun x e' s' => (∀ j, x ≠ .exit j) ∧ ∃ v, some (AV.tup []) = some v ∧ s'.obj p = some (.cells ((Xs ++ isort lt (U ++ V) ++ Y).flatMap f)) ∧ KeepBut p S s') := by
          intro e s e0 e1 e3 e4 e18 e20 e24 hs hk
          by_cases c1 : 0 < A1.length
          · have d1 : decide ((a : Int) < (i : Int)) = true := by simp; omega
            by_cases c2 : 0 < B1.length
            · have d2 : decide ((i : Int) < (mid : Int)) = true := by simp; omega
              have hs' : s.obj p = some (.cells ((Xs ++ A1 ++ B1 ++ (A2 ++ B2 ++ Y)).flatMap f)) := by rw [hs]; simp
              have call := sym_law hT hP O hc N A1 B1 (by omega) Xs (A2 ++ B2 ++ Y) c1 c2 sA.1 sB.1 (by simp only [List.length_append, lA1, lB1, lA2, lB2]; omega) (Nat.lt_of_lt_of_le hp hk.1) hs'
              unfold Mrg at call
              have g1 : (Xs ++ A1 ++ B1 ++ (A2 ++ B2 ++ Y)).length = n := by simp only [List.length_append, lA1, lB1, lA2, lB2]; omega
              rw [g1, ← ha, show a + A1.length = i by omega, show i + B1.length = mid by omega] at call
              simp only [sSym_w, e0, e1, e3, e4, e18, e20, e24, d1, d2, go_sem, ↓reduceIte, reduceCtorEq, Nat.reduceEqDiff, Nat.reduceAdd, Nat.reduceSub, Nat.reduceMul, Nat.reduceLeDiff, Nat.reduceLT, loadA, rdCells, storeA, setAt, binA]
              refine WO_callx [.msl p 0 n 4, .int .i64 a, .int .i64 i, .int .i64 mid, .func g cap] (by simp only [e4, go_sem, ↓reduceIte, reduceCtorEq, Nat.reduceEqDiff, Nat.reduceAdd, Nat.reduceSub, Nat.reduceMul, Nat.reduceLeDiff, Nat.reduceLT, loadA, rdCells, storeA, setAt, binA]) (call.mono ?_)
              rintro v s1 ⟨h1, k1⟩
              simp only [go_sem, ↓reduceIte, reduceCtorEq, Nat.reduceEqDiff, Nat.reduceAdd, Nat.reduceSub, Nat.reduceMul, Nat.reduceLeDiff, Nat.reduceLT, loadA, rdCells, storeA, setAt, binA]
              refine px _ _ ?_ ?_ ?_ ?_ ?_ (by rw [h1]; simp) (hk.trans k1) <;> simp only [e0, e3, e4, e18, e24, go_sem, ↓reduceIte, reduceCtorEq, Nat.reduceEqDiff, Nat.reduceAdd, Nat.reduceSub, Nat.reduceMul, Nat.reduceLeDiff, Nat.reduceLT, loadA, rdCells, storeA, setAt, binA]
            · have d2 : decide ((i : Int) < (mid : Int)) = false := by simp; omega
              simp only [sSym_w, e0, e1, e3, e4, e18, e20, e24, d1, d2, go_sem, ↓reduceIte, reduceCtorEq, Nat.reduceEqDiff, Nat.reduceAdd, Nat.reduceSub, Nat.reduceMul, Nat.reduceLeDiff, Nat.reduceLT, loadA, rdCells, storeA, setAt, binA]
              have hB1n : B1 = [] := nil_of c2
              refine px _ _ ?_ ?_ ?_ ?_ ?_ (by rw [hs, hB1n, List.append_nil, List.append_nil, Go.So.isort_of sA.1]) hk <;> simp only [e0, e3, e4, e18, e24, go_sem, ↓reduceIte, reduceCtorEq, Nat.reduceEqDiff, Nat.reduceAdd, Nat.reduceSub, Nat.reduceMul, Nat.reduceLeDiff, Nat.reduceLT, loadA, rdCells, storeA, setAt, binA]
          · have d1 : decide ((a : Int) < (i : Int)) = false := by simp; omega
            simp only [sSym_w, e0, e1, e3, e4, e18, e20, e24, d1, go_sem, ↓reduceIte, reduceCtorEq, Nat.reduceEqDiff, Nat.reduceAdd, Nat.reduceSub, Nat.reduceMul, Nat.reduceLeDiff, Nat.reduceLT, loadA, rdCells, storeA, setAt, binA]
            have hA1n : A1 = [] := nil_of c1
            refine px _ _ ?_ ?_ ?_ ?_ ?_ (by rw [hs, hA1n, List.append_nil, List.nil_append, Go.So.isort_of sB.1]) hk <;> simp only [e0, e3, e4, e18, e24, go_sem, ↓reduceIte, reduceCtorEq, Nat.reduceEqDiff, Nat.reduceAdd, Nat.reduceSub, Nat.reduceMul, Nat.reduceLeDiff, Nat.reduceLT, loadA, rdCells, storeA, setAt, binA]
        have hs2 : s.obj p = some (.cells ((Xs ++ A1 ++ A2 ++ B1 ++ (B2 ++ Y)).flatMap f)) := by rw [hs, eU, eV]; simp
        by_cases c1 : 0 < A2.length
        · have d1 : decide ((i : Int) < (m : Int)) = true := by simp; omega
          by_cases c2 : 0 < B1.length
          · have d2 : decide ((m : Int) < (z : Int)) = true := by simp; omega
            have hs3 : s.obj p = some (.cells (((Xs ++ A1) ++ A2 ++ B1 ++ (B2 ++ Y)).flatMap f)) := hs2
            have rot := rot_law hT hP (Xs ++ A1) A2 B1 (B2 ++ Y) c1 c2 (by simp only [List.length_append, lA1, lB1, lA2, lB2]; omega) (.func g cap) hs3 (n := n) (a := i) (m := m) (b := z) (by simp only [List.length_append, lA1, lB1, lA2, lB2]; omega) (by simp only [List.length_append, lA1]; omega) (by simp only [List.length_append, lA1]; omega) (by simp only [List.length_append, lA1]; omega)
            simp only [sSym_v, e0, e1, e2, e3, e4, e18, e19, e20, e21, e22, d1, d2, go_sem, ↓reduceIte, reduceCtorEq, Nat.reduceEqDiff, Nat.reduceAdd, Nat.reduceSub, Nat.reduceMul, Nat.reduceLeDiff, Nat.reduceLT, loadA, rdCells, storeA, setAt, binA]
            refine WO_callx [.msl p 0 n 4, .int .i64 i, .int .i64 m, .int .i64 z, .func g cap] (by simp only [e4, go_sem, ↓reduceIte, reduceCtorEq, Nat.reduceEqDiff, Nat.reduceAdd, Nat.reduceSub, Nat.reduceMul, Nat.reduceLeDiff, Nat.reduceLT, loadA, rdCells, storeA, setAt, binA]) (rot.mono ?_)
            rintro v s1 ⟨h1, k1⟩
            simp only [go_sem, ↓reduceIte, reduceCtorEq, Nat.reduceEqDiff, Nat.reduceAdd, Nat.reduceSub, Nat.reduceMul, Nat.reduceLeDiff, Nat.reduceLT, loadA, rdCells, storeA, setAt, binA]
            refine pw _ _ ?_ ?_ ?_ ?_ ?_ ?_ ?_ (by rw [h1]; simp) (hk.trans k1) <;> simp only [e0, e1, e3, e4, e18, e20, go_sem, ↓reduceIte, reduceCtorEq, Nat.reduceEqDiff, Nat.reduceAdd, Nat.reduceSub, Nat.reduceMul, Nat.reduceLeDiff, Nat.reduceLT, loadA, rdCells, storeA, setAt, binA]
          · have d2 : decide ((m : Int) < (z : Int)) = false := by simp; omega
            simp only [sSym_v, e0, e1, e2, e3, e4, e18, e19, e20, e21, e22, d1, d2, go_sem, ↓reduceIte, reduceCtorEq, Nat.reduceEqDiff, Nat.reduceAdd, Nat.reduceSub, Nat.reduceMul, Nat.reduceLeDiff, Nat.reduceLT, loadA, rdCells, storeA, setAt, binA]
            have hB1n : B1 = [] := nil_of c2
            refine pw _ _ ?_ ?_ ?_ ?_ ?_ ?_ ?_ (by rw [hs2, hB1n]; simp) hk <;> simp only [e0, e1, e3, e4, e18, e20, go_sem, ↓reduceIte, reduceCtorEq, Nat.reduceEqDiff, Nat.reduceAdd, Nat.reduceSub, Nat.reduceMul, Nat.reduceLeDiff, Nat.reduceLT, loadA, rdCells, storeA, setAt, binA]
        · have d1 : decide ((i : Int) < (m : Int)) = false := by simp; omega
          simp only [sSym_v, e0, e1, e2, e3, e4, e18, e19, e20, e21, e22, d1, go_sem, ↓reduceIte, reduceCtorEq, Nat.reduceEqDiff, Nat.reduceAdd, Nat.reduceSub, Nat.reduceMul, Nat.reduceLeDiff, Nat.reduceLT, loadA, rdCells, storeA, setAt, binA]
          have hA2n : A2 = [] := nil_of c1
          refine pw _ _ ?_ ?_ ?_ ?_ ?_ ?_ ?_ (by rw [hs2, hA2n]; simp) hk <;> simp only [e0, e1, e3, e4, e18, e20, go_sem, ↓reduceIte, reduceCtorEq, Nat.reduceEqDiff, Nat.reduceAdd, Nat.reduceSub, Nat.reduceMul, Nat.reduceLeDiff, Nat.reduceLT, loadA, rdCells, storeA, setAt, binA]
    simp only [sSym, w0, w1, h10, h11, sSym_t, q1, q2, q3, q4, w2, go_sem, ↓reduceIte, reduceCtorEq, Nat.reduceEqDiff, Nat.reduceAdd, Nat.reduceSub, Nat.reduceMul, Nat.reduceLeDiff, Nat.reduceLT, loadA, rdCells, storeA, setAt, binA]
    by_cases hmm : mid < m
    · have hd : decide ((m : Int) > (mid : Int)) = true := by simp; omega
      have w5 : IntKind.i64.wrap (((mid + m : Nat) : Int) - (b : Int)) = ((mid + m - b : Nat) : Int) := by rw [IntKind.wrap_i64]; omega
      rw [if_pos hmm] at hs0 hr0
      simp only [hd, w5, ← hs0, go_sem, ↓reduceIte, reduceCtorEq, Nat.reduceEqDiff, Nat.reduceAdd, Nat.reduceSub, Nat.reduceMul, Nat.reduceLeDiff, Nat.reduceLT, loadA, rdCells, storeA, setAt, binA]
      refine main _ ?_ ?_ ?_ ?_ ?_ ?_ ?_ ?_ ?_ <;> simp only [hr0, go_sem, ↓reduceIte, reduceCtorEq, Nat.reduceEqDiff, Nat.reduceAdd, Nat.reduceSub, Nat.reduceMul, Nat.reduceLeDiff, Nat.reduceLT, loadA, rdCells, storeA, setAt, binA]
    · have hd : decide ((m : Int) > (mid : Int)) = false := by simp; omega
      rw [if_neg hmm] at hs0 hr0
      simp only [hd, go_sem, ↓reduceIte, reduceCtorEq, Nat.reduceEqDiff, Nat.reduceAdd, Nat.reduceSub, Nat.reduceMul, Nat.reduceLeDiff, Nat.reduceLT, loadA, rdCells, storeA, setAt, binA]
      refine main _ ?_ ?_ ?_ ?_ ?_ ?_ ?_ ?_ ?_ <;> simp only [hs0, hr0, go_sem, ↓reduceIte, reduceCtorEq, Nat.reduceEqDiff, Nat.reduceAdd, Nat.reduceSub, Nat.reduceMul, Nat.reduceLeDiff, Nat.reduceLT, loadA, rdCells, storeA, setAt, binA]
end
end Go.Am
