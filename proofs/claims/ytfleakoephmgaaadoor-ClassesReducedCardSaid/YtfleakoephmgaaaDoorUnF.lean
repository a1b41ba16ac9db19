/- A part of the proof of Go. Conditions: none. -/
import Derived.Test.YtfleakoephmgaaaDoorUnE
set_option linter.unusedSimpArgs false
set_option linter.unusedVariables false
namespace Go.Am.U1
set_option maxRecDepth 100000
set_option linter.unusedSimpArgs false
open Go.Am.Un
attribute [local go_sem] wseq COp.isStore wreg wdreg wret wskip wexit wblock wcnd cnd_t cnd_f then_n then_x then_r catch_n rnd_n rnd_x rnd_r catch_x catch_r wo_nil wo_grd grdO_t grdO_f wo_ops stpO wr_nil wr_alloc wr_guards grdR_t grdR_f wr_ops stpR evAllocs evOp env0_app eput_some eput_none eset_app Opd.ev wantedA faddrA snew_obj snew_size sput_obj sput_size av_cells av_one av_strip av_still unA eqbA fillA fldA lensA mmA mm2 mmFold List.getD_cons_zero List.getD_cons_succ List.getD_nil List.length_cons List.length_nil List.drop_zero List.drop_succ_cons List.take_succ_cons List.take_zero List.map_cons List.map_nil List.set_cons_zero List.set_cons_succ List.all_cons List.all_nil List.getElem?_cons_zero List.getElem?_cons_succ List.nil_append List.cons_append Nat.zero_add Nat.add_zero beq_self_eq_true bt bf Bool.not_true Bool.not_false Bool.and_true Bool.true_and Bool.and_false Bool.false_and and_self and_true true_and n0 n1 n2 n3 n4 m0 m1 m2 m3 c1 retA resAs resA undefA Option.map_some Option.map_none
variable {X : Ext}

set_option maxHeartbeats 8000000 in
theorem check_law (hX : NoX X) (b : Nat) : ∀ (n : Nat) (t : Tm), tsz t ≤ n → ∀ (w : AV) (depth left : Int) (row : Bool) (s : St), ISl tyc w (lof t) → 0 ≤ depth → depth ≤ 401 → 0 ≤ left → left ≤ 4096 → s.obj b = some (.cells [.int .i64 left]) → b < s.size →
      WC T X 45 [.ptr b 0, .agg (tyw t w), .bool row, .int .i64 depth] s (ChkQ b (chk row depth left t) s) := by
  intro n
  induction n with
  | zero => intro t ht; cases t; rw [tsz] at ht; omega
  | succ n ihn =>
    rintro ⟨k, nm, v, l⟩ ht w depth left row s hiw hd0 hd h0 h1 hob hb
    simp only [lof] at hiw
    rw [tsz] at ht
    refine WC_fn cf45 (hX 45 (by decide)) T45 (by simp [cf45]) ?_
    have hw : IntKind.i64.wrap (left - 1) = left - 1 := by rw [IntKind.wrap_i64]; omega
    have hS1 : ∀ S1, S1 = (s.new (.cells [.int .i64 k, .str nm, .int .i64 v, w])).put b (some (.cells [.int .i64 (left - 1)])) →
        S1.obj b = some (.cells [.int .i64 (left - 1)]) ∧ b < S1.size ∧ S1.obj s.size = some (.cells [.int .i64 k, .str nm, .int .i64 v, w]) ∧ s.size < S1.size ∧ KeepBut b s S1 := by
      rintro S1 rfl
      refine ⟨put_eq, ?_, ?_, ?_, ?_, ?_⟩
      · simp only [St.put, St.new]; omega
      · rw [put_ne (by omega), new_eq rfl]
      · simp only [St.put, St.new]; omega
      · simp only [St.put, St.new]; omega
      · intro j hj hjb; rw [put_ne hjb, new_ne (by omega)]
    have eb1 : (b = s.size) = False := eq_false (by omega)
    have eb2 : (s.size = b) = False := eq_false (by omega)
    simp only [tyw, kof, nof, vof, cf45, hob, hw, eb1, eb2, go_sem, ↓reduceIte, reduceCtorEq, Nat.reduceEqDiff, Nat.reduceAdd, Nat.reduceSub, Nat.reduceMul, Nat.reduceLeDiff, Nat.reduceLT, loadA, rdCells, storeA, setAt, binA]
    generalize hs1 : (s.new (.cells [.int .i64 k, .str nm, .int .i64 v, w])).put b (some (.cells [.int .i64 (left - 1)])) = S1
    obtain ⟨q1, q2, q3, q4, q5⟩ := hS1 S1 hs1.symm
    have fail : ∀ (e : Int), chk row depth left (.mk k nm v l) = (e, left - 1) → ChkQ b (chk row depth left (.mk k nm v l)) s (.int .i64 e) S1 := fun e he => by rw [he]; exact ⟨rfl, q1, q5⟩
    cases c1 : decide (left - 1 < 0)
    case true => simp only [c1, go_sem, ↓reduceIte, reduceCtorEq, Nat.reduceEqDiff, Nat.reduceAdd, Nat.reduceSub, Nat.reduceMul, Nat.reduceLeDiff, Nat.reduceLT, loadA, rdCells, storeA, setAt, binA]; exact ⟨by simp, _, rfl, fail 2 (chk_large (Or.inl (of_decide_eq_true c1)))⟩
    cases c2 : decide (depth > 400)
    case true => simp only [c1, c2, go_sem, ↓reduceIte, reduceCtorEq, Nat.reduceEqDiff, Nat.reduceAdd, Nat.reduceSub, Nat.reduceMul, Nat.reduceLeDiff, Nat.reduceLT, loadA, rdCells, storeA, setAt, binA]; exact ⟨by simp, _, rfl, fail 2 (chk_large (Or.inr (of_decide_eq_true c2)))⟩
    have hA : ¬ (left - 1 < 0 ∨ depth > 400) := fun h => h.elim (of_decide_eq_false c1) (of_decide_eq_false c2)
    cases c3 : decide (k < 0)
    case true => simp only [c1, c2, c3, q3, go_sem, ↓reduceIte, reduceCtorEq, Nat.reduceEqDiff, Nat.reduceAdd, Nat.reduceSub, Nat.reduceMul, Nat.reduceLeDiff, Nat.reduceLT, loadA, rdCells, storeA, setAt, binA]; exact ⟨by simp, _, rfl, fail 9 (chk_kind hA (Or.inl (of_decide_eq_true c3)))⟩
    cases c4 : decide (k > 5)
    case true => simp only [c1, c2, c3, c4, q3, go_sem, ↓reduceIte, reduceCtorEq, Nat.reduceEqDiff, Nat.reduceAdd, Nat.reduceSub, Nat.reduceMul, Nat.reduceLeDiff, Nat.reduceLT, loadA, rdCells, storeA, setAt, binA]; exact ⟨by simp, _, rfl, fail 9 (chk_kind hA (Or.inr (of_decide_eq_true c4)))⟩
    simp only [c1, c2, c3, c4, q3, go_sem, ↓reduceIte, reduceCtorEq, Nat.reduceEqDiff, Nat.reduceAdd, Nat.reduceSub, Nat.reduceMul, Nat.reduceLeDiff, Nat.reduceLT, loadA, rdCells, storeA, setAt, binA]
    rw [decide_eq_false_iff_not] at c1 c2 c3 c4
    have hks : k = 0 ∨ k = 1 ∨ k = 2 ∨ k = 3 ∨ k = 4 ∨ k = 5 := by omega
    have hi0 : iaddraA 6 1 sizesA (.int .i64 0) = some (.eptr [.int .i64 0, .int .i64 (-1), .int .i64 3, .int .i64 1, .int .i64 0, .int .i64 2]) := rfl
    have hi1 : iaddraA 6 1 sizesA (.int .i64 1) = some (.eptr [.int .i64 (-1), .int .i64 3, .int .i64 1, .int .i64 0, .int .i64 2]) := rfl
    have hi2 : iaddraA 6 1 sizesA (.int .i64 2) = some (.eptr [.int .i64 3, .int .i64 1, .int .i64 0, .int .i64 2]) := rfl
    have hi3 : iaddraA 6 1 sizesA (.int .i64 3) = some (.eptr [.int .i64 1, .int .i64 0, .int .i64 2]) := rfl
    have hi4 : iaddraA 6 1 sizesA (.int .i64 4) = some (.eptr [.int .i64 0, .int .i64 2]) := rfl
    have hi5 : iaddraA 6 1 sizesA (.int .i64 5) = some (.eptr [.int .i64 2]) := rfl
    simp only [sizesA] at hi0 hi1 hi2 hi3 hi4 hi5
    have hlen : lenA w = some (.int .i64 l.length) := hiw.len
    rcases hks with rfl | rfl | rfl | rfl | rfl | rfl
    · have z0 : decide ((0 : Int) ≥ 0) = true := rfl
      have z1 : ((0 : Int) != 0) = false := rfl
      have z2 : ((0 : Int) != 1) = true := rfl
      have z3 : ((0 : Int) != 5) = true := rfl
      have z4 : ((0 : Int) == 0) = true := rfl
      have z5 : decide ((0 : Int) ≥ 4) = false := rfl
      simp only [q3, hlen, hi0, z0, z1, z2, z3, z4, z5, go_sem, ↓reduceIte, reduceCtorEq, Nat.reduceEqDiff, Nat.reduceAdd, Nat.reduceSub, Nat.reduceMul, Nat.reduceLeDiff, Nat.reduceLT, loadA, rdCells, storeA, setAt, binA]
      cases c5 : ((l.length : Int) != 0)
      case true => simp only [q3, hlen, hi0, z0, z1, z2, z3, z4, z5, c5, go_sem, ↓reduceIte, reduceCtorEq, Nat.reduceEqDiff, Nat.reduceAdd, Nat.reduceSub, Nat.reduceMul, Nat.reduceLeDiff, Nat.reduceLT, loadA, rdCells, storeA, setAt, binA]; exact ⟨by simp, _, rfl, fail 3 (by rw [Un.chk0 hA]; simp only [c5, cond_true, cond_false])⟩
      cases c7 : (nm.toList == ({ data := #[] } : ByteArray).toList)
      case false => simp only [q3, hlen, hi0, z0, z1, z2, z3, z4, z5, c5, c7, go_sem, ↓reduceIte, reduceCtorEq, Nat.reduceEqDiff, Nat.reduceAdd, Nat.reduceSub, Nat.reduceMul, Nat.reduceLeDiff, Nat.reduceLT, loadA, rdCells, storeA, setAt, binA]; exact ⟨by simp, _, rfl, fail 3 (by rw [Un.chk0 hA]; simp only [c5,c7, cond_true, cond_false])⟩
      cases c9 : decide (v < 0)
      case true => simp only [q3, hlen, hi0, z0, z1, z2, z3, z4, z5, c5, c7, c9, go_sem, ↓reduceIte, reduceCtorEq, Nat.reduceEqDiff, Nat.reduceAdd, Nat.reduceSub, Nat.reduceMul, Nat.reduceLeDiff, Nat.reduceLT, loadA, rdCells, storeA, setAt, binA]; exact ⟨by simp, _, rfl, fail 4 (by rw [Un.chk0 hA]; simp only [c5,c7,c9, cond_true, cond_false])⟩
      cases c10 : decide (v ≥ 4096)
      case true => simp only [q3, hlen, hi0, z0, z1, z2, z3, z4, z5, c5, c7, c9, c10, go_sem, ↓reduceIte, reduceCtorEq, Nat.reduceEqDiff, Nat.reduceAdd, Nat.reduceSub, Nat.reduceMul, Nat.reduceLeDiff, Nat.reduceLT, loadA, rdCells, storeA, setAt, binA]; exact ⟨by simp, _, rfl, fail 4 (by rw [Un.chk0 hA]; simp only [c5,c7,c9,c10, cond_true, cond_false])⟩
      simp only [q3, hlen, hi0, z0, z1, z2, z3, z4, z5, c5, c7, c9, c10, go_sem, ↓reduceIte, reduceCtorEq, Nat.reduceEqDiff, Nat.reduceAdd, Nat.reduceSub, Nat.reduceMul, Nat.reduceLeDiff, Nat.reduceLT, loadA, rdCells, storeA, setAt, binA]
      have hch : chk row depth left (.mk 0 nm v l) = chks 0 0 (depth + 1) (left - 1) l := by rw [Un.chk0 hA]; simp only [c5, c7, c9, c10, cond_true, cond_false]
      refine (check_loop hX (b := b) (k := 0) (v := v) (depth := depth) (n := nm) (l := l) (w := w) hiw hd0 (by omega)
        (fun t ht left row s h0 h1 hob hb => by rw [tyc_w]; exact ihn t (by omega) _ (depth + 1) left row s (isl_tycs _) (by omega) (by omega) h0 h1 hob hb) l.length 0 _ S1 (left - 1) s.size (by omega) ?_ ?_ ?_ ?_ ?_ ?_ ?_ q3 q4 (by omega) q1 q2 (by omega) (by omega)).mono ?_
      · simp only [go_sem, ↓reduceIte, reduceCtorEq, Nat.reduceEqDiff, Nat.reduceAdd, Nat.reduceSub, Nat.reduceMul, Nat.reduceLeDiff, Nat.reduceLT, loadA, rdCells, storeA, setAt, binA]
      · simp only [go_sem, ↓reduceIte, reduceCtorEq, Nat.reduceEqDiff, Nat.reduceAdd, Nat.reduceSub, Nat.reduceMul, Nat.reduceLeDiff, Nat.reduceLT, loadA, rdCells, storeA, setAt, binA]
      · simp only [go_sem, ↓reduceIte, reduceCtorEq, Nat.reduceEqDiff, Nat.reduceAdd, Nat.reduceSub, Nat.reduceMul, Nat.reduceLeDiff, Nat.reduceLT, loadA, rdCells, storeA, setAt, binA]
      · simp only [go_sem, ↓reduceIte, reduceCtorEq, Nat.reduceEqDiff, Nat.reduceAdd, Nat.reduceSub, Nat.reduceMul, Nat.reduceLeDiff, Nat.reduceLT, loadA, rdCells, storeA, setAt, binA]
      · simp only [go_sem, ↓reduceIte, reduceCtorEq, Nat.reduceEqDiff, Nat.reduceAdd, Nat.reduceSub, Nat.reduceMul, Nat.reduceLeDiff, Nat.reduceLT, loadA, rdCells, storeA, setAt, binA]
      · simp only [hlen, go_sem, ↓reduceIte, reduceCtorEq, Nat.reduceEqDiff, Nat.reduceAdd, Nat.reduceSub, Nat.reduceMul, Nat.reduceLeDiff, Nat.reduceLT, loadA, rdCells, storeA, setAt, binA]
      · simp only [go_sem, ↓reduceIte, reduceCtorEq, Nat.reduceEqDiff, Nat.reduceAdd, Nat.reduceSub, Nat.reduceMul, Nat.reduceLeDiff, Nat.reduceLT, loadA, rdCells, storeA, setAt, binA]; rfl
      rintro x e' S' ⟨hx, g3, g4⟩
      rw [List.drop_zero] at hx g3
      rw [hch]
      rcases hx with ⟨rfl, hv⟩ | ⟨rfl, he8, hne⟩
      · simp only [go_sem, ↓reduceIte, reduceCtorEq, Nat.reduceEqDiff, Nat.reduceAdd, Nat.reduceSub, Nat.reduceMul, Nat.reduceLeDiff, Nat.reduceLT, loadA, rdCells, storeA, setAt, binA]
        exact ⟨by simp, _, rfl, by rw [hv], g3, q5.trans g4⟩
      · simp only [he8, go_sem, ↓reduceIte, reduceCtorEq, Nat.reduceEqDiff, Nat.reduceAdd, Nat.reduceSub, Nat.reduceMul, Nat.reduceLeDiff, Nat.reduceLT, loadA, rdCells, storeA, setAt, binA]
        exact ⟨by simp, _, rfl, rfl, g3, q5.trans g4⟩
    · have z0 : decide ((-1 : Int) ≥ 0) = false := rfl
      have z1 : ((1 : Int) != 0) = true := rfl
      have z2 : ((1 : Int) != 1) = false := rfl
      have z3 : ((1 : Int) != 5) = true := rfl
      have z4 : ((1 : Int) == 0) = false := rfl
      have z5 : decide ((1 : Int) ≥ 4) = false := rfl
      simp only [q3, hlen, hi1, z0, z1, z2, z3, z4, z5, go_sem, ↓reduceIte, reduceCtorEq, Nat.reduceEqDiff, Nat.reduceAdd, Nat.reduceSub, Nat.reduceMul, Nat.reduceLeDiff, Nat.reduceLT, loadA, rdCells, storeA, setAt, binA]
      cases c6 : (v != 0)
      case true => simp only [q3, hlen, hi1, z0, z1, z2, z3, z4, z5, c6, go_sem, ↓reduceIte, reduceCtorEq, Nat.reduceEqDiff, Nat.reduceAdd, Nat.reduceSub, Nat.reduceMul, Nat.reduceLeDiff, Nat.reduceLT, loadA, rdCells, storeA, setAt, binA]; exact ⟨by simp, _, rfl, fail 3 (by rw [Un.chk1 hA]; simp only [c6, cond_true, cond_false])⟩
      cases row
      case true => simp only [q3, hlen, hi1, z0, z1, z2, z3, z4, z5, c6, go_sem, ↓reduceIte, reduceCtorEq, Nat.reduceEqDiff, Nat.reduceAdd, Nat.reduceSub, Nat.reduceMul, Nat.reduceLeDiff, Nat.reduceLT, loadA, rdCells, storeA, setAt, binA]; exact ⟨by simp, _, rfl, fail 9 (by rw [Un.chk1 hA]; simp only [c6, cond_true, cond_false])⟩
      simp only [q3, hlen, hi1, z0, z1, z2, z3, z4, z5, c6, go_sem, ↓reduceIte, reduceCtorEq, Nat.reduceEqDiff, Nat.reduceAdd, Nat.reduceSub, Nat.reduceMul, Nat.reduceLeDiff, Nat.reduceLT, loadA, rdCells, storeA, setAt, binA]
      have hch : chk false depth left (.mk 1 nm v l) = chks 1 0 (depth + 1) (left - 1) l := by rw [Un.chk1 hA]; simp only [c6, cond_true, cond_false]
      refine (check_loop hX (b := b) (k := 1) (v := v) (depth := depth) (n := nm) (l := l) (w := w) hiw hd0 (by omega)
        (fun t ht left row s h0 h1 hob hb => by rw [tyc_w]; exact ihn t (by omega) _ (depth + 1) left row s (isl_tycs _) (by omega) (by omega) h0 h1 hob hb) l.length 0 _ S1 (left - 1) s.size (by omega) ?_ ?_ ?_ ?_ ?_ ?_ ?_ q3 q4 (by omega) q1 q2 (by omega) (by omega)).mono ?_
      · simp only [go_sem, ↓reduceIte, reduceCtorEq, Nat.reduceEqDiff, Nat.reduceAdd, Nat.reduceSub, Nat.reduceMul, Nat.reduceLeDiff, Nat.reduceLT, loadA, rdCells, storeA, setAt, binA]
      · simp only [go_sem, ↓reduceIte, reduceCtorEq, Nat.reduceEqDiff, Nat.reduceAdd, Nat.reduceSub, Nat.reduceMul, Nat.reduceLeDiff, Nat.reduceLT, loadA, rdCells, storeA, setAt, binA]
      · simp only [go_sem, ↓reduceIte, reduceCtorEq, Nat.reduceEqDiff, Nat.reduceAdd, Nat.reduceSub, Nat.reduceMul, Nat.reduceLeDiff, Nat.reduceLT, loadA, rdCells, storeA, setAt, binA]
      · simp only [go_sem, ↓reduceIte, reduceCtorEq, Nat.reduceEqDiff, Nat.reduceAdd, Nat.reduceSub, Nat.reduceMul, Nat.reduceLeDiff, Nat.reduceLT, loadA, rdCells, storeA, setAt, binA]
      · simp only [go_sem, ↓reduceIte, reduceCtorEq, Nat.reduceEqDiff, Nat.reduceAdd, Nat.reduceSub, Nat.reduceMul, Nat.reduceLeDiff, Nat.reduceLT, loadA, rdCells, storeA, setAt, binA]
      · simp only [hlen, go_sem, ↓reduceIte, reduceCtorEq, Nat.reduceEqDiff, Nat.reduceAdd, Nat.reduceSub, Nat.reduceMul, Nat.reduceLeDiff, Nat.reduceLT, loadA, rdCells, storeA, setAt, binA]
      · simp only [go_sem, ↓reduceIte, reduceCtorEq, Nat.reduceEqDiff, Nat.reduceAdd, Nat.reduceSub, Nat.reduceMul, Nat.reduceLeDiff, Nat.reduceLT, loadA, rdCells, storeA, setAt, binA]; rfl
      rintro x e' S' ⟨hx, g3, g4⟩
      rw [List.drop_zero] at hx g3
      rw [hch]
      rcases hx with ⟨rfl, hv⟩ | ⟨rfl, he8, hne⟩
      · simp only [go_sem, ↓reduceIte, reduceCtorEq, Nat.reduceEqDiff, Nat.reduceAdd, Nat.reduceSub, Nat.reduceMul, Nat.reduceLeDiff, Nat.reduceLT, loadA, rdCells, storeA, setAt, binA]
        exact ⟨by simp, _, rfl, by rw [hv], g3, q5.trans g4⟩
      · simp only [he8, go_sem, ↓reduceIte, reduceCtorEq, Nat.reduceEqDiff, Nat.reduceAdd, Nat.reduceSub, Nat.reduceMul, Nat.reduceLeDiff, Nat.reduceLT, loadA, rdCells, storeA, setAt, binA]
        exact ⟨by simp, _, rfl, rfl, g3, q5.trans g4⟩
    · have z0 : decide ((3 : Int) ≥ 0) = true := rfl
      have z1 : ((2 : Int) != 0) = true := rfl
      have z2 : ((2 : Int) != 1) = true := rfl
      have z3 : ((2 : Int) != 5) = true := rfl
      have z4 : ((2 : Int) == 0) = false := rfl
      have z5 : decide ((2 : Int) ≥ 4) = false := rfl
      simp only [q3, hlen, hi2, z0, z1, z2, z3, z4, z5, go_sem, ↓reduceIte, reduceCtorEq, Nat.reduceEqDiff, Nat.reduceAdd, Nat.reduceSub, Nat.reduceMul, Nat.reduceLeDiff, Nat.reduceLT, loadA, rdCells, storeA, setAt, binA]
      cases c5 : ((l.length : Int) != 3)
      case true => simp only [q3, hlen, hi2, z0, z1, z2, z3, z4, z5, c5, go_sem, ↓reduceIte, reduceCtorEq, Nat.reduceEqDiff, Nat.reduceAdd, Nat.reduceSub, Nat.reduceMul, Nat.reduceLeDiff, Nat.reduceLT, loadA, rdCells, storeA, setAt, binA]; exact ⟨by simp, _, rfl, fail 3 (by rw [Un.chk2 hA]; simp only [c5, cond_true, cond_false])⟩
      cases c6 : (v != 0)
      case true => simp only [q3, hlen, hi2, z0, z1, z2, z3, z4, z5, c5, c6, go_sem, ↓reduceIte, reduceCtorEq, Nat.reduceEqDiff, Nat.reduceAdd, Nat.reduceSub, Nat.reduceMul, Nat.reduceLeDiff, Nat.reduceLT, loadA, rdCells, storeA, setAt, binA]; exact ⟨by simp, _, rfl, fail 3 (by rw [Un.chk2 hA]; simp only [c5,c6, cond_true, cond_false])⟩
      cases c7 : (nm.toList == ({ data := #[] } : ByteArray).toList)
      case false => simp only [q3, hlen, hi2, z0, z1, z2, z3, z4, z5, c5, c6, c7, go_sem, ↓reduceIte, reduceCtorEq, Nat.reduceEqDiff, Nat.reduceAdd, Nat.reduceSub, Nat.reduceMul, Nat.reduceLeDiff, Nat.reduceLT, loadA, rdCells, storeA, setAt, binA]; exact ⟨by simp, _, rfl, fail 3 (by rw [Un.chk2 hA]; simp only [c5,c6,c7, cond_true, cond_false])⟩
      cases row
      case true => simp only [q3, hlen, hi2, z0, z1, z2, z3, z4, z5, c5, c6, c7, go_sem, ↓reduceIte, reduceCtorEq, Nat.reduceEqDiff, Nat.reduceAdd, Nat.reduceSub, Nat.reduceMul, Nat.reduceLeDiff, Nat.reduceLT, loadA, rdCells, storeA, setAt, binA]; exact ⟨by simp, _, rfl, fail 9 (by rw [Un.chk2 hA]; simp only [c5,c6,c7, cond_true, cond_false])⟩
      simp only [q3, hlen, hi2, z0, z1, z2, z3, z4, z5, c5, c6, c7, go_sem, ↓reduceIte, reduceCtorEq, Nat.reduceEqDiff, Nat.reduceAdd, Nat.reduceSub, Nat.reduceMul, Nat.reduceLeDiff, Nat.reduceLT, loadA, rdCells, storeA, setAt, binA]
      have hch : chk false depth left (.mk 2 nm v l) = chks 2 0 (depth + 1) (left - 1) l := by rw [Un.chk2 hA]; simp only [c5, c6, c7, cond_true, cond_false]
      refine (check_loop hX (b := b) (k := 2) (v := v) (depth := depth) (n := nm) (l := l) (w := w) hiw hd0 (by omega)
        (fun t ht left row s h0 h1 hob hb => by rw [tyc_w]; exact ihn t (by omega) _ (depth + 1) left row s (isl_tycs _) (by omega) (by omega) h0 h1 hob hb) l.length 0 _ S1 (left - 1) s.size (by omega) ?_ ?_ ?_ ?_ ?_ ?_ ?_ q3 q4 (by omega) q1 q2 (by omega) (by omega)).mono ?_
      · simp only [go_sem, ↓reduceIte, reduceCtorEq, Nat.reduceEqDiff, Nat.reduceAdd, Nat.reduceSub, Nat.reduceMul, Nat.reduceLeDiff, Nat.reduceLT, loadA, rdCells, storeA, setAt, binA]
      · simp only [go_sem, ↓reduceIte, reduceCtorEq, Nat.reduceEqDiff, Nat.reduceAdd, Nat.reduceSub, Nat.reduceMul, Nat.reduceLeDiff, Nat.reduceLT, loadA, rdCells, storeA, setAt, binA]
      · simp only [go_sem, ↓reduceIte, reduceCtorEq, Nat.reduceEqDiff, Nat.reduceAdd, Nat.reduceSub, Nat.reduceMul, Nat.reduceLeDiff, Nat.reduceLT, loadA, rdCells, storeA, setAt, binA]
      · simp only [go_sem, ↓reduceIte, reduceCtorEq, Nat.reduceEqDiff, Nat.reduceAdd, Nat.reduceSub, Nat.reduceMul, Nat.reduceLeDiff, Nat.reduceLT, loadA, rdCells, storeA, setAt, binA]
      · simp only [go_sem, ↓reduceIte, reduceCtorEq, Nat.reduceEqDiff, Nat.reduceAdd, Nat.reduceSub, Nat.reduceMul, Nat.reduceLeDiff, Nat.reduceLT, loadA, rdCells, storeA, setAt, binA]
      · simp only [hlen, go_sem, ↓reduceIte, reduceCtorEq, Nat.reduceEqDiff, Nat.reduceAdd, Nat.reduceSub, Nat.reduceMul, Nat.reduceLeDiff, Nat.reduceLT, loadA, rdCells, storeA, setAt, binA]
      · simp only [go_sem, ↓reduceIte, reduceCtorEq, Nat.reduceEqDiff, Nat.reduceAdd, Nat.reduceSub, Nat.reduceMul, Nat.reduceLeDiff, Nat.reduceLT, loadA, rdCells, storeA, setAt, binA]; rfl
      rintro x e' S' ⟨hx, g3, g4⟩
      rw [List.drop_zero] at hx g3
      rw [hch]
      rcases hx with ⟨rfl, hv⟩ | ⟨rfl, he8, hne⟩
      · simp only [go_sem, ↓reduceIte, reduceCtorEq, Nat.reduceEqDiff, Nat.reduceAdd, Nat.reduceSub, Nat.reduceMul, Nat.reduceLeDiff, Nat.reduceLT, loadA, rdCells, storeA, setAt, binA]
        exact ⟨by simp, _, rfl, by rw [hv], g3, q5.trans g4⟩
      · simp only [he8, go_sem, ↓reduceIte, reduceCtorEq, Nat.reduceEqDiff, Nat.reduceAdd, Nat.reduceSub, Nat.reduceMul, Nat.reduceLeDiff, Nat.reduceLT, loadA, rdCells, storeA, setAt, binA]
        exact ⟨by simp, _, rfl, rfl, g3, q5.trans g4⟩
    · have z0 : decide ((1 : Int) ≥ 0) = true := rfl
      have z1 : ((3 : Int) != 0) = true := rfl
      have z2 : ((3 : Int) != 1) = true := rfl
      have z3 : ((3 : Int) != 5) = true := rfl
      have z4 : ((3 : Int) == 0) = false := rfl
      have z5 : decide ((3 : Int) ≥ 4) = false := rfl
      simp only [q3, hlen, hi3, z0, z1, z2, z3, z4, z5, go_sem, ↓reduceIte, reduceCtorEq, Nat.reduceEqDiff, Nat.reduceAdd, Nat.reduceSub, Nat.reduceMul, Nat.reduceLeDiff, Nat.reduceLT, loadA, rdCells, storeA, setAt, binA]
      cases c5 : ((l.length : Int) != 1)
      case true => simp only [q3, hlen, hi3, z0, z1, z2, z3, z4, z5, c5, go_sem, ↓reduceIte, reduceCtorEq, Nat.reduceEqDiff, Nat.reduceAdd, Nat.reduceSub, Nat.reduceMul, Nat.reduceLeDiff, Nat.reduceLT, loadA, rdCells, storeA, setAt, binA]; exact ⟨by simp, _, rfl, fail 3 (by rw [Un.chk3 hA]; simp only [c5, cond_true, cond_false])⟩
      cases c6 : (v != 0)
      case true => simp only [q3, hlen, hi3, z0, z1, z2, z3, z4, z5, c5, c6, go_sem, ↓reduceIte, reduceCtorEq, Nat.reduceEqDiff, Nat.reduceAdd, Nat.reduceSub, Nat.reduceMul, Nat.reduceLeDiff, Nat.reduceLT, loadA, rdCells, storeA, setAt, binA]; exact ⟨by simp, _, rfl, fail 3 (by rw [Un.chk3 hA]; simp only [c5,c6, cond_true, cond_false])⟩
      cases c7 : (nm.toList == ({ data := #[] } : ByteArray).toList)
      case false => simp only [q3, hlen, hi3, z0, z1, z2, z3, z4, z5, c5, c6, c7, go_sem, ↓reduceIte, reduceCtorEq, Nat.reduceEqDiff, Nat.reduceAdd, Nat.reduceSub, Nat.reduceMul, Nat.reduceLeDiff, Nat.reduceLT, loadA, rdCells, storeA, setAt, binA]; exact ⟨by simp, _, rfl, fail 3 (by rw [Un.chk3 hA]; simp only [c5,c6,c7, cond_true, cond_false])⟩
      cases row
      case true => simp only [q3, hlen, hi3, z0, z1, z2, z3, z4, z5, c5, c6, c7, go_sem, ↓reduceIte, reduceCtorEq, Nat.reduceEqDiff, Nat.reduceAdd, Nat.reduceSub, Nat.reduceMul, Nat.reduceLeDiff, Nat.reduceLT, loadA, rdCells, storeA, setAt, binA]; exact ⟨by simp, _, rfl, fail 9 (by rw [Un.chk3 hA]; simp only [c5,c6,c7, cond_true, cond_false])⟩
      simp only [q3, hlen, hi3, z0, z1, z2, z3, z4, z5, c5, c6, c7, go_sem, ↓reduceIte, reduceCtorEq, Nat.reduceEqDiff, Nat.reduceAdd, Nat.reduceSub, Nat.reduceMul, Nat.reduceLeDiff, Nat.reduceLT, loadA, rdCells, storeA, setAt, binA]
      have hch : chk false depth left (.mk 3 nm v l) = chks 3 0 (depth + 1) (left - 1) l := by rw [Un.chk3 hA]; simp only [c5, c6, c7, cond_true, cond_false]
      refine (check_loop hX (b := b) (k := 3) (v := v) (depth := depth) (n := nm) (l := l) (w := w) hiw hd0 (by omega)
        (fun t ht left row s h0 h1 hob hb => by rw [tyc_w]; exact ihn t (by omega) _ (depth + 1) left row s (isl_tycs _) (by omega) (by omega) h0 h1 hob hb) l.length 0 _ S1 (left - 1) s.size (by omega) ?_ ?_ ?_ ?_ ?_ ?_ ?_ q3 q4 (by omega) q1 q2 (by omega) (by omega)).mono ?_
      · simp only [go_sem, ↓reduceIte, reduceCtorEq, Nat.reduceEqDiff, Nat.reduceAdd, Nat.reduceSub, Nat.reduceMul, Nat.reduceLeDiff, Nat.reduceLT, loadA, rdCells, storeA, setAt, binA]
      · simp only [go_sem, ↓reduceIte, reduceCtorEq, Nat.reduceEqDiff, Nat.reduceAdd, Nat.reduceSub, Nat.reduceMul, Nat.reduceLeDiff, Nat.reduceLT, loadA, rdCells, storeA, setAt, binA]
      · simp only [go_sem, ↓reduceIte, reduceCtorEq, Nat.reduceEqDiff, Nat.reduceAdd, Nat.reduceSub, Nat.reduceMul, Nat.reduceLeDiff, Nat.reduceLT, loadA, rdCells, storeA, setAt, binA]
      · simp only [go_sem, ↓reduceIte, reduceCtorEq, Nat.reduceEqDiff, Nat.reduceAdd, Nat.reduceSub, Nat.reduceMul, Nat.reduceLeDiff, Nat.reduceLT, loadA, rdCells, storeA, setAt, binA]
      · simp only [go_sem, ↓reduceIte, reduceCtorEq, Nat.reduceEqDiff, Nat.reduceAdd, Nat.reduceSub, Nat.reduceMul, Nat.reduceLeDiff, Nat.reduceLT, loadA, rdCells, storeA, setAt, binA]
      · simp only [hlen, go_sem, ↓reduceIte, reduceCtorEq, Nat.reduceEqDiff, Nat.reduceAdd, Nat.reduceSub, Nat.reduceMul, Nat.reduceLeDiff, Nat.reduceLT, loadA, rdCells, storeA, setAt, binA]
      · simp only [go_sem, ↓reduceIte, reduceCtorEq, Nat.reduceEqDiff, Nat.reduceAdd, Nat.reduceSub, Nat.reduceMul, Nat.reduceLeDiff, Nat.reduceLT, loadA, rdCells, storeA, setAt, binA]; rfl
      rintro x e' S' ⟨hx, g3, g4⟩
      rw [List.drop_zero] at hx g3
      rw [hch]
      rcases hx with ⟨rfl, hv⟩ | ⟨rfl, he8, hne⟩
      · simp only [go_sem, ↓reduceIte, reduceCtorEq, Nat.reduceEqDiff, Nat.reduceAdd, Nat.reduceSub, Nat.reduceMul, Nat.reduceLeDiff, Nat.reduceLT, loadA, rdCells, storeA, setAt, binA]
        exact ⟨by simp, _, rfl, by rw [hv], g3, q5.trans g4⟩
      · simp only [he8, go_sem, ↓reduceIte, reduceCtorEq, Nat.reduceEqDiff, Nat.reduceAdd, Nat.reduceSub, Nat.reduceMul, Nat.reduceLeDiff, Nat.reduceLT, loadA, rdCells, storeA, setAt, binA]
        exact ⟨by simp, _, rfl, rfl, g3, q5.trans g4⟩
    · have z0 : decide ((0 : Int) ≥ 0) = true := rfl
      have z1 : ((4 : Int) != 0) = true := rfl
      have z2 : ((4 : Int) != 1) = true := rfl
      have z3 : ((4 : Int) != 5) = true := rfl
      have z4 : ((4 : Int) == 0) = false := rfl
      have z5 : decide ((4 : Int) ≥ 4) = true := rfl
      simp only [q3, hlen, hi4, z0, z1, z2, z3, z4, z5, go_sem, ↓reduceIte, reduceCtorEq, Nat.reduceEqDiff, Nat.reduceAdd, Nat.reduceSub, Nat.reduceMul, Nat.reduceLeDiff, Nat.reduceLT, loadA, rdCells, storeA, setAt, binA]
      cases c5 : ((l.length : Int) != 0)
      case true => simp only [q3, hlen, hi4, z0, z1, z2, z3, z4, z5, c5, go_sem, ↓reduceIte, reduceCtorEq, Nat.reduceEqDiff, Nat.reduceAdd, Nat.reduceSub, Nat.reduceMul, Nat.reduceLeDiff, Nat.reduceLT, loadA, rdCells, storeA, setAt, binA]; exact ⟨by simp, _, rfl, fail 3 (by rw [Un.chk4 hA]; simp only [c5, cond_true, cond_false])⟩
      cases c6 : (v != 0)
      case true => simp only [q3, hlen, hi4, z0, z1, z2, z3, z4, z5, c5, c6, go_sem, ↓reduceIte, reduceCtorEq, Nat.reduceEqDiff, Nat.reduceAdd, Nat.reduceSub, Nat.reduceMul, Nat.reduceLeDiff, Nat.reduceLT, loadA, rdCells, storeA, setAt, binA]; exact ⟨by simp, _, rfl, fail 3 (by rw [Un.chk4 hA]; simp only [c5,c6, cond_true, cond_false])⟩
      cases c7 : (nm.toList == ({ data := #[] } : ByteArray).toList)
      case false => simp only [q3, hlen, hi4, z0, z1, z2, z3, z4, z5, c5, c6, c7, go_sem, ↓reduceIte, reduceCtorEq, Nat.reduceEqDiff, Nat.reduceAdd, Nat.reduceSub, Nat.reduceMul, Nat.reduceLeDiff, Nat.reduceLT, loadA, rdCells, storeA, setAt, binA]; exact ⟨by simp, _, rfl, fail 3 (by rw [Un.chk4 hA]; simp only [c5,c6,c7, cond_true, cond_false])⟩
      cases row
      case false => simp only [q3, hlen, hi4, z0, z1, z2, z3, z4, z5, c5, c6, c7, go_sem, ↓reduceIte, reduceCtorEq, Nat.reduceEqDiff, Nat.reduceAdd, Nat.reduceSub, Nat.reduceMul, Nat.reduceLeDiff, Nat.reduceLT, loadA, rdCells, storeA, setAt, binA]; exact ⟨by simp, _, rfl, fail 9 (by rw [Un.chk4 hA]; simp only [c5,c6,c7, cond_true, cond_false])⟩
      simp only [q3, hlen, hi4, z0, z1, z2, z3, z4, z5, c5, c6, c7, go_sem, ↓reduceIte, reduceCtorEq, Nat.reduceEqDiff, Nat.reduceAdd, Nat.reduceSub, Nat.reduceMul, Nat.reduceLeDiff, Nat.reduceLT, loadA, rdCells, storeA, setAt, binA]
      have hch : chk true depth left (.mk 4 nm v l) = chks 4 0 (depth + 1) (left - 1) l := by rw [Un.chk4 hA]; simp only [c5, c6, c7, cond_true, cond_false]
      refine (check_loop hX (b := b) (k := 4) (v := v) (depth := depth) (n := nm) (l := l) (w := w) hiw hd0 (by omega)
        (fun t ht left row s h0 h1 hob hb => by rw [tyc_w]; exact ihn t (by omega) _ (depth + 1) left row s (isl_tycs _) (by omega) (by omega) h0 h1 hob hb) l.length 0 _ S1 (left - 1) s.size (by omega) ?_ ?_ ?_ ?_ ?_ ?_ ?_ q3 q4 (by omega) q1 q2 (by omega) (by omega)).mono ?_
      · simp only [go_sem, ↓reduceIte, reduceCtorEq, Nat.reduceEqDiff, Nat.reduceAdd, Nat.reduceSub, Nat.reduceMul, Nat.reduceLeDiff, Nat.reduceLT, loadA, rdCells, storeA, setAt, binA]
      · simp only [go_sem, ↓reduceIte, reduceCtorEq, Nat.reduceEqDiff, Nat.reduceAdd, Nat.reduceSub, Nat.reduceMul, Nat.reduceLeDiff, Nat.reduceLT, loadA, rdCells, storeA, setAt, binA]
      · simp only [go_sem, ↓reduceIte, reduceCtorEq, Nat.reduceEqDiff, Nat.reduceAdd, Nat.reduceSub, Nat.reduceMul, Nat.reduceLeDiff, Nat.reduceLT, loadA, rdCells, storeA, setAt, binA]
      · simp only [go_sem, ↓reduceIte, reduceCtorEq, Nat.reduceEqDiff, Nat.reduceAdd, Nat.reduceSub, Nat.reduceMul, Nat.reduceLeDiff, Nat.reduceLT, loadA, rdCells, storeA, setAt, binA]
      · simp only [go_sem, ↓reduceIte, reduceCtorEq, Nat.reduceEqDiff, Nat.reduceAdd, Nat.reduceSub, Nat.reduceMul, Nat.reduceLeDiff, Nat.reduceLT, loadA, rdCells, storeA, setAt, binA]
      · simp only [hlen, go_sem, ↓reduceIte, reduceCtorEq, Nat.reduceEqDiff, Nat.reduceAdd, Nat.reduceSub, Nat.reduceMul, Nat.reduceLeDiff, Nat.reduceLT, loadA, rdCells, storeA, setAt, binA]
      · simp only [go_sem, ↓reduceIte, reduceCtorEq, Nat.reduceEqDiff, Nat.reduceAdd, Nat.reduceSub, Nat.reduceMul, Nat.reduceLeDiff, Nat.reduceLT, loadA, rdCells, storeA, setAt, binA]; rfl
      rintro x e' S' ⟨hx, g3, g4⟩
      rw [List.drop_zero] at hx g3
      rw [hch]
      rcases hx with ⟨rfl, hv⟩ | ⟨rfl, he8, hne⟩
      · simp only [go_sem, ↓reduceIte, reduceCtorEq, Nat.reduceEqDiff, Nat.reduceAdd, Nat.reduceSub, Nat.reduceMul, Nat.reduceLeDiff, Nat.reduceLT, loadA, rdCells, storeA, setAt, binA]
        exact ⟨by simp, _, rfl, by rw [hv], g3, q5.trans g4⟩
      · simp only [he8, go_sem, ↓reduceIte, reduceCtorEq, Nat.reduceEqDiff, Nat.reduceAdd, Nat.reduceSub, Nat.reduceMul, Nat.reduceLeDiff, Nat.reduceLT, loadA, rdCells, storeA, setAt, binA]
        exact ⟨by simp, _, rfl, rfl, g3, q5.trans g4⟩
    · have z0 : decide ((2 : Int) ≥ 0) = true := rfl
      have z1 : ((5 : Int) != 0) = true := rfl
      have z2 : ((5 : Int) != 1) = true := rfl
      have z3 : ((5 : Int) != 5) = false := rfl
      have z4 : ((5 : Int) == 0) = false := rfl
      have z5 : decide ((5 : Int) ≥ 4) = true := rfl
      simp only [q3, hlen, hi5, z0, z1, z2, z3, z4, z5, go_sem, ↓reduceIte, reduceCtorEq, Nat.reduceEqDiff, Nat.reduceAdd, Nat.reduceSub, Nat.reduceMul, Nat.reduceLeDiff, Nat.reduceLT, loadA, rdCells, storeA, setAt, binA]
      cases c5 : ((l.length : Int) != 2)
      case true => simp only [q3, hlen, hi5, z0, z1, z2, z3, z4, z5, c5, go_sem, ↓reduceIte, reduceCtorEq, Nat.reduceEqDiff, Nat.reduceAdd, Nat.reduceSub, Nat.reduceMul, Nat.reduceLeDiff, Nat.reduceLT, loadA, rdCells, storeA, setAt, binA]; exact ⟨by simp, _, rfl, fail 3 (by rw [Un.chk5 hA]; simp only [c5, cond_true, cond_false])⟩
      cases c6 : (v != 0)
      case true => simp only [q3, hlen, hi5, z0, z1, z2, z3, z4, z5, c5, c6, go_sem, ↓reduceIte, reduceCtorEq, Nat.reduceEqDiff, Nat.reduceAdd, Nat.reduceSub, Nat.reduceMul, Nat.reduceLeDiff, Nat.reduceLT, loadA, rdCells, storeA, setAt, binA]; exact ⟨by simp, _, rfl, fail 3 (by rw [Un.chk5 hA]; simp only [c5,c6, cond_true, cond_false])⟩
      cases row
      case false => simp only [q3, hlen, hi5, z0, z1, z2, z3, z4, z5, c5, c6, go_sem, ↓reduceIte, reduceCtorEq, Nat.reduceEqDiff, Nat.reduceAdd, Nat.reduceSub, Nat.reduceMul, Nat.reduceLeDiff, Nat.reduceLT, loadA, rdCells, storeA, setAt, binA]; exact ⟨by simp, _, rfl, fail 9 (by rw [Un.chk5 hA]; simp only [c5,c6, cond_true, cond_false])⟩
      simp only [q3, hlen, hi5, z0, z1, z2, z3, z4, z5, c5, c6, go_sem, ↓reduceIte, reduceCtorEq, Nat.reduceEqDiff, Nat.reduceAdd, Nat.reduceSub, Nat.reduceMul, Nat.reduceLeDiff, Nat.reduceLT, loadA, rdCells, storeA, setAt, binA]
      have hch : chk true depth left (.mk 5 nm v l) = chks 5 0 (depth + 1) (left - 1) l := by rw [Un.chk5 hA]; simp only [c5, c6, cond_true, cond_false]
      refine (check_loop hX (b := b) (k := 5) (v := v) (depth := depth) (n := nm) (l := l) (w := w) hiw hd0 (by omega)
        (fun t ht left row s h0 h1 hob hb => by rw [tyc_w]; exact ihn t (by omega) _ (depth + 1) left row s (isl_tycs _) (by omega) (by omega) h0 h1 hob hb) l.length 0 _ S1 (left - 1) s.size (by omega) ?_ ?_ ?_ ?_ ?_ ?_ ?_ q3 q4 (by omega) q1 q2 (by omega) (by omega)).mono ?_
      · simp only [go_sem, ↓reduceIte, reduceCtorEq, Nat.reduceEqDiff, Nat.reduceAdd, Nat.reduceSub, Nat.reduceMul, Nat.reduceLeDiff, Nat.reduceLT, loadA, rdCells, storeA, setAt, binA]
      · simp only [go_sem, ↓reduceIte, reduceCtorEq, Nat.reduceEqDiff, Nat.reduceAdd, Nat.reduceSub, Nat.reduceMul, Nat.reduceLeDiff, Nat.reduceLT, loadA, rdCells, storeA, setAt, binA]
      · simp only [go_sem, ↓reduceIte, reduceCtorEq, Nat.reduceEqDiff, Nat.reduceAdd, Nat.reduceSub, Nat.reduceMul, Nat.reduceLeDiff, Nat.reduceLT, loadA, rdCells, storeA, setAt, binA]
      · simp only [go_sem, ↓reduceIte, reduceCtorEq, Nat.reduceEqDiff, Nat.reduceAdd, Nat.reduceSub, Nat.reduceMul, Nat.reduceLeDiff, Nat.reduceLT, loadA, rdCells, storeA, setAt, binA]
      · simp only [go_sem, ↓reduceIte, reduceCtorEq, Nat.reduceEqDiff, Nat.reduceAdd, Nat.reduceSub, Nat.reduceMul, Nat.reduceLeDiff, Nat.reduceLT, loadA, rdCells, storeA, setAt, binA]
      · simp only [hlen, go_sem, ↓reduceIte, reduceCtorEq, Nat.reduceEqDiff, Nat.reduceAdd, Nat.reduceSub, Nat.reduceMul, Nat.reduceLeDiff, Nat.reduceLT, loadA, rdCells, storeA, setAt, binA]
      · simp only [go_sem, ↓reduceIte, reduceCtorEq, Nat.reduceEqDiff, Nat.reduceAdd, Nat.reduceSub, Nat.reduceMul, Nat.reduceLeDiff, Nat.reduceLT, loadA, rdCells, storeA, setAt, binA]; rfl
      rintro x e' S' ⟨hx, g3, g4⟩
      rw [List.drop_zero] at hx g3
      rw [hch]
      rcases hx with ⟨rfl, hv⟩ | ⟨rfl, he8, hne⟩
      · simp only [go_sem, ↓reduceIte, reduceCtorEq, Nat.reduceEqDiff, Nat.reduceAdd, Nat.reduceSub, Nat.reduceMul, Nat.reduceLeDiff, Nat.reduceLT, loadA, rdCells, storeA, setAt, binA]
        exact ⟨by simp, _, rfl, by rw [hv], g3, q5.trans g4⟩
      · simp only [he8, go_sem, ↓reduceIte, reduceCtorEq, Nat.reduceEqDiff, Nat.reduceAdd, Nat.reduceSub, Nat.reduceMul, Nat.reduceLeDiff, Nat.reduceLT, loadA, rdCells, storeA, setAt, binA]
        exact ⟨by simp, _, rfl, rfl, g3, q5.trans g4⟩
end Go.Am.U1
