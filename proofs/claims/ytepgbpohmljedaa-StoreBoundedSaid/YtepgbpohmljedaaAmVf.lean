/- StoreBounded: the law itself. Conditions: none. -/
import Derived.Test.YtepgbpohmljedaaAmVe
set_option linter.unusedSimpArgs false
set_option linter.unusedVariables false
namespace Go.Am.V1
open Go.St (up up_same up_ne Ring)
set_option maxRecDepth 100000
set_option linter.unusedSimpArgs false
attribute [local go_sem] wseq wreg wdreg wret wskip wexit wblock wcnd cnd_t cnd_f then_n then_x then_r catch_n rnd_n rnd_x rnd_r catch_x catch_r wo_nil wo_grd grdO_t grdO_f wo_ops stpO wr_nil wr_alloc wr_guards grdR_t grdR_f wr_ops stpR evAllocs evOp env0_app eput_some eput_none eset_app Opd.ev wantedA faddrA snew_obj snew_size sput_obj sput_size av_cells av_one av_strip av_still unA eqbA fillA fldA lensA mmA mm2 mmFold List.getD_cons_zero List.getD_cons_succ List.getD_nil List.length_cons List.length_nil List.drop_zero List.drop_succ_cons List.take_succ_cons List.take_zero List.map_cons List.map_nil List.set_cons_zero List.set_cons_succ List.all_cons List.all_nil List.getElem?_cons_zero List.getElem?_cons_succ List.nil_append List.cons_append Nat.zero_add Nat.add_zero beq_self_eq_true bt bf Bool.not_true Bool.not_false Bool.and_true Bool.true_and Bool.and_false Bool.false_and and_self and_true true_and n0 n1 n2 n3 n4 m0 m1 m2 m3 c1 retA resAs resA undefA Option.map_some Option.map_none

theorem ne_self (a : Int) : (a != a) = false := bne_self_eq_false a
set_option maxHeartbeats 4000000 in
theorem bounded_law (n : Int) {kv vv : AV} {ks vs : List ByteArray} (hk : ISl strc kv ks) (hv : ISl strc vv vs) (hkl : ks.length * 16 ≤ 140737488355328) (hks : ∀ s, s ∈ ks → s.size ≤ 281474976710656) (hvs : ∀ s, s ∈ vs → s.size ≤ 281474976710656) (S : St) :
    WC T xv 3 [.int .i64 n, kv, vv] S (fun v _ => v = .bool true) := by
  refine WC_fn cf3 rfl T3 (by simp [cf3]) ?_
  simp only [cf3, go_sem, ↓reduceIte, reduceCtorEq, Nat.reduceEqDiff, Nat.reduceAdd, Nat.reduceSub, Nat.reduceMul, Nat.reduceLeDiff, Nat.reduceLT, loadA, rdCells, storeA, setAt, binA]
  refine WO_callx [.int .i64 (3 : Nat)] (by simp only [go_sem, ↓reduceIte, reduceCtorEq, Nat.reduceEqDiff, Nat.reduceAdd, Nat.reduceSub, Nat.reduceMul, Nat.reduceLeDiff, Nat.reduceLT, loadA, rdCells, storeA, setAt, binA]; rfl) ((new_law 3 (by omega) S).mono ?_)
  rintro v S1 ⟨q, r, m, ky, vl, la, ol, es, rfl, h1, -⟩
  simp only [ne_self, go_sem, ↓reduceIte, reduceCtorEq, Nat.reduceEqDiff, Nat.reduceAdd, Nat.reduceSub, Nat.reduceMul, Nat.reduceLeDiff, Nat.reduceLT, loadA, rdCells, storeA, setAt, binA]
  refine WO_callx [.ptr q 0, .str ⟨#[97]⟩, .str ⟨#[98, 99, 100]⟩] (by simp only [go_sem, ↓reduceIte, reduceCtorEq, Nat.reduceEqDiff, Nat.reduceAdd, Nat.reduceSub, Nat.reduceMul, Nat.reduceLeDiff, Nat.reduceLT, loadA, rdCells, storeA, setAt, binA]) ((put_law h1 _ _ (by decide) (by decide) (by simp)).mono ?_)
  rintro v S2 hp
  have h2 : v = .tup [.nils, .int .i64 16] ∧ S2 = S1 := by
    rcases hp with ⟨-, h, h'⟩ | ⟨h, -⟩
    · exact ⟨h, h'⟩
    · exact absurd h (by decide)
  obtain ⟨rfl, rfl⟩ := h2
  clear hp h1
  simp only [ne_self, go_sem, ↓reduceIte, reduceCtorEq, Nat.reduceEqDiff, Nat.reduceAdd, Nat.reduceSub, Nat.reduceMul, Nat.reduceLeDiff, Nat.reduceLT, loadA, rdCells, storeA, setAt, binA]
  refine WO_callx [.int .i64 n, .int .i64 0, .int .i64 40] (by simp only [go_sem, ↓reduceIte, reduceCtorEq, Nat.reduceEqDiff, Nat.reduceAdd, Nat.reduceSub, Nat.reduceMul, Nat.reduceLeDiff, Nat.reduceLT, loadA, rdCells, storeA, setAt, binA]) ((within_law n S2).mono ?_)
  rintro v S3 ⟨rfl, rfl⟩
  obtain ⟨b1, b2⟩ := wi_b n
  obtain ⟨room, hroom⟩ : ∃ room : Nat, wi n = room := ⟨(wi n).toNat, by omega⟩
  simp only [hroom, go_sem, ↓reduceIte, reduceCtorEq, Nat.reduceEqDiff, Nat.reduceAdd, Nat.reduceSub, Nat.reduceMul, Nat.reduceLeDiff, Nat.reduceLT, loadA, rdCells, storeA, setAt, binA]
  refine WO_callx [.int .i64 room] (by simp only [go_sem, ↓reduceIte, reduceCtorEq, Nat.reduceEqDiff, Nat.reduceAdd, Nat.reduceSub, Nat.reduceMul, Nat.reduceLeDiff, Nat.reduceLT, loadA, rdCells, storeA, setAt, binA]) ((new_law room (by omega) S3).mono ?_)
  rintro v S1 ⟨q, r, m, ky, vl, la, ol, es, rfl, h1, -⟩
  obtain ⟨N, hN⟩ : ∃ N, N = min ks.length vs.length := ⟨_, rfl⟩
  have hmin : (if (vs.length : Int) < (ks.length : Int) then (vs.length : Int) else (ks.length : Int)) = (N : Int) := by split <;> omega
  simp only [hk.len, hv.len, hmin, ne_self, go_sem, ↓reduceIte, reduceCtorEq, Nat.reduceEqDiff, Nat.reduceAdd, Nat.reduceSub, Nat.reduceMul, Nat.reduceLeDiff, Nat.reduceLT, loadA, rdCells, storeA, setAt, binA]
  have hNk : N ≤ ks.length := by omega
  have hNv : N ≤ vs.length := by omega
  refine W_loop_nat (fun k e s => ∃ i bs ky vl la ol es, i + k = N ∧ e 0 = .int .i64 n ∧ e 1 = kv ∧ e 2 = vv ∧ e 7 = .ptr q 0 ∧ e 39 = .int .i64 (N : Nat) ∧ e 40 = .int .i64 i ∧ bs.length ≤ i ∧ Sto s q r m room bs ky vl la ol es) ?_ N _ _
    ⟨0, [], ky, vl, la, ol, es, by omega, by simp only [go_sem, ↓reduceIte, reduceCtorEq, Nat.reduceEqDiff, Nat.reduceAdd, Nat.reduceSub, Nat.reduceMul, Nat.reduceLeDiff, Nat.reduceLT, loadA, rdCells, storeA, setAt, binA], by simp only [go_sem, ↓reduceIte, reduceCtorEq, Nat.reduceEqDiff, Nat.reduceAdd, Nat.reduceSub, Nat.reduceMul, Nat.reduceLeDiff, Nat.reduceLT, loadA, rdCells, storeA, setAt, binA], by simp only [go_sem, ↓reduceIte, reduceCtorEq, Nat.reduceEqDiff, Nat.reduceAdd, Nat.reduceSub, Nat.reduceMul, Nat.reduceLeDiff, Nat.reduceLT, loadA, rdCells, storeA, setAt, binA], by simp only [go_sem, ↓reduceIte, reduceCtorEq, Nat.reduceEqDiff, Nat.reduceAdd, Nat.reduceSub, Nat.reduceMul, Nat.reduceLeDiff, Nat.reduceLT, loadA, rdCells, storeA, setAt, binA], by simp only [go_sem, ↓reduceIte, reduceCtorEq, Nat.reduceEqDiff, Nat.reduceAdd, Nat.reduceSub, Nat.reduceMul, Nat.reduceLeDiff, Nat.reduceLT, loadA, rdCells, storeA, setAt, binA], by simp only [go_sem, ↓reduceIte, reduceCtorEq, Nat.reduceEqDiff, Nat.reduceAdd, Nat.reduceSub, Nat.reduceMul, Nat.reduceLeDiff, Nat.reduceLT, loadA, rdCells, storeA, setAt, binA]; rfl, by simp, h1⟩
  clear h1
  rintro k e s ⟨i, bs, ky, vl, la, ol, es, hik, e0, e1, e2, e7, e39, e40, hbi, h1⟩
  by_cases hi : i < N
  · have hd : decide ((i : Int) < (N : Int)) = true := by simp; omega
    have hwi : IntKind.i64.wrap ((i : Int) + 1) = ((i + 1 : Nat) : Int) := by rw [IntKind.wrap_i64]; omega
    obtain ⟨key, hkey⟩ : ∃ y, ks[i]? = some y := ⟨_, List.getElem?_eq_getElem (by omega)⟩
    obtain ⟨val, hval⟩ : ∃ y, vs[i]? = some y := ⟨_, List.getElem?_eq_getElem (by omega)⟩
    have hks1 := hks key (List.mem_of_getElem? hkey)
    have hvs1 := hvs val (List.mem_of_getElem? hval)
    have ak := hk.at strc_len hkey
    have av := hv.at strc_len hval
    have w1 : IntKind.i64.wrap ((key.size : Int) + (val.size : Int)) = ((key.size + val.size : Nat) : Int) := by rw [IntKind.wrap_i64]; omega
    simp only [cf3_l0, e0, e1, e2, e7, e39, e40, hd, ak, av, strc, go_sem, ↓reduceIte, reduceCtorEq, Nat.reduceEqDiff, Nat.reduceAdd, Nat.reduceSub, Nat.reduceMul, Nat.reduceLeDiff, Nat.reduceLT, loadA, rdCells, storeA, setAt, binA]
    refine WR_callx [.ptr q 0, .str key, .str val] (by simp only [e7, go_sem, ↓reduceIte, reduceCtorEq, Nat.reduceEqDiff, Nat.reduceAdd, Nat.reduceSub, Nat.reduceMul, Nat.reduceLeDiff, Nat.reduceLT, loadA, rdCells, storeA, setAt, binA]) ((put_law h1 key val hks1 hvs1 (by omega)).mono ?_)
    rintro v s2 (⟨hbig, rfl, rfl⟩ | ⟨hfit, gv, gl, b, bs', ky', vl', la', ol', es', rfl, hgl, hgn, hgk, h2, kb, vb, hln⟩)
    · have hd2 : decide (((key.size + val.size : Nat) : Int) > (room : Int)) = true := by simp; omega
      simp only [e0, e1, e2, e7, e39, e40, ak, av, strc, go_sem, ↓reduceIte, reduceCtorEq, Nat.reduceEqDiff, Nat.reduceAdd, Nat.reduceSub, Nat.reduceMul, Nat.reduceLeDiff, Nat.reduceLT, loadA, rdCells, storeA, setAt, binA]
      refine W_dreg ?_
      simp only [e0, e1, e2, e7, e39, e40, ak, av, strc, w1, wt_ops, stpT, go_sem, ↓reduceIte, reduceCtorEq, Nat.reduceEqDiff, Nat.reduceAdd, Nat.reduceSub, Nat.reduceMul, Nat.reduceLeDiff, Nat.reduceLT, loadA, rdCells, storeA, setAt, binA]
      refine WT_callx [.int .i64 n, .int .i64 0, .int .i64 40] (by simp only [e0, go_sem, ↓reduceIte, reduceCtorEq, Nat.reduceEqDiff, Nat.reduceAdd, Nat.reduceSub, Nat.reduceMul, Nat.reduceLeDiff, Nat.reduceLT, loadA, rdCells, storeA, setAt, binA]) ((within_law n s2).mono ?_)
      rintro v s3 ⟨rfl, rfl⟩
      simp only [e0, e1, e2, e7, e39, e40, ak, av, strc, w1, hroom, hd2, wt_ops, stpT, wt_nil, Tr, chk1, go_sem, ↓reduceIte, reduceCtorEq, Nat.reduceEqDiff, Nat.reduceAdd, Nat.reduceSub, Nat.reduceMul, Nat.reduceLeDiff, Nat.reduceLT, loadA, rdCells, storeA, setAt, binA]
      refine ⟨by simp [AV.beq], ?_⟩
      have hl0 : lenA .nils = some (.int .i64 (0 : Int)) := rfl
      have h00 : decide ((0 : Int) > 0) = false := by decide
      simp only [e0, e1, e2, e7, e39, e40, ne_self, hl0, h00, hwi, go_sem, ↓reduceIte, reduceCtorEq, Nat.reduceEqDiff, Nat.reduceAdd, Nat.reduceSub, Nat.reduceMul, Nat.reduceLeDiff, Nat.reduceLT, loadA, rdCells, storeA, setAt, binA]
      exact ⟨k - 1, by omega, i + 1, bs, ky, vl, la, ol, es, by omega, rfl, by omega, h1⟩
    · have hd2 : decide (((key.size + val.size : Nat) : Int) > (room : Int)) = false := by simp; omega
      simp only [e0, e1, e2, e7, e39, e40, ak, av, strc, go_sem, ↓reduceIte, reduceCtorEq, Nat.reduceEqDiff, Nat.reduceAdd, Nat.reduceSub, Nat.reduceMul, Nat.reduceLeDiff, Nat.reduceLT, loadA, rdCells, storeA, setAt, binA]
      refine W_dreg ?_
      simp only [e0, e1, e2, e7, e39, e40, ak, av, strc, w1, wt_ops, stpT, go_sem, ↓reduceIte, reduceCtorEq, Nat.reduceEqDiff, Nat.reduceAdd, Nat.reduceSub, Nat.reduceMul, Nat.reduceLeDiff, Nat.reduceLT, loadA, rdCells, storeA, setAt, binA]
      refine WT_callx [.int .i64 n, .int .i64 0, .int .i64 40] (by simp only [e0, go_sem, ↓reduceIte, reduceCtorEq, Nat.reduceEqDiff, Nat.reduceAdd, Nat.reduceSub, Nat.reduceMul, Nat.reduceLeDiff, Nat.reduceLT, loadA, rdCells, storeA, setAt, binA]) ((within_law n s2).mono ?_)
      rintro v s3 ⟨rfl, rfl⟩
      simp only [e0, e1, e2, e7, e39, e40, ak, av, strc, w1, hroom, hd2, wt_ops, stpT, wt_nil, Tr, chk1, go_sem, ↓reduceIte, reduceCtorEq, Nat.reduceEqDiff, Nat.reduceAdd, Nat.reduceSub, Nat.reduceMul, Nat.reduceLeDiff, Nat.reduceLT, loadA, rdCells, storeA, setAt, binA]
      refine ⟨by simp [AV.beq], ?_⟩
      have hget := get_law h2
      rw [kb, vb] at hget
      refine WO_callx [.ptr q 0, .str key] (by simp only [go_sem, ↓reduceIte, reduceCtorEq, Nat.reduceEqDiff, Nat.reduceAdd, Nat.reduceSub, Nat.reduceMul, Nat.reduceLeDiff, Nat.reduceLT, loadA, rdCells, storeA, setAt, binA]) (hget.mono ?_)
      rintro v s4 ⟨rfl, ⟨la4, ol4, h4⟩, -⟩
      have hf4 := h4.fits
      have hgt : decide (((tot ky' vl' (b :: bs') : Nat) : Int) > (room : Int)) = false := by simp; omega
      have hvv : (!(val.toList == val.toList)) = false := by simp
      have hkk : (!(key.toList == key.toList)) = false := by simp
      simp only [e0, e1, e2, e7, e39, e40, ne_self, ak, av, strc, go_sem, ↓reduceIte, reduceCtorEq, Nat.reduceEqDiff, Nat.reduceAdd, Nat.reduceSub, Nat.reduceMul, Nat.reduceLeDiff, Nat.reduceLT, loadA, rdCells, storeA, setAt, binA]
      refine W_dreg ?_
      simp only [wt_ops, wt_gs, grdT_t, grdT_f, stpT, Tr, e0, e1, e2, e7, e39, e40, ne_self, ak, av, strc, hvv, go_sem, ↓reduceIte, reduceCtorEq, Nat.reduceEqDiff, Nat.reduceAdd, Nat.reduceSub, Nat.reduceMul, Nat.reduceLeDiff, Nat.reduceLT, loadA, rdCells, storeA, setAt, binA]
      refine WT_callg [.ptr q 0] (by simp only [go_sem, ↓reduceIte, reduceCtorEq, Nat.reduceEqDiff, Nat.reduceAdd, Nat.reduceSub, Nat.reduceMul, Nat.reduceLeDiff, Nat.reduceLT, loadA, rdCells, storeA, setAt, binA]) (by simp only [e7, go_sem, ↓reduceIte, reduceCtorEq, Nat.reduceEqDiff, Nat.reduceAdd, Nat.reduceSub, Nat.reduceMul, Nat.reduceLeDiff, Nat.reduceLT, loadA, rdCells, storeA, setAt, binA]) ((used_law h4).mono ?_)
      rintro v s5 ⟨rfl, rfl⟩
      simp only [wt_ops, wt_gs, grdT_t, grdT_f, stpT, Tr, e0, e1, e2, e7, e39, e40, ne_self, ak, av, strc, hvv, hroom, hgt, hkk, go_sem, ↓reduceIte, reduceCtorEq, Nat.reduceEqDiff, Nat.reduceAdd, Nat.reduceSub, Nat.reduceMul, Nat.reduceLeDiff, Nat.reduceLT, loadA, rdCells, storeA, setAt, binA]
      refine WT_callg [.int .i64 n, .int .i64 0, .int .i64 40] (by simp only [go_sem, ↓reduceIte, reduceCtorEq, Nat.reduceEqDiff, Nat.reduceAdd, Nat.reduceSub, Nat.reduceMul, Nat.reduceLeDiff, Nat.reduceLT, loadA, rdCells, storeA, setAt, binA]) (by simp only [e0, go_sem, ↓reduceIte, reduceCtorEq, Nat.reduceEqDiff, Nat.reduceAdd, Nat.reduceSub, Nat.reduceMul, Nat.reduceLeDiff, Nat.reduceLT, loadA, rdCells, storeA, setAt, binA]) ((within_law n s5).mono ?_)
      rintro v s6 ⟨rfl, rfl⟩
      simp only [wt_ops, wt_gs, grdT_t, grdT_f, stpT, Tr, e0, e1, e2, e7, e39, e40, ne_self, ak, av, strc, hvv, hroom, hgt, hkk, go_sem, ↓reduceIte, reduceCtorEq, Nat.reduceEqDiff, Nat.reduceAdd, Nat.reduceSub, Nat.reduceMul, Nat.reduceLeDiff, Nat.reduceLT, loadA, rdCells, storeA, setAt, binA]
      refine WT_callg [.ptr q 0] (by simp only [go_sem, ↓reduceIte, reduceCtorEq, Nat.reduceEqDiff, Nat.reduceAdd, Nat.reduceSub, Nat.reduceMul, Nat.reduceLeDiff, Nat.reduceLT, loadA, rdCells, storeA, setAt, binA]) (by simp only [e7, go_sem, ↓reduceIte, reduceCtorEq, Nat.reduceEqDiff, Nat.reduceAdd, Nat.reduceSub, Nat.reduceMul, Nat.reduceLeDiff, Nat.reduceLT, loadA, rdCells, storeA, setAt, binA]) ((keys_law h4 (by simp only [List.length_cons]; omega)).mono ?_)
      rintro v s7 ⟨hkv, h7, -⟩
      have a0 := hkv.at strc_len (i := 0) (x := key) (by simp [kb])
      rw [show ((0 : Nat) : Int) = 0 from rfl] at a0
      simp only [wt_ops, wt_gs, grdT_t, grdT_f, stpT, Tr, e0, e1, e2, e7, e39, e40, ne_self, ak, av, strc, hvv, hroom, hgt, hkk, a0, go_sem, ↓reduceIte, reduceCtorEq, Nat.reduceEqDiff, Nat.reduceAdd, Nat.reduceSub, Nat.reduceMul, Nat.reduceLeDiff, Nat.reduceLT, loadA, rdCells, storeA, setAt, binA]
      refine WT_callg [gv, .str key] (by simp only [go_sem, ↓reduceIte, reduceCtorEq, Nat.reduceEqDiff, Nat.reduceAdd, Nat.reduceSub, Nat.reduceMul, Nat.reduceLeDiff, Nat.reduceLT, loadA, rdCells, storeA, setAt, binA]) (by simp only [e1, go_sem, ↓reduceIte, reduceCtorEq, Nat.reduceEqDiff, Nat.reduceAdd, Nat.reduceSub, Nat.reduceMul, Nat.reduceLeDiff, Nat.reduceLT, loadA, rdCells, storeA, setAt, binA]) ((contains_law s7 hgl (by simp only [big]; omega) key hgk).mono ?_)
      rintro v s8 ⟨rfl, rfl⟩
      simp only [wt_ops, wt_gs, grdT_t, grdT_f, stpT, Tr, e0, e1, e2, e7, e39, e40, ne_self, ak, av, strc, hvv, hroom, hgt, hkk, wt_nil, chk1, go_sem, ↓reduceIte, reduceCtorEq, Nat.reduceEqDiff, Nat.reduceAdd, Nat.reduceSub, Nat.reduceMul, Nat.reduceLeDiff, Nat.reduceLT, loadA, rdCells, storeA, setAt, binA]
      exact ⟨by simp [AV.beq], k - 1, by omega, i + 1, _, _, _, _, _, _, by omega, by rw [hwi], by simp only [List.length_cons]; omega, h7⟩
  · have hd : decide ((i : Int) < (N : Int)) = false := by simp; omega
    simp only [cf3_l0, e0, e1, e2, e7, e39, e40, hd, go_sem, ↓reduceIte, reduceCtorEq, Nat.reduceEqDiff, Nat.reduceAdd, Nat.reduceSub, Nat.reduceMul, Nat.reduceLeDiff, Nat.reduceLT, loadA, rdCells, storeA, setAt, binA]
    exact ⟨by simp, _, rfl, rfl⟩
end Go.Am.V1
