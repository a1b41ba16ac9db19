/- Infer: the kinds laid out. Conditions: none. -/
import Derived.Test.YtjhbakfgoaeeoaaDoorAmKn
namespace Go.Am.K1
set_option maxRecDepth 100000
set_option linter.unusedSimpArgs false

theorem beqs_ic : ∀ l : List Int, AV.beqs (l.flatMap ic) (l.flatMap ic) = true
  | [] => rfl
  | x :: l => by
    have := beqs_ic l
    rw [List.flatMap_cons]
    simp only [ic, List.cons_append, List.nil_append, AV.beqs, AV.beq, beq_self_eq_true, Bool.true_and, Bool.and_true]
    simpa using this
theorem isl_beq {v : AV} {l : List Int} (h : ISl ic v l) : AV.beq v v = true := by
  rcases h with ⟨rfl, _⟩ | ⟨full, tok, rfl⟩
  · rfl
  · simp [AV.beq, beqs_ic]

theorem isl_strip {v : AV} {l : List Int} (h : ISl ic v l) : v.strip = .sl (l.flatMap ic) l.length false none := by
  rcases h with ⟨rfl, rfl⟩ | ⟨full, tok, rfl⟩ <;> rfl
theorem Sol.cells {s s1 : St} {b : Nat} {kv dv fv uv cv : AV} {up : List Nat} {kd : List Int} (h : Sol s b kv dv fv uv cv up kd) (hs : s.size ≤ s1.size) (hc : ∀ j cs, j < s.size → s.obj j = some (.cells cs) → s1.obj j = some (.cells cs)) : Sol s1 b kv dv fv uv cv up kd := by
  refine ⟨hc b _ h.lt h.obj, Nat.lt_of_lt_of_le h.lt hs, ?_, ?_, h.len, h.uf, h.rng, h.nbu, h.nbc, h.ap⟩
  · rcases h.upa with g | g | ⟨p, g, g1, g2⟩
    · exact Or.inl g
    · exact Or.inr (Or.inl g)
    · exact Or.inr (Or.inr ⟨p, g, hc p _ g2 g1, Nat.lt_of_lt_of_le g2 hs⟩)
  · rcases h.kda with g | g | ⟨p, g, g1, g2⟩
    · exact Or.inl g
    · exact Or.inr (Or.inl g)
    · exact Or.inr (Or.inr ⟨p, g, hc p _ g2 g1, Nat.lt_of_lt_of_le g2 hs⟩)

theorem kscP : Plain ksc 2 := ⟨ksc_len, fun _ => rfl, fun _ => rfl, fun _ => rfl⟩

set_option maxHeartbeats 8000000 in
theorem tail12_law {kv dv fv uv cv : AV} {b : Nat} {ks : List Ks} {ds : List Ds} {fs : List Int}
    (hon : ∀ (j : Nat) (x : Ds), ds[j]? = some x → ∀ y, y ∈ ds.take j → y.name ≠ x.name)
    (e : Env) (S : St) (up : List Nat) (kd : List Int) (e0 : e 0 = kv) (e1 : e 1 = dv) (e7 : e 7 = .ptr b 0) (hI : Inf S b kv dv fv uv cv up kd ks ds fs) : W T nx tail12 e S (QI ds) := by
  have hd := hI.dis
  have hfew := hI.dfew
  simp only [tail12, rest12, cf12, sndC, QI, e0, e1, e7, hd.len, wseq, wreg, wdreg, wret, wskip, wexit, wblock, wcnd, cnd_t, cnd_f, then_n, then_x, then_r, catch_n, rnd_n, rnd_x, rnd_r, catch_x, catch_r, wo_nil, wo_grd, grdO_t, grdO_f, wo_ops, stpO, wr_nil, wr_alloc, wr_guards, grdR_t, grdR_f, wr_ops, stpR, evAllocs, evOp, env0_app, eput_some, eput_none, eset_app, Opd.ev, wantedA, faddrA, loadA, storeA, setAt, rdCells, snew_obj, snew_size, sput_obj, sput_size, av_cells, av_one, av_strip, av_still, binA, unA, eqbA, fillA, fldA, lensA, mmA, mm2, mmFold, List.getD_cons_zero, List.getD_cons_succ, List.getD_nil, List.length_cons, List.length_nil, List.drop_zero, List.drop_succ_cons, List.take_succ_cons, List.take_zero, List.map_cons, List.map_nil, List.set_cons_zero, List.set_cons_succ, List.all_cons, List.all_nil, List.getElem?_cons_zero, List.getElem?_cons_succ, List.nil_append, List.cons_append, ↓reduceIte, reduceCtorEq, Nat.reduceEqDiff, Nat.reduceAdd, Nat.reduceSub, Nat.reduceMul, Nat.reduceLeDiff, Nat.reduceLT, Nat.zero_add, Nat.add_zero, beq_self_eq_true, bt, bf, Bool.not_true, Bool.not_false, Bool.and_true, Bool.true_and, Bool.and_false, Bool.false_and, and_self, and_true, true_and, n0, n1, n2, n3, n4, m0, m1, m2, m3, c1, retA, resAs, resA, undefA, Option.map_some, Option.map_none]
  refine W_loop_nat (fun k e S => ∃ i os ov, i + k = ds.length ∧ e 0 = kv ∧ e 1 = dv ∧ e 7 = .ptr b 0 ∧ e 22 = ov ∧ e 137 = dv ∧ e 138 = .int .i64 ds.length ∧ e 139 = .int .i64 i ∧ GSl ksc 0 S ov os ∧ os.map (·.name) = (ds.take i).map (·.name) ∧ (∀ o, o ∈ os → o.params.length ≤ 4096 ∧ ∀ x, x ∈ o.params → 0 ≤ x ∧ x ≤ 2) ∧ Inf S b kv dv fv uv cv up kd ks ds fs) ?_ ds.length _ _ ⟨0, [], .sl [] 0 true none, by simp, ?_⟩
  · rintro k e S ⟨i, os, ov, hik, e0, e1, e7, e22, e137, e138, e139, hG, hnm, hos, hI⟩
    have hol : os.length ≤ i := by have := congrArg List.length hnm; simp at this; omega
    by_cases hi : i < ds.length
    · obtain ⟨d, hdi⟩ : ∃ d, ds[i]? = some d := ⟨_, List.getElem?_eq_getElem hi⟩
      have hlt : decide ((i : Int) < (ds.length : Int)) = true := by simp; omega
      have hwi := wrap_nat (n := i) (by simp only [big]; omega)
      obtain ⟨f, hfi, hf0, hfn, hp0, hp16⟩ := hI.fst.at hdi
      have hdat := hd.at dsc_len hdi
      simp only [dsc, List.cons_append, List.nil_append] at hdat
      obtain ⟨S1, hS1⟩ : ∃ S1, S1 = (S.new (.cells [.str ⟨#[]⟩, .int .i64 0, .nils])).put S.size (some (.cells (dsc d))) := ⟨_, rfl⟩
      have hk1 : Keep S S1 := by rw [hS1]; exact ((Keep.refl S).new' _).put' (Nat.le_refl _) _
      have hz1 : S1.size = S.size + 1 := by rw [hS1]; rfl
      have ho1 : S1.obj S.size = some (.cells (dsc d)) := by rw [hS1]; exact put_eq
      simp only [dsc] at hS1 ho1
      obtain ⟨S2, hS2⟩ : ∃ S2, S2 = (S1.new (.cells [.str ⟨#[]⟩, .nils])).put (S.size + 1) (some (.cells [.str d.name, .nils])) := ⟨_, rfl⟩
      have hk2 : Keep S S2 := by rw [hS2]; exact (hk1.new' _).put' (by omega) _
      have hz2 : S2.size = S.size + 2 := by rw [hS2]; simp only [St.put, St.new]; omega
      have ho2 : S2.obj (S.size + 1) = some (.cells [.str d.name, .nils]) := by rw [hS2]; exact put_eq
      simp only [cf12_l1, e0, e1, e7, e22, e137, e138, e139, hlt, hdat, Nat.le_add_left, wseq, wreg, wdreg, wret, wskip, wexit, wblock, wcnd, cnd_t, cnd_f, then_n, then_x, then_r, catch_n, rnd_n, rnd_x, rnd_r, catch_x, catch_r, wo_nil, wo_grd, grdO_t, grdO_f, wo_ops, stpO, wr_nil, wr_alloc, wr_guards, grdR_t, grdR_f, wr_ops, stpR, evAllocs, evOp, env0_app, eput_some, eput_none, eset_app, Opd.ev, wantedA, faddrA, loadA, storeA, setAt, rdCells, snew_obj, snew_size, sput_obj, sput_size, av_cells, av_one, av_strip, av_still, binA, unA, eqbA, fillA, fldA, lensA, mmA, mm2, mmFold, List.getD_cons_zero, List.getD_cons_succ, List.getD_nil, List.length_cons, List.length_nil, List.drop_zero, List.drop_succ_cons, List.take_succ_cons, List.take_zero, List.map_cons, List.map_nil, List.set_cons_zero, List.set_cons_succ, List.all_cons, List.all_nil, List.getElem?_cons_zero, List.getElem?_cons_succ, List.nil_append, List.cons_append, ↓reduceIte, reduceCtorEq, Nat.reduceEqDiff, Nat.reduceAdd, Nat.reduceSub, Nat.reduceMul, Nat.reduceLeDiff, Nat.reduceLT, Nat.zero_add, Nat.add_zero, beq_self_eq_true, bt, bf, Bool.not_true, Bool.not_false, Bool.and_true, Bool.true_and, Bool.and_false, Bool.false_and, and_self, and_true, true_and, n0, n1, n2, n3, n4, m0, m1, m2, m3, c1, retA, resAs, resA, undefA, Option.map_some, Option.map_none]
      rw [← hS1, ← hS2]
      obtain ⟨fn, rfl⟩ : ∃ fn : Nat, f = fn := ⟨f.toNat, by omega⟩
      refine W_loop_nat (fun k2 e' S' => ∃ (j : Nat) (ps : List Int) (pv : AV), (j : Int) + k2 = d.params ∧ e' 0 = kv ∧ e' 1 = dv ∧ e' 7 = .ptr b 0 ∧ e' 22 = ov ∧ e' 23 = .int .i64 i ∧ e' 25 = .ptr (S.size + 1) 0 ∧ e' 137 = dv ∧ e' 138 = .int .i64 ds.length ∧ e' 139 = .int .i64 i ∧ e' 148 = .int .i64 d.params ∧ e' 149 = .int .i64 j ∧ S'.obj (S.size + 1) = some (.cells [.str d.name, pv]) ∧ GSl ic (S.size + 2) S' pv ps ∧ ps.length = j ∧ (∀ x, x ∈ ps → 0 ≤ x ∧ x ≤ 2) ∧ Keep S S' ∧ S.size + 2 ≤ S'.size) ?_ d.params.toNat _ _ ⟨0, [], .nils, by simp; omega, ?_⟩
      · rintro k2 e' S' ⟨j, ps, pv, hjk, g0, g1, g7, g22, g23, g25, g137, g138, g139, g148, g149, hob, hGp, hpl, hpr, hkS', hzS'⟩
        by_cases hj : (j : Int) < d.params
        · have hlt2 : decide ((j : Int) < d.params) = true := by simp; omega
          have hsm := hI.small
          have hwj := wrap_nat (n := j) (by simp only [big]; omega)
          have hwf : IntKind.i64.wrap ((fn : Int) + (j : Int)) = ((fn + j : Nat) : Int) := by rw [IntKind.wrap_i64]; simp only [big] at hsm; omega
          have hSol := hI.sol.keep hkS'
          obtain ⟨-, -, ld2, -, ld4⟩ := hSol.load
          obtain ⟨r, hr⟩ := hSol.uf (fn + j) (by omega)
          obtain ⟨y, hy⟩ : ∃ y, kd[r]? = some y := ⟨_, List.getElem?_eq_getElem (by rw [hSol.len]; exact hr.lt)⟩
          obtain ⟨pc, hcv, -, hia, hla, -⟩ := arr_load hSol.kda hy
          have hlq : loadA S' false 1 (.ptr (S.size + 1) 1) = some pv := by simp [loadA, rdCells, hob]
          have hpb := isl_beq hGp.i
          have hcb := arr_beq hSol.kda
          have hbS : b < S.size := hI.sol.lt
          have hroot := root_law S' hSol hr
          simp only [cf12_l0, g0, g1, g7, g22, g23, g25, g137, g138, g139, g148, g149, hlt2, wseq, wreg, wdreg, wret, wskip, wexit, wblock, wcnd, cnd_t, cnd_f, then_n, then_x, then_r, catch_n, rnd_n, rnd_x, rnd_r, catch_x, catch_r, wo_nil, wo_grd, grdO_t, grdO_f, wo_ops, stpO, wr_nil, wr_alloc, wr_guards, grdR_t, grdR_f, wr_ops, stpR, evAllocs, evOp, env0_app, eput_some, eput_none, eset_app, Opd.ev, wantedA, faddrA, storeA, setAt, snew_obj, snew_size, sput_obj, sput_size, av_cells, av_one, av_strip, av_still, binA, unA, eqbA, fillA, fldA, lensA, mmA, mm2, mmFold, List.getD_cons_zero, List.getD_cons_succ, List.getD_nil, List.length_cons, List.length_nil, List.drop_zero, List.drop_succ_cons, List.take_succ_cons, List.take_zero, List.map_cons, List.map_nil, List.set_cons_zero, List.set_cons_succ, List.all_cons, List.all_nil, List.getElem?_cons_zero, List.getElem?_cons_succ, List.nil_append, List.cons_append, ↓reduceIte, reduceCtorEq, Nat.reduceEqDiff, Nat.reduceAdd, Nat.reduceSub, Nat.reduceMul, Nat.reduceLeDiff, Nat.reduceLT, Nat.zero_add, Nat.add_zero, beq_self_eq_true, bt, bf, Bool.not_true, Bool.not_false, Bool.and_true, Bool.true_and, Bool.and_false, Bool.false_and, and_self, and_true, true_and, n0, n1, n2, n3, n4, m0, m1, m2, m3, c1, retA, resAs, resA, undefA, Option.map_some, Option.map_none]
          refine W_dreg ?_
          simp only [g0, g1, g7, g22, g23, g25, g137, g138, g139, g148, g149, hlq, ld2, ld4, hI.fis.at ic_len hfi, ic, List.singleton_append, load_ei, hwf, wt_ops, stpT, wseq, wreg, wdreg, wret, wskip, wexit, wblock, wcnd, cnd_t, cnd_f, then_n, then_x, then_r, catch_n, rnd_n, rnd_x, rnd_r, catch_x, catch_r, wo_nil, wo_grd, grdO_t, grdO_f, wo_ops, stpO, wr_nil, wr_alloc, wr_guards, grdR_t, grdR_f, wr_ops, stpR, evAllocs, evOp, env0_app, eput_some, eput_none, eset_app, Opd.ev, wantedA, faddrA, storeA, setAt, snew_obj, snew_size, sput_obj, sput_size, av_cells, av_one, av_strip, av_still, binA, unA, eqbA, fillA, fldA, lensA, mmA, mm2, mmFold, List.getD_cons_zero, List.getD_cons_succ, List.getD_nil, List.length_cons, List.length_nil, List.drop_zero, List.drop_succ_cons, List.take_succ_cons, List.take_zero, List.map_cons, List.map_nil, List.set_cons_zero, List.set_cons_succ, List.all_cons, List.all_nil, List.getElem?_cons_zero, List.getElem?_cons_succ, List.nil_append, List.cons_append, ↓reduceIte, reduceCtorEq, Nat.reduceEqDiff, Nat.reduceAdd, Nat.reduceSub, Nat.reduceMul, Nat.reduceLeDiff, Nat.reduceLT, Nat.zero_add, Nat.add_zero, beq_self_eq_true, bt, bf, Bool.not_true, Bool.not_false, Bool.and_true, Bool.true_and, Bool.and_false, Bool.false_and, and_self, and_true, true_and, n0, n1, n2, n3, n4, m0, m1, m2, m3, c1, retA, resAs, resA, undefA, Option.map_some, Option.map_none]
          refine WT_callx [.ptr b 0, .int .i64 (fn + j : Nat)] (by simp only [g7, wseq, wreg, wdreg, wret, wskip, wexit, wblock, wcnd, cnd_t, cnd_f, then_n, then_x, then_r, catch_n, rnd_n, rnd_x, rnd_r, catch_x, catch_r, wo_nil, wo_grd, grdO_t, grdO_f, wo_ops, stpO, wr_nil, wr_alloc, wr_guards, grdR_t, grdR_f, wr_ops, stpR, evAllocs, evOp, env0_app, eput_some, eput_none, eset_app, Opd.ev, wantedA, faddrA, storeA, setAt, snew_obj, snew_size, sput_obj, sput_size, av_cells, av_one, av_strip, av_still, binA, unA, eqbA, fillA, fldA, lensA, mmA, mm2, mmFold, List.getD_cons_zero, List.getD_cons_succ, List.getD_nil, List.length_cons, List.length_nil, List.drop_zero, List.drop_succ_cons, List.take_succ_cons, List.take_zero, List.map_cons, List.map_nil, List.set_cons_zero, List.set_cons_succ, List.all_cons, List.all_nil, List.getElem?_cons_zero, List.getElem?_cons_succ, List.nil_append, List.cons_append, ↓reduceIte, reduceCtorEq, Nat.reduceEqDiff, Nat.reduceAdd, Nat.reduceSub, Nat.reduceMul, Nat.reduceLeDiff, Nat.reduceLT, Nat.zero_add, Nat.add_zero, beq_self_eq_true, bt, bf, Bool.not_true, Bool.not_false, Bool.and_true, Bool.true_and, Bool.and_false, Bool.false_and, and_self, and_true, true_and, n0, n1, n2, n3, n4, m0, m1, m2, m3, c1, retA, resAs, resA, undefA, Option.map_some, Option.map_none]) (hroot.mono ?_)
          rintro v S3 ⟨rfl, rfl⟩
          simp only [g0, g1, g7, g22, g23, g25, g137, g138, g139, g148, g149, hlq, ld2, ld4, hia, hla, wt_ops, stpT, wt_nil, Tr, chk1, hpb, hcb, wseq, wreg, wdreg, wret, wskip, wexit, wblock, wcnd, cnd_t, cnd_f, then_n, then_x, then_r, catch_n, rnd_n, rnd_x, rnd_r, catch_x, catch_r, wo_nil, wo_grd, grdO_t, grdO_f, wo_ops, stpO, wr_nil, wr_alloc, wr_guards, grdR_t, grdR_f, wr_ops, stpR, evAllocs, evOp, env0_app, eput_some, eput_none, eset_app, Opd.ev, wantedA, faddrA, storeA, setAt, snew_obj, snew_size, sput_obj, sput_size, av_cells, av_one, av_strip, av_still, binA, unA, eqbA, fillA, fldA, lensA, mmA, mm2, mmFold, List.getD_cons_zero, List.getD_cons_succ, List.getD_nil, List.length_cons, List.length_nil, List.drop_zero, List.drop_succ_cons, List.take_succ_cons, List.take_zero, List.map_cons, List.map_nil, List.set_cons_zero, List.set_cons_succ, List.all_cons, List.all_nil, List.getElem?_cons_zero, List.getElem?_cons_succ, List.nil_append, List.cons_append, ↓reduceIte, reduceCtorEq, Nat.reduceEqDiff, Nat.reduceAdd, Nat.reduceSub, Nat.reduceMul, Nat.reduceLeDiff, Nat.reduceLT, Nat.zero_add, Nat.add_zero, beq_self_eq_true, bt, bf, Bool.not_true, Bool.not_false, Bool.and_true, Bool.true_and, Bool.and_false, Bool.false_and, and_self, and_true, true_and, n0, n1, n2, n3, n4, m0, m1, m2, m3, c1, retA, resAs, resA, undefA, Option.map_some, Option.map_none]
          have hyr := hSol.rng y (List.mem_of_getElem? hy)
          have hmr : 0 ≤ (if y > 0 then y else 0) ∧ (if y > 0 then y else 0) ≤ 2 := by split <;> omega
          obtain ⟨pv', S4, ha, hG4, hs4, hlo, hcc, hone, hcel⟩ := hGp.app1 icP (if y > 0 then y else 0) (ys := [.int .i64 (if y > 0 then y else 0)]) (bytes := 8) rfl rfl rfl hzS' (by omega)
          have hob4 : S4.obj (S.size + 1) = some (.cells [.str d.name, pv]) := (hlo _ (by omega)).trans hob
          simp only [ha, g25, hob4, hone, hcel, hlq, ld2, ld4, hia, hla, wt_ops, stpT, wt_nil, Tr, chk1, hpb, hcb, wseq, wreg, wdreg, wret, wskip, wexit, wblock, wcnd, cnd_t, cnd_f, then_n, then_x, then_r, catch_n, rnd_n, rnd_x, rnd_r, catch_x, catch_r, wo_nil, wo_grd, grdO_t, grdO_f, wo_ops, stpO, wr_nil, wr_alloc, wr_guards, grdR_t, grdR_f, wr_ops, stpR, evAllocs, evOp, env0_app, eput_some, eput_none, eset_app, Opd.ev, wantedA, faddrA, storeA, setAt, snew_obj, snew_size, sput_obj, sput_size, av_cells, av_one, av_strip, av_still, binA, unA, eqbA, fillA, fldA, lensA, mmA, mm2, mmFold, List.getD_cons_zero, List.getD_cons_succ, List.getD_nil, List.length_cons, List.length_nil, List.drop_zero, List.drop_succ_cons, List.take_succ_cons, List.take_zero, List.map_cons, List.map_nil, List.set_cons_zero, List.set_cons_succ, List.all_cons, List.all_nil, List.getElem?_cons_zero, List.getElem?_cons_succ, List.nil_append, List.cons_append, ↓reduceIte, reduceCtorEq, Nat.reduceEqDiff, Nat.reduceAdd, Nat.reduceSub, Nat.reduceMul, Nat.reduceLeDiff, Nat.reduceLT, Nat.zero_add, Nat.add_zero, beq_self_eq_true, bt, bf, Bool.not_true, Bool.not_false, Bool.and_true, Bool.true_and, Bool.and_false, Bool.false_and, and_self, and_true, true_and, n0, n1, n2, n3, n4, m0, m1, m2, m3, c1, retA, resAs, resA, undefA, Option.map_some, Option.map_none]
          refine ⟨by simp, ?_⟩
          simp only [g0, g1, g7, g22, g23, g25, g137, g138, g139, g148, g149, hwj, wseq, wreg, wdreg, wret, wskip, wexit, wblock, wcnd, cnd_t, cnd_f, then_n, then_x, then_r, catch_n, rnd_n, rnd_x, rnd_r, catch_x, catch_r, wo_nil, wo_grd, grdO_t, grdO_f, wo_ops, stpO, wr_nil, wr_alloc, wr_guards, grdR_t, grdR_f, wr_ops, stpR, evAllocs, evOp, env0_app, eput_some, eput_none, eset_app, Opd.ev, wantedA, faddrA, loadA, storeA, setAt, rdCells, snew_obj, snew_size, sput_obj, sput_size, av_cells, av_one, av_strip, av_still, binA, unA, eqbA, fillA, fldA, lensA, mmA, mm2, mmFold, List.getD_cons_zero, List.getD_cons_succ, List.getD_nil, List.length_cons, List.length_nil, List.drop_zero, List.drop_succ_cons, List.take_succ_cons, List.take_zero, List.map_cons, List.map_nil, List.set_cons_zero, List.set_cons_succ, List.all_cons, List.all_nil, List.getElem?_cons_zero, List.getElem?_cons_succ, List.nil_append, List.cons_append, ↓reduceIte, reduceCtorEq, Nat.reduceEqDiff, Nat.reduceAdd, Nat.reduceSub, Nat.reduceMul, Nat.reduceLeDiff, Nat.reduceLT, Nat.zero_add, Nat.add_zero, beq_self_eq_true, bt, bf, Bool.not_true, Bool.not_false, Bool.and_true, Bool.true_and, Bool.and_false, Bool.false_and, and_self, and_true, true_and, n0, n1, n2, n3, n4, m0, m1, m2, m3, c1, retA, resAs, resA, undefA, Option.map_some, Option.map_none]
          refine ⟨k2 - 1, by omega, j + 1, _, _, by omega, rfl, rfl, hG4.put hob4 _, by simp [hpl], ?_, ?_, by omega⟩
          · intro x hx
            rcases List.mem_append.1 hx with hx | hx
            · exact hpr x hx
            · simp only [List.mem_singleton] at hx; subst hx; exact hmr
          · refine ⟨by have := hkS'.1; simp only [St.put]; omega, fun q hq => ?_⟩
            rw [put_ne (by omega), hlo q (by omega)]
            exact hkS'.2 q hq
        · have hlt2 : decide ((j : Int) < d.params) = false := by simp; omega
          have hstr := isl_strip hGp.i
          obtain ⟨ov', S4, ha, hG4, hs4, -, hcc, hone, hcel⟩ := (hG.of hkS').app1 kscP ⟨d.name, ps⟩ (ys := [.str d.name, .sl (ps.flatMap ic) ps.length false none]) (bytes := 40) rfl rfl rfl (Nat.zero_le _) (by omega)
          simp only [cf12_l0, g0, g1, g7, g22, g23, g25, g137, g138, g139, g148, g149, hlt2, hob, hstr, hwi, ha, hone, hcel, wseq, wreg, wdreg, wret, wskip, wexit, wblock, wcnd, cnd_t, cnd_f, then_n, then_x, then_r, catch_n, rnd_n, rnd_x, rnd_r, catch_x, catch_r, wo_nil, wo_grd, grdO_t, grdO_f, wo_ops, stpO, wr_nil, wr_alloc, wr_guards, grdR_t, grdR_f, wr_ops, stpR, evAllocs, evOp, env0_app, eput_some, eput_none, eset_app, Opd.ev, wantedA, faddrA, loadA, storeA, setAt, rdCells, snew_obj, snew_size, sput_obj, sput_size, av_cells, av_one, av_strip, av_still, binA, unA, eqbA, fillA, fldA, lensA, mmA, mm2, mmFold, List.getD_cons_zero, List.getD_cons_succ, List.getD_nil, List.length_cons, List.length_nil, List.drop_zero, List.drop_succ_cons, List.take_succ_cons, List.take_zero, List.map_cons, List.map_nil, List.set_cons_zero, List.set_cons_succ, List.all_cons, List.all_nil, List.getElem?_cons_zero, List.getElem?_cons_succ, List.nil_append, List.cons_append, ↓reduceIte, reduceCtorEq, Nat.reduceEqDiff, Nat.reduceAdd, Nat.reduceSub, Nat.reduceMul, Nat.reduceLeDiff, Nat.reduceLT, Nat.zero_add, Nat.add_zero, beq_self_eq_true, bt, bf, Bool.not_true, Bool.not_false, Bool.and_true, Bool.true_and, Bool.and_false, Bool.false_and, and_self, and_true, true_and, n0, n1, n2, n3, n4, m0, m1, m2, m3, c1, retA, resAs, resA, undefA, Option.map_some, Option.map_none]
          refine ⟨k - 1, by omega, i + 1, _, _, by omega, rfl, rfl, hG4, ?_, ?_, hI.to ((hI.sol.keep hkS').cells hs4 hcc) rfl⟩
          · rw [List.map_append, hnm, List.take_add_one, hdi, Option.toList_some, List.map_append]; rfl
          · intro o ho
            rcases List.mem_append.1 ho with ho | ho
            · exact hos o ho
            · simp only [List.mem_singleton] at ho; subst ho; exact ⟨(show ps.length ≤ 4096 by omega), hpr⟩
      · simp only [e0, e1, e7, e22, e137, e138, e139, wseq, wreg, wdreg, wret, wskip, wexit, wblock, wcnd, cnd_t, cnd_f, then_n, then_x, then_r, catch_n, rnd_n, rnd_x, rnd_r, catch_x, catch_r, wo_nil, wo_grd, grdO_t, grdO_f, wo_ops, stpO, wr_nil, wr_alloc, wr_guards, grdR_t, grdR_f, wr_ops, stpR, evAllocs, evOp, env0_app, eput_some, eput_none, eset_app, Opd.ev, wantedA, faddrA, loadA, storeA, setAt, rdCells, snew_obj, snew_size, sput_obj, sput_size, av_cells, av_one, av_strip, av_still, binA, unA, eqbA, fillA, fldA, lensA, mmA, mm2, mmFold, List.getD_cons_zero, List.getD_cons_succ, List.getD_nil, List.length_cons, List.length_nil, List.drop_zero, List.drop_succ_cons, List.take_succ_cons, List.take_zero, List.map_cons, List.map_nil, List.set_cons_zero, List.set_cons_succ, List.all_cons, List.all_nil, List.getElem?_cons_zero, List.getElem?_cons_succ, List.nil_append, List.cons_append, ↓reduceIte, reduceCtorEq, Nat.reduceEqDiff, Nat.reduceAdd, Nat.reduceSub, Nat.reduceMul, Nat.reduceLeDiff, Nat.reduceLT, Nat.zero_add, Nat.add_zero, beq_self_eq_true, bt, bf, Bool.not_true, Bool.not_false, Bool.and_true, Bool.true_and, Bool.and_false, Bool.false_and, and_self, and_true, true_and, n0, n1, n2, n3, n4, m0, m1, m2, m3, c1, retA, resAs, resA, undefA, Option.map_some, Option.map_none]
        exact ⟨rfl, ho2, Or.inl ⟨rfl, rfl⟩, by simp, hk2, by omega⟩
    · have hlt : decide ((i : Int) < (ds.length : Int)) = false := by simp; omega
      obtain rfl : i = ds.length := by omega
      rw [List.take_length] at hnm
      simp only [cf12_l1, e0, e1, e7, e22, e137, e138, e139, hlt, wseq, wreg, wdreg, wret, wskip, wexit, wblock, wcnd, cnd_t, cnd_f, then_n, then_x, then_r, catch_n, rnd_n, rnd_x, rnd_r, catch_x, catch_r, wo_nil, wo_grd, grdO_t, grdO_f, wo_ops, stpO, wr_nil, wr_alloc, wr_guards, grdR_t, grdR_f, wr_ops, stpR, evAllocs, evOp, env0_app, eput_some, eput_none, eset_app, Opd.ev, wantedA, faddrA, loadA, storeA, setAt, rdCells, snew_obj, snew_size, sput_obj, sput_size, av_cells, av_one, av_strip, av_still, binA, unA, eqbA, fillA, fldA, lensA, mmA, mm2, mmFold, List.getD_cons_zero, List.getD_cons_succ, List.getD_nil, List.length_cons, List.length_nil, List.drop_zero, List.drop_succ_cons, List.take_succ_cons, List.take_zero, List.map_cons, List.map_nil, List.set_cons_zero, List.set_cons_succ, List.all_cons, List.all_nil, List.getElem?_cons_zero, List.getElem?_cons_succ, List.nil_append, List.cons_append, ↓reduceIte, reduceCtorEq, Nat.reduceEqDiff, Nat.reduceAdd, Nat.reduceSub, Nat.reduceMul, Nat.reduceLeDiff, Nat.reduceLT, Nat.zero_add, Nat.add_zero, beq_self_eq_true, bt, bf, Bool.not_true, Bool.not_false, Bool.and_true, Bool.true_and, Bool.and_false, Bool.false_and, and_self, and_true, true_and, n0, n1, n2, n3, n4, m0, m1, m2, m3, c1, retA, resAs, resA, undefA, Option.map_some, Option.map_none]
      refine ⟨by simp, _, rfl, Or.inr ⟨ov, os, rfl, hG.i, ⟨by omega, ?_, fun o ho => (hos o ho).2, fun o ho => (hos o ho).1⟩, hnm⟩⟩
      intro j x hx y hy
      have hll : os.length = ds.length := by have := congrArg List.length hnm; simpa using this
      have hj := (List.getElem?_eq_some_iff.1 hx).1
      obtain ⟨d, hdj⟩ : ∃ d, ds[j]? = some d := ⟨_, List.getElem?_eq_getElem (by omega)⟩
      have hnx : x.name = d.name := by
        have := congrArg (fun l => l[j]?) hnm
        simp only [List.getElem?_map, hx, hdj, Option.map_some, Option.some.injEq] at this
        exact this
      have hny : y.name ∈ (ds.take j).map (·.name) := by
        rw [List.map_take, ← hnm, ← List.map_take]
        exact List.mem_map_of_mem hy
      obtain ⟨y', hy', hyn⟩ := List.mem_map.1 hny
      rw [hnx, ← hyn]
      exact hon j d hdj y' hy'
  · simp only [e0, e1, e7, wseq, wreg, wdreg, wret, wskip, wexit, wblock, wcnd, cnd_t, cnd_f, then_n, then_x, then_r, catch_n, rnd_n, rnd_x, rnd_r, catch_x, catch_r, wo_nil, wo_grd, grdO_t, grdO_f, wo_ops, stpO, wr_nil, wr_alloc, wr_guards, grdR_t, grdR_f, wr_ops, stpR, evAllocs, evOp, env0_app, eput_some, eput_none, eset_app, Opd.ev, wantedA, faddrA, loadA, storeA, setAt, rdCells, snew_obj, snew_size, sput_obj, sput_size, av_cells, av_one, av_strip, av_still, binA, unA, eqbA, fillA, fldA, lensA, mmA, mm2, mmFold, List.getD_cons_zero, List.getD_cons_succ, List.getD_nil, List.length_cons, List.length_nil, List.drop_zero, List.drop_succ_cons, List.take_succ_cons, List.take_zero, List.map_cons, List.map_nil, List.set_cons_zero, List.set_cons_succ, List.all_cons, List.all_nil, List.getElem?_cons_zero, List.getElem?_cons_succ, List.nil_append, List.cons_append, ↓reduceIte, reduceCtorEq, Nat.reduceEqDiff, Nat.reduceAdd, Nat.reduceSub, Nat.reduceMul, Nat.reduceLeDiff, Nat.reduceLT, Nat.zero_add, Nat.add_zero, beq_self_eq_true, bt, bf, Bool.not_true, Bool.not_false, Bool.and_true, Bool.true_and, Bool.and_false, Bool.false_and, and_self, and_true, true_and, n0, n1, n2, n3, n4, m0, m1, m2, m3, c1, retA, resAs, resA, undefA, Option.map_some, Option.map_none]
    exact ⟨rfl, Or.inr (Or.inl ⟨rfl, rfl⟩), by simp, hI⟩
end Go.Am.K1
