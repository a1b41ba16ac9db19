/- A slot appended. Conditions: none. -/
import Derived.Test.YtjhbakfgoaeeoaaDoorAmKc
namespace Go.Am.K1
set_option maxRecDepth 100000
set_option linter.unusedSimpArgs false

theorem arr_beq {s : St} {v : AV} {l : List Int} (h : Arr s v l) : AV.beq v v = true := by
  rcases h with ⟨rfl, _⟩ | ⟨rfl, _⟩ | ⟨p, rfl, _⟩ <;> simp [AV.beq, AV.beqs]

theorem slot_law {b : Nat} {kv dv fv uv cv : AV} {up : List Nat} {kd : List Int} (s : St) (h : Sol s b kv dv fv uv cv up kd) (x : Int) (hx : -1 ≤ x ∧ x ≤ 2) (hb : (up.length + 1) * 8 ≤ 140737488355328) :
    WC T nx 41 [.ptr b 0, .int .i64 x] s (fun v s' => v = .int .i64 up.length ∧ ∃ uv' cv', Sol s' b kv dv fv uv' cv' (up ++ [up.length]) (kd ++ [x]) ∧ KeepS b uv cv s s' ∧ freshO s.size uv' ∧ freshO s.size cv') := by
  refine WC_fn cf41 rfl T41 (by simp [cf41]) ?_
  obtain ⟨-, -, -, hl3, hl4⟩ := h.load
  have hlu : (ups up).length = up.length := by rw [ups, List.length_map]
  obtain ⟨uv', s1, ha1, hM1, hf1, hs1, hc1, ho1, hk1⟩ := h.upa.app1 icP (up.length : Int) (bytes := 8) (by rw [hlu]; exact hb)
  have hkda1 : Arr s1 cv kd := h.kda.of (fun p hp hlt => hk1 p hlt (h.ap.symm _ _ _ _ hp)) (Nat.le_of_lt hs1)
  obtain ⟨cv', s2, ha2, hM2, hf2, hs2, hc2, ho2, hk2⟩ := hkda1.app1 icP x (bytes := 8) (by rw [h.len]; exact hb)
  have hob1 : s1.obj b = some (.cells [kv, dv, fv, uv, cv]) := (hk1 b h.lt h.nbu).trans h.obj
  have hob2 : s2.obj b = some (.cells [kv, dv, fv, uv, cv]) := (hk2 b (Nat.lt_trans h.lt hs1) h.nbc).trans hob1
  have hl31 : loadA s1 false 1 (.ptr b 3) = some uv ∧ loadA s1 false 1 (.ptr b 4) = some cv := by simp [loadA, rdCells, hob1]
  have hlen := h.upa.len
  rw [hlu] at hlen
  have hbq := arr_beq h.kda
  simp only [ic] at ha1 ha2
  simp only [cf41, wseq, wreg, wdreg, wret, wskip, wexit, wblock, wcnd, cnd_t, cnd_f, then_n, then_x, then_r, catch_n, rnd_n, rnd_x, rnd_r, catch_x, catch_r, wo_nil, wo_grd, grdO_t, grdO_f, wo_ops, stpO, wr_nil, wr_alloc, wr_guards, grdR_t, grdR_f, wr_ops, stpR, evAllocs, evOp, env0_app, eput_some, eput_none, eset_app, Opd.ev, wantedA, faddrA, storeA, setAt, snew_obj, snew_size, sput_obj, sput_size, av_cells, av_one, av_strip, av_still, binA, unA, eqbA, fillA, fldA, lensA, mmA, mm2, mmFold, List.getD_cons_zero, List.getD_cons_succ, List.getD_nil, List.length_cons, List.length_nil, List.drop_zero, List.drop_succ_cons, List.take_succ_cons, List.take_zero, List.map_cons, List.map_nil, List.set_cons_zero, List.set_cons_succ, List.all_cons, List.all_nil, List.getElem?_cons_zero, List.getElem?_cons_succ, List.nil_append, List.cons_append, ↓reduceIte, reduceCtorEq, Nat.reduceEqDiff, Nat.reduceAdd, Nat.reduceSub, Nat.reduceMul, Nat.reduceLeDiff, Nat.reduceLT, Nat.zero_add, Nat.add_zero, beq_self_eq_true, bt, bf, Bool.not_true, Bool.not_false, Bool.and_true, Bool.true_and, Bool.and_false, Bool.false_and, and_self, and_true, true_and, n0, n1, n2, n3, n4, m0, m1, m2, m3, c1, retA, resAs, resA, undefA, Option.map_some, Option.map_none]
  refine W_dreg ?_
  simp only [hl3, hlen, ha1, hl31.1, hl31.2, ha2, hob2, hc1, hc2, ho1, ho2, wt_ops, stpT, wt_nil, Tr, chk1, hl4, hbq, wseq, wreg, wdreg, wret, wskip, wexit, wblock, wcnd, cnd_t, cnd_f, then_n, then_x, then_r, catch_n, rnd_n, rnd_x, rnd_r, catch_x, catch_r, wo_nil, wo_grd, grdO_t, grdO_f, wo_ops, stpO, wr_nil, wr_alloc, wr_guards, grdR_t, grdR_f, wr_ops, stpR, evAllocs, evOp, env0_app, eput_some, eput_none, eset_app, Opd.ev, wantedA, faddrA, storeA, setAt, snew_obj, snew_size, sput_obj, sput_size, av_cells, av_one, av_strip, av_still, binA, unA, eqbA, fillA, fldA, lensA, mmA, mm2, mmFold, List.getD_cons_zero, List.getD_cons_succ, List.getD_nil, List.length_cons, List.length_nil, List.drop_zero, List.drop_succ_cons, List.take_succ_cons, List.take_zero, List.map_cons, List.map_nil, List.set_cons_zero, List.set_cons_succ, List.all_cons, List.all_nil, List.getElem?_cons_zero, List.getElem?_cons_succ, List.nil_append, List.cons_append, ↓reduceIte, reduceCtorEq, Nat.reduceEqDiff, Nat.reduceAdd, Nat.reduceSub, Nat.reduceMul, Nat.reduceLeDiff, Nat.reduceLT, Nat.zero_add, Nat.add_zero, beq_self_eq_true, bt, bf, Bool.not_true, Bool.not_false, Bool.and_true, Bool.true_and, Bool.and_false, Bool.false_and, and_self, and_true, true_and, n0, n1, n2, n3, n4, m0, m1, m2, m3, c1, retA, resAs, resA, undefA, Option.map_some, Option.map_none]
  have hbu' : notO uv' b := hf1.ne h.lt
  have hbc' : notO cv' b := hf2.ne (Nat.lt_trans h.lt hs1)
  have hM1' : Arr s2 uv' (ups up ++ [(up.length : Int)]) := hM1.of (fun p hp hlt => hk2 p hlt (fun o l z hcv => by
    rcases hkda1 with ⟨h1, _⟩ | ⟨h1, _⟩ | ⟨q, h1, h2, h3⟩
    · rw [h1] at hcv; cases hcv
    · rw [h1] at hcv; cases hcv
    · rw [h1] at hcv; cases hcv
      have hp' := hf1 _ _ _ _ hp
      rcases h.kda with ⟨g1, _⟩ | ⟨g1, _⟩ | ⟨q', g1, g2, g3⟩
      · rw [g1] at h1; cases h1
      · rw [g1] at h1; cases h1
      · rw [g1] at h1; cases h1; omega)) (Nat.le_of_lt hs2)
  have hlu' : lenA uv' = some (.int .i64 (up.length + 1 : Nat)) := by rw [hM1.len, List.length_append, hlu]; rfl
  have hw : IntKind.i64.wrap (((up.length + 1 : Nat) : Int) - 1) = (up.length : Int) := by rw [IntKind.wrap_i64]; omega
  refine ⟨by simp, ?_⟩
  simp only [hlu', hw, wseq, wreg, wdreg, wret, wskip, wexit, wblock, wcnd, cnd_t, cnd_f, then_n, then_x, then_r, catch_n, rnd_n, rnd_x, rnd_r, catch_x, catch_r, wo_nil, wo_grd, grdO_t, grdO_f, wo_ops, stpO, wr_nil, wr_alloc, wr_guards, grdR_t, grdR_f, wr_ops, stpR, evAllocs, evOp, env0_app, eput_some, eput_none, eset_app, Opd.ev, wantedA, faddrA, loadA, storeA, setAt, rdCells, snew_obj, snew_size, sput_obj, sput_size, av_cells, av_one, av_strip, av_still, binA, unA, eqbA, fillA, fldA, lensA, mmA, mm2, mmFold, List.getD_cons_zero, List.getD_cons_succ, List.getD_nil, List.length_cons, List.length_nil, List.drop_zero, List.drop_succ_cons, List.take_succ_cons, List.take_zero, List.map_cons, List.map_nil, List.set_cons_zero, List.set_cons_succ, List.all_cons, List.all_nil, List.getElem?_cons_zero, List.getElem?_cons_succ, List.nil_append, List.cons_append, ↓reduceIte, reduceCtorEq, Nat.reduceEqDiff, Nat.reduceAdd, Nat.reduceSub, Nat.reduceMul, Nat.reduceLeDiff, Nat.reduceLT, Nat.zero_add, Nat.add_zero, beq_self_eq_true, bt, bf, Bool.not_true, Bool.not_false, Bool.and_true, Bool.true_and, Bool.and_false, Bool.false_and, and_self, and_true, true_and, n0, n1, n2, n3, n4, m0, m1, m2, m3, c1, retA, resAs, resA, undefA, Option.map_some, Option.map_none]
  have hups : ups (up ++ [up.length]) = ups up ++ [(up.length : Int)] := by rw [ups, List.map_append]; rfl
  refine ⟨by simp, _, rfl, rfl, uv', cv', ⟨put_eq, ?_, ?_, ?_, by simp [h.len], h.uf.new, ?_, hbu', hbc', ?_⟩, ⟨?_, ?_⟩, hf1, hf2.le (Nat.le_of_lt hs1)⟩
  · have := h.lt; simp only [St.put]; omega
  · rw [hups]
    exact hM1'.of (fun p hp _ => by rw [put_ne (by rintro rfl; exact hbu' _ _ _ hp), put_ne (by rintro rfl; exact hbu' _ _ _ hp)]) (Nat.le_refl _)
  · exact hM2.of (fun p hp _ => by rw [put_ne (by rintro rfl; exact hbc' _ _ _ hp), put_ne (by rintro rfl; exact hbc' _ _ _ hp)]) (Nat.le_refl _)
  · intro z hz
    rcases List.mem_append.1 hz with hz | hz
    · exact h.rng z hz
    · simp only [List.mem_singleton] at hz; subst hz; exact hx
  · intro p o l z hp
    exact hf2.ne (by
      rcases hM1 with ⟨g1, _⟩ | ⟨g1, _⟩ | ⟨q, g1, _, g3⟩
      · rw [g1] at hp; cases hp
      · rw [g1] at hp; cases hp
      · rw [g1] at hp; cases hp; exact g3)
  · simp only [St.put]; omega
  · intro j hj hjb hju hjc
    rw [put_ne hjb, put_ne hjb, hk2 j (by omega) hjc, hk1 j hj hju]
end Go.Am.K1
