/- A part of the proof of fixityLevels. Conditions: none. -/
import Derived.Test.YtpeghecmojlcgaaAmX4
namespace Go.Am.R1
set_option maxRecDepth 100000
set_option linter.unusedSimpArgs false

section
variable {tb : List Fx} {its : List It}

theorem climb_total (ho : its.length % 2 = 1) : ∀ f, (∀ least outer k ns, k % 2 = 0 → k < its.length → 2 * (its.length - k) < f → ∃ r, climbF tb its f least outer k ns = some r ∧ r.at_ % 2 = 1) ∧
    (∀ least outer last left k ns, k % 2 = 1 → k ≤ its.length → 2 * (its.length - k) < f → ∃ r, loopF tb its f least outer last left k ns = some r ∧ r.at_ % 2 = 1)
  | 0 => ⟨by intros; omega, by intros; omega⟩
  | f + 1 => by
    obtain ⟨h1, h2⟩ := climb_total ho f
    refine ⟨?_, ?_⟩
    · intro least outer k ns hk hkl hf
      simp only [climbF, List.getElem?_eq_getElem hkl]
      exact h2 _ _ _ _ _ _ (by omega) (by omega) (by omega)
    · intro least outer last left k ns hk hkl hf
      simp only [loopF]
      by_cases hkl' : k < its.length
      · simp only [List.getElem?_eq_getElem hkl']
        generalize findF tb its[k].op = x
        split
        · exact ⟨_, rfl, hk⟩
        · split
          · exact ⟨_, rfl, hk⟩
          · obtain ⟨q, hq, hqo⟩ := h1 (if (x.side == 1) = true then x.level else x.level + 1) x (k + 1) ns (by omega) (by omega) (by omega)
            obtain ⟨z1, z2, z3, z4⟩ := (size_both f).1 _ _ _ _ _ hq
            rw [hq]
            simp only
            split
            · exact h2 _ _ _ _ _ _ hqo z3 (by omega)
            · exact ⟨_, rfl, hqo⟩
      · rw [List.getElem?_eq_none (by omega)]
        exact ⟨_, rfl, hk⟩
end

theorem checkL_lev : ∀ (l done : List Fx), checkL done l = 0 → ∀ x, x ∈ l → 0 ≤ x.level ∧ x.level ≤ 9
  | [], _, _, x, hx => by simp at hx
  | y :: l, done, h, x, hx => by
    rw [checkL] at h
    split at h
    · cases h
    · split at h
      · cases h
      · split at h
        · cases h
        · rename_i _ hb _
          simp only [Bool.or_eq_true, decide_eq_true_eq, not_or] at hb
          rcases List.mem_cons.1 hx with rfl | hx
          · omega
          · exact checkL_lev l _ h x hx

theorem check_lev {l : List Fx} (h : checkF l = 0) : Lev l ∧ l.length ≤ 4096 := by
  unfold checkF at h
  split at h
  · cases h
  · refine ⟨fun op => ?_, by omega⟩
    unfold findF
    cases hf : l.find? (fun x => x.op.toList == op.toList) with
    | none => simp
    | some x => exact checkL_lev l [] h x (List.mem_of_find?_eq_some hf)

def formL : Nat → List It → Bool
  | _, [] => true
  | i, x :: r => ((x.op.toList == (⟨#[]⟩ : ByteArray).toList) == (i % 2 == 0)) && formL (i + 1) r

def root : Fx := ⟨⟨#[]⟩, 0, -1⟩
def buildF (tb : List Fx) (its : List It) : List Nd × Int :=
  if checkF tb ≠ 0 then ([], checkF tb)
  else if its.length > 400 then ([], 2)
  else if its.length % 2 = 0 then ([], 3)
  else if formL 0 its = false then ([], 3)
  else match climbF tb its (2 * its.length + 1) 0 root 0 [] with
    | none => ([], 0)
    | some r => if r.e ≠ 0 then ([], r.e) else (r.ns, 0)

/-- A sequence of items, as an argument. -/
def ItemsAV (v : AV) (l : List It) : Prop := (v = .nils ∧ l = []) ∨ ItAV v l
theorem items_len {v : AV} {l : List It} (h : ItemsAV v l) : lenA v = some (.int .i64 l.length) := by
  rcases h with ⟨rfl, rfl⟩ | ⟨full, tok, rfl⟩ <;> rfl
theorem items_at {v : AV} {l : List It} (ht : ItemsAV v l) {i : Nat} {x : It} (hi : l[i]? = some x) : iaddrA 2 v (.int .i64 i) = some (.eptr (itc x ++ (l.drop (i + 1)).flatMap itc)) := by
  rcases ht with ⟨rfl, rfl⟩ | ⟨full, tok, rfl⟩
  · simp at hi
  · have := (List.getElem?_eq_some_iff.1 hi).1
    simp only [iaddrA]
    rw [if_pos (by omega), Int.toNat_natCast, flat_at itc_len hi]

theorem build_law (tv iv : AV) (tb : List Fx) (its : List It) (ht : TabAV tv tb) (hi : ItemsAV iv its) (hb : tb.length ≤ big) (hb2 : its.length ≤ big) (s : St) :
    WC T nx 18 [tv, iv] s (fun v s' => (∃ ov, v = .tup [ov, .int .i64 (buildF tb its).2] ∧ Out s' ov (buildF tb its).1) ∧ KeepA s s') := by
  refine WC_fn cf18 rfl T18 (by simp [cf18]) ?_
  have hlen := items_len hi
  simp only [cf18, wseq, wreg, wdreg, wret, wskip, wexit, wblock, wcnd, cnd_t, cnd_f, then_n, then_x, then_r, catch_n, rnd_n, rnd_x, rnd_r, catch_x, catch_r, wo_nil, wo_grd, grdO_t, grdO_f, wo_ops, stpO, wr_nil, wr_alloc, wr_guards, grdR_t, grdR_f, wr_ops, stpR, evAllocs, evOp, env0_app, eput_some, eput_none, eset_app, Opd.ev, wantedA, faddrA, loadA, storeA, setAt, rdCells, snew_obj, snew_size, sput_obj, sput_size, av_cells, av_one, av_strip, av_still, binA, unA, eqbA, fillA, fldA, lensA, idxaA, mmA, mm2, mmFold, List.getD_cons_zero, List.getD_cons_succ, List.getD_nil, List.length_cons, List.length_nil, List.drop_zero, List.drop_succ_cons, List.take_succ_cons, List.take_zero, List.map_cons, List.map_nil, List.set_cons_zero, List.set_cons_succ, List.all_cons, List.all_nil, List.getElem?_cons_zero, List.getElem?_cons_succ, List.nil_append, List.cons_append, ↓reduceIte, reduceCtorEq, Nat.reduceEqDiff, Nat.reduceAdd, Nat.reduceSub, Nat.reduceMul, Nat.reduceLeDiff, Nat.reduceLT, Nat.zero_add, Nat.add_zero, beq_self_eq_true, bt, bf, Bool.not_true, Bool.not_false, Bool.and_true, Bool.true_and, Bool.and_false, Bool.false_and, and_self, and_true, true_and, n0, n1, n2, n3, n4, m0, m1, m2, m3, c1, retA, resAs, resA, undefA, Option.map_some, Option.map_none]
  refine WO_callx [tv] (by simp only [wseq, wreg, wdreg, wret, wskip, wexit, wblock, wcnd, cnd_t, cnd_f, then_n, then_x, then_r, catch_n, rnd_n, rnd_x, rnd_r, catch_x, catch_r, wo_nil, wo_grd, grdO_t, grdO_f, wo_ops, stpO, wr_nil, wr_alloc, wr_guards, grdR_t, grdR_f, wr_ops, stpR, evAllocs, evOp, env0_app, eput_some, eput_none, eset_app, Opd.ev, wantedA, faddrA, loadA, storeA, setAt, rdCells, snew_obj, snew_size, sput_obj, sput_size, av_cells, av_one, av_strip, av_still, binA, unA, eqbA, fillA, fldA, lensA, idxaA, mmA, mm2, mmFold, List.getD_cons_zero, List.getD_cons_succ, List.getD_nil, List.length_cons, List.length_nil, List.drop_zero, List.drop_succ_cons, List.take_succ_cons, List.take_zero, List.map_cons, List.map_nil, List.set_cons_zero, List.set_cons_succ, List.all_cons, List.all_nil, List.getElem?_cons_zero, List.getElem?_cons_succ, List.nil_append, List.cons_append, ↓reduceIte, reduceCtorEq, Nat.reduceEqDiff, Nat.reduceAdd, Nat.reduceSub, Nat.reduceMul, Nat.reduceLeDiff, Nat.reduceLT, Nat.zero_add, Nat.add_zero, beq_self_eq_true, bt, bf, Bool.not_true, Bool.not_false, Bool.and_true, Bool.true_and, Bool.and_false, Bool.false_and, and_self, and_true, true_and, n0, n1, n2, n3, n4, m0, m1, m2, m3, c1, retA, resAs, resA, undefA, Option.map_some, Option.map_none]) ((check_law tv tb ht hb s).mono ?_)
  rintro v s1 ⟨rfl, hk1⟩
  have hka1 : KeepA s s1 := ⟨hk1.1, fun j cs hj ho => (hk1.2 j hj).trans ho⟩
  have hm2 : ∀ n : Nat, ((n : Int).tmod 2 == 0) = (n % 2 == 0) := by
    intro n
    rw [Int.tmod_eq_emod_of_nonneg (by omega)]
    cases h : (n % 2 == 0) <;> simp at h ⊢ <;> omega
  have h20 : (2 : Int) ≠ 0 := by decide
  cases hc : (checkF tb != 0)
  · have hc0 : checkF tb = 0 := by simpa using hc
    obtain ⟨hlev, htl⟩ := check_lev hc0
    have hbf : buildF tb its = (if its.length > 400 then ([], 2) else if its.length % 2 = 0 then ([], 3) else if formL 0 its = false then ([], 3)
        else match climbF tb its (2 * its.length + 1) 0 root 0 [] with | none => ([], 0) | some r => if r.e ≠ 0 then ([], r.e) else (r.ns, 0)) := by
      unfold buildF; rw [if_neg (by simp [hc0])]
    cases hl : decide ((its.length : Int) > 400)
    · have hl' : ¬ its.length > 400 := by simp at hl; omega
      rw [if_neg hl'] at hbf
      cases hm : (its.length % 2 == 0)
      · have hm' : its.length % 2 = 1 := by simp at hm; omega
        rw [if_neg (by omega)] at hbf
        simp only [hc, hl, hm, hlen, hm2, ne_eq, h20, not_false_eq_true, wseq, wreg, wdreg, wret, wskip, wexit, wblock, wcnd, cnd_t, cnd_f, then_n, then_x, then_r, catch_n, rnd_n, rnd_x, rnd_r, catch_x, catch_r, wo_nil, wo_grd, grdO_t, grdO_f, wo_ops, stpO, wr_nil, wr_alloc, wr_guards, grdR_t, grdR_f, wr_ops, stpR, evAllocs, evOp, env0_app, eput_some, eput_none, eset_app, Opd.ev, wantedA, faddrA, loadA, storeA, setAt, rdCells, snew_obj, snew_size, sput_obj, sput_size, av_cells, av_one, av_strip, av_still, binA, unA, eqbA, fillA, fldA, lensA, idxaA, mmA, mm2, mmFold, List.getD_cons_zero, List.getD_cons_succ, List.getD_nil, List.length_cons, List.length_nil, List.drop_zero, List.drop_succ_cons, List.take_succ_cons, List.take_zero, List.map_cons, List.map_nil, List.set_cons_zero, List.set_cons_succ, List.all_cons, List.all_nil, List.getElem?_cons_zero, List.getElem?_cons_succ, List.nil_append, List.cons_append, ↓reduceIte, reduceCtorEq, Nat.reduceEqDiff, Nat.reduceAdd, Nat.reduceSub, Nat.reduceMul, Nat.reduceLeDiff, Nat.reduceLT, Nat.zero_add, Nat.add_zero, beq_self_eq_true, bt, bf, Bool.not_true, Bool.not_false, Bool.and_true, Bool.true_and, Bool.and_false, Bool.false_and, and_self, and_true, true_and, n0, n1, n2, n3, n4, m0, m1, m2, m3, c1, retA, resAs, resA, undefA, Option.map_some, Option.map_none]
        refine W_loop_nat (fun k e s2 => ∃ i, i + k = its.length ∧ e 0 = tv ∧ e 1 = iv ∧ e 25 = iv ∧ e 26 = .int .i64 its.length ∧ e 27 = .int .i64 i ∧ formL 0 its = formL i (its.drop i) ∧ Keep s s2) ?_ its.length _ _ ⟨0, by simp, ?_⟩
        · rintro k e s2 ⟨i, hik, h0, h1, h25, h26, h27, hf, hk⟩
          by_cases hii : i < its.length
          · obtain ⟨x, hx⟩ : ∃ x, its[i]? = some x := ⟨_, List.getElem?_eq_getElem hii⟩
            have hd : decide ((i : Int) < (its.length : Int)) = true := by simp; omega
            rw [drop_at hx, formL] at hf
            simp only [cf18_l0, h0, h1, h25, h26, h27, hd, hm2, items_at hi hx, itc, ne_eq, h20, not_false_eq_true, Nat.le_add_left, wseq, wreg, wdreg, wret, wskip, wexit, wblock, wcnd, cnd_t, cnd_f, then_n, then_x, then_r, catch_n, rnd_n, rnd_x, rnd_r, catch_x, catch_r, wo_nil, wo_grd, grdO_t, grdO_f, wo_ops, stpO, wr_nil, wr_alloc, wr_guards, grdR_t, grdR_f, wr_ops, stpR, evAllocs, evOp, env0_app, eput_some, eput_none, eset_app, Opd.ev, wantedA, faddrA, loadA, storeA, setAt, rdCells, snew_obj, snew_size, sput_obj, sput_size, av_cells, av_one, av_strip, av_still, binA, unA, eqbA, fillA, fldA, lensA, idxaA, mmA, mm2, mmFold, List.getD_cons_zero, List.getD_cons_succ, List.getD_nil, List.length_cons, List.length_nil, List.drop_zero, List.drop_succ_cons, List.take_succ_cons, List.take_zero, List.map_cons, List.map_nil, List.set_cons_zero, List.set_cons_succ, List.all_cons, List.all_nil, List.getElem?_cons_zero, List.getElem?_cons_succ, List.nil_append, List.cons_append, ↓reduceIte, reduceCtorEq, Nat.reduceEqDiff, Nat.reduceAdd, Nat.reduceSub, Nat.reduceMul, Nat.reduceLeDiff, Nat.reduceLT, Nat.zero_add, Nat.add_zero, beq_self_eq_true, bt, bf, Bool.not_true, Bool.not_false, Bool.and_true, Bool.true_and, Bool.and_false, Bool.false_and, and_self, and_true, true_and, n0, n1, n2, n3, n4, m0, m1, m2, m3, c1, retA, resAs, resA, undefA, Option.map_some, Option.map_none]
            cases a0 : ((x.op.toList == (⟨#[]⟩ : ByteArray).toList) == (i % 2 == 0)) <;> simp only [h0, h1, h25, h26, h27, wrap_nat (Nat.le_trans (Nat.le_of_lt hii) hb2), wseq, wreg, wdreg, wret, wskip, wexit, wblock, wcnd, cnd_t, cnd_f, then_n, then_x, then_r, catch_n, rnd_n, rnd_x, rnd_r, catch_x, catch_r, wo_nil, wo_grd, grdO_t, grdO_f, wo_ops, stpO, wr_nil, wr_alloc, wr_guards, grdR_t, grdR_f, wr_ops, stpR, evAllocs, evOp, env0_app, eput_some, eput_none, eset_app, Opd.ev, wantedA, faddrA, loadA, storeA, setAt, rdCells, snew_obj, snew_size, sput_obj, sput_size, av_cells, av_one, av_strip, av_still, binA, unA, eqbA, fillA, fldA, lensA, idxaA, mmA, mm2, mmFold, List.getD_cons_zero, List.getD_cons_succ, List.getD_nil, List.length_cons, List.length_nil, List.drop_zero, List.drop_succ_cons, List.take_succ_cons, List.take_zero, List.map_cons, List.map_nil, List.set_cons_zero, List.set_cons_succ, List.all_cons, List.all_nil, List.getElem?_cons_zero, List.getElem?_cons_succ, List.nil_append, List.cons_append, ↓reduceIte, reduceCtorEq, Nat.reduceEqDiff, Nat.reduceAdd, Nat.reduceSub, Nat.reduceMul, Nat.reduceLeDiff, Nat.reduceLT, Nat.zero_add, Nat.add_zero, beq_self_eq_true, bt, bf, Bool.not_true, Bool.not_false, Bool.and_true, Bool.true_and, Bool.and_false, Bool.false_and, and_self, and_true, true_and, n0, n1, n2, n3, n4, m0, m1, m2, m3, c1, retA, resAs, resA, undefA, Option.map_some, Option.map_none]
            · rw [a0, Bool.false_and] at hf
              rw [if_pos hf] at hbf
              refine ⟨by simp, _, rfl, ⟨.nils, by rw [hbf], Or.inl ⟨rfl, by rw [hbf]⟩⟩, ?_⟩
              exact ⟨((hk.new' _).put' hk.1 _).1, fun j cs hj ho => (((hk.new' _).put' hk.1 _).2 j hj).trans ho⟩
            · exact ⟨k - 1, by omega, i + 1, by omega, rfl, by rw [hf, a0, Bool.true_and], (hk.new' _).put' hk.1 _⟩
          · have hd : decide ((i : Int) < (its.length : Int)) = false := by simp; omega
            have hft : formL 0 its = true := by rw [hf, List.drop_eq_nil_of_le (by omega)]; rfl
            rw [if_neg (by simp [hft])] at hbf
            obtain ⟨r, hr, hro⟩ := (climb_total (tb := tb) hm' (2 * its.length + 1)).1 0 root 0 [] (by omega) (by omega) (by omega)
            rw [hr] at hbf
            simp only at hbf
            have hia : ItAV iv its := by
              rcases hi with ⟨rfl, rfl⟩ | hi
              · simp at hm'
              · exact hi
            have hcl := (climb_both tv iv ht hia hlev hb (by omega) _).1 0 root 0 [] r s2.size (s2.new (.cells [tv, iv, .int .i64 (0 : Nat), .nils, .int .i64 0])) hr (by simp)
              ⟨.nils, new_eq rfl, Or.inl ⟨rfl, rfl⟩, by simp only [St.new]; omega⟩
            have htc : tv.cells = [tv] := by rcases ht with ⟨rfl, rfl⟩ | ⟨full, tok, rfl⟩ <;> rfl
            have hic : iv.cells = [iv] := by obtain ⟨full, tok, rfl⟩ := hia; rfl
            simp only [cf18_l0, h0, h1, h25, h26, h27, hd, htc, hic, wseq, wreg, wdreg, wret, wskip, wexit, wblock, wcnd, cnd_t, cnd_f, then_n, then_x, then_r, catch_n, rnd_n, rnd_x, rnd_r, catch_x, catch_r, wo_nil, wo_grd, grdO_t, grdO_f, wo_ops, stpO, wr_nil, wr_alloc, wr_guards, grdR_t, grdR_f, wr_ops, stpR, evAllocs, evOp, env0_app, eput_some, eput_none, eset_app, Opd.ev, wantedA, faddrA, loadA, storeA, setAt, rdCells, snew_obj, snew_size, sput_obj, sput_size, av_cells, av_one, av_strip, av_still, binA, unA, eqbA, fillA, fldA, lensA, idxaA, mmA, mm2, mmFold, List.getD_cons_zero, List.getD_cons_succ, List.getD_nil, List.length_cons, List.length_nil, List.drop_zero, List.drop_succ_cons, List.take_succ_cons, List.take_zero, List.map_cons, List.map_nil, List.set_cons_zero, List.set_cons_succ, List.all_cons, List.all_nil, List.getElem?_cons_zero, List.getElem?_cons_succ, List.nil_append, List.cons_append, ↓reduceIte, reduceCtorEq, Nat.reduceEqDiff, Nat.reduceAdd, Nat.reduceSub, Nat.reduceMul, Nat.reduceLeDiff, Nat.reduceLT, Nat.zero_add, Nat.add_zero, beq_self_eq_true, bt, bf, Bool.not_true, Bool.not_false, Bool.and_true, Bool.true_and, Bool.and_false, Bool.false_and, and_self, and_true, true_and, n0, n1, n2, n3, n4, m0, m1, m2, m3, c1, retA, resAs, resA, undefA, Option.map_some, Option.map_none]
            refine WO_callx [.ptr s2.size 0, .int .i64 0, .agg (fxc root)] (by simp only [fxc, root, wseq, wreg, wdreg, wret, wskip, wexit, wblock, wcnd, cnd_t, cnd_f, then_n, then_x, then_r, catch_n, rnd_n, rnd_x, rnd_r, catch_x, catch_r, wo_nil, wo_grd, grdO_t, grdO_f, wo_ops, stpO, wr_nil, wr_alloc, wr_guards, grdR_t, grdR_f, wr_ops, stpR, evAllocs, evOp, env0_app, eput_some, eput_none, eset_app, Opd.ev, wantedA, faddrA, loadA, storeA, setAt, rdCells, snew_obj, snew_size, sput_obj, sput_size, av_cells, av_one, av_strip, av_still, binA, unA, eqbA, fillA, fldA, lensA, idxaA, mmA, mm2, mmFold, List.getD_cons_zero, List.getD_cons_succ, List.getD_nil, List.length_cons, List.length_nil, List.drop_zero, List.drop_succ_cons, List.take_succ_cons, List.take_zero, List.map_cons, List.map_nil, List.set_cons_zero, List.set_cons_succ, List.all_cons, List.all_nil, List.getElem?_cons_zero, List.getElem?_cons_succ, List.nil_append, List.cons_append, ↓reduceIte, reduceCtorEq, Nat.reduceEqDiff, Nat.reduceAdd, Nat.reduceSub, Nat.reduceMul, Nat.reduceLeDiff, Nat.reduceLT, Nat.zero_add, Nat.add_zero, beq_self_eq_true, bt, bf, Bool.not_true, Bool.not_false, Bool.and_true, Bool.true_and, Bool.and_false, Bool.false_and, and_self, and_true, true_and, n0, n1, n2, n3, n4, m0, m1, m2, m3, c1, retA, resAs, resA, undefA, Option.map_some, Option.map_none]) (hcl.mono ?_)
            rintro v s3 ⟨rfl, hk3, ov3, hob3, hov3, hb3⟩
            have hka : KeepA s s3 := by
              refine ⟨?_, fun j cs hj ho => ?_⟩
              · have := hk.1; have := hk3.1; simp only [St.new] at this; omega
              · have := hk.1
                refine hk3.2 j cs (by simp only [St.new]; omega) (by omega) ?_
                rw [new_ne (by omega)]
                exact (hk.2 j hj).trans ho
            have hcd : (ov3 : AV) = ov3 := rfl
            cases hre : (r.e != 0)
            · have hr0 : r.e = 0 := by simpa using hre
              rw [if_neg (by simp [hr0])] at hbf
              simp only [h0, h1, h25, h26, h27, hob3, hre, wseq, wreg, wdreg, wret, wskip, wexit, wblock, wcnd, cnd_t, cnd_f, then_n, then_x, then_r, catch_n, rnd_n, rnd_x, rnd_r, catch_x, catch_r, wo_nil, wo_grd, grdO_t, grdO_f, wo_ops, stpO, wr_nil, wr_alloc, wr_guards, grdR_t, grdR_f, wr_ops, stpR, evAllocs, evOp, env0_app, eput_some, eput_none, eset_app, Opd.ev, wantedA, faddrA, loadA, storeA, setAt, rdCells, snew_obj, snew_size, sput_obj, sput_size, av_cells, av_one, av_strip, av_still, binA, unA, eqbA, fillA, fldA, lensA, idxaA, mmA, mm2, mmFold, List.getD_cons_zero, List.getD_cons_succ, List.getD_nil, List.length_cons, List.length_nil, List.drop_zero, List.drop_succ_cons, List.take_succ_cons, List.take_zero, List.map_cons, List.map_nil, List.set_cons_zero, List.set_cons_succ, List.all_cons, List.all_nil, List.getElem?_cons_zero, List.getElem?_cons_succ, List.nil_append, List.cons_append, ↓reduceIte, reduceCtorEq, Nat.reduceEqDiff, Nat.reduceAdd, Nat.reduceSub, Nat.reduceMul, Nat.reduceLeDiff, Nat.reduceLT, Nat.zero_add, Nat.add_zero, beq_self_eq_true, bt, bf, Bool.not_true, Bool.not_false, Bool.and_true, Bool.true_and, Bool.and_false, Bool.false_and, and_self, and_true, true_and, n0, n1, n2, n3, n4, m0, m1, m2, m3, c1, retA, resAs, resA, undefA, Option.map_some, Option.map_none]
              exact ⟨by simp, _, rfl, ⟨ov3, by rw [hbf], by rw [hbf]; exact hov3⟩, hka⟩
            · have hr0 : r.e ≠ 0 := by simpa using hre
              rw [if_pos hr0] at hbf
              simp only [h0, h1, h25, h26, h27, hob3, hre, wseq, wreg, wdreg, wret, wskip, wexit, wblock, wcnd, cnd_t, cnd_f, then_n, then_x, then_r, catch_n, rnd_n, rnd_x, rnd_r, catch_x, catch_r, wo_nil, wo_grd, grdO_t, grdO_f, wo_ops, stpO, wr_nil, wr_alloc, wr_guards, grdR_t, grdR_f, wr_ops, stpR, evAllocs, evOp, env0_app, eput_some, eput_none, eset_app, Opd.ev, wantedA, faddrA, loadA, storeA, setAt, rdCells, snew_obj, snew_size, sput_obj, sput_size, av_cells, av_one, av_strip, av_still, binA, unA, eqbA, fillA, fldA, lensA, idxaA, mmA, mm2, mmFold, List.getD_cons_zero, List.getD_cons_succ, List.getD_nil, List.length_cons, List.length_nil, List.drop_zero, List.drop_succ_cons, List.take_succ_cons, List.take_zero, List.map_cons, List.map_nil, List.set_cons_zero, List.set_cons_succ, List.all_cons, List.all_nil, List.getElem?_cons_zero, List.getElem?_cons_succ, List.nil_append, List.cons_append, ↓reduceIte, reduceCtorEq, Nat.reduceEqDiff, Nat.reduceAdd, Nat.reduceSub, Nat.reduceMul, Nat.reduceLeDiff, Nat.reduceLT, Nat.zero_add, Nat.add_zero, beq_self_eq_true, bt, bf, Bool.not_true, Bool.not_false, Bool.and_true, Bool.true_and, Bool.and_false, Bool.false_and, and_self, and_true, true_and, n0, n1, n2, n3, n4, m0, m1, m2, m3, c1, retA, resAs, resA, undefA, Option.map_some, Option.map_none]
              exact ⟨by simp, _, rfl, ⟨.nils, by rw [hbf], Or.inl ⟨rfl, by rw [hbf]⟩⟩, hka⟩
        · simp only [wseq, wreg, wdreg, wret, wskip, wexit, wblock, wcnd, cnd_t, cnd_f, then_n, then_x, then_r, catch_n, rnd_n, rnd_x, rnd_r, catch_x, catch_r, wo_nil, wo_grd, grdO_t, grdO_f, wo_ops, stpO, wr_nil, wr_alloc, wr_guards, grdR_t, grdR_f, wr_ops, stpR, evAllocs, evOp, env0_app, eput_some, eput_none, eset_app, Opd.ev, wantedA, faddrA, loadA, storeA, setAt, rdCells, snew_obj, snew_size, sput_obj, sput_size, av_cells, av_one, av_strip, av_still, binA, unA, eqbA, fillA, fldA, lensA, idxaA, mmA, mm2, mmFold, List.getD_cons_zero, List.getD_cons_succ, List.getD_nil, List.length_cons, List.length_nil, List.drop_zero, List.drop_succ_cons, List.take_succ_cons, List.take_zero, List.map_cons, List.map_nil, List.set_cons_zero, List.set_cons_succ, List.all_cons, List.all_nil, List.getElem?_cons_zero, List.getElem?_cons_succ, List.nil_append, List.cons_append, ↓reduceIte, reduceCtorEq, Nat.reduceEqDiff, Nat.reduceAdd, Nat.reduceSub, Nat.reduceMul, Nat.reduceLeDiff, Nat.reduceLT, Nat.zero_add, Nat.add_zero, beq_self_eq_true, bt, bf, Bool.not_true, Bool.not_false, Bool.and_true, Bool.true_and, Bool.and_false, Bool.false_and, and_self, and_true, true_and, n0, n1, n2, n3, n4, m0, m1, m2, m3, c1, retA, resAs, resA, undefA, Option.map_some, Option.map_none]
          exact ⟨rfl, hk1⟩
      · rw [if_pos (by simpa using hm)] at hbf
        simp only [hc, hl, hm, hlen, hm2, ne_eq, h20, not_false_eq_true, wseq, wreg, wdreg, wret, wskip, wexit, wblock, wcnd, cnd_t, cnd_f, then_n, then_x, then_r, catch_n, rnd_n, rnd_x, rnd_r, catch_x, catch_r, wo_nil, wo_grd, grdO_t, grdO_f, wo_ops, stpO, wr_nil, wr_alloc, wr_guards, grdR_t, grdR_f, wr_ops, stpR, evAllocs, evOp, env0_app, eput_some, eput_none, eset_app, Opd.ev, wantedA, faddrA, loadA, storeA, setAt, rdCells, snew_obj, snew_size, sput_obj, sput_size, av_cells, av_one, av_strip, av_still, binA, unA, eqbA, fillA, fldA, lensA, idxaA, mmA, mm2, mmFold, List.getD_cons_zero, List.getD_cons_succ, List.getD_nil, List.length_cons, List.length_nil, List.drop_zero, List.drop_succ_cons, List.take_succ_cons, List.take_zero, List.map_cons, List.map_nil, List.set_cons_zero, List.set_cons_succ, List.all_cons, List.all_nil, List.getElem?_cons_zero, List.getElem?_cons_succ, List.nil_append, List.cons_append, ↓reduceIte, reduceCtorEq, Nat.reduceEqDiff, Nat.reduceAdd, Nat.reduceSub, Nat.reduceMul, Nat.reduceLeDiff, Nat.reduceLT, Nat.zero_add, Nat.add_zero, beq_self_eq_true, bt, bf, Bool.not_true, Bool.not_false, Bool.and_true, Bool.true_and, Bool.and_false, Bool.false_and, and_self, and_true, true_and, n0, n1, n2, n3, n4, m0, m1, m2, m3, c1, retA, resAs, resA, undefA, Option.map_some, Option.map_none]
        exact ⟨by simp, _, rfl, ⟨.nils, by rw [hbf], Or.inl ⟨rfl, by rw [hbf]⟩⟩, hka1⟩
    · rw [if_pos (by simp at hl; omega)] at hbf
      simp only [hc, hl, hlen, wseq, wreg, wdreg, wret, wskip, wexit, wblock, wcnd, cnd_t, cnd_f, then_n, then_x, then_r, catch_n, rnd_n, rnd_x, rnd_r, catch_x, catch_r, wo_nil, wo_grd, grdO_t, grdO_f, wo_ops, stpO, wr_nil, wr_alloc, wr_guards, grdR_t, grdR_f, wr_ops, stpR, evAllocs, evOp, env0_app, eput_some, eput_none, eset_app, Opd.ev, wantedA, faddrA, loadA, storeA, setAt, rdCells, snew_obj, snew_size, sput_obj, sput_size, av_cells, av_one, av_strip, av_still, binA, unA, eqbA, fillA, fldA, lensA, idxaA, mmA, mm2, mmFold, List.getD_cons_zero, List.getD_cons_succ, List.getD_nil, List.length_cons, List.length_nil, List.drop_zero, List.drop_succ_cons, List.take_succ_cons, List.take_zero, List.map_cons, List.map_nil, List.set_cons_zero, List.set_cons_succ, List.all_cons, List.all_nil, List.getElem?_cons_zero, List.getElem?_cons_succ, List.nil_append, List.cons_append, ↓reduceIte, reduceCtorEq, Nat.reduceEqDiff, Nat.reduceAdd, Nat.reduceSub, Nat.reduceMul, Nat.reduceLeDiff, Nat.reduceLT, Nat.zero_add, Nat.add_zero, beq_self_eq_true, bt, bf, Bool.not_true, Bool.not_false, Bool.and_true, Bool.true_and, Bool.and_false, Bool.false_and, and_self, and_true, true_and, n0, n1, n2, n3, n4, m0, m1, m2, m3, c1, retA, resAs, resA, undefA, Option.map_some, Option.map_none]
      exact ⟨by simp, _, rfl, ⟨.nils, by rw [hbf], Or.inl ⟨rfl, by rw [hbf]⟩⟩, hka1⟩
  · have hc0 : checkF tb ≠ 0 := by simpa using hc
    simp only [hc, hlen, wseq, wreg, wdreg, wret, wskip, wexit, wblock, wcnd, cnd_t, cnd_f, then_n, then_x, then_r, catch_n, rnd_n, rnd_x, rnd_r, catch_x, catch_r, wo_nil, wo_grd, grdO_t, grdO_f, wo_ops, stpO, wr_nil, wr_alloc, wr_guards, grdR_t, grdR_f, wr_ops, stpR, evAllocs, evOp, env0_app, eput_some, eput_none, eset_app, Opd.ev, wantedA, faddrA, loadA, storeA, setAt, rdCells, snew_obj, snew_size, sput_obj, sput_size, av_cells, av_one, av_strip, av_still, binA, unA, eqbA, fillA, fldA, lensA, idxaA, mmA, mm2, mmFold, List.getD_cons_zero, List.getD_cons_succ, List.getD_nil, List.length_cons, List.length_nil, List.drop_zero, List.drop_succ_cons, List.take_succ_cons, List.take_zero, List.map_cons, List.map_nil, List.set_cons_zero, List.set_cons_succ, List.all_cons, List.all_nil, List.getElem?_cons_zero, List.getElem?_cons_succ, List.nil_append, List.cons_append, ↓reduceIte, reduceCtorEq, Nat.reduceEqDiff, Nat.reduceAdd, Nat.reduceSub, Nat.reduceMul, Nat.reduceLeDiff, Nat.reduceLT, Nat.zero_add, Nat.add_zero, beq_self_eq_true, bt, bf, Bool.not_true, Bool.not_false, Bool.and_true, Bool.true_and, Bool.and_false, Bool.false_and, and_self, and_true, true_and, n0, n1, n2, n3, n4, m0, m1, m2, m3, c1, retA, resAs, resA, undefA, Option.map_some, Option.map_none]
    have hbf : buildF tb its = ([], checkF tb) := by unfold buildF; rw [if_pos hc0]
    exact ⟨by simp, _, rfl, ⟨.nils, by rw [hbf], Or.inl ⟨rfl, by rw [hbf]⟩⟩, hka1⟩
end Go.Am.R1
