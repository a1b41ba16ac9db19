/- The slots of a type's parameters. Conditions: none. -/
import Derived.Test.YtjhbakfgoaeeoaaDoorAmKh
namespace Go.Am.K1
set_option maxRecDepth 100000
set_option linter.unusedSimpArgs false

/-- A slice that grows. -/
def GSl {α : Type} (f : α → List AV) (N : Nat) (s : St) (v : AV) (l : List α) : Prop := (v = .nils ∧ l = []) ∨ (v = .sl [] 0 true none ∧ l = []) ∨ RSl f N s v l
theorem GSl.i {α : Type} {f : α → List AV} {N : Nat} {s : St} {v : AV} {l : List α} (h : GSl f N s v l) : ISl f v l := by
  rcases h with ⟨rfl, rfl⟩ | ⟨rfl, rfl⟩ | h
  · exact Or.inl ⟨rfl, rfl⟩
  · exact Or.inr ⟨_, _, rfl⟩
  · exact h.i
theorem GSl.of {α : Type} {f : α → List AV} {N : Nat} {s s' : St} {v : AV} {l : List α} (h : GSl f N s v l) (hk : Keep s s') : GSl f N s' v l := by
  rcases h with h | h | h
  · exact Or.inl h
  · exact Or.inr (Or.inl h)
  · exact Or.inr (Or.inr (h.of (Nat.le_refl _) (fun p _ hp _ => hk.2 p hp) hk.1))

theorem GSl.app1 {α : Type} {f : α → List AV} {z : Nat} (hP : Plain f z) {N : Nat} {s : St} {v : AV} {l : List α} (h : GSl f N s v l) (x : α) {ys : List AV} (hy : ys.length = z) (hst : ys.all AV.still = true) (hstr : ys.map AV.strip = f x) (hN : N ≤ s.size) {bytes : Nat} (hb : (l.length + 1) * bytes ≤ 140737488355328) :
    ∃ v' s1, appendA s false z bytes v (.sl ys 1 true none) = some (v', s1) ∧ GSl f N s1 v' (l ++ [x]) ∧ s.size ≤ s1.size ∧ (∀ j, j < N → s1.obj j = s.obj j) ∧ (∀ j cs, j < s.size → s.obj j = some (.cells cs) → s1.obj j = some (.cells cs)) ∧ v'.one = true ∧ v'.cells = [v'] := by
  have hc : contents s z (.sl ys 1 true none) = some (1, ys) := by simp only [contents]; rw [if_pos (by rw [hy]; omega)]
  have hst' : ∀ a, a ∈ ys → a.still = true := by simpa using hst
  rcases h with ⟨rfl, rfl⟩ | ⟨rfl, rfl⟩ | ⟨h0, full, tok, rfl, h⟩
  · refine ⟨.sl (f x) 1 false (some s.size), s.new .right, ?_, Or.inr (Or.inr ⟨by simp, false, some s.size, by simp, Or.inr ⟨s.size, rfl, new_eq rfl, hN, by simp [St.new]⟩⟩), by simp [St.new], fun j hj => new_ne (by omega), fun j cs hj ho => by rw [new_ne (by omega)]; exact ho, rfl, rfl⟩
    simp only [appendA, hc, freshA]
    rw [if_neg (by omega), if_pos (by simpa using hb), if_neg (by simp), if_pos hst, hstr]
  · refine ⟨.sl (f x) 1 false (some s.size), s.new .right, ?_, Or.inr (Or.inr ⟨by simp, false, some s.size, by simp, Or.inr ⟨s.size, rfl, new_eq rfl, hN, by simp [St.new]⟩⟩), by simp [St.new], fun j hj => new_ne (by omega), fun j cs hj ho => by rw [new_ne (by omega)]; exact ho, rfl, rfl⟩
    simp only [appendA, hc, freshA]
    rw [if_neg (by omega), if_pos ⟨by simp, by simpa using hb⟩, if_pos trivial, if_neg (by simp), List.nil_append, if_pos hst, hstr]
  · have e1 : l.flatMap f ++ f x = (l ++ [x]).flatMap f := by rw [List.flatMap_append]; simp
    have e2 : l.length + 1 = (l ++ [x]).length := by simp
    refine ⟨.sl ((l ++ [x]).flatMap f) (l ++ [x]).length false (some s.size), if full then s.new .right else (s.put (tok.getD 0) none).new .right, ?_, Or.inr (Or.inr ⟨by simp, false, some s.size, rfl, Or.inr ⟨s.size, rfl, ?_, hN, ?_⟩⟩), ?_, ?_, ?_, rfl, rfl⟩
    · simp only [appendA, hc]
      rw [if_neg (by omega), if_pos ⟨hP.lens l, hb⟩]
      cases full with
      | true =>
        rw [if_pos rfl, if_pos rfl]
        simp only [freshA]
        rw [if_neg (by simp), if_pos (by rw [List.all_append, hP.stills, hst]; rfl), List.map_append, hP.strips, hstr, e1, e2]
      | false =>
        obtain ⟨t, rfl, h2, h3, h4⟩ := h.resolve_left (by simp)
        rw [if_neg (by simp), if_neg (by simp)]
        simp only [h2, Option.getD_some]
        rw [if_pos ⟨hst, h0⟩, hstr, e1, e2]
    · cases full <;> simp [St.new, St.put]
    · cases full <;> simp [St.new, St.put]
    · cases full <;> simp [St.new, St.put]
    · intro j hj
      cases full with
      | true => simp only [if_true]; rw [new_ne (by omega)]
      | false =>
        obtain ⟨t, rfl, h2, h3, h4⟩ := h.resolve_left (by simp)
        simp only [Bool.false_eq_true, if_false, Option.getD_some]
        rw [new_ne (by simp only [St.put]; omega), put_ne (by omega)]
    · intro j cs hj ho
      cases full with
      | true => simp only [if_true]; rw [new_ne (by omega)]; exact ho
      | false =>
        obtain ⟨t, rfl, h2, h3, h4⟩ := h.resolve_left (by simp)
        simp only [Bool.false_eq_true, if_false, Option.getD_some]
        rw [new_ne (by simp only [St.put]; omega), put_ne (by intro hh; subst hh; rw [h2] at ho; cases ho)]
        exact ho

/-- The first slots of the data types. -/
def Fst (n : Nat) (ds : List Ds) (fs : List Int) : Prop := fs.length = ds.length ∧ ∀ (i : Nat) (d : Ds) (f : Int), ds[i]? = some d → fs[i]? = some f → 0 ≤ f ∧ f + d.params ≤ n ∧ 0 ≤ d.params ∧ d.params ≤ 16
theorem Fst.at {n : Nat} {ds : List Ds} {fs : List Int} (h : Fst n ds fs) {i : Nat} {d : Ds} (hd : ds[i]? = some d) : ∃ f, fs[i]? = some f ∧ 0 ≤ f ∧ f + d.params ≤ n ∧ 0 ≤ d.params ∧ d.params ≤ 16 := by
  have := (List.getElem?_eq_some_iff.1 hd).1
  obtain ⟨f, hf⟩ : ∃ f, fs[i]? = some f := ⟨_, List.getElem?_eq_getElem (by rw [h.1]; exact this)⟩
  exact ⟨f, hf, h.2 i d f hd hf⟩

def Slots (n : Nat) (l : List Int) : Prop := ∀ x, x ∈ l → 0 ≤ x ∧ x < n

theorem load_ei (s : St) (x : Int) (r : List AV) : loadA s false 1 (.eptr (.int .i64 x :: r)) = some (.int .i64 x) := by simp [loadA, rdCells]

set_option maxHeartbeats 4000000 in
theorem params_law {b : Nat} {kv dv fv uv cv : AV} {up : List Nat} {kd : List Int} {ks : List Ks} {ds : List Ds} {fs : List Int} (s : St) (h : Sol s b kv dv fv uv cv up kd) (hk : ISl ksc kv ks) (hok : KOk ks) (hd : ISl dsc dv ds) (hdb : ds.length ≤ 4096) (hf : ISl ic fv fs) (hfs : Fst up.length ds fs) (hul : 3 ≤ up.length) (hub : up.length ≤ big) (name : ByteArray) :
    WC T nx 42 [.ptr b 0, .str name] s (fun v s' => (∃ ov ok l, v = .tup [ov, .bool ok] ∧ ISl ic ov l ∧ Slots up.length l ∧ l.length ≤ 4096) ∧ Keep s s') := by
  refine WC_fn cf42 rfl T42 (by simp [cf42]) ?_
  obtain ⟨hl0, hl1, hl2, -, -⟩ := h.load
  have hkb : ks.length ≤ big := Nat.le_trans hok.few (by decide)
  simp only [cf42, hl1, hd.len, wseq, wreg, wdreg, wret, wskip, wexit, wblock, wcnd, cnd_t, cnd_f, then_n, then_x, then_r, catch_n, rnd_n, rnd_x, rnd_r, catch_x, catch_r, wo_nil, wo_grd, grdO_t, grdO_f, wo_ops, stpO, wr_nil, wr_alloc, wr_guards, grdR_t, grdR_f, wr_ops, stpR, evAllocs, evOp, env0_app, eput_some, eput_none, eset_app, Opd.ev, wantedA, faddrA, storeA, setAt, snew_obj, snew_size, sput_obj, sput_size, av_cells, av_one, av_strip, av_still, binA, unA, eqbA, fillA, fldA, lensA, mmA, mm2, mmFold, List.getD_cons_zero, List.getD_cons_succ, List.getD_nil, List.length_cons, List.length_nil, List.drop_zero, List.drop_succ_cons, List.take_succ_cons, List.take_zero, List.map_cons, List.map_nil, List.set_cons_zero, List.set_cons_succ, List.all_cons, List.all_nil, List.getElem?_cons_zero, List.getElem?_cons_succ, List.nil_append, List.cons_append, ↓reduceIte, reduceCtorEq, Nat.reduceEqDiff, Nat.reduceAdd, Nat.reduceSub, Nat.reduceMul, Nat.reduceLeDiff, Nat.reduceLT, Nat.zero_add, Nat.add_zero, beq_self_eq_true, bt, bf, Bool.not_true, Bool.not_false, Bool.and_true, Bool.true_and, Bool.and_false, Bool.false_and, and_self, and_true, true_and, n0, n1, n2, n3, n4, m0, m1, m2, m3, c1, retA, resAs, resA, undefA, Option.map_some, Option.map_none]
  refine W_loop_nat (fun k e S => ∃ i, i + k = ds.length ∧ e 0 = .ptr b 0 ∧ e 1 = .str name ∧ e 6 = .nils ∧ e 17 = dv ∧ e 18 = .int .i64 ds.length ∧ e 19 = .int .i64 i ∧ Keep s S) ?_ ds.length _ _ ⟨0, by simp, ?_⟩
  · rintro k e S ⟨i, hik, e0, e1, e6, e17, e18, e19, hkp⟩
    by_cases hi : i < ds.length
    · obtain ⟨d, hdi⟩ : ∃ d, ds[i]? = some d := ⟨_, List.getElem?_eq_getElem hi⟩
      have hlt : decide ((i : Int) < (ds.length : Int)) = true := by simp; omega
      have hwi := wrap_nat (n := i) (by simp only [big]; omega)
      simp only [cf42_l2, e0, e1, e6, e17, e18, e19, hlt, hd.at dsc_len hdi, dsc, Nat.le_add_left, wseq, wreg, wdreg, wret, wskip, wexit, wblock, wcnd, cnd_t, cnd_f, then_n, then_x, then_r, catch_n, rnd_n, rnd_x, rnd_r, catch_x, catch_r, wo_nil, wo_grd, grdO_t, grdO_f, wo_ops, stpO, wr_nil, wr_alloc, wr_guards, grdR_t, grdR_f, wr_ops, stpR, evAllocs, evOp, env0_app, eput_some, eput_none, eset_app, Opd.ev, wantedA, faddrA, loadA, storeA, setAt, rdCells, snew_obj, snew_size, sput_obj, sput_size, av_cells, av_one, av_strip, av_still, binA, unA, eqbA, fillA, fldA, lensA, mmA, mm2, mmFold, List.getD_cons_zero, List.getD_cons_succ, List.getD_nil, List.length_cons, List.length_nil, List.drop_zero, List.drop_succ_cons, List.take_succ_cons, List.take_zero, List.map_cons, List.map_nil, List.set_cons_zero, List.set_cons_succ, List.all_cons, List.all_nil, List.getElem?_cons_zero, List.getElem?_cons_succ, List.nil_append, List.cons_append, ↓reduceIte, reduceCtorEq, Nat.reduceEqDiff, Nat.reduceAdd, Nat.reduceSub, Nat.reduceMul, Nat.reduceLeDiff, Nat.reduceLT, Nat.zero_add, Nat.add_zero, beq_self_eq_true, bt, bf, Bool.not_true, Bool.not_false, Bool.and_true, Bool.true_and, Bool.and_false, Bool.false_and, and_self, and_true, true_and, n0, n1, n2, n3, n4, m0, m1, m2, m3, c1, retA, resAs, resA, undefA, Option.map_some, Option.map_none]
      cases hn : (d.name.toList == name.toList)
      · simp only [e0, e1, e6, e17, e18, e19, hwi, wseq, wreg, wdreg, wret, wskip, wexit, wblock, wcnd, cnd_t, cnd_f, then_n, then_x, then_r, catch_n, rnd_n, rnd_x, rnd_r, catch_x, catch_r, wo_nil, wo_grd, grdO_t, grdO_f, wo_ops, stpO, wr_nil, wr_alloc, wr_guards, grdR_t, grdR_f, wr_ops, stpR, evAllocs, evOp, env0_app, eput_some, eput_none, eset_app, Opd.ev, wantedA, faddrA, loadA, storeA, setAt, rdCells, snew_obj, snew_size, sput_obj, sput_size, av_cells, av_one, av_strip, av_still, binA, unA, eqbA, fillA, fldA, lensA, mmA, mm2, mmFold, List.getD_cons_zero, List.getD_cons_succ, List.getD_nil, List.length_cons, List.length_nil, List.drop_zero, List.drop_succ_cons, List.take_succ_cons, List.take_zero, List.map_cons, List.map_nil, List.set_cons_zero, List.set_cons_succ, List.all_cons, List.all_nil, List.getElem?_cons_zero, List.getElem?_cons_succ, List.nil_append, List.cons_append, ↓reduceIte, reduceCtorEq, Nat.reduceEqDiff, Nat.reduceAdd, Nat.reduceSub, Nat.reduceMul, Nat.reduceLeDiff, Nat.reduceLT, Nat.zero_add, Nat.add_zero, beq_self_eq_true, bt, bf, Bool.not_true, Bool.not_false, Bool.and_true, Bool.true_and, Bool.and_false, Bool.false_and, and_self, and_true, true_and, n0, n1, n2, n3, n4, m0, m1, m2, m3, c1, retA, resAs, resA, undefA, Option.map_some, Option.map_none]
        exact ⟨k - 1, by omega, i + 1, by omega, rfl, (hkp.new' _).put' hkp.1 _⟩
      · obtain ⟨f, hfi, hf0, hfn, hp0, hp16⟩ := hfs.at hdi
        have hk2 : Keep s ((S.new (.cells [.str ⟨#[]⟩, .int .i64 0, .nils])).put S.size (some (.cells [.str d.name, .int .i64 d.params, .sl (d.conses.flatMap csc) d.conses.length false none]))) := (hkp.new' _).put' hkp.1 _
        simp only [e0, e1, e6, e17, e18, e19, hn, wseq, wreg, wdreg, wret, wskip, wexit, wblock, wcnd, cnd_t, cnd_f, then_n, then_x, then_r, catch_n, rnd_n, rnd_x, rnd_r, catch_x, catch_r, wo_nil, wo_grd, grdO_t, grdO_f, wo_ops, stpO, wr_nil, wr_alloc, wr_guards, grdR_t, grdR_f, wr_ops, stpR, evAllocs, evOp, env0_app, eput_some, eput_none, eset_app, Opd.ev, wantedA, faddrA, loadA, storeA, setAt, rdCells, snew_obj, snew_size, sput_obj, sput_size, av_cells, av_one, av_strip, av_still, binA, unA, eqbA, fillA, fldA, lensA, mmA, mm2, mmFold, List.getD_cons_zero, List.getD_cons_succ, List.getD_nil, List.length_cons, List.length_nil, List.drop_zero, List.drop_succ_cons, List.take_succ_cons, List.take_zero, List.map_cons, List.map_nil, List.set_cons_zero, List.set_cons_succ, List.all_cons, List.all_nil, List.getElem?_cons_zero, List.getElem?_cons_succ, List.nil_append, List.cons_append, ↓reduceIte, reduceCtorEq, Nat.reduceEqDiff, Nat.reduceAdd, Nat.reduceSub, Nat.reduceMul, Nat.reduceLeDiff, Nat.reduceLT, Nat.zero_add, Nat.add_zero, beq_self_eq_true, bt, bf, Bool.not_true, Bool.not_false, Bool.and_true, Bool.true_and, Bool.and_false, Bool.false_and, and_self, and_true, true_and, n0, n1, n2, n3, n4, m0, m1, m2, m3, c1, retA, resAs, resA, undefA, Option.map_some, Option.map_none]
        generalize (S.new (.cells [.str ⟨#[]⟩, .int .i64 0, .nils])).put S.size (some (.cells [.str d.name, .int .i64 d.params, .sl (d.conses.flatMap csc) d.conses.length false none])) = S1 at hk2
        refine W_loop_nat (fun k2 e' S2 => ∃ (p : Nat) (l : List Int) (ov : AV), (p : Int) + k2 = d.params ∧ e' 0 = .ptr b 0 ∧ e' 6 = ov ∧ e' 7 = .int .i64 i ∧ e' 29 = .int .i64 d.params ∧ e' 30 = .int .i64 p ∧ GSl ic s.size S2 ov l ∧ l.length = p ∧ Slots up.length l ∧ Keep s S2) ?_ d.params.toNat _ _ ⟨0, [], .nils, by simp; omega, ?_⟩
        · rintro k2 e' S2 ⟨p, l, ov, hpk, g0, g6, g7, g29, g30, hG, hll, hsl, hkp2⟩
          by_cases hp : (p : Int) < d.params
          · have hlt2 : decide ((p : Int) < d.params) = true := by simp; omega
            have hwp := wrap_nat (n := p) (by simp only [big]; omega)
            have hwf : IntKind.i64.wrap (f + (p : Int)) = f + p := by rw [IntKind.wrap_i64]; simp only [big] at hub; omega
            obtain ⟨-, -, m2, -, -⟩ := (h.keep hkp2).load
            obtain ⟨ov', S3, ha, hG', hs3, hlo, -, ho1, hoc⟩ := hG.app1 icP (f + p) (ys := [.int .i64 (f + p)]) (bytes := 8) rfl rfl rfl hkp2.1 (by omega)
            simp only [cf42_l1, g0, g6, g7, g29, g30, hlt2, m2, hf.at ic_len hfi, ic, List.singleton_append, load_ei, hwf, hwp, ha, ho1, hoc, wseq, wreg, wdreg, wret, wskip, wexit, wblock, wcnd, cnd_t, cnd_f, then_n, then_x, then_r, catch_n, rnd_n, rnd_x, rnd_r, catch_x, catch_r, wo_nil, wo_grd, grdO_t, grdO_f, wo_ops, stpO, wr_nil, wr_alloc, wr_guards, grdR_t, grdR_f, wr_ops, stpR, evAllocs, evOp, env0_app, eput_some, eput_none, eset_app, Opd.ev, wantedA, faddrA, storeA, setAt, snew_obj, snew_size, sput_obj, sput_size, av_cells, av_one, av_strip, av_still, binA, unA, eqbA, fillA, fldA, lensA, mmA, mm2, mmFold, List.getD_cons_zero, List.getD_cons_succ, List.getD_nil, List.length_cons, List.length_nil, List.drop_zero, List.drop_succ_cons, List.take_succ_cons, List.take_zero, List.map_cons, List.map_nil, List.set_cons_zero, List.set_cons_succ, List.all_cons, List.all_nil, List.getElem?_cons_zero, List.getElem?_cons_succ, List.nil_append, List.cons_append, ↓reduceIte, reduceCtorEq, Nat.reduceEqDiff, Nat.reduceAdd, Nat.reduceSub, Nat.reduceMul, Nat.reduceLeDiff, Nat.reduceLT, Nat.zero_add, Nat.add_zero, beq_self_eq_true, bt, bf, Bool.not_true, Bool.not_false, Bool.and_true, Bool.true_and, Bool.and_false, Bool.false_and, and_self, and_true, true_and, n0, n1, n2, n3, n4, m0, m1, m2, m3, c1, retA, resAs, resA, undefA, Option.map_some, Option.map_none]
            refine ⟨k2 - 1, by omega, p + 1, _, _, by omega, rfl, rfl, hG', by simp [hll], ?_, ?_⟩
            · intro x hx
              rcases List.mem_append.1 hx with hx | hx
              · exact hsl x hx
              · simp only [List.mem_singleton] at hx; subst hx; omega
            · exact ⟨by have := hkp2.1; omega, fun j hj => (hlo j hj).trans (hkp2.2 j hj)⟩
          · have hlt2 : decide ((p : Int) < d.params) = false := by simp; omega
            simp only [cf42_l1, g0, g6, g7, g29, g30, hlt2, wseq, wreg, wdreg, wret, wskip, wexit, wblock, wcnd, cnd_t, cnd_f, then_n, then_x, then_r, catch_n, rnd_n, rnd_x, rnd_r, catch_x, catch_r, wo_nil, wo_grd, grdO_t, grdO_f, wo_ops, stpO, wr_nil, wr_alloc, wr_guards, grdR_t, grdR_f, wr_ops, stpR, evAllocs, evOp, env0_app, eput_some, eput_none, eset_app, Opd.ev, wantedA, faddrA, loadA, storeA, setAt, rdCells, snew_obj, snew_size, sput_obj, sput_size, av_cells, av_one, av_strip, av_still, binA, unA, eqbA, fillA, fldA, lensA, mmA, mm2, mmFold, List.getD_cons_zero, List.getD_cons_succ, List.getD_nil, List.length_cons, List.length_nil, List.drop_zero, List.drop_succ_cons, List.take_succ_cons, List.take_zero, List.map_cons, List.map_nil, List.set_cons_zero, List.set_cons_succ, List.all_cons, List.all_nil, List.getElem?_cons_zero, List.getElem?_cons_succ, List.nil_append, List.cons_append, ↓reduceIte, reduceCtorEq, Nat.reduceEqDiff, Nat.reduceAdd, Nat.reduceSub, Nat.reduceMul, Nat.reduceLeDiff, Nat.reduceLT, Nat.zero_add, Nat.add_zero, beq_self_eq_true, bt, bf, Bool.not_true, Bool.not_false, Bool.and_true, Bool.true_and, Bool.and_false, Bool.false_and, and_self, and_true, true_and, n0, n1, n2, n3, n4, m0, m1, m2, m3, c1, retA, resAs, resA, undefA, Option.map_some, Option.map_none]
            exact ⟨by simp, _, rfl, ⟨ov, true, l, rfl, hG.i, hsl, by omega⟩, hkp2⟩
        · simp only [e0, e1, e6, e17, e18, e19, wseq, wreg, wdreg, wret, wskip, wexit, wblock, wcnd, cnd_t, cnd_f, then_n, then_x, then_r, catch_n, rnd_n, rnd_x, rnd_r, catch_x, catch_r, wo_nil, wo_grd, grdO_t, grdO_f, wo_ops, stpO, wr_nil, wr_alloc, wr_guards, grdR_t, grdR_f, wr_ops, stpR, evAllocs, evOp, env0_app, eput_some, eput_none, eset_app, Opd.ev, wantedA, faddrA, loadA, storeA, setAt, rdCells, snew_obj, snew_size, sput_obj, sput_size, av_cells, av_one, av_strip, av_still, binA, unA, eqbA, fillA, fldA, lensA, mmA, mm2, mmFold, List.getD_cons_zero, List.getD_cons_succ, List.getD_nil, List.length_cons, List.length_nil, List.drop_zero, List.drop_succ_cons, List.take_succ_cons, List.take_zero, List.map_cons, List.map_nil, List.set_cons_zero, List.set_cons_succ, List.all_cons, List.all_nil, List.getElem?_cons_zero, List.getElem?_cons_succ, List.nil_append, List.cons_append, ↓reduceIte, reduceCtorEq, Nat.reduceEqDiff, Nat.reduceAdd, Nat.reduceSub, Nat.reduceMul, Nat.reduceLeDiff, Nat.reduceLT, Nat.zero_add, Nat.add_zero, beq_self_eq_true, bt, bf, Bool.not_true, Bool.not_false, Bool.and_true, Bool.true_and, Bool.and_false, Bool.false_and, and_self, and_true, true_and, n0, n1, n2, n3, n4, m0, m1, m2, m3, c1, retA, resAs, resA, undefA, Option.map_some, Option.map_none]
          exact ⟨rfl, Or.inl ⟨rfl, rfl⟩, fun x hx => by simp at hx, hk2⟩
    · have hlt : decide ((i : Int) < (ds.length : Int)) = false := by simp; omega
      obtain ⟨m0, -, -, -, -⟩ := (h.keep hkp).load
      simp only [cf42_l2, e0, e1, e6, e17, e18, e19, hlt, m0, wseq, wreg, wdreg, wret, wskip, wexit, wblock, wcnd, cnd_t, cnd_f, then_n, then_x, then_r, catch_n, rnd_n, rnd_x, rnd_r, catch_x, catch_r, wo_nil, wo_grd, grdO_t, grdO_f, wo_ops, stpO, wr_nil, wr_alloc, wr_guards, grdR_t, grdR_f, wr_ops, stpR, evAllocs, evOp, env0_app, eput_some, eput_none, eset_app, Opd.ev, wantedA, faddrA, storeA, setAt, snew_obj, snew_size, sput_obj, sput_size, av_cells, av_one, av_strip, av_still, binA, unA, eqbA, fillA, fldA, lensA, mmA, mm2, mmFold, List.getD_cons_zero, List.getD_cons_succ, List.getD_nil, List.length_cons, List.length_nil, List.drop_zero, List.drop_succ_cons, List.take_succ_cons, List.take_zero, List.map_cons, List.map_nil, List.set_cons_zero, List.set_cons_succ, List.all_cons, List.all_nil, List.getElem?_cons_zero, List.getElem?_cons_succ, List.nil_append, List.cons_append, ↓reduceIte, reduceCtorEq, Nat.reduceEqDiff, Nat.reduceAdd, Nat.reduceSub, Nat.reduceMul, Nat.reduceLeDiff, Nat.reduceLT, Nat.zero_add, Nat.add_zero, beq_self_eq_true, bt, bf, Bool.not_true, Bool.not_false, Bool.and_true, Bool.true_and, Bool.and_false, Bool.false_and, and_self, and_true, true_and, n0, n1, n2, n3, n4, m0, m1, m2, m3, c1, retA, resAs, resA, undefA, Option.map_some, Option.map_none]
      refine WO_callx [kv, .str name] (by simp only [e1, wseq, wreg, wdreg, wret, wskip, wexit, wblock, wcnd, cnd_t, cnd_f, then_n, then_x, then_r, catch_n, rnd_n, rnd_x, rnd_r, catch_x, catch_r, wo_nil, wo_grd, grdO_t, grdO_f, wo_ops, stpO, wr_nil, wr_alloc, wr_guards, grdR_t, grdR_f, wr_ops, stpR, evAllocs, evOp, env0_app, eput_some, eput_none, eset_app, Opd.ev, wantedA, faddrA, loadA, storeA, setAt, rdCells, snew_obj, snew_size, sput_obj, sput_size, av_cells, av_one, av_strip, av_still, binA, unA, eqbA, fillA, fldA, lensA, mmA, mm2, mmFold, List.getD_cons_zero, List.getD_cons_succ, List.getD_nil, List.length_cons, List.length_nil, List.drop_zero, List.drop_succ_cons, List.take_succ_cons, List.take_zero, List.map_cons, List.map_nil, List.set_cons_zero, List.set_cons_succ, List.all_cons, List.all_nil, List.getElem?_cons_zero, List.getElem?_cons_succ, List.nil_append, List.cons_append, ↓reduceIte, reduceCtorEq, Nat.reduceEqDiff, Nat.reduceAdd, Nat.reduceSub, Nat.reduceMul, Nat.reduceLeDiff, Nat.reduceLT, Nat.zero_add, Nat.add_zero, beq_self_eq_true, bt, bf, Bool.not_true, Bool.not_false, Bool.and_true, Bool.true_and, Bool.and_false, Bool.false_and, and_self, and_true, true_and, n0, n1, n2, n3, n4, m0, m1, m2, m3, c1, retA, resAs, resA, undefA, Option.map_some, Option.map_none]) ((find_law hk hkb name S).mono ?_)
      rintro v S2 ⟨⟨pv, ok, rfl, htrue, hfalse⟩, hkp2⟩
      have hall : ∃ ps, ISl ic pv ps ∧ Slots up.length ps ∧ ps.length ≤ 4096 := by
        cases ok with
        | true =>
          obtain ⟨x, hx, -, rfl⟩ := htrue rfl
          exact ⟨x.params, Or.inr ⟨_, _, rfl⟩, fun y hy => by have := hok.rng x hx y hy; omega, hok.short x hx⟩
        | false =>
          obtain ⟨rfl, -⟩ := hfalse rfl
          exact ⟨[], Or.inl ⟨rfl, rfl⟩, fun y hy => by simp at hy, by simp⟩
      obtain ⟨ps, hps, hpsl, hpsb⟩ := hall
      simp only [e0, e1, e6, hps.len, wseq, wreg, wdreg, wret, wskip, wexit, wblock, wcnd, cnd_t, cnd_f, then_n, then_x, then_r, catch_n, rnd_n, rnd_x, rnd_r, catch_x, catch_r, wo_nil, wo_grd, grdO_t, grdO_f, wo_ops, stpO, wr_nil, wr_alloc, wr_guards, grdR_t, grdR_f, wr_ops, stpR, evAllocs, evOp, env0_app, eput_some, eput_none, eset_app, Opd.ev, wantedA, faddrA, loadA, storeA, setAt, rdCells, snew_obj, snew_size, sput_obj, sput_size, av_cells, av_one, av_strip, av_still, binA, unA, eqbA, fillA, fldA, lensA, mmA, mm2, mmFold, List.getD_cons_zero, List.getD_cons_succ, List.getD_nil, List.length_cons, List.length_nil, List.drop_zero, List.drop_succ_cons, List.take_succ_cons, List.take_zero, List.map_cons, List.map_nil, List.set_cons_zero, List.set_cons_succ, List.all_cons, List.all_nil, List.getElem?_cons_zero, List.getElem?_cons_succ, List.nil_append, List.cons_append, ↓reduceIte, reduceCtorEq, Nat.reduceEqDiff, Nat.reduceAdd, Nat.reduceSub, Nat.reduceMul, Nat.reduceLeDiff, Nat.reduceLT, Nat.zero_add, Nat.add_zero, beq_self_eq_true, bt, bf, Bool.not_true, Bool.not_false, Bool.and_true, Bool.true_and, Bool.and_false, Bool.false_and, and_self, and_true, true_and, n0, n1, n2, n3, n4, m0, m1, m2, m3, c1, retA, resAs, resA, undefA, Option.map_some, Option.map_none]
      refine W_loop_nat (fun k2 e' S3 => ∃ (p : Nat) (l : List Int) (ov : AV), p + k2 = ps.length ∧ e' 6 = ov ∧ e' 11 = .bool ok ∧ e' 57 = pv ∧ e' 58 = .int .i64 ps.length ∧ e' 59 = .int .i64 p ∧ GSl ic s.size S3 ov l ∧ l.length = p ∧ Slots up.length l ∧ Keep s S3) ?_ ps.length _ _ ⟨0, [], .nils, by simp, ?_⟩
      · rintro k2 e' S3 ⟨p, l, ov, hpk, g6, g11, g57, g58, g59, hG, hll, hsl, hkp3⟩
        by_cases hp : p < ps.length
        · obtain ⟨y, hy⟩ : ∃ y, ps[p]? = some y := ⟨_, List.getElem?_eq_getElem hp⟩
          have hlt2 : decide ((p : Int) < (ps.length : Int)) = true := by simp; omega
          have hwp := wrap_nat (n := p) (by simp only [big]; omega)
          obtain ⟨ov', S4, ha, hG', hs3, hlo, -, ho1, hoc⟩ := hG.app1 icP y (ys := [.int .i64 y]) (bytes := 8) rfl rfl rfl hkp3.1 (by omega)
          simp only [cf42_l0, g6, g11, g57, g58, g59, hlt2, hps.at ic_len hy, ic, hwp, ha, ho1, hoc, wseq, wreg, wdreg, wret, wskip, wexit, wblock, wcnd, cnd_t, cnd_f, then_n, then_x, then_r, catch_n, rnd_n, rnd_x, rnd_r, catch_x, catch_r, wo_nil, wo_grd, grdO_t, grdO_f, wo_ops, stpO, wr_nil, wr_alloc, wr_guards, grdR_t, grdR_f, wr_ops, stpR, evAllocs, evOp, env0_app, eput_some, eput_none, eset_app, Opd.ev, wantedA, faddrA, loadA, storeA, setAt, rdCells, snew_obj, snew_size, sput_obj, sput_size, av_cells, av_one, av_strip, av_still, binA, unA, eqbA, fillA, fldA, lensA, mmA, mm2, mmFold, List.getD_cons_zero, List.getD_cons_succ, List.getD_nil, List.length_cons, List.length_nil, List.drop_zero, List.drop_succ_cons, List.take_succ_cons, List.take_zero, List.map_cons, List.map_nil, List.set_cons_zero, List.set_cons_succ, List.all_cons, List.all_nil, List.getElem?_cons_zero, List.getElem?_cons_succ, List.nil_append, List.cons_append, ↓reduceIte, reduceCtorEq, Nat.reduceEqDiff, Nat.reduceAdd, Nat.reduceSub, Nat.reduceMul, Nat.reduceLeDiff, Nat.reduceLT, Nat.zero_add, Nat.add_zero, beq_self_eq_true, bt, bf, Bool.not_true, Bool.not_false, Bool.and_true, Bool.true_and, Bool.and_false, Bool.false_and, and_self, and_true, true_and, n0, n1, n2, n3, n4, m0, m1, m2, m3, c1, retA, resAs, resA, undefA, Option.map_some, Option.map_none]
          refine ⟨k2 - 1, by omega, p + 1, _, _, by omega, rfl, rfl, hG', by simp [hll], ?_, ?_⟩
          · intro x hx
            rcases List.mem_append.1 hx with hx | hx
            · exact hsl x hx
            · simp only [List.mem_singleton] at hx; subst hx; exact hpsl _ (List.mem_of_getElem? hy)
          · exact ⟨by have := hkp3.1; omega, fun j hj => (hlo j hj).trans (hkp3.2 j hj)⟩
        · have hlt2 : decide ((p : Int) < (ps.length : Int)) = false := by simp; omega
          simp only [cf42_l0, g6, g11, g57, g58, g59, hlt2, wseq, wreg, wdreg, wret, wskip, wexit, wblock, wcnd, cnd_t, cnd_f, then_n, then_x, then_r, catch_n, rnd_n, rnd_x, rnd_r, catch_x, catch_r, wo_nil, wo_grd, grdO_t, grdO_f, wo_ops, stpO, wr_nil, wr_alloc, wr_guards, grdR_t, grdR_f, wr_ops, stpR, evAllocs, evOp, env0_app, eput_some, eput_none, eset_app, Opd.ev, wantedA, faddrA, loadA, storeA, setAt, rdCells, snew_obj, snew_size, sput_obj, sput_size, av_cells, av_one, av_strip, av_still, binA, unA, eqbA, fillA, fldA, lensA, mmA, mm2, mmFold, List.getD_cons_zero, List.getD_cons_succ, List.getD_nil, List.length_cons, List.length_nil, List.drop_zero, List.drop_succ_cons, List.take_succ_cons, List.take_zero, List.map_cons, List.map_nil, List.set_cons_zero, List.set_cons_succ, List.all_cons, List.all_nil, List.getElem?_cons_zero, List.getElem?_cons_succ, List.nil_append, List.cons_append, ↓reduceIte, reduceCtorEq, Nat.reduceEqDiff, Nat.reduceAdd, Nat.reduceSub, Nat.reduceMul, Nat.reduceLeDiff, Nat.reduceLT, Nat.zero_add, Nat.add_zero, beq_self_eq_true, bt, bf, Bool.not_true, Bool.not_false, Bool.and_true, Bool.true_and, Bool.and_false, Bool.false_and, and_self, and_true, true_and, n0, n1, n2, n3, n4, m0, m1, m2, m3, c1, retA, resAs, resA, undefA, Option.map_some, Option.map_none]
          exact ⟨by simp, _, rfl, ⟨ov, ok, l, rfl, hG.i, hsl, by omega⟩, hkp3⟩
      · simp only [e6, wseq, wreg, wdreg, wret, wskip, wexit, wblock, wcnd, cnd_t, cnd_f, then_n, then_x, then_r, catch_n, rnd_n, rnd_x, rnd_r, catch_x, catch_r, wo_nil, wo_grd, grdO_t, grdO_f, wo_ops, stpO, wr_nil, wr_alloc, wr_guards, grdR_t, grdR_f, wr_ops, stpR, evAllocs, evOp, env0_app, eput_some, eput_none, eset_app, Opd.ev, wantedA, faddrA, loadA, storeA, setAt, rdCells, snew_obj, snew_size, sput_obj, sput_size, av_cells, av_one, av_strip, av_still, binA, unA, eqbA, fillA, fldA, lensA, mmA, mm2, mmFold, List.getD_cons_zero, List.getD_cons_succ, List.getD_nil, List.length_cons, List.length_nil, List.drop_zero, List.drop_succ_cons, List.take_succ_cons, List.take_zero, List.map_cons, List.map_nil, List.set_cons_zero, List.set_cons_succ, List.all_cons, List.all_nil, List.getElem?_cons_zero, List.getElem?_cons_succ, List.nil_append, List.cons_append, ↓reduceIte, reduceCtorEq, Nat.reduceEqDiff, Nat.reduceAdd, Nat.reduceSub, Nat.reduceMul, Nat.reduceLeDiff, Nat.reduceLT, Nat.zero_add, Nat.add_zero, beq_self_eq_true, bt, bf, Bool.not_true, Bool.not_false, Bool.and_true, Bool.true_and, Bool.and_false, Bool.false_and, and_self, and_true, true_and, n0, n1, n2, n3, n4, m0, m1, m2, m3, c1, retA, resAs, resA, undefA, Option.map_some, Option.map_none]
        exact ⟨rfl, Or.inl ⟨rfl, rfl⟩, fun x hx => by simp at hx, hkp.trans hkp2⟩
  · simp only [wseq, wreg, wdreg, wret, wskip, wexit, wblock, wcnd, cnd_t, cnd_f, then_n, then_x, then_r, catch_n, rnd_n, rnd_x, rnd_r, catch_x, catch_r, wo_nil, wo_grd, grdO_t, grdO_f, wo_ops, stpO, wr_nil, wr_alloc, wr_guards, grdR_t, grdR_f, wr_ops, stpR, evAllocs, evOp, env0_app, eput_some, eput_none, eset_app, Opd.ev, wantedA, faddrA, loadA, storeA, setAt, rdCells, snew_obj, snew_size, sput_obj, sput_size, av_cells, av_one, av_strip, av_still, binA, unA, eqbA, fillA, fldA, lensA, mmA, mm2, mmFold, List.getD_cons_zero, List.getD_cons_succ, List.getD_nil, List.length_cons, List.length_nil, List.drop_zero, List.drop_succ_cons, List.take_succ_cons, List.take_zero, List.map_cons, List.map_nil, List.set_cons_zero, List.set_cons_succ, List.all_cons, List.all_nil, List.getElem?_cons_zero, List.getElem?_cons_succ, List.nil_append, List.cons_append, ↓reduceIte, reduceCtorEq, Nat.reduceEqDiff, Nat.reduceAdd, Nat.reduceSub, Nat.reduceMul, Nat.reduceLeDiff, Nat.reduceLT, Nat.zero_add, Nat.add_zero, beq_self_eq_true, bt, bf, Bool.not_true, Bool.not_false, Bool.and_true, Bool.true_and, Bool.and_false, Bool.false_and, and_self, and_true, true_and, n0, n1, n2, n3, n4, m0, m1, m2, m3, c1, retA, resAs, resA, undefA, Option.map_some, Option.map_none]
    exact ⟨rfl, Keep.refl s⟩
end Go.Am.K1
