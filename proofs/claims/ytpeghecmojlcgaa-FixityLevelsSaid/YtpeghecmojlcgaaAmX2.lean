/- A part of the proof of fixityLevels. Conditions: none. -/
import Derived.Test.YtpeghecmojlcgaaAmX1
namespace Go.Am.R1
set_option maxRecDepth 100000
set_option linter.unusedSimpArgs false

structure Nd where
  op : ByteArray
  n : Int
  a : Int
  b : Int

def ndc (x : Nd) : List AV := [.str x.op, .int .i64 x.n, .int .i64 x.a, .int .i64 x.b]
theorem ndc_len (x : Nd) : (ndc x).length = 4 := rfl

/-- The nodes put so far, as a slice that may grow. -/
def Out (s : St) (ov : AV) (ns : List Nd) : Prop := (ov = .nils ∧ ns = []) ∨ ∃ t, ov = .sl (ns.flatMap ndc) ns.length false (some t) ∧ s.obj t = some .right ∧ t < s.size

/-- Written variables stay, but one. -/
def KeepC (b : Nat) (s s' : St) : Prop := s.size ≤ s'.size ∧ ∀ j cs, j < s.size → j ≠ b → s.obj j = some (.cells cs) → s'.obj j = some (.cells cs)
theorem KeepC.refl (b : Nat) (s : St) : KeepC b s s := ⟨Nat.le_refl _, fun _ _ _ _ h => h⟩
theorem KeepC.trans {b : Nat} {s1 s2 s3 : St} (h : KeepC b s1 s2) (k : KeepC b s2 s3) : KeepC b s1 s3 :=
  ⟨Nat.le_trans h.1 k.1, fun j cs hj hb ho => k.2 j cs (Nat.lt_of_lt_of_le hj h.1) hb (h.2 j cs hj hb ho)⟩
theorem _root_.Go.Am.Keep.c {b : Nat} {s s' : St} (h : Keep s s') : KeepC b s s' := ⟨h.1, fun j cs hj _ ho => (h.2 j hj).trans ho⟩
theorem KeepC.put {b : Nat} {s s' : St} (h : KeepC b s s') (o : Option AO) : KeepC b s (s'.put b o) := ⟨h.1, fun j cs hj hb ho => by simp only [St.put]; rw [if_neg hb]; exact h.2 j cs hj hb ho⟩
theorem KeepC.new {b : Nat} {s s' : St} (h : KeepC b s s') (o : AO) : KeepC b s (s'.new o) := h.trans (Keep.new _ _).c
theorem KeepC.put' {b p : Nat} {s s' : St} (h : KeepC b s s') (hp : s.size ≤ p) (o : Option AO) : KeepC b s (s'.put p o) := ⟨h.1, fun j cs hj hb ho => by simp only [St.put]; rw [if_neg (by omega)]; exact h.2 j cs hj hb ho⟩
/-- All written variables stay. -/
def KeepA (s s' : St) : Prop := s.size ≤ s'.size ∧ ∀ j cs, j < s.size → s.obj j = some (.cells cs) → s'.obj j = some (.cells cs)
theorem KeepA.c {b : Nat} {s s' : St} (h : KeepA s s') : KeepC b s s' := ⟨h.1, fun j cs hj _ ho => h.2 j cs hj ho⟩

theorem app_law {s : St} {ov : AV} {ns : List Nd} (h : Out s ov ns) (nd : Nd) (hb : (ns.length + 1) * 40 ≤ 140737488355328) :
    ∃ t s1, appendA s false 4 40 ov (.sl (ndc nd) 1 true none) = some (.sl ((ns ++ [nd]).flatMap ndc) (ns.length + 1) false (some t), s1) ∧ s1.obj t = some .right ∧ t < s1.size ∧ KeepA s s1 := by
  have hc : contents s 4 (.sl (ndc nd) 1 true none) = some (1, ndc nd) := rfl
  rcases h with ⟨rfl, rfl⟩ | ⟨t, rfl, ht, hlt⟩
  · refine ⟨s.size, s.new .right, ?_, by simp [St.new], by simp [St.new], (Keep.new _ _).1, fun j cs hj ho => by simp only [St.new]; rw [if_neg (by omega)]; exact ho⟩
    simp only [appendA, hc, freshA]
    rw [if_neg (by omega), if_pos (by omega), if_neg (by simp)]
    rfl
  · refine ⟨s.size, (s.put t none).new .right, ?_, by simp [St.new, St.put], by simp [St.new, St.put], by simp [St.new, St.put], fun j cs hj ho => ?_⟩
    · simp only [appendA, hc, ht]
      rw [if_neg (by omega), if_pos ⟨by rw [flat_len ndc_len], hb⟩, if_neg (by simp), List.flatMap_append]
      rfl
    · rw [new_ne (by simp only [St.put]; omega), put_ne (by intro h; subst h; rw [ht] at ho; cases ho)]
      exact ho

theorem put_law (b : Nat) (tv iv ov : AV) (at_ e : Int) (ns : List Nd) (nd : Nd) (s : St) (hb : b < s.size) (ho : s.obj b = some (.cells [tv, iv, .int .i64 at_, ov, .int .i64 e])) (hov : Out s ov ns) (hn : (ns.length + 1) * 40 ≤ 140737488355328) :
    WC T nx 34 [.ptr b 0, .agg (ndc nd)] s (fun v s' => v = .int .i64 ns.length ∧ KeepC b s s' ∧ ∃ ov', s'.obj b = some (.cells [tv, iv, .int .i64 at_, ov', .int .i64 e]) ∧ Out s' ov' (ns ++ [nd])) := by
  refine WC_fn cf34 rfl T34 (by simp [cf34]) ?_
  have hov1 : Out (s.new (.cells (ndc nd))) ov ns := by
    rcases hov with h | ⟨t, h1, h2, h3⟩
    · exact Or.inl h
    · exact Or.inr ⟨t, h1, by simp only [St.new]; rw [if_neg (by omega)]; exact h2, by simp only [St.new]; omega⟩
  obtain ⟨t, s1, happ, ht1, ht2, hk⟩ := app_law hov1 nd hn
  have hob := hk.2 b _ (by simp only [St.new]; omega) (by simp only [St.new]; rw [if_neg (by omega)]; exact ho)
  simp only [ndc] at happ
  have hw : IntKind.i64.wrap (((ns.length + 1 : Nat) : Int) - 1) = (ns.length : Int) := by rw [IntKind.wrap_i64]; omega
  simp only [cf34, ndc, ho, hb, l0 hb, happ, hob, lenA, hw, wseq, wreg, wdreg, wret, wskip, wexit, wblock, wcnd, cnd_t, cnd_f, then_n, then_x, then_r, catch_n, rnd_n, rnd_x, rnd_r, catch_x, catch_r, wo_nil, wo_grd, grdO_t, grdO_f, wo_ops, stpO, wr_nil, wr_alloc, wr_guards, grdR_t, grdR_f, wr_ops, stpR, evAllocs, evOp, env0_app, eput_some, eput_none, eset_app, Opd.ev, wantedA, faddrA, loadA, storeA, setAt, rdCells, snew_obj, snew_size, sput_obj, sput_size, av_cells, av_one, av_strip, av_still, binA, unA, eqbA, fillA, fldA, lensA, idxaA, mmA, mm2, mmFold, List.getD_cons_zero, List.getD_cons_succ, List.getD_nil, List.length_cons, List.length_nil, List.drop_zero, List.drop_succ_cons, List.take_succ_cons, List.take_zero, List.map_cons, List.map_nil, List.set_cons_zero, List.set_cons_succ, List.all_cons, List.all_nil, List.getElem?_cons_zero, List.getElem?_cons_succ, List.nil_append, List.cons_append, ↓reduceIte, reduceCtorEq, Nat.reduceEqDiff, Nat.reduceAdd, Nat.reduceSub, Nat.reduceMul, Nat.reduceLeDiff, Nat.reduceLT, Nat.zero_add, Nat.add_zero, beq_self_eq_true, bt, bf, Bool.not_true, Bool.not_false, Bool.and_true, Bool.true_and, Bool.and_false, Bool.false_and, and_self, and_true, true_and, n0, n1, n2, n3, n4, m0, m1, m2, m3, c1, retA, resAs, resA, undefA, Option.map_some, Option.map_none]
  have htb : t ≠ b := by intro h; subst h; rw [ht1] at hob; cases hob
  refine ⟨by simp, _, rfl, rfl, (((Keep.new s _).c).trans hk.c).put _, _, rfl, Or.inr ⟨t, by simp, by rw [put_ne htb]; exact ht1, ht2⟩⟩
end Go.Am.R1
