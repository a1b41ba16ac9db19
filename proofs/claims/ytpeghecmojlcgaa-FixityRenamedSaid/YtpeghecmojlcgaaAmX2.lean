/- A part of the proof of fixityRenamed. Conditions: none. -/
import Derived.Test.YtpeghecmojlcgaaAmX1
import Derived.Test.YtpeghecmojlcgaaAmY1
namespace Go.Am.R1
set_option maxRecDepth 100000
set_option linter.unusedSimpArgs false

structure Nd where
  op : ByteArray
  n : Int
  a : Int
  b : Int

def ndc (x : Nd) : List AV := [.str x.op, .int .i64 x.n, .int .i64 x.a, .int .i64 x.b]
theorem ndc_len (x : Nd) : (ndc x).length = 4 := rfl
theorem nd_one (ns : List Nd) : (ns.flatMap ndc).all AV.one = true := by
  induction ns with
  | nil => rfl
  | cons a l ih => rw [List.flatMap_cons, List.all_append, ih]; rfl
theorem nd_still (ns : List Nd) : (ns.flatMap ndc).all AV.still = true := by
  induction ns with
  | nil => rfl
  | cons a l ih => rw [List.flatMap_cons, List.all_append, ih]; rfl
theorem nd_strip (ns : List Nd) : (ns.flatMap ndc).map AV.strip = ns.flatMap ndc := by
  induction ns with
  | nil => rfl
  | cons a l ih => rw [List.flatMap_cons, List.map_append, ih]; rfl

/-- The nodes put so far, as an array that is written. -/
def Out (s : St) (ov : AV) (ns : List Nd) : Prop := (ov = .nils ∧ ns = []) ∨ ∃ p, ov = .msl p 0 ns.length 4 ∧ s.obj p = some (.cells (ns.flatMap ndc)) ∧ p < s.size







theorem out_len {s : St} {ov : AV} {ns : List Nd} (h : Out s ov ns) : lenA ov = some (.int .i64 ns.length) := by
  rcases h with ⟨rfl, rfl⟩ | ⟨t, rfl, _, _⟩ <;> rfl

theorem flat4 {cs : List AV} {ns : List Nd} (h : some (AO.cells cs) = some (.cells (ns.flatMap ndc))) (hl : cs.length % 4 ≠ 0) : False := by
  simp only [Option.some.injEq, AO.cells.injEq] at h
  subst h
  rw [flat_len ndc_len] at hl
  omega
theorem flat4' {cs : List AV} {ns : List Nd} (h : some (AO.cells (ns.flatMap ndc)) = some (.cells cs)) (hl : cs.length % 4 ≠ 0) : False := flat4 h.symm hl

theorem Out.no {s : St} {ov : AV} {ns : List Nd} (h : Out s ov ns) {j : Nat} {cs : List AV} (ho : s.obj j = some (.cells cs)) (hl : cs.length % 4 ≠ 0) : notO ov j := by
  intro o l z he
  rcases h with ⟨rfl, rfl⟩ | ⟨t, rfl, h2, _⟩
  · cases he
  · cases he
    rw [h2] at ho
    exact flat4' ho hl

theorem Out.of {s s' : St} {ov : AV} {ns : List Nd} (h : Out s ov ns) (hr : ∀ t, s.obj t = some (.cells (ns.flatMap ndc)) → t < s.size → s'.obj t = some (.cells (ns.flatMap ndc))) (hs : s.size ≤ s'.size) : Out s' ov ns := by
  rcases h with h | ⟨t, h1, h2, h3⟩
  · exact Or.inl h
  · exact Or.inr ⟨t, h1, hr t h2 h3, by omega⟩

/-- Written variables stay, but one, and the nodes. -/
def KeepC (b : Nat) (ov : AV) (s s' : St) : Prop := s.size ≤ s'.size ∧ ∀ j, j < s.size → j ≠ b → notO ov j → s'.obj j = s.obj j
theorem KeepC.trans {b : Nat} {ov : AV} {s1 s2 s3 : St} (h : KeepC b ov s1 s2) (k : KeepC b ov s2 s3) : KeepC b ov s1 s3 :=
  ⟨Nat.le_trans h.1 k.1, fun j hj hb hn => (k.2 j (Nat.lt_of_lt_of_le hj h.1) hb hn).trans (h.2 j hj hb hn)⟩
theorem _root_.Go.Am.Keep.c {b : Nat} {ov : AV} {s s' : St} (h : Keep s s') : KeepC b ov s s' := ⟨h.1, fun j hj _ _ => h.2 j hj⟩
theorem KeepC.put {b : Nat} {ov : AV} {s s' : St} (h : KeepC b ov s s') (o : Option AO) : KeepC b ov s (s'.put b o) := ⟨h.1, fun j hj hb hn => by simp only [St.put]; rw [if_neg hb]; exact h.2 j hj hb hn⟩
theorem KeepC.new {b : Nat} {ov : AV} {s s' : St} (h : KeepC b ov s s') (o : AO) : KeepC b ov s (s'.new o) := h.trans (Keep.new _ _).c
theorem KeepC.put' {b p : Nat} {ov : AV} {s s' : St} (h : KeepC b ov s s') (hp : s.size ≤ p) (o : Option AO) : KeepC b ov s (s'.put p o) := ⟨h.1, fun j hj hb hn => by simp only [St.put]; rw [if_neg (by omega)]; exact h.2 j hj hb hn⟩
theorem KeepC.o {b : Nat} {ov : AV} {s s' : St} (h : KeepC b ov s s') {j : Nat} {o : Option AO} (hj : j < s.size) (hb : j ≠ b) (hn : notO ov j) (ho : s.obj j = o) : s'.obj j = o := (h.2 j hj hb hn).trans ho

theorem app_law {s : St} {ov : AV} {ns : List Nd} (h : Out s ov ns) (nd : Nd) (hb : (ns.length + 1) * 40 ≤ 140737488355328) :
    ∃ ov' s1, appendA s true 4 40 ov (.sl (ndc nd) 1 true none) = some (ov', s1) ∧ Out s1 ov' (ns ++ [nd]) ∧ freshO s.size ov' ∧ s.size ≤ s1.size ∧ ∀ j, j < s.size → notO ov j → s1.obj j = s.obj j := by
  have hc : contents s 4 (.sl (ndc nd) 1 true none) = some (1, ndc nd) := rfl
  rcases h with ⟨rfl, rfl⟩ | ⟨t, rfl, ht, hlt⟩
  · refine ⟨.msl s.size 0 1 4, s.new (.cells (ndc nd)), ?_, Or.inr ⟨s.size, rfl, new_eq rfl, by simp [St.new]⟩, ?_, by simp [St.new], fun j hj _ => new_ne (by omega)⟩
    · simp only [appendA, hc, freshA]
      rw [if_neg (by omega), if_pos (by omega), if_pos trivial]
      rfl
    · intro p o l z he; cases he; exact Nat.le_refl _
  · refine ⟨.msl s.size 0 (ns.length + 1) 4, (s.put t none).new (.cells (ns.flatMap ndc ++ ndc nd)), ?_, Or.inr ⟨s.size, by simp, ?_, by simp [St.new, St.put]⟩, ?_, by simp [St.new, St.put], fun j hj hn => ?_⟩
    · simp only [appendA, hc, ht]
      rw [if_neg (by omega), if_pos ⟨trivial, trivial, by rw [flat_len ndc_len], hb, rfl⟩]
      try rfl
    · rw [new_eq (by simp [St.put]), List.flatMap_append]; rfl
    · intro p o l z he; cases he; exact Nat.le_refl _
    · rw [new_ne (by simp only [St.put]; omega), put_ne (by intro h; subst h; exact hn _ _ _ rfl)]

theorem put_law (b : Nat) (tv iv ov : AV) (at_ e : Int) (ns : List Nd) (nd : Nd) (s : St) (hb : b < s.size) (ho : s.obj b = some (.cells [tv, iv, .int .i64 at_, ov, .int .i64 e])) (hov : Out s ov ns) (hn : (ns.length + 1) * 40 ≤ 140737488355328) :
    WC T nx 34 [.ptr b 0, .agg (ndc nd)] s (fun v s' => v = .int .i64 ns.length ∧ KeepC b ov s s' ∧ ∃ ov', s'.obj b = some (.cells [tv, iv, .int .i64 at_, ov', .int .i64 e]) ∧ Out s' ov' (ns ++ [nd]) ∧ freshO s.size ov') := by
  refine WC_fn cf34 rfl T34 (by simp [cf34]) ?_
  have hov1 : Out (s.new (.cells (ndc nd))) ov ns := hov.of (fun t h1 h2 => by rw [new_ne (by omega)]; exact h1) (by simp only [St.new]; omega)
  obtain ⟨ov', s1, happ, hO, hf, hs1, hk⟩ := app_law hov1 nd hn
  have hnb := hov.no ho (by simp)
  have hob := hk b (by simp only [St.new]; omega) hnb
  rw [new_ne (by omega), ho] at hob
  simp only [ndc] at happ
  have hw : IntKind.i64.wrap (((ns.length + 1 : Nat) : Int) - 1) = (ns.length : Int) := by rw [IntKind.wrap_i64]; omega
  have hlen : lenA ov' = some (.int .i64 (ns.length + 1 : Nat)) := by rw [out_len hO]; simp
  have hoc : ov'.cells = [ov'] := by rcases hO with ⟨rfl, _⟩ | ⟨_, rfl, _⟩ <;> rfl
  have ho1 : ov'.one = true := by rcases hO with ⟨rfl, _⟩ | ⟨_, rfl, _⟩ <;> rfl
  simp only [cf34, ndc, ho, hb, l0 hb, happ, hob, hlen, hw, hoc, ho1, wseq, wreg, wdreg, wret, wskip, wexit, wblock, wcnd, cnd_t, cnd_f, then_n, then_x, then_r, catch_n, rnd_n, rnd_x, rnd_r, catch_x, catch_r, wo_nil, wo_grd, grdO_t, grdO_f, wo_ops, stpO, wr_nil, wr_alloc, wr_guards, grdR_t, grdR_f, wr_ops, stpR, evAllocs, evOp, env0_app, eput_some, eput_none, eset_app, Opd.ev, wantedA, faddrA, loadA, storeA, setAt, rdCells, snew_obj, snew_size, sput_obj, sput_size, av_cells, av_one, av_strip, av_still, binA, unA, eqbA, fillA, fldA, lensA, mmA, mm2, mmFold, List.getD_cons_zero, List.getD_cons_succ, List.getD_nil, List.length_cons, List.length_nil, List.drop_zero, List.drop_succ_cons, List.take_succ_cons, List.take_zero, List.map_cons, List.map_nil, List.set_cons_zero, List.set_cons_succ, List.all_cons, List.all_nil, List.getElem?_cons_zero, List.getElem?_cons_succ, List.nil_append, List.cons_append, ↓reduceIte, reduceCtorEq, Nat.reduceEqDiff, Nat.reduceAdd, Nat.reduceSub, Nat.reduceMul, Nat.reduceLeDiff, Nat.reduceLT, Nat.zero_add, Nat.add_zero, beq_self_eq_true, bt, bf, Bool.not_true, Bool.not_false, Bool.and_true, Bool.true_and, Bool.and_false, Bool.false_and, and_self, and_true, true_and, n0, n1, n2, n3, n4, m0, m1, m2, m3, c1, retA, resAs, resA, undefA, Option.map_some, Option.map_none]
  refine ⟨by simp, _, rfl, rfl, ⟨?_, fun j hj hjb hjn => ?_⟩, ov', rfl, hO.of (fun t h1 h2 => ?_) (Nat.le_refl _), hf.le (by simp only [St.new]; omega)⟩
  · simp only [St.new] at hs1; simp only [St.put]; omega
  · rw [put_ne hjb, hk j (by simp only [St.new]; omega) hjn, new_ne (by omega)]
  · rw [put_ne (by intro hh; subst hh; rw [hob] at h1; exact flat4 h1 (by simp))]; exact h1
end Go.Am.R1
