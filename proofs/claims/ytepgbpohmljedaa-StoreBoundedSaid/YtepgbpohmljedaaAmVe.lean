/- StoreBounded: the law. Conditions: none. -/
import Derived.Test.YtepgbpohmljedaaAmVd
set_option linter.unusedSimpArgs false
set_option linter.unusedVariables false
namespace Go.Am.V1
open Go.St (up up_same up_ne Ring)
set_option maxRecDepth 100000
set_option linter.unusedSimpArgs false
attribute [local go_sem] wseq wreg wdreg wret wskip wexit wblock wcnd cnd_t cnd_f then_n then_x then_r catch_n rnd_n rnd_x rnd_r catch_x catch_r wo_nil wo_grd grdO_t grdO_f wo_ops stpO wr_nil wr_alloc wr_guards grdR_t grdR_f wr_ops stpR evAllocs evOp env0_app eput_some eput_none eset_app Opd.ev wantedA faddrA snew_obj snew_size sput_obj sput_size av_cells av_one av_strip av_still unA eqbA fillA fldA lensA mmA mm2 mmFold List.getD_cons_zero List.getD_cons_succ List.getD_nil List.length_cons List.length_nil List.drop_zero List.drop_succ_cons List.take_succ_cons List.take_zero List.map_cons List.map_nil List.set_cons_zero List.set_cons_succ List.all_cons List.all_nil List.getElem?_cons_zero List.getElem?_cons_succ List.nil_append List.cons_append Nat.zero_add Nat.add_zero beq_self_eq_true bt bf Bool.not_true Bool.not_false Bool.and_true Bool.true_and Bool.and_false Bool.false_and and_self and_true true_and n0 n1 n2 n3 n4 m0 m1 m2 m3 c1 retA resAs resA undefA Option.map_some Option.map_none

/-- A guarded step of a region whose order is open. -/
def GrdT (T : Nat → Option CF) (X : Ext) (b : Bool) (d : Option Nat) (o : COp) (r : List CO) (e : Env) (s : St) (U : List (Env × St) → Env → St → Prop) : Prop :=
  if b = true then (∃ v s1, evOp noCall o e s = some (v, s1) ∧ WT T X r (e.put d v) s1 (Tr e s U)) else WT T X r (e.put d undefA) s (Tr e s U)
theorem wt_grd {T : Nat → Option CF} {X : Ext} {d : Option Nat} {o : COp} {r : List CO} {g : Option Nat × Bool} {e : Env} {s : St} {U : List (Env × St) → Env → St → Prop} (hc : opk o = 0) : WT T X (⟨d, some g, o⟩ :: r) e s U ↔ GrdT T X (wantedA e (some g)) d o r e s U := by
  have ha := opk_alloc hc
  unfold GrdT
  constructor
  · rintro ⟨n, e', s', h, hq⟩
    by_cases hg : wantedA e (some g) = true
    · rw [if_pos hg]
      simp only [evRest, ha] at h
      rw [if_neg (by simp), if_pos hg, evOp_pure (by omega)] at h
      split at h
      · rename_i v s1 h1
        refine ⟨v, s1, h1, n, e', s', h, ?_⟩
        simp only [evTr, ha] at hq
        rw [if_neg (by simp), if_pos hg, evOp_pure (by omega), h1] at hq
        exact hq
      · cases h
    · rw [if_neg hg]
      simp only [evRest, ha] at h
      rw [if_neg (by simp), if_neg hg] at h
      refine ⟨n, e', s', h, ?_⟩
      simp only [evTr, ha] at hq
      rw [if_neg (by simp), if_neg hg] at hq
      exact hq
  · intro h
    split at h
    · rename_i hg
      obtain ⟨v, s1, h1, h2⟩ := h
      exact WT_op ha hg h1 h2
    · rename_i hg
      exact WT_off ha (by simpa using hg) h
theorem wt_gs : (∀ (T : Nat → Option CF) (X : Ext) (d : Option Nat) (r : List CO) (g : Option Nat × Bool) (e : Env) (s : St) (U : List (Env × St) → Env → St → Prop) x0, WT T X (⟨d, some g, .mv x0⟩ :: r) e s U ↔ GrdT T X (wantedA e (some g)) d (.mv x0) r e s U) ∧
    (∀ (T : Nat → Option CF) (X : Ext) (d : Option Nat) (r : List CO) (g : Option Nat × Bool) (e : Env) (s : St) (U : List (Env × St) → Env → St → Prop) x0 x1 x2, WT T X (⟨d, some g, .bin x0 x1 x2⟩ :: r) e s U ↔ GrdT T X (wantedA e (some g)) d (.bin x0 x1 x2) r e s U) ∧
    (∀ (T : Nat → Option CF) (X : Ext) (d : Option Nat) (r : List CO) (g : Option Nat × Bool) (e : Env) (s : St) (U : List (Env × St) → Env → St → Prop) x0 x1 x2, WT T X (⟨d, some g, .load x0 x1 x2⟩ :: r) e s U ↔ GrdT T X (wantedA e (some g)) d (.load x0 x1 x2) r e s U) ∧
    (∀ (T : Nat → Option CF) (X : Ext) (d : Option Nat) (r : List CO) (g : Option Nat × Bool) (e : Env) (s : St) (U : List (Env × St) → Env → St → Prop) x0 x1 x2, WT T X (⟨d, some g, .iaddr x0 x1 x2⟩ :: r) e s U ↔ GrdT T X (wantedA e (some g)) d (.iaddr x0 x1 x2) r e s U) ∧
    (∀ (T : Nat → Option CF) (X : Ext) (d : Option Nat) (r : List CO) (g : Option Nat × Bool) (e : Env) (s : St) (U : List (Env × St) → Env → St → Prop) x0 x1 x2, WT T X (⟨d, some g, .pick x0 x1 x2⟩ :: r) e s U ↔ GrdT T X (wantedA e (some g)) d (.pick x0 x1 x2) r e s U) ∧
    (∀ (T : Nat → Option CF) (X : Ext) (d : Option Nat) (r : List CO) (g : Option Nat × Bool) (e : Env) (s : St) (U : List (Env × St) → Env → St → Prop) x0, WT T X (⟨d, some g, .len x0⟩ :: r) e s U ↔ GrdT T X (wantedA e (some g)) d (.len x0) r e s U) ∧
    (∀ (T : Nat → Option CF) (X : Ext) (d : Option Nat) (r : List CO) (g : Option Nat × Bool) (e : Env) (s : St) (U : List (Env × St) → Env → St → Prop) x0, WT T X (⟨d, some g, .lens x0⟩ :: r) e s U ↔ GrdT T X (wantedA e (some g)) d (.lens x0) r e s U) ∧
    (∀ (T : Nat → Option CF) (X : Ext) (d : Option Nat) (r : List CO) (g : Option Nat × Bool) (e : Env) (s : St) (U : List (Env × St) → Env → St → Prop) x0 x1, WT T X (⟨d, some g, .faddr x0 x1⟩ :: r) e s U ↔ GrdT T X (wantedA e (some g)) d (.faddr x0 x1) r e s U) ∧
    (∀ (T : Nat → Option CF) (X : Ext) (d : Option Nat) (r : List CO) (g : Option Nat × Bool) (e : Env) (s : St) (U : List (Env × St) → Env → St → Prop) x0, WT T X (⟨d, some g, .nilc x0⟩ :: r) e s U ↔ GrdT T X (wantedA e (some g)) d (.nilc x0) r e s U) ∧
    (∀ (T : Nat → Option CF) (X : Ext) (d : Option Nat) (r : List CO) (g : Option Nat × Bool) (e : Env) (s : St) (U : List (Env × St) → Env → St → Prop) x0 x1 x2 x3, WT T X (⟨d, some g, .fld x0 x1 x2 x3⟩ :: r) e s U ↔ GrdT T X (wantedA e (some g)) d (.fld x0 x1 x2 x3) r e s U) := by
  refine ⟨?_, ?_, ?_, ?_, ?_, ?_, ?_, ?_, ?_, ?_⟩ <;> intros <;> exact wt_grd rfl
theorem grdT_t {T : Nat → Option CF} {X : Ext} {d : Option Nat} {o : COp} {r : List CO} {e : Env} {s : St} {U : List (Env × St) → Env → St → Prop} : GrdT T X true d o r e s U ↔ StpT T X (evOp noCall o e s) d r e (Tr e s U) := by simp [GrdT, StpT]
theorem grdT_f {T : Nat → Option CF} {X : Ext} {d : Option Nat} {o : COp} {r : List CO} {e : Env} {s : St} {U : List (Env × St) → Env → St → Prop} : GrdT T X false d o r e s U ↔ WT T X r (e.put d undefA) s (Tr e s U) := by simp [GrdT]
theorem WT_callg {T : Nat → Option CF} {X : Ext} {d : Option Nat} {f : Nat} {args : List Opd} {r : List CO} {g : Option (Option Nat × Bool)} {e : Env} {s : St} {U : List (Env × St) → Env → St → Prop} (as' : List AV) (hg : wantedA e g = true) (ha : args.map (Opd.ev e) = as')
    (h : WC T X f as' s (fun v s1 => WT T X r (e.put d v) s1 (Tr e s U))) : WT T X (⟨d, g, .call f args⟩ :: r) e s U := by
  subst ha; exact WT_call hg h

/-- The room: within bounds. -/
def wi (n : Int) : Int := (n.tmod 41 + 41).tmod 41
theorem wi_b (n : Int) : 0 ≤ wi n ∧ wi n ≤ 40 := by
  have b1 : -(41 : Int) < n.tmod 41 ∧ n.tmod 41 < 41 := ⟨by have h1 := Int.natAbs_tmod n 41; have h2 := Nat.mod_lt n.natAbs (show 0 < (41 : Int).natAbs by decide); omega, Int.tmod_lt_of_pos n (by omega)⟩
  have b2 : 0 ≤ (n.tmod 41 + (41 : Int)).tmod 41 ∧ (n.tmod 41 + (41 : Int)).tmod 41 < 41 := ⟨Int.tmod_nonneg _ (by omega), Int.tmod_lt_of_pos _ (by omega)⟩
  unfold wi; omega
theorem within_law (n : Int) (s : St) : WC T xv 7 [.int .i64 n, .int .i64 0, .int .i64 40] s (fun v s' => v = .int .i64 (wi n) ∧ s' = s) := by
  refine WC_fn cf7 rfl T7 (by simp [cf7]) ?_
  have b1 : -(41 : Int) < n.tmod 41 ∧ n.tmod 41 < 41 := ⟨by have h1 := Int.natAbs_tmod n 41; have h2 := Nat.mod_lt n.natAbs (show 0 < (41 : Int).natAbs by decide); omega, Int.tmod_lt_of_pos n (by omega)⟩
  have hw := wi_b n
  have w1 : IntKind.i64.wrap (40 - 0) = 40 := by rw [IntKind.wrap_i64]; omega
  have w2 : IntKind.i64.wrap (40 + 1) = 41 := by rw [IntKind.wrap_i64]; omega
  have w3 : IntKind.i64.wrap (n.tmod 41 + 41) = n.tmod 41 + 41 := by rw [IntKind.wrap_i64]; omega
  have w4 : IntKind.i64.wrap (0 + (n.tmod 41 + 41).tmod 41) = wi n := by rw [IntKind.wrap_i64]; unfold wi at hw ⊢; omega
  have hne : (41 : Int) ≠ 0 := by decide
  simp only [cf7, w1, w2, w3, w4, hne, ne_eq, not_false_eq_true, go_sem, ↓reduceIte, reduceCtorEq, Nat.reduceEqDiff, Nat.reduceAdd, Nat.reduceSub, Nat.reduceMul, Nat.reduceLeDiff, Nat.reduceLT, loadA, rdCells, storeA, setAt, binA]
  exact ⟨by simp, _, rfl, rfl⟩

theorem ba_ext {a b : ByteArray} (h : (a.toList == b.toList) = true) : a = b := by
  have := eq_of_beq h
  simp only [ByteArray.toList_eq] at this
  exact ByteArray.ext (Array.toList_inj.1 this)
theorem index_law {v : AV} {l : List ByteArray} (s : St) (h : ISl strc v l) (hb : l.length ≤ big) (x : ByteArray) (hx : x ∉ l) : WC T xv 20 [v, .str x] s (fun r s' => r = .int .i64 (-1) ∧ s' = s) := by
  refine WC_fn cf20 rfl T20 (by simp [cf20]) ?_
  simp only [big] at hb
  simp only [cf20, h.len, go_sem, ↓reduceIte, reduceCtorEq, Nat.reduceEqDiff, Nat.reduceAdd, Nat.reduceSub, Nat.reduceMul, Nat.reduceLeDiff, Nat.reduceLT, loadA, rdCells, storeA, setAt, binA]
  refine W_loop_nat (fun k e s1 => ∃ i, i + k = l.length ∧ e 0 = v ∧ e 1 = .str x ∧ e 7 = .int .i64 l.length ∧ e 8 = .int .i64 i ∧ s1 = s) ?_ l.length _ _ ⟨0, by simp, ?_⟩
  · rintro k e s1 ⟨i, hik, h0, h1, h7, h8, rfl⟩
    by_cases hi : i < l.length
    · obtain ⟨y, hy⟩ : ∃ y, l[i]? = some y := ⟨_, List.getElem?_eq_getElem hi⟩
      have hd : decide ((i : Int) < (l.length : Int)) = true := by simp; omega
      have hwi : IntKind.i64.wrap ((i : Int) + 1) = ((i + 1 : Nat) : Int) := by rw [IntKind.wrap_i64]; omega
      have hxy : (x.toList == y.toList) = false := by
        cases hc : (x.toList == y.toList) with
        | false => rfl
        | true => exact absurd (List.mem_of_getElem? hy) (by rw [← ba_ext hc]; exact hx)
      simp only [cf20_l0, h0, h1, h7, h8, hd, h.at strc_len hy, strc, hxy, hwi, go_sem, ↓reduceIte, reduceCtorEq, Nat.reduceEqDiff, Nat.reduceAdd, Nat.reduceSub, Nat.reduceMul, Nat.reduceLeDiff, Nat.reduceLT, loadA, rdCells, storeA, setAt, binA]
      exact ⟨k - 1, by omega, i + 1, by omega, rfl⟩
    · have hd : decide ((i : Int) < (l.length : Int)) = false := by simp; omega
      simp only [cf20_l0, h0, h1, h7, h8, hd, go_sem, ↓reduceIte, reduceCtorEq, Nat.reduceEqDiff, Nat.reduceAdd, Nat.reduceSub, Nat.reduceMul, Nat.reduceLeDiff, Nat.reduceLT, loadA, rdCells, storeA, setAt, binA]
      exact ⟨by simp, _, rfl, rfl⟩
  · simp only [go_sem, ↓reduceIte, reduceCtorEq, Nat.reduceEqDiff, Nat.reduceAdd, Nat.reduceSub, Nat.reduceMul, Nat.reduceLeDiff, Nat.reduceLT, loadA, rdCells, storeA, setAt, binA]
    trivial
theorem contains_law {v : AV} {l : List ByteArray} (s : St) (h : ISl strc v l) (hb : l.length ≤ big) (x : ByteArray) (hx : x ∉ l) : WC T xv 11 [v, .str x] s (fun r s' => r = .bool false ∧ s' = s) := by
  refine WC_fn cf11 rfl T11 (by simp [cf11]) ?_
  simp only [cf11, go_sem, ↓reduceIte, reduceCtorEq, Nat.reduceEqDiff, Nat.reduceAdd, Nat.reduceSub, Nat.reduceMul, Nat.reduceLeDiff, Nat.reduceLT, loadA, rdCells, storeA, setAt, binA]
  refine WO_callx [v, .str x] (by simp only [go_sem, ↓reduceIte, reduceCtorEq, Nat.reduceEqDiff, Nat.reduceAdd, Nat.reduceSub, Nat.reduceMul, Nat.reduceLeDiff, Nat.reduceLT, loadA, rdCells, storeA, setAt, binA]) ((index_law s h hb x hx).mono ?_)
  rintro r s1 ⟨rfl, rfl⟩
  simp only [go_sem, ↓reduceIte, reduceCtorEq, Nat.reduceEqDiff, Nat.reduceAdd, Nat.reduceSub, Nat.reduceMul, Nat.reduceLeDiff, Nat.reduceLT, loadA, rdCells, storeA, setAt, binA]
  exact ⟨by simp, _, rfl, rfl⟩
end Go.Am.V1
