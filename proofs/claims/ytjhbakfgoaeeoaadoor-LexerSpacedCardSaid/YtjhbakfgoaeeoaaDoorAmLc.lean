/- LexerLines: a string with a byte appended. Conditions: none. -/
import Derived.Test.YtjhbakfgoaeeoaaDoorAmLb
set_option linter.unusedSimpArgs false
set_option linter.unusedVariables false
namespace Go.Am.L1
set_option maxRecDepth 100000
set_option linter.unusedSimpArgs false
attribute [local go_sem] wseq wreg wdreg wret wskip wexit wblock wcnd cnd_t cnd_f then_n then_x then_r catch_n rnd_n rnd_x rnd_r catch_x catch_r wo_nil wo_grd grdO_t grdO_f wo_ops stpO wr_nil wr_alloc wr_guards grdR_t grdR_f wr_ops stpR evAllocs evOp env0_app eput_some eput_none eset_app Opd.ev wantedA faddrA storeA setAt snew_obj snew_size sput_obj sput_size av_cells av_one av_strip av_still unA eqbA fillA fldA lensA mmA mm2 mmFold List.getD_cons_zero List.getD_cons_succ List.getD_nil List.length_cons List.length_nil List.drop_zero List.drop_succ_cons List.take_succ_cons List.take_zero List.map_cons List.map_nil List.set_cons_zero List.set_cons_succ List.all_cons List.all_nil List.getElem?_cons_zero List.getElem?_cons_succ List.nil_append List.cons_append Nat.zero_add Nat.add_zero beq_self_eq_true bt bf Bool.not_true Bool.not_false Bool.and_true Bool.true_and Bool.and_false Bool.false_and and_self and_true true_and n0 n1 n2 n3 n4 m0 m1 m2 m3 c1 retA resAs resA undefA Option.map_some Option.map_none

def kwS : ByteArray := ⟨#[32, 109, 111, 100, 117, 108, 101, 32, 105, 109, 112, 111, 114, 116, 32, 101, 120, 112, 111, 114, 116, 32, 100, 97, 116, 97, 32, 99, 108, 97, 115, 115, 32, 105, 110, 115, 116, 97, 110, 99, 101, 32, 101, 102, 102, 101, 99, 116, 32, 119, 104, 101, 114, 101, 32, 108, 101, 116, 32, 105, 110, 32, 105, 102, 32, 116, 104, 101, 110, 32, 101, 108, 115, 101, 32, 99, 97, 115, 101, 32, 111, 102, 32, 104, 97, 110, 100, 108, 101, 32, 119, 105, 116, 104, 32, 105, 110, 102, 105, 120, 108, 32, 105, 110, 102, 105, 120, 114, 32, 105, 110, 102, 105, 120, 32, 114, 101, 116, 117, 114, 110, 32, 32, 61, 32, 45, 62, 32, 61, 62, 32, 58, 32, 124, 32, 92, 32, 46, 32, 33, 32]⟩
theorem kwS_size : kwS.size = 141 := by simp [kwS, ByteArray.size]
def spS : ByteArray := ⟨#[32]⟩
def kwB (t : ByteArray) : Bool := !(t.toList == (⟨#[]⟩ : ByteArray).toList) && (!Lib.contains (bts t) (bts spS) && Lib.contains (bts kwS) (bts (spS ++ t ++ spS)))

theorem mx : IntKind.i64.max = 9223372036854775807 := by decide
theorem add_str {a b : ByteArray} (h : ((a.size + b.size : Nat) : Int) ≤ IntKind.i64.max) : binA .add (.str a) (.str b) = some (.str (a ++ b)) := if_pos h
theorem le_max {n : Nat} (h : n ≤ 1000000000) : (n : Int) ≤ IntKind.i64.max := by rw [mx]; omega
/-- An operation on two values, told by what it comes to: the kernel is kept from reckoning with a length that is not known. -/
theorem ev_bin {op : BinOp} {x y : Opd} {e : Env} {s : St} {a b v : AV} (hx : x.ev e = a) (hy : y.ev e = b) (h : binA op a b = some v) : evOp noCall (.bin op x y) e s = some (v, s) := by simp only [evOp, hx, hy, h]

theorem kw_law (t : ByteArray) (ht : t.size ≤ 100000) (s : St) : WC T xs 117 [.str t] s (fun v s' => v = .bool (kwB t) ∧ s' = s) := by
  refine WC_fn cf117 rfl T117 (by simp [cf117]) ?_
  have z1 : (⟨#[32]⟩ : ByteArray).size = 1 := rfl
  have z2 : spS.size = 1 := rfl
  obtain ⟨u1, hu1, a1⟩ : ∃ u, u = spS ++ t ∧ binA .add (.str ⟨#[32]⟩) (.str t) = some (.str u) := ⟨_, rfl, add_str (a := spS) (le_max (by omega))⟩
  obtain ⟨u2, hu2, a2⟩ : ∃ u, u = u1 ++ spS ∧ binA .add (.str u1) (.str ⟨#[32]⟩) = some (.str u) := ⟨_, rfl, add_str (b := spS) (le_max (by rw [hu1, ByteArray.size_append]; omega))⟩
  have hkw : kwB t = (!(t.toList == (⟨#[]⟩ : ByteArray).toList) && (!Lib.contains (bts t) (bts spS) && Lib.contains (bts kwS) (bts u2))) := by rw [hu2, hu1]; rfl
  simp only [cf117, go_sem, ↓reduceIte, reduceCtorEq, Nat.reduceEqDiff, Nat.reduceAdd, Nat.reduceSub, Nat.reduceMul, Nat.reduceLeDiff, Nat.reduceLT, loadA, rdCells, binA]
  cases h1 : (t.toList == (⟨#[]⟩ : ByteArray).toList)
  · simp only [h1, go_sem, ↓reduceIte, reduceCtorEq, Nat.reduceEqDiff, Nat.reduceAdd, Nat.reduceSub, Nat.reduceMul, Nat.reduceLeDiff, Nat.reduceLT, loadA, rdCells, binA]
    refine WO_callx [.str t, .str spS] (by simp only [go_sem, ↓reduceIte, reduceCtorEq, Nat.reduceEqDiff, Nat.reduceAdd, Nat.reduceSub, Nat.reduceMul, Nat.reduceLeDiff, Nat.reduceLT, loadA, rdCells, binA]; rfl) (WC_ext (h := hasX) rfl (by simp only [hasX]; rw [if_pos (by omega)]) ?_)
    simp only [go_sem, ↓reduceIte, reduceCtorEq, Nat.reduceEqDiff, Nat.reduceAdd, Nat.reduceSub, Nat.reduceMul, Nat.reduceLeDiff, Nat.reduceLT, loadA, rdCells, binA]
    cases h2 : Lib.contains (bts t) (bts spS)
    · simp only [h2, go_sem, ↓reduceIte, reduceCtorEq, Nat.reduceEqDiff, Nat.reduceAdd, Nat.reduceSub, Nat.reduceMul, Nat.reduceLeDiff, Nat.reduceLT, loadA, rdCells]
      rw [a1]
      refine stpO.2 ?_
      refine WO_op (v := .str u2) (s1 := s) (by simp only [go_sem, ↓reduceIte, reduceCtorEq, Nat.reduceEqDiff, Nat.reduceAdd, Nat.reduceSub, Nat.reduceMul, Nat.reduceLeDiff, Nat.reduceLT, loadA, rdCells]) (ev_bin (a := .str u1) (b := .str ⟨#[32]⟩) (by simp only [go_sem, ↓reduceIte, reduceCtorEq, Nat.reduceEqDiff, Nat.reduceAdd, Nat.reduceSub, Nat.reduceMul, Nat.reduceLeDiff, Nat.reduceLT, loadA, rdCells]) (by simp only [go_sem, ↓reduceIte, reduceCtorEq, Nat.reduceEqDiff, Nat.reduceAdd, Nat.reduceSub, Nat.reduceMul, Nat.reduceLeDiff, Nat.reduceLT, loadA, rdCells]) a2) ?_
      simp only [go_sem, ↓reduceIte, reduceCtorEq, Nat.reduceEqDiff, Nat.reduceAdd, Nat.reduceSub, Nat.reduceMul, Nat.reduceLeDiff, Nat.reduceLT, loadA, rdCells]
      refine WO_callx [.str kwS, .str u2] (by simp only [go_sem, ↓reduceIte, reduceCtorEq, Nat.reduceEqDiff, Nat.reduceAdd, Nat.reduceSub, Nat.reduceMul, Nat.reduceLeDiff, Nat.reduceLT, loadA, rdCells, binA]; rfl) (WC_ext (h := hasX) rfl (by simp only [hasX]; rw [if_pos (by have := kwS_size; omega)]) ?_)
      simp only [go_sem, ↓reduceIte, reduceCtorEq, Nat.reduceEqDiff, Nat.reduceAdd, Nat.reduceSub, Nat.reduceMul, Nat.reduceLeDiff, Nat.reduceLT, loadA, rdCells, binA]
      exact ⟨by simp, _, rfl, by simp only [hkw, h1, h2, Bool.not_false, Bool.not_true, Bool.true_and, Bool.false_and, Bool.and_false]⟩
    · simp only [h2, go_sem, ↓reduceIte, reduceCtorEq, Nat.reduceEqDiff, Nat.reduceAdd, Nat.reduceSub, Nat.reduceMul, Nat.reduceLeDiff, Nat.reduceLT, loadA, rdCells, binA]
      exact ⟨by simp, _, rfl, by simp only [hkw, h1, h2, Bool.not_false, Bool.not_true, Bool.true_and, Bool.false_and, Bool.and_false]⟩
  · simp only [h1, go_sem, ↓reduceIte, reduceCtorEq, Nat.reduceEqDiff, Nat.reduceAdd, Nat.reduceSub, Nat.reduceMul, Nat.reduceLeDiff, Nat.reduceLT, loadA, rdCells, binA]
    exact ⟨by simp, _, rfl, by simp only [hkw, h1, Bool.not_true, Bool.false_and]⟩

theorem word_inv {N : Nat} {S : St} {p : Nat} {s : ByteArray} {a l c : Nat} {tk : List Tk} {ds : List Dg} (h : Inv N S p s a l c tk ds) (kind : Int) (t : ByteArray) (ht : a + t.size ≤ 100000) (hc : c + t.size ≤ 100000) (hl : tk.length ≤ 100000) :
    WC T xs 85 [.ptr p 0, .int .i64 kind, .str t] S (fun _ S' => Inv N S' p s (a + t.size) l (c + t.size) (tk ++ [⟨if kwB t then 4 else kind, t, 0, l, c⟩]) ds ∧ Low N S S') := by
  refine WC_fn cf85 rfl T85 (by simp [cf85]) ?_
  simp only [cf85, go_sem, ↓reduceIte, reduceCtorEq, Nat.reduceEqDiff, Nat.reduceAdd, Nat.reduceSub, Nat.reduceMul, Nat.reduceLeDiff, Nat.reduceLT, loadA, rdCells, binA]
  refine WO_callx [.str t] (by simp only [go_sem, ↓reduceIte, reduceCtorEq, Nat.reduceEqDiff, Nat.reduceAdd, Nat.reduceSub, Nat.reduceMul, Nat.reduceLeDiff, Nat.reduceLT, loadA, rdCells, binA]) ((kw_law t (by omega) S).mono ?_)
  rintro v S1 ⟨rfl, rfl⟩
  simp only [go_sem, ↓reduceIte, reduceCtorEq, Nat.reduceEqDiff, Nat.reduceAdd, Nat.reduceSub, Nat.reduceMul, Nat.reduceLeDiff, Nat.reduceLT, loadA, rdCells, binA]
  cases hk : kwB t
  · simp only [go_sem, ↓reduceIte, reduceCtorEq, Nat.reduceEqDiff, Nat.reduceAdd, Nat.reduceSub, Nat.reduceMul, Nat.reduceLeDiff, Nat.reduceLT, loadA, rdCells, binA]
    refine WO_callx [.ptr p 0, .int .i64 kind, .str t, .int .i64 0] (by simp only [go_sem, ↓reduceIte, reduceCtorEq, Nat.reduceEqDiff, Nat.reduceAdd, Nat.reduceSub, Nat.reduceMul, Nat.reduceLeDiff, Nat.reduceLT, loadA, rdCells, binA]) ((put_inv h kind 0 t ht hc hl).mono ?_)
    rintro v S2 ⟨h2, h3⟩
    simp only [go_sem, ↓reduceIte, reduceCtorEq, Nat.reduceEqDiff, Nat.reduceAdd, Nat.reduceSub, Nat.reduceMul, Nat.reduceLeDiff, Nat.reduceLT, loadA, rdCells, binA]
    exact ⟨by simp, _, rfl, h2, h3⟩
  · simp only [go_sem, ↓reduceIte, reduceCtorEq, Nat.reduceEqDiff, Nat.reduceAdd, Nat.reduceSub, Nat.reduceMul, Nat.reduceLeDiff, Nat.reduceLT, loadA, rdCells, binA]
    refine WO_callx [.ptr p 0, .int .i64 4, .str t, .int .i64 0] (by simp only [go_sem, ↓reduceIte, reduceCtorEq, Nat.reduceEqDiff, Nat.reduceAdd, Nat.reduceSub, Nat.reduceMul, Nat.reduceLeDiff, Nat.reduceLT, loadA, rdCells, binA]) ((put_inv h 4 0 t ht hc hl).mono ?_)
    rintro v S2 ⟨h2, h3⟩
    simp only [go_sem, ↓reduceIte, reduceCtorEq, Nat.reduceEqDiff, Nat.reduceAdd, Nat.reduceSub, Nat.reduceMul, Nat.reduceLeDiff, Nat.reduceLT, loadA, rdCells, binA]
    exact ⟨by simp, _, rfl, h2, h3⟩

/-- What digits come to, up to a bound. -/
def numStep (n : Int) (b : UInt8) : Int := if (1073741824 : Int) < n * 10 + ((b.toNat : Int) - 48) then 1073741824 else n * 10 + ((b.toNat : Int) - 48)
def numL (l : List UInt8) : Int := l.foldl numStep 0
theorem numStep_rng {n : Int} {b : UInt8} (h0 : 0 ≤ n) (h1 : n ≤ 1073741824) (hb : 48 ≤ b.toNat) : 0 ≤ numStep n b ∧ numStep n b ≤ 1073741824 := by
  unfold numStep; split <;> omega

theorem digit_b {b : UInt8} (h : digitZ b.toNat = true) : 48 ≤ b.toNat ∧ b.toNat ≤ 57 := by
  simp only [digitZ, Bool.and_eq_true, decide_eq_true_eq] at h; omega
theorem tw_all {q : UInt8 → Bool} {l : List UInt8} {b : UInt8} (h : b ∈ l.takeWhile q) : q b = true := by
  induction l with
  | nil => simp at h
  | cons x r ih =>
    rw [List.takeWhile_cons] at h
    split at h
    · rcases List.mem_cons.1 h with rfl | h
      · assumption
      · exact ih h
    · simp at h

def digB (b : UInt8) : Bool := digitZ b.toNat
def innB (b : UInt8) : Bool := innerZ b.toNat
def mrkB (b : UInt8) : Bool := markZ b.toNat
def nnlB (b : UInt8) : Bool := ((b.toNat : Int) != 10)

theorem number_inv {N : Nat} {S : St} {p : Nat} {s : ByteArray} {a l c : Nat} {tk : List Tk} {ds : List Dg} (h : Inv N S p s a l c tk ds) (hb : s.size ≤ 50000) (ha : a ≤ s.size) (hc : c ≤ 50000) (hl : tk.length ≤ 100000) (hd : ds.length ≤ 100000)
    {t : ByteArray} (ht : t = ofB (((bts s).drop a).takeWhile digB)) :
    WC T xs 90 [.ptr p 0] S (fun _ S' => Inv N S' p s (a + t.size) l (c + t.size) (tk ++ [⟨2, t, if numL (bts t) > 1073741823 then 0 else numL (bts t), l, c⟩]) (if numL (bts t) > 1073741823 then ds ++ [⟨4, l, c⟩] else ds) ∧ Low N S S') := by
  refine WC_fn cf90 rfl T90 (by simp [cf90]) ?_
  obtain ⟨ov, bv, hT, -, -, -⟩ := h.ex
  simp only [cf90, go_sem, ↓reduceIte, reduceCtorEq, Nat.reduceEqDiff, Nat.reduceAdd, Nat.reduceSub, Nat.reduceMul, Nat.reduceLeDiff, Nat.reduceLT, loadA, rdCells, binA]
  refine WO_callx [.ptr p 0, .func 89 []] (by simp only [go_sem, ↓reduceIte, reduceCtorEq, Nat.reduceEqDiff, Nat.reduceAdd, Nat.reduceSub, Nat.reduceMul, Nat.reduceLeDiff, Nat.reduceLT, loadA, rdCells, binA]) ((run_law hT.scn (by omega) ha (q := digB) (fun b S => digit_law b.toNat S)).mono ?_)
  rintro v S1 ⟨rfl, rfl⟩
  rw [← ht]
  simp only [go_sem, ↓reduceIte, reduceCtorEq, Nat.reduceEqDiff, Nat.reduceAdd, Nat.reduceSub, Nat.reduceMul, Nat.reduceLeDiff, Nat.reduceLT, loadA, rdCells, binA]
  have hdig : ∀ (i : Nat) b, (bts t)[i]? = some b → 48 ≤ b.toNat ∧ b.toNat ≤ 57 := fun i b hib => by
    have hm := List.mem_of_getElem? hib
    rw [ht] at hm
    exact digit_b (tw_all (q := digB) hm)
  have htl : (bts t).length = t.size := bts_len t
  have hts : t.size ≤ s.size := by
    rw [← htl, ht]
    have h1 : (bts (ofB (((bts s).drop a).takeWhile digB))).length = (((bts s).drop a).takeWhile digB).length := rfl
    rw [h1]
    have := (List.takeWhile_sublist digB (l := (bts s).drop a)).length_le
    rw [List.length_drop, bts_len] at this; omega
  refine W_loop_nat (fun k e S2 => ∃ i, i + k = t.size ∧ e 0 = .ptr p 0 ∧ e 2 = .str t ∧ e 3 = .int .i64 (numL ((bts t).take i)) ∧ e 8 = .int .i64 t.size ∧ e 9 = .int .i64 i ∧ 0 ≤ numL ((bts t).take i) ∧ numL ((bts t).take i) ≤ 1073741824 ∧ S2 = S1) ?_ t.size _ _ ⟨0, by omega, by simp only [go_sem, ↓reduceIte, reduceCtorEq, Nat.reduceEqDiff, Nat.reduceAdd, Nat.reduceSub, Nat.reduceMul, Nat.reduceLeDiff, Nat.reduceLT, loadA, rdCells, binA], by simp only [go_sem, ↓reduceIte, reduceCtorEq, Nat.reduceEqDiff, Nat.reduceAdd, Nat.reduceSub, Nat.reduceMul, Nat.reduceLeDiff, Nat.reduceLT, loadA, rdCells, binA], by simp only [go_sem, ↓reduceIte, reduceCtorEq, Nat.reduceEqDiff, Nat.reduceAdd, Nat.reduceSub, Nat.reduceMul, Nat.reduceLeDiff, Nat.reduceLT, loadA, rdCells, binA]; rfl, by simp only [go_sem, ↓reduceIte, reduceCtorEq, Nat.reduceEqDiff, Nat.reduceAdd, Nat.reduceSub, Nat.reduceMul, Nat.reduceLeDiff, Nat.reduceLT, loadA, rdCells, binA], by simp only [go_sem, ↓reduceIte, reduceCtorEq, Nat.reduceEqDiff, Nat.reduceAdd, Nat.reduceSub, Nat.reduceMul, Nat.reduceLeDiff, Nat.reduceLT, loadA, rdCells, binA]; rfl, by simp [numL], by simp [numL], rfl⟩
  rintro k e S2 ⟨i, hik, e0, e2, e3, e8, e9, r0, r1, rfl⟩
  by_cases hi : i < t.size
  · have hdc : decide ((i : Int) < (t.size : Int)) = true := by simp; omega
    obtain ⟨b, hbi⟩ : ∃ b, (bts t)[i]? = some b := ⟨_, List.getElem?_eq_getElem (by rw [htl]; exact hi)⟩
    obtain ⟨b0, b1⟩ := hdig i b hbi
    have w1 : IntKind.i64.wrap (numL ((bts t).take i) * 10) = numL ((bts t).take i) * 10 := by rw [IntKind.wrap_i64]; omega
    have w2 : IntKind.u8.wrap ((b.toNat : Int) - 48) = (b.toNat : Int) - 48 := by simp only [IntKind.wrap, IntKind.bits, IntKind.signed]; simp; omega
    have w3 : IntKind.i64.wrap ((b.toNat : Int) - 48) = (b.toNat : Int) - 48 := by rw [IntKind.wrap_i64]; omega
    have w4 : IntKind.i64.wrap (numL ((bts t).take i) * 10 + ((b.toNat : Int) - 48)) = numL ((bts t).take i) * 10 + ((b.toNat : Int) - 48) := by rw [IntKind.wrap_i64]; omega
    have w5 : IntKind.i64.wrap ((i : Int) + 1) = ((i + 1 : Nat) : Int) := by rw [IntKind.wrap_i64]; omega
    have hst : numL ((bts t).take (i + 1)) = numStep (numL ((bts t).take i)) b := by
      rw [numL, List.take_add_one, hbi, List.foldl_append]; rfl
    have hst' : (if (1073741824 : Int) < numL ((bts t).take i) * 10 + ((b.toNat : Int) - 48) then (1073741824 : Int) else numL ((bts t).take i) * 10 + ((b.toNat : Int) - 48)) = numL ((bts t).take (i + 1)) := by rw [hst]; rfl
    obtain ⟨r2, r3⟩ := numStep_rng r0 r1 b0
    rw [← hst] at r2 r3
    simp only [cf90_l0, e0, e2, e3, e8, e9, hdc, idx_at hbi, w1, w2, w3, w4, w5, go_sem, ↓reduceIte, reduceCtorEq, Nat.reduceEqDiff, Nat.reduceAdd, Nat.reduceSub, Nat.reduceMul, Nat.reduceLeDiff, Nat.reduceLT, loadA, rdCells, binA]
    refine ⟨k - 1, by omega, i + 1, by omega, ?_, rfl, r2, r3⟩
    rw [hst']
  · obtain rfl : i = t.size := by omega
    have hdc : decide ((t.size : Int) < (t.size : Int)) = false := by simp
    have hall : (bts t).take t.size = bts t := List.take_of_length_le (by rw [htl]; omega)
    rw [hall] at e3 r0 r1
    simp only [cf90_l0, e0, e2, e3, e8, e9, hdc, go_sem, ↓reduceIte, reduceCtorEq, Nat.reduceEqDiff, Nat.reduceAdd, Nat.reduceSub, Nat.reduceMul, Nat.reduceLeDiff, Nat.reduceLT, loadA, rdCells, binA]
    cases hg : decide (numL (bts t) > 1073741823)
    · have hg' : ¬ numL (bts t) > 1073741823 := of_decide_eq_false hg
      rw [if_neg hg', if_neg hg']
      simp only [e0, e2, e3, go_sem, ↓reduceIte, reduceCtorEq, Nat.reduceEqDiff, Nat.reduceAdd, Nat.reduceSub, Nat.reduceMul, Nat.reduceLeDiff, Nat.reduceLT, loadA, rdCells, binA]
      refine WO_callx [.ptr p 0, .int .i64 2, .str t, .int .i64 (numL (bts t))] (by simp only [e0, e2, e3, go_sem, ↓reduceIte, reduceCtorEq, Nat.reduceEqDiff, Nat.reduceAdd, Nat.reduceSub, Nat.reduceMul, Nat.reduceLeDiff, Nat.reduceLT, loadA, rdCells, binA]) ((put_inv h 2 _ t (by omega) (by omega) hl).mono ?_)
      rintro v S3 ⟨h3, h4⟩
      simp only [go_sem, ↓reduceIte, reduceCtorEq, Nat.reduceEqDiff, Nat.reduceAdd, Nat.reduceSub, Nat.reduceMul, Nat.reduceLeDiff, Nat.reduceLT, loadA, rdCells, binA]
      exact ⟨by simp, _, rfl, h3, h4⟩
    · have hg' : numL (bts t) > 1073741823 := of_decide_eq_true hg
      rw [if_pos hg', if_pos hg']
      simp only [e0, e2, e3, go_sem, ↓reduceIte, reduceCtorEq, Nat.reduceEqDiff, Nat.reduceAdd, Nat.reduceSub, Nat.reduceMul, Nat.reduceLeDiff, Nat.reduceLT, loadA, rdCells, binA]
      refine WO_callx [.ptr p 0, .int .i64 4] (by simp only [e0, go_sem, ↓reduceIte, reduceCtorEq, Nat.reduceEqDiff, Nat.reduceAdd, Nat.reduceSub, Nat.reduceMul, Nat.reduceLeDiff, Nat.reduceLT, loadA, rdCells, binA]) ((fail_inv h 4 hd).mono ?_)
      rintro v S3 ⟨h3, h4⟩
      simp only [e0, e2, go_sem, ↓reduceIte, reduceCtorEq, Nat.reduceEqDiff, Nat.reduceAdd, Nat.reduceSub, Nat.reduceMul, Nat.reduceLeDiff, Nat.reduceLT, loadA, rdCells, binA]
      refine WO_callx [.ptr p 0, .int .i64 2, .str t, .int .i64 0] (by simp only [e0, e2, go_sem, ↓reduceIte, reduceCtorEq, Nat.reduceEqDiff, Nat.reduceAdd, Nat.reduceSub, Nat.reduceMul, Nat.reduceLeDiff, Nat.reduceLT, loadA, rdCells, binA]) ((put_inv h3 2 0 t (by omega) (by omega) hl).mono ?_)
      rintro v S4 ⟨h5, h6⟩
      simp only [go_sem, ↓reduceIte, reduceCtorEq, Nat.reduceEqDiff, Nat.reduceAdd, Nat.reduceSub, Nat.reduceMul, Nat.reduceLeDiff, Nat.reduceLT, loadA, rdCells, binA]
      exact ⟨by simp, _, rfl, h5, h4.trans h6⟩
end Go.Am.L1
