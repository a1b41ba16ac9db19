/- LexerLines: the library's functions it leans on; the bytes of a string. Conditions: none. -/
import Derived.Test.YtjhbakfgoaeeoaaDoorAmTl
import Derived.Test.YtjhbakfgoaeeoaaDoorAmY1
import Derived.Test.YtjhbakfgoaeeoaaDoorAmYa
set_option linter.unusedSimpArgs false
set_option linter.unusedVariables false
namespace Go.Am.L1
set_option maxRecDepth 100000
set_option linter.unusedSimpArgs false
attribute [local go_sem] wseq wreg wdreg wret wskip wexit wblock wcnd cnd_t cnd_f then_n then_x then_r catch_n rnd_n rnd_x rnd_r catch_x catch_r wo_nil wo_grd grdO_t grdO_f wo_ops stpO wr_nil wr_alloc wr_guards grdR_t grdR_f wr_ops stpR evAllocs evOp env0_app eput_some eput_none eset_app Opd.ev wantedA faddrA storeA setAt snew_obj snew_size sput_obj sput_size av_cells av_one av_strip av_still unA eqbA fillA fldA lensA mmA mm2 mmFold List.getD_cons_zero List.getD_cons_succ List.getD_nil List.length_cons List.length_nil List.drop_zero List.drop_succ_cons List.take_succ_cons List.take_zero List.map_cons List.map_nil List.set_cons_zero List.set_cons_succ List.all_cons List.all_nil List.getElem?_cons_zero List.getElem?_cons_succ List.nil_append List.cons_append Nat.zero_add Nat.add_zero beq_self_eq_true bt bf Bool.not_true Bool.not_false Bool.and_true Bool.true_and Bool.and_false Bool.false_and and_self and_true true_and n0 n1 n2 n3 n4 m0 m1 m2 m3 c1 retA resAs resA undefA Option.map_some Option.map_none

/-- The library's functions that are told by their laws. -/
def xs : Ext := fun f => if f = 24 then some countX else if f = 53 then some idx2X else if f = 80 then some cloneX else if f = 137 then some hasX else none

theorem WC_ext {f : Nat} {h : List AV → St → Option (AV × St)} {args : List AV} {s s' : St} {v : AV} {Q : AV → St → Prop} (hx : xs f = some h) (ha : h args s = some (v, s')) (hq : Q v s') : WC T xs f args s Q :=
  ⟨1, v, s', by simp only [evCall, hx]; exact ha, hq⟩

theorem bts_len (s : ByteArray) : (bts s).length = s.size := Array.length_toList

theorem idx_at {s : ByteArray} {i : Nat} {b : UInt8} (h : (bts s)[i]? = some b) : idxA (.str s) (.int .i64 i) = some (.int .u8 b.toNat) := by
  simp only [idxA]
  rw [if_pos (by omega), Int.toNat_natCast]
  have hs : s[i]? = some b := by
    obtain ⟨hi, hb⟩ := List.getElem?_eq_some_iff.1 h
    rw [bts_len] at hi
    rw [getElem?_pos s i hi]
    congr 1
  rw [hs]

/-! ### Bytes -/
def smallZ (n : Int) : Bool := (decide (n ≥ 97) && decide (n ≤ 122)) || n == 95
def largeZ (n : Int) : Bool := decide (n ≥ 65) && decide (n ≤ 90)
def digitZ (n : Int) : Bool := decide (n ≥ 48) && decide (n ≤ 57)
def innerZ (n : Int) : Bool := smallZ n || largeZ n || digitZ n || n == 39
def symS : ByteArray := ⟨#[33, 35, 36, 37, 38, 42, 43, 47, 60, 61, 62, 63, 64, 94, 124, 45, 126, 58, 46, 92]⟩
def markZ (n : Int) : Bool := decide (Lib.indexByte (bts symS) n.toNat.toUInt8 ≥ 0)

theorem small_law (n : Int) (s : St) : WC T xs 84 [.int .u8 n] s (fun v s' => v = .bool (smallZ n) ∧ s' = s) := by
  refine WC_fn cf84 rfl T84 (by simp [cf84]) ?_
  simp only [cf84, go_sem, ↓reduceIte, reduceCtorEq, Nat.reduceEqDiff, Nat.reduceAdd, Nat.reduceSub, Nat.reduceMul, Nat.reduceLeDiff, Nat.reduceLT, loadA, rdCells, binA]
  cases h1 : decide (n ≥ 97) <;> simp only [go_sem, ↓reduceIte, reduceCtorEq, Nat.reduceEqDiff, Nat.reduceAdd, Nat.reduceSub, Nat.reduceMul, Nat.reduceLeDiff, Nat.reduceLT, loadA, rdCells, binA]
  · exact ⟨by simp, _, rfl, by simp [smallZ, h1]⟩
  · cases h2 : decide (n ≤ 122) <;> simp only [go_sem, ↓reduceIte, reduceCtorEq, Nat.reduceEqDiff, Nat.reduceAdd, Nat.reduceSub, Nat.reduceMul, Nat.reduceLeDiff, Nat.reduceLT, loadA, rdCells, binA]
    · exact ⟨by simp, _, rfl, by simp [smallZ, h1, h2]⟩
    · exact ⟨by simp, _, rfl, by simp [smallZ, h1, h2]⟩
theorem large_law (n : Int) (s : St) : WC T xs 88 [.int .u8 n] s (fun v s' => v = .bool (largeZ n) ∧ s' = s) := by
  refine WC_fn cf88 rfl T88 (by simp [cf88]) ?_
  simp only [cf88, go_sem, ↓reduceIte, reduceCtorEq, Nat.reduceEqDiff, Nat.reduceAdd, Nat.reduceSub, Nat.reduceMul, Nat.reduceLeDiff, Nat.reduceLT, loadA, rdCells, binA]
  cases h1 : decide (n ≥ 65) <;> simp only [go_sem, ↓reduceIte, reduceCtorEq, Nat.reduceEqDiff, Nat.reduceAdd, Nat.reduceSub, Nat.reduceMul, Nat.reduceLeDiff, Nat.reduceLT, loadA, rdCells, binA]
  · exact ⟨by simp, _, rfl, by simp [largeZ, h1]⟩
  · exact ⟨by simp, _, rfl, by simp [largeZ, h1]⟩
theorem digit_law (n : Int) (s : St) : WC T xs 89 [.int .u8 n] s (fun v s' => v = .bool (digitZ n) ∧ s' = s) := by
  refine WC_fn cf89 rfl T89 (by simp [cf89]) ?_
  simp only [cf89, go_sem, ↓reduceIte, reduceCtorEq, Nat.reduceEqDiff, Nat.reduceAdd, Nat.reduceSub, Nat.reduceMul, Nat.reduceLeDiff, Nat.reduceLT, loadA, rdCells, binA]
  cases h1 : decide (n ≥ 48) <;> simp only [go_sem, ↓reduceIte, reduceCtorEq, Nat.reduceEqDiff, Nat.reduceAdd, Nat.reduceSub, Nat.reduceMul, Nat.reduceLeDiff, Nat.reduceLT, loadA, rdCells, binA]
  · exact ⟨by simp, _, rfl, by simp [digitZ, h1]⟩
  · exact ⟨by simp, _, rfl, by simp [digitZ, h1]⟩
theorem inner_law (n : Int) (s : St) : WC T xs 87 [.int .u8 n] s (fun v s' => v = .bool (innerZ n) ∧ s' = s) := by
  refine WC_fn cf87 rfl T87 (by simp [cf87]) ?_
  simp only [cf87, go_sem, ↓reduceIte, reduceCtorEq, Nat.reduceEqDiff, Nat.reduceAdd, Nat.reduceSub, Nat.reduceMul, Nat.reduceLeDiff, Nat.reduceLT, loadA, rdCells, binA]
  refine WO_callx [.int .u8 n] (by simp only [go_sem, ↓reduceIte, reduceCtorEq, Nat.reduceEqDiff, Nat.reduceAdd, Nat.reduceSub, Nat.reduceMul, Nat.reduceLeDiff, Nat.reduceLT, loadA, rdCells, binA]) ((small_law n s).mono ?_)
  rintro v s1 ⟨rfl, rfl⟩
  simp only [go_sem, ↓reduceIte, reduceCtorEq, Nat.reduceEqDiff, Nat.reduceAdd, Nat.reduceSub, Nat.reduceMul, Nat.reduceLeDiff, Nat.reduceLT, loadA, rdCells, binA]
  cases h1 : smallZ n <;> simp only [go_sem, ↓reduceIte, reduceCtorEq, Nat.reduceEqDiff, Nat.reduceAdd, Nat.reduceSub, Nat.reduceMul, Nat.reduceLeDiff, Nat.reduceLT, loadA, rdCells, binA]
  · refine WO_callx [.int .u8 n] (by simp only [go_sem, ↓reduceIte, reduceCtorEq, Nat.reduceEqDiff, Nat.reduceAdd, Nat.reduceSub, Nat.reduceMul, Nat.reduceLeDiff, Nat.reduceLT, loadA, rdCells, binA]) ((large_law n s1).mono ?_)
    rintro v s2 ⟨rfl, rfl⟩
    simp only [go_sem, ↓reduceIte, reduceCtorEq, Nat.reduceEqDiff, Nat.reduceAdd, Nat.reduceSub, Nat.reduceMul, Nat.reduceLeDiff, Nat.reduceLT, loadA, rdCells, binA]
    cases h2 : largeZ n <;> simp only [go_sem, ↓reduceIte, reduceCtorEq, Nat.reduceEqDiff, Nat.reduceAdd, Nat.reduceSub, Nat.reduceMul, Nat.reduceLeDiff, Nat.reduceLT, loadA, rdCells, binA]
    · refine WO_callx [.int .u8 n] (by simp only [go_sem, ↓reduceIte, reduceCtorEq, Nat.reduceEqDiff, Nat.reduceAdd, Nat.reduceSub, Nat.reduceMul, Nat.reduceLeDiff, Nat.reduceLT, loadA, rdCells, binA]) ((digit_law n s2).mono ?_)
      rintro v s3 ⟨rfl, rfl⟩
      simp only [go_sem, ↓reduceIte, reduceCtorEq, Nat.reduceEqDiff, Nat.reduceAdd, Nat.reduceSub, Nat.reduceMul, Nat.reduceLeDiff, Nat.reduceLT, loadA, rdCells, binA]
      cases h3 : digitZ n <;> simp only [go_sem, ↓reduceIte, reduceCtorEq, Nat.reduceEqDiff, Nat.reduceAdd, Nat.reduceSub, Nat.reduceMul, Nat.reduceLeDiff, Nat.reduceLT, loadA, rdCells, binA]
      · exact ⟨by simp, _, rfl, by simp [innerZ, h1, h2, h3]⟩
      · exact ⟨by simp, _, rfl, by simp [innerZ, h1, h2, h3]⟩
    · exact ⟨by simp, _, rfl, by simp [innerZ, h1, h2]⟩
  · exact ⟨by simp, _, rfl, by simp [innerZ, h1]⟩
theorem mark_law (n : Int) (s : St) : WC T xs 91 [.int .u8 n] s (fun v s' => v = .bool (markZ n) ∧ s' = s) := by
  refine WC_fn cf91 rfl T91 (by simp [cf91]) ?_
  simp only [cf91, go_sem, ↓reduceIte, reduceCtorEq, Nat.reduceEqDiff, Nat.reduceAdd, Nat.reduceSub, Nat.reduceMul, Nat.reduceLeDiff, Nat.reduceLT, loadA, rdCells, binA]
  refine WO_callx [.str symS, .int .u8 n] (by simp only [go_sem, ↓reduceIte, reduceCtorEq, Nat.reduceEqDiff, Nat.reduceAdd, Nat.reduceSub, Nat.reduceMul, Nat.reduceLeDiff, Nat.reduceLT, loadA, rdCells, binA]; rfl) (WC_ext (h := idx2X) rfl rfl ?_)
  simp only [go_sem, ↓reduceIte, reduceCtorEq, Nat.reduceEqDiff, Nat.reduceAdd, Nat.reduceSub, Nat.reduceMul, Nat.reduceLeDiff, Nat.reduceLT, loadA, rdCells, binA]
  exact ⟨by simp, _, rfl, rfl⟩
theorem nonl_law (n : Int) (s : St) : WC T xs 93 [.int .u8 n] s (fun v s' => v = .bool (n != 10) ∧ s' = s) := by
  refine WC_fn cf93 rfl T93 (by simp [cf93]) ?_
  simp only [cf93, go_sem, ↓reduceIte, reduceCtorEq, Nat.reduceEqDiff, Nat.reduceAdd, Nat.reduceSub, Nat.reduceMul, Nat.reduceLeDiff, Nat.reduceLT, loadA, rdCells, binA]
  exact ⟨by simp, _, rfl, rfl⟩

/-! ### The scanner -/
/-- A scanner at a place. -/
structure Scn (S : St) (p : Nat) (s : ByteArray) (a l c : Nat) (ov bv : AV) : Prop where
  lt : p < S.size
  obj : S.obj p = some (.cells [.str s, .int .i64 a, .int .i64 l, .int .i64 c, ov, bv])

theorem wrapN {n : Nat} (h : n ≤ 1000000) : IntKind.i64.wrap (n : Int) = (n : Int) := by rw [IntKind.wrap_i64]; omega
theorem wrapA {n m : Nat} (h : n + m ≤ 1000000) : IntKind.i64.wrap ((n : Int) + (m : Int)) = ((n + m : Nat) : Int) := by rw [IntKind.wrap_i64]; omega

theorem KeepBut.refl (p : Nat) (S : St) : KeepBut p S S := ⟨Nat.le_refl _, fun _ _ _ => rfl⟩

theorem skip_law {S : St} {p : Nat} {s : ByteArray} {a l c : Nat} {ov bv : AV} (h : Scn S p s a l c ov bv) (n : Nat) (ha : a + n ≤ 1000000) (hc : c + n ≤ 1000000) :
    WC T xs 83 [.ptr p 0, .int .i64 n] S (fun _ S' => Scn S' p s (a + n) l (c + n) ov bv ∧ KeepBut p S S' ∧ S'.size = S.size) := by
  refine WC_fn cf83 rfl T83 (by simp [cf83]) ?_
  simp only [cf83, h.obj, wrapA ha, wrapA hc, go_sem, ↓reduceIte, reduceCtorEq, Nat.reduceEqDiff, Nat.reduceAdd, Nat.reduceSub, Nat.reduceMul, Nat.reduceLeDiff, Nat.reduceLT, loadA, rdCells, binA]
  refine ⟨by simp, _, rfl, ⟨?_, ?_⟩, ?_, ?_⟩
  · have := h.lt; simpa [St.put] using this
  · exact put_eq
  · simp [St.put]
  · intro j _ hj; rw [put_ne hj, put_ne hj]

theorem tw_eq {q : UInt8 → Bool} : ∀ (l : List UInt8) (m : Nat), (∀ (j : Nat) b, j < m → l[j]? = some b → q b = true) → (∀ b, l[m]? = some b → q b = false) → l.takeWhile q = l.take m
  | [], _, _, _ => by simp
  | b :: r, 0, _, h2 => by simp [h2 b rfl]
  | b :: r, m + 1, h1, h2 => by
    have hb := h1 0 b (by omega) rfl
    rw [List.takeWhile_cons, hb, List.take_succ_cons]
    simp only [if_true]
    congr 1
    exact tw_eq r m (fun j c hj hc => h1 (j + 1) c (by omega) (by simpa using hc)) (fun c hc => h2 c (by simpa using hc))

theorem ext_eq (s : ByteArray) (a i : Nat) : s.extract a i = ofB (((bts s).drop a).take (i - a)) := by
  rw [ByteArray.ext_iff, ← Array.toList_inj]
  have hx : (s.extract a i).data = s.data.extract a i := by simp
  rw [hx, Array.toList_extract, List.extract_eq_take_drop]
  rfl

theorem run_law {S : St} {p : Nat} {s : ByteArray} {a l c : Nat} {ov bv : AV} (h : Scn S p s a l c ov bv) (hb : s.size ≤ 100000) (ha : a ≤ s.size) {f : Nat} {q : UInt8 → Bool}
    (hq : ∀ (b : UInt8) S, WC T xs f [.int .u8 b.toNat] S (fun v S' => v = .bool (q b) ∧ S' = S)) :
    WC T xs 86 [.ptr p 0, .func f []] S (fun v S' => v = .str (ofB (((bts s).drop a).takeWhile q)) ∧ S' = S) := by
  refine WC_fn cf86 rfl T86 (by simp [cf86]) ?_
  simp only [cf86, h.obj, go_sem, ↓reduceIte, reduceCtorEq, Nat.reduceEqDiff, Nat.reduceAdd, Nat.reduceSub, Nat.reduceMul, Nat.reduceLeDiff, Nat.reduceLT, loadA, rdCells, binA]
  refine W_loop_nat (fun k e S1 => ∃ i, i + k = s.size ∧ a ≤ i ∧ e 0 = .ptr p 0 ∧ e 1 = .func f [] ∧ e 5 = .int .i64 i ∧ S1 = S ∧ (∀ (j : Nat) b, j < i - a → ((bts s).drop a)[j]? = some b → q b = true)) ?_ (s.size - a) _ _ ⟨a, by omega, Nat.le_refl _, by simp only [go_sem, ↓reduceIte, reduceCtorEq, Nat.reduceEqDiff, Nat.reduceAdd, Nat.reduceSub, Nat.reduceMul, Nat.reduceLeDiff, Nat.reduceLT, loadA, rdCells, binA], by simp only [go_sem, ↓reduceIte, reduceCtorEq, Nat.reduceEqDiff, Nat.reduceAdd, Nat.reduceSub, Nat.reduceMul, Nat.reduceLeDiff, Nat.reduceLT, loadA, rdCells, binA], by simp only [go_sem, ↓reduceIte, reduceCtorEq, Nat.reduceEqDiff, Nat.reduceAdd, Nat.reduceSub, Nat.reduceMul, Nat.reduceLeDiff, Nat.reduceLT, loadA, rdCells, binA], rfl, fun j b hj => by omega⟩
  rintro k e S1 ⟨i, hik, hai, e0, e1, e5, rfl, hall⟩
  have fin : (∀ b, ((bts s).drop a)[i - a]? = some b → q b = false) → s.extract a i = ofB (((bts s).drop a).takeWhile q) := fun hst => by
    rw [ext_eq, tw_eq _ (i - a) hall hst]
  have hsl : slsA (.str s) (some (.int .i64 a)) (some (.int .i64 i)) = some (.str (s.extract a i)) := by
    simp only [slsA, optOf, natOf]
    rw [if_pos ⟨by omega, by omega⟩]
    simp only [Int.toNat_natCast]
    rw [if_pos ⟨by omega, by omega⟩]
  by_cases hi : i < s.size
  · have hd : decide ((i : Int) < (s.size : Int)) = true := by simp; omega
    obtain ⟨b, hbi⟩ : ∃ b, (bts s)[i]? = some b := ⟨_, List.getElem?_eq_getElem (by rw [bts_len]; exact hi)⟩
    have hbd : ((bts s).drop a)[i - a]? = some b := by rw [List.getElem?_drop, show a + (i - a) = i by omega]; exact hbi
    simp only [cf86_l0, e0, e1, e5, h.obj, hd, idx_at hbi, go_sem, ↓reduceIte, reduceCtorEq, Nat.reduceEqDiff, Nat.reduceAdd, Nat.reduceSub, Nat.reduceMul, Nat.reduceLeDiff, Nat.reduceLT, loadA, rdCells, binA]
    refine WO_callvx f [] [.int .u8 b.toNat] (by simp only [e1, go_sem, ↓reduceIte, reduceCtorEq, Nat.reduceEqDiff, Nat.reduceAdd, Nat.reduceSub, Nat.reduceMul, Nat.reduceLeDiff, Nat.reduceLT, loadA, rdCells, binA]) (by simp only [go_sem, ↓reduceIte, reduceCtorEq, Nat.reduceEqDiff, Nat.reduceAdd, Nat.reduceSub, Nat.reduceMul, Nat.reduceLeDiff, Nat.reduceLT, loadA, rdCells, binA]) ((hq b S1).mono ?_)
    rintro v S2 ⟨rfl, rfl⟩
    simp only [go_sem, ↓reduceIte, reduceCtorEq, Nat.reduceEqDiff, Nat.reduceAdd, Nat.reduceSub, Nat.reduceMul, Nat.reduceLeDiff, Nat.reduceLT, loadA, rdCells, binA]
    cases hqb : q b
    · simp only [e0, e1, e5, h.obj, hsl, go_sem, ↓reduceIte, reduceCtorEq, Nat.reduceEqDiff, Nat.reduceAdd, Nat.reduceSub, Nat.reduceMul, Nat.reduceLeDiff, Nat.reduceLT, loadA, rdCells, binA]
      exact ⟨by simp, _, rfl, by rw [fin (fun b' hb' => by rw [hbd] at hb'; cases hb'; exact hqb)]⟩
    · have hw : IntKind.i64.wrap ((i : Int) + 1) = ((i + 1 : Nat) : Int) := by rw [IntKind.wrap_i64]; omega
      simp only [e0, e1, e5, hw, go_sem, ↓reduceIte, reduceCtorEq, Nat.reduceEqDiff, Nat.reduceAdd, Nat.reduceSub, Nat.reduceMul, Nat.reduceLeDiff, Nat.reduceLT, loadA, rdCells, binA]
      refine ⟨k - 1, by omega, i + 1, by omega, by omega, rfl, fun j b' hj hb' => ?_⟩
      by_cases hji : j < i - a
      · exact hall j b' hji hb'
      · obtain rfl : j = i - a := by omega
        rw [hbd] at hb'; cases hb'; exact hqb
  · have hd : decide ((i : Int) < (s.size : Int)) = false := by simp; omega
    simp only [cf86_l0, e0, e1, e5, h.obj, hd, hsl, go_sem, ↓reduceIte, reduceCtorEq, Nat.reduceEqDiff, Nat.reduceAdd, Nat.reduceSub, Nat.reduceMul, Nat.reduceLeDiff, Nat.reduceLT, loadA, rdCells, binA]
    exact ⟨by simp, _, rfl, by rw [fin (fun b' hb' => by
      have := (List.getElem?_eq_some_iff.1 hb').1
      rw [List.length_drop, bts_len] at this; omega)]⟩
end Go.Am.L1
