/- LexerLines' law. Conditions: none. -/
import Derived.Test.YtjhbakfgoaeeoaaDoorAmLg
set_option linter.unusedSimpArgs false
set_option linter.unusedVariables false
namespace Go.Am.L1
set_option maxRecDepth 100000
set_option linter.unusedSimpArgs false
attribute [local go_sem] wseq wreg wdreg wret wskip wexit wblock wcnd cnd_t cnd_f then_n then_x then_r catch_n rnd_n rnd_x rnd_r catch_x catch_r wo_nil wo_grd grdO_t grdO_f wo_ops stpO wr_nil wr_alloc wr_guards grdR_t grdR_f wr_ops stpR evAllocs evOp env0_app eput_some eput_none eset_app Opd.ev wantedA faddrA storeA setAt snew_obj snew_size sput_obj sput_size av_cells av_one av_strip av_still unA eqbA fillA fldA lensA mmA mm2 mmFold List.getD_cons_zero List.getD_cons_succ List.getD_nil List.length_cons List.length_nil List.drop_zero List.drop_succ_cons List.take_succ_cons List.take_zero List.map_cons List.map_nil List.set_cons_zero List.set_cons_succ List.all_cons List.all_nil List.getElem?_cons_zero List.getElem?_cons_succ List.nil_append List.cons_append Nat.zero_add Nat.add_zero beq_self_eq_true bt bf Bool.not_true Bool.not_false Bool.and_true Bool.true_and Bool.and_false Bool.false_and and_self and_true true_and n0 n1 n2 n3 n4 m0 m1 m2 m3 c1 retA resAs resA undefA Option.map_some Option.map_none

/-- These tokens lie there. -/
def Row (S : St) (v : AV) (l : List Tk) : Prop := (∃ full tok, v = .sl [] 0 full tok ∧ l = []) ∨ ∃ i off C, v = .msl i off l.length 5 ∧ S.obj i = some (.cells C) ∧ ∀ (j : Nat) t, l[j]? = some t → (C.drop (off + j * 5)).take 5 = tkc t ∧ off + j * 5 + 5 ≤ C.length

theorem Row.len {S : St} {v : AV} {l : List Tk} (h : Row S v l) : lenA v = some (.int .i64 l.length) := by
  rcases h with ⟨_, _, rfl, rfl⟩ | ⟨i, off, C, rfl, _⟩ <;> rfl
theorem Row.at {S : St} {v : AV} {l : List Tk} (h : Row S v l) {j : Nat} {t : Tk} (hj : l[j]? = some t) : ∃ p, iaddrA 5 v (.int .i64 j) = some p ∧ loadA S true 5 p = some (.agg (tkc t)) := by
  have hlt := (List.getElem?_eq_some_iff.1 hj).1
  rcases h with ⟨_, _, rfl, rfl⟩ | ⟨i, off, C, rfl, ho, hc⟩
  · simp at hj
  · obtain ⟨h1, h2⟩ := hc j t hj
    refine ⟨.ptr i (off + j * 5), ?_, ?_⟩
    · simp only [iaddrA]
      rw [if_pos ⟨by omega, by omega, trivial⟩]; simp
    · simp only [loadA, rdCells, ho]
      rw [if_pos (by omega), h1]
      simp [tkc, AV.strip]
theorem eqs_same (t : Tk) : eqsA [0, 2, 0, 0, 0] true (.agg (tkc t)) (.agg (tkc t)) = some (.bool false) := by simp [eqsA, eqCells, eqCell, tkc]

theorem equal_law {v1 v2 : AV} {l : List Tk} {S : St} (h1 : Row S v1 l) (h2 : Row S v2 l) (hl : l.length ≤ 100000) : WC T xs 32 [v1, v2] S (fun v S' => v = .bool true ∧ S' = S) := by
  refine WC_fn cf32 rfl T32 (by simp [cf32]) ?_
  have hne : ((l.length : Int) != (l.length : Int)) = false := by simp
  simp only [cf32, h1.len, h2.len, hne, go_sem, ↓reduceIte, reduceCtorEq, Nat.reduceEqDiff, Nat.reduceAdd, Nat.reduceSub, Nat.reduceMul, Nat.reduceLeDiff, Nat.reduceLT, loadA, rdCells, binA]
  refine W_loop_nat (fun k e S' => S' = S ∧ ∃ i, i + k = l.length ∧ e 0 = v1 ∧ e 1 = v2 ∧ e 12 = .int .i64 l.length ∧ e 13 = .int .i64 i) ?_ l.length _ _ ⟨rfl, 0, by omega, by simp only [go_sem, ↓reduceIte, reduceCtorEq, Nat.reduceEqDiff, Nat.reduceAdd, Nat.reduceSub, Nat.reduceMul, Nat.reduceLeDiff, Nat.reduceLT, loadA, rdCells, binA], by simp only [go_sem, ↓reduceIte, reduceCtorEq, Nat.reduceEqDiff, Nat.reduceAdd, Nat.reduceSub, Nat.reduceMul, Nat.reduceLeDiff, Nat.reduceLT, loadA, rdCells, binA], by simp only [go_sem, ↓reduceIte, reduceCtorEq, Nat.reduceEqDiff, Nat.reduceAdd, Nat.reduceSub, Nat.reduceMul, Nat.reduceLeDiff, Nat.reduceLT, loadA, rdCells, binA], by simp only [go_sem, ↓reduceIte, reduceCtorEq, Nat.reduceEqDiff, Nat.reduceAdd, Nat.reduceSub, Nat.reduceMul, Nat.reduceLeDiff, Nat.reduceLT, loadA, rdCells, binA]; rfl⟩
  rintro k e S' ⟨rfl, i, hik, e0, e1, e12, e13⟩
  by_cases hi : i < l.length
  · have hd : decide ((i : Int) < (l.length : Int)) = true := by simp; omega
    have ht : l[i]? = some l[i] := List.getElem?_eq_getElem hi
    obtain ⟨p1, a1, b1⟩ := h1.at ht
    obtain ⟨p2, a2, b2⟩ := h2.at ht
    have hw : IntKind.i64.wrap ((i : Int) + 1) = ((i + 1 : Nat) : Int) := by rw [IntKind.wrap_i64]; omega
    simp only [cf32_l0, e0, e1, e12, e13, hd, a1, a2, b1, b2, eqs_same, hw, go_sem, ↓reduceIte, reduceCtorEq, Nat.reduceEqDiff, Nat.reduceAdd, Nat.reduceSub, Nat.reduceMul, Nat.reduceLeDiff, Nat.reduceLT, binA]
    exact ⟨k - 1, by omega, i + 1, by omega, rfl⟩
  · have hd : decide ((i : Int) < (l.length : Int)) = false := by simp; omega
    simp only [cf32_l0, e12, e13, hd, go_sem, ↓reduceIte, reduceCtorEq, Nat.reduceEqDiff, Nat.reduceAdd, Nat.reduceSub, Nat.reduceMul, Nat.reduceLeDiff, Nat.reduceLT, loadA, rdCells, binA]
    exact ⟨by simp, _, rfl, rfl⟩

def abS : ByteArray := ⟨#[97, 10, 98]⟩
theorem ab_bads : (scanW abS).2.1 = [] := List.eq_nil_of_length_eq_zero (by kernel_rfl)
theorem ab_len : (scanT abS).length = 3 := by kernel_rfl
theorem ab_ok : OkS abS := by
  refine ⟨by decide, fun i b hb => ?_⟩
  match i, hb with
  | 0, hb => cases hb; rfl
  | 1, hb => cases hb; rfl
  | 2, hb => cases hb; rfl
  | _ + 3, hb => cases hb

theorem lex_len : ∀ (n : Nat) (r : List UInt8), r.length ≤ n → ∀ (l c : Nat), (lexA r l c).1.length ≤ r.length ∧ (∀ x, x ∈ (lexA r l c).1 → x.line ≤ l + r.length)
  | _, [], _, l, c => by simp [lexA, lexL]
  | 0, _ :: _, h, _, _ => by simp at h
  | n + 1, b :: r, h, l, c => by
    have hp := item_pos b r
    simp only [List.length_cons] at h
    have hd : ((b :: r).drop (item b (b :: r)).len).length ≤ r.length := by rw [List.length_drop, List.length_cons]; omega
    obtain ⟨ih1, ih2⟩ := lex_len n ((b :: r).drop (item b (b :: r)).len) (by omega) ((item b (b :: r)).line l) ((item b (b :: r)).col c)
    have t1 := toks_le (item b (b :: r)) l c
    have t3 := line_le (item b (b :: r)) l
    rw [lexA_cons]
    constructor
    · simp only [List.length_append, List.length_cons]; omega
    · intro x hx
      simp only [List.mem_append] at hx
      simp only [List.length_cons]
      rcases hx with hx | hx
      · have : x.line = l := by cases hi : item b (b :: r) <;> rw [hi] at hx <;> simp [It.toks] at hx; rw [hx]
        omega
      · have := ih2 x hx; omega
theorem scanT_len (s : ByteArray) : (scanT s).length ≤ s.size + 1 := by
  have := (lex_len _ (bts s) (Nat.le_refl _) 1 1).1
  rw [bts_len] at this
  simp only [scanT, scan_eq, List.length_append, List.length_singleton]; omega
theorem scanT_line (s : ByteArray) (x : Tk) (h : x ∈ scanT s) : x.line ≤ s.size + 1 := by
  rw [scanT, scan_eq] at h
  rcases List.mem_append.1 h with h | h
  · have := (lex_len _ (bts s) (Nat.le_refl _) 1 1).2 x h
    rw [bts_len] at this; omega
  · simp only [List.mem_singleton] at h
    have h2 := lex_line _ (bts s) (Nat.le_refl _) 1 1
    have h3 := List.count_le_length (a := (10 : UInt8)) (l := bts s)
    rw [bts_len] at h3
    subst h
    show (lexA (bts s) 1 1).2.2.1 ≤ _
    omega

theorem row_of {S : St} {p : Nat} {L : List Tk} (ho : S.obj p = some (.cells (L.flatMap tkc))) : Row S (.msl p 0 L.length 5) L := by
  refine Or.inr ⟨p, 0, _, rfl, ho, fun j t hj => ⟨?_, ?_⟩⟩
  · rw [Nat.zero_add]; exact flat_row tkP.len hj
  · rw [Nat.zero_add]; exact flat_le tkP.len hj 5 (Nat.le_refl _)
theorem row_take {S : St} {p h : Nat} {L : List Tk} (ho : S.obj p = some (.cells (L.flatMap tkc))) (hh : h ≤ L.length) : ∃ w, slcA 5 (.msl p 0 L.length 5) none (some (.int .i64 h)) none = some w ∧ Row S w (L.take h) := by
  have e : slcA 5 (.msl p 0 L.length 5) none (some (.int .i64 h)) none = some (.msl p 0 h 5) := by
    simp only [slcA, optOf, natOf]
    rw [if_pos ⟨trivial, rfl⟩, if_pos ⟨by omega, by omega⟩]
    simp only [Int.toNat_natCast, Nat.zero_mul, Nat.add_zero, Nat.sub_zero]
    rw [if_pos (by rcases Nat.eq_zero_or_pos h with h0 | h0 <;> simp [h0])]
  rw [e]
  refine ⟨_, rfl, Or.inr ⟨p, 0, _, by rw [List.length_take, Nat.min_eq_left hh], ho, fun j t hj => ?_⟩⟩
  have hj' : L[j]? = some t := by
    rw [List.getElem?_take] at hj
    split at hj
    · exact hj
    · cases hj
  rw [Nat.zero_add]
  exact ⟨flat_row tkP.len hj', flat_le tkP.len hj' 5 (Nat.le_refl _)⟩
theorem row_drop {S : St} {p l : Nat} {L : List Tk} (ho : S.obj p = some (.cells (L.flatMap tkc))) (hh : l ≤ L.length) : ∃ w, slcA 5 (.msl p 0 L.length 5) (some (.int .i64 l)) none none = some w ∧ Row S w (L.drop l) := by
  have e : slcA 5 (.msl p 0 L.length 5) (some (.int .i64 l)) none none = if l < L.length ∨ (l = 0 ∧ L.length = 0) then some (.msl p (0 + l * 5) (L.length - l) 5) else if l = L.length then some (.sl [] 0 false none) else none := by
    simp only [slcA, optOf, natOf]
    rw [if_pos ⟨trivial, rfl⟩, if_pos ⟨by omega, by omega⟩]
    simp only [Int.toNat_natCast]
  rw [e]
  by_cases h0 : l < L.length ∨ (l = 0 ∧ L.length = 0)
  · rw [if_pos h0]
    refine ⟨_, rfl, Or.inr ⟨p, 0 + l * 5, _, by rw [List.length_drop], ho, fun j t hj => ?_⟩⟩
    rw [List.getElem?_drop] at hj
    have e2 : 0 + l * 5 + j * 5 = (l + j) * 5 := by omega
    rw [e2]
    exact ⟨flat_row tkP.len hj, flat_le tkP.len hj 5 (Nat.le_refl _)⟩
  · obtain rfl : l = L.length := by omega
    rw [if_neg h0, if_pos rfl]
    exact ⟨_, rfl, Or.inl ⟨_, _, rfl, by simp⟩⟩

theorem lines_law (s t : ByteArray) (hs : s.size ≤ big) (ht : t.size ≤ big) (st : St) : WC T xs 8 [.str s, .str t] st (fun v _ => v = .bool true) := by
  refine WC_fn cf8 rfl T8 (by simp [cf8]) ?_
  simp only [cf8, go_sem, ↓reduceIte, reduceCtorEq, Nat.reduceEqDiff, Nat.reduceAdd, Nat.reduceSub, Nat.reduceMul, Nat.reduceLeDiff, Nat.reduceLT, loadA, rdCells, binA]
  refine WO_callx [.str abS] (by simp only [go_sem, ↓reduceIte, reduceCtorEq, Nat.reduceEqDiff, Nat.reduceAdd, Nat.reduceSub, Nat.reduceMul, Nat.reduceLeDiff, Nat.reduceLT, loadA, rdCells, binA]; rfl) ((scan_law abS (by decide) st).mono ?_)
  rintro v s1 ⟨-, (⟨q, e, rfl, he, hno⟩ | ⟨p0, rfl, -, -, -, -, -⟩)⟩
  · exact absurd ⟨ab_ok, ab_bads⟩ hno
  have z0 : ((0 : Int) != 0) = false := rfl
  have z3 : (((3 : Nat) : Int) != 3) = false := rfl
  have hl0 : ∀ n : Nat, lenA (.msl p0 0 n 5) = some (.int .i64 n) := fun _ => rfl
  simp only [z0, hl0, ab_len, z3, go_sem, ↓reduceIte, reduceCtorEq, Nat.reduceEqDiff, Nat.reduceAdd, Nat.reduceSub, Nat.reduceMul, Nat.reduceLeDiff, Nat.reduceLT, loadA, rdCells, binA]
  refine WO_callx [.str s] (by simp only [go_sem, ↓reduceIte, reduceCtorEq, Nat.reduceEqDiff, Nat.reduceAdd, Nat.reduceSub, Nat.reduceMul, Nat.reduceLeDiff, Nat.reduceLT, loadA, rdCells, binA]) ((scan_law s hs s1).mono ?_)
  rintro v s2 ⟨hlow2, hA⟩
  obtain ⟨va, qa, ea, rfl, hA2⟩ : ∃ va qa ea, v = .tup [va, qa, .int .i64 ea] ∧ ((ea ≠ 0) ∨ (ea = 0 ∧ ∃ p, va = .msl p 0 (scanT s).length 5 ∧ s2.obj p = some (.cells ((scanT s).flatMap tkc)) ∧ p < s2.size ∧ OkS s ∧ (scanW s).2.1 = [])) := by
    rcases hA with ⟨q, e, rfl, he, -⟩ | ⟨p, rfl, h1, h2, h3, h4, h5⟩
    · exact ⟨_, _, _, rfl, Or.inl he⟩
    · exact ⟨_, _, _, rfl, Or.inr ⟨rfl, p, rfl, h1, h3, h4, h5⟩⟩
  simp only [go_sem, ↓reduceIte, reduceCtorEq, Nat.reduceEqDiff, Nat.reduceAdd, Nat.reduceSub, Nat.reduceMul, Nat.reduceLeDiff, Nat.reduceLT, loadA, rdCells, binA]
  refine WO_callx [.str t] (by simp only [go_sem, ↓reduceIte, reduceCtorEq, Nat.reduceEqDiff, Nat.reduceAdd, Nat.reduceSub, Nat.reduceMul, Nat.reduceLeDiff, Nat.reduceLT, loadA, rdCells, binA]) ((scan_law t ht s2).mono ?_)
  rintro v s3 ⟨hlow3, hB⟩
  obtain ⟨vb, qb, eb, rfl, hB2⟩ : ∃ va qa ea, v = .tup [va, qa, .int .i64 ea] ∧ ((ea ≠ 0) ∨ (ea = 0 ∧ ∃ p, va = .msl p 0 (scanT t).length 5 ∧ s3.obj p = some (.cells ((scanT t).flatMap tkc)) ∧ s2.size ≤ p ∧ p < s3.size ∧ OkS t ∧ (scanW t).2.1 = [])) := by
    rcases hB with ⟨q, e, rfl, he, -⟩ | ⟨p, rfl, h1, h2, h3, h4, h5⟩
    · exact ⟨_, _, _, rfl, Or.inl he⟩
    · exact ⟨_, _, _, rfl, Or.inr ⟨rfl, p, rfl, h1, h2, h3, h4, h5⟩⟩
  simp only [go_sem, ↓reduceIte, reduceCtorEq, Nat.reduceEqDiff, Nat.reduceAdd, Nat.reduceSub, Nat.reduceMul, Nat.reduceLeDiff, Nat.reduceLT, loadA, rdCells, binA]
  rcases hA2 with hea | hA2
  · have z1 : (ea != 0) = true := by simpa using hea
    simp only [z1, go_sem, ↓reduceIte, reduceCtorEq, Nat.reduceEqDiff, Nat.reduceAdd, Nat.reduceSub, Nat.reduceMul, Nat.reduceLeDiff, Nat.reduceLT, loadA, rdCells, binA]
    exact ⟨by simp, _, rfl, rfl⟩
  obtain ⟨hea0, pa, hva, hoa, hpa, hoka, hba⟩   := hA2
  subst hea0 hva
  rcases hB2 with heb | hB2
  · have z1 : (eb != 0) = true := by simpa using heb
    simp only [z0, z1, go_sem, ↓reduceIte, reduceCtorEq, Nat.reduceEqDiff, Nat.reduceAdd, Nat.reduceSub, Nat.reduceMul, Nat.reduceLeDiff, Nat.reduceLT, loadA, rdCells, binA]
    exact ⟨by simp, _, rfl, rfl⟩
  obtain ⟨heb0, pb, hvb, hob, hpb0, hpb, hokb, hbb⟩   := hB2
  subst heb0 hvb
  have hsz := hoka.le
  have htz := hokb.le
  have wst : IntKind.i64.wrap ((s.size : Int) + (t.size : Int)) = ((s.size + t.size : Nat) : Int) := by rw [IntKind.wrap_i64]; omega
  simp only [z0, wst, go_sem, ↓reduceIte, reduceCtorEq, Nat.reduceEqDiff, Nat.reduceAdd, Nat.reduceSub, Nat.reduceMul, Nat.reduceLeDiff, Nat.reduceLT, loadA, rdCells, binA]
  cases hbig : decide ((((s.size + t.size : Nat)) : Int) ≥ 8192)
  · have hbig' := of_decide_eq_false hbig
    obtain ⟨u1, hu1, a1⟩ : ∃ u, u = s ++ nl ∧ binA .add (.str s) (.str ⟨#[10]⟩) = some (.str u) := ⟨_, rfl, add_str (b := nl) (le_max (by have : nl.size = 1 := rfl; omega))⟩
    obtain ⟨u, hu, a2⟩ : ∃ u, u = u1 ++ t ∧ binA .add (.str u1) (.str t) = some (.str u) := ⟨_, rfl, add_str (le_max (by rw [hu1, ByteArray.size_append]; have : nl.size = 1 := rfl; omega))⟩
    simp only [cnd_f, wskip, then_n, wseq, wreg]
    refine WO_op (v := .str s) (s1 := s3) rfl (by simp only [go_sem, ↓reduceIte, reduceCtorEq, Nat.reduceEqDiff, Nat.reduceAdd, Nat.reduceSub, Nat.reduceMul, Nat.reduceLeDiff, Nat.reduceLT, loadA, rdCells]) ?_
    refine WO_op (v := .str u1) (s1 := s3) rfl (ev_bin (a := .str s) (b := .str ⟨#[10]⟩) (by simp only [go_sem, ↓reduceIte, reduceCtorEq, Nat.reduceEqDiff, Nat.reduceAdd, Nat.reduceSub, Nat.reduceMul, Nat.reduceLeDiff, Nat.reduceLT, loadA, rdCells]) (by simp only [go_sem, ↓reduceIte, reduceCtorEq, Nat.reduceEqDiff, Nat.reduceAdd, Nat.reduceSub, Nat.reduceMul, Nat.reduceLeDiff, Nat.reduceLT, loadA, rdCells]) a1) ?_
    refine WO_op (v := .str t) (s1 := s3) rfl (by simp only [go_sem, ↓reduceIte, reduceCtorEq, Nat.reduceEqDiff, Nat.reduceAdd, Nat.reduceSub, Nat.reduceMul, Nat.reduceLeDiff, Nat.reduceLT, loadA, rdCells]) ?_
    refine WO_op (v := .str u) (s1 := s3) rfl (ev_bin (a := .str u1) (b := .str t) (by simp only [go_sem, ↓reduceIte, reduceCtorEq, Nat.reduceEqDiff, Nat.reduceAdd, Nat.reduceSub, Nat.reduceMul, Nat.reduceLeDiff, Nat.reduceLT, loadA, rdCells]) (by simp only [go_sem, ↓reduceIte, reduceCtorEq, Nat.reduceEqDiff, Nat.reduceAdd, Nat.reduceSub, Nat.reduceMul, Nat.reduceLeDiff, Nat.reduceLT, loadA, rdCells]) a2) ?_
    have hub : bts u = bts s ++ 10 :: bts t := by
      rw [hu, hu1]
      show (s ++ nl ++ t).data.toList = _
      simp [nl]
      rfl
    have hus : u.size = s.size + 1 + t.size := by
      rw [hu, hu1, ByteArray.size_append, ByteArray.size_append]; rfl
    refine WO_callx [.str u] (by simp only [go_sem, ↓reduceIte, reduceCtorEq, Nat.reduceEqDiff, Nat.reduceAdd, Nat.reduceSub, Nat.reduceMul, Nat.reduceLeDiff, Nat.reduceLT, loadA, rdCells]) ((scan_law u (by simp only [big]; omega) s3).mono ?_)
    rintro v s4 ⟨hlow4, hC⟩
    obtain ⟨hbu, hTu⟩ := scan_lines hub hba hbb
    have hoku : OkS u := by
      refine ⟨by omega, fun i b hb => ?_⟩
      rw [hub, List.getElem?_append] at hb
      split at hb
      · exact hoka.ok i b hb
      · rename_i hge
        cases hj : i - (bts s).length with
        | zero => rw [hj] at hb; cases hb; rfl
        | succ j => rw [hj] at hb; exact hokb.ok j b (by simpa using hb)
    rcases hC with ⟨q, e, rfl, he, hno⟩ | ⟨pc, rfl, hoc, hpc0, hpc, -, -⟩
    · exact absurd ⟨hoku, hbu⟩ hno
    have hlc : ∀ (p n : Nat), lenA (.msl p 0 n 5) = some (.int .i64 n) := fun _ _ => rfl
    have hTl : (scanT u).length = (scanT s).length + (scanT t).length - 1 := by
      rw [hTu]; simp [scanT]; omega
    have hsl1 : 1 ≤ (scanT s).length := by simp [scanT]
    have htl1 : 1 ≤ (scanT t).length := by simp [scanT]
    have hsl2 : (scanT s).length ≤ 100000 := by have := scanT_len s; omega
    have htl2 : (scanT t).length ≤ 100000 := by have := scanT_len t; omega
    have w1 : IntKind.i64.wrap (((scanT s).length : Int) + ((scanT t).length : Int)) = (((scanT s).length + (scanT t).length : Nat) : Int) := by rw [IntKind.wrap_i64]; omega
    have w2 : IntKind.i64.wrap ((((scanT s).length + (scanT t).length : Nat) : Int) - 1) = ((scanT u).length : Int) := by rw [hTl, IntKind.wrap_i64]; omega
    have hne : ((((scanT u).length : Int)) != (scanT u).length) = false := by simp
    simp only [z0, hlc, w1, w2, hne, go_sem, ↓reduceIte, reduceCtorEq, Nat.reduceEqDiff, Nat.reduceAdd, Nat.reduceSub, Nat.reduceMul, Nat.reduceLeDiff, Nat.reduceLT, loadA, rdCells, binA]
    have hcnt : (bts s).count 10 ≤ 8192 := by have := List.count_le_length (a := (10 : UInt8)) (l := bts s); rw [bts_len] at this; omega
    have w3 : IntKind.i64.wrap ((((bts s).count 10 : Nat) : Int) + 1) = (((bts s).count 10 + 1 : Nat) : Int) := by rw [IntKind.wrap_i64]; omega
    refine WO_callx [.str s, .str nl] (by simp only [go_sem, ↓reduceIte, reduceCtorEq, Nat.reduceEqDiff, Nat.reduceAdd, Nat.reduceSub, Nat.reduceMul, Nat.reduceLeDiff, Nat.reduceLT, loadA, rdCells, binA]; rfl) (WC_ext (h := countX) rfl (by simp only [countX]; rw [if_pos trivial]) ?_)
    simp only [w3, hlc, go_sem, ↓reduceIte, reduceCtorEq, Nat.reduceEqDiff, Nat.reduceAdd, Nat.reduceSub, Nat.reduceMul, Nat.reduceLeDiff, Nat.reduceLT, loadA, rdCells, binA]
    have hpbc : pb ≠ pc := by omega
    have hpab : pa ≠ pb := by omega
    have hob4 : s4.obj pb = some (.cells ((scanT t).flatMap tkc)) := (hlow4.2 pb hpb).trans hob
    have hoa4 : s4.obj pa = some (.cells ((scanT s).flatMap tkc)) := (hlow4.2 pa (by have := hlow3.1; omega)).trans ((hlow3.2 pa hpa).trans hoa)
    refine W_loop_nat (fun k e S => ∃ i, i + k = (scanT t).length ∧ e 8 = .msl pa 0 (scanT s).length 5 ∧ e 11 = .msl pb 0 (scanT t).length 5 ∧ e 14 = .msl pc 0 (scanT u).length 5 ∧ e 16 = .int .i64 (((bts s).count 10 + 1 : Nat) : Int) ∧ e 82 = .int .i64 (scanT t).length ∧ e 83 = .int .i64 i ∧
      S.obj pa = some (.cells ((scanT s).flatMap tkc)) ∧ S.obj pc = some (.cells ((scanT u).flatMap tkc)) ∧ S.obj pb = some (.cells ((mapTo (Tk.down ((bts s).count 10 + 1)) (scanT t) i).flatMap tkc))) ?_ (scanT t).length _ _ ⟨0, by omega, by simp only [go_sem, ↓reduceIte, reduceCtorEq, Nat.reduceEqDiff, Nat.reduceAdd, Nat.reduceSub, Nat.reduceMul, Nat.reduceLeDiff, Nat.reduceLT, loadA, rdCells, binA], by simp only [go_sem, ↓reduceIte, reduceCtorEq, Nat.reduceEqDiff, Nat.reduceAdd, Nat.reduceSub, Nat.reduceMul, Nat.reduceLeDiff, Nat.reduceLT, loadA, rdCells, binA], by simp only [go_sem, ↓reduceIte, reduceCtorEq, Nat.reduceEqDiff, Nat.reduceAdd, Nat.reduceSub, Nat.reduceMul, Nat.reduceLeDiff, Nat.reduceLT, loadA, rdCells, binA], by simp only [go_sem, ↓reduceIte, reduceCtorEq, Nat.reduceEqDiff, Nat.reduceAdd, Nat.reduceSub, Nat.reduceMul, Nat.reduceLeDiff, Nat.reduceLT, loadA, rdCells, binA], by simp only [go_sem, ↓reduceIte, reduceCtorEq, Nat.reduceEqDiff, Nat.reduceAdd, Nat.reduceSub, Nat.reduceMul, Nat.reduceLeDiff, Nat.reduceLT, loadA, rdCells, binA], by simp only [go_sem, ↓reduceIte, reduceCtorEq, Nat.reduceEqDiff, Nat.reduceAdd, Nat.reduceSub, Nat.reduceMul, Nat.reduceLeDiff, Nat.reduceLT, loadA, rdCells, binA]; rfl, hoa4, hoc, by rw [mapTo_zero]; exact hob4⟩
    rintro k e S ⟨i, hik, e8, e11, e14, e16, e82, e83, hSa, hSc, hSb⟩
    by_cases hi : i < (scanT t).length
    · have hd : decide ((i : Int) < ((scanT t).length : Int)) = true := by simp; omega
      have hx : (scanT t)[i]? = some (scanT t)[i] := List.getElem?_eq_getElem hi
      generalize hxe : (scanT t)[i] = x at hx
      have hxl : x.line ≤ t.size + 1 := scanT_line t x (List.mem_of_getElem? hx)
      have hm := mapTo_at (g := Tk.down ((bts s).count 10 + 1)) hx
      have hia : iaddrA 5 (.msl pb 0 (scanT t).length 5) (.int .i64 i) = some (.ptr pb (i * 5)) := by
        simp only [iaddrA]; rw [if_pos ⟨by omega, by omega, trivial⟩]; simp
      have hle : i * 5 + 4 ≤ ((mapTo (Tk.down ((bts s).count 10 + 1)) (scanT t) i).flatMap tkc).length := flat_le tkP.len hm 4 (by omega)
      have hld : loadA S false 1 (.ptr pb (i * 5 + 3)) = some (.int .i64 x.line) := by
        simp only [loadA, rdCells, hSb]
        rw [if_pos (by omega), flat_cell tkP.len hm (by omega)]
        rfl
      have w5 : IntKind.i64.wrap ((x.line : Int) + (((bts s).count 10 + 1 : Nat) : Int)) = ((x.line + ((bts s).count 10 + 1) : Nat) : Int) := by rw [IntKind.wrap_i64]; omega
      have hset : ((mapTo (Tk.down ((bts s).count 10 + 1)) (scanT t) i).flatMap tkc).set (i * 5 + 3) (.int .i64 ((x.line + ((bts s).count 10 + 1) : Nat) : Int)) = (mapTo (Tk.down ((bts s).count 10 + 1)) (scanT t) (i + 1)).flatMap tkc := by
        rw [flat_set tkP.len hm (by omega) (y := Tk.down ((bts s).count 10 + 1) x) rfl, mapTo_set hx]
      have hst : storeA S 1 (.ptr pb (i * 5 + 3)) (.int .i64 ((x.line + ((bts s).count 10 + 1) : Nat) : Int)) = some (S.put pb (some (.cells ((mapTo (Tk.down ((bts s).count 10 + 1)) (scanT t) (i + 1)).flatMap tkc)))) := by
        simp only [storeA, hSb]
        rw [if_pos ⟨rfl, by omega, rfl⟩]
        simp only [AV.cells, setAt, hset]
      have w6 : IntKind.i64.wrap ((i : Int) + 1) = ((i + 1 : Nat) : Int) := by rw [IntKind.wrap_i64]; omega
      have hle2 : (i * 5 + 3 + 1 ≤ ((mapTo (Tk.down ((bts s).count 10 + 1)) (scanT t) i).flatMap tkc).length) = True := eq_true (by omega)
      simp only [cf8_l0, e11, e16, e82, e83, hd, hia, hld, w5, hSb, hle2, hset, w6, go_sem, ↓reduceIte, reduceCtorEq, Nat.reduceEqDiff, Nat.reduceAdd, Nat.reduceSub, Nat.reduceMul, Nat.reduceLeDiff, Nat.reduceLT, binA]
      exact ⟨k - 1, by omega, i + 1, by omega, e8, e14, rfl, by rw [if_neg hpab]; exact hSa, by rw [if_neg (Ne.symm hpbc)]; exact hSc, rfl⟩
    · have hd : decide ((i : Int) < ((scanT t).length : Int)) = false := by simp; omega
      obtain rfl : i = (scanT t).length := by omega
      rw [mapTo_all (Nat.le_refl _)] at hSb
      have w4 : IntKind.i64.wrap (((scanT s).length : Int) - 1) = (((scanT s).length - 1 : Nat) : Int) := by rw [IntKind.wrap_i64]; omega
      obtain ⟨x1, hx1, hr1⟩ := row_take (h := (scanT s).length - 1) hSc (by omega)
      obtain ⟨x2, hx2, hr2⟩ := row_take (h := (scanT s).length - 1) hSa (by omega)
      obtain ⟨x3, hx3, hr3⟩ := row_drop (l := (scanT s).length - 1) hSc (by omega)
      have hbl : ((scanT t).map (Tk.down ((bts s).count 10 + 1))).length = (scanT t).length := List.length_map ..
      have hr4 : Row S (.msl pb 0 (scanT t).length 5) ((scanT t).map (Tk.down ((bts s).count 10 + 1))) := by rw [← hbl]; exact row_of hSb
      have hl1 : (scanT s).length - 1 = (scanW s).1.length := by simp [scanT]
      have q1 : (scanT u).take ((scanT s).length - 1) = (scanW s).1 := by rw [hTu, hl1, List.take_left]
      have q2 : (scanT s).take ((scanT s).length - 1) = (scanW s).1 := by rw [hl1, scanT, List.take_left]
      have q3 : (scanT u).drop ((scanT s).length - 1) = (scanT t).map (Tk.down ((bts s).count 10 + 1)) := by rw [hTu, hl1, List.drop_left]
      rw [q1] at hr1
      rw [q2] at hr2
      rw [q3] at hr3
      simp only [cf8_l0, e8, e11, e14, e16, e82, e83, hd, hlc, w4, hx1, hx2, hx3, go_sem, ↓reduceIte, reduceCtorEq, Nat.reduceEqDiff, Nat.reduceAdd, Nat.reduceSub, Nat.reduceMul, Nat.reduceLeDiff, Nat.reduceLT, loadA, rdCells, binA]
      refine WR_callx [x1, x2] (by simp only [go_sem, ↓reduceIte, reduceCtorEq, Nat.reduceEqDiff, Nat.reduceAdd, Nat.reduceSub, Nat.reduceMul, Nat.reduceLeDiff, Nat.reduceLT, loadA, rdCells, binA]) ((equal_law hr1 hr2 (by omega)).mono ?_)
      rintro v S2 ⟨rfl, rfl⟩
      simp only [e8, e11, e14, hlc, w4, hx3, go_sem, ↓reduceIte, reduceCtorEq, Nat.reduceEqDiff, Nat.reduceAdd, Nat.reduceSub, Nat.reduceMul, Nat.reduceLeDiff, Nat.reduceLT, loadA, rdCells, binA]
      refine WR_callx [x3, .msl pb 0 (scanT t).length 5] (by simp only [e11, go_sem, ↓reduceIte, reduceCtorEq, Nat.reduceEqDiff, Nat.reduceAdd, Nat.reduceSub, Nat.reduceMul, Nat.reduceLeDiff, Nat.reduceLT, loadA, rdCells, binA]) ((equal_law hr3 hr4 (by rw [hbl]; omega)).mono ?_)
      rintro v S3 ⟨rfl, rfl⟩
      simp only [go_sem, ↓reduceIte, reduceCtorEq, Nat.reduceEqDiff, Nat.reduceAdd, Nat.reduceSub, Nat.reduceMul, Nat.reduceLeDiff, Nat.reduceLT, loadA, rdCells, binA]
      exact ⟨by simp, _, rfl, rfl⟩
  · simp only [go_sem, ↓reduceIte, reduceCtorEq, Nat.reduceEqDiff, Nat.reduceAdd, Nat.reduceSub, Nat.reduceMul, Nat.reduceLeDiff, Nat.reduceLT, loadA, rdCells, binA]
    exact ⟨by simp, _, rfl, rfl⟩
end Go.Am.L1
