/- laid: a text scanned and marked. Conditions: none. -/
import Derived.Test.YtjhbakfgoaeeoaaDoorAmRl
import Derived.Test.YtjhbakfgoaeeoaaDoorAmLg
set_option linter.unusedSimpArgs false
set_option linter.unusedVariables false
namespace Go.Am.Y1
open Go.Am.L1 (bts_len Tk tkc tkP scanT scanW OkS big Low)
set_option maxRecDepth 100000
set_option linter.unusedSimpArgs false
attribute [local go_sem] wseq wreg wdreg wret wskip wexit wblock wcnd cnd_t cnd_f then_n then_x then_r catch_n rnd_n rnd_x rnd_r catch_x catch_r wo_nil wo_grd grdO_t grdO_f wo_ops stpO wr_nil wr_alloc wr_guards grdR_t grdR_f wr_ops stpR evAllocs evOp env0_app eput_some eput_none eset_app Opd.ev wantedA faddrA storeA setAt snew_obj snew_size sput_obj sput_size av_cells av_one av_strip av_still unA eqbA fillA fldA lensA mmA mm2 mmFold List.getD_cons_zero List.getD_cons_succ List.getD_nil List.length_cons List.length_nil List.drop_zero List.drop_succ_cons List.take_succ_cons List.take_zero List.map_cons List.map_nil List.set_cons_zero List.set_cons_succ List.all_cons List.all_nil List.getElem?_cons_zero List.getElem?_cons_succ List.nil_append List.cons_append Nat.zero_add Nat.add_zero beq_self_eq_true bt bf Bool.not_true Bool.not_false Bool.and_true Bool.true_and Bool.and_false Bool.false_and and_self and_true true_and n0 n1 n2 n3 n4 m0 m1 m2 m3 c1 retA resAs resA undefA Option.map_some Option.map_none

/-- A text that can be laid out. -/
structure LaidOk (s : ByteArray) : Prop where
  ok : OkS s
  bads : (scanW s).2.1 = []
  chk : ChkL (scanT s)

/-- What laid returns. -/
def LaidQ (s : ByteArray) (S : St) (v : AV) (S' : St) : Prop :=
  (∃ a b, v = .tup [a, b, .bool false] ∧ ¬ LaidOk s) ∨ (LaidOk s ∧ ∃ q ov, v = .tup [.msl q 0 (scanT s).length 5, ov, .bool true] ∧ TokL S' q (scanT s) ∧ S.size ≤ q ∧ MSl tkc 5 S' ov (markT (scanT s)) ∧ ∀ j, j < S.size → notO ov j)

theorem laid_law (s : ByteArray) (hs : s.size ≤ big) (S : St) : WC T yx 33 [.str s] S (fun v S' => LaidQ s S v S' ∧ Keep S S') := by
  refine WC_fn cf33 rfl T33 (by simp [cf33]) ?_
  simp only [cf33, go_sem, ↓reduceIte, reduceCtorEq, Nat.reduceEqDiff, Nat.reduceAdd, Nat.reduceSub, Nat.reduceMul, Nat.reduceLeDiff, Nat.reduceLT, loadA, rdCells, binA]
  refine WO_callx [.str s] (by simp only [go_sem, ↓reduceIte, reduceCtorEq, Nat.reduceEqDiff, Nat.reduceAdd, Nat.reduceSub, Nat.reduceMul, Nat.reduceLeDiff, Nat.reduceLT, loadA, rdCells, binA]) (((L1.scan_law s hs S).sub subL).mono ?_)
  rintro v S1 ⟨hk1, ⟨q, e, rfl, he, hno⟩ | ⟨p, rfl, ho, hp0, hp, hok, hbd⟩⟩
  · have hne : (e != 0) = true := by simpa using he
    simp only [hne, go_sem, ↓reduceIte, reduceCtorEq, Nat.reduceEqDiff, Nat.reduceAdd, Nat.reduceSub, Nat.reduceMul, Nat.reduceLeDiff, Nat.reduceLT, loadA, rdCells, binA]
    exact ⟨by simp, _, rfl, Or.inl ⟨_, _, rfl, fun h => hno ⟨h.ok, h.bads⟩⟩, hk1⟩
  · have hz : ((0 : Int) != 0) = false := rfl
    simp only [hz, go_sem, ↓reduceIte, reduceCtorEq, Nat.reduceEqDiff, Nat.reduceAdd, Nat.reduceSub, Nat.reduceMul, Nat.reduceLeDiff, Nat.reduceLT, loadA, rdCells, binA]
    have hT : TokL S1 p (scanT s) := ⟨ho, hp⟩
    have hl : (scanT s).length ≤ 1000000 := by have := L1.scanT_len s; have := hok.le; omega
    refine WO_callx [.msl p 0 (scanT s).length 5] (by simp only [go_sem, ↓reduceIte, reduceCtorEq, Nat.reduceEqDiff, Nat.reduceAdd, Nat.reduceSub, Nat.reduceMul, Nat.reduceLeDiff, Nat.reduceLT, loadA, rdCells, binA]) ((mark_law hT hl).mono ?_)
    rintro v S2 ⟨⟨e, rfl, he, hno⟩ | ⟨hC, ov, rfl, hM, hno⟩, hk2⟩
    · have hne : (e == 0) = false := by simpa using he
      simp only [hne, go_sem, ↓reduceIte, reduceCtorEq, Nat.reduceEqDiff, Nat.reduceAdd, Nat.reduceSub, Nat.reduceMul, Nat.reduceLeDiff, Nat.reduceLT, loadA, rdCells, binA]
      exact ⟨by simp, _, rfl, Or.inl ⟨_, _, rfl, fun h => hno h.chk⟩, Keep.trans hk1 hk2⟩
    · have hz2 : ((0 : Int) == 0) = true := rfl
      simp only [hz2, go_sem, ↓reduceIte, reduceCtorEq, Nat.reduceEqDiff, Nat.reduceAdd, Nat.reduceSub, Nat.reduceMul, Nat.reduceLeDiff, Nat.reduceLT, loadA, rdCells, binA]
      exact ⟨by simp, _, rfl, Or.inr ⟨⟨hok, hbd, hC⟩, p, ov, rfl, hT.keep hk2, hp0, hM, fun j hj => hno j (by have := hk1.1; omega)⟩, Keep.trans hk1 hk2⟩

/-- Two slices of the same tokens. -/
def Rd5 (S : St) (v : AV) (l : List Tk) : Prop := lenA v = some (.int .i64 l.length) ∧ ∀ (j : Nat) t, l[j]? = some t → ∃ p, iaddrA 5 v (.int .i64 j) = some p ∧ loadA S true 5 p = some (.agg (tkc t))
theorem eq32_law {v1 v2 : AV} {l : List Tk} {S : St} (h1 : Rd5 S v1 l) (h2 : Rd5 S v2 l) (hl : l.length ≤ 1000000) : WC T yx 32 [v1, v2] S (fun v S' => v = .bool true ∧ S' = S) := by
  refine WC_fn cf32 rfl T32 (by simp [cf32]) ?_
  have hne : ((l.length : Int) != (l.length : Int)) = false := by simp
  simp only [cf32, h1.1, h2.1, hne, go_sem, ↓reduceIte, reduceCtorEq, Nat.reduceEqDiff, Nat.reduceAdd, Nat.reduceSub, Nat.reduceMul, Nat.reduceLeDiff, Nat.reduceLT, loadA, rdCells, binA]
  refine W_loop_nat (fun k e S' => S' = S ∧ ∃ i, i + k = l.length ∧ e 0 = v1 ∧ e 1 = v2 ∧ e 12 = .int .i64 l.length ∧ e 13 = .int .i64 i) ?_ l.length _ _ ⟨rfl, 0, by omega, by simp only [go_sem, ↓reduceIte, reduceCtorEq, Nat.reduceEqDiff, Nat.reduceAdd, Nat.reduceSub, Nat.reduceMul, Nat.reduceLeDiff, Nat.reduceLT, loadA, rdCells, binA], by simp only [go_sem, ↓reduceIte, reduceCtorEq, Nat.reduceEqDiff, Nat.reduceAdd, Nat.reduceSub, Nat.reduceMul, Nat.reduceLeDiff, Nat.reduceLT, loadA, rdCells, binA], by simp only [go_sem, ↓reduceIte, reduceCtorEq, Nat.reduceEqDiff, Nat.reduceAdd, Nat.reduceSub, Nat.reduceMul, Nat.reduceLeDiff, Nat.reduceLT, loadA, rdCells, binA], by simp only [go_sem, ↓reduceIte, reduceCtorEq, Nat.reduceEqDiff, Nat.reduceAdd, Nat.reduceSub, Nat.reduceMul, Nat.reduceLeDiff, Nat.reduceLT, loadA, rdCells, binA]; rfl⟩
  rintro k e S' ⟨rfl, i, hik, e0, e1, e12, e13⟩
  by_cases hi : i < l.length
  · have hd : decide ((i : Int) < (l.length : Int)) = true := by simp; omega
    have ht : l[i]? = some l[i] := List.getElem?_eq_getElem hi
    obtain ⟨p1, a1, b1⟩ := h1.2 i _ ht
    obtain ⟨p2, a2, b2⟩ := h2.2 i _ ht
    have hw : IntKind.i64.wrap ((i : Int) + 1) = ((i + 1 : Nat) : Int) := by rw [IntKind.wrap_i64]; omega
    simp only [cf32_l0, e0, e1, e12, e13, hd, a1, a2, b1, b2, L1.eqs_same, hw, go_sem, ↓reduceIte, reduceCtorEq, Nat.reduceEqDiff, Nat.reduceAdd, Nat.reduceSub, Nat.reduceMul, Nat.reduceLeDiff, Nat.reduceLT, binA]
    exact ⟨k - 1, by omega, i + 1, by omega, rfl⟩
  · have hd : decide ((i : Int) < (l.length : Int)) = false := by simp; omega
    simp only [cf32_l0, e12, e13, hd, go_sem, ↓reduceIte, reduceCtorEq, Nat.reduceEqDiff, Nat.reduceAdd, Nat.reduceSub, Nat.reduceMul, Nat.reduceLeDiff, Nat.reduceLT, loadA, rdCells, binA]
    exact ⟨by simp, _, rfl, rfl⟩
theorem TokL.rd5 {S : St} {q : Nat} {L : List Tk} (h : TokL S q L) : Rd5 S (.msl q 0 L.length 5) L := ⟨rfl, fun j t hj => ⟨_, tok_addr (List.getElem?_eq_some_iff.1 hj).1, (h.at hj).1⟩⟩
theorem rd5_isl {S : St} {v : AV} {L : List Tk} (h : ISl tkc v L) : Rd5 S v L := by
  refine ⟨h.len, fun j t hj => ⟨_, h.at tkP.len hj, ?_⟩⟩
  have hl : (tkc t).length = 5 := rfl
  simp only [loadA, rdCells]
  rw [if_pos (by simp [hl]), List.take_left' hl]
  simp [tkc, AV.strip]

/-! ### The text at the start -/
def chkB (L : List Tk) : Bool := decide (L.length ≤ 8193) && decide (0 < L.length) && (List.range L.length).all fun i => match L[i]? with | some t => okAt L i t | none => true
theorem chk_of {L : List Tk} (h : chkB L = true) : ChkL L := by
  simp only [chkB, Bool.and_eq_true, decide_eq_true_eq] at h
  refine ⟨h.1.1, h.1.2, fun i t ht => ?_⟩
  have := List.all_eq_true.1 h.2 i (List.mem_range.2 (List.getElem?_eq_some_iff.1 ht).1)
  rw [ht] at this
  exact this
def okB (s : ByteArray) : Bool := decide (s.size ≤ 8192) && (bts s).all fun b => !(L1.bad b)
theorem ok_of {s : ByteArray} (h : okB s = true) : OkS s := by
  simp only [okB, Bool.and_eq_true, decide_eq_true_eq] at h
  refine ⟨h.1, fun i b hb => ?_⟩
  have := List.all_eq_true.1 h.2 b (List.mem_of_getElem? hb)
  simpa using this
def letS : ByteArray := ⟨#[108, 101, 116, 32, 120, 32, 61, 32, 49, 32, 105, 110, 32, 120]⟩
theorem let_ok : LaidOk letS := ⟨ok_of (by kernel_rfl), List.eq_nil_of_length_eq_zero (by kernel_rfl), chk_of (by kernel_rfl)⟩
theorem let_len : (markT (scanT letS)).length = 9 := by kernel_rfl
end Go.Am.Y1

/- Mark's answer is balanced. Conditions: none. -/
namespace Go.Am.Y1
open Go.Am.L1 (Tk tkc tkP scanT)
set_option maxRecDepth 100000
set_option linter.unusedSimpArgs false

def opn (M : List Tk) : Nat := M.countP fun t => t.kind == 6
def cls (M : List Tk) : Nat := M.countP fun t => t.kind == 7
def isPl (t : Tk) : Bool := !(t.kind == 6) && !(t.kind == 7) && !(t.kind == 8)
def pln (M : List Tk) : List Tk := M.filter isPl
def npos (r : List Cx) : Nat := (r.filter pos).length

/-- The tokens so far, with as many blocks open as the stack holds. -/
structure Bal (n : Nat) (out L0 : List Tk) : Prop where
  pre : ∀ k, cls (out.take k) ≤ opn (out.take k)
  tot : opn out = cls out + n
  pl : pln out = L0

theorem Bal.one {n : Nat} {out L0 : List Tk} (h : Bal n out L0) {m : Nat} {t : Tk} {L1 : List Tk} (ht : opn [t] + n = cls [t] + m) (hl : L1 = L0 ++ pln [t]) : Bal m (out ++ [t]) L1 := by
  refine ⟨fun k => ?_, ?_, ?_⟩
  · by_cases hk : k ≤ out.length
    · rw [List.take_append_of_le_length hk]; exact h.pre k
    · rw [List.take_of_length_le (by simp; omega)]
      have := h.tot
      simp only [opn, cls, List.countP_append] at this ht ⊢
      omega
  · have := h.tot
    simp only [opn, cls, List.countP_append] at this ht ⊢
    omega
  · rw [hl, pln, List.filter_append, ← h.pl]; rfl
theorem Bal.op {n : Nat} {out L0 : List Tk} (h : Bal n out L0) (t : Tk) : Bal (n + 1) (out ++ [mkT 6 t]) L0 := h.one (by simp [opn, cls, mkT]; omega) (by simp [pln, isPl, mkT])
theorem Bal.cl {n : Nat} {out L0 : List Tk} (h : Bal (n + 1) out L0) (t : Tk) : Bal n (out ++ [mkT 7 t]) L0 := h.one (by simp [opn, cls, mkT]; omega) (by simp [pln, isPl, mkT])
theorem Bal.semi {n : Nat} {out L0 : List Tk} (h : Bal n out L0) (t : Tk) : Bal n (out ++ [mkT 8 t]) L0 := h.one (by simp [opn, cls, mkT]) (by simp [pln, isPl, mkT])
theorem Bal.tok {n : Nat} {out L0 : List Tk} (h : Bal n out L0) {t : Tk} (ht : isPl t = true) : Bal n (out ++ [t]) (L0 ++ [t]) := by
  have h2 := ht
  simp only [isPl, Bool.and_eq_true, Bool.not_eq_true'] at h2
  exact h.one (by simp [opn, cls, h2.1.1, h2.1.2]) (by simp [pln, ht])
theorem Bal.cls : ∀ (k : Nat) {n : Nat} {out L0 : List Tk}, Bal (n + k) out L0 → ∀ t : Tk, Bal n (out ++ closes k t) L0
  | 0, n, out, L0, h, t => by simpa [closes] using h
  | k + 1, n, out, L0, h, t => by
    have := (Bal.cls k (n := n + 1) (by rw [show n + 1 + k = n + (k + 1) by omega]; exact h) t).cl t
    rw [List.append_assoc, closes_snoc] at this
    exact this

theorem npos_tw {q : Cx → Bool} (r : List Cx) (hq : ∀ c, q c = true → pos c = true) : npos (r.dropWhile q) + (r.takeWhile q).length = npos r := by
  induction r with
  | nil => rfl
  | cons c r ih =>
    cases hc : q c
    · rw [List.dropWhile_cons, List.takeWhile_cons, hc]; simp
    · rw [List.dropWhile_cons, List.takeWhile_cons, hc]
      simp only [if_true, List.length_cons, npos, List.filter_cons, hq c hc] at ih ⊢
      omega
theorem npos_tail (r : List Cx) : npos (r.dropWhile pos).tail = npos (r.dropWhile pos) := by
  induction r with
  | nil => rfl
  | cons c r ih =>
    rw [List.dropWhile_cons]
    cases hc : pos c
    · simp [npos, hc]
    · simpa using ih
theorem npos_let (r : List Cx) (h : (r.takeWhile pos).any isLet = true) : npos (r.drop ((r.takeWhile nlet).length + 1)) + ((r.takeWhile nlet).length + 1) = npos r := by
  induction r with
  | nil => cases h
  | cons c r ih =>
    rw [List.takeWhile_cons] at h
    cases hc : pos c
    · rw [hc] at h; cases h
    · rw [hc] at h
      simp only [if_true, List.any_cons] at h
      cases hl : isLet c
      · rw [hl, Bool.false_or] at h
        have hn : nlet c = true := by simp [nlet, hl]
        have := ih h
        rw [List.takeWhile_cons, hn]
        simp only [if_true, List.length_cons, List.drop_succ_cons]
        have e : npos (c :: r) = npos r + 1 := by simp [npos, hc]
        omega
      · have hn : nlet c = false := by simp [nlet, hl]
        rw [List.takeWhile_cons, hn]
        simp [npos, hc]
theorem befR_npos (r : List Cx) (t : Tk) : npos (befR r t).1 + (befR r t).2 = npos r := by
  unfold befR
  split
  · rw [npos_tail]; exact npos_tw r fun _ h => h
  split
  · split
    · exact npos_tw r fun _ h => h
    · rfl
  split
  · split
    · rename_i h
      exact npos_let r h
    · rfl
  · rfl

/-- A token as Check lets it pass. -/
def okT (t : Tk) : Prop := 1 ≤ t.col ∧ isPl t = true

theorem openM_bal {prev : Option Tk} {t : Tk} {r : List Cx} {out L0 : List Tk} (h : Bal (npos r) out L0) (ht : okT t) : Bal (npos (openM prev t r out).1) (openM prev t r out).2.1 L0 := by
  unfold openM
  split
  · exact h
  · split
    · exact h
    split
    · exact h
    split
    · have e : ∀ b : ByteArray, npos (((t.col : Int), b) :: r) = npos r + 1 := fun b => by
        have hp : pos ((t.col : Int), b) = true := by have := ht.1; simp [pos]; omega
        simp [npos, hp]
      simp only
      rw [e]
      exact h.op t
    · exact (h.op t).cl t
theorem tailM_bal {t : Tk} {f : Bool} {r : List Cx} {out L0 : List Tk} (h : Bal (npos r) out L0) (ht : okT t) : Bal (npos (tailM t f r out).1) (tailM t f r out).2 (L0 ++ [t]) := by
  have hov : ∀ c, over t c = true → pos c = true := fun c hc => by
    have := of_decide_eq_true hc
    exact decide_eq_true (by omega)
  -- behind the line
  have h2 : Bal (npos (if f then r.dropWhile (over t) else r)) (if f then out ++ closes (r.takeWhile (over t)).length t ++ semis (r.dropWhile (over t)) t else out) L0 := by
    cases f
    · exact h
    · simp only [if_true]
      have h1 : Bal (npos (r.dropWhile (over t))) (out ++ closes (r.takeWhile (over t)).length t) L0 := Bal.cls _ (by rw [npos_tw r hov]; exact h) t
      unfold semis
      split
      · exact h1.semi t
      · rw [List.append_nil]; exact h1
  unfold tailM
  generalize (if f then r.dropWhile (over t) else r) = r2 at *
  generalize (if f then out ++ closes (r.takeWhile (over t)).length t ++ semis (r.dropWhile (over t)) t else out) = out2 at *
  have h3 : Bal (npos (befR r2 t).1) (out2 ++ closes (befR r2 t).2 t) L0 := Bal.cls _ (by rw [befR_npos]; exact h2) t
  have h4 := h3.tok ht.2
  simp only
  split
  · have e : npos ((0, (⟨#[]⟩ : ByteArray)) :: (befR r2 t).1) = npos (befR r2 t).1 := by simp [npos, pos]
    rw [e]; exact h4
  · exact h4

theorem markG_bal : ∀ (R : List Tk) (z : Tk) (prev : Option Tk) (r : List Cx) (out L0 : List Tk), Bal (npos r) out L0 → (∀ t, t ∈ R → okT t ∧ t.kind ≠ 9) → okT z → z.kind = 9 → Bal (npos (markG prev (R ++ [z]) r out).1) (markG prev (R ++ [z]) r out).2 (L0 ++ R)
  | [], z, prev, r, out, L0, h, _, hz, hz9 => by
    rw [List.nil_append, List.append_nil, markG, if_pos (by simp [hz9])]
    exact openM_bal h hz
  | t :: R, z, prev, r, out, L0, h, hR, hz, hz9 => by
    obtain ⟨ht, h9⟩ := hR t (List.mem_cons_self ..)
    rw [List.cons_append, markG, if_neg (by simpa using h9)]
    have := markG_bal R z (some t) _ _ (L0 ++ [t]) (tailM_bal (openM_bal (prev := prev) h ht) ht (f := (openM prev t r out).2.2)) (fun u hu => hR u (List.mem_cons_of_mem _ hu)) hz hz9
    rw [List.append_assoc, List.singleton_append] at this
    exact this

/-- All tokens but the last are not the end. -/
theorem ChkL.split {L : List Tk} (h : ChkL L) : ∃ R z, L = R ++ [z] ∧ (∀ t, t ∈ R → okT t ∧ t.kind ≠ 9) ∧ okT z ∧ z.kind = 9 ∧ lastT L = z := by
  have hne : L ≠ [] := by intro h0; have := h.pos; rw [h0] at this; simp at this
  have hall : ∀ (i : Nat) t, L[i]? = some t → okT t ∧ (t.kind = 9 ↔ i = L.length - 1) := by
    intro i t ht
    have := h.ok i t ht
    simp only [okAt, Bool.and_eq_true, Bool.not_eq_true'] at this
    obtain ⟨⟨h1, h2⟩, -⟩ := this
    simp only [bad1, Bool.or_eq_false_iff, decide_eq_false_iff_not] at h1
    simp only [bad2, Bool.or_eq_false_iff, decide_eq_false_iff_not] at h2
    obtain ⟨⟨⟨h3, h4⟩, h5⟩, h6⟩ := h2
    have h7 : (t.kind == 9) = ((i : Int) == ((L.length - 1 : Nat) : Int)) := by simpa using h6
    refine ⟨⟨by omega, ?_⟩, ?_⟩
    · simp only [isPl, Bool.and_eq_true, Bool.not_eq_true', beq_eq_false_iff_ne, ne_eq]
      simp only [Bool.and_eq_false_iff, decide_eq_false_iff_not] at h5
      omega
    · constructor
      · intro h9
        rw [h9] at h7
        have : ((i : Int) == ((L.length - 1 : Nat) : Int)) = true := h7.symm
        have := eq_of_beq this
        omega
      · intro hi
        rw [hi] at h7
        have : (t.kind == 9) = true := by rw [h7]; simp
        exact eq_of_beq this
  refine ⟨L.dropLast, L.getLast hne, (List.dropLast_concat_getLast hne).symm, fun t ht => ?_, ?_, ?_, ?_⟩
  · obtain ⟨i, hi⟩ := List.mem_iff_getElem?.1 ht
    have hlt := (List.getElem?_eq_some_iff.1 hi).1
    rw [List.length_dropLast] at hlt
    have hi' : L[i]? = some t := by rw [List.getElem?_dropLast, if_pos hlt] at hi; exact hi
    obtain ⟨h1, h2⟩ := hall i t hi'
    exact ⟨h1, fun h9 => by have := h2.1 h9; omega⟩
  · exact (hall (L.length - 1) _ (by rw [← List.getLast?_eq_getElem?, List.getLast?_eq_some_getLast hne])).1
  · exact (hall (L.length - 1) _ (by rw [← List.getLast?_eq_getElem?, List.getLast?_eq_some_getLast hne])).2.2 rfl
  · rw [lastT, List.getLast?_eq_some_getLast hne]; rfl

/-- Mark's answer. -/
theorem markT_bal {L : List Tk} (h : ChkL L) : Bal 0 (markT L) L := by
  obtain ⟨R, z, rfl, hR, hz, hz9, hl⟩ := h.split
  have h0 : Bal (npos []) ([] : List Tk) [] := ⟨fun k => by simp [opn, cls], rfl, rfl⟩
  have h1 := markG_bal R z none [] [] [] h0 hR hz hz9
  rw [List.nil_append] at h1
  have h2 : Bal 0 _ R := Bal.cls (npos (markG none (R ++ [z]) [] []).1) (n := 0) (by rw [Nat.zero_add]; exact h1) z
  rw [markT, hl]
  exact h2.tok hz.2

theorem markG_len : ∀ (R : List Tk) (prev : Option Tk) (r : List Cx) (out : List Tk), (markG prev R r out).2.length + (markG prev R r out).1.length ≤ out.length + r.length + 5 * R.length
  | [], prev, r, out => by simp [markG]
  | t :: R, prev, r, out => by
    have h1 := openM_len prev t r out
    rw [markG]
    split
    · simp only [List.length_cons]; omega
    · have h2 := tailM_len t (openM prev t r out).2.2 (openM prev t r out).1 (openM prev t r out).2.1
      have h3 := markG_len R (some t) (tailM t (openM prev t r out).2.2 (openM prev t r out).1 (openM prev t r out).2.1).1 (tailM t (openM prev t r out).2.2 (openM prev t r out).1 (openM prev t r out).2.1).2
      simp only [List.length_cons]; omega
theorem markT_len (L : List Tk) : (markT L).length ≤ 5 * L.length + 1 := by
  have h1 := markG_len L none [] []
  have h2 := List.length_filter_le pos (markG none L [] []).1
  simp only [markT, List.length_append, closes, List.length_replicate, List.length_cons, List.length_nil] at h1 ⊢
  omega
end Go.Am.Y1
