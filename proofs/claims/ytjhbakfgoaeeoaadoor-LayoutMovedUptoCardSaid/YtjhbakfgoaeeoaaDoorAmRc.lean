/- The marker of the layout: its stack and its tokens. Conditions: none. -/
import Derived.Test.YtjhbakfgoaeeoaaDoorAmRb
import Derived.Test.YtjhbakfgoaeeoaaDoorAmTy
import Derived.Test.YtjhbakfgoaeeoaaDoorAmLf
import Derived.Test.YtjhbakfgoaeeoaaDoorAmYc
set_option linter.unusedSimpArgs false
set_option linter.unusedVariables false
namespace Go.Am.Y1
open Go.Am.L1 (bts_len Tk tkc tkP scanT scanW OkS)
set_option maxRecDepth 100000
set_option linter.unusedSimpArgs false
attribute [local go_sem] wseq wreg wdreg wret wskip wexit wblock wcnd cnd_t cnd_f then_n then_x then_r catch_n rnd_n rnd_x rnd_r catch_x catch_r wo_nil wo_grd grdO_t grdO_f wo_ops stpO wr_nil wr_alloc wr_guards grdR_t grdR_f wr_ops stpR evAllocs evOp env0_app eput_some eput_none eset_app Opd.ev wantedA faddrA storeA setAt snew_obj snew_size sput_obj sput_size av_cells av_one av_strip av_still unA eqbA fillA fldA lensA mmA mm2 mmFold List.getD_cons_zero List.getD_cons_succ List.getD_nil List.length_cons List.length_nil List.drop_zero List.drop_succ_cons List.take_succ_cons List.take_zero List.map_cons List.map_nil List.set_cons_zero List.set_cons_succ List.all_cons List.all_nil List.getElem?_cons_zero List.getElem?_cons_succ List.nil_append List.cons_append Nat.zero_add Nat.add_zero beq_self_eq_true bt bf Bool.not_true Bool.not_false Bool.and_true Bool.true_and Bool.and_false Bool.false_and and_self and_true true_and n0 n1 n2 n3 n4 m0 m1 m2 m3 c1 retA resAs resA undefA Option.map_some Option.map_none

def yx : Ext := fun f => if f = 99 then some enclX else L1.xs f
theorem subL : Sub L1.T L1.xs T yx := by
  refine ⟨fun f h hx => ⟨h, ?_, fun _ _ _ hh => hh⟩, fun f cf hx ht => ?_⟩
  · unfold yx
    rw [if_neg (by rintro rfl; simp [L1.xs] at hx)]
    exact hx
  · unfold L1.T at ht
    split at ht
    all_goals first
      | (cases ht; exact ⟨rfl, rfl⟩)
      | cases ht

abbrev Cx := Int × ByteArray
def cxc (c : Cx) : List AV := [.int .i64 c.1, .str c.2]
theorem cxP : Plain cxc 2 := ⟨fun _ => rfl, fun _ => rfl, fun _ => rfl, fun _ => rfl⟩

/-- The stack, as it lies. -/
def Stk (S : St) (v : AV) (l : List Cx) : Prop :=
  (v = .nils ∧ l = []) ∨ ∃ i C, v = .msl i 0 l.length 2 ∧ S.obj i = some (.cells C) ∧ l.length * 2 ≤ C.length ∧ C.take (l.length * 2) = l.flatMap cxc ∧ i < S.size
theorem Stk.len {S : St} {v : AV} {l : List Cx} (h : Stk S v l) : lenA v = some (.int .i64 l.length) := by
  rcases h with ⟨rfl, rfl⟩ | ⟨i, C, rfl, _⟩ <;> rfl
theorem Stk.of {S S' : St} {v : AV} {l : List Cx} (h : Stk S v l) (hs : S.size ≤ S'.size) (hk : ∀ i o n z, v = .msl i o n z → S'.obj i = S.obj i) : Stk S' v l := by
  rcases h with h | ⟨i, C, rfl, h2, h3, h4, h5⟩
  · exact Or.inl h
  · exact Or.inr ⟨i, C, rfl, (hk i _ _ _ rfl).trans h2, h3, h4, by omega⟩
theorem take_cell {C F : List AV} {n a m : Nat} (h : C.take n = F) (ha : a + m ≤ n) : (C.drop a).take m = (F.drop a).take m := by
  rw [← h, List.drop_take, List.take_take, Nat.min_eq_left (by omega)]
theorem Stk.at {S : St} {v : AV} {l : List Cx} (h : Stk S v l) {j : Nat} {c : Cx} (hj : l[j]? = some c) : ∃ i, iaddrA 2 v (.int .i64 j) = some (.ptr i (j * 2)) ∧ loadA S true 2 (.ptr i (j * 2)) = some (.agg (cxc c)) ∧
    loadA S false 1 (.ptr i (j * 2)) = some (.int .i64 c.1) ∧ loadA S false 1 (.ptr i (j * 2 + 1)) = some (.str c.2) := by
  have hlt := (List.getElem?_eq_some_iff.1 hj).1
  rcases h with ⟨rfl, rfl⟩ | ⟨i, C, rfl, h2, h3, h4, h5⟩
  · cases hj
  · have hle : j * 2 + 2 ≤ l.length * 2 := by omega
    have hr := flat_row cxP.len hj
    have h0 := flat_cell cxP.len hj (j := 0) (by omega)
    have h1 := flat_cell cxP.len hj (j := 1) (by omega)
    rw [Nat.add_zero] at h0
    refine ⟨i, ?_, ?_, ?_, ?_⟩
    · simp only [iaddrA]; rw [if_pos ⟨by omega, by omega, trivial⟩]; simp
    · simp only [loadA, rdCells, h2]
      rw [if_pos (by omega), take_cell h4 hle, hr]
      simp [cxc, AV.strip]
    · simp only [loadA, rdCells, h2]
      rw [if_pos (by omega), take_cell h4 (by omega), h0]
      rfl
    · simp only [loadA, rdCells, h2]
      rw [if_pos (by omega), take_cell h4 (by omega), h1]
      rfl

/-- The marker, and what it leaves alone. -/
structure Mk (B : Nat → Prop) (S : St) (p : Nat) (st : List Cx) (out : List Tk) : Prop where
  ex : ∃ sv ov, S.obj p = some (.cells [sv, ov]) ∧ Stk S sv st ∧ MSl tkc 5 S ov out ∧ notO sv p ∧ notO ov p ∧ (∀ i o n z, sv = .msl i o n z → notO ov i) ∧ (∀ j, B j → notO sv j ∧ notO ov j)
  lt : p < S.size
  nb : ¬ B p
  low : ∀ j, B j → j < S.size

/-- What is left alone is as it was. -/
def Pr (B : Nat → Prop) (S S' : St) : Prop := S.size ≤ S'.size ∧ ∀ j, B j → S'.obj j = S.obj j
theorem Pr.refl (B : Nat → Prop) (S : St) : Pr B S S := ⟨Nat.le_refl _, fun _ _ => rfl⟩
theorem Pr.trans {B : Nat → Prop} {a b c : St} (h : Pr B a b) (k : Pr B b c) : Pr B a c := ⟨Nat.le_trans h.1 k.1, fun j hj => (k.2 j hj).trans (h.2 j hj)⟩
theorem Pr.less {B B' : Nat → Prop} {a b : St} (h : Pr B a b) (hb : ∀ j, B' j → B j) : Pr B' a b := ⟨h.1, fun j hj => h.2 j (hb j hj)⟩
theorem Pr.new {B : Nat → Prop} {S : St} (hl : ∀ j, B j → j < S.size) (o : AO) : Pr B S (S.new o) := ⟨by simp [St.new], fun j hj => by rw [new_ne (by have := hl j hj; omega)]⟩

theorem Mk.less {B B' : Nat → Prop} {S : St} {p : Nat} {st : List Cx} {out : List Tk} (h : Mk B S p st out) (hb : ∀ j, B' j → B j) : Mk B' S p st out := by
  obtain ⟨sv, ov, h1, h2, h3, h4, h5, h6, h7⟩ := h.ex
  exact ⟨⟨sv, ov, h1, h2, h3, h4, h5, h6, fun j hj => h7 j (hb j hj)⟩, h.lt, fun hp => h.nb (hb p hp), fun j hj => h.low j (hb j hj)⟩

/-- New objects beside it. -/
theorem Mk.keep {B : Nat → Prop} {S S' : St} {p : Nat} {st : List Cx} {out : List Tk} (h : Mk B S p st out) (hk : Keep S S') : Mk (fun j => B j ∨ (S.size ≤ j ∧ j < S'.size)) S' p st out := by
  obtain ⟨sv, ov, h1, h2, h3, h4, h5, h6, h7⟩ := h.ex
  have hso : ∀ i o n z, sv = .msl i o n z → i < S.size := fun i o n z hs => by
    rcases h2 with ⟨rfl, -⟩ | ⟨i', C, rfl, -, -, -, h5⟩
    · cases hs
    · cases hs; exact h5
  have hoo : ∀ i o n z, ov = .msl i o n z → i < S.size := fun i o n z hs => by
    rcases h3 with ⟨rfl, -⟩ | ⟨rfl, -⟩ | ⟨q, rfl, -, h5⟩
    · cases hs
    · cases hs
    · cases hs; exact h5
  refine ⟨⟨sv, ov, hk.obj h.lt h1, h2.of hk.1 fun i o n z hs => hk.2 i (hso i o n z hs), h3.keep hk, h4, h5, h6, fun j hj => ?_⟩, hk.lt h.lt, ?_, fun j hj => ?_⟩
  · rcases hj with hj | ⟨hj, -⟩
    · exact h7 j hj
    · exact ⟨fun o n z hs => by have := hso j o n z hs; omega, fun o n z hs => by have := hoo j o n z hs; omega⟩
  · rintro (hp | ⟨hp, -⟩)
    · exact h.nb hp
    · have := h.lt; omega
  · rcases hj with hj | ⟨-, hj⟩
    · exact hk.lt (h.low j hj)
    · exact hj
theorem Mk.keep' {B : Nat → Prop} {S S' : St} {p : Nat} {st : List Cx} {out : List Tk} (h : Mk B S p st out) (hk : Keep S S') : Mk B S' p st out := (h.keep hk).less fun _ hj => Or.inl hj
theorem Pr.keep {B : Nat → Prop} {S S' : St} {p : Nat} {st : List Cx} {out : List Tk} (h : Mk B S p st out) (hk : Keep S S') : Pr B S S' := ⟨hk.1, fun j hj => hk.2 j (h.low j hj)⟩

/-- The innermost context. -/
def topc (st : List Cx) : Cx := st.getLast?.getD (0, ⟨#[]⟩)

theorem top_law {B : Nat → Prop} {S : St} {p : Nat} {st : List Cx} {out : List Tk} (h : Mk B S p st out) (hl : st.length ≤ 100000) : WC T yx 103 [.ptr p 0] S (fun v S' => v = .agg (cxc (topc st)) ∧ Keep S S') := by
  refine WC_fn cf103 rfl T103 (by simp [cf103]) ?_
  obtain ⟨sv, ov, h1, h2, h3, h4, h5, h6, h7⟩ := h.ex
  have hlt := h.lt
  have ho : (S.new (.cells [.int .i64 0, .str ⟨#[]⟩])).obj p = some (.cells [sv, ov]) := by rw [new_ne (by omega)]; exact h1
  have hld : loadA (S.new (.cells [.int .i64 0, .str ⟨#[]⟩])) false 1 (.ptr p 0) = some sv := by simp [loadA, rdCells, ho]
  have hk1 : Keep S (S.new (.cells [.int .i64 0, .str ⟨#[]⟩])) := Keep.new _ _
  have hS2 : Stk (S.new (.cells [.int .i64 0, .str ⟨#[]⟩])) sv st := h2.of hk1.1 fun i o n z hs => hk1.2 i (by
    rcases h2 with ⟨rfl, -⟩ | ⟨i', C, rfl, -, -, -, h5⟩
    · cases hs
    · cases hs; exact h5)
  cases hz : ((st.length : Int) == 0)
  · have hne : st.length ≠ 0 := by intro h0; rw [h0] at hz; simp at hz
    have hw : IntKind.i64.wrap ((st.length : Int) - 1) = ((st.length - 1 : Nat) : Int) := by rw [IntKind.wrap_i64]; omega
    have hla : st[st.length - 1]? = some (topc st) := by
      rw [topc, List.getLast?_eq_getElem?]
      rw [List.getElem?_eq_getElem (by omega)]; rfl
    obtain ⟨i, hi1, hi2, -, -⟩ := hS2.at hla
    simp only [cf103, hld, h2.len, hz, hw, hi1, hi2, go_sem, ↓reduceIte, reduceCtorEq, Nat.reduceEqDiff, Nat.reduceAdd, Nat.reduceSub, Nat.reduceMul, Nat.reduceLeDiff, Nat.reduceLT, binA]
    have hc5 : ((cxc (topc st)).length = 2 ∧ (cxc (topc st)).all AV.one = true) = True := by simp [cxc, AV.one]
    simp only [hc5, cxc, go_sem, ↓reduceIte, reduceCtorEq, Nat.reduceEqDiff, Nat.reduceAdd, Nat.reduceSub, Nat.reduceMul, Nat.reduceLeDiff, Nat.reduceLT, binA]
    exact ⟨by simp, _, by simp [loadA, rdCells, St.put, St.new, AV.strip], rfl, (Keep.new _ _).put' (Nat.le_refl _) _⟩
  · have h0 : st = [] := List.eq_nil_of_length_eq_zero (by simpa using hz)
    subst h0
    have hlen0 : lenA sv = some (.int .i64 0) := h2.len
    have hz0 : ((0 : Int) == 0) = true := rfl
    simp only [cf103, hld, hlen0, hz0, go_sem, ↓reduceIte, reduceCtorEq, Nat.reduceEqDiff, Nat.reduceAdd, Nat.reduceSub, Nat.reduceMul, Nat.reduceLeDiff, Nat.reduceLT, binA]
    exact ⟨by simp, _, by simp [loadA, rdCells, St.put, St.new, AV.strip]; rfl, rfl, (Keep.new _ _).put' (Nat.le_refl _) _⟩

theorem Stk.size_lt {S : St} {v : AV} {l : List Cx} (h : Stk S v l) : ∀ i o n z, v = .msl i o n z → i < S.size := fun i o n z hs => by
  rcases h with ⟨rfl, -⟩ | ⟨i', C, rfl, -, -, -, h5⟩
  · cases hs
  · cases hs; exact h5
theorem mout_lt {S : St} {v : AV} {l : List Tk} (h : MSl tkc 5 S v l) : ∀ i o n z, v = .msl i o n z → i < S.size := fun i o n z hs => by
  rcases h with ⟨rfl, -⟩ | ⟨rfl, -⟩ | ⟨q, rfl, -, h5⟩
  · cases hs
  · cases hs
  · cases hs; exact h5

theorem pop_law {B : Nat → Prop} {S : St} {p : Nat} {st : List Cx} {c : Cx} {out : List Tk} (h : Mk B S p (st ++ [c]) out) (hl : st.length ≤ 100000) : WC T yx 104 [.ptr p 0] S (fun _ S' => Mk B S' p st out ∧ Pr B S S') := by
  refine WC_fn cf104 rfl T104 (by simp [cf104]) ?_
  obtain ⟨sv, ov, h1, h2, h3, h4, h5, h6, h7⟩ := h.ex
  have hld : loadA S false 1 (.ptr p 0) = some sv := by simp [loadA, rdCells, h1]
  rcases h2 with ⟨-, he⟩ | ⟨i, C, rfl, g2, g3, g4, g5⟩
  · simp at he
  have hln : (st ++ [c]).length = st.length + 1 := by simp
  have hlen : lenA (.msl i 0 (st ++ [c]).length 2) = some (.int .i64 ((st.length + 1 : Nat) : Int)) := by rw [hln]; rfl
  have hw : IntKind.i64.wrap (((st.length + 1 : Nat) : Int) - 1) = (st.length : Int) := by rw [IntKind.wrap_i64]; omega
  have hsl : slcA 2 (.msl i 0 (st ++ [c]).length 2) none (some (.int .i64 st.length)) none = some (.msl i 0 st.length 2) := by
    simp only [slcA, optOf, natOf]
    rw [if_pos ⟨trivial, rfl⟩, if_pos ⟨by omega, by omega⟩]
    simp only [Int.toNat_natCast, Nat.zero_mul, Nat.add_zero, Nat.sub_zero]
    rw [if_pos (by rcases Nat.eq_zero_or_pos st.length with h0 | h0 <;> simp [h0])]
  simp only [cf104, hld, hlen, hw, hsl, h1, go_sem, ↓reduceIte, reduceCtorEq, Nat.reduceEqDiff, Nat.reduceAdd, Nat.reduceSub, Nat.reduceMul, Nat.reduceLeDiff, Nat.reduceLT, binA]
  have hip : i ≠ p := by rintro rfl; exact h4 _ _ _ rfl
  refine ⟨by simp, _, rfl, ⟨⟨.msl i 0 st.length 2, ov, put_eq, Or.inr ⟨i, C, rfl, by rw [put_ne hip]; exact g2, by omega, ?_, g5⟩, ?_, h4' h4, h5, fun j o n z hs => h6 i _ _ _ rfl |> fun hh => by cases hs; exact hh, fun j hj => ⟨fun o n z hs => (h7 j hj).1 0 (st ++ [c]).length 2 (by cases hs; rfl), (h7 j hj).2⟩⟩, h.lt, h.nb, h.low⟩, Nat.le_refl _, fun j hj => put_ne (by rintro rfl; exact h.nb hj)⟩
  · have := congrArg (List.take (st.length * 2)) g4
    rw [List.take_take, Nat.min_eq_left (by omega), List.flatMap_append, List.take_append_of_le_length (by rw [cxP.lens]; exact Nat.le_refl _), List.take_of_length_le (l := st.flatMap cxc) (by rw [cxP.lens]; exact Nat.le_refl _)] at this
    exact this
  · exact h3.of (fun q hq _ => put_ne (by rintro rfl; exact h5 _ _ _ hq)) (Nat.le_refl _)
where
  h4' {i : Nat} {n m : Nat} {p : Nat} (h : notO (.msl i 0 n 2) p) : notO (.msl i 0 m 2) p := fun o l z he => by cases he; exact h 0 n 2 rfl

/-- A token of the layout. -/
def mkT (k : Int) (t : Tk) : Tk := ⟨k, ⟨#[]⟩, 0, t.line, t.col⟩

theorem put_law {B : Nat → Prop} {S : St} {p : Nat} {st : List Cx} {out : List Tk} (h : Mk B S p st out) (hl : out.length ≤ 1000000) (k : Int) (t : Tk) :
    WC T yx 100 [.ptr p 0, .int .i64 k, .agg (tkc t)] S (fun _ S' => Mk B S' p st (out ++ [mkT k t]) ∧ Pr B S S') := by
  refine WC_fn cf100 rfl T100 (by simp [cf100]) ?_
  obtain ⟨sv, ov, h1, h2, h3, h4, h5, h6, h7⟩ := h.ex
  have hlt := h.lt
  obtain ⟨S1, hS1⟩ : ∃ S1, S1 = S.new (.cells (tkc t)) := ⟨_, rfl⟩
  have hk1 : Keep S S1 := by rw [hS1]; exact Keep.new _ _
  have hs1 : S1.size = S.size + 1 := by rw [hS1]; rfl
  have ho1 : S1.obj p = some (.cells [sv, ov]) := hk1.obj hlt h1
  have hb1 : S1.obj S.size = some (.cells (tkc t)) := by rw [hS1]; exact new_eq rfl
  have hl1 : loadA S1 false 1 (.ptr p 1) = some ov := by simp [loadA, rdCells, ho1]
  have hl3 : loadA S1 false 1 (.ptr S.size 3) = some (.int .i64 t.line) := by simp [loadA, rdCells, hb1, tkc]
  have hl4 : loadA S1 false 1 (.ptr S.size 4) = some (.int .i64 t.col) := by simp [loadA, rdCells, hb1, tkc]
  obtain ⟨ov', S2, happ, hM2, hf2, hs2, hc2, ho2, hk2⟩ := (h3.keep hk1).app1 tkP (mkT k t) (bytes := 48) (by omega)
  have hob2 : S2.obj p = some (.cells [sv, ov]) := (hk2 p (by omega) h5).trans ho1
  simp only [tkc, mkT] at happ
  simp only [cf100, go_sem, ↓reduceIte, reduceCtorEq, Nat.reduceEqDiff, Nat.reduceAdd, Nat.reduceSub, Nat.reduceMul, Nat.reduceLeDiff, Nat.reduceLT, binA]
  rw [← hS1]
  simp only [hl1, hl3, hl4, happ, hob2, hc2, ho2, go_sem, ↓reduceIte, reduceCtorEq, Nat.reduceEqDiff, Nat.reduceAdd, Nat.reduceSub, Nat.reduceMul, Nat.reduceLeDiff, Nat.reduceLT, binA]
  have hn2 : ∀ j, j < S1.size → notO ov' j := fun j hj => hf2.ne hj
  have hBl : ∀ j, B j → j ≠ p := fun j hj he => h.nb (he ▸ hj)
  refine ⟨by simp, _, rfl, ⟨⟨sv, ov', put_eq, ?_, ?_, h4, hn2 p (by omega), ?_, fun j hj => ⟨(h7 j hj).1, hn2 j (by have := h.low j hj; omega)⟩⟩, by simp only [St.put]; omega, h.nb, fun j hj => by have := h.low j hj; simp only [St.put]; omega⟩, by simp only [St.put]; omega, fun j hj => ?_⟩
  · refine h2.of (by simp only [St.put]; omega) fun i o n z hs => ?_
    have hil := h2.size_lt i o n z hs
    rw [put_ne (by rintro rfl; exact h4 o n z hs), hk2 i (by omega) (h6 i o n z hs), hk1.2 i hil]
  · exact hM2.of (fun q hq _ => put_ne (by rintro rfl; exact hn2 q (by omega) _ _ _ hq)) (Nat.le_refl _)
  · intro i o n z hs
    exact hn2 i (by have := h2.size_lt i o n z hs; omega)
  · have := h.low j hj
    rw [put_ne (hBl j hj), hk2 j (by omega) (h7 j hj).2, hk1.2 j this]

/-- The column of the innermost block. -/
theorem cxs_some : ∀ (l : List Cx) (C : List AV), C.take (l.length * 2) = l.flatMap cxc → cxsOf l.length C = some l
  | [], C, _ => rfl
  | c :: l, C, h => by
    have hl : (c :: l).length * 2 = l.length * 2 + 1 + 1 := by simp; omega
    rw [hl] at h
    match C, h with
    | [], h => simp [cxc] at h
    | [a], h => simp [cxc] at h
    | a :: b :: C, h =>
      simp only [List.take_succ_cons, List.flatMap_cons, cxc, List.cons_append, List.nil_append, List.cons.injEq] at h
      obtain ⟨rfl, rfl, h3⟩ := h
      simp only [List.length_cons, cxsOf, cxs_some l C h3]

theorem encl_law {B : Nat → Prop} {S : St} {p : Nat} {st : List Cx} {out : List Tk} (h : Mk B S p st out) (hl : st.length ≤ 1000000) : WC T yx 99 [.ptr p 0] S (fun v S' => v = .int .i64 (Go.Proofs.Tryd.enclV st.reverse) ∧ S' = S) := by
  obtain ⟨sv, ov, h1, h2, -⟩ := h.ex
  refine WC_ext (h := enclX) rfl (v := .int .i64 (Go.Proofs.Tryd.enclV st.reverse)) (s' := S) ?_ ⟨rfl, rfl⟩
  rcases h2 with ⟨rfl, rfl⟩ | ⟨i, C, rfl, g2, g3, g4, g5⟩
  · simp only [enclX, h1]; rfl
  · simp only [enclX, h1, g2, cxs_some st C g4]
    rw [if_pos (by omega)]

/-! ### Tokens of a kind -/
def isT (t : Tk) (k : Int) (s : ByteArray) : Bool := t.kind == k && t.text.toList == s.toList
theorem is_law (t : Tk) (k : Int) (s : ByteArray) (S : St) : WC T yx 98 [.agg (tkc t), .int .i64 k, .str s] S (fun v S' => v = .bool (isT t k s) ∧ Keep S S') := by
  refine WC_fn cf98 rfl T98 (by simp [cf98]) ?_
  have hl0 : loadA (S.new (.cells (tkc t))) false 1 (.ptr S.size 0) = some (.int .i64 t.kind) := by simp [loadA, rdCells, St.new, tkc]
  have hl1 : loadA (S.new (.cells (tkc t))) false 1 (.ptr S.size 1) = some (.str t.text) := by simp [loadA, rdCells, St.new, tkc]
  simp only [cf98, go_sem, ↓reduceIte, reduceCtorEq, Nat.reduceEqDiff, Nat.reduceAdd, Nat.reduceSub, Nat.reduceMul, Nat.reduceLeDiff, Nat.reduceLT, binA]
  cases hk : (t.kind == k) <;> simp only [hl0, hl1, hk, go_sem, ↓reduceIte, reduceCtorEq, Nat.reduceEqDiff, Nat.reduceAdd, Nat.reduceSub, Nat.reduceMul, Nat.reduceLeDiff, Nat.reduceLT, binA]
  · exact ⟨by simp, _, rfl, by simp [isT, hk], Keep.new _ _⟩
  · exact ⟨by simp, _, rfl, by simp [isT, hk], Keep.new _ _⟩

def wWhere : ByteArray := ⟨#[119, 104, 101, 114, 101]⟩
def wOf : ByteArray := ⟨#[111, 102]⟩
def wLet : ByteArray := ⟨#[108, 101, 116]⟩
def wWith : ByteArray := ⟨#[119, 105, 116, 104]⟩
def opensT (t : Tk) : Bool := t.kind == 4 && (t.text.toList == wWhere.toList || t.text.toList == wOf.toList || t.text.toList == wLet.toList || t.text.toList == wWith.toList)
theorem opens_law (t : Tk) (S : St) : WC T yx 97 [.agg (tkc t)] S (fun v S' => v = .bool (opensT t) ∧ Keep S S') := by
  refine WC_fn cf97 rfl T97 (by simp [cf97]) ?_
  have hl0 : loadA (S.new (.cells (tkc t))) false 1 (.ptr S.size 0) = some (.int .i64 t.kind) := by simp [loadA, rdCells, St.new, tkc]
  have hl1 : loadA (S.new (.cells (tkc t))) false 1 (.ptr S.size 1) = some (.str t.text) := by simp [loadA, rdCells, St.new, tkc]
  simp only [cf97, go_sem, ↓reduceIte, reduceCtorEq, Nat.reduceEqDiff, Nat.reduceAdd, Nat.reduceSub, Nat.reduceMul, Nat.reduceLeDiff, Nat.reduceLT, binA]
  cases hk : (t.kind == 4)
  · simp only [hl0, hl1, hk, go_sem, ↓reduceIte, reduceCtorEq, Nat.reduceEqDiff, Nat.reduceAdd, Nat.reduceSub, Nat.reduceMul, Nat.reduceLeDiff, Nat.reduceLT, binA]
    exact ⟨by simp, _, rfl, by simp [opensT, hk], Keep.new _ _⟩
  · cases h1 : (t.text.toList == wWhere.toList)
    · cases h2 : (t.text.toList == wOf.toList)
      · cases h3 : (t.text.toList == wLet.toList)
        · have e1 := h1; have e2 := h2; have e3 := h3
          simp only [wWhere] at e1; simp only [wOf] at e2; simp only [wLet] at e3
          simp only [hl0, hl1, hk, e1, e2, e3, go_sem, ↓reduceIte, reduceCtorEq, Nat.reduceEqDiff, Nat.reduceAdd, Nat.reduceSub, Nat.reduceMul, Nat.reduceLeDiff, Nat.reduceLT, binA]
          exact ⟨by simp, _, rfl, by simp [opensT, hk, h1, h2, h3, wWith], Keep.new _ _⟩
        · have e1 := h1; have e2 := h2; have e3 := h3
          simp only [wWhere] at e1; simp only [wOf] at e2; simp only [wLet] at e3
          simp only [hl0, hl1, hk, e1, e2, e3, go_sem, ↓reduceIte, reduceCtorEq, Nat.reduceEqDiff, Nat.reduceAdd, Nat.reduceSub, Nat.reduceMul, Nat.reduceLeDiff, Nat.reduceLT, binA]
          exact ⟨by simp, _, rfl, by simp [opensT, hk, h1, h2, h3], Keep.new _ _⟩
      · have e1 := h1; have e2 := h2
        simp only [wWhere] at e1; simp only [wOf] at e2
        simp only [hl0, hl1, hk, e1, e2, go_sem, ↓reduceIte, reduceCtorEq, Nat.reduceEqDiff, Nat.reduceAdd, Nat.reduceSub, Nat.reduceMul, Nat.reduceLeDiff, Nat.reduceLT, binA]
        exact ⟨by simp, _, rfl, by simp [opensT, hk, h1, h2], Keep.new _ _⟩
    · have e1 := h1
      simp only [wWhere] at e1
      simp only [hl0, hl1, hk, e1, go_sem, ↓reduceIte, reduceCtorEq, Nat.reduceEqDiff, Nat.reduceAdd, Nat.reduceSub, Nat.reduceMul, Nat.reduceLeDiff, Nat.reduceLT, binA]
      exact ⟨by simp, _, rfl, by simp [opensT, hk, h1], Keep.new _ _⟩
end Go.Am.Y1
