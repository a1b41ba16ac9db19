/- A part of the proof of unifySymmetric. Conditions: none. -/
import Derived.Test.YtfleakoephmgaaaDoorUoB
import Derived.Test.YtfleakoephmgaaaDoorAmL
import Derived.Below
import Derived.RangeFuncNested
import Derived.RangeFuncBox
import Derived.RangeFuncLeaves
import Derived.RangeFuncBound
import Derived.Shelf.Abstract
import Derived.WalkKit
import Derived.OwnWalkIn
import Derived.TacticsInMore
import Derived.LoopNIn
import Derived.LoopIn
import Derived.Sort.Grow
import Derived.Sort.EncStr
import Derived.Lib.SlicesCompact
set_option linter.unusedSimpArgs false
set_option linter.unusedVariables false
namespace Go.Am.U2
open Go.Am.Un Go.So
open Go.Am.U1 (tycP isl_tycs drop_at tyw tyc_w NoX vtm vtm_c len_tszs tsz_pos ne_a ne_b ne_c ne_d ne_e ne_f avr)
set_option maxRecDepth 100000
set_option linter.unusedSimpArgs false
attribute [local go_sem] wseq COp.isStore wreg wdreg wret wskip wexit wblock wcnd cnd_t cnd_f then_n then_x then_r catch_n rnd_n rnd_x rnd_r catch_x catch_r wo_nil wo_grd grdO_t grdO_f wo_ops stpO wr_nil wr_alloc wr_guards grdR_t grdR_f wr_ops stpR evAllocs evOp env0_app eput_some eput_none eset_app Opd.ev wantedA faddrA snew_obj snew_size sput_obj sput_size av_cells av_one av_strip av_still unA eqbA fillA fldA lensA mmA mm2 mmFold List.getD_cons_zero List.getD_cons_succ List.getD_nil List.length_cons List.length_nil List.drop_zero List.drop_succ_cons List.take_succ_cons List.take_zero List.map_cons List.map_nil List.set_cons_zero List.set_cons_succ List.all_cons List.all_nil List.getElem?_cons_zero List.getElem?_cons_succ List.nil_append List.cons_append Nat.zero_add Nat.add_zero beq_self_eq_true bt bf Bool.not_true Bool.not_false Bool.and_true Bool.true_and Bool.and_false Bool.false_and and_self and_true true_and n0 n1 n2 n3 n4 m0 m1 m2 m3 c1 retA resAs resA undefA Option.map_some Option.map_none
variable {X : Ext}

theorem sortT (hX : NoX X) : SortT T X 88 89 100 109 := ⟨T88, hX 88 (by decide), T89, hX 89 (by decide), T100, hX 100 (by decide), T109, hX 109 (by decide)⟩
theorem stableT : T 71 = some (sStb 88 89) := T71

theorem nan_law (hX : NoX X) (x : ByteArray) (s : St) : WC T X 72 [.str x] s (fun v s' => v = .bool false ∧ s' = s) := by
  refine WC_fn cf72 (hX 72 (by decide)) T72 (by simp [cf72]) ?_
  simp only [cf72, go_sem, ↓reduceIte, reduceCtorEq, Nat.reduceEqDiff, Nat.reduceAdd, Nat.reduceSub, Nat.reduceMul, Nat.reduceLeDiff, Nat.reduceLT, loadA, rdCells, storeA, setAt, binA]
  exact ⟨by simp, _, rfl, by simp⟩
theorem cmp_law (hX : NoX X) (x y : ByteArray) (s : St) : WC T X 52 [.str x, .str y] s (fun v s' => (∃ c : Int, v = .int .i64 c ∧ decide (c < 0) = ltB x y) ∧ s' = s) := by
  refine WC_fn cf52 (hX 52 (by decide)) T52 (by simp [cf52]) ?_
  simp only [cf52, go_sem, ↓reduceIte, reduceCtorEq, Nat.reduceEqDiff, Nat.reduceAdd, Nat.reduceSub, Nat.reduceMul, Nat.reduceLeDiff, Nat.reduceLT, loadA, rdCells, storeA, setAt, binA]
  refine WO_callx [.str x] (by simp only [go_sem, ↓reduceIte, reduceCtorEq, Nat.reduceEqDiff, Nat.reduceAdd, Nat.reduceSub, Nat.reduceMul, Nat.reduceLeDiff, Nat.reduceLT, loadA, rdCells, storeA, setAt, binA]) ((nan_law hX x s).mono ?_)
  rintro w s1 ⟨rfl, rfl⟩
  simp only [go_sem, ↓reduceIte, reduceCtorEq, Nat.reduceEqDiff, Nat.reduceAdd, Nat.reduceSub, Nat.reduceMul, Nat.reduceLeDiff, Nat.reduceLT, loadA, rdCells, storeA, setAt, binA]
  refine WO_callx [.str y] (by simp only [go_sem, ↓reduceIte, reduceCtorEq, Nat.reduceEqDiff, Nat.reduceAdd, Nat.reduceSub, Nat.reduceMul, Nat.reduceLeDiff, Nat.reduceLT, loadA, rdCells, storeA, setAt, binA]) ((nan_law hX y s1).mono ?_)
  rintro w s2 ⟨rfl, rfl⟩
  simp only [go_sem, ↓reduceIte, reduceCtorEq, Nat.reduceEqDiff, Nat.reduceAdd, Nat.reduceSub, Nat.reduceMul, Nat.reduceLeDiff, Nat.reduceLT, loadA, rdCells, storeA, setAt, binA]
  cases h1 : Op.bytesLess x.toList y.toList
  · cases h2 : (x.toList == y.toList) <;> simp only [h1, h2, Bool.false_or, Bool.not_false, Bool.not_true, go_sem, ↓reduceIte, reduceCtorEq, Nat.reduceEqDiff, Nat.reduceAdd, Nat.reduceSub, Nat.reduceMul, Nat.reduceLeDiff, Nat.reduceLT, loadA, rdCells, storeA, setAt, binA]
    · exact ⟨by simp, _, rfl, 1, rfl, h1.symm⟩
    · exact ⟨by simp, _, rfl, 0, rfl, h1.symm⟩
  · simp only [h1, go_sem, ↓reduceIte, reduceCtorEq, Nat.reduceEqDiff, Nat.reduceAdd, Nat.reduceSub, Nat.reduceMul, Nat.reduceLeDiff, Nat.reduceLT, loadA, rdCells, storeA, setAt, binA]
    exact ⟨by simp, _, rfl, -1, rfl, h1.symm⟩
theorem cmpT_law (hX : NoX X) (x y : Lb) (s : St) : WC T X 51 [.agg (lc x), .agg (lc y)] s (fun v s' => ∃ c : Int, v = .int .i64 c ∧ decide (c < 0) = ltL x y ∧ Keep s s') := by
  refine WC_fn cf51 (hX 51 (by decide)) T51 (by simp [cf51]) ?_
  rw [lc_c, lc_c]
  simp only [cf51, Nat.le_add_left, go_sem, ↓reduceIte, reduceCtorEq, Nat.reduceEqDiff, Nat.reduceAdd, Nat.reduceSub, Nat.reduceMul, Nat.reduceLeDiff, Nat.reduceLT, loadA, rdCells, storeA, setAt, binA]
  refine WO_callx _ rfl ((cmp_law hX x.1 y.1 _).mono ?_)
  rintro w s1 ⟨⟨c, rfl, hc⟩, rfl⟩
  simp only [go_sem, ↓reduceIte, reduceCtorEq, Nat.reduceEqDiff, Nat.reduceAdd, Nat.reduceSub, Nat.reduceMul, Nat.reduceLeDiff, Nat.reduceLT, loadA, rdCells, storeA, setAt, binA]
  exact ⟨by simp, _, rfl, c, rfl, hc, ((Keep.refl s).new' _).new' _⟩
theorem cmps (hX : NoX X) : Cmps T X lc 51 [] ltL := fun x y S => cmpT_law hX x y S

theorem sort_law (hX : NoX X) {v : AV} {l : List Lb} {S : St} (h : MSl lc 4 S v l) (hb : l.length ≤ big) : WC T X 50 [v, .func 51 []] S (fun _ S' => MSl lc 4 S' v (isort ltL l) ∧ KeepX v S S') := by
  refine WC_fn cf50 (hX 50 (by decide)) T50 (by simp [cf50]) ?_
  have hlen := h.len
  simp only [cf50, hlen, go_sem, ↓reduceIte, reduceCtorEq, Nat.reduceEqDiff, Nat.reduceAdd, Nat.reduceSub, Nat.reduceMul, Nat.reduceLeDiff, Nat.reduceLT, loadA, rdCells, storeA, setAt, binA]
  by_cases hl : l = []
  · subst hl
    refine WO_callx [v, .int .i64 0, .func 51 []] (by simp only [go_sem, ↓reduceIte, reduceCtorEq, Nat.reduceEqDiff, Nat.reduceAdd, Nat.reduceSub, Nat.reduceMul, Nat.reduceLeDiff, Nat.reduceLT, loadA, rdCells, storeA, setAt, binA]; rfl) ((stb_none (sortT hX) stableT (hX 71 (by decide)) v (.func 51 []) S).mono ?_)
    rintro w s2 rfl
    simp only [go_sem, ↓reduceIte, reduceCtorEq, Nat.reduceEqDiff, Nat.reduceAdd, Nat.reduceSub, Nat.reduceMul, Nat.reduceLeDiff, Nat.reduceLT, loadA, rdCells, storeA, setAt, binA]
    exact ⟨by simp, _, rfl, h, KeepX.refl _ _⟩
  · rcases h with ⟨-, h⟩ | ⟨-, h⟩ | ⟨p, rfl, ho, hp⟩
    · exact absurd h hl
    · exact absurd h hl
    refine WO_callx [.msl p 0 l.length 4, .int .i64 l.length, .func 51 []] (by simp only [go_sem, ↓reduceIte, reduceCtorEq, Nat.reduceEqDiff, Nat.reduceAdd, Nat.reduceSub, Nat.reduceMul, Nat.reduceLeDiff, Nat.reduceLT, loadA, rdCells, storeA, setAt, binA]) ((stb_law (sortT hX) stableT (hX 71 (by decide)) lcP ltL_ord (cmps hX) l (by unfold big at hb; omega) hp ho).mono ?_)
    rintro w s2 ⟨h1, h2⟩
    simp only [go_sem, ↓reduceIte, reduceCtorEq, Nat.reduceEqDiff, Nat.reduceAdd, Nat.reduceSub, Nat.reduceMul, Nat.reduceLeDiff, Nat.reduceLT, loadA, rdCells, storeA, setAt, binA]
    exact ⟨by simp, _, rfl, Or.inr (Or.inr ⟨p, by rw [isort_len], h1, Nat.lt_of_lt_of_le hp h2.1⟩), h2.1, fun j hj hn => h2.2 j hj (fun e => hn 0 l.length 4 (by rw [e]))⟩

theorem backw_law (hX : NoX X) (v : AV) (hv : v.cells = [v]) (S : St) : WC T X 53 [v] S (fun r S' => r = .func 73 [.ptr S.size 0] ∧ S' = S.new (.cells [v])) := by
  refine WC_fn cf53 (hX 53 (by decide)) T53 (by simp [cf53]) ?_
  simp only [cf53, hv, go_sem, ↓reduceIte, reduceCtorEq, Nat.reduceEqDiff, Nat.reduceAdd, Nat.reduceSub, Nat.reduceMul, Nat.reduceLeDiff, Nat.reduceLT, loadA, rdCells, storeA, setAt, binA]
  exact ⟨by simp, _, rfl, by simp⟩
def kpre : CC :=
  (.seq (.reg [⟨(some 1), none, (.box (.t 0))⟩, ⟨(some 2), none, (.alloc [(.int .i64 0), (.str ⟨#[]⟩), (.int .i64 0), .nils])⟩]) (.seq (.reg [⟨(some 3), none, (.mv (.c .nils))⟩]) (.seq (.block 0 (.loop cf24_l1)) (.seq (.reg [⟨(some 28), none, (.load true 4 (.t 1))⟩, ⟨(some 4), none, (.alloc [(.int .i64 0), (.str ⟨#[]⟩), (.int .i64 0), .nils])⟩, ⟨none, none, (.store 4 (.t 4) (.t 28))⟩]) (.seq (.reg [⟨(some 29), none, (.faddr 3 (.t 4))⟩, ⟨none, none, (.store 1 (.t 29) (.c .nils))⟩]) (.seq (.seq (.reg [⟨(some 30), none, (.faddr 3 (.t 1))⟩, ⟨(some 31), none, (.load false 1 (.t 30))⟩, ⟨(some 32), none, (.len (.t 31))⟩, ⟨(some 33), none, (.mv (.c (.int .i64 0)))⟩]) (.block 2 (.loop cf24_l0))) (.seq (.reg [⟨(some 47), none, (.mv (.t 3))⟩, ⟨(some 48), none, (.call 50 [(.t 47), (.c (.func 51 []))])⟩]) (.reg [⟨(some 49), none, (.mv (.t 3))⟩, ⟨(some 50), none, (.call 53 [(.t 49)])⟩]))))))))

theorem MSl.one' {α : Type} {f : α → List AV} {z : Nat} {S : St} {v : AV} {l : List α} (h : MSl f z S v l) : v.cells = [v] := h.one.2

set_option maxHeartbeats 4000000 in
theorem pre_law {n : Nat} {t z : Tm} {L : List Lb} {w : AV} (hs : Spn t L z) (hw : ISl tyc w (lof t)) (hv : Val t) (ht : tsz t < n + 1) (hn : n ≤ big) (s : St) :
    W T (Xn n) kpre (env0 [.agg (tyw t w)]) s (fun x e S => x = .normal ∧ ∃ (q c : Nat) (lv ov : AV), s.size + 1 < q ∧ q < c ∧ c < S.size ∧ e 2 = .ptr (s.size + 1) 0 ∧ S.obj (s.size + 1) = some (.cells [.int .i64 0, .str ⟨#[]⟩, .int .i64 0, .nils]) ∧
      e 4 = .ptr q 0 ∧ S.obj q = some (.cells [.int .i64 (kof z), .str (nof z), .int .i64 (vof z), ov]) ∧ MSl tyc 4 S ov ((lof z).map nf) ∧ freshO (q + 1) ov ∧
      e 50 = .func 73 [.ptr c 0] ∧ S.obj c = some (.cells [lv]) ∧ MSl lc 4 S lv (isort ltL (L.map nfl)) ∧ (∀ p o l y, lv = .msl p o l y → s.size + 1 < p ∧ p < q) ∧ s.size ≤ S.size ∧ ∀ j, j < s.size → S.obj j = s.obj j) := by
  have hL := lab_loop (n := n) (b := s.size) (N := s.size + 1 + 1) t L z hs hv ht hn
  obtain ⟨hm1, hm2, hm3⟩ := spn_mem hs
  simp only [tyw, U1.tyw] at hL ⊢
  simp only [kpre, go_sem, ↓reduceIte, reduceCtorEq, Nat.reduceEqDiff, Nat.reduceAdd, Nat.reduceSub, Nat.reduceMul, Nat.reduceLeDiff, Nat.reduceLT, loadA, rdCells, storeA, setAt, binA]
  refine (hL _ _ [] .nils w ?_ ?_ ?_ ?_ ?_ hw ?_ ?_).mono ?_
  · simp only [List.length_nil]; omega
  · simp only [go_sem, ↓reduceIte, reduceCtorEq, Nat.reduceEqDiff, Nat.reduceAdd, Nat.reduceSub, Nat.reduceMul, Nat.reduceLeDiff, Nat.reduceLT, loadA, rdCells, storeA, setAt, binA]
  · simp only [go_sem, ↓reduceIte, reduceCtorEq, Nat.reduceEqDiff, Nat.reduceAdd, Nat.reduceSub, Nat.reduceMul, Nat.reduceLeDiff, Nat.reduceLT, loadA, rdCells, storeA, setAt, binA]
  · omega
  · simp only [St.new]; omega
  · simp only [go_sem, ↓reduceIte, reduceCtorEq, Nat.reduceEqDiff, Nat.reduceAdd, Nat.reduceSub, Nat.reduceMul, Nat.reduceLeDiff, Nat.reduceLT, loadA, rdCells, storeA, setAt, binA]
  · exact ⟨Or.inl ⟨rfl, rfl⟩, freshO_nils _⟩
  rintro x e S1 ⟨rfl, e1, e2, ⟨lv, e3, hl1, hl2⟩, ⟨w1, hob, hw1⟩, hz, hk⟩
  simp only [go_sem, ↓reduceIte, reduceCtorEq, Nat.reduceEqDiff, Nat.reduceAdd, Nat.reduceSub, Nat.reduceMul, Nat.reduceLeDiff, Nat.reduceLT, loadA, rdCells, storeA, setAt, binA] at e2
  have ho2 := hk (s.size + 1) (by omega) (by omega)
  simp only [go_sem, ↓reduceIte, reduceCtorEq, Nat.reduceEqDiff, Nat.reduceAdd, Nat.reduceSub, Nat.reduceMul, Nat.reduceLeDiff, Nat.reduceLT, loadA, rdCells, storeA, setAt, binA] at ho2 hz
  have hq1 : s.size < S1.size := by omega
  have hso : (AV.strip w1).one = true := by rcases hw1 with ⟨rfl, -⟩ | ⟨f, tk, rfl⟩ <;> rfl
  have hwl := hw1.len
  simp only [e1, e2, e3, hob, hso, hwl, ne_a hq1, ne_b hq1, Nat.le_add_left, go_sem, ↓reduceIte, reduceCtorEq, Nat.reduceEqDiff, Nat.reduceAdd, Nat.reduceSub, Nat.reduceMul, Nat.reduceLeDiff, Nat.reduceLT, loadA, rdCells, storeA, setAt, binA]
  have hzz := len_tszs (lof z)
  have hzs : tsz z = 1 + tszs (lof z) := by cases z; rw [tsz]; rfl
  obtain ⟨SA, hSA⟩ : ∃ SA, SA = (((S1.new (.cells [.int .i64 0, .str ⟨#[]⟩, .int .i64 0, .nils])).put S1.size (some (.cells [.int .i64 (kof z), .str (nof z), .int .i64 (vof z), AV.strip w1]))).put S1.size (some (.cells [.int .i64 (kof z), .str (nof z), .int .i64 (vof z), .nils]))) := ⟨_, rfl⟩
  have hzA : SA.size = S1.size + 1 := by rw [hSA]; rfl
  have hkA : ∀ j, j < S1.size → SA.obj j = S1.obj j := fun j hj => by rw [hSA, put_ne (by omega), put_ne (by omega), new_ne (by omega)]
  have hoA : SA.obj S1.size = some (.cells [.int .i64 (kof z), .str (nof z), .int .i64 (vof z), .nils]) := by rw [hSA, put_eq]
  have hlp : ∀ p o l y, lv = .msl p o l y → s.size + 1 < p ∧ p < S1.size := fun p o l y he => by
    have h1 := hl2 p o l y he
    refine ⟨by omega, ?_⟩
    rcases hl1 with ⟨h, -⟩ | ⟨h, -⟩ | ⟨p', h, -, h'⟩
    · rw [h] at he; cases he
    · rw [h] at he; cases he
    · rw [h] at he; cases he; exact h'
  have hmA : MSl lc 4 SA lv (L.map nfl) := by
    simp only [List.nil_append] at hl1
    exact hl1.of (fun p _ hp => hkA p hp) (by omega)
  rw [← hSA]
  refine (arg_loop hw1 (q := S1.size) (k := kof z) (v := vof z) (m := nof z) (fun a ha => ⟨val_arg (hm3 hv) ha, by have := tsz_mem ha; omega⟩) (by omega) _ s SA ?_ ?_ ?_ ?_ hoA (by omega)).mono ?_
  · simp only [go_sem, ↓reduceIte, reduceCtorEq, Nat.reduceEqDiff, Nat.reduceAdd, Nat.reduceSub, Nat.reduceMul, Nat.reduceLeDiff, Nat.reduceLT, loadA, rdCells, storeA, setAt, binA]
  · simp only [go_sem, ↓reduceIte, reduceCtorEq, Nat.reduceEqDiff, Nat.reduceAdd, Nat.reduceSub, Nat.reduceMul, Nat.reduceLeDiff, Nat.reduceLT, loadA, rdCells, storeA, setAt, binA]
  · simp only [go_sem, ↓reduceIte, reduceCtorEq, Nat.reduceEqDiff, Nat.reduceAdd, Nat.reduceSub, Nat.reduceMul, Nat.reduceLeDiff, Nat.reduceLT, loadA, rdCells, storeA, setAt, binA]
  · simp only [go_sem, ↓reduceIte, reduceCtorEq, Nat.reduceEqDiff, Nat.reduceAdd, Nat.reduceSub, Nat.reduceMul, Nat.reduceLeDiff, Nat.reduceLT, loadA, rdCells, storeA, setAt, binA]
  rintro x e' S3 ⟨rfl, f1, f2, f3, f4, ⟨ov, ho3, hm3', hf3⟩, hk3⟩
  simp only [go_sem, ↓reduceIte, reduceCtorEq, Nat.reduceEqDiff, Nat.reduceAdd, Nat.reduceSub, Nat.reduceMul, Nat.reduceLeDiff, Nat.reduceLT, loadA, rdCells, storeA, setAt, binA] at f1 f2 f3
  have hz3 := hk3.1
  have hm4 : MSl lc 4 S3 lv (L.map nfl) := hmA.of (fun p hp hp2 => hk3.2 p hp2 (by have := hlp _ _ _ _ hp; omega)) hk3.1
  simp only [f1, f2, f3, e1, e2, e3, f4, go_sem, ↓reduceIte, reduceCtorEq, Nat.reduceEqDiff, Nat.reduceAdd, Nat.reduceSub, Nat.reduceMul, Nat.reduceLeDiff, Nat.reduceLT, loadA, rdCells, storeA, setAt, binA]
  have hLl : (L.map nfl).length ≤ big := by
    rw [List.length_map]
    have : ∀ (t : Tm) (L : List Lb) (z : Tm), Spn t L z → L.length ≤ tsz t := by
      intro t L z h
      induction h with
      | nil => simp
      | cons n v a r L e h ih => rw [tsz, tszs, tszs, tszs, List.length_cons]; omega
    have := this _ _ _ hs
    omega
  refine WO_callx [lv, .func 51 []] (by simp only [f3, e3, go_sem, ↓reduceIte, reduceCtorEq, Nat.reduceEqDiff, Nat.reduceAdd, Nat.reduceSub, Nat.reduceMul, Nat.reduceLeDiff, Nat.reduceLT, loadA, rdCells, storeA, setAt, binA]) ((sort_law (fun f hf => Xn_none n f hf) hm4 hLl).mono ?_)
  rintro w4 S4 ⟨hm5, hk4⟩
  have hlo : ∀ j, (∀ p o l y, lv = .msl p o l y → p ≠ j) → notO lv j := fun j h o l y he => h j o l y he rfl
  simp only [f1, f2, f3, e1, e2, e3, f4, go_sem, ↓reduceIte, reduceCtorEq, Nat.reduceEqDiff, Nat.reduceAdd, Nat.reduceSub, Nat.reduceMul, Nat.reduceLeDiff, Nat.reduceLT, loadA, rdCells, storeA, setAt, binA]
  refine WO_callx [lv] (by simp only [f3, e3, go_sem, ↓reduceIte, reduceCtorEq, Nat.reduceEqDiff, Nat.reduceAdd, Nat.reduceSub, Nat.reduceMul, Nat.reduceLeDiff, Nat.reduceLT, loadA, rdCells, storeA, setAt, binA]) ((backw_law (fun f hf => Xn_none n f hf) lv (MSl.one' hm5) S4).mono ?_)
  rintro w5 S5 ⟨rfl, rfl⟩
  have hz4 := hk4.1
  simp only [f2, e2, f4, go_sem, ↓reduceIte, reduceCtorEq, Nat.reduceEqDiff, Nat.reduceAdd, Nat.reduceSub, Nat.reduceMul, Nat.reduceLeDiff, Nat.reduceLT, loadA, rdCells, storeA, setAt, binA]
  refine ⟨S1.size, S4.size, lv, ov, by omega, by omega, by omega, ?_, rfl, ?_, ?_, ?_, rfl, by rw [if_pos rfl], hm5.of (fun p _ hp => new_ne (by omega)) (Nat.le_succ _), hlp, by omega, fun j hj => ?_⟩
  · rw [if_neg (by omega), hk4.2 _ (by omega) (hlo _ fun p o l y he hj => by have := hlp _ _ _ _ he; omega), hk3.2 _ (by omega) (by omega), hkA _ (by omega)]
    exact ho2
  · rw [if_neg (by omega), hk4.2 _ (by omega) (hlo _ fun p o l y he hj => by have := hlp _ _ _ _ he; omega)]
    exact ho3
  · refine hm3'.of (fun p hp hp2 => ?_) (by simp only [St.new]; omega)
    have := hf3 _ _ _ _ hp
    rw [new_ne (by omega), hk4.2 _ hp2 (hlo _ fun p o l y he hj => by have := hlp _ _ _ _ he; omega)]
  · exact hf3.le (by omega)
  · rw [if_neg (by omega), hk4.2 _ (by omega) (hlo _ fun p o l y he hj => by have := hlp _ _ _ _ he; omega), hk3.2 _ (by omega) (by omega), hkA _ (by omega)]
    have := hk j (by omega) (by omega)
    rw [this, new_ne (by simp only [St.new]; omega), new_ne (by omega)]
end Go.Am.U2

/- Functions that are told by a law of their own: from what the law says of Go's run to what the abstract machine wants. Conditions: none. -/
namespace Go.Am
open Go.RowKit

variable {G : Glob} {P : Program}

end Go.Am

/- slices.Backward's iterator over an array of labels; types as they lie in memory. Conditions: none. -/
namespace Go.Am.U2
open Go.Proofs Go.RowKit Go.Shelf Go.Am.Un
attribute [local go_sem] Oper.semAt_some

/-- The numbers from the last one down. -/
def dn (N k : Nat) : List (Fin N) := (List.finRange N).reverse.take k
theorem dn_zero (N : Nat) : dn N 0 = [] := by simp [dn]
theorem dn_len {N k : Nat} (h : k ≤ N) : (dn N k).length = k := by simp [dn, h]
theorem dn_succ {N k : Nat} (h : k < N) : dn N (k + 1) = dn N k ++ [⟨N - 1 - k, by omega⟩] := by
  simp only [dn]
  rw [List.take_add_one]
  congr 1
  rw [List.getElem?_eq_getElem (by simpa using h)]
  simp

section
variable {N : Nat} (nm : Fin N → ByteArray) (sv : Fin N → Value)
abbrev enc (j : Fin N) : Array Value := #[.int .i64 (j.1 : Int), .agg #[.int .i64 0, .string (nm j), .int .i64 0, sv j]]

set_option maxRecDepth 100000 in
set_option maxHeartbeats 2000000 in
theorem bk_in (F : Fence) (n : Nat) (h7 : F.fn 73) (hro : F.round = none) (hn : 1 ≤ n) (l Bs b off cap : Nat) (hreach : N * 56 ≤ 140737488351232) (Kp : World → World → Prop)
    (hKp : ∀ {A B : World}, Kp A B → B.heap[Bs]? = A.heap[Bs]? ∧ B.heap[b]? = A.heap[b]?) (J Jx : List (Fin N) → World → Prop)
    (hY : ∀ pre x W, J pre W → pre.length < N → YieldAt F (n - 1) Tryd.prog l (enc nm sv x) W fun e W' =>
      (e = .returned (.bool true) ∧ J (pre ++ [x]) W' ∧ Kp W W') ∨ (e = .returned (.bool false) ∧ Jx (pre ++ [x]) W'))
    (W : World) (hBs : W.cell? ⟨Bs, 0, none⟩ = some (.slice (some ⟨b, off, none⟩) N cap))
    (hc0 : ∀ j : Fin N, W.cell? ⟨b, off + j.1 * 4, none⟩ = some (.int .i64 0)) (hc1 : ∀ j : Fin N, W.cell? ⟨b, off + j.1 * 4 + 1, none⟩ = some (.string (nm j)))
    (hc2 : ∀ j : Fin N, W.cell? ⟨b, off + j.1 * 4 + 2, none⟩ = some (.int .i64 0)) (hc3 : ∀ j : Fin N, W.cell? ⟨b, off + j.1 * 4 + 3, none⟩ = some (sv j)) (h0 : J [] W) :
    CallsIn F n Tryd.prog 73 #[.func (.yield l) #[] #[], .pointer (some ⟨Bs, 0, none⟩)] W fun e W' => (∃ v, e = .returned v) ∧
      ((∃ ys, ys = dn N N ∧ J ys W') ∨ (∃ pre, True ∧ Jx pre W')) := by
  refine callsIn_of_wp Tryd.func73 rfl h7 ?_ hro
  simp only [Tryd.ntmps73, List.size_toArray, List.length_cons, List.length_nil, Nat.reduceAdd, Nat.reduceSub, Array.replicate_succ, Array.replicate_zero, List.push_toArray, List.append_toArray, List.nil_append, List.cons_append]
  gi_wp2
  gi_loopw [3] (fun i wr => ∃ k : Nat, k ≤ N ∧ i = .int .i64 ((N : Int) - 1 - k) ∧ J (dn N k) wr ∧ wr.heap[Bs]? = W.heap[Bs]? ∧ wr.heap[b]? = W.heap[b]?)
    (fun i _ => (intOf i + 1).toNat)
  case atStart => exact ⟨0, Nat.zero_le _, by simp, h0, rfl, rfl⟩
  case round =>
    obtain ⟨k, hk, rfl, hJs, hk1, hk2⟩ := hrel
    have hBx : wr.cell? ⟨Bs, 0, none⟩ = some (.slice (some ⟨b, off, none⟩) N cap) := (World.cell?_of_block (w := W) hk1).trans hBs
    by_cases hlt : k < N
    · obtain ⟨fn, tmps, assign, body, hy, hR⟩ := hY _ ⟨N - 1 - k, by omega⟩ wr hJs (by rw [dn_len hk]; exact hlt)
      have e1 : ((N - 1 - k : Nat) : Int) = (N : Int) - 1 - k := by omega
      simp only [enc, e1] at hy
      have hx0 := (World.cell?_of_block (w := W) hk2).trans (hc0 ⟨N - 1 - k, by omega⟩)
      have hx1 := (World.cell?_of_block (w := W) hk2).trans (hc1 ⟨N - 1 - k, by omega⟩)
      have hx2 := (World.cell?_of_block (w := W) hk2).trans (hc2 ⟨N - 1 - k, by omega⟩)
      have hx3 := (World.cell?_of_block (w := W) hk2).trans (hc3 ⟨N - 1 - k, by omega⟩)
      simp only [] at hx0 hx1 hx2 hx3
      gi_wp2
      refine hR.mono ?_
      rintro e W3 (⟨rfl, hJ3, hk3⟩ | ⟨rfl, hJx3⟩)
      · gi_wp2
        go_roundw
        case rel => exact ⟨k + 1, by omega, by simp; omega, by rw [dn_succ hlt]; exact hJ3, (hKp hk3).1.trans hk1, (hKp hk3).2.trans hk2⟩
        case measure => simp [intOf]; omega
      · gi_wp2
        refine bodyPost_ret (results_none rfl _ _ _) rfl ?_
        exact ⟨⟨_, rfl⟩, .inr ⟨_, trivial, hJx3⟩⟩
    · obtain rfl : k = N := by omega
      gi_wp2
      go_end0
      exact ⟨⟨_, rfl⟩, .inl ⟨_, rfl, hJs⟩⟩
end

set_option maxRecDepth 100000 in
set_option maxHeartbeats 1000000 in
theorem bk_nil (F : Fence) (n : Nat) (h7 : F.fn 73) (hro : F.round = none) {α : Type} (l Bs : Nat) (J : List α → World → Prop) (W : World) (a : Option Addr) (c : Nat) (hBs : W.cell? ⟨Bs, 0, none⟩ = some (.slice a 0 c)) (h0 : J [] W) :
    CallsIn F n Tryd.prog 73 #[.func (.yield l) #[] #[], .pointer (some ⟨Bs, 0, none⟩)] W fun e W' => (∃ v, e = .returned v) ∧ J [] W' := by
  refine callsIn_of_wp Tryd.func73 rfl h7 ?_ hro
  simp only [Tryd.ntmps73, List.size_toArray, List.length_cons, List.length_nil, Nat.reduceAdd, Nat.reduceSub, Array.replicate_succ, Array.replicate_zero, List.push_toArray, List.append_toArray, List.nil_append, List.cons_append]
  gi_wp2
  gi_loopw [3] (fun i wr => i = .int .i64 (-1) ∧ J [] wr) (fun _ _ => 0)
  case atStart => exact ⟨rfl, h0⟩
  case round =>
    obtain ⟨rfl, hJs⟩ := hrel
    gi_wp2
    go_end0
    exact ⟨⟨_, rfl⟩, hJs⟩
end Go.Am.U2

/- The library's sort and compact of strings, as the abstract machine has them. Conditions: none. -/
namespace Go.Am
open Go.RowKit Go.Proofs
open Go.Sort (putRow mapBlock putCells onCells Holds grow grow_empty)

section
variable {ρ : Rho} {s : St} {w : World}

end

section
variable {G : Glob} {P : Program} {f : Nat}

end
end Go.Am
