/- Scan and EqualFunc as contracts of their own, said of a world's cells. Conditions: none. -/
import Derived.Test.YtjhbakfgoaeeoaaDoorAmSa
import Derived.Test.YtjhbakfgoaeeoaaDoorAmTq
import Derived.Test.YtjhbakfgoaeeoaaDoorAmLi
import Derived.Test.YtjhbakfgoaeeoaaDoorAmRb
set_option linter.unusedSimpArgs false
set_option linter.unusedVariables false
namespace Go.Am.Y3
open Go.Am.L1 (bts_len Tk tkc tkP scanT scanW OkS big key)
open Go.Proofs Go.RowKit
set_option maxRecDepth 100000
set_option linter.unusedSimpArgs false
attribute [local go_sem] wseq wreg wdreg wret wskip wexit wblock wcnd cnd_t cnd_f then_n then_x then_r catch_n rnd_n rnd_x rnd_r catch_x catch_r wo_nil wo_grd grdO_t grdO_f wo_ops stpO wr_nil wr_alloc wr_guards grdR_t grdR_f wr_ops stpR evAllocs evOp env0_app eput_some eput_none eset_app Opd.ev wantedA faddrA storeA setAt snew_obj snew_size sput_obj sput_size av_cells av_one av_strip av_still unA eqbA fillA fldA lensA mmA mm2 mmFold List.getD_cons_zero List.getD_cons_succ List.getD_nil List.length_cons List.length_nil List.drop_zero List.drop_succ_cons List.take_succ_cons List.take_zero List.map_cons List.map_nil List.set_cons_zero List.set_cons_succ List.all_cons List.all_nil List.getElem?_cons_zero List.getElem?_cons_succ List.nil_append List.cons_append Nat.zero_add Nat.add_zero beq_self_eq_true bt bf Bool.not_true Bool.not_false Bool.and_true Bool.true_and Bool.and_false Bool.false_and and_self and_true true_and n0 n1 n2 n3 n4 m0 m1 m2 m3 c1 retA resAs resA undefA Option.map_some Option.map_none

/-- The cells of a token. -/
def tkv (t : Tk) : List Value := [.int .i64 t.kind, .string t.text, .int .i64 t.n, .int .i64 t.line, .int .i64 t.col]
theorem vs_tks {ρ : Rho} {w : World} {n : Nat} : ∀ {l : List Tk} {vs : List Value}, Vs ρ w n (l.flatMap tkc) vs → vs = l.flatMap tkv
  | [], vs, h => by cases h; rfl
  | t :: l, vs, h => by
    simp only [List.flatMap_cons, tkc, List.cons_append, List.nil_append] at h
    cases h with
    | cons _ v0 _ vs h0 h => cases h with
      | cons _ v1 _ vs h1 h => cases h with
        | cons _ v2 _ vs h2 h => cases h with
          | cons _ v3 _ vs h3 h => cases h with
            | cons _ v4 _ vs h4 h =>
              cases h0; cases h1; cases h2; cases h3; cases h4
              rw [vs_tks h]
              rfl
theorem tks_vs {ρ : Rho} {w : World} {n : Nat} : ∀ l : List Tk, Vs ρ w n (l.flatMap tkc) (l.flatMap tkv)
  | [] => .nil
  | t :: l => .cons _ _ _ _ (.int _ _) (.cons _ _ _ _ (.str _) (.cons _ _ _ _ (.int _ _) (.cons _ _ _ _ (.int _ _) (.cons _ _ _ _ (.int _ _) (tks_vs l)))))

/-- These tokens lie there. -/
structure TksAt (W : World) (q : Nat) (L : List Tk) : Prop where
  lt : q < W.heap.size
  at' : ∀ j v, (L.flatMap tkv)[j]? = some v → W.cell? ⟨q, j, none⟩ = some v
theorem TksAt.below {W W' : World} {q : Nat} {L : List Tk} {B : Nat} (h : TksAt W q L) (hb : Below B W W') (hq : q < B) : TksAt W' q L :=
  ⟨Nat.lt_of_lt_of_le h.lt hb.size, fun j v hj => (hb.cell (p := ⟨q, j, none⟩) hq).trans (h.at' j v hj)⟩

theorem scan_calls (m : Int) (s : ByteArray) (hs : s.size ≤ big) (W : World) (hm : W.cell? ⟨1, 0, none⟩ = some (.int .i64 m)) :
    Calls Tryd.prog 26 #[.string s] W fun e W' => Below W.heap.size W W' ∧
      ((∃ a b c, e = .returned (.tuple #[a, b, .int .i64 c]) ∧ c ≠ 0 ∧ ¬ (OkS s ∧ (scanW s).2.1 = [])) ∨
       (OkS s ∧ (scanW s).2.1 = [] ∧ ∃ q cap, e = .returned (.tuple #[.slice (some ⟨q, 0, none⟩) (scanT s).length cap, .slice none 0 0, .int .i64 0]) ∧ (scanT s).length ≤ cap ∧ TksAt W' q (scanT s))) := by
  obtain ⟨n, v, s', h1, hq⟩ := L1.scan_law s hs st0
  obtain ⟨_, h2⟩ := (sound (L1.good m (L1.hX m)) n).2.2 26 [.str s] st0 v s' h1 (rho0 W) W [.string s] (sim0 W) (L1.glob m hm) (.cons _ _ _ _ (.str _) .nil)
  refine h2.mono ?_
  rintro e W' ⟨ρ', v', rfl, hF, hS, hV⟩
  refine ⟨below_of hF, ?_⟩
  obtain ⟨-, ⟨q, c, rfl, hc, hno⟩ | ⟨p, rfl, ho, -, hp, hok, hbd⟩⟩ := hq
  · cases hV with
    | tup _ vs h =>
      cases h with
      | cons _ v0 _ vs h0 h => cases h with
        | cons _ v1 _ vs h1 h => cases h with
          | cons _ v2 _ vs h2 h =>
            cases h; cases h2
            exact Or.inl ⟨_, _, _, rfl, hc, hno⟩
  · refine Or.inr ⟨hok, hbd, ?_⟩
    cases hV with
    | tup _ vs h =>
      cases h with
      | cons _ v0 _ vs h0 h => cases h with
        | cons _ v1 _ vs h1 h => cases h with
          | cons _ v2 _ vs h2 h =>
            cases h; cases h2; cases h1
            cases h0 with
            | msl _ _ _ cap _ hi hpd hl ht =>
              obtain ⟨-, -, vs, rest, ty, hh, hvs, -⟩ := hS.cells p _ ho hpd
              obtain rfl := vs_tks hvs
              refine ⟨_, cap, rfl, hl, (Array.getElem?_eq_some_iff.1 hh).1, fun j v hj => ?_⟩
              have hlt := (List.getElem?_eq_some_iff.1 hj).1
              simp [World.cell?, hh, List.getElem?_append_left hlt, hj]

/-! ### EqualFunc -/
theorem new_put (S : St) (o o' : AO) : (S.new o).put S.size (some o') = S.new o' := by
  simp only [St.new, St.put]
  congr 1
  funext j
  split <;> rfl
def noX : Ext := fun _ => none
theorem same_law (x y : Tk) (h : key x = key y) (S : St) : WC T noX 31 [.agg (tkc x), .agg (tkc y)] S (fun v S' => v = .bool true ∧ Keep S S') := by
  refine WC_fn cf31 rfl T31 (by simp [cf31]) ?_
  simp only [key, Prod.mk.injEq] at h
  obtain ⟨h1, h2, h3⟩ := h
  obtain ⟨S2, hS2⟩ : ∃ S2, S2 = (S.new (.cells (tkc x))).new (.cells (tkc y)) := ⟨_, rfl⟩
  have hk : Keep S S2 := by rw [hS2]; exact (Keep.new _ _).trans (Keep.new _ _)
  have hx : S2.obj S.size = some (.cells (tkc x)) := by rw [hS2, new_ne (by simp [St.new])]; exact new_eq rfl
  have hy : S2.obj (S.size + 1) = some (.cells (tkc y)) := by rw [hS2]; exact new_eq rfl
  have x0 : loadA S2 false 1 (.ptr S.size 0) = some (.int .i64 x.kind) := by simp [loadA, rdCells, hx, tkc]
  have x1 : loadA S2 false 1 (.ptr S.size 1) = some (.str x.text) := by simp [loadA, rdCells, hx, tkc]
  have x2 : loadA S2 false 1 (.ptr S.size 2) = some (.int .i64 x.n) := by simp [loadA, rdCells, hx, tkc]
  have y0 : loadA S2 false 1 (.ptr (S.size + 1) 0) = some (.int .i64 y.kind) := by simp [loadA, rdCells, hy, tkc]
  have y1 : loadA S2 false 1 (.ptr (S.size + 1) 1) = some (.str y.text) := by simp [loadA, rdCells, hy, tkc]
  have y2 : loadA S2 false 1 (.ptr (S.size + 1) 2) = some (.int .i64 y.n) := by simp [loadA, rdCells, hy, tkc]
  have e0 : (x.kind == y.kind) = true := by rw [h1]; simp
  have e1 : (x.text.toList == y.text.toList) = true := by rw [h2]; simp
  have e2 : (x.n == y.n) = true := by rw [h3]; simp
  simp only [cf31, go_sem, ↓reduceIte, reduceCtorEq, Nat.reduceEqDiff, Nat.reduceAdd, Nat.reduceSub, Nat.reduceMul, Nat.reduceLeDiff, Nat.reduceLT, binA]
  rw [← hS2]
  simp only [x0, x1, x2, y0, y1, y2, e0, e1, e2, go_sem, ↓reduceIte, reduceCtorEq, Nat.reduceEqDiff, Nat.reduceAdd, Nat.reduceSub, Nat.reduceMul, Nat.reduceLeDiff, Nat.reduceLT, binA]
  exact ⟨by simp, _, rfl, rfl, hk⟩

theorem eqf_law (L M : List Tk) (h : L.map key = M.map key) (hl : L.length ≤ 1000000) : WC T noX 30 [.sl (L.flatMap tkc) L.length false none, .sl (M.flatMap tkc) M.length false none, .func 31 []] st0 (fun v _ => v = .bool true) := by
  refine WC_fn cf30 rfl T30 (by simp [cf30]) ?_
  have hlen : L.length = M.length := by have := congrArg List.length h; simpa using this
  have iL : ISl tkc (.sl (L.flatMap tkc) L.length false none) L := Or.inr ⟨_, _, rfl⟩
  have iM : ISl tkc (.sl (M.flatMap tkc) M.length false none) M := Or.inr ⟨_, _, rfl⟩
  have lL := iL.len
  have lM := iM.len
  have hne : ((L.length : Int) != (M.length : Int)) = false := by simp [hlen]
  generalize hvL : AV.sl (L.flatMap tkc) L.length false none = vL at *
  generalize hvM : AV.sl (M.flatMap tkc) M.length false none = vM at *
  simp only [cf30, lL, lM, hne, go_sem, ↓reduceIte, reduceCtorEq, Nat.reduceEqDiff, Nat.reduceAdd, Nat.reduceSub, Nat.reduceMul, Nat.reduceLeDiff, Nat.reduceLT, loadA, rdCells, binA]
  refine W_loop_nat (fun k e S => ∃ i, i + k = L.length ∧ e 1 = vM ∧ e 2 = .func 31 [] ∧ e 15 = vL ∧ e 16 = .int .i64 L.length ∧ e 17 = .int .i64 i) ?_ L.length _ _ ⟨0, by omega, by simp only [go_sem, ↓reduceIte, reduceCtorEq, Nat.reduceEqDiff, Nat.reduceAdd, Nat.reduceSub, Nat.reduceMul, Nat.reduceLeDiff, Nat.reduceLT, loadA, rdCells, binA], by simp only [go_sem, ↓reduceIte, reduceCtorEq, Nat.reduceEqDiff, Nat.reduceAdd, Nat.reduceSub, Nat.reduceMul, Nat.reduceLeDiff, Nat.reduceLT, loadA, rdCells, binA], by simp only [go_sem, ↓reduceIte, reduceCtorEq, Nat.reduceEqDiff, Nat.reduceAdd, Nat.reduceSub, Nat.reduceMul, Nat.reduceLeDiff, Nat.reduceLT, loadA, rdCells, binA], by simp only [go_sem, ↓reduceIte, reduceCtorEq, Nat.reduceEqDiff, Nat.reduceAdd, Nat.reduceSub, Nat.reduceMul, Nat.reduceLeDiff, Nat.reduceLT, loadA, rdCells, binA], by simp only [go_sem, ↓reduceIte, reduceCtorEq, Nat.reduceEqDiff, Nat.reduceAdd, Nat.reduceSub, Nat.reduceMul, Nat.reduceLeDiff, Nat.reduceLT, loadA, rdCells, binA]; rfl⟩
  rintro k e S ⟨i, hik, e1, e2, e15, e16, e17⟩
  by_cases hi : i < L.length
  · have hd : decide ((i : Int) < (L.length : Int)) = true := by simp; omega
    obtain ⟨x, hx⟩ : ∃ x, L[i]? = some x := ⟨_, List.getElem?_eq_getElem hi⟩
    obtain ⟨y, hy⟩ : ∃ y, M[i]? = some y := ⟨_, List.getElem?_eq_getElem (by omega)⟩
    have hkey : key x = key y := by
      have := congrArg (·[i]?) h
      simpa [List.getElem?_map, hx, hy] using this
    have hw : IntKind.i64.wrap ((i : Int) + 1) = ((i + 1 : Nat) : Int) := by rw [IntKind.wrap_i64]; omega
    have rd : ∀ (S : St) (t : Tk) (R : List AV), loadA S true 5 (.eptr (tkc t ++ R)) = some (.agg (tkc t)) := fun S t R => by
      have hl : (tkc t).length = 5 := rfl
      simp only [loadA, rdCells]
      rw [if_pos (by simp [hl]), List.take_left' hl]
      simp [tkc, AV.strip]
    have c5 : ∀ t : Tk, ((tkc t).length = 5 ∧ (tkc t).all AV.one = true) = True := fun t => by simp [tkc, AV.one]
    have hset : ∀ t : Tk, setAt [AV.int IntKind.i64 0, AV.str ⟨#[]⟩, AV.int IntKind.i64 0, AV.int IntKind.i64 0, AV.int IntKind.i64 0] 0 (tkc t) = tkc t := fun _ => rfl
    have aL := iL.at tkP.len hx
    have aM := iM.at tkP.len hy
    simp only [cf30_l0, e1, e2, e15, e16, e17, hd, aL, aM, rd, c5, hset, go_sem, ↓reduceIte, reduceCtorEq, Nat.reduceEqDiff, Nat.reduceAdd, Nat.reduceSub, Nat.reduceMul, Nat.reduceLeDiff, Nat.reduceLT, binA]
    rw [new_put]
    have hq : ∀ zc : AO, ((S.new (.cells (tkc x))).new zc).put (S.size + 1) (some (.cells (tkc y))) = (S.new (.cells (tkc x))).new (.cells (tkc y)) := fun zc => new_put (S := S.new (.cells (tkc x))) zc _
    rw [hq]
    obtain ⟨S2, hS2⟩ : ∃ S2, S2 = (S.new (.cells (tkc x))).new (.cells (tkc y)) := ⟨_, rfl⟩
    rw [← hS2]
    have ox : S2.obj S.size = some (.cells (tkc x)) := by rw [hS2, new_ne (by simp [St.new])]; exact new_eq rfl
    have oy : S2.obj (S.size + 1) = some (.cells (tkc y)) := by rw [hS2]; exact new_eq rfl
    have lx : loadA S2 true 5 (.ptr S.size 0) = some (.agg (tkc x)) := by simp [loadA, rdCells, ox, tkc, AV.strip]
    have ly : loadA S2 true 5 (.ptr (S.size + 1) 0) = some (.agg (tkc y)) := by simp [loadA, rdCells, oy, tkc, AV.strip]
    simp only [lx, ly, go_sem, ↓reduceIte, reduceCtorEq, Nat.reduceEqDiff, Nat.reduceAdd, Nat.reduceSub, Nat.reduceMul, Nat.reduceLeDiff, Nat.reduceLT, binA]
    refine WO_callvx 31 [] [.agg (tkc x), .agg (tkc y)] (by simp only [go_sem, ↓reduceIte, reduceCtorEq, Nat.reduceEqDiff, Nat.reduceAdd, Nat.reduceSub, Nat.reduceMul, Nat.reduceLeDiff, Nat.reduceLT, loadA, rdCells, binA]) (by simp only [go_sem, ↓reduceIte, reduceCtorEq, Nat.reduceEqDiff, Nat.reduceAdd, Nat.reduceSub, Nat.reduceMul, Nat.reduceLeDiff, Nat.reduceLT, loadA, rdCells, binA]) ((same_law x y hkey S2).mono ?_)
    rintro v S3 ⟨rfl, hk3⟩
    simp only [e17, hw, go_sem, ↓reduceIte, reduceCtorEq, Nat.reduceEqDiff, Nat.reduceAdd, Nat.reduceSub, Nat.reduceMul, Nat.reduceLeDiff, Nat.reduceLT, binA]
    exact ⟨k - 1, by omega, i + 1, by omega, e1, e2, e15, e16, rfl⟩
  · have hd : decide ((i : Int) < (L.length : Int)) = false := by simp; omega
    simp only [cf30_l0, e16, e17, hd, go_sem, ↓reduceIte, reduceCtorEq, Nat.reduceEqDiff, Nat.reduceAdd, Nat.reduceSub, Nat.reduceMul, Nat.reduceLeDiff, Nat.reduceLT, binA]
    exact ⟨by simp, _, rfl, rfl⟩
end Go.Am.Y3
