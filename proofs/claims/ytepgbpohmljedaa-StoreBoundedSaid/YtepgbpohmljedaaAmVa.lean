/- Items of a ring in the abstract machine's store. Conditions: none. -/
import Derived.Test.YtepgbpohmljedaaAmTv
import Derived.Test.YtepgbpohmljedaaStA
import Derived.Test.YtepgbpohmljedaaAmY4
import Derived.Test.YtepgbpohmljedaaAmY8
set_option linter.unusedSimpArgs false
set_option linter.unusedVariables false
namespace Go.Am.V1
open Go.St (up up_same up_ne Ring)
set_option maxRecDepth 100000
set_option linter.unusedSimpArgs false
attribute [local go_sem] wseq wreg wdreg wret wskip wexit wblock wcnd cnd_t cnd_f then_n then_x then_r catch_n rnd_n rnd_x rnd_r catch_x catch_r wo_nil wo_grd grdO_t grdO_f wo_ops stpO wr_nil wr_alloc wr_guards grdR_t grdR_f wr_ops stpR evAllocs evOp env0_app eput_some eput_none eset_app Opd.ev wantedA faddrA snew_obj snew_size sput_obj sput_size av_cells av_one av_strip av_still unA eqbA fillA fldA lensA mmA mm2 mmFold List.getD_cons_zero List.getD_cons_succ List.getD_nil List.length_cons List.length_nil List.drop_zero List.drop_succ_cons List.take_succ_cons List.take_zero List.map_cons List.map_nil List.set_cons_zero List.set_cons_succ List.all_cons List.all_nil List.getElem?_cons_zero List.getElem?_cons_succ List.nil_append List.cons_append Nat.zero_add Nat.add_zero beq_self_eq_true bt bf Bool.not_true Bool.not_false Bool.and_true Bool.true_and Bool.and_false Bool.false_and and_self and_true true_and n0 n1 n2 n3 n4 m0 m1 m2 m3 c1 retA resAs resA undefA Option.map_some Option.map_none

theorem wo_mmk {T : Nat → Option CF} {X : Ext} {d : Option Nat} {r : List CO} {e : Env} {s : St} {R : Env → St → Prop} : WO T X (⟨d, none, .mmk⟩ :: r) e s R ↔ StpO T X (some (.mapv s.size, s.new (.map []))) d r e R := wo_op (by simp only [opk]; omega)
theorem wo_mlk {T : Nat → Option CF} {X : Ext} {d : Option Nat} {r : List CO} {e : Env} {s : St} {R : Env → St → Prop} {z : AV} {m k : Opd} : WO T X (⟨d, none, .mlk z m k⟩ :: r) e s R ↔ StpO T X (evOp noCall (.mlk z m k) e s) d r e R := wo_op (by simp only [opk]; omega)
theorem wr_mup {T : Nat → Option CF} {X : Ext} {d : Option Nat} {r : List CO} {e : Env} {s : St} {R : Env → St → Prop} {m k x : Opd} : WR T X (⟨d, none, .mup m k x⟩ :: r) e s R ↔ StpR T X (evOp noCall (.mup m k x) e s) d r e R := wr_op rfl
theorem wr_mdl {T : Nat → Option CF} {X : Ext} {d : Option Nat} {r : List CO} {e : Env} {s : St} {R : Env → St → Prop} {m k : Opd} : WR T X (⟨d, none, .mdl m k⟩ :: r) e s R ↔ StpR T X (evOp noCall (.mdl m k) e s) d r e R := wr_op rfl
theorem wo_eqp {T : Nat → Option CF} {X : Ext} {d : Option Nat} {r : List CO} {e : Env} {s : St} {R : Env → St → Prop} {n : Bool} {x y : Opd} : WO T X (⟨d, none, .eqp n x y⟩ :: r) e s R ↔ StpO T X (evOp noCall (.eqp n x y) e s) d r e R := wo_op (by simp only [opk]; omega)
theorem mapv_cells (i : Nat) : AV.cells (.mapv i) = [.mapv i] := rfl
theorem mapv_one (i : Nat) : AV.one (.mapv i) = true := rfl
theorem mapv_strip (i : Nat) : AV.strip (.mapv i) = .mapv i := rfl
theorem mapv_still (i : Nat) : AV.still (.mapv i) = true := rfl

def xv : Ext := fun f => if f = 29 then some cloneX else none

def nd (k v : ByteArray) (la ol : Nat) : List AV := [.str k, .str v, .ptr la 0, .ptr ol 0]
/-- These items. -/
def Nds (S : St) (c : List Nat) (ky vl : Nat → ByteArray) (la ol : Nat → Nat) : Prop := ∀ b, b ∈ c → S.obj b = some (.cells (nd (ky b) (vl b) (la b) (ol b))) ∧ b < S.size
theorem Nds.lds {S : St} {c : List Nat} {ky vl : Nat → ByteArray} {la ol : Nat → Nat} (h : Nds S c ky vl la ol) {b : Nat} (hb : b ∈ c) :
    loadA S false 1 (.ptr b 0) = some (.str (ky b)) ∧ loadA S false 1 (.ptr b 1) = some (.str (vl b)) ∧ loadA S false 1 (.ptr b 2) = some (.ptr (la b) 0) ∧ loadA S false 1 (.ptr b 3) = some (.ptr (ol b) 0) := by
  simp [loadA, rdCells, (h b hb).1, nd, AV.strip]
theorem Nds.setL {S : St} {c : List Nat} {ky vl : Nat → ByteArray} {la ol : Nat → Nat} (h : Nds S c ky vl la ol) {x : Nat} (hx : x ∈ c) (y : Nat) :
    storeA S 1 (.ptr x 2) (.ptr y 0) = some (S.put x (some (.cells (nd (ky x) (vl x) y (ol x))))) ∧ Nds (S.put x (some (.cells (nd (ky x) (vl x) y (ol x))))) c ky vl (up la x y) ol := by
  refine ⟨by simp [storeA, (h x hx).1, setAt, nd, AV.cells, AV.one], fun b hb => ⟨?_, (h b hb).2⟩⟩
  by_cases he : b = x
  · subst he; rw [up_same]; exact put_eq
  · rw [up_ne he, put_ne he]; exact (h b hb).1
theorem Nds.setO {S : St} {c : List Nat} {ky vl : Nat → ByteArray} {la ol : Nat → Nat} (h : Nds S c ky vl la ol) {x : Nat} (hx : x ∈ c) (y : Nat) :
    storeA S 1 (.ptr x 3) (.ptr y 0) = some (S.put x (some (.cells (nd (ky x) (vl x) (la x) y)))) ∧ Nds (S.put x (some (.cells (nd (ky x) (vl x) (la x) y)))) c ky vl la (up ol x y) := by
  refine ⟨by simp [storeA, (h x hx).1, setAt, nd, AV.cells, AV.one], fun b hb => ⟨?_, (h b hb).2⟩⟩
  by_cases he : b = x
  · subst he; rw [up_same]; exact put_eq
  · rw [up_ne he, put_ne he]; exact (h b hb).1
theorem Nds.of {S S' : St} {c : List Nat} {ky vl : Nat → ByteArray} {la ol : Nat → Nat} (h : Nds S c ky vl la ol) (hs : S.size ≤ S'.size) (ho : ∀ b, b ∈ c → S'.obj b = S.obj b) : Nds S' c ky vl la ol :=
  fun b hb => ⟨(ho b hb).trans (h b hb).1, Nat.lt_of_lt_of_le (h b hb).2 hs⟩
theorem Nds.less {S : St} {c c' : List Nat} {ky vl : Nat → ByteArray} {la ol : Nat → Nat} (h : Nds S c ky vl la ol) (hs : ∀ b, b ∈ c' → b ∈ c) : Nds S c' ky vl la ol := fun b hb => h b (hs b hb)

/-- All stays but these. -/
def KeepC (c : List Nat) (S S' : St) : Prop := S'.size = S.size ∧ ∀ j, j ∉ c → S'.obj j = S.obj j
theorem KeepC.refl (c : List Nat) (S : St) : KeepC c S S := ⟨rfl, fun _ _ => rfl⟩
theorem KeepC.put {c : List Nat} {S S' : St} (h : KeepC c S S') {x : Nat} (hx : x ∈ c) (o : Option AO) : KeepC c S (S'.put x o) :=
  ⟨h.1, fun j hj => by rw [put_ne (by rintro rfl; exact hj hx)]; exact h.2 j hj⟩

theorem out_law {S : St} {c : List Nat} {ky vl : Nat → ByteArray} {la ol : Nat → Nat} (h : Nds S c ky vl la ol) {x : Nat} (hx : x ∈ c) (hl : la x ∈ c) (ho : ol x ∈ c) :
    WC T xv 18 [.ptr x 0] S (fun _ S' => Nds S' c ky vl (up la (ol x) (la x)) (up ol (la x) (ol x)) ∧ KeepC c S S') := by
  refine WC_fn cf18 rfl T18 (by simp [cf18]) ?_
  obtain ⟨-, -, l2, l3⟩ := h.lds hx
  obtain ⟨s1, h1⟩ := h.setO hl (ol x)
  obtain ⟨s2, h2⟩ := h1.setL ho (la x)
  simp only [cf18, go_sem, ↓reduceIte, reduceCtorEq, Nat.reduceEqDiff, Nat.reduceAdd, Nat.reduceSub, Nat.reduceMul, Nat.reduceLeDiff, Nat.reduceLT, binA, l2, l3, s1, s2]
  refine ⟨by simp, _, rfl, ?_⟩
  exact ⟨h2, ((KeepC.refl c S).put hl _).put ho _⟩

/-- The store's own cells. -/
def stc (room used : Int) (r m : Nat) : List AV := [.int .i64 room, .int .i64 used, .ptr r 0, .mapv m]
theorem stc_lds {S : St} {q : Nat} {room used : Int} {r m : Nat} (h : S.obj q = some (.cells (stc room used r m))) :
    loadA S false 1 (.ptr q 0) = some (.int .i64 room) ∧ loadA S false 1 (.ptr q 1) = some (.int .i64 used) ∧ loadA S false 1 (.ptr q 2) = some (.ptr r 0) ∧ loadA S false 1 (.ptr q 3) = some (.mapv m) := by
  simp [loadA, rdCells, h, stc, AV.strip]

theorem front_law {S : St} {c : List Nat} {ky vl : Nat → ByteArray} {la ol : Nat → Nat} {q r m x : Nat} {room used : Int} {a b : AV} (hq : S.obj q = some (.cells (stc room used r m))) (hqc : q ∉ c) (h : Nds S c ky vl la ol)
    (hxc : x ∉ c) (hx : S.obj x = some (.cells [.str (ky x), .str (vl x), a, b])) (hxs : x < S.size) (hr : r ∈ c) (ho : ol r ∈ c) :
    WC T xv 17 [.ptr q 0, .ptr x 0] S (fun _ S' => Nds S' (x :: c) ky vl (up (up la x r) (ol r) x) (up (up ol x (ol r)) r x) ∧ KeepC (x :: c) S S') := by
  refine WC_fn cf17 rfl T17 (by simp [cf17]) ?_
  obtain ⟨-, -, lq, -⟩ := stc_lds hq
  obtain ⟨-, -, -, l3⟩ := h.lds hr
  have hqx : q ≠ x := by rintro rfl; rw [hq] at hx; simp [stc] at hx
  have s1 : storeA S 1 (.ptr x 2) (.ptr r 0) = some (S.put x (some (.cells [.str (ky x), .str (vl x), .ptr r 0, b]))) := by simp [storeA, hx, setAt, AV.cells, AV.one]
  have s2 : storeA (S.put x (some (.cells [.str (ky x), .str (vl x), .ptr r 0, b]))) 1 (.ptr x 3) (.ptr (ol r) 0) = some ((S.put x (some (.cells [.str (ky x), .str (vl x), .ptr r 0, b]))).put x (some (.cells (nd (ky x) (vl x) r (ol r))))) := by
    simp [storeA, put_eq, setAt, AV.cells, AV.one, nd]
  have h2 : Nds ((S.put x (some (.cells [.str (ky x), .str (vl x), .ptr r 0, b]))).put x (some (.cells (nd (ky x) (vl x) r (ol r))))) (x :: c) ky vl (up la x r) (up ol x (ol r)) := by
    intro y hy
    by_cases he : y = x
    · subst he; rw [up_same, up_same]; exact ⟨put_eq, hxs⟩
    · have hyc : y ∈ c := by
        rcases List.mem_cons.1 hy with h | h
        · exact absurd h he
        · exact h
      rw [up_ne he, up_ne he, put_ne he, put_ne he]; exact h y hyc
  have mx : x ∈ x :: c := by simp
  obtain ⟨s3, h3⟩ := h2.setL (List.mem_cons_of_mem x ho) x
  have k3 := ((((KeepC.refl (x :: c) S).put mx (some (.cells [.str (ky x), .str (vl x), .ptr r 0, b]))).put mx (some (.cells (nd (ky x) (vl x) r (ol r))))).put (List.mem_cons_of_mem x ho) (some (.cells (nd (ky (ol r)) (vl (ol r)) x (up ol x (ol r) (ol r))))))
  obtain ⟨-, -, lq3, -⟩ := stc_lds ((k3.2 q (by simp only [List.mem_cons, not_or]; exact ⟨hqx, hqc⟩)).trans hq)
  obtain ⟨s4, h4⟩ := h3.setO (List.mem_cons_of_mem x hr) x
  simp only [cf17, go_sem, ↓reduceIte, reduceCtorEq, Nat.reduceEqDiff, Nat.reduceAdd, Nat.reduceSub, Nat.reduceMul, Nat.reduceLeDiff, Nat.reduceLT, binA, lq, l3, s1, s2, s3, lq3, s4]
  refine ⟨by simp, _, rfl, ?_⟩
  exact ⟨h4, k3.put (List.mem_cons_of_mem x hr) _⟩
end Go.Am.V1
