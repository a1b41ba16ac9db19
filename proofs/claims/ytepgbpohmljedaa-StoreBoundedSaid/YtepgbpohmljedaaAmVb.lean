/- The store: what it is, items dropped. Conditions: none. -/
import Derived.Test.YtepgbpohmljedaaAmVa
import Derived.Test.YtepgbpohmljedaaAmYg
set_option linter.unusedSimpArgs false
set_option linter.unusedVariables false
namespace Go.Am.V1
open Go.St (up up_same up_ne Ring)
set_option maxRecDepth 100000
set_option linter.unusedSimpArgs false
attribute [local go_sem] wseq wreg wdreg wret wskip wexit wblock wcnd cnd_t cnd_f then_n then_x then_r catch_n rnd_n rnd_x rnd_r catch_x catch_r wo_nil wo_grd grdO_t grdO_f wo_ops stpO wr_nil wr_alloc wr_guards grdR_t grdR_f wr_ops stpR evAllocs evOp env0_app eput_some eput_none eset_app Opd.ev wantedA faddrA snew_obj snew_size sput_obj sput_size av_cells av_one av_strip av_still unA eqbA fillA fldA lensA mmA mm2 mmFold List.getD_cons_zero List.getD_cons_succ List.getD_nil List.length_cons List.length_nil List.drop_zero List.drop_succ_cons List.take_succ_cons List.take_zero List.map_cons List.map_nil List.set_cons_zero List.set_cons_succ List.all_cons List.all_nil List.getElem?_cons_zero List.getElem?_cons_succ List.nil_append List.cons_append Nat.zero_add Nat.add_zero beq_self_eq_true bt bf Bool.not_true Bool.not_false Bool.and_true Bool.true_and Bool.and_false Bool.false_and and_self and_true true_and n0 n1 n2 n3 n4 m0 m1 m2 m3 c1 retA resAs resA undefA Option.map_some Option.map_none

theorem mget_mput : ∀ (es : List (ByteArray × AV)) (k : ByteArray) (a : AV) (x : ByteArray), mget (mput es k a) x = if k = x then some a else mget es x
  | [], k, a, x => by
    by_cases h : k = x <;> simp [mput, mget, h]
  | e :: r, k, a, x => by
    have ih := mget_mput r k a x
    by_cases h : e.1 = k
    · simp only [mput, h, if_true, mget]
      by_cases h2 : k = x <;> simp [h2]
    · simp only [mput, h, if_false, mget]
      by_cases h2 : e.1 = x
      · rw [if_pos h2, if_pos h2, if_neg (by rintro rfl; exact h h2)]
      · rw [if_neg h2, if_neg h2, ih]
theorem mput_keys : ∀ (es : List (ByteArray × AV)) (k : ByteArray) (a : AV) (x : ByteArray), x ∈ (mput es k a).map (·.1) ↔ x = k ∨ x ∈ es.map (·.1)
  | [], k, a, x => by simp [mput]
  | e :: r, k, a, x => by
    have ih := mput_keys r k a x
    by_cases h : e.1 = k
    · simp only [mput, h, if_true, List.map_cons, List.mem_cons]
      exact ⟨fun h => h.elim Or.inl fun h => Or.inr (Or.inr h), fun h => h.elim Or.inl fun h => h⟩
    · simp only [mput, h, if_false, List.map_cons, List.mem_cons, ih]
      exact ⟨fun h => h.elim (fun h => Or.inr (Or.inl h)) fun h => h.elim Or.inl fun h => Or.inr (Or.inr h), fun h => h.elim (fun h => Or.inr (Or.inl h)) fun h => h.elim Or.inl fun h => Or.inr (Or.inr h)⟩
theorem mput_nd : ∀ (es : List (ByteArray × AV)) (k : ByteArray) (a : AV), (es.map (·.1)).Nodup → ((mput es k a).map (·.1)).Nodup
  | [], k, a, _ => by simp [mput]
  | e :: r, k, a, h => by
    simp only [List.map_cons, List.nodup_cons] at h
    by_cases hk : e.1 = k
    · simp only [mput, hk, if_true, List.map_cons, List.nodup_cons]
      rw [← hk]; exact h
    · simp only [mput, hk, if_false, List.map_cons, List.nodup_cons, mput_keys, not_or]
      exact ⟨⟨fun h => h.elim, h.1⟩, mput_nd r k a h.2⟩
theorem mget_notin : ∀ {es : List (ByteArray × AV)} {x : ByteArray}, x ∉ es.map (·.1) → mget es x = none
  | [], _, _ => rfl
  | e :: r, x, h => by
    simp only [List.map_cons, List.mem_cons, not_or] at h
    rw [mget, if_neg (fun he => h.1 he.symm)]; exact mget_notin h.2
theorem mget_mdel : ∀ (es : List (ByteArray × AV)) (k x : ByteArray), (es.map (·.1)).Nodup → mget (mdel es k) x = if k = x then none else mget es x
  | [], k, x, _ => by simp [mdel, mget]
  | e :: r, k, x, h => by
    simp only [List.map_cons, List.nodup_cons] at h
    have ih := mget_mdel r k x h.2
    by_cases hk : e.1 = k
    · simp only [mdel, hk, if_true, mget]
      by_cases h2 : k = x
      · rw [if_pos h2]; exact mget_notin (by rw [← h2, ← hk]; exact h.1)
      · rw [if_neg h2, if_neg h2]
    · simp only [mdel, hk, if_false, mget, ih]
      by_cases h2 : e.1 = x
      · rw [if_pos h2, if_neg (by rintro rfl; exact hk h2)]; simp [h2]
      · rw [if_neg h2, if_neg h2]
theorem mdel_sub : ∀ (es : List (ByteArray × AV)) (k : ByteArray), (mdel es k).Sublist es
  | [], _ => .slnil
  | e :: r, k => by
    rw [mdel]
    split
    · exact List.sublist_cons_self _ _
    · exact (mdel_sub r k).cons_cons _

def tot (ky vl : Nat → ByteArray) (bs : List Nat) : Nat := (bs.map fun b => (ky b).size + (vl b).size).sum

/-- A store of these items, the most recent one first. -/
structure Sto (S : St) (q r m room : Nat) (bs : List Nat) (ky vl : Nat → ByteArray) (la ol : Nat → Nat) (es : List (ByteArray × AV)) : Prop where
  own : S.obj q = some (.cells (stc room (tot ky vl bs) r m))
  nds : Nds S (r :: bs) ky vl la ol
  ring : Ring la ol r bs
  map : S.obj m = some (.map es)
  nd : (es.map (·.1)).Nodup
  get : ∀ b, b ∈ bs → mget es (ky b) = some (.ptr b 0)
  non : ∀ k, (∀ b, b ∈ bs → ky b ≠ k) → mget es k = none
  keys : (bs.map ky).Nodup
  fits : tot ky vl bs ≤ room
  small : room ≤ 1000
  ql : q < S.size
  ml : m < S.size
theorem Sto.qc {S : St} {q r m room : Nat} {bs : List Nat} {ky vl : Nat → ByteArray} {la ol : Nat → Nat} {es : List (ByteArray × AV)} (h : Sto S q r m room bs ky vl la ol es) : q ∉ r :: bs := by
  intro hq
  have := (h.nds q hq).1
  rw [h.own] at this
  simp [stc, V1.nd] at this
theorem Sto.mc {S : St} {q r m room : Nat} {bs : List Nat} {ky vl : Nat → ByteArray} {la ol : Nat → Nat} {es : List (ByteArray × AV)} (h : Sto S q r m room bs ky vl la ol es) : m ∉ r :: bs := by
  intro hq
  have := (h.nds m hq).1
  rw [h.map] at this
  simp at this
theorem Sto.qm {S : St} {q r m room : Nat} {bs : List Nat} {ky vl : Nat → ByteArray} {la ol : Nat → Nat} {es : List (ByteArray × AV)} (h : Sto S q r m room bs ky vl la ol es) : q ≠ m := by
  rintro rfl
  have := h.map
  rw [h.own] at this
  simp at this

/-- Rights stay. -/
def KeepR (S S' : St) : Prop := S.size ≤ S'.size ∧ ∀ j, S.obj j = some .right → S'.obj j = some .right
theorem KeepR.refl (S : St) : KeepR S S := ⟨Nat.le_refl _, fun _ h => h⟩
theorem KeepR.trans {a b c : St} (h : KeepR a b) (k : KeepR b c) : KeepR a c := ⟨Nat.le_trans h.1 k.1, fun j hj => k.2 j (h.2 j hj)⟩

theorem tot_out (ky vl : Nat → ByteArray) (l1 l2 : List Nat) (x : Nat) : tot ky vl (l1 ++ x :: l2) = tot ky vl (l1 ++ l2) + ((ky x).size + (vl x).size) := by
  simp only [tot, List.map_append, List.map_cons, List.sum_append, List.sum_cons]; omega

theorem ring_mem {la ol : Nat → Nat} {r x : Nat} {l1 l2 : List Nat} (h : Ring la ol r (l1 ++ x :: l2)) : la x ∈ r :: (l1 ++ x :: l2) ∧ ol x ∈ r :: (l1 ++ x :: l2) := by
  obtain ⟨h1, h2, -⟩ := h.out
  refine ⟨?_, ?_⟩
  · simp only [List.mem_cons, List.mem_append] at h1 ⊢; rcases h1 with h | h | h <;> simp [h]
  · simp only [List.mem_cons, List.mem_append] at h2 ⊢; rcases h2 with h | h | h <;> simp [h]

theorem drop_law {S : St} {q r m room : Nat} {l1 l2 : List Nat} {x : Nat} {ky vl : Nat → ByteArray} {la ol : Nat → Nat} {es : List (ByteArray × AV)} (h : Sto S q r m room (l1 ++ x :: l2) ky vl la ol es) :
    WC T xv 15 [.ptr q 0, .ptr x 0] S (fun _ S' => (∃ la' ol' es', Sto S' q r m room (l1 ++ l2) ky vl la' ol' es') ∧ KeepR S S') := by
  refine WC_fn cf15 rfl T15 (by simp [cf15]) ?_
  have mx : x ∈ r :: (l1 ++ x :: l2) := by simp
  have mx' : x ∈ l1 ++ x :: l2 := by simp
  obtain ⟨l0, lv, -, -⟩ := h.nds.lds mx
  obtain ⟨-, lu, -, -⟩ := stc_lds h.own
  have hqc := h.qc
  have hmc := h.mc
  have hqm := h.qm
  have hf := h.fits
  have hsm := h.small
  have ht := tot_out ky vl l1 l2 x
  have w1 : IntKind.i64.wrap (((ky x).size : Int) + ((vl x).size : Int)) = (((ky x).size + (vl x).size : Nat) : Int) := by rw [IntKind.wrap_i64]; omega
  have w2 : IntKind.i64.wrap (((tot ky vl (l1 ++ x :: l2) : Nat) : Int) - (((ky x).size + (vl x).size : Nat) : Int)) = ((tot ky vl (l1 ++ l2) : Nat) : Int) := by rw [IntKind.wrap_i64]; omega
  have s1 : storeA S 1 (.ptr q 1) (.int .i64 ((tot ky vl (l1 ++ l2) : Nat) : Int)) = some (S.put q (some (.cells (stc room (tot ky vl (l1 ++ l2)) r m)))) := by simp [storeA, h.own, setAt, AV.cells, AV.one, stc]
  have n1 : Nds (S.put q (some (.cells (stc room (tot ky vl (l1 ++ l2)) r m)))) (r :: (l1 ++ x :: l2)) ky vl la ol := h.nds.of (Nat.le_refl _) (fun b hb => put_ne (by rintro rfl; exact hqc hb))
  have o1 : (S.put q (some (.cells (stc room (tot ky vl (l1 ++ l2)) r m)))).obj q = some (.cells (stc room (tot ky vl (l1 ++ l2)) r m)) := put_eq
  have m1 : (S.put q (some (.cells (stc room (tot ky vl (l1 ++ l2)) r m)))).obj m = some (.map es) := (put_ne (Ne.symm hqm)).trans h.map
  have z1 : (S.put q (some (.cells (stc room (tot ky vl (l1 ++ l2)) r m)))).size = S.size := rfl
  have r1 : KeepR S (S.put q (some (.cells (stc room (tot ky vl (l1 ++ l2)) r m)))) := ⟨Nat.le_refl _, fun j hj => (put_ne (by rintro rfl; rw [h.own] at hj; cases hj)).trans hj⟩
  generalize S.put q (some (.cells (stc room (tot ky vl (l1 ++ l2)) r m))) = S1 at *
  obtain ⟨l10, -, -, -⟩ := n1.lds mx
  obtain ⟨-, -, -, l1m⟩ := stc_lds o1
  have hkx : (ky x).size ≤ maxKey := by simp only [maxKey]; omega
  have n2 : Nds (S1.put m (some (.map (mdel es (ky x))))) (r :: (l1 ++ x :: l2)) ky vl la ol := n1.of (Nat.le_refl _) (fun b hb => put_ne (by rintro rfl; exact hmc hb))
  have o2 : (S1.put m (some (.map (mdel es (ky x))))).obj q = some (.cells (stc room (tot ky vl (l1 ++ l2)) r m)) := (put_ne hqm).trans o1
  have m2 : (S1.put m (some (.map (mdel es (ky x))))).obj m = some (.map (mdel es (ky x))) := put_eq
  have z2 : (S1.put m (some (.map (mdel es (ky x))))).size = S.size := z1
  have r2 : KeepR S1 (S1.put m (some (.map (mdel es (ky x))))) := ⟨Nat.le_refl _, fun j hj => (put_ne (by rintro rfl; rw [m1] at hj; cases hj)).trans hj⟩
  simp only [cf15, wr_mdl, go_sem, ↓reduceIte, reduceCtorEq, Nat.reduceEqDiff, Nat.reduceAdd, Nat.reduceSub, Nat.reduceMul, Nat.reduceLeDiff, Nat.reduceLT, binA, l0, lv, lu, w1, w2, s1, l10, l1m, mapOf, keyA, m1, hkx]
  generalize S1.put m (some (.map (mdel es (ky x)))) = S2 at *
  obtain ⟨i1, i2⟩ := ring_mem h.ring
  refine WO_callx [.ptr x 0] (by simp only [go_sem, ↓reduceIte, reduceCtorEq, Nat.reduceEqDiff, Nat.reduceAdd, Nat.reduceSub, Nat.reduceMul, Nat.reduceLeDiff, Nat.reduceLT, loadA, rdCells, storeA, setAt, binA]) ((out_law n2 mx i1 i2).mono ?_)
  rintro v S3 ⟨n3, k3⟩
  simp only [go_sem, ↓reduceIte, reduceCtorEq, Nat.reduceEqDiff, Nat.reduceAdd, Nat.reduceSub, Nat.reduceMul, Nat.reduceLeDiff, Nat.reduceLT, loadA, rdCells, storeA, setAt, binA]
  obtain ⟨-, -, hring⟩ := h.ring.out
  have hsub : ∀ b, b ∈ r :: (l1 ++ l2) → b ∈ r :: (l1 ++ x :: l2) := by
    intro b hb; simp only [List.mem_cons, List.mem_append] at hb ⊢; rcases hb with h | h | h <;> simp [h]
  have hk := h.keys
  have hkn : ∀ b, b ∈ l1 ++ l2 → ky b ≠ ky x := by
    rw [List.map_append, List.map_cons] at hk
    have hp : (ky x :: (l1.map ky ++ l2.map ky)).Nodup := (List.perm_middle.nodup_iff).1 hk
    intro b hb he
    have := (List.nodup_cons.1 hp).1
    rw [← List.map_append] at this
    exact this (he ▸ List.mem_map.2 ⟨b, hb, rfl⟩)
  refine ⟨by simp, _, rfl, ⟨_, _, _, ⟨(k3.2 q hqc).trans o2, n3.less hsub, hring, (k3.2 m hmc).trans m2, ?_, ?_, ?_, ?_, by omega, hsm, ?_, ?_⟩⟩, ?_⟩
  · exact h.nd.sublist ((mdel_sub _ _).map _)
  · intro b hb
    rw [mget_mdel _ _ _ h.nd, if_neg (fun e => hkn b hb e.symm)]
    exact h.get b (by simp only [List.mem_append, List.mem_cons] at hb ⊢; rcases hb with h | h <;> simp [h])
  · intro k hkk
    rw [mget_mdel _ _ _ h.nd]
    by_cases he : ky x = k
    · rw [if_pos he]
    · rw [if_neg he]
      refine h.non k fun b hb => ?_
      simp only [List.mem_append, List.mem_cons] at hb
      rcases hb with hb | rfl | hb
      · exact hkk b (by simp [hb])
      · exact he
      · exact hkk b (by simp [hb])
  · exact hk.sublist ((List.Sublist.append (List.Sublist.refl _) (List.sublist_cons_self _ _)).map _)
  · rw [k3.1, z2]; exact h.ql
  · rw [k3.1, z2]; exact h.ml
  · refine (r1.trans r2).trans ⟨Nat.le_of_eq k3.1.symm, fun j hj => ?_⟩
    by_cases hc : j ∈ r :: (l1 ++ x :: l2)
    · rw [(n2 j hc).1] at hj; cases hj
    · rw [k3.2 j hc]; exact hj
end Go.Am.V1
