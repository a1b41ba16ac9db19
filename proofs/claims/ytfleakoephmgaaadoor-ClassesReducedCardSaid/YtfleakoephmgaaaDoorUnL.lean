/- A part of the proof of Go. Conditions: none. -/
import Derived.Test.YtfleakoephmgaaaDoorUnI
import Derived.Test.YtfleakoephmgaaaDoorAmSq
set_option linter.unusedSimpArgs false
set_option linter.unusedVariables false
namespace Go.Am.U1
open Go.Am.Un
set_option maxRecDepth 100000
set_option linter.unusedSimpArgs false
attribute [local go_sem] wseq COp.isStore wreg wdreg wret wskip wexit wblock wcnd cnd_t cnd_f then_n then_x then_r catch_n rnd_n rnd_x rnd_r catch_x catch_r wo_nil wo_grd grdO_t grdO_f wo_ops stpO wr_nil wr_alloc wr_guards grdR_t grdR_f wr_ops stpR evAllocs evOp env0_app eput_some eput_none eset_app Opd.ev wantedA faddrA snew_obj snew_size sput_obj sput_size av_cells av_one av_strip av_still unA eqbA fillA fldA lensA mmA mm2 mmFold List.getD_cons_zero List.getD_cons_succ List.getD_nil List.length_cons List.length_nil List.drop_zero List.drop_succ_cons List.take_succ_cons List.take_zero List.map_cons List.map_nil List.set_cons_zero List.set_cons_succ List.all_cons List.all_nil List.getElem?_cons_zero List.getElem?_cons_succ List.nil_append List.cons_append Nat.zero_add Nat.add_zero beq_self_eq_true bt bf Bool.not_true Bool.not_false Bool.and_true Bool.true_and Bool.and_false Bool.false_and and_self and_true true_and n0 n1 n2 n3 n4 m0 m1 m2 m3 c1 retA resAs resA undefA Option.map_some Option.map_none
variable {X : Ext}

theorem kof_mk (k : Int) (n : ByteArray) (v : Int) (l : List Tm) : kof (.mk k n v l) = k := rfl
theorem nof_mk (k : Int) (n : ByteArray) (v : Int) (l : List Tm) : nof (.mk k n v l) = n := rfl
theorem vof_mk (k : Int) (n : ByteArray) (v : Int) (l : List Tm) : vof (.mk k n v l) = v := rfl
theorem lof_mk (k : Int) (n : ByteArray) (v : Int) (l : List Tm) : lof (.mk k n v l) = l := rfl

end Go.Am.U1

/- The stable sort: two sorted rows merged in place. Conditions: none. -/
namespace Go.Am
open Go.So (Ord Srt ins isort)
set_option maxRecDepth 100000
set_option linter.unusedSimpArgs false
attribute [local go_sem] wseq COp.isStore wreg wdreg wret wskip wexit wblock wcnd cnd_t cnd_f then_n then_x then_r catch_n rnd_n rnd_x rnd_r catch_x catch_r wo_nil wo_grd grdO_t grdO_f wo_ops stpO wr_nil wr_alloc wr_guards grdR_t grdR_f wr_ops stpR evAllocs evOp env0_app eput_some eput_none eset_app Opd.ev wantedA faddrA snew_obj snew_size sput_obj sput_size av_cells av_one av_strip av_still unA eqbA fillA fldA lensA mmA mm2 mmFold List.getD_cons_zero List.getD_cons_succ List.getD_nil List.length_cons List.length_nil List.drop_zero List.drop_succ_cons List.take_succ_cons List.take_zero List.map_cons List.map_nil List.set_cons_zero List.set_cons_succ List.all_cons List.all_nil List.getElem?_cons_zero List.getElem?_cons_succ List.nil_append List.cons_append Nat.zero_add Nat.add_zero beq_self_eq_true bt bf Bool.not_true Bool.not_false Bool.and_true Bool.true_and Bool.and_false Bool.false_and and_self and_true true_and n0 n1 n2 n3 n4 m0 m1 m2 m3 c1 retA resAs resA undefA Option.map_some Option.map_none

theorem half {i j : Nat} (h : i + j ≤ 17592186044416) : IntKind.i64.wrap ((i : Int) + (j : Int)) = ((i + j : Nat) : Int) ∧ IntKind.u64.wrap ((i + j : Nat) : Int) = ((i + j : Nat) : Int) ∧
    shfA .shr (.int .u64 ((i + j : Nat) : Int)) (.int .u64 1) = some (.int .u64 (((i + j) / 2 : Nat) : Int)) ∧ IntKind.i64.wrap (((i + j) / 2 : Nat) : Int) = (((i + j) / 2 : Nat) : Int) := by
  refine ⟨by rw [IntKind.wrap_i64]; omega, IntWalk.u64_in _ (by omega), ?_, by rw [IntKind.wrap_i64]; omega⟩
  have e : (min (1 : Int).toNat IntKind.u64.bits) = 1 := rfl
  simp only [shfA]
  rw [if_pos (by omega), e, Int.fdiv_eq_ediv_of_nonneg _ (by omega)]
  congr 1

section
variable {α : Type} {f : α → List AV} {T : Nat → Option CF} {X : Ext} {nI nM nR nS : Nat}

theorem srt_get {lt : α → α → Bool} (O : Ord lt) {V : List α} (h : Srt lt V) {s t : Nat} {u v : α} (hs : V[s]? = some u) (ht : V[t]? = some v) (hst : s ≤ t) : lt v u = false := by
  rcases Nat.lt_or_ge s t with hlt | hge
  · obtain ⟨h1, rfl⟩ := List.getElem?_eq_some_iff.1 hs
    obtain ⟨h2, rfl⟩ := List.getElem?_eq_some_iff.1 ht
    exact List.pairwise_iff_getElem.1 h s t h1 h2 hlt
  · have : s = t := by omega
    subst this
    rw [hs] at ht
    cases ht
    exact O.irr u
theorem ins_mid {lt : α → α → Bool} (x : α) : ∀ (V1 V2 : List α), (∀ v, v ∈ V1 → lt v x = true) → (∀ v, v ∈ V2 → lt v x = false) → ins lt x (V1 ++ V2) = V1 ++ x :: V2
  | [], V2, _, h2 => Go.So.ins_front h2
  | v :: V1, V2, h1, h2 => by
    show ins lt x (v :: (V1 ++ V2)) = _
    rw [ins, if_pos (h1 v (by simp)), ins_mid x V1 V2 (fun u hu => h1 u (by simp [hu])) h2]; rfl
theorem mem_take {V : List α} {c : Nat} {v : α} (h : v ∈ V.take c) : ∃ t, t < c ∧ V[t]? = some v := by
  obtain ⟨t, ht⟩ := List.mem_iff_getElem?.1 h
  rw [List.getElem?_take] at ht
  split at ht
  · exact ⟨t, by assumption, ht⟩
  · cases ht
theorem mem_drop {V : List α} {c : Nat} {v : α} (h : v ∈ V.drop c) : ∃ t, c ≤ t ∧ V[t]? = some v := by
  obtain ⟨t, ht⟩ := List.mem_iff_getElem?.1 h
  rw [List.getElem?_drop] at ht
  exact ⟨c + t, by omega, ht⟩

/-- What has been merged. -/
def Mrg (T : Nat → Option CF) (X : Ext) (f : α → List AV) (lt : α → α → Bool) (nM g : Nat) (cap : List AV) (Xs U V Y : List α) (p : Nat) (S : St) : Prop :=
  WC T X nM [.msl p 0 (Xs ++ U ++ V ++ Y).length 4, .int .i64 (Xs.length : Nat), .int .i64 (Xs.length + U.length : Nat), .int .i64 (Xs.length + U.length + V.length : Nat), .func g cap] S (fun _ S' => S'.obj p = some (.cells ((Xs ++ isort lt (U ++ V) ++ Y).flatMap f)) ∧ KeepBut p S S')

set_option maxHeartbeats 1000000 in
/-- One ahead of a sorted row. -/
theorem sym_one (hT : SortT T X nI nM nR nS) (hP : Plain f 4) {lt : α → α → Bool} (O : Ord lt) {g : Nat} {cap : List AV} (hc : Cmps T X f g cap lt) (Xs V Y : List α) (x : α) (hV : Srt lt V) (hV0 : 0 < V.length) (hb : (Xs ++ [x] ++ V ++ Y).length ≤ 4398046511104) {p : Nat} {S : St} (hp : p < S.size) (ho : S.obj p = some (.cells ((Xs ++ [x] ++ V ++ Y).flatMap f))) :
    Mrg T X f lt nM g cap Xs [x] V Y p S := by
  refine WC_fn (sSym nM nR) hT.xM hT.tM (by simp [sSym]) ?_
  obtain ⟨n, hn⟩ : ∃ n, n = (Xs ++ [x] ++ V ++ Y).length := ⟨_, rfl⟩
  obtain ⟨a, ha⟩ : ∃ a, a = Xs.length := ⟨_, rfl⟩
  obtain ⟨m, hm⟩ : ∃ m, m = Xs.length + [x].length := ⟨_, rfl⟩
  obtain ⟨b, hbb⟩ : ∃ b, b = Xs.length + [x].length + V.length := ⟨_, rfl⟩
  rw [← hbb, ← hm, ← ha, ← hn]
  have hma : m = a + 1 := by simp at hm; omega
  have hbm : b = m + V.length := by simp at hm hbb; omega
  have hnl : n = a + 1 + V.length + Y.length := by rw [hn]; simp; omega
  have hbn : n ≤ 4398046511104 := by rw [hn]; exact hb
  have w1 : IntKind.i64.wrap ((m : Int) - (a : Int)) = 1 := by rw [IntKind.wrap_i64]; omega
  have h11 : ((1 : Int) == 1) = true := rfl
  simp only [sSym, w1, h11, go_sem, ↓reduceIte, reduceCtorEq, Nat.reduceEqDiff, Nat.reduceAdd, Nat.reduceSub, Nat.reduceMul, Nat.reduceLeDiff, Nat.reduceLT, loadA, rdCells, storeA, setAt, binA]
  refine W_loop_nat (fun k e s => ∃ i j : Nat, k = j - i ∧ m ≤ i ∧ i ≤ j ∧ j ≤ b ∧ (∀ t v, V[t]? = some v → m + t < i → lt v x = true) ∧ (∀ t v, V[t]? = some v → j ≤ m + t → lt v x = false) ∧ e 0 = .msl p 0 n 4 ∧ e 1 = .int .i64 a ∧ e 4 = .func g cap ∧ e 10 = .int .i64 i ∧ e 11 = .int .i64 j ∧
    s.obj p = some (.cells ((Xs ++ [x] ++ V ++ Y).flatMap f)) ∧ KeepBut p S s) ?_ V.length _ _
    ⟨m, b, by omega, by omega, by omega, by omega, fun t v _ h => by omega, fun t v h1 h2 => by have := (List.getElem?_eq_some_iff.1 h1).1; omega, by simp only [go_sem, ↓reduceIte, reduceCtorEq, Nat.reduceEqDiff, Nat.reduceAdd, Nat.reduceSub, Nat.reduceMul, Nat.reduceLeDiff, Nat.reduceLT, loadA, rdCells, storeA, setAt, binA], by simp only [go_sem, ↓reduceIte, reduceCtorEq, Nat.reduceEqDiff, Nat.reduceAdd, Nat.reduceSub, Nat.reduceMul, Nat.reduceLeDiff, Nat.reduceLT, loadA, rdCells, storeA, setAt, binA], by simp only [go_sem, ↓reduceIte, reduceCtorEq, Nat.reduceEqDiff, Nat.reduceAdd, Nat.reduceSub, Nat.reduceMul, Nat.reduceLeDiff, Nat.reduceLT, loadA, rdCells, storeA, setAt, binA], by simp only [go_sem, ↓reduceIte, reduceCtorEq, Nat.reduceEqDiff, Nat.reduceAdd, Nat.reduceSub, Nat.reduceMul, Nat.reduceLeDiff, Nat.reduceLT, loadA, rdCells, storeA, setAt, binA], by simp only [go_sem, ↓reduceIte, reduceCtorEq, Nat.reduceEqDiff, Nat.reduceAdd, Nat.reduceSub, Nat.reduceMul, Nat.reduceLeDiff, Nat.reduceLT, loadA, rdCells, storeA, setAt, binA], ho, KeepBut.refl _ _⟩
  rintro k e s ⟨i, j, rfl, hmi, hij, hjb, hlo, hhi, e0, e1, e4, e10, e11, hs, hk⟩
  by_cases hlt : i < j
  · have hd : decide ((i : Int) < (j : Int)) = true := by simp; omega
    obtain ⟨q1, q2, q3, q4⟩ := half (i := i) (j := j) (by omega)
    obtain ⟨c, hcd⟩ : ∃ c, c = (i + j) / 2 := ⟨_, rfl⟩
    have hci : i ≤ c ∧ c < j := by omega
    rw [← hcd] at q3 q4
    obtain ⟨v, hv⟩ : ∃ v, V[c - m]? = some v := ⟨_, List.getElem?_eq_getElem (by omega)⟩
    have a1 := maddr (p := p) (n := n) (i := c) (by omega)
    have a2 := maddr (p := p) (n := n) (i := a) (by omega)
    have g1 := mload hP hs (i := c) (x := v) (by rw [List.append_assoc, List.getElem?_append_right (by simp; omega), List.getElem?_append_left (by simp; omega)]; rw [← hv]; congr 1; simp; omega)
    have g2 := mload hP hs (i := a) (x := x) (by have : Xs ++ [x] ++ V ++ Y = Xs ++ x :: (V ++ Y) := by simp
                                                 rw [this]; exact get_mid _ _ x ha)
    simp only [sSym_l4, e0, e1, e4, e10, e11, hd, q1, q2, q3, q4, a1, a2, g1, g2, go_sem, ↓reduceIte, reduceCtorEq, Nat.reduceEqDiff, Nat.reduceAdd, Nat.reduceSub, Nat.reduceMul, Nat.reduceLeDiff, Nat.reduceLT, binA]
    refine WR_callv g cap ([.agg (f v), .agg (f x)] ++ cap) (by simp only [e4, go_sem, ↓reduceIte, reduceCtorEq, Nat.reduceEqDiff, Nat.reduceAdd, Nat.reduceSub, Nat.reduceMul, Nat.reduceLeDiff, Nat.reduceLT, loadA, rdCells, storeA, setAt, binA]) (by simp only [go_sem, ↓reduceIte, reduceCtorEq, Nat.reduceEqDiff, Nat.reduceAdd, Nat.reduceSub, Nat.reduceMul, Nat.reduceLeDiff, Nat.reduceLT, loadA, rdCells, storeA, setAt, binA]) ((hc v x s).mono ?_)
    rintro u s1 ⟨z, rfl, hz, hk1⟩
    have hs1 : s1.obj p = some (.cells ((Xs ++ [x] ++ V ++ Y).flatMap f)) := (hk1.2 p (Nat.lt_of_lt_of_le hp hk.1)).trans hs
    cases hvx : lt v x with
    | true =>
      rw [hvx] at hz
      have w2 : IntKind.i64.wrap ((c : Int) + 1) = ((c + 1 : Nat) : Int) := by rw [IntKind.wrap_i64]; omega
      simp only [e0, e1, e4, e10, e11, hz, w2, go_sem, ↓reduceIte, reduceCtorEq, Nat.reduceEqDiff, Nat.reduceAdd, Nat.reduceSub, Nat.reduceMul, Nat.reduceLeDiff, Nat.reduceLT, loadA, rdCells, storeA, setAt, binA]
      refine ⟨j - (c + 1), by omega, c + 1, j, rfl, by omega, by omega, by omega, fun t w hw htc => ?_, hhi, rfl, rfl, hs1, hk.trans hk1.but⟩
      exact O.strict' (srt_get O hV hw hv (by omega)) hvx
    | false =>
      rw [hvx] at hz
      simp only [e0, e1, e4, e10, e11, hz, go_sem, ↓reduceIte, reduceCtorEq, Nat.reduceEqDiff, Nat.reduceAdd, Nat.reduceSub, Nat.reduceMul, Nat.reduceLeDiff, Nat.reduceLT, loadA, rdCells, storeA, setAt, binA]
      refine ⟨c - i, by omega, i, c, rfl, by omega, by omega, by omega, hlo, fun t w hw htc => ?_, rfl, rfl, hs1, hk.trans hk1.but⟩
      exact O.trans x v w hvx (srt_get O hV hv hw (by omega))
  · have hd : decide ((i : Int) < (j : Int)) = false := by simp; omega
    obtain rfl : i = j := by omega
    simp only [sSym_l4, e0, e1, e4, e10, e11, hd, go_sem, ↓reduceIte, reduceCtorEq, Nat.reduceEqDiff, Nat.reduceAdd, Nat.reduceSub, Nat.reduceMul, Nat.reduceLeDiff, Nat.reduceLT, loadA, rdCells, storeA, setAt, binA]
    have hfin : Xs ++ isort lt (x :: V) ++ Y = Xs ++ (V.take (i - m) ++ x :: V.drop (i - m)) ++ Y := by
      have h1 : isort lt (x :: V) = ins lt x V := by show ins lt x (isort lt V) = _; rw [Go.So.isort_of hV]
      rw [h1]
      conv => lhs; rw [← List.take_append_drop (i - m) V]
      rw [ins_mid x]
      · intro v hv; obtain ⟨t, ht, hg⟩ := mem_take hv; exact hlo t v hg (by omega)
      · intro v hv; obtain ⟨t, ht, hg⟩ := mem_drop hv; exact hhi t v hg (by omega)
    have w3 : IntKind.i64.wrap ((i : Int) - 1) = ((i - 1 : Nat) : Int) := by rw [IntKind.wrap_i64]; omega
    refine W_loop_nat (fun k e s => ∃ c : Nat, c + k = i - m ∧ e 0 = .msl p 0 n 4 ∧ e 10 = .int .i64 i ∧ e 13 = .int .i64 (a + c : Nat) ∧ s.obj p = some (.cells ((Xs ++ (V.take c ++ x :: V.drop c) ++ Y).flatMap f)) ∧ KeepBut p S s) ?_ (i - m) _ _
      ⟨0, by omega, by simp only [e0, go_sem, ↓reduceIte, reduceCtorEq, Nat.reduceEqDiff, Nat.reduceAdd, Nat.reduceSub, Nat.reduceMul, Nat.reduceLeDiff, Nat.reduceLT, loadA, rdCells, storeA, setAt, binA], by simp only [e10, go_sem, ↓reduceIte, reduceCtorEq, Nat.reduceEqDiff, Nat.reduceAdd, Nat.reduceSub, Nat.reduceMul, Nat.reduceLeDiff, Nat.reduceLT, loadA, rdCells, storeA, setAt, binA], by simp only [go_sem, ↓reduceIte, reduceCtorEq, Nat.reduceEqDiff, Nat.reduceAdd, Nat.reduceSub, Nat.reduceMul, Nat.reduceLeDiff, Nat.reduceLT, loadA, rdCells, storeA, setAt, binA], by rw [hs]; simp, hk⟩
    rintro k e' s' ⟨c, hck, f0, f10, f13, hs', hk'⟩
    by_cases hcm : c < i - m
    · have hd2 : decide (((a + c : Nat) : Int) < ((i - 1 : Nat) : Int)) = true := by simp; omega
      obtain ⟨v, hv⟩ : ∃ v, V[c]? = some v := ⟨_, List.getElem?_eq_getElem (by omega)⟩
      have dv : V.drop c = v :: V.drop (c + 1) := by rw [List.drop_eq_getElem_cons (by omega)]; congr 1; rw [List.getElem?_eq_getElem (by omega)] at hv; exact Option.some.inj hv
      have tv : V.take (c + 1) = V.take c ++ [v] := by rw [List.take_add_one, hv]; rfl
      have htl : (V.take c).length = c := by simp; omega
      have w4 : IntKind.i64.wrap (((a + c : Nat) : Int) + 1) = ((a + (c + 1) : Nat) : Int) := by rw [IntKind.wrap_i64]; omega
      have a1 := maddr (p := p) (n := n) (i := a + c) (by omega)
      have a2 := maddr (p := p) (n := n) (i := a + (c + 1)) (by omega)
      have r1 : Xs ++ (V.take c ++ x :: V.drop c) ++ Y = (Xs ++ V.take c) ++ x :: v :: (V.drop (c + 1) ++ Y) := by rw [dv]; simp
      have r2 : Xs ++ (V.take c ++ x :: V.drop c) ++ Y = (Xs ++ V.take c ++ [x]) ++ v :: (V.drop (c + 1) ++ Y) := by rw [dv]; simp
      have g1 := mload hP hs' (by rw [r1]; exact get_mid _ _ x (n := a + c) (by simp [htl]; omega))
      have g2 := mload hP hs' (by rw [r2]; exact get_mid _ _ v (n := a + (c + 1)) (by simp [htl]; omega))
      have s2 := mstore hP hs' (i := a + c) (by rw [r1]; simp; omega) v
      rw [r1, set_mid _ _ x v (n := a + c) (by simp [htl]; omega)] at s2
      have o2 : (s'.put p (some (.cells ((Xs ++ V.take c ++ v :: v :: (V.drop (c + 1) ++ Y)).flatMap f)))).obj p = some (.cells ((Xs ++ V.take c ++ v :: v :: (V.drop (c + 1) ++ Y)).flatMap f)) := put_eq
      have s3 := mstore hP o2 (i := a + (c + 1)) (by simp; omega) x
      have r3 : (Xs ++ V.take c ++ v :: v :: (V.drop (c + 1) ++ Y)).set (a + (c + 1)) x = Xs ++ (V.take (c + 1) ++ x :: V.drop (c + 1)) ++ Y := by
        have : Xs ++ V.take c ++ v :: v :: (V.drop (c + 1) ++ Y) = (Xs ++ V.take c ++ [v]) ++ v :: (V.drop (c + 1) ++ Y) := by simp
        rw [this, set_mid _ _ v x (by simp [htl]; omega), tv]; simp
      rw [r3] at s3
      simp only [sSym_l3, f0, f10, f13, w3, w4, hd2, a1, a2, g1, g2, s2, s3, go_sem, ↓reduceIte, reduceCtorEq, Nat.reduceEqDiff, Nat.reduceAdd, Nat.reduceSub, Nat.reduceMul, Nat.reduceLeDiff, Nat.reduceLT, binA]
      exact ⟨k - 1, by omega, c + 1, by omega, rfl, rfl, (hk'.put _).put _⟩
    · have hd2 : decide (((a + c : Nat) : Int) < ((i - 1 : Nat) : Int)) = false := by simp; omega
      simp only [sSym_l3, f0, f10, f13, w3, hd2, go_sem, ↓reduceIte, reduceCtorEq, Nat.reduceEqDiff, Nat.reduceAdd, Nat.reduceSub, Nat.reduceMul, Nat.reduceLeDiff, Nat.reduceLT, loadA, rdCells, storeA, setAt, binA]
      refine ⟨by simp, _, rfl, ?_, hk'⟩
      rw [hfin, hs', show c = i - m by omega]
end
end Go.Am
