/- The normal form has as many nodes. Conditions: none. -/
import Derived.Test.YtfleakoephmgaaaDoorUnA
import Derived.Test.YtfleakoephmgaaaDoorUoB
set_option linter.unusedSimpArgs false
set_option linter.unusedVariables false
namespace Go.Am
namespace Un
open Go.So

/-! ### Sizes -/
def lsz (L : List Lb) : Nat := (L.map fun x => 1 + tsz x.2).sum
theorem bld_tsz : ∀ (L : List Lb) (e : Tm), tsz (bld L e) = lsz L + tsz e
  | [], e => by simp [bld, lsz]
  | x :: L, e => by
    rw [bld, tsz, tszs, tszs, tszs, bld_tsz L e]
    simp only [lsz, List.map_cons, List.sum_cons]
    omega
theorem spn_tsz {t : Tm} {L : List Lb} {e : Tm} (h : Spn t L e) : tsz t = lsz L + tsz e := by
  induction h with
  | nil t h => simp [lsz]
  | cons n v a r L e h ih =>
    rw [tsz, tszs, tszs, tszs, ih]
    simp only [lsz, List.map_cons, List.sum_cons]
    omega
theorem ins_lsz (x : Lb) : ∀ L : List Lb, lsz (ins ltL x L) = 1 + tsz x.2 + lsz L
  | [] => by simp [Go.So.ins, lsz]
  | y :: L => by
    rw [Go.So.ins]
    split
    · have := ins_lsz x L
      simp only [lsz, List.map_cons, List.sum_cons] at this ⊢
      omega
    · simp only [lsz, List.map_cons, List.sum_cons]
theorem isort_lsz : ∀ L : List Lb, lsz (isort ltL L) = lsz L
  | [] => rfl
  | x :: L => by
    have := isort_lsz L
    rw [show isort ltL (x :: L) = ins ltL x (isort ltL L) from rfl, ins_lsz, this]
    simp [lsz]
theorem tszs_sum : ∀ l : List Tm, tszs l = (l.map tsz).sum
  | [] => by rw [tszs]; rfl
  | t :: r => by rw [tszs, tszs_sum r]; simp
theorem nf_tsz : ∀ (n : Nat) (t : Tm), tsz t ≤ n → Val t → tsz (nf t) = tsz t := by
  intro n
  induction n with
  | zero => intro t h; cases t; rw [tsz] at h; omega
  | succ n ih =>
    intro t h hv
    obtain ⟨L, e, hs⟩ := spn_of _ t (Nat.le_refl _) hv
    obtain ⟨h1, h2, h3⟩ := spn_mem hs
    have he := spn_end hs
    have hL : lsz (L.map nfl) = lsz L := by
      simp only [lsz, List.map_map]
      congr 1
      refine List.map_congr_left fun x hx => ?_
      obtain ⟨h8, h9⟩ := h1 x hx
      show 1 + tsz (nf x.2) = 1 + tsz x.2
      rw [ih x.2 (by omega) (h9 hv)]
    have hE : tsz (nf e) = tsz e := by
      rw [nf_oth he]
      obtain ⟨k, m, v, l⟩ := e
      rw [tsz, tsz, tszs_sum, tszs_sum]
      simp only [lof, List.map_map]
      congr 2
      refine List.map_congr_left fun a ha => ?_
      have := tsz_mem (t := .mk k m v l) ha
      exact ih a (by omega) (val_arg (h3 hv) ha)
    rw [nf_spn hs, bld_tsz, isort_lsz, hL, hE, spn_tsz hs]

end Un
end Go.Am

/- Contains at a function, in the larger table. Conditions: none. -/
namespace Go.Am.U2
open Go.Am.Un
open Go.Am.U1 (drop_at tyw tyc_w NoX)
set_option maxRecDepth 100000
set_option linter.unusedSimpArgs false
attribute [local go_sem] wseq COp.isStore wreg wdreg wret wskip wexit wblock wcnd cnd_t cnd_f then_n then_x then_r catch_n rnd_n rnd_x rnd_r catch_x catch_r wo_nil wo_grd grdO_t grdO_f wo_ops stpO wr_nil wr_alloc wr_guards grdR_t grdR_f wr_ops stpR evAllocs evOp env0_app eput_some eput_none eset_app Opd.ev wantedA faddrA snew_obj snew_size sput_obj sput_size av_cells av_one av_strip av_still unA eqbA fillA fldA lensA mmA mm2 mmFold List.getD_cons_zero List.getD_cons_succ List.getD_nil List.length_cons List.length_nil List.drop_zero List.drop_succ_cons List.take_succ_cons List.take_zero List.map_cons List.map_nil List.set_cons_zero List.set_cons_succ List.all_cons List.all_nil List.getElem?_cons_zero List.getElem?_cons_succ List.nil_append List.cons_append Nat.zero_add Nat.add_zero beq_self_eq_true bt bf Bool.not_true Bool.not_false Bool.and_true Bool.true_and Bool.and_false Bool.false_and and_self and_true true_and n0 n1 n2 n3 n4 m0 m1 m2 m3 c1 retA resAs resA undefA Option.map_some Option.map_none
variable {X : Ext}

theorem index_fi (hX : NoX X) {v : AV} {l : List Int} (h : ISl U1.ic v l) (hb : l.length ≤ 4398046511104) (g : Nat) (cap : List AV) (p : Int → Bool) (s : St)
    (hg : ∀ x s1, x ∈ l → Keep s s1 → WC T X g (.int .i64 x :: cap) s1 (fun v s2 => v = .bool (p x) ∧ Keep s1 s2)) :
    WC T X 48 [v, .func g cap] s (fun v s' => (∃ m : Int, v = .int .i64 m ∧ decide (m ≥ 0) = l.any p) ∧ Keep s s') := by
  refine WC_fn U1.cf48 (hX 48 (by decide)) (show T 48 = some U1.cf48 from rfl) (by simp [U1.cf48]) ?_
  have hlen := h.len
  simp only [U1.cf48, hlen, go_sem, ↓reduceIte, reduceCtorEq, Nat.reduceEqDiff, Nat.reduceAdd, Nat.reduceSub, Nat.reduceMul, Nat.reduceLeDiff, Nat.reduceLT, loadA, rdCells, storeA, setAt, binA]
  refine W_loop_nat (fun k e s1 => ∃ i, i + k = l.length ∧ e 0 = v ∧ e 1 = .func g cap ∧ e 7 = .int .i64 l.length ∧ e 8 = .int .i64 i ∧ l.any p = (l.drop i).any p ∧ Keep s s1) ?_ l.length _ _ ⟨0, by simp, ?_⟩
  · rintro k e s1 ⟨i, hik, h0, h1, h7, h8, hf, hk⟩
    by_cases hi : i < l.length
    · obtain ⟨x, hx⟩ : ∃ x, l[i]? = some x := ⟨_, List.getElem?_eq_getElem hi⟩
      have hd : decide ((i : Int) < (l.length : Int)) = true := by simp; omega
      simp only [U1.cf48_l0, h0, h1, h7, h8, hd, h.at U1.ic_len hx, U1.ic, Nat.le_add_left, go_sem, ↓reduceIte, reduceCtorEq, Nat.reduceEqDiff, Nat.reduceAdd, Nat.reduceSub, Nat.reduceMul, Nat.reduceLeDiff, Nat.reduceLT, loadA, rdCells, storeA, setAt, binA]
      refine WO_callvx g cap (.int .i64 x :: cap) (by simp only [h0, h1, go_sem, ↓reduceIte, reduceCtorEq, Nat.reduceEqDiff, Nat.reduceAdd, Nat.reduceSub, Nat.reduceMul, Nat.reduceLeDiff, Nat.reduceLT, loadA, rdCells, storeA, setAt, binA]) (by simp only [go_sem, ↓reduceIte, reduceCtorEq, Nat.reduceEqDiff, Nat.reduceAdd, Nat.reduceSub, Nat.reduceMul, Nat.reduceLeDiff, Nat.reduceLT, loadA, rdCells, storeA, setAt, binA]) ((hg x s1 (List.mem_of_getElem? hx) hk).mono ?_)
      rintro w s2 ⟨rfl, hk2⟩
      cases hp : p x <;> simp only [h0, h1, h7, h8, U1.wrapn (n := i) (by omega), go_sem, ↓reduceIte, reduceCtorEq, Nat.reduceEqDiff, Nat.reduceAdd, Nat.reduceSub, Nat.reduceMul, Nat.reduceLeDiff, Nat.reduceLT, loadA, rdCells, storeA, setAt, binA]
      · exact ⟨k - 1, by omega, i + 1, by omega, rfl, by rw [hf, drop_at hx, List.any_cons, hp, Bool.false_or], hk.trans hk2⟩
      · exact ⟨by simp, _, rfl, ⟨(i : Int), rfl, by rw [hf, drop_at hx, List.any_cons, hp, Bool.true_or]; simp⟩, hk.trans hk2⟩
    · have hd : decide ((i : Int) < (l.length : Int)) = false := by simp; omega
      simp only [U1.cf48_l0, h0, h1, h7, h8, hd, go_sem, ↓reduceIte, reduceCtorEq, Nat.reduceEqDiff, Nat.reduceAdd, Nat.reduceSub, Nat.reduceMul, Nat.reduceLeDiff, Nat.reduceLT, loadA, rdCells, storeA, setAt, binA]
      exact ⟨by simp, _, rfl, ⟨-1, rfl, by rw [hf, List.drop_eq_nil_of_le (by omega)]; rfl⟩, hk⟩
  · simp only [go_sem, ↓reduceIte, reduceCtorEq, Nat.reduceEqDiff, Nat.reduceAdd, Nat.reduceSub, Nat.reduceMul, Nat.reduceLeDiff, Nat.reduceLT, loadA, rdCells, storeA, setAt, binA]
    exact ⟨rfl, Keep.refl s⟩

theorem contains_fi (hX : NoX X) {v : AV} {l : List Int} (h : ISl U1.ic v l) (hb : l.length ≤ 4398046511104) (g : Nat) (cap : List AV) (p : Int → Bool) (s : St)
    (hg : ∀ x s1, x ∈ l → Keep s s1 → WC T X g (.int .i64 x :: cap) s1 (fun v s2 => v = .bool (p x) ∧ Keep s1 s2)) :
    WC T X 19 [v, .func g cap] s (fun v s' => v = .bool (l.any p) ∧ Keep s s') := by
  refine WC_fn U1.cf19 (hX 19 (by decide)) (show T 19 = some U1.cf19 from rfl) (by simp [U1.cf19]) ?_
  simp only [U1.cf19, go_sem, ↓reduceIte, reduceCtorEq, Nat.reduceEqDiff, Nat.reduceAdd, Nat.reduceSub, Nat.reduceMul, Nat.reduceLeDiff, Nat.reduceLT, loadA, rdCells, storeA, setAt, binA]
  refine WO_callx [v, .func g cap] (by simp only [go_sem, ↓reduceIte, reduceCtorEq, Nat.reduceEqDiff, Nat.reduceAdd, Nat.reduceSub, Nat.reduceMul, Nat.reduceLeDiff, Nat.reduceLT, loadA, rdCells, storeA, setAt, binA]) ((index_fi hX h hb g cap p s hg).mono ?_)
  rintro w s2 ⟨⟨m, rfl, hm⟩, hk⟩
  simp only [go_sem, ↓reduceIte, reduceCtorEq, Nat.reduceEqDiff, Nat.reduceAdd, Nat.reduceSub, Nat.reduceMul, Nat.reduceLeDiff, Nat.reduceLT, loadA, rdCells, storeA, setAt, binA]
  exact ⟨by simp, _, rfl, by rw [hm], hk⟩

/-- A type of a list, at a function. -/
theorem index_ft (hX : NoX X) {v : AV} {l : List Tm} (h : ISl tyc v l) (hb : l.length ≤ 4398046511104) (g : Nat) (cap : List AV) (p : Tm → Bool) (I : St → Prop) (s : St) (hI : I s)
    (hg : ∀ (i : Nat) x s1, l[i]? = some x → (l.take i).any p = false → I s1 → WC T X g (.agg (tyc x) :: cap) s1 (fun v s2 => v = .bool (p x) ∧ I s2)) :
    WC T X 75 [v, .func g cap] s (fun v s' => (∃ m : Int, v = .int .i64 m ∧ decide (m ≥ 0) = l.any p) ∧ I s') := by
  refine WC_fn U1.cf75 (hX 75 (by decide)) (show T 75 = some U1.cf75 from rfl) (by simp [U1.cf75]) ?_
  have hlen := h.len
  simp only [U1.cf75, hlen, go_sem, ↓reduceIte, reduceCtorEq, Nat.reduceEqDiff, Nat.reduceAdd, Nat.reduceSub, Nat.reduceMul, Nat.reduceLeDiff, Nat.reduceLT, loadA, rdCells, storeA, setAt, binA]
  refine W_loop_nat (fun k e s1 => ∃ i, i + k = l.length ∧ e 0 = v ∧ e 1 = .func g cap ∧ e 7 = .int .i64 l.length ∧ e 8 = .int .i64 i ∧ l.any p = (l.drop i).any p ∧ (l.take i).any p = false ∧ I s1) ?_ l.length _ _ ⟨0, by simp, ?_⟩
  · rintro k e s1 ⟨i, hik, h0, h1, h7, h8, hf, hft, hk⟩
    by_cases hi : i < l.length
    · obtain ⟨x, hx⟩ : ∃ x, l[i]? = some x := ⟨_, List.getElem?_eq_getElem hi⟩
      have hd : decide ((i : Int) < (l.length : Int)) = true := by simp; omega
      have hat := h.at tyc_len hx
      have hgx := hg i x s1 hx hft hk
      rw [tyc_w, tyw] at hat hgx
      simp only [U1.cf75_l0, h0, h1, h7, h8, hd, hat, Nat.le_add_left, go_sem, ↓reduceIte, reduceCtorEq, Nat.reduceEqDiff, Nat.reduceAdd, Nat.reduceSub, Nat.reduceMul, Nat.reduceLeDiff, Nat.reduceLT, loadA, rdCells, storeA, setAt, binA]
      refine WO_callvx g cap _ (by simp only [h0, h1, go_sem, ↓reduceIte, reduceCtorEq, Nat.reduceEqDiff, Nat.reduceAdd, Nat.reduceSub, Nat.reduceMul, Nat.reduceLeDiff, Nat.reduceLT, loadA, rdCells, storeA, setAt, binA]) rfl ((by simpa only [go_sem, ↓reduceIte, reduceCtorEq, Nat.reduceEqDiff, Nat.reduceAdd, Nat.reduceSub, Nat.reduceMul, Nat.reduceLeDiff, Nat.reduceLT, loadA, rdCells, storeA, setAt, binA] using hgx : WC T X g _ s1 _).mono ?_)
      rintro w s2 ⟨rfl, hk2⟩
      cases hp : p x <;> simp only [h0, h1, h7, h8, U1.wrapn (n := i) (by omega), go_sem, ↓reduceIte, reduceCtorEq, Nat.reduceEqDiff, Nat.reduceAdd, Nat.reduceSub, Nat.reduceMul, Nat.reduceLeDiff, Nat.reduceLT, loadA, rdCells, storeA, setAt, binA]
      · exact ⟨k - 1, by omega, i + 1, by omega, rfl, by rw [hf, drop_at hx, List.any_cons, hp, Bool.false_or], by rw [List.take_add_one, hx]; simp only [Option.toList_some, List.any_append, hft, List.any_cons, List.any_nil, hp]; rfl, hk2⟩
      · exact ⟨by simp, _, rfl, ⟨(i : Int), rfl, by rw [hf, drop_at hx, List.any_cons, hp, Bool.true_or]; simp⟩, hk2⟩
    · have hd : decide ((i : Int) < (l.length : Int)) = false := by simp; omega
      simp only [U1.cf75_l0, h0, h1, h7, h8, hd, go_sem, ↓reduceIte, reduceCtorEq, Nat.reduceEqDiff, Nat.reduceAdd, Nat.reduceSub, Nat.reduceMul, Nat.reduceLeDiff, Nat.reduceLT, loadA, rdCells, storeA, setAt, binA]
      exact ⟨by simp, _, rfl, ⟨-1, rfl, by rw [hf, List.drop_eq_nil_of_le (by omega)]; rfl⟩, hk⟩
  · simp only [go_sem, ↓reduceIte, reduceCtorEq, Nat.reduceEqDiff, Nat.reduceAdd, Nat.reduceSub, Nat.reduceMul, Nat.reduceLeDiff, Nat.reduceLT, loadA, rdCells, storeA, setAt, binA]
    exact ⟨rfl, by simp, hI⟩

theorem contains_ft (hX : NoX X) {v : AV} {l : List Tm} (h : ISl tyc v l) (hb : l.length ≤ 4398046511104) (g : Nat) (cap : List AV) (p : Tm → Bool) (I : St → Prop) (s : St) (hI : I s)
    (hg : ∀ (i : Nat) x s1, l[i]? = some x → (l.take i).any p = false → I s1 → WC T X g (.agg (tyc x) :: cap) s1 (fun v s2 => v = .bool (p x) ∧ I s2)) :
    WC T X 55 [v, .func g cap] s (fun v s' => v = .bool (l.any p) ∧ I s') := by
  refine WC_fn U1.cf55 (hX 55 (by decide)) (show T 55 = some U1.cf55 from rfl) (by simp [U1.cf55]) ?_
  simp only [U1.cf55, go_sem, ↓reduceIte, reduceCtorEq, Nat.reduceEqDiff, Nat.reduceAdd, Nat.reduceSub, Nat.reduceMul, Nat.reduceLeDiff, Nat.reduceLT, loadA, rdCells, storeA, setAt, binA]
  refine WO_callx [v, .func g cap] (by simp only [go_sem, ↓reduceIte, reduceCtorEq, Nat.reduceEqDiff, Nat.reduceAdd, Nat.reduceSub, Nat.reduceMul, Nat.reduceLeDiff, Nat.reduceLT, loadA, rdCells, storeA, setAt, binA]) ((index_ft hX h hb g cap p I s hI hg).mono ?_)
  rintro w s2 ⟨⟨m, rfl, hm⟩, hk⟩
  simp only [go_sem, ↓reduceIte, reduceCtorEq, Nat.reduceEqDiff, Nat.reduceAdd, Nat.reduceSub, Nat.reduceMul, Nat.reduceLeDiff, Nat.reduceLT, loadA, rdCells, storeA, setAt, binA]
  exact ⟨by simp, _, rfl, by rw [hm], hk⟩
end Go.Am.U2
