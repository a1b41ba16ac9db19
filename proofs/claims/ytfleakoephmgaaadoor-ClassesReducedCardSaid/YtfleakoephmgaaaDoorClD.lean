/- Instances of classes: their check. Conditions: none. -/
import Derived.Test.YtfleakoephmgaaaDoorClBa
set_option linter.unusedSimpArgs false
set_option linter.unusedVariables false
namespace Go.Am.U3
open Go.Am.Un Go.So
open Go.Am.U1 (NoX drop_at ne_a ne_b ne_c ne_d avr tyw tyc_w tycP isl_tycs len_tszs tsz_pos)
set_option maxRecDepth 100000
set_option linter.unusedSimpArgs false
attribute [local go_sem] wseq COp.isStore wreg wdreg wret wskip wexit wblock wcnd cnd_t cnd_f then_n then_x then_r catch_n rnd_n rnd_x rnd_r catch_x catch_r wo_nil wo_grd grdO_t grdO_f wo_ops stpO wr_nil wr_alloc wr_guards grdR_t grdR_f wr_ops stpR evAllocs evOp env0_app eput_some eput_none eset_app Opd.ev wantedA faddrA snew_obj snew_size sput_obj sput_size av_cells av_one av_strip av_still unA eqbA fillA fldA lensA mmA mm2 mmFold List.getD_cons_zero List.getD_cons_succ List.getD_nil List.length_cons List.length_nil List.drop_zero List.drop_succ_cons List.take_succ_cons List.take_zero List.map_cons List.map_nil List.set_cons_zero List.set_cons_succ List.all_cons List.all_nil List.getElem?_cons_zero List.getElem?_cons_succ List.nil_append List.cons_append Nat.zero_add Nat.add_zero beq_self_eq_true bt bf Bool.not_true Bool.not_false Bool.and_true Bool.true_and Bool.and_false Bool.false_and and_self and_true true_and n0 n1 n2 n3 n4 m0 m1 m2 m3 c1 retA resAs resA undefA Option.map_some Option.map_none
variable {X : Ext}

theorem index_tm (hX : NoX X) {v : AV} {l : List Tm} (h : ISl tyc v l) (hb : l.length ≤ 8796093022208) (g : Nat) (cap : List AV) (p : Tm → Bool) (s : St)
    (hg : ∀ x s1, x ∈ l → Keep s s1 → WC T X g ((.agg (tyc x)) :: cap) s1 (fun v s2 => v = .bool (p x) ∧ Keep s1 s2)) :
    WC T X 75 [v, .func g cap] s (fun v s' => (∃ m : Int, v = .int .i64 m ∧ decide (m ≥ 0) = l.any p) ∧ Keep s s') := by
  refine WC_fn U1.cf75 (hX 75 (by decide)) (show T 75 = some U1.cf75 from rfl) (by simp [U1.cf75]) ?_
  have hlen := h.len
  simp only [U1.cf75, hlen, go_sem, ↓reduceIte, reduceCtorEq, Nat.reduceEqDiff, Nat.reduceAdd, Nat.reduceSub, Nat.reduceMul, Nat.reduceLeDiff, Nat.reduceLT, loadA, rdCells, storeA, setAt, binA]
  refine W_loop_nat (fun k e s1 => ∃ i, i + k = l.length ∧ e 0 = v ∧ e 1 = .func g cap ∧ e 7 = .int .i64 l.length ∧ e 8 = .int .i64 i ∧ l.any p = (l.drop i).any p ∧ Keep s s1) ?_ l.length _ _ ⟨0, by simp, ?_⟩
  · rintro k e s1 ⟨i, hik, h0, h1, h7, h8, hf, hk⟩
    by_cases hi : i < l.length
    · obtain ⟨x, hx⟩ : ∃ x, l[i]? = some x := ⟨_, List.getElem?_eq_getElem hi⟩
      have hd : decide ((i : Int) < (l.length : Int)) = true := by simp; omega
      have hat := h.at tyc_len hx
      have hgx := hg x s1 (List.mem_of_getElem? hx) hk
      rw [tyc_w, tyw] at hat hgx
      simp only [U1.cf75_l0, h0, h1, h7, h8, hd, hat, Nat.le_add_left, go_sem, ↓reduceIte, reduceCtorEq, Nat.reduceEqDiff, Nat.reduceAdd, Nat.reduceSub, Nat.reduceMul, Nat.reduceLeDiff, Nat.reduceLT, loadA, rdCells, storeA, setAt, binA]
      refine WO_callvx g cap _ (by simp only [h0, h1, go_sem, ↓reduceIte, reduceCtorEq, Nat.reduceEqDiff, Nat.reduceAdd, Nat.reduceSub, Nat.reduceMul, Nat.reduceLeDiff, Nat.reduceLT, loadA, rdCells, storeA, setAt, binA]) rfl ((by simpa only [go_sem, ↓reduceIte, reduceCtorEq, Nat.reduceEqDiff, Nat.reduceAdd, Nat.reduceSub, Nat.reduceMul, Nat.reduceLeDiff, Nat.reduceLT, loadA, rdCells, storeA, setAt, binA] using hgx : WC T X g _ s1 _).mono ?_)
      rintro w s2 ⟨rfl, hk2⟩
      cases hp : p x <;> simp only [h0, h1, h7, h8, wrapc (n := i) (by omega), go_sem, ↓reduceIte, reduceCtorEq, Nat.reduceEqDiff, Nat.reduceAdd, Nat.reduceSub, Nat.reduceMul, Nat.reduceLeDiff, Nat.reduceLT, loadA, rdCells, storeA, setAt, binA]
      · exact ⟨k - 1, by omega, i + 1, by omega, rfl, by rw [hf, drop_at hx, List.any_cons, hp, Bool.false_or], hk.trans hk2⟩
      · exact ⟨by simp, _, rfl, ⟨(i : Int), rfl, by rw [hf, drop_at hx, List.any_cons, hp, Bool.true_or]; simp⟩, hk.trans hk2⟩
    · have hd : decide ((i : Int) < (l.length : Int)) = false := by simp; omega
      simp only [U1.cf75_l0, h0, h1, h7, h8, hd, go_sem, ↓reduceIte, reduceCtorEq, Nat.reduceEqDiff, Nat.reduceAdd, Nat.reduceSub, Nat.reduceMul, Nat.reduceLeDiff, Nat.reduceLT, loadA, rdCells, storeA, setAt, binA]
      exact ⟨by simp, _, rfl, ⟨-1, rfl, by rw [hf, List.drop_eq_nil_of_le (by omega)]; rfl⟩, hk⟩
  · simp only [go_sem, ↓reduceIte, reduceCtorEq, Nat.reduceEqDiff, Nat.reduceAdd, Nat.reduceSub, Nat.reduceMul, Nat.reduceLeDiff, Nat.reduceLT, loadA, rdCells, storeA, setAt, binA]
    exact ⟨rfl, Keep.refl s⟩
theorem has_tm (hX : NoX X) {v : AV} {l : List Tm} (h : ISl tyc v l) (hb : l.length ≤ 8796093022208) (g : Nat) (cap : List AV) (p : Tm → Bool) (s : St)
    (hg : ∀ x s1, x ∈ l → Keep s s1 → WC T X g ((.agg (tyc x)) :: cap) s1 (fun v s2 => v = .bool (p x) ∧ Keep s1 s2)) :
    WC T X 55 [v, .func g cap] s (fun v s' => v = .bool (l.any p) ∧ Keep s s') := by
  refine WC_fn U1.cf55 (hX 55 (by decide)) (show T 55 = some U1.cf55 from rfl) (by simp [U1.cf55]) ?_
  simp only [U1.cf55, go_sem, ↓reduceIte, reduceCtorEq, Nat.reduceEqDiff, Nat.reduceAdd, Nat.reduceSub, Nat.reduceMul, Nat.reduceLeDiff, Nat.reduceLT, loadA, rdCells, storeA, setAt, binA]
  refine WO_callx [v, .func g cap] (by simp only [go_sem, ↓reduceIte, reduceCtorEq, Nat.reduceEqDiff, Nat.reduceAdd, Nat.reduceSub, Nat.reduceMul, Nat.reduceLeDiff, Nat.reduceLT, loadA, rdCells, storeA, setAt, binA]) ((index_tm hX h hb g cap p s hg).mono ?_)
  rintro w s2 ⟨⟨m, rfl, hm⟩, hk⟩
  simp only [go_sem, ↓reduceIte, reduceCtorEq, Nat.reduceEqDiff, Nat.reduceAdd, Nat.reduceSub, Nat.reduceMul, Nat.reduceLeDiff, Nat.reduceLT, loadA, rdCells, storeA, setAt, binA]
  exact ⟨by simp, _, rfl, by rw [hm], hk⟩

theorem clo94_law (hX : NoX X) (x a : Tm) (p : Nat) (s : St) (ho : s.obj p = some (.cells [.int .i64 (kof a), .str (nof a), .int .i64 (vof a), .sl (tycs (lof a)) (lof a).length false none])) (hp : p < s.size) : WC T X 94 [.agg (tyc x), .ptr p 0] s (fun v s' => v = .bool (vof x == vof a) ∧ Keep s s') := by
  refine WC_fn cf94 (hX 94 (by decide)) T94 (by simp [cf94]) ?_
  rw [tyc_w x, tyw]
  simp only [cf94, ho, ne_a hp, ne_b hp, Nat.le_add_left, go_sem, ↓reduceIte, reduceCtorEq, Nat.reduceEqDiff, Nat.reduceAdd, Nat.reduceSub, Nat.reduceMul, Nat.reduceLeDiff, Nat.reduceLT, loadA, rdCells, storeA, setAt, binA]
  exact ⟨by simp, _, rfl, rfl, (Keep.refl s).new' _⟩

set_option maxHeartbeats 4000000 in
theorem headed_law (hX : NoX X) (t : Tm) (hb : tsz t ≤ 4096) (s : St) : WC T X 79 [.agg (tyc t)] s (fun v s' => v = .bool (headed t) ∧ Keep s s') := by
  refine WC_fn cf79 (hX 79 (by decide)) T79 (by simp [cf79]) ?_
  obtain ⟨k, m, v, l⟩ := t
  rw [tsz] at hb
  have hll := len_tszs l
  have hl := isl_tycs l
  have hlen := hl.len
  rw [tyc_w, tyw]
  simp only [U1.kof_mk, U1.nof_mk, U1.vof_mk, U1.lof_mk]
  cases hk : (k != 1)
  · simp only [cf79, hk, hlen, Nat.le_add_left, go_sem, ↓reduceIte, reduceCtorEq, Nat.reduceEqDiff, Nat.reduceAdd, Nat.reduceSub, Nat.reduceMul, Nat.reduceLeDiff, Nat.reduceLT, loadA, rdCells, storeA, setAt, binA]
    refine W_loop_nat (fun kk e S => ∃ i, i + kk = l.length ∧ e 1 = .ptr s.size 0 ∧ e 9 = .sl (tycs l) l.length false none ∧ e 10 = .int .i64 l.length ∧ e 11 = .int .i64 i ∧ hdv [] l = hdv (l.take i) (l.drop i) ∧ S.obj s.size = some (.cells [.int .i64 k, .str m, .int .i64 v, .sl (tycs l) l.length false none]) ∧ s.size < S.size ∧ Keep s S) ?_ l.length _ _
      ⟨0, by simp, ?_, ?_, ?_, ?_, by simp, new_eq rfl, by simp [St.new], (Keep.refl s).new' _⟩
    · rintro kk e S ⟨i, hik, e1, e9, e10, e11, hf, ho, hz, hkp⟩
      by_cases hi : i < l.length
      · obtain ⟨a, ha⟩ : ∃ a, l[i]? = some a := ⟨_, List.getElem?_eq_getElem hi⟩
        have hd : decide ((i : Int) < (l.length : Int)) = true := by simp; omega
        have hat := hl.at tyc_len ha
        rw [tyc_w, tyw] at hat
        obtain ⟨w, hsl, hw⟩ := hl.take tyc_len (Nat.le_of_lt hi)
        have hlt : (l.take i).length ≤ 8796093022208 := by rw [List.length_take]; omega
        have hfd : hdv (l.take i) (l.drop i) = bif (kof a != 0) then false else bif (l.take i).any (fun b => vof b == vof a) then false else hdv (l.take (i + 1)) (l.drop (i + 1)) := by
          rw [drop_at ha, hdv, List.take_add_one, ha]; rfl
        obtain ⟨S', hS'⟩ : ∃ S', S' = (S.new (.cells [.int .i64 0, .str ⟨#[]⟩, .int .i64 0, .nils])).put S.size (some (.cells [.int .i64 (kof a), .str (nof a), .int .i64 (vof a), .sl (tycs (lof a)) (lof a).length false none])) := ⟨_, rfl⟩
        have hkS : Keep S S' := by rw [hS']; exact ((Keep.refl S).new' _).put' (Nat.le_refl _) _
        have oS : S'.obj S.size = some (.cells [.int .i64 (kof a), .str (nof a), .int .i64 (vof a), .sl (tycs (lof a)) (lof a).length false none]) := by rw [hS', put_eq]
        have zS : S.size < S'.size := by rw [hS']; simp [St.new, St.put]
        have oS1 := hkS.obj hz ho
        cases hka : (kof a != 0)
        · simp only [cf79_l0, e1, e9, e10, e11, hd, hat, hka, hsl, ho, ne_a hz, ne_b hz, Nat.le_add_left, go_sem, ↓reduceIte, reduceCtorEq, Nat.reduceEqDiff, Nat.reduceAdd, Nat.reduceSub, Nat.reduceMul, Nat.reduceLeDiff, Nat.reduceLT, loadA, rdCells, storeA, setAt, binA]
          rw [← hS']
          refine WO_callx _ rfl ((has_tm hX hw hlt 94 [.ptr S.size 0] (fun b => vof b == vof a) S' (fun x s1 _ hk1 => clo94_law hX x a S.size s1 (hk1.obj zS oS) (hk1.lt zS))).mono ?_)
          rintro r S2 ⟨rfl, hk2⟩
          cases hp : (l.take i).any (fun b => vof b == vof a)
          · simp only [hp, e1, e9, e10, e11, wrapc (n := i) (by omega), go_sem, ↓reduceIte, reduceCtorEq, Nat.reduceEqDiff, Nat.reduceAdd, Nat.reduceSub, Nat.reduceMul, Nat.reduceLeDiff, Nat.reduceLT, loadA, rdCells, storeA, setAt, binA]
            exact ⟨kk - 1, by omega, i + 1, by omega, rfl, by rw [hf, hfd, hka, hp]; rfl, hk2.obj (hkS.lt hz) oS1, hk2.lt (hkS.lt hz), (hkp.trans hkS).trans hk2⟩
          · simp only [hp, go_sem, ↓reduceIte, reduceCtorEq, Nat.reduceEqDiff, Nat.reduceAdd, Nat.reduceSub, Nat.reduceMul, Nat.reduceLeDiff, Nat.reduceLT, loadA, rdCells, storeA, setAt, binA]
            exact ⟨by simp, _, rfl, by rw [headed]; simp only [U1.kof_mk, U1.lof_mk]; rw [hk, hf, hfd, hka, hp]; rfl, (hkp.trans hkS).trans hk2⟩
        · simp only [cf79_l0, e1, e9, e10, e11, hd, hat, hka, Nat.le_add_left, go_sem, ↓reduceIte, reduceCtorEq, Nat.reduceEqDiff, Nat.reduceAdd, Nat.reduceSub, Nat.reduceMul, Nat.reduceLeDiff, Nat.reduceLT, loadA, rdCells, storeA, setAt, binA]
          exact ⟨by simp, _, rfl, by rw [headed]; simp only [U1.kof_mk, U1.lof_mk]; rw [hk, hf, hfd, hka]; rfl, by rw [← hS']; exact hkp.trans hkS⟩
      · have hd : decide ((i : Int) < (l.length : Int)) = false := by simp; omega
        simp only [cf79_l0, e1, e9, e10, e11, hd, Nat.le_add_left, go_sem, ↓reduceIte, reduceCtorEq, Nat.reduceEqDiff, Nat.reduceAdd, Nat.reduceSub, Nat.reduceMul, Nat.reduceLeDiff, Nat.reduceLT, loadA, rdCells, storeA, setAt, binA]
        exact ⟨by simp, _, rfl, by rw [headed]; simp only [U1.kof_mk, U1.lof_mk]; rw [hk, hf, List.drop_eq_nil_of_le (by omega), hdv]; rfl, hkp⟩
    · simp only [go_sem, ↓reduceIte, reduceCtorEq, Nat.reduceEqDiff, Nat.reduceAdd, Nat.reduceSub, Nat.reduceMul, Nat.reduceLeDiff, Nat.reduceLT, loadA, rdCells, storeA, setAt, binA]
    · simp only [go_sem, ↓reduceIte, reduceCtorEq, Nat.reduceEqDiff, Nat.reduceAdd, Nat.reduceSub, Nat.reduceMul, Nat.reduceLeDiff, Nat.reduceLT, loadA, rdCells, storeA, setAt, binA]
    · simp only [go_sem, ↓reduceIte, reduceCtorEq, Nat.reduceEqDiff, Nat.reduceAdd, Nat.reduceSub, Nat.reduceMul, Nat.reduceLeDiff, Nat.reduceLT, loadA, rdCells, storeA, setAt, binA]
    · simp only [go_sem, ↓reduceIte, reduceCtorEq, Nat.reduceEqDiff, Nat.reduceAdd, Nat.reduceSub, Nat.reduceMul, Nat.reduceLeDiff, Nat.reduceLT, loadA, rdCells, storeA, setAt, binA]; rfl
  · simp only [cf79, hk, Nat.le_add_left, go_sem, ↓reduceIte, reduceCtorEq, Nat.reduceEqDiff, Nat.reduceAdd, Nat.reduceSub, Nat.reduceMul, Nat.reduceLeDiff, Nat.reduceLT, loadA, rdCells, storeA, setAt, binA]
    exact ⟨by simp, _, rfl, by rw [headed]; simp only [U1.kof_mk]; rw [hk]; rfl, (Keep.refl s).new' _⟩
end Go.Am.U3
