/- Index and Contains at longer lists of strings. Conditions: none. -/
import Derived.Test.YtfleakoephmgaaaDoorUuB
set_option linter.unusedSimpArgs false
set_option linter.unusedVariables false
namespace Go.Am.U2
open Go.Am.Un
open Go.Am.U1 (drop_at tyw tyc_w NoX vtm vtm_c isl_tycs ne_a ne_b ne_c ne_d ne_e ne_f)
set_option maxRecDepth 100000
set_option linter.unusedSimpArgs false
attribute [local go_sem] wseq COp.isStore wreg wdreg wret wskip wexit wblock wcnd cnd_t cnd_f then_n then_x then_r catch_n rnd_n rnd_x rnd_r catch_x catch_r wo_nil wo_grd grdO_t grdO_f wo_ops stpO wr_nil wr_alloc wr_guards grdR_t grdR_f wr_ops stpR evAllocs evOp env0_app eput_some eput_none eset_app Opd.ev wantedA faddrA snew_obj snew_size sput_obj sput_size av_cells av_one av_strip av_still unA eqbA fillA fldA lensA mmA mm2 mmFold List.getD_cons_zero List.getD_cons_succ List.getD_nil List.length_cons List.length_nil List.drop_zero List.drop_succ_cons List.take_succ_cons List.take_zero List.map_cons List.map_nil List.set_cons_zero List.set_cons_succ List.all_cons List.all_nil List.getElem?_cons_zero List.getElem?_cons_succ List.nil_append List.cons_append Nat.zero_add Nat.add_zero beq_self_eq_true bt bf Bool.not_true Bool.not_false Bool.and_true Bool.true_and Bool.and_false Bool.false_and and_self and_true true_and n0 n1 n2 n3 n4 m0 m1 m2 m3 c1 retA resAs resA undefA Option.map_some Option.map_none
section
variable {X : Ext}
theorem index_s2 (hX : NoX X) {v : AV} {l : List ByteArray} (h : ISl sc v l) (hb : l.length ≤ 8796093022208) (x : ByteArray) (s : St) :
    WC T X 58 [v, .str x] s (fun v s' => (∃ m : Int, v = .int .i64 m ∧ decide (m ≥ 0) = l.any (fun y => x.toList == y.toList)) ∧ Keep s s') := by
  refine WC_fn cf58 (hX 58 (by decide)) T58 (by simp [cf58]) ?_
  have hlen := h.len
  simp only [cf58, hlen, go_sem, ↓reduceIte, reduceCtorEq, Nat.reduceEqDiff, Nat.reduceAdd, Nat.reduceSub, Nat.reduceMul, Nat.reduceLeDiff, Nat.reduceLT, loadA, rdCells, storeA, setAt, binA]
  refine W_loop_nat (fun k e s1 => ∃ i, i + k = l.length ∧ e 0 = v ∧ e 1 = .str x ∧ e 7 = .int .i64 l.length ∧ e 8 = .int .i64 i ∧ l.any (fun y => x.toList == y.toList) = (l.drop i).any (fun y => x.toList == y.toList) ∧ Keep s s1) ?_ l.length _ _ ⟨0, by simp, ?_⟩
  · rintro k e s1 ⟨i, hik, h0, h1, h7, h8, hf, hk⟩
    by_cases hi : i < l.length
    · obtain ⟨y, hy⟩ : ∃ y, l[i]? = some y := ⟨_, List.getElem?_eq_getElem hi⟩
      have hd : decide ((i : Int) < (l.length : Int)) = true := by simp; omega
      have ha := h.at sc_len hy
      cases hp : (x.toList == y.toList)
      · simp only [cf58_l0, h0, h1, h7, h8, hd, ha, sc, hp, U3.wrapc (n := i) (by omega), Nat.le_add_left, go_sem, ↓reduceIte, reduceCtorEq, Nat.reduceEqDiff, Nat.reduceAdd, Nat.reduceSub, Nat.reduceMul, Nat.reduceLeDiff, Nat.reduceLT, loadA, rdCells, storeA, setAt, binA]
        exact ⟨k - 1, by omega, i + 1, by omega, by first | rfl | rw [U3.wrapc (by omega)], by rw [hf, drop_at hy, List.any_cons, hp, Bool.false_or], hk⟩
      · simp only [cf58_l0, h0, h1, h7, h8, hd, ha, sc, hp, Nat.le_add_left, go_sem, ↓reduceIte, reduceCtorEq, Nat.reduceEqDiff, Nat.reduceAdd, Nat.reduceSub, Nat.reduceMul, Nat.reduceLeDiff, Nat.reduceLT, loadA, rdCells, storeA, setAt, binA]
        exact ⟨by simp, _, rfl, ⟨(i : Int), rfl, by rw [hf, drop_at hy, List.any_cons, hp, Bool.true_or]; simp⟩, hk⟩
    · have hd : decide ((i : Int) < (l.length : Int)) = false := by simp; omega
      simp only [cf58_l0, h0, h1, h7, h8, hd, go_sem, ↓reduceIte, reduceCtorEq, Nat.reduceEqDiff, Nat.reduceAdd, Nat.reduceSub, Nat.reduceMul, Nat.reduceLeDiff, Nat.reduceLT, loadA, rdCells, storeA, setAt, binA]
      exact ⟨by simp, _, rfl, ⟨-1, rfl, by rw [hf, List.drop_eq_nil_of_le (by omega)]; rfl⟩, hk⟩
  · simp only [go_sem, ↓reduceIte, reduceCtorEq, Nat.reduceEqDiff, Nat.reduceAdd, Nat.reduceSub, Nat.reduceMul, Nat.reduceLeDiff, Nat.reduceLT, loadA, rdCells, storeA, setAt, binA]
    exact ⟨rfl, Keep.refl s⟩

theorem contains_s2 (hX : NoX X) {v : AV} {l : List ByteArray} (h : ISl sc v l) (hb : l.length ≤ 8796093022208) (x : ByteArray) (s : St) :
    WC T X 29 [v, .str x] s (fun v s' => v = .bool (l.any (fun y => x.toList == y.toList)) ∧ Keep s s') := by
  refine WC_fn cf29 (hX 29 (by decide)) T29 (by simp [cf29]) ?_
  simp only [cf29, go_sem, ↓reduceIte, reduceCtorEq, Nat.reduceEqDiff, Nat.reduceAdd, Nat.reduceSub, Nat.reduceMul, Nat.reduceLeDiff, Nat.reduceLT, loadA, rdCells, storeA, setAt, binA]
  refine WO_callx [v, .str x] (by simp only [go_sem, ↓reduceIte, reduceCtorEq, Nat.reduceEqDiff, Nat.reduceAdd, Nat.reduceSub, Nat.reduceMul, Nat.reduceLeDiff, Nat.reduceLT, loadA, rdCells, storeA, setAt, binA]) ((index_s2 hX h hb x s).mono ?_)
  rintro w s2 ⟨⟨m, rfl, hm⟩, hk⟩
  simp only [go_sem, ↓reduceIte, reduceCtorEq, Nat.reduceEqDiff, Nat.reduceAdd, Nat.reduceSub, Nat.reduceMul, Nat.reduceLeDiff, Nat.reduceLT, loadA, rdCells, storeA, setAt, binA]
  exact ⟨by simp, _, rfl, by rw [hm], hk⟩

end
end Go.Am.U2

/- Check of classes. Conditions: none. -/
namespace Go.Am.U3
open Go.Am.Un Go.So
open Go.Am.U1 (NoX drop_at ne_a ne_b ne_c ne_d avr tyw tyc_w tycP isl_tycs)
set_option maxRecDepth 100000
set_option linter.unusedSimpArgs false
attribute [local go_sem] wseq COp.isStore wreg wdreg wret wskip wexit wblock wcnd cnd_t cnd_f then_n then_x then_r catch_n rnd_n rnd_x rnd_r catch_x catch_r wo_nil wo_grd grdO_t grdO_f wo_ops stpO wr_nil wr_alloc wr_guards grdR_t grdR_f wr_ops stpR evAllocs evOp env0_app eput_some eput_none eset_app Opd.ev wantedA faddrA snew_obj snew_size sput_obj sput_size av_cells av_one av_strip av_still unA eqbA fillA fldA lensA mmA mm2 mmFold List.getD_cons_zero List.getD_cons_succ List.getD_nil List.length_cons List.length_nil List.drop_zero List.drop_succ_cons List.take_succ_cons List.take_zero List.map_cons List.map_nil List.set_cons_zero List.set_cons_succ List.all_cons List.all_nil List.getElem?_cons_zero List.getElem?_cons_succ List.nil_append List.cons_append Nat.zero_add Nat.add_zero beq_self_eq_true bt bf Bool.not_true Bool.not_false Bool.and_true Bool.true_and Bool.and_false Bool.false_and and_self and_true true_and n0 n1 n2 n3 n4 m0 m1 m2 m3 c1 retA resAs resA undefA Option.map_some Option.map_none
variable {X : Ext}

theorem has_law (hX : NoX X) {v : AV} {l : List ByteArray} (h : ISl scc v l) (hb : l.length ≤ 8796093022208) (x : ByteArray) (s : St) : WC T X 29 [v, .str x] s (fun r s' => r = .bool (hasS l x) ∧ Keep s s') :=
  (U2.contains_s2 hX h hb x s).sub sub

theorem clo91_law (hX : NoX X) (x c : Cl) (p : Nat) (s : St) (ho : s.obj p = some (.cells (clc c))) (hp : p < s.size) : WC T X 91 [.agg (clc x), .ptr p 0] s (fun v s' => v = .bool (sq x.name c.name) ∧ Keep s s') := by
  refine WC_fn cf91 (hX 91 (by decide)) T91 (by simp [cf91]) ?_
  simp only [clc] at ho ⊢
  simp only [cf91, ho, ne_a hp, ne_b hp, Nat.le_add_left, go_sem, ↓reduceIte, reduceCtorEq, Nat.reduceEqDiff, Nat.reduceAdd, Nat.reduceSub, Nat.reduceMul, Nat.reduceLeDiff, Nat.reduceLT, loadA, rdCells, storeA, setAt, binA]
  exact ⟨by simp, _, rfl, rfl, (Keep.refl s).new' _⟩
theorem clo93_law (hX : NoX X) (x : ByteArray) {dv : AV} {done : List ByteArray} (hd : ISl scc dv done) (hb : done.length ≤ 8796093022208) (p : Nat) (s : St) (ho : s.obj p = some (.cells [dv])) : WC T X 93 [.str x, .ptr p 0] s (fun v s' => v = .bool (!(hasS done x)) ∧ Keep s s') := by
  refine WC_fn cf93 (hX 93 (by decide)) T93 (by simp [cf93]) ?_
  simp only [cf93, ho, Nat.le_add_left, go_sem, ↓reduceIte, reduceCtorEq, Nat.reduceEqDiff, Nat.reduceAdd, Nat.reduceSub, Nat.reduceMul, Nat.reduceLeDiff, Nat.reduceLT, loadA, rdCells, storeA, setAt, binA]
  refine WO_callx _ rfl ((has_law hX hd hb x s).mono ?_)
  rintro w s2 ⟨rfl, hk⟩
  simp only [go_sem, ↓reduceIte, reduceCtorEq, Nat.reduceEqDiff, Nat.reduceAdd, Nat.reduceSub, Nat.reduceMul, Nat.reduceLeDiff, Nat.reduceLT, loadA, rdCells, storeA, setAt, binA]
  exact ⟨by simp, _, rfl, rfl, hk⟩

set_option maxHeartbeats 16000000 in
theorem chkC_law (hX : NoX X) {lv : AV} {l : List Cl} (hl : ISl clc lv l) (hs : ∀ c, c ∈ l → c.sup.length ≤ 8796093022208) (s : St) (hbl : l.length ≤ 8796093022208) : WC T X 78 [lv] s (fun v s' => v = .int .i64 (chkC l) ∧ Keep s s') := by
  refine WC_fn cf78 (hX 78 (by decide)) T78 (by simp [cf78]) ?_
  have hlen := hl.len
  cases hg : decide ((l.length : Int) > 4096)
  · have hl4 : l.length ≤ 4096 := by have : ¬ ((l.length : Int) > 4096) := of_decide_eq_false hg; omega
    simp only [cf78, hlen, hg, go_sem, ↓reduceIte, reduceCtorEq, Nat.reduceEqDiff, Nat.reduceAdd, Nat.reduceSub, Nat.reduceMul, Nat.reduceLeDiff, Nat.reduceLT, loadA, rdCells, storeA, setAt, binA]
    refine W_loop_nat (fun k e S => ∃ i, i + k = l.length ∧ e 0 = lv ∧ e 17 = lv ∧ e 18 = .int .i64 l.length ∧ e 19 = .int .i64 i ∧ dup1 [] l = dup1 (l.take i) (l.drop i) ∧ Keep s S) ?_ l.length _ _ ⟨0, by simp, ?_, ?_, ?_, ?_, by simp, Keep.refl s⟩
    · rintro k e S ⟨i, hik, e0, e17, e18, e19, hf, hk⟩
      by_cases hi : i < l.length
      · obtain ⟨c, hc⟩ : ∃ c, l[i]? = some c := ⟨_, List.getElem?_eq_getElem hi⟩
        have hd : decide ((i : Int) < (l.length : Int)) = true := by simp; omega
        have hat := hl.at clcP.len hc
        obtain ⟨w, hsl, hw⟩ := hl.take clcP.len (Nat.le_of_lt hi)
        have hlt : (l.take i).length ≤ 8796093022208 := by rw [List.length_take]; omega
        have hfd : dup1 (l.take i) (l.drop i) = ((l.take i).any (fun x => sq x.name c.name) || dup1 (l.take (i + 1)) (l.drop (i + 1))) := by
          rw [drop_at hc, dup1, List.take_add_one, hc]; rfl
        simp only [clc, List.cons_append, List.nil_append] at hat
        simp only [cf78_l4, e0, e17, e18, e19, hd, hat, hsl, Nat.le_add_left, go_sem, ↓reduceIte, reduceCtorEq, Nat.reduceEqDiff, Nat.reduceAdd, Nat.reduceSub, Nat.reduceMul, Nat.reduceLeDiff, Nat.reduceLT, loadA, rdCells, storeA, setAt, binA]
        obtain ⟨S', hS'⟩ : ∃ S', S' = (S.new (.cells [.str ⟨#[]⟩, .nils, .nils])).put S.size (some (.cells [.str c.name, .sl (c.sup.flatMap scc) c.sup.length false none, .sl c.ops c.opn false none])) := ⟨_, rfl⟩
        have hkS : Keep S S' := by rw [hS']; exact ((Keep.refl S).new' _).put' (Nat.le_refl _) _
        have oS : S'.obj S.size = some (.cells (clc c)) := by rw [hS', put_eq]; rfl
        have zS : S.size < S'.size := by rw [hS']; simp [St.new, St.put]
        rw [← hS']
        refine WO_callx _ rfl ((has_cl hX hw hlt 91 [.ptr S.size 0] (fun x => sq x.name c.name) S' (fun x s1 _ hk1 => clo91_law hX x c S.size s1 (hk1.obj zS oS) (hk1.lt zS))).mono ?_)
        rintro r S2 ⟨rfl, hk2⟩
        cases hp : (l.take i).any (fun x => sq x.name c.name)
        · simp only [hp, e0, e17, e18, e19, wrapc (n := i) (by omega), go_sem, ↓reduceIte, reduceCtorEq, Nat.reduceEqDiff, Nat.reduceAdd, Nat.reduceSub, Nat.reduceMul, Nat.reduceLeDiff, Nat.reduceLT, loadA, rdCells, storeA, setAt, binA]
          exact ⟨k - 1, by omega, i + 1, by omega, rfl, by rw [hf, hfd, hp, Bool.false_or], (hk.trans hkS).trans hk2⟩
        · simp only [hp, go_sem, ↓reduceIte, reduceCtorEq, Nat.reduceEqDiff, Nat.reduceAdd, Nat.reduceSub, Nat.reduceMul, Nat.reduceLeDiff, Nat.reduceLT, loadA, rdCells, storeA, setAt, binA]
          refine ⟨by simp, _, rfl, ?_, (hk.trans hkS).trans hk2⟩
          rw [chkC, hg, hf, hfd, hp]; rfl
      · have hd : decide ((i : Int) < (l.length : Int)) = false := by simp; omega
        have hd1 : dup1 [] l = false := by rw [hf, List.drop_eq_nil_of_le (by omega), dup1]
        simp only [cf78_l4, e0, e17, e18, e19, hd, hlen, go_sem, ↓reduceIte, reduceCtorEq, Nat.reduceEqDiff, Nat.reduceAdd, Nat.reduceSub, Nat.reduceMul, Nat.reduceLeDiff, Nat.reduceLT, loadA, rdCells, storeA, setAt, binA]
        refine W_loop_nat (fun k e S => ∃ i, i + k = l.length ∧ e 0 = lv ∧ e 30 = lv ∧ e 31 = .int .i64 l.length ∧ e 32 = .int .i64 i ∧ sups l l = sups l (l.drop i) ∧ Keep s S) ?_ l.length _ _ ⟨0, by simp, ?_, ?_, ?_, ?_, by simp, hk⟩
        · clear hf hk e0 e17 e18 e19 hi hik hd
          rintro k e S ⟨i, hik, e0, e30, e31, e32, hf, hk⟩
          by_cases hi : i < l.length
          · obtain ⟨c, hc⟩ : ∃ c, l[i]? = some c := ⟨_, List.getElem?_eq_getElem hi⟩
            have hd : decide ((i : Int) < (l.length : Int)) = true := by simp; omega
            have hat := hl.at clcP.len hc
            have hcs := hs c (List.mem_of_getElem? hc)
            have hsup : ISl scc (.sl (c.sup.flatMap scc) c.sup.length false none) c.sup := Or.inr ⟨_, _, rfl⟩
            have hsl := hsup.len
            have hfd : sups l (l.drop i) = bif (sup1 l [] c.sup != 0) then sup1 l [] c.sup else sups l (l.drop (i + 1)) := by rw [drop_at hc, sups]
            simp only [clc, List.cons_append, List.nil_append] at hat
            simp only [cf78_l3, e0, e30, e31, e32, hd, hat, hsl, Nat.le_add_left, go_sem, ↓reduceIte, reduceCtorEq, Nat.reduceEqDiff, Nat.reduceAdd, Nat.reduceSub, Nat.reduceMul, Nat.reduceLeDiff, Nat.reduceLT, loadA, rdCells, storeA, setAt, binA]
            obtain ⟨S', hS'⟩ : ∃ S', S' = (S.new (.cells [.str ⟨#[]⟩, .nils, .nils])).put S.size (some (.cells [.str c.name, .sl (c.sup.flatMap scc) c.sup.length false none, .sl c.ops c.opn false none])) := ⟨_, rfl⟩
            have hkS : Keep S S' := by rw [hS']; exact ((Keep.refl S).new' _).put' (Nat.le_refl _) _
            have oS : S'.obj S.size = some (.cells [.str c.name, .sl (c.sup.flatMap scc) c.sup.length false none, .sl c.ops c.opn false none]) := by rw [hS', put_eq]
            have zS : S.size < S'.size := by rw [hS']; simp [St.new, St.put]
            rw [← hS']
            refine W_loop_nat (fun kk e' S2 => ∃ j, j + kk = c.sup.length ∧ e' 0 = lv ∧ e' 30 = lv ∧ e' 31 = .int .i64 l.length ∧ e' 32 = .int .i64 i ∧ e' 6 = .ptr S.size 0 ∧ e' 37 = .sl (c.sup.flatMap scc) c.sup.length false none ∧ e' 38 = .int .i64 c.sup.length ∧ e' 39 = .int .i64 j ∧ sup1 l [] c.sup = sup1 l (c.sup.take j) (c.sup.drop j) ∧ Keep S' S2) ?_ c.sup.length _ _ ⟨0, by simp, ?_, ?_, ?_, ?_, ?_, ?_, ?_, ?_, by simp, Keep.refl S'⟩
            · clear e0 e30 e31 e32
              rintro kk e S2 ⟨j, hjk, e0, e30, e31, e32, e6, e37, e38, e39, hf2, hk2⟩
              by_cases hj : j < c.sup.length
              · obtain ⟨x, hx⟩ : ∃ x, c.sup[j]? = some x := ⟨_, List.getElem?_eq_getElem hj⟩
                have hdj : decide ((j : Int) < (c.sup.length : Int)) = true := by simp; omega
                have hatx := hsup.at sccP.len hx
                obtain ⟨w, hsw, hw⟩ := hsup.take sccP.len (Nat.le_of_lt hj)
                have hlt : (c.sup.take j).length ≤ 8796093022208 := by rw [List.length_take]; omega
                have hfx : sup1 l (c.sup.take j) (c.sup.drop j) = bif !(isC l x) then 6 else bif hasS (c.sup.take j) x then 7 else sup1 l (c.sup.take (j + 1)) (c.sup.drop (j + 1)) := by
                  rw [drop_at hx, sup1, List.take_add_one, hx]; rfl
                simp only [scc, List.cons_append, List.nil_append] at hatx
                simp only [cf78_l2, e0, e30, e31, e32, e6, e37, e38, e39, hdj, hatx, Nat.le_add_left, go_sem, ↓reduceIte, reduceCtorEq, Nat.reduceEqDiff, Nat.reduceAdd, Nat.reduceSub, Nat.reduceMul, Nat.reduceLeDiff, Nat.reduceLT, loadA, rdCells, storeA, setAt, binA]
                refine WO_callx _ rfl ((find_law hX hl hbl x S2).mono ?_)
                rintro r S3 ⟨rfl, hk3⟩
                have oS3 := hk3.obj (hk2.lt zS) (hk2.obj zS oS)
                have zS3 := hk3.lt (hk2.lt zS)
                have hk03 := (hk2.trans hk3)
                simp only [clc, e0, e30, e31, e32, e6, e37, e38, e39, Nat.le_add_left, go_sem, ↓reduceIte, reduceCtorEq, Nat.reduceEqDiff, Nat.reduceAdd, Nat.reduceSub, Nat.reduceMul, Nat.reduceLeDiff, Nat.reduceLT, loadA, rdCells, storeA, setAt, binA]
                cases hq : isC l x
                · simp only [hq, e0, e30, e31, e32, e6, e37, e38, e39, Nat.le_add_left, go_sem, ↓reduceIte, reduceCtorEq, Nat.reduceEqDiff, Nat.reduceAdd, Nat.reduceSub, Nat.reduceMul, Nat.reduceLeDiff, Nat.reduceLT, loadA, rdCells, storeA, setAt, binA]
                  refine ⟨by simp, _, rfl, ?_, (hk.trans (hkS.trans hk03)).trans (((Keep.refl S3).new' _).put' (Nat.le_refl _) _)⟩
                  rw [chkC, hg, hd1, hf, hfd, hf2, hfx, hq]; rfl
                · simp only [hq, oS3, hsw, ne_a zS3, ne_b zS3, e0, e30, e31, e32, e6, e37, e38, e39, Nat.le_add_left, go_sem, ↓reduceIte, reduceCtorEq, Nat.reduceEqDiff, Nat.reduceAdd, Nat.reduceSub, Nat.reduceMul, Nat.reduceLeDiff, Nat.reduceLT, loadA, rdCells, storeA, setAt, binA]
                  refine WO_callx _ rfl ((has_law hX hw hlt x _).mono ?_)
                  rintro r S4 ⟨rfl, hk4⟩
                  have hk34 : Keep S3 S4 := (((Keep.refl S3).new' _).put' (Nat.le_refl _) _).trans hk4
                  cases hh : hasS (c.sup.take j) x
                  · simp only [hh, e0, e30, e31, e32, e6, e37, e38, e39, wrapc (n := j) (by omega), go_sem, ↓reduceIte, reduceCtorEq, Nat.reduceEqDiff, Nat.reduceAdd, Nat.reduceSub, Nat.reduceMul, Nat.reduceLeDiff, Nat.reduceLT, loadA, rdCells, storeA, setAt, binA]
                    exact ⟨kk - 1, by omega, j + 1, by omega, rfl, by rw [hf2, hfx, hq, hh]; rfl, hk03.trans hk34⟩
                  · simp only [hh, go_sem, ↓reduceIte, reduceCtorEq, Nat.reduceEqDiff, Nat.reduceAdd, Nat.reduceSub, Nat.reduceMul, Nat.reduceLeDiff, Nat.reduceLT, loadA, rdCells, storeA, setAt, binA]
                    refine ⟨by simp, _, rfl, ?_, (hk.trans (hkS.trans hk03)).trans hk34⟩
                    rw [chkC, hg, hd1, hf, hfd, hf2, hfx, hq, hh]; rfl
              · have hdj : decide ((j : Int) < (c.sup.length : Int)) = false := by simp; omega
                have hz : sup1 l [] c.sup = 0 := by rw [hf2, List.drop_eq_nil_of_le (by omega), sup1]
                simp only [cf78_l2, e0, e30, e31, e32, e6, e37, e38, e39, hdj, wrapc (n := i) (by omega), go_sem, ↓reduceIte, reduceCtorEq, Nat.reduceEqDiff, Nat.reduceAdd, Nat.reduceSub, Nat.reduceMul, Nat.reduceLeDiff, Nat.reduceLT, loadA, rdCells, storeA, setAt, binA]
                exact ⟨k - 1, by omega, i + 1, by omega, rfl, by rw [hf, hfd, hz]; rfl, hk.trans (hkS.trans hk2)⟩
            · simp only [e0, go_sem, ↓reduceIte, reduceCtorEq, Nat.reduceEqDiff, Nat.reduceAdd, Nat.reduceSub, Nat.reduceMul, Nat.reduceLeDiff, Nat.reduceLT, loadA, rdCells, storeA, setAt, binA]
            · simp only [e30, go_sem, ↓reduceIte, reduceCtorEq, Nat.reduceEqDiff, Nat.reduceAdd, Nat.reduceSub, Nat.reduceMul, Nat.reduceLeDiff, Nat.reduceLT, loadA, rdCells, storeA, setAt, binA]
            · simp only [e31, go_sem, ↓reduceIte, reduceCtorEq, Nat.reduceEqDiff, Nat.reduceAdd, Nat.reduceSub, Nat.reduceMul, Nat.reduceLeDiff, Nat.reduceLT, loadA, rdCells, storeA, setAt, binA]
            · simp only [e32, go_sem, ↓reduceIte, reduceCtorEq, Nat.reduceEqDiff, Nat.reduceAdd, Nat.reduceSub, Nat.reduceMul, Nat.reduceLeDiff, Nat.reduceLT, loadA, rdCells, storeA, setAt, binA]
            · simp only [go_sem, ↓reduceIte, reduceCtorEq, Nat.reduceEqDiff, Nat.reduceAdd, Nat.reduceSub, Nat.reduceMul, Nat.reduceLeDiff, Nat.reduceLT, loadA, rdCells, storeA, setAt, binA]
            · simp only [go_sem, ↓reduceIte, reduceCtorEq, Nat.reduceEqDiff, Nat.reduceAdd, Nat.reduceSub, Nat.reduceMul, Nat.reduceLeDiff, Nat.reduceLT, loadA, rdCells, storeA, setAt, binA]
            · simp only [go_sem, ↓reduceIte, reduceCtorEq, Nat.reduceEqDiff, Nat.reduceAdd, Nat.reduceSub, Nat.reduceMul, Nat.reduceLeDiff, Nat.reduceLT, loadA, rdCells, storeA, setAt, binA]
            · simp only [go_sem, ↓reduceIte, reduceCtorEq, Nat.reduceEqDiff, Nat.reduceAdd, Nat.reduceSub, Nat.reduceMul, Nat.reduceLeDiff, Nat.reduceLT, loadA, rdCells, storeA, setAt, binA]; rfl
          · have hd : decide ((i : Int) < (l.length : Int)) = false := by simp; omega
            have hz : sups l l = 0 := by rw [hf, List.drop_eq_nil_of_le (by omega), sups]
            simp only [cf78_l3, e0, e30, e31, e32, hd, hlen, go_sem, ↓reduceIte, reduceCtorEq, Nat.reduceEqDiff, Nat.reduceAdd, Nat.reduceSub, Nat.reduceMul, Nat.reduceLeDiff, Nat.reduceLT, loadA, rdCells, storeA, setAt, binA]
            obtain ⟨d, hdd⟩ : ∃ d, d = S.size := ⟨_, rfl⟩
            have hsd : s.size ≤ d := by have := hk.1; omega
            rw [← hdd]
            refine W_loop_nat (fun k e S => ∃ (j : Nat) (dv : AV) (done : List ByteArray) (tok : Option Nat), j + k = l.length ∧ e 0 = lv ∧ e 11 = .ptr d 0 ∧ e 60 = lv ∧ e 61 = .int .i64 l.length ∧ e 62 = .int .i64 j ∧ S.obj d = some (.cells [dv]) ∧ d < S.size ∧ Grw scc (d + 1) S dv done tok ∧ titer l l.length [] = titer l k done ∧ done.length ≤ j * l.length ∧ Keep s S) ?_ l.length _ _
              ⟨0, .nils, [], none, by simp, ?_, ?_, ?_, ?_, ?_, ?_, ?_, Or.inl ⟨rfl, rfl, rfl⟩, rfl, by simp, ?_⟩
            · clear hk hf e0 e30 e31 e32 hik hd hi hdd
              rintro k e S ⟨j, dv, done, tok, hjk, e0, e11, e60, e61, e62, od, zd, hgr, hti, hdl, hk⟩
              by_cases hj : j < l.length
              · have hdj : decide ((j : Int) < (l.length : Int)) = true := by simp; omega
                obtain ⟨m, rfl⟩ : ∃ m, k = m + 1 := ⟨k - 1, by omega⟩
                rw [titer, tpass] at hti
                have hmul : j * l.length ≤ 16777216 := Nat.mul_le_mul (by omega : j ≤ 4096) hl4
                simp only [cf78_l1, e0, e11, e60, e61, e62, hdj, hlen, Nat.le_add_left, go_sem, ↓reduceIte, reduceCtorEq, Nat.reduceEqDiff, Nat.reduceAdd, Nat.reduceSub, Nat.reduceMul, Nat.reduceLeDiff, Nat.reduceLT, loadA, rdCells, storeA, setAt, binA]
                refine W_loop_nat (fun kk e S2 => ∃ (i : Nat) (dv : AV) (done : List ByteArray) (tok : Option Nat), i + kk = l.length ∧ e 0 = lv ∧ e 11 = .ptr d 0 ∧ e 60 = lv ∧ e 61 = .int .i64 l.length ∧ e 62 = .int .i64 j ∧ e 64 = lv ∧ e 65 = .int .i64 l.length ∧ e 66 = .int .i64 i ∧ S2.obj d = some (.cells [dv]) ∧ d < S2.size ∧ Grw scc (d + 1) S2 dv done tok ∧ titer l l.length [] = titer l m ((l.drop i).foldl tstep done) ∧ done.length ≤ j * l.length + i ∧ Keep s S2) ?_ l.length _ _
                  ⟨0, dv, done, tok, by simp, ?_, ?_, ?_, ?_, ?_, ?_, ?_, ?_, od, zd, hgr, hti, by omega, hk⟩
                · clear hk hgr hti hdl od zd e0 e11 e60 e61 e62
                  clear dv done tok S
                  rintro kk e S ⟨i, dv, done, tok, hik, e0, e11, e60, e61, e62, e64, e65, e66, od, zd, hgr, hti, hdl, hk⟩
                  by_cases hi : i < l.length
                  · obtain ⟨c, hc⟩ : ∃ c, l[i]? = some c := ⟨_, List.getElem?_eq_getElem hi⟩
                    have hd : decide ((i : Int) < (l.length : Int)) = true := by simp; omega
                    have hat := hl.at clcP.len hc
                    have hcs := hs c (List.mem_of_getElem? hc)
                    have hsup : ISl scc (.sl (c.sup.flatMap scc) c.sup.length false none) c.sup := Or.inr ⟨_, _, rfl⟩
                    rw [drop_at hc, List.foldl_cons] at hti
                    simp only [clc, List.cons_append, List.nil_append] at hat
                    obtain ⟨S', hS'⟩ : ∃ S', S' = (S.new (.cells [.str ⟨#[]⟩, .nils, .nils])).put S.size (some (.cells [.str c.name, .sl (c.sup.flatMap scc) c.sup.length false none, .sl c.ops c.opn false none])) := ⟨_, rfl⟩
                    have hkS : Keep S S' := by rw [hS']; exact ((Keep.refl S).new' _).put' (Nat.le_refl _) _
                    have oS : S'.obj S.size = some (.cells [.str c.name, .sl (c.sup.flatMap scc) c.sup.length false none, .sl c.ops c.opn false none]) := by rw [hS', put_eq]
                    have zS : S.size < S'.size := by rw [hS']; simp [St.new, St.put]
                    have odS := hkS.obj zd od
                    have grS := hgr.keep hkS.1 (fun q hq => hkS.2 q (by
                      rcases hgr with ⟨-, -, h⟩ | ⟨k2, h, -, -, -, h5, -⟩
                      · rw [h] at hq; cases hq
                      · rw [h] at hq; cases hq; exact h5))
                    simp only [cf78_l0, e0, e11, e60, e61, e62, e64, e65, e66, hd, hat, ne_a zd, ne_b zd, od, Nat.le_add_left, go_sem, ↓reduceIte, reduceCtorEq, Nat.reduceEqDiff, Nat.reduceAdd, Nat.reduceSub, Nat.reduceMul, Nat.reduceLeDiff, Nat.reduceLT, loadA, rdCells, storeA, setAt, binA]
                    rw [← hS']
                    refine WO_callx _ rfl ((has_law hX hgr.isl (by omega) c.name S').mono ?_)
                    rintro r S2 ⟨rfl, hk2⟩
                    have hk02 := hkS.trans hk2
                    have od2 := hk2.obj (hkS.lt zd) odS
                    have oS2 := hk2.obj zS oS
                    have zd2 := hk02.lt zd
                    cases hh : hasS done c.name
                    · simp only [hh, oS2, e0, e11, e60, e61, e62, e64, e65, e66, Nat.le_add_left, go_sem, ↓reduceIte, reduceCtorEq, Nat.reduceEqDiff, Nat.reduceAdd, Nat.reduceSub, Nat.reduceMul, Nat.reduceLeDiff, Nat.reduceLT, loadA, rdCells, storeA, setAt, binA]
                      refine WO_callx _ rfl ((has_st hX hsup hcs 93 [.ptr d 0] (fun x => !(hasS done x)) S2 (fun x s1 _ hk1 => clo93_law hX x hgr.isl (by omega) d s1 (hk1.obj zd2 od2))).mono ?_)
                      rintro r S3 ⟨rfl, hk3⟩
                      have hk03 := hk02.trans hk3
                      have od3 := hk3.obj zd2 od2
                      have oS3 := hk3.obj (hk2.lt zS) oS2
                      have zd3 := hk03.lt zd
                      have gr3 := hgr.keep hk03.1 (fun q hq => hk03.2 q (by
                        rcases hgr with ⟨-, -, h⟩ | ⟨k2, h, -, -, -, h5, -⟩
                        · rw [h] at hq; cases hq
                        · rw [h] at hq; cases hq; exact h5))
                      cases hp : c.sup.any (fun x => !(hasS done x))
                      · have hst : tstep done c = done ++ [c.name] := by rw [tstep, hh, hp]; rfl
                        rw [hst] at hti
                        obtain ⟨v', S4, hap, hg4, hz4, hk4⟩ := gr3.app sccP (by omega) c.name (bytes := 16) (by omega)
                        simp only [scc] at hap
                        have ntok : ∀ q, q ≤ d → some q ≠ tok := fun q hq ht => by
                          rcases gr3 with ⟨-, -, h⟩ | ⟨k2, h, -, -, -, -, h6⟩
                          · rw [h] at ht; cases ht
                          · rw [h] at ht; cases ht; omega
                        have od4 : S4.obj d = some (.cells [dv]) := by rw [hk4 d zd3 (ntok d (Nat.le_refl _))]; exact od3
                        have hks4 : Keep s S4 := ⟨by have := hk.1; have := hk03.1; omega, fun q hq => by rw [hk4 q (by have := hk.1; have := hk03.1; omega) (ntok q (by omega))]; exact (hk.trans hk03).2 q hq⟩
                        have hv' : v'.cells = [v'] := by
                          rcases hg4 with ⟨rfl, -, -⟩ | ⟨k2, -, rfl, -⟩ <;> rfl
                        have hv1 : v'.one = true := by
                          rcases hg4 with ⟨rfl, -, -⟩ | ⟨k2, -, rfl, -⟩ <;> rfl
                        simp only [hp, od3, oS3, hap, od4, hv', hv1, ne_a zd3, ne_b zd3, e0, e11, e60, e61, e62, e64, e65, e66, wrapc (n := i) (by omega), Nat.le_add_left, setAt, go_sem, ↓reduceIte, reduceCtorEq, Nat.reduceEqDiff, Nat.reduceAdd, Nat.reduceSub, Nat.reduceMul, Nat.reduceLeDiff, Nat.reduceLT, loadA, rdCells, storeA, setAt, binA]
                        refine ⟨kk - 1, by omega, i + 1, v', done ++ [c.name], some S3.size, by omega, rfl, rfl, by omega, ?_, hti, by rw [List.length_append, List.length_cons, List.length_nil]; omega, hks4.put' hsd _⟩
                        exact hg4.keep (Nat.le_refl _) fun q hq => by cases hq; rw [put_ne (by omega)]
                      · have hst : tstep done c = done := by rw [tstep, hh, hp]; rfl
                        rw [hst] at hti
                        simp only [hp, e0, e11, e60, e61, e62, e64, e65, e66, wrapc (n := i) (by omega), Nat.le_add_left, go_sem, ↓reduceIte, reduceCtorEq, Nat.reduceEqDiff, Nat.reduceAdd, Nat.reduceSub, Nat.reduceMul, Nat.reduceLeDiff, Nat.reduceLT, loadA, rdCells, storeA, setAt, binA]
                        exact ⟨kk - 1, by omega, i + 1, dv, done, tok, by omega, rfl, od3, zd3, gr3, hti, by omega, hk.trans hk03⟩
                    · have hst : tstep done c = done := by rw [tstep, hh]; rfl
                      rw [hst] at hti
                      simp only [hh, e0, e11, e60, e61, e62, e64, e65, e66, wrapc (n := i) (by omega), Nat.le_add_left, go_sem, ↓reduceIte, reduceCtorEq, Nat.reduceEqDiff, Nat.reduceAdd, Nat.reduceSub, Nat.reduceMul, Nat.reduceLeDiff, Nat.reduceLT, loadA, rdCells, storeA, setAt, binA]
                      exact ⟨kk - 1, by omega, i + 1, dv, done, tok, by omega, rfl, od2, zd2, grS.keep hk2.1 (fun q hq => hk2.2 q (by
                        rcases grS with ⟨-, -, h⟩ | ⟨k2, h, -, -, -, h5, -⟩
                        · rw [h] at hq; cases hq
                        · rw [h] at hq; cases hq; exact h5)), hti, by omega, hk.trans hk02⟩
                  · have hd : decide ((i : Int) < (l.length : Int)) = false := by simp; omega
                    rw [List.drop_eq_nil_of_le (by omega), List.foldl_nil] at hti
                    simp only [cf78_l0, e0, e11, e60, e61, e62, e64, e65, e66, hd, wrapc (n := j) (by omega), Nat.le_add_left, go_sem, ↓reduceIte, reduceCtorEq, Nat.reduceEqDiff, Nat.reduceAdd, Nat.reduceSub, Nat.reduceMul, Nat.reduceLeDiff, Nat.reduceLT, loadA, rdCells, storeA, setAt, binA]
                    refine ⟨m, by omega, j + 1, dv, done, tok, by omega, rfl, od, zd, hgr, hti, ?_, hk⟩
                    rw [Nat.add_mul, Nat.one_mul]; omega
                · simp only [e0, go_sem, ↓reduceIte, reduceCtorEq, Nat.reduceEqDiff, Nat.reduceAdd, Nat.reduceSub, Nat.reduceMul, Nat.reduceLeDiff, Nat.reduceLT, loadA, rdCells, storeA, setAt, binA]
                · simp only [e11, go_sem, ↓reduceIte, reduceCtorEq, Nat.reduceEqDiff, Nat.reduceAdd, Nat.reduceSub, Nat.reduceMul, Nat.reduceLeDiff, Nat.reduceLT, loadA, rdCells, storeA, setAt, binA]
                · simp only [e60, go_sem, ↓reduceIte, reduceCtorEq, Nat.reduceEqDiff, Nat.reduceAdd, Nat.reduceSub, Nat.reduceMul, Nat.reduceLeDiff, Nat.reduceLT, loadA, rdCells, storeA, setAt, binA]
                · simp only [e61, go_sem, ↓reduceIte, reduceCtorEq, Nat.reduceEqDiff, Nat.reduceAdd, Nat.reduceSub, Nat.reduceMul, Nat.reduceLeDiff, Nat.reduceLT, loadA, rdCells, storeA, setAt, binA]
                · simp only [e62, go_sem, ↓reduceIte, reduceCtorEq, Nat.reduceEqDiff, Nat.reduceAdd, Nat.reduceSub, Nat.reduceMul, Nat.reduceLeDiff, Nat.reduceLT, loadA, rdCells, storeA, setAt, binA]
                · simp only [go_sem, ↓reduceIte, reduceCtorEq, Nat.reduceEqDiff, Nat.reduceAdd, Nat.reduceSub, Nat.reduceMul, Nat.reduceLeDiff, Nat.reduceLT, loadA, rdCells, storeA, setAt, binA]
                · simp only [go_sem, ↓reduceIte, reduceCtorEq, Nat.reduceEqDiff, Nat.reduceAdd, Nat.reduceSub, Nat.reduceMul, Nat.reduceLeDiff, Nat.reduceLT, loadA, rdCells, storeA, setAt, binA]
                · simp only [go_sem, ↓reduceIte, reduceCtorEq, Nat.reduceEqDiff, Nat.reduceAdd, Nat.reduceSub, Nat.reduceMul, Nat.reduceLeDiff, Nat.reduceLT, loadA, rdCells, storeA, setAt, binA]; rfl
              · have hdj : decide ((j : Int) < (l.length : Int)) = false := by simp; omega
                obtain rfl : k = 0 := by omega
                rw [titer] at hti
                have hdlen := hgr.isl.len
                cases hq : decide ((done.length : Int) < (l.length : Int))
                · simp only [cf78_l1, e0, e11, e60, e61, e62, hdj, od, hdlen, hlen, hq, Nat.le_add_left, go_sem, ↓reduceIte, reduceCtorEq, Nat.reduceEqDiff, Nat.reduceAdd, Nat.reduceSub, Nat.reduceMul, Nat.reduceLeDiff, Nat.reduceLT, loadA, rdCells, storeA, setAt, binA]
                  exact ⟨by simp, _, rfl, by rw [chkC, hg, hd1, hz, hti, hq]; rfl, hk⟩
                · simp only [cf78_l1, e0, e11, e60, e61, e62, hdj, od, hdlen, hlen, hq, Nat.le_add_left, go_sem, ↓reduceIte, reduceCtorEq, Nat.reduceEqDiff, Nat.reduceAdd, Nat.reduceSub, Nat.reduceMul, Nat.reduceLeDiff, Nat.reduceLT, loadA, rdCells, storeA, setAt, binA]
                  exact ⟨by simp, _, rfl, by rw [chkC, hg, hd1, hz, hti, hq]; rfl, hk⟩
            · simp only [e0, go_sem, ↓reduceIte, reduceCtorEq, Nat.reduceEqDiff, Nat.reduceAdd, Nat.reduceSub, Nat.reduceMul, Nat.reduceLeDiff, Nat.reduceLT, loadA, rdCells, storeA, setAt, binA]
            · simp only [go_sem, ↓reduceIte, reduceCtorEq, Nat.reduceEqDiff, Nat.reduceAdd, Nat.reduceSub, Nat.reduceMul, Nat.reduceLeDiff, Nat.reduceLT, loadA, rdCells, storeA, setAt, binA]
            · simp only [go_sem, ↓reduceIte, reduceCtorEq, Nat.reduceEqDiff, Nat.reduceAdd, Nat.reduceSub, Nat.reduceMul, Nat.reduceLeDiff, Nat.reduceLT, loadA, rdCells, storeA, setAt, binA]
            · simp only [go_sem, ↓reduceIte, reduceCtorEq, Nat.reduceEqDiff, Nat.reduceAdd, Nat.reduceSub, Nat.reduceMul, Nat.reduceLeDiff, Nat.reduceLT, loadA, rdCells, storeA, setAt, binA]
            · simp only [go_sem, ↓reduceIte, reduceCtorEq, Nat.reduceEqDiff, Nat.reduceAdd, Nat.reduceSub, Nat.reduceMul, Nat.reduceLeDiff, Nat.reduceLT, loadA, rdCells, storeA, setAt, binA]; rfl
            · rw [hdd]; exact new_eq rfl
            · simp only [St.new]; omega
            · exact hk.new' _
        · simp only [e0, go_sem, ↓reduceIte, reduceCtorEq, Nat.reduceEqDiff, Nat.reduceAdd, Nat.reduceSub, Nat.reduceMul, Nat.reduceLeDiff, Nat.reduceLT, loadA, rdCells, storeA, setAt, binA]
        · simp only [go_sem, ↓reduceIte, reduceCtorEq, Nat.reduceEqDiff, Nat.reduceAdd, Nat.reduceSub, Nat.reduceMul, Nat.reduceLeDiff, Nat.reduceLT, loadA, rdCells, storeA, setAt, binA]
        · simp only [go_sem, ↓reduceIte, reduceCtorEq, Nat.reduceEqDiff, Nat.reduceAdd, Nat.reduceSub, Nat.reduceMul, Nat.reduceLeDiff, Nat.reduceLT, loadA, rdCells, storeA, setAt, binA]
        · simp only [go_sem, ↓reduceIte, reduceCtorEq, Nat.reduceEqDiff, Nat.reduceAdd, Nat.reduceSub, Nat.reduceMul, Nat.reduceLeDiff, Nat.reduceLT, loadA, rdCells, storeA, setAt, binA]; rfl
    · simp only [go_sem, ↓reduceIte, reduceCtorEq, Nat.reduceEqDiff, Nat.reduceAdd, Nat.reduceSub, Nat.reduceMul, Nat.reduceLeDiff, Nat.reduceLT, loadA, rdCells, storeA, setAt, binA]
    · simp only [go_sem, ↓reduceIte, reduceCtorEq, Nat.reduceEqDiff, Nat.reduceAdd, Nat.reduceSub, Nat.reduceMul, Nat.reduceLeDiff, Nat.reduceLT, loadA, rdCells, storeA, setAt, binA]
    · simp only [go_sem, ↓reduceIte, reduceCtorEq, Nat.reduceEqDiff, Nat.reduceAdd, Nat.reduceSub, Nat.reduceMul, Nat.reduceLeDiff, Nat.reduceLT, loadA, rdCells, storeA, setAt, binA]
    · simp only [go_sem, ↓reduceIte, reduceCtorEq, Nat.reduceEqDiff, Nat.reduceAdd, Nat.reduceSub, Nat.reduceMul, Nat.reduceLeDiff, Nat.reduceLT, loadA, rdCells, storeA, setAt, binA]; rfl
  · simp only [cf78, hlen, hg, go_sem, ↓reduceIte, reduceCtorEq, Nat.reduceEqDiff, Nat.reduceAdd, Nat.reduceSub, Nat.reduceMul, Nat.reduceLeDiff, Nat.reduceLT, loadA, rdCells, storeA, setAt, binA]
    exact ⟨by simp, _, rfl, by rw [chkC, hg]; rfl, Keep.refl s⟩
end Go.Am.U3
