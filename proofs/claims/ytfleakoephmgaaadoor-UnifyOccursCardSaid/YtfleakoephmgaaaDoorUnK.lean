/- A part of the proof of unifyOccurs. Conditions: none. -/
import Derived.Test.YtfleakoephmgaaaDoorUnJ
set_option linter.unusedSimpArgs false
set_option linter.unusedVariables false
namespace Go.Am.U1
open Go.Am.Un
set_option maxRecDepth 100000
set_option linter.unusedSimpArgs false
attribute [local go_sem] wseq COp.isStore wreg wdreg wret wskip wexit wblock wcnd cnd_t cnd_f then_n then_x then_r catch_n rnd_n rnd_x rnd_r catch_x catch_r wo_nil wo_grd grdO_t grdO_f wo_ops stpO wr_nil wr_alloc wr_guards grdR_t grdR_f wr_ops stpR evAllocs evOp env0_app eput_some eput_none eset_app Opd.ev wantedA faddrA snew_obj snew_size sput_obj sput_size av_cells av_one av_strip av_still unA eqbA fillA fldA lensA mmA mm2 mmFold List.getD_cons_zero List.getD_cons_succ List.getD_nil List.length_cons List.length_nil List.drop_zero List.drop_succ_cons List.take_succ_cons List.take_zero List.map_cons List.map_nil List.set_cons_zero List.set_cons_succ List.all_cons List.all_nil List.getElem?_cons_zero List.getElem?_cons_succ List.nil_append List.cons_append Nat.zero_add Nat.add_zero beq_self_eq_true bt bf Bool.not_true Bool.not_false Bool.and_true Bool.true_and Bool.and_false Bool.false_and and_self and_true true_and n0 n1 n2 n3 n4 m0 m1 m2 m3 c1 retA resAs resA undefA Option.map_some Option.map_none
variable {X : Ext}

theorem ne_e {q n : Nat} (h : q < n) (k j : Nat) : (q = n + k + j) = False := eq_false (by omega)
theorem ne_f {q n : Nat} (h : q < n) (k j : Nat) : (n + k + j = q) = False := eq_false (by omega)

theorem row_c (l : ByteArray) (v : Int) (a b : Tm) : tyc (.mk 5 l v [a, b]) = [.int .i64 5, .str l, .int .i64 v, .sl [.int .i64 (kof a), .str (nof a), .int .i64 (vof a), .sl (tycs (lof a)) (lof a).length false none, .int .i64 (kof b), .str (nof b), .int .i64 (vof b), .sl (tycs (lof b)) (lof b).length false none] 2 false none] := by
  rw [tyc, tycs, tycs, tycs, List.append_nil, tyc_w a, tyc_w b]; rfl

/-- What an extraction finds. -/
def ExQ (ss : List Tm) (t' r' : Tm) (s : St) (v : AV) (s' : St) : Prop :=
  ∃ t r, v = .tup [.agg (tyc t), .agg (tyc r), .int .i64 0] ∧ Sub ss t t' ∧ Sub ss r r' ∧ Keep s s'

mutual
theorem avr : ∀ v : AV, AV.beq v v = true
  | .bool _ | .int _ _ | .str _ | .nilp | .ptr _ _ | .nils | .msl _ _ _ _ | .nilf | .niliface | .mapv _ | .nilm => by simp [AV.beq]
  | .eptr cs => by simp [AV.beq, avrs cs]
  | .sl cs _ _ _ => by simp [AV.beq, avrs cs]
  | .func _ cs => by simp [AV.beq, avrs cs]
  | .agg cs => by simp [AV.beq, avrs cs]
  | .tup cs => by simp [AV.beq, avrs cs]
  | .iface t v => by simp [AV.beq, avr v]
theorem avrs : ∀ l : List AV, AV.beqs l l = true
  | [] => by simp [AV.beqs]
  | a :: r => by simp [AV.beqs, avr a, avrs r]
end

set_option maxHeartbeats 4000000 in
theorem extr_law (hX : NoX X) {ss : List Tm} {b p : Nat} {l : ByteArray} {B t' r' : Tm} (h : Extr l B t' r') : ∀ (b0 : Tm), Sub ss b0 B → ∀ (no : Int) (s : St), US s b p ss →
    WC T X 98 [.ptr b 0, .str l, .agg (tyc b0), .int .i64 no] s (ExQ ss t' r' s) := by
  induction h with
  | here v t' r' =>
    intro b0 hb0 no s hu
    refine WC_fn cf98 (hX 98 (by decide)) T98 (by simp [cf98]) ?_
    obtain ⟨b1, hw, h1, h2, h3, h4, h5⟩ := sub_walk hb0
    have hs4 := h4 (by simp [kof])
    obtain ⟨k1, n1, v1, l1⟩ := b1
    simp only [kof, nof, vof, lof] at h1 h2 h3 hs4
    subst h1 h2 h3
    cases hs4 with
    | cons x0 _ l1 _ hx0 hs1 =>
    cases hs1 with
    | cons r0 _ l2 _ hr0 hs2 =>
    cases hs2
    have hk1 := ((((Keep.refl s).new' (.cells (tyc b0))).new' (.cells [.int .i64 0, .str ⟨#[]⟩, .int .i64 0, .nils])).new' (.cells [.int .i64 0, .str ⟨#[]⟩, .int .i64 0, .nils]))
    have hww := walk_law hX hw _ (hu.keep hk1).rd
    rw [tyc, tycs, tycs, tycs, List.append_nil, tyc_w b0, tyc_w x0, tyc_w r0, tyw, tyw, tyw] at hww
    rw [tyc_w b0, tyw] at hk1 ⊢
    have hq : s.size < (((s.new (.cells [.int .i64 (kof b0), .str (nof b0), .int .i64 (vof b0), .sl (tycs (lof b0)) (lof b0).length false none])).new (.cells [.int .i64 0, .str ⟨#[]⟩, .int .i64 0, .nils])).new (.cells [.int .i64 0, .str ⟨#[]⟩, .int .i64 0, .nils])).size := by simp only [St.new]; omega
    have z1 : ((5 : Int) == 0) = false := rfl
    have z2 : ((5 : Int) != 5) = false := rfl
    have z3 : (n1.toList == n1.toList) = true := by simp
    simp only [cf98, hu.1, ne_a hu.2.2.1, ne_b hu.2.2.1, ne_c hu.2.2.1, ne_d hu.2.2.1, ne_e hu.2.2.1, ne_f hu.2.2.1, Nat.le_add_left, go_sem, ↓reduceIte, reduceCtorEq, Nat.reduceEqDiff, Nat.reduceAdd, Nat.reduceSub, Nat.reduceMul, Nat.reduceLeDiff, Nat.reduceLT, loadA, rdCells, storeA, setAt, binA]
    refine WR_callx _ rfl (hww.mono ?_)
    rintro w2 S2 ⟨rfl, hk2⟩
    have a1 := hk2.2 s.size (by simp only [St.new]; omega)
    have a2 := hk2.2 (s.size + 1) (by simp only [St.new]; omega)
    have a3 := hk2.2 (s.size + 1 + 1) (by simp only [St.new]; omega)
    simp only [go_sem, ↓reduceIte, reduceCtorEq, Nat.reduceEqDiff, Nat.reduceAdd, Nat.reduceSub, Nat.reduceMul, Nat.reduceLeDiff, Nat.reduceLT, loadA, rdCells, storeA, setAt, binA] at a1 a2 a3
    simp only [a1, a2, a3, z1, z2, z3, ia0, ia1, Nat.le_add_left, go_sem, ↓reduceIte, reduceCtorEq, Nat.reduceEqDiff, Nat.reduceAdd, Nat.reduceSub, Nat.reduceMul, Nat.reduceLeDiff, Nat.reduceLT, loadA, rdCells, storeA, setAt, binA]
    refine W_dreg ?_
    simp only [wt_ops, stpT, Tr, a1, a2, a3, ia0, ia1, wt_nil, chk1, avr, Bool.or_true, Nat.le_add_left, go_sem, ↓reduceIte, reduceCtorEq, Nat.reduceEqDiff, Nat.reduceAdd, Nat.reduceSub, Nat.reduceMul, Nat.reduceLeDiff, Nat.reduceLT, loadA, rdCells, storeA, setAt, binA]
    refine ⟨by simp, _, rfl, x0, r0, by rw [tyc_w x0, tyc_w r0]; rfl, hx0, hr0, ?_⟩
    exact (((((hk1.trans hk2).put' (Nat.le_refl _) _).put' (by omega) _).put' (by omega) _))
  | there m v x r t' r' hm h ih =>
    intro b0 hb0 no s hu
    refine WC_fn cf98 (hX 98 (by decide)) T98 (by simp [cf98]) ?_
    obtain ⟨b1, hw, h1, h2, h3, h4, h5⟩ := sub_walk hb0
    have hs4 := h4 (by simp [kof])
    obtain ⟨k1, n1, v1, l1⟩ := b1
    simp only [kof, nof, vof, lof] at h1 h2 h3 hs4
    subst h1 h2 h3
    cases hs4 with
    | cons x0 _ l1 _ hx0 hs1 =>
    cases hs1 with
    | cons r0 _ l2 _ hr0 hs2 =>
    cases hs2
    have hk1 := ((((Keep.refl s).new' (.cells (tyc b0))).new' (.cells [.int .i64 0, .str ⟨#[]⟩, .int .i64 0, .nils])).new' (.cells [.int .i64 0, .str ⟨#[]⟩, .int .i64 0, .nils]))
    have hww := walk_law hX hw _ (hu.keep hk1).rd
    have ihx := fun (S2 : St) (hk2 : Keep s S2) => ih r0 hr0 no S2 (hu.keep hk2)
    rw [tyc_w r0, tyw] at ihx
    rw [tyc, tycs, tycs, tycs, List.append_nil, tyc_w b0, tyc_w x0, tyc_w r0, tyw, tyw, tyw] at hww
    rw [tyc_w b0, tyw] at hk1 ⊢
    have hq : s.size < (((s.new (.cells [.int .i64 (kof b0), .str (nof b0), .int .i64 (vof b0), .sl (tycs (lof b0)) (lof b0).length false none])).new (.cells [.int .i64 0, .str ⟨#[]⟩, .int .i64 0, .nils])).new (.cells [.int .i64 0, .str ⟨#[]⟩, .int .i64 0, .nils])).size := by simp only [St.new]; omega
    have z1 : ((5 : Int) == 0) = false := rfl
    have z2 : ((5 : Int) != 5) = false := rfl
    simp only [cf98, hu.1, ne_a hu.2.2.1, ne_b hu.2.2.1, ne_c hu.2.2.1, ne_d hu.2.2.1, ne_e hu.2.2.1, ne_f hu.2.2.1, Nat.le_add_left, go_sem, ↓reduceIte, reduceCtorEq, Nat.reduceEqDiff, Nat.reduceAdd, Nat.reduceSub, Nat.reduceMul, Nat.reduceLeDiff, Nat.reduceLT, loadA, rdCells, storeA, setAt, binA]
    refine WR_callx _ rfl (hww.mono ?_)
    rintro w2 S2 ⟨rfl, hk2⟩
    have a1 := hk2.2 s.size (by simp only [St.new]; omega)
    have a2 := hk2.2 (s.size + 1) (by simp only [St.new]; omega)
    have a3 := hk2.2 (s.size + 1 + 1) (by simp only [St.new]; omega)
    simp only [go_sem, ↓reduceIte, reduceCtorEq, Nat.reduceEqDiff, Nat.reduceAdd, Nat.reduceSub, Nat.reduceMul, Nat.reduceLeDiff, Nat.reduceLT, loadA, rdCells, storeA, setAt, binA] at a1 a2 a3
    simp only [a1, a2, a3, z1, z2, hm, ia0, ia1, Nat.le_add_left, go_sem, ↓reduceIte, reduceCtorEq, Nat.reduceEqDiff, Nat.reduceAdd, Nat.reduceSub, Nat.reduceMul, Nat.reduceLeDiff, Nat.reduceLT, loadA, rdCells, storeA, setAt, binA]
    refine WO_callx _ rfl ((ihx _ ((hk1.trans hk2).put' (Nat.le_refl _) _)).mono ?_)
    rintro w3 S3 ⟨t3, r3, rfl, ht3, hr3, hk3⟩
    have hz3 := hk3.1
    have hz2 := hk2.1
    simp only [St.new, St.put] at hz3 hz2
    have b1 := hk3.2 s.size (by simp only [St.put]; omega)
    have b2 := hk3.2 (s.size + 1) (by simp only [St.put]; omega)
    have b3 := hk3.2 (s.size + 1 + 1) (by simp only [St.put]; omega)
    simp only [a1, a2, a3, go_sem, ↓reduceIte, reduceCtorEq, Nat.reduceEqDiff, Nat.reduceAdd, Nat.reduceSub, Nat.reduceMul, Nat.reduceLeDiff, Nat.reduceLT, loadA, rdCells, storeA, setAt, binA] at b1 b2 b3
    have hkA : Keep s S3 := ((hk1.trans hk2).put' (Nat.le_refl _) _).trans hk3
    have hq3 : s.size < S3.size := by omega
    rw [tyc_w t3, tyc_w r3, tyw, tyw]
    have o1 : s.size + 1 < S3.size := by omega
    have o2 : s.size + 1 + 1 < S3.size := by omega
    simp only [b1, b2, b3, ia0, ia1, Nat.le_add_left, go_sem, ↓reduceIte, reduceCtorEq, Nat.reduceEqDiff, Nat.reduceAdd, Nat.reduceSub, Nat.reduceMul, Nat.reduceLeDiff, Nat.reduceLT, loadA, rdCells, storeA, setAt, binA]
    refine W_dreg ?_
    simp only [wt_ops, stpT, Tr, b1, b2, b3, ia0, ia1, wt_nil, chk1, avr, ne_a hq3, ne_b hq3, ne_c hq3, ne_d hq3, ne_a o1, ne_b o1, ne_c o1, ne_d o1, ne_a o2, ne_b o2, ne_c o2, ne_d o2, Bool.or_true, Nat.le_add_left, go_sem, ↓reduceIte, reduceCtorEq, Nat.reduceEqDiff, Nat.reduceAdd, Nat.reduceSub, Nat.reduceMul, Nat.reduceLeDiff, Nat.reduceLT, loadA, rdCells, storeA, setAt, binA]
    have hext := fun S => ext_law hX n1 x0 r3 S
    rw [row_c, tyc_w x0, tyc_w r3, tyw, tyw] at hext
    refine WT_callx _ rfl ((hext _).mono ?_)
    rintro w4 S4 ⟨rfl, hk4⟩
    have hz4 := hk4.1
    simp only [St.new, St.put] at hz4
    have c1 := hk4.2 s.size (by simp only [St.put, St.new]; omega)
    have c2 := hk4.2 (s.size + 1) (by simp only [St.put, St.new]; omega)
    have c3 := hk4.2 (s.size + 1 + 1) (by simp only [St.put, St.new]; omega)
    have c4 := hk4.2 S3.size (by simp only [St.put, St.new]; omega)
    simp only [b1, b2, b3, ne_a hq3, ne_b hq3, ne_c hq3, ne_d hq3, ne_a o1, ne_b o1, ne_c o1, ne_d o1, ne_a o2, ne_b o2, ne_c o2, ne_d o2, go_sem, ↓reduceIte, reduceCtorEq, Nat.reduceEqDiff, Nat.reduceAdd, Nat.reduceSub, Nat.reduceMul, Nat.reduceLeDiff, Nat.reduceLT, loadA, rdCells, storeA, setAt, binA] at c1 c2 c3 c4
    simp only [wt_ops, stpT, Tr, b1, b2, b3, c1, c2, c3, c4, ia0, ia1, wt_nil, chk1, avr, ne_a hq3, ne_b hq3, ne_c hq3, ne_d hq3, ne_a o1, ne_b o1, ne_c o1, ne_d o1, ne_a o2, ne_b o2, ne_c o2, ne_d o2, Bool.or_true, Nat.le_add_left, go_sem, ↓reduceIte, reduceCtorEq, Nat.reduceEqDiff, Nat.reduceAdd, Nat.reduceSub, Nat.reduceMul, Nat.reduceLeDiff, Nat.reduceLT, loadA, rdCells, storeA, setAt, binA]
    refine ⟨by simp, _, rfl, t3, .mk 5 n1 0 [x0, r3], by rw [row_c, tyc_w t3, tyw], ht3, .con _ 5 n1 0 [x0, r3] _ (.con _ (by simp [kof])) (by decide) (.cons _ _ _ _ hx0 (.cons _ _ _ _ hr3 .nil)), ?_⟩
    exact ((((((hkA.new' _).new' _).put' (by omega) _).put' (by omega) _).trans hk4).put' (by omega) _).put' (by omega) _
end Go.Am.U1
