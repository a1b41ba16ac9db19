/- ClassesReduced, as the machine runs it. Conditions: none. -/
import Derived.Test.YtfleakoephmgaaaDoorClO
import Derived.Test.YtfleakoephmgaaaDoorUnP
import Derived.HandedShaped
set_option linter.unusedSimpArgs false
set_option linter.unusedVariables false
namespace Go.Am.U3
open Go.Am.Un Go.So
open Go.Am.U1 (NoX drop_at ne_a ne_b ne_c ne_d avr tyw tyc_w tycP isl_tycs len_tszs tsz_pos)
open Go.Am.U2 (Xb)
set_option maxRecDepth 100000
set_option linter.unusedSimpArgs false
attribute [local go_sem] wseq COp.isStore wreg wdreg wret wskip wexit wblock wcnd cnd_t cnd_f then_n then_x then_r catch_n rnd_n rnd_x rnd_r catch_x catch_r wo_nil wo_grd grdO_t grdO_f wo_ops stpO wr_nil wr_alloc wr_guards grdR_t grdR_f wr_ops stpR evAllocs evOp env0_app eput_some eput_none eset_app Opd.ev wantedA faddrA snew_obj snew_size sput_obj sput_size av_cells av_one av_strip av_still unA eqbA fillA fldA lensA mmA mm2 mmFold List.getD_cons_zero List.getD_cons_succ List.getD_nil List.length_cons List.length_nil List.drop_zero List.drop_succ_cons List.take_succ_cons List.take_zero List.map_cons List.map_nil List.set_cons_zero List.set_cons_succ List.all_cons List.all_nil List.getElem?_cons_zero List.getElem?_cons_succ List.nil_append List.cons_append Nat.zero_add Nat.add_zero beq_self_eq_true bt bf Bool.not_true Bool.not_false Bool.and_true Bool.true_and Bool.and_false Bool.false_and and_self and_true true_and n0 n1 n2 n3 n4 m0 m1 m2 m3 c1 retA resAs resA undefA Option.map_some Option.map_none

def vP : Pr := ⟨⟨#[67, 48]⟩, .mk 0 ⟨#[]⟩ 2 []⟩
theorem chk_vP : (chk false 1 4096 vP.ty).1 = 0 := by
  show (chk false 1 4096 (.mk 0 ⟨#[]⟩ 2 [])).1 = 0
  rw [chk, if_neg (by omega), if_neg (by omega), if_neg, if_neg (by simp), if_neg (by omega), chks]
  rintro (⟨-, h⟩ | ⟨h, -⟩ | ⟨-, -, h⟩)
  · exact h rfl
  · exact h rfl
  · exact absurd ((sq_rfl ⟨#[]⟩).symm.trans h) (by decide)
theorem red_one : RedR (classL 1) [] [vP, vP] 0 [vP] := by
  refine Or.inr ⟨by decide, ?_⟩
  have h1 : addP [] vP = [vP] := rfl
  have h2 : addP [vP] vP = [vP] := by
    have : [vP].any (sameP vP) = true := by
      rw [List.any_cons]
      have : sameP vP vP = true := by unfold sameP; rw [sq_rfl]; decide
      rw [this]; rfl
    unfold addP; rw [this]; rfl
  have r1 := Rd.var (ins := []) [] 4096 vP 1 (by decide) (by decide) (by decide)
  have r2 := Rd.var (ins := []) [vP] 4095 vP 1 (by decide) (by decide) (by decide)
  rw [h1] at r1
  rw [h2] at r2
  exact .ok _ _ _ _ _ _ _ _ chk_vP r1 (.ok _ _ _ _ _ _ _ _ chk_vP r2 (.nil _ _))

set_option maxHeartbeats 16000000 in
theorem reduced_law {lv iv pv : AV} {l : List Cl} {ins : List In} {ps : List Pr} (hl : ISl clc lv l) (hi : ISl inc iv ins) (hp : ISl prc pv ps) (hbl : l.length ≤ 8796093022208) (hbp : ps.length ≤ 8796093022208) (hbi : ins.length ≤ 8796093022208) (hs : ∀ c, c ∈ l → c.sup.length ≤ 8796093022208)
    (hpl : ∀ x, x ∈ ins → x.pre.length * 72 ≤ 140737488355328) (s : St) : WC T Xb 13 [lv, iv, pv] s (fun v _ => v = .bool true) := by
  have hX : NoX Xb := U2.Xb_none
  refine WC_fn cf13 (hX 13 (by decide)) T13 (by simp [cf13]) ?_
  have hplen := hp.len
  obtain ⟨S1, hS1⟩ : ∃ S1, S1 = (s.new (.cells [.str ⟨#[]⟩, .int .i64 0, .str ⟨#[]⟩, .int .i64 0, .nils])).put s.size (some (.cells [.str ⟨#[67, 48]⟩, .int .i64 0, .str ⟨#[]⟩, .int .i64 2, .nils])) := ⟨_, rfl⟩
  have hk1 : Keep s S1 := by rw [hS1]; exact ((Keep.refl s).new' _).put' (Nat.le_refl _) _
  have o1 : S1.obj s.size = some (.cells [.str ⟨#[67, 48]⟩, .int .i64 0, .str ⟨#[]⟩, .int .i64 2, .nils]) := by rw [hS1, put_eq]
  have z1 : s.size < S1.size := by rw [hS1]; simp [St.new, St.put]
  simp only [cf13, Nat.le_add_left, go_sem, ↓reduceIte, reduceCtorEq, Nat.reduceEqDiff, Nat.reduceAdd, Nat.reduceSub, Nat.reduceMul, Nat.reduceLeDiff, Nat.reduceLT, loadA, rdCells, storeA, setAt, binA]
  rw [← hS1]
  refine W_dreg ?_
  simp only [wt_ops, stpT, Tr, o1, wt_nil, chk1, avr, Bool.or_true, Nat.le_add_left, go_sem, ↓reduceIte, reduceCtorEq, Nat.reduceEqDiff, Nat.reduceAdd, Nat.reduceSub, Nat.reduceMul, Nat.reduceLeDiff, Nat.reduceLT, loadA, rdCells, storeA, setAt, binA]
  refine WT_callx [.int .i64 1] rfl ((classList_law hX (n := 1) (by decide) S1).mono ?_)
  rintro cv S2 ⟨hcv, hk2⟩
  have o2 := hk2.obj z1 o1
  simp only [wt_ops, stpT, Tr, o1, o2, wt_nil, chk1, avr, Bool.or_true, Nat.le_add_left, go_sem, ↓reduceIte, reduceCtorEq, Nat.reduceEqDiff, Nat.reduceAdd, Nat.reduceSub, Nat.reduceMul, Nat.reduceLeDiff, Nat.reduceLT, loadA, rdCells, storeA, setAt, binA]
  have hvv : ISl prc (.sl [.str ⟨#[67, 48]⟩, .int .i64 0, .str ⟨#[]⟩, .int .i64 2, .sl [] 0 false none, .str ⟨#[67, 48]⟩, .int .i64 0, .str ⟨#[]⟩, .int .i64 2, .sl [] 0 false none] 2 true none) [vP, vP] := Or.inr ⟨true, none, rfl⟩
  have hcs : ∀ c, c ∈ classL 1 → c.sup.length ≤ 8796093022208 := fun c hc => by
    rcases List.mem_singleton.1 (show c ∈ [clsN 0] from hc) with rfl
    exact Nat.zero_le _
  refine WT_callx _ rfl ((red_law hX hcv (Or.inl ⟨rfl, rfl⟩) hvv (by decide) (by decide) (by decide) hcs (fun x hx => by cases hx) red_one S2).mono ?_)
  rintro w3 S3 ⟨ov, rfl, hov, -, hk3⟩
  have hol := hov.len
  have hz0 : ((0 : Int) != 0) = false := rfl
  have hz1 : (((1 : Nat) : Int) != 1) = false := rfl
  simp only [wt_ops, stpT, Tr, o1, o2, hz0, hz1, hol, wt_nil, chk1, avr, Bool.or_true, Nat.le_add_left, go_sem, ↓reduceIte, reduceCtorEq, Nat.reduceEqDiff, Nat.reduceAdd, Nat.reduceSub, Nat.reduceMul, Nat.reduceLeDiff, Nat.reduceLT, loadA, rdCells, storeA, setAt, binA]
  obtain ⟨e, out, hR⟩ := red_ex l ins ps
  have hout4 := red_len hR
  obtain ⟨hvars, hnil⟩ := red_v hR
  refine WO_callx [lv, iv, pv] rfl ((red_law hX hl hi hp hbl hbp hbi hs hpl hR S3).mono ?_)
  rintro w4 S4 ⟨ov4, rfl, hov4, hkn4, hk4⟩
  have hol4 := hov4.len
  by_cases he : e = 0
  · subst he
    simp only [hz0, hol4, hplen, Nat.le_add_left, go_sem, ↓reduceIte, reduceCtorEq, Nat.reduceEqDiff, Nat.reduceAdd, Nat.reduceSub, Nat.reduceMul, Nat.reduceLeDiff, Nat.reduceLT, loadA, rdCells, storeA, setAt, binA]
    refine W_loop_nat (fun k en S => ∃ i : Nat, i + k = out.length ∧ en 0 = lv ∧ en 1 = iv ∧ en 2 = pv ∧ en 10 = ov4 ∧ en 51 = ov4 ∧ en 52 = .int .i64 out.length ∧ en 53 = .int .i64 i) ?_ out.length _ _ ⟨0, by simp, ?_, ?_, ?_, ?_, ?_, ?_, ?_⟩
    · rintro k en S ⟨i, hik, e0, e1, e2, e10, e51, e52, e53⟩
      by_cases hin : i < out.length
      · obtain ⟨x, hx⟩ : ∃ x, out[i]? = some x := ⟨_, List.getElem?_eq_getElem hin⟩
        have hd : decide ((i : Int) < (out.length : Int)) = true := by simp; omega
        have hat := hov4.at prcP.len hx
        have hk0 := hvars x (List.mem_of_getElem? hx)
        simp only [prc, List.cons_append, List.nil_append] at hat
        have hkz : (kof x.ty != 0) = false := by rw [hk0]; rfl
        simp only [cf13_l2, e0, e1, e2, e10, e51, e52, e53, hd, hat, hkz, wrapc (n := i) (by omega), Nat.le_add_left, go_sem, ↓reduceIte, reduceCtorEq, Nat.reduceEqDiff, Nat.reduceAdd, Nat.reduceSub, Nat.reduceMul, Nat.reduceLeDiff, Nat.reduceLT, loadA, rdCells, storeA, setAt, binA]
        exact ⟨k - 1, by omega, i + 1, by omega, rfl⟩
      · have hd : decide ((i : Int) < (out.length : Int)) = false := by simp; omega
        simp only [cf13_l2, e0, e1, e2, e10, e51, e52, e53, hd, hplen, Nat.le_add_left, go_sem, ↓reduceIte, reduceCtorEq, Nat.reduceEqDiff, Nat.reduceAdd, Nat.reduceSub, Nat.reduceMul, Nat.reduceLeDiff, Nat.reduceLT, loadA, rdCells, storeA, setAt, binA]
        clear hd e51 e52 e53 hik hin
        refine W_loop_nat (fun k en S => ∃ i : Nat, i + k = ps.length ∧ en 0 = lv ∧ en 1 = iv ∧ en 2 = pv ∧ en 10 = ov4 ∧ en 62 = pv ∧ en 63 = .int .i64 ps.length ∧ en 64 = .int .i64 i ∧ ∀ q, q ∈ ps.take i → isC l q.cls = true) ?_ ps.length _ _ ⟨0, by simp, ?_, ?_, ?_, ?_, ?_, ?_, ?_, by simp⟩
        · clear e0 e1 e2 e10
          rintro k en S ⟨i, hik, e0, e1, e2, e10, e62, e63, e64, hkn⟩
          by_cases hin : i < ps.length
          · obtain ⟨x, hx⟩ : ∃ x, ps[i]? = some x := ⟨_, List.getElem?_eq_getElem hin⟩
            have hd : decide ((i : Int) < (ps.length : Int)) = true := by simp; omega
            have hat := hp.at prcP.len hx
            simp only [prc, List.cons_append, List.nil_append] at hat
            simp only [cf13_l1, e0, e1, e2, e10, e62, e63, e64, hd, hat, Nat.le_add_left, go_sem, ↓reduceIte, reduceCtorEq, Nat.reduceEqDiff, Nat.reduceAdd, Nat.reduceSub, Nat.reduceMul, Nat.reduceLeDiff, Nat.reduceLT, loadA, rdCells, storeA, setAt, binA]
            refine WO_callx _ rfl ((find_law hX hl hbl x.cls _).mono ?_)
            rintro w5 S5 ⟨rfl, hk5⟩
            cases hq : isC l x.cls
            · simp only [clc, hq, Nat.le_add_left, go_sem, ↓reduceIte, reduceCtorEq, Nat.reduceEqDiff, Nat.reduceAdd, Nat.reduceSub, Nat.reduceMul, Nat.reduceLeDiff, Nat.reduceLT, loadA, rdCells, storeA, setAt, binA]
              exact ⟨by simp, _, rfl, rfl⟩
            · simp only [clc, hq, e0, e1, e2, e10, e62, e63, e64, wrapc (n := i) (by omega), Nat.le_add_left, go_sem, ↓reduceIte, reduceCtorEq, Nat.reduceEqDiff, Nat.reduceAdd, Nat.reduceSub, Nat.reduceMul, Nat.reduceLeDiff, Nat.reduceLT, loadA, rdCells, storeA, setAt, binA]
              refine ⟨k - 1, by omega, i + 1, by omega, rfl, fun q hqq => ?_⟩
              rw [List.take_add_one, hx] at hqq
              rcases List.mem_append.1 hqq with h | h
              · exact hkn q h
              · rw [List.mem_singleton.1 h]; exact hq
          · have hd : decide ((i : Int) < (ps.length : Int)) = false := by simp; omega
            have hall : ∀ q, q ∈ ps → isC l q.cls = true := fun q hq => hkn q (by rw [List.take_of_length_le (by omega)]; exact hq)
            simp only [cf13_l1, e0, e1, e2, e10, e62, e63, e64, hd, hplen, Nat.le_add_left, go_sem, ↓reduceIte, reduceCtorEq, Nat.reduceEqDiff, Nat.reduceAdd, Nat.reduceSub, Nat.reduceMul, Nat.reduceLeDiff, Nat.reduceLT, loadA, rdCells, storeA, setAt, binA]
            clear hd e62 e63 e64 hik hin hkn
            refine W_loop_nat (fun k en S => ∃ i : Nat, i + k = ps.length ∧ en 0 = lv ∧ en 1 = iv ∧ en 10 = ov4 ∧ en 78 = pv ∧ en 79 = .int .i64 ps.length ∧ en 80 = .int .i64 i) ?_ ps.length _ _ ⟨0, by simp, ?_, ?_, ?_, ?_, ?_, ?_⟩
            · clear e0 e1 e2 e10
              rintro k en S ⟨i, hik, e0, e1, e10, e78, e79, e80⟩
              by_cases hin : i < ps.length
              · obtain ⟨x, hx⟩ : ∃ x, ps[i]? = some x := ⟨_, List.getElem?_eq_getElem hin⟩
                have hd : decide ((i : Int) < (ps.length : Int)) = true := by simp; omega
                have hat := hp.at prcP.len hx
                simp only [prc, List.cons_append, List.nil_append] at hat
                obtain ⟨e5, pf5, hE⟩ := ent_ex l ins out x
                have he5 := red_ent hR hall (List.mem_of_getElem? hx) hE
                subst he5
                have hcall := fun S => ent_law hl hi hov4 hkn4 hbl (by omega) hbi hs hpl hE S
                simp only [prc] at hcall
                simp only [cf13_l0, e0, e1, e10, e78, e79, e80, hd, hat, Nat.le_add_left, go_sem, ↓reduceIte, reduceCtorEq, Nat.reduceEqDiff, Nat.reduceAdd, Nat.reduceSub, Nat.reduceMul, Nat.reduceLeDiff, Nat.reduceLT, loadA, rdCells, storeA, setAt, binA]
                refine WO_callx _ rfl ((hcall _).mono ?_)
                rintro w6 S6 ⟨rfl, hk6⟩
                rw [pfc_w]
                simp only [hz0, e0, e1, e10, e78, e79, e80, wrapc (n := i) (by omega), Nat.le_add_left, go_sem, ↓reduceIte, reduceCtorEq, Nat.reduceEqDiff, Nat.reduceAdd, Nat.reduceSub, Nat.reduceMul, Nat.reduceLeDiff, Nat.reduceLT, loadA, rdCells, storeA, setAt, binA]
                exact ⟨k - 1, by omega, i + 1, by omega, rfl⟩
              · have hd : decide ((i : Int) < (ps.length : Int)) = false := by simp; omega
                simp only [cf13_l0, e0, e1, e10, e78, e79, e80, hd, Nat.le_add_left, go_sem, ↓reduceIte, reduceCtorEq, Nat.reduceEqDiff, Nat.reduceAdd, Nat.reduceSub, Nat.reduceMul, Nat.reduceLeDiff, Nat.reduceLT, loadA, rdCells, storeA, setAt, binA]
                exact ⟨by simp, _, rfl, rfl⟩
            · simp only [e0, go_sem, ↓reduceIte, reduceCtorEq, Nat.reduceEqDiff, Nat.reduceAdd, Nat.reduceSub, Nat.reduceMul, Nat.reduceLeDiff, Nat.reduceLT, loadA, rdCells, storeA, setAt, binA]
            · simp only [e1, go_sem, ↓reduceIte, reduceCtorEq, Nat.reduceEqDiff, Nat.reduceAdd, Nat.reduceSub, Nat.reduceMul, Nat.reduceLeDiff, Nat.reduceLT, loadA, rdCells, storeA, setAt, binA]
            · simp only [e10, go_sem, ↓reduceIte, reduceCtorEq, Nat.reduceEqDiff, Nat.reduceAdd, Nat.reduceSub, Nat.reduceMul, Nat.reduceLeDiff, Nat.reduceLT, loadA, rdCells, storeA, setAt, binA]
            · simp only [e2, go_sem, ↓reduceIte, reduceCtorEq, Nat.reduceEqDiff, Nat.reduceAdd, Nat.reduceSub, Nat.reduceMul, Nat.reduceLeDiff, Nat.reduceLT, loadA, rdCells, storeA, setAt, binA]
            · simp only [go_sem, ↓reduceIte, reduceCtorEq, Nat.reduceEqDiff, Nat.reduceAdd, Nat.reduceSub, Nat.reduceMul, Nat.reduceLeDiff, Nat.reduceLT, loadA, rdCells, storeA, setAt, binA]
            · simp only [go_sem, ↓reduceIte, reduceCtorEq, Nat.reduceEqDiff, Nat.reduceAdd, Nat.reduceSub, Nat.reduceMul, Nat.reduceLeDiff, Nat.reduceLT, loadA, rdCells, storeA, setAt, binA]; rfl
        · simp only [e0, go_sem, ↓reduceIte, reduceCtorEq, Nat.reduceEqDiff, Nat.reduceAdd, Nat.reduceSub, Nat.reduceMul, Nat.reduceLeDiff, Nat.reduceLT, loadA, rdCells, storeA, setAt, binA]
        · simp only [e1, go_sem, ↓reduceIte, reduceCtorEq, Nat.reduceEqDiff, Nat.reduceAdd, Nat.reduceSub, Nat.reduceMul, Nat.reduceLeDiff, Nat.reduceLT, loadA, rdCells, storeA, setAt, binA]
        · simp only [e2, go_sem, ↓reduceIte, reduceCtorEq, Nat.reduceEqDiff, Nat.reduceAdd, Nat.reduceSub, Nat.reduceMul, Nat.reduceLeDiff, Nat.reduceLT, loadA, rdCells, storeA, setAt, binA]
        · simp only [e10, go_sem, ↓reduceIte, reduceCtorEq, Nat.reduceEqDiff, Nat.reduceAdd, Nat.reduceSub, Nat.reduceMul, Nat.reduceLeDiff, Nat.reduceLT, loadA, rdCells, storeA, setAt, binA]
        · simp only [e2, go_sem, ↓reduceIte, reduceCtorEq, Nat.reduceEqDiff, Nat.reduceAdd, Nat.reduceSub, Nat.reduceMul, Nat.reduceLeDiff, Nat.reduceLT, loadA, rdCells, storeA, setAt, binA]
        · simp only [go_sem, ↓reduceIte, reduceCtorEq, Nat.reduceEqDiff, Nat.reduceAdd, Nat.reduceSub, Nat.reduceMul, Nat.reduceLeDiff, Nat.reduceLT, loadA, rdCells, storeA, setAt, binA]
        · simp only [go_sem, ↓reduceIte, reduceCtorEq, Nat.reduceEqDiff, Nat.reduceAdd, Nat.reduceSub, Nat.reduceMul, Nat.reduceLeDiff, Nat.reduceLT, loadA, rdCells, storeA, setAt, binA]; rfl
    · simp only [go_sem, ↓reduceIte, reduceCtorEq, Nat.reduceEqDiff, Nat.reduceAdd, Nat.reduceSub, Nat.reduceMul, Nat.reduceLeDiff, Nat.reduceLT, loadA, rdCells, storeA, setAt, binA]
    · simp only [go_sem, ↓reduceIte, reduceCtorEq, Nat.reduceEqDiff, Nat.reduceAdd, Nat.reduceSub, Nat.reduceMul, Nat.reduceLeDiff, Nat.reduceLT, loadA, rdCells, storeA, setAt, binA]
    · simp only [go_sem, ↓reduceIte, reduceCtorEq, Nat.reduceEqDiff, Nat.reduceAdd, Nat.reduceSub, Nat.reduceMul, Nat.reduceLeDiff, Nat.reduceLT, loadA, rdCells, storeA, setAt, binA]
    · simp only [go_sem, ↓reduceIte, reduceCtorEq, Nat.reduceEqDiff, Nat.reduceAdd, Nat.reduceSub, Nat.reduceMul, Nat.reduceLeDiff, Nat.reduceLT, loadA, rdCells, storeA, setAt, binA]
    · simp only [go_sem, ↓reduceIte, reduceCtorEq, Nat.reduceEqDiff, Nat.reduceAdd, Nat.reduceSub, Nat.reduceMul, Nat.reduceLeDiff, Nat.reduceLT, loadA, rdCells, storeA, setAt, binA]
    · simp only [go_sem, ↓reduceIte, reduceCtorEq, Nat.reduceEqDiff, Nat.reduceAdd, Nat.reduceSub, Nat.reduceMul, Nat.reduceLeDiff, Nat.reduceLT, loadA, rdCells, storeA, setAt, binA]
    · simp only [go_sem, ↓reduceIte, reduceCtorEq, Nat.reduceEqDiff, Nat.reduceAdd, Nat.reduceSub, Nat.reduceMul, Nat.reduceLeDiff, Nat.reduceLT, loadA, rdCells, storeA, setAt, binA]; rfl
  · obtain rfl := hnil he
    have hez : (e != 0) = true := by simpa using he
    have hz2 : ((([] : List Pr).length : Int) == 0) = true := rfl
    simp only [hez, hol4, hz2, go_sem, ↓reduceIte, reduceCtorEq, Nat.reduceEqDiff, Nat.reduceAdd, Nat.reduceSub, Nat.reduceMul, Nat.reduceLeDiff, Nat.reduceLT, loadA, rdCells, storeA, setAt, binA]
    exact ⟨by simp, _, rfl, rfl⟩
end Go.Am.U3

/- Classes: the arguments. Conditions: none. -/
namespace Go.Am.U3
open Go.Am.Un Go.So Go.Proofs Go.RowKit
open Go.Am.U2 (Xb)
set_option maxRecDepth 100000
theorem b9 : Tryd.prog.bytesOf 9 = 16 := by kernel_rfl
theorem b63 : Tryd.prog.bytesOf 63 = 72 := by kernel_rfl
theorem b67 : Tryd.prog.bytesOf 67 = 64 := by kernel_rfl
theorem b123 : Tryd.prog.bytesOf 123 = 96 := by kernel_rfl
theorem str_of : ∀ cs, Ty Tryd.prog 9 cs → ∃ s, cs = scc s ∧ True := fun cs h => by
  obtain ⟨s, rfl, -⟩ := ty_str Tryd.underlying9 h
  exact ⟨s, rfl, trivial⟩
theorem pr_of : ∀ cs, Ty Tryd.prog 63 cs → ∃ p, cs = prc p ∧ True := fun cs h => by
  obtain ⟨us, bs, rfl, h1, h2⟩ := tyf_cons (ty_struct Tryd.underlying63 h)
  obtain ⟨us2, bs2, rfl, h3, h4⟩ := tyf_cons h2
  obtain ⟨c, rfl, -⟩ := ty_str Tryd.underlying9 h1
  obtain ⟨t, rfl⟩ := U1.tm_of _ _ (Nat.le_refl _) h3
  have hnil := tyf_nil h4
  subst hnil
  exact ⟨⟨c, t⟩, by rw [U1.tyc_w, U1.tyw]; rfl, trivial⟩
theorem cl_of : ∀ cs, Ty Tryd.prog 67 cs → ∃ c, cs = clc c ∧ c.sup.length ≤ 8796093022208 := fun cs h => by
  obtain ⟨us, bs, rfl, h1, h2⟩ := tyf_cons (ty_struct Tryd.underlying67 h)
  obtain ⟨us2, bs2, rfl, h3, h4⟩ := tyf_cons h2
  obtain ⟨us3, bs3, rfl, h5, h6⟩ := tyf_cons h4
  obtain ⟨c, rfl, -⟩ := ty_str Tryd.underlying9 h1
  obtain ⟨len, ds, rfl, h7, hb⟩ := ty_slice Tryd.underlying45 h3
  obtain ⟨sup, rfl, rfl, -⟩ := tyn_of str_of _ _ h7
  obtain ⟨opn, ops, rfl, -, -⟩ := ty_slice Tryd.underlying65 h5
  have hnil := tyf_nil h6
  subst hnil
  rw [b9] at hb
  simp only [reachBytes] at hb
  exact ⟨⟨c, sup, opn, ops⟩, rfl, by show sup.length ≤ _; omega⟩
theorem in_of : ∀ cs, Ty Tryd.prog 123 cs → ∃ x, cs = inc x ∧ x.pre.length * 72 ≤ 140737488355328 := fun cs h => by
  obtain ⟨us, bs, rfl, h1, h2⟩ := tyf_cons (ty_struct Tryd.underlying123 h)
  obtain ⟨us2, bs2, rfl, h3, h4⟩ := tyf_cons h2
  obtain ⟨us3, bs3, rfl, h5, h6⟩ := tyf_cons h4
  obtain ⟨c, rfl, -⟩ := ty_str Tryd.underlying9 h1
  obtain ⟨t, rfl⟩ := U1.tm_of _ _ (Nat.le_refl _) h3
  obtain ⟨len, ds, rfl, h7, hb⟩ := ty_slice Tryd.underlying64 h5
  obtain ⟨pre, rfl, rfl, -⟩ := tyn_of pr_of _ _ h7
  have hnil := tyf_nil h6
  subst hnil
  rw [b63] at hb
  simp only [reachBytes] at hb
  exact ⟨⟨c, t, pre⟩, by rw [U1.tyc_w, U1.tyw]; rfl, by show pre.length * 72 ≤ _; omega⟩
theorem args_cl {a : AV} (h : TyA Tryd.prog 60 a) : ∃ l, ISl clc a l ∧ l.length ≤ 8796093022208 ∧ ∀ c, c ∈ l → c.sup.length ≤ 8796093022208 := by
  obtain ⟨l, h1, -, h3, h2⟩ := slice_arg Tryd.underlying60 cl_of h
  rw [b67] at h2
  simp only [reachBytes] at h2
  exact ⟨l, h1, by omega, h3⟩
theorem args_in {a : AV} (h : TyA Tryd.prog 70 a) : ∃ l, ISl inc a l ∧ l.length ≤ 8796093022208 ∧ ∀ x, x ∈ l → x.pre.length * 72 ≤ 140737488355328 := by
  obtain ⟨l, h1, -, h3, h2⟩ := slice_arg Tryd.underlying70 in_of h
  rw [b123] at h2
  simp only [reachBytes] at h2
  exact ⟨l, h1, by omega, h3⟩
theorem args_pr {a : AV} (h : TyA Tryd.prog 64 a) : ∃ l, ISl prc a l ∧ Known a ∧ l.length * 72 ≤ reachBytes := by
  obtain ⟨l, h1, h3, -, h2⟩ := slice_arg Tryd.underlying64 pr_of h
  rw [b63] at h2
  exact ⟨l, h1, h3, h2⟩
theorem reduced_all : ∀ us, TyAs Tryd.prog [60, 70, 64] us → WC T Xb 13 us st0 (fun v _ => v = .bool true) := by
  intro us h
  cases h with | cons t a ts us h1 hs =>
  cases hs with | cons t b ts us h2 hs =>
  cases hs with | cons t c ts us h3 hs =>
  cases hs
  obtain ⟨l, hl, hbl, hs⟩ := args_cl h1
  obtain ⟨ins, hi, hbi, hpl⟩ := args_in h2
  obtain ⟨ps, hp, -, hb⟩ := args_pr h3
  simp only [reachBytes] at hb
  exact reduced_law hl hi hp hbl (by omega) hbi hs hpl st0
end Go.Am.U3

/- Classes: the package variables. Conditions: none. -/
namespace Go.Am.U3
open Go.Proofs Go.RowKit
set_option maxRecDepth 100000
theorem laid_tail {P : Program} {x : String × DataW Unit} {r : List (String × DataW Unit)} {w : World} (h : laidMet P (x :: r) w) : laidMet P r w := by
  obtain ⟨ps, ⟨g, t, cs, fuel, p, q, hg, ht, hv, hd, hr, rfl⟩, hn, hf⟩ := h
  exact ⟨q, hr, (List.nodup_append.1 hn).2.1, fun b off hb => hf b off (List.mem_append_right _ hb)⟩
theorem globR {W : World} (h : laidMetH Tryd.prog Go.Proofs.YtfleakoephmgaaaDoor.Rows.classesReducedRow.laid W) : GlobR U1.G0 (rho0 W) W 0 := by
  refine U1.glob ?_
  rw [MakeChecks.laidMetH_plain _ _ _ (by kernel_rfl)] at h ⊢
  exact laid_tail (laid_tail (laid_tail h))
end Go.Am.U3

/- The wrap of a row that lists variables, the world's shape kept. Conditions: none. -/
namespace Go
variable {H : Type} {enc : TypeId × Value → H}

theorem returnsInHanded_of_change_and_shaped {a : Assume} {C : Checked} {os : Os} {f : FuncId} {fn : Func} {s : ChangeSpec} {conds : List PathCond} {apart fresh handsOn again : Bool} {X : World → Array Value → Prop}
    (hX : ∀ (w w' : World) (args : Array Value), w.heap = w'.heap → X w args → X w' args)
    (own : ownKnob C.prog.godebug = none) (started : os.Started) (noInit : C.prog.inits.idxOf? f = none) (hfn : C.prog.funcs[f]? = some fn)
    (witness : ∃ (w : World) (tape : Tape) (i : Input), w.os = os ∧ (w.forCall tape i).Shaped C.prog ∧ i.vars = [] ∧ Input.okWide C.prog (w.forCall tape i) .any w.heap.size f i ∧
      ((s.pre enc C.prog fn conds apart (w.forCall tape i).memory i.args ∧ X (w.forCall tape i).memory i.args) ∧ sizedMet enc C.prog fn (OpenSpec.ofChange s) apart (w.forCall tape i).memory i.args) ∧ a.holds C.prog (lone (Frame.enter C.prog f i.args .normal) [] (w.forCall tape i)))
    (contract : ∀ (W : World) (base : Nat) (args : Array Value) (ds gs : List (DataW H)) (before : List MemPlace),
      (∀ (j : Nat) t v, fn.params[j]? = some t → args[j]? = some v → Value.okWide C.prog W .any base t v) →
      DataW.Whole enc C.prog fn.params.toList s.vars apart W args.toList ds gs before →
      (DataW.weightsEach C.prog (fn.params.toList ++ s.plain.varTypes C.prog) (ds ++ gs)).all (· ≤ reachBytes) = true → X W args → W.ShapedOpen C.prog →
      Calls C.prog f args W fun e W' => ∃ v, e = .returned v ∧ s.post enc C.prog fn apart fresh handsOn again W args v W') :
    ReturnsInHanded a C os f .any (fun w args => (s.pre enc C.prog fn conds apart w args ∧ X w args) ∧ sizedMet enc C.prog fn (OpenSpec.ofChange s) apart w args) (s.post enc C.prog fn apart fresh handsOn again) := by
  refine returnsInHanded_of_calls own started noInit witness ?_
  intro w tape i _ hsh _ hok hpre hholds
  obtain ⟨_, _, _, fn', hfn', _, _, _, _, hval⟩ := hok
  have e : fn' = fn := Option.some.inj (hfn'.symm.trans hfn)
  subst e
  obtain ⟨⟨⟨ds, gs, before, hw, hc⟩, hx⟩, hz⟩ := hpre
  have hw' := DataW.Whole.of_heap (w' := w.forCall tape i) (by rfl) hw
  refine (contract (w.forCall tape i) w.heap.size i.args ds gs before hval hw' (hz.weights hw) (hX _ _ _ (by rfl) hx) hsh).mono fun e W' ⟨v, he, hp⟩ => ?_
  subst he
  exact ChangeSpec.post_blind hp
end Go
