/- Names of classes: small numbers as texts, and lists of classes. Conditions: none. -/
import Derived.Test.YtfleakoephmgaaaDoorClK
set_option linter.unusedSimpArgs false
set_option linter.unusedVariables false
namespace Go.Am.U3
open Go.Am.Un Go.So
open Go.Am.U1 (NoX drop_at ne_a ne_b ne_c ne_d avr tyw tyc_w tycP isl_tycs len_tszs tsz_pos)
open Go.Am.U2 (Xb)
set_option maxRecDepth 100000
set_option linter.unusedSimpArgs false
attribute [local go_sem] wseq COp.isStore wreg wdreg wret wskip wexit wblock wcnd cnd_t cnd_f then_n then_x then_r catch_n rnd_n rnd_x rnd_r catch_x catch_r wo_nil wo_grd grdO_t grdO_f wo_ops stpO wr_nil wr_alloc wr_guards grdR_t grdR_f wr_ops stpR evAllocs evOp env0_app eput_some eput_none eset_app Opd.ev wantedA faddrA snew_obj snew_size sput_obj sput_size av_cells av_one av_strip av_still unA eqbA fillA fldA lensA mmA mm2 mmFold List.getD_cons_zero List.getD_cons_succ List.getD_nil List.length_cons List.length_nil List.drop_zero List.drop_succ_cons List.take_succ_cons List.take_zero List.map_cons List.map_nil List.set_cons_zero List.set_cons_succ List.all_cons List.all_nil List.getElem?_cons_zero List.getElem?_cons_succ List.nil_append List.cons_append Nat.zero_add Nat.add_zero beq_self_eq_true bt bf Bool.not_true Bool.not_false Bool.and_true Bool.true_and Bool.and_false Bool.false_and and_self and_true true_and n0 n1 n2 n3 n4 m0 m1 m2 m3 c1 retA resAs resA undefA Option.map_some Option.map_none
variable {X : Ext}

def digs : ByteArray := ⟨#[48, 49, 50, 51, 52, 53, 54, 55, 56, 57, 97, 98, 99, 100, 101, 102, 103, 104, 105, 106, 107, 108, 109, 110, 111, 112, 113, 114, 115, 116, 117, 118, 119, 120, 121, 122]⟩
/-- One digit. -/
def dg : Nat → ByteArray
  | 0 => ⟨#[48]⟩
  | 1 => ⟨#[49]⟩
  | 2 => ⟨#[50]⟩
  | 3 => ⟨#[51]⟩
  | 4 => ⟨#[52]⟩
  | 5 => ⟨#[53]⟩
  | 6 => ⟨#[54]⟩
  | 7 => ⟨#[55]⟩
  | _ => ⟨#[56]⟩
/-- The name of a class. -/
def cN : Nat → ByteArray
  | 0 => ⟨#[67, 48]⟩
  | 1 => ⟨#[67, 49]⟩
  | 2 => ⟨#[67, 50]⟩
  | 3 => ⟨#[67, 51]⟩
  | 4 => ⟨#[67, 52]⟩
  | 5 => ⟨#[67, 53]⟩
  | 6 => ⟨#[67, 54]⟩
  | 7 => ⟨#[67, 55]⟩
  | _ => ⟨#[67, 56]⟩
theorem sls_dg {i : Nat} (h : i < 9) : slsA (.str digs) (some (.int .i64 i)) (some (.int .i64 (i + 1 : Nat))) = some (.str (dg i)) := by
  match i, h with
  | 0, _ => rfl
  | 1, _ => rfl
  | 2, _ => rfl
  | 3, _ => rfl
  | 4, _ => rfl
  | 5, _ => rfl
  | 6, _ => rfl
  | 7, _ => rfl
  | 8, _ => rfl
theorem dg_size {i : Nat} (h : i < 9) : (dg i).size = 1 := by
  match i, h with
  | 0, _ => rfl
  | 1, _ => rfl
  | 2, _ => rfl
  | 3, _ => rfl
  | 4, _ => rfl
  | 5, _ => rfl
  | 6, _ => rfl
  | 7, _ => rfl
  | 8, _ => rfl
theorem mx_i64 : IntKind.i64.max = 9223372036854775807 := by decide
theorem dg_max {i : Nat} (h : i < 9) : (((#[67] : Array UInt8).size + (dg i).size : Nat) : Int) ≤ IntKind.i64.max := by
  rw [dg_size h, mx_i64]; decide
theorem add_dg {i : Nat} (h : i < 9) : (⟨#[67]⟩ : ByteArray) ++ dg i = cN i := by
  match i, h with
  | 0, _ => rfl
  | 1, _ => rfl
  | 2, _ => rfl
  | 3, _ => rfl
  | 4, _ => rfl
  | 5, _ => rfl
  | 6, _ => rfl
  | 7, _ => rfl
  | 8, _ => rfl
theorem small_law (hX : NoX X) {i : Nat} (hi : i < 9) (s : St) : WC T X 103 [.int .i64 i] s (fun v s' => v = .str (dg i) ∧ Keep s s') := by
  refine WC_fn cf103 (hX 103 (by decide)) T103 (by simp [cf103]) ?_
  have h10 : decide ((i : Int) < 10) = true := by simp; omega
  have hs := sls_dg hi
  unfold digs at hs
  simp only [cf103, h10, wrapc (n := i) (by omega), hs, go_sem, ↓reduceIte, reduceCtorEq, Nat.reduceEqDiff, Nat.reduceAdd, Nat.reduceSub, Nat.reduceMul, Nat.reduceLeDiff, Nat.reduceLT, loadA, rdCells, storeA, setAt, binA]
  exact ⟨by simp, _, rfl, rfl, Keep.refl s⟩
theorem itoa_law (hX : NoX X) {i : Nat} (hi : i < 9) (s : St) : WC T X 64 [.int .i64 i] s (fun v s' => v = .str (dg i) ∧ Keep s s') := by
  refine WC_fn cf64 (hX 64 (by decide)) T64 (by simp [cf64]) ?_
  simp only [cf64, go_sem, ↓reduceIte, reduceCtorEq, Nat.reduceEqDiff, Nat.reduceAdd, Nat.reduceSub, Nat.reduceMul, Nat.reduceLeDiff, Nat.reduceLT, loadA, rdCells, storeA, setAt, binA]
  refine WO_callx [.int .i64 i] rfl (WC.mono (Q := fun v s' => v = .str (dg i) ∧ Keep s s') ?_ ?_)
  · refine WC_fn cf84 (hX 84 (by decide)) T84 (by simp [cf84]) ?_
    simp only [cf84, go_sem, ↓reduceIte, reduceCtorEq, Nat.reduceEqDiff, Nat.reduceAdd, Nat.reduceSub, Nat.reduceMul, Nat.reduceLeDiff, Nat.reduceLT, loadA, rdCells, storeA, setAt, binA]
    refine WO_callx [.int .i64 i, .int .i64 10] rfl (WC.mono (Q := fun v s' => v = .str (dg i) ∧ Keep s s') ?_ ?_)
    · refine WC_fn cf96 (hX 96 (by decide)) T96 (by simp [cf96]) ?_
      have h0 : decide (0 ≤ (i : Int)) = true := by simp
      have h1 : decide ((i : Int) < 100) = true := by simp; omega
      have ht : ((10 : Int) == 10) = true := rfl
      simp only [cf96, h0, h1, ht, go_sem, ↓reduceIte, reduceCtorEq, Nat.reduceEqDiff, Nat.reduceAdd, Nat.reduceSub, Nat.reduceMul, Nat.reduceLeDiff, Nat.reduceLT, loadA, rdCells, storeA, setAt, binA]
      refine WO_callx [.int .i64 i] rfl ((small_law hX hi s).mono ?_)
      rintro v s1 ⟨rfl, hk⟩
      simp only [go_sem, ↓reduceIte, reduceCtorEq, Nat.reduceEqDiff, Nat.reduceAdd, Nat.reduceSub, Nat.reduceMul, Nat.reduceLeDiff, Nat.reduceLT, loadA, rdCells, storeA, setAt, binA]
      exact ⟨by simp, _, rfl, rfl, hk⟩
    · rintro v s1 ⟨rfl, hk⟩
      simp only [go_sem, ↓reduceIte, reduceCtorEq, Nat.reduceEqDiff, Nat.reduceAdd, Nat.reduceSub, Nat.reduceMul, Nat.reduceLeDiff, Nat.reduceLT, loadA, rdCells, storeA, setAt, binA]
      exact ⟨by simp, _, rfl, rfl, hk⟩
  · rintro v s1 ⟨rfl, hk⟩
    simp only [go_sem, ↓reduceIte, reduceCtorEq, Nat.reduceEqDiff, Nat.reduceAdd, Nat.reduceSub, Nat.reduceMul, Nat.reduceLeDiff, Nat.reduceLT, loadA, rdCells, storeA, setAt, binA]
    exact ⟨by simp, _, rfl, rfl, hk⟩

/-- The class of a number, and the first classes. -/
def clsN (i : Nat) : Cl := ⟨cN i, match i with | 0 => [] | j + 1 => [cN j], 0, []⟩
def classL : Nat → List Cl
  | 0 => []
  | n + 1 => classL n ++ [clsN n]
theorem classL_len : ∀ n, (classL n).length = n
  | 0 => rfl
  | n + 1 => by rw [classL, List.length_append, classL_len n]; rfl

set_option maxHeartbeats 4000000 in
theorem classList_law (hX : NoX X) {n : Nat} (hn : n ≤ 8) (s : St) : WC T X 36 [.int .i64 n] s (fun v s' => ISl clc v (classL n) ∧ Keep s s') := by
  refine WC_fn cf36 (hX 36 (by decide)) T36 (by simp [cf36]) ?_
  simp only [cf36, Nat.le_add_left, go_sem, ↓reduceIte, reduceCtorEq, Nat.reduceEqDiff, Nat.reduceAdd, Nat.reduceSub, Nat.reduceMul, Nat.reduceLeDiff, Nat.reduceLT, loadA, rdCells, storeA, setAt, binA]
  refine W_loop_nat (fun k e S => ∃ (i : Nat) (ov : AV) (tok : Option Nat), i + k = n ∧ e 3 = ov ∧ e 6 = .int .i64 n ∧ e 7 = .int .i64 i ∧ Grw clc s.size S ov (classL i) tok ∧ Keep s S) ?_ n _ _ ⟨0, .nils, none, by simp, ?_, ?_, ?_, Or.inl ⟨rfl, rfl, rfl⟩, Keep.refl s⟩
  · rintro k e S ⟨i, ov, tok, hik, e3, e6, e7, hg, hk⟩
    by_cases hin : i < n
    · have hd : decide ((i : Int) < (n : Int)) = true := by simp; omega
      have htk : ∀ j, j < s.size → some j ≠ tok := fun j hj ht => by
        rcases hg with ⟨-, -, h⟩ | ⟨k2, h, -, -, -, -, h6⟩
        · rw [h] at ht; cases ht
        · rw [h] at ht; cases ht; omega
      have hgk : ∀ S', Keep S S' → Grw clc s.size S' ov (classL i) tok := fun S' hk' => hg.keep hk'.1 fun k2 ht => by
        rcases hg with ⟨-, -, h⟩ | ⟨k3, h, -, -, -, h5, -⟩
        · rw [h] at ht; cases ht
        · rw [h] at ht; cases ht; exact hk'.2 _ h5
      have had := add_dg (i := i) (by omega)
      simp only [cf36_l0, e3, e6, e7, hd, go_sem, ↓reduceIte, reduceCtorEq, Nat.reduceEqDiff, Nat.reduceAdd, Nat.reduceSub, Nat.reduceMul, Nat.reduceLeDiff, Nat.reduceLT, loadA, rdCells, storeA, setAt, binA]
      refine WO_callx [.int .i64 i] rfl ((itoa_law hX (by omega : i < 9) S).mono ?_)
      rintro v S2 ⟨rfl, hk2⟩
      have hmx := dg_max (i := i) (by omega)
      cases i with
      | zero =>
        have hd0 : decide (((0 : Nat) : Int) > 0) = false := by decide
        obtain ⟨S3, hS3⟩ : ∃ S3, S3 = (S2.new (.cells [.str ⟨#[]⟩, .nils, .nils])).put S2.size (some (.cells [.str (cN 0), .nils, .nils])) := ⟨_, rfl⟩
        have hk23 : Keep S2 S3 := by rw [hS3]; exact ((Keep.refl S2).new' _).put' (Nat.le_refl _) _
        have hkk : Keep S S3 := hk2.trans hk23
        obtain ⟨v', S4, hap, hg4, hz4, hk4⟩ := (hgk S3 hkk).app clcP (Nat.le_trans hk.1 hkk.1) (clsN 0) (bytes := 64) (by rw [classL_len]; decide)
        have hap' : appendA S3 false 3 64 ov (.sl [.str (cN 0), .sl [] 0 false none, .sl [] 0 false none] 1 true none) = some (v', S4) := hap
        simp only [had, hmx, hd0, e3, e6, e7, Nat.le_add_left, go_sem, ↓reduceIte, reduceCtorEq, Nat.reduceEqDiff, Nat.reduceAdd, Nat.reduceSub, Nat.reduceMul, Nat.reduceLeDiff, Nat.reduceLT, loadA, rdCells, storeA, setAt, binA]
        rw [← hS3]
        have z2 := hk2.1
        have z23 := hk23.1
        have hz := hk.1
        simp only [hap', e3, e6, e7, wrapc (n := 0) (by decide), go_sem, ↓reduceIte, reduceCtorEq, Nat.reduceEqDiff, Nat.reduceAdd, Nat.reduceSub, Nat.reduceMul, Nat.reduceLeDiff, Nat.reduceLT, loadA, rdCells, storeA, setAt, binA]
        refine ⟨k - 1, by omega, 1, v', _, by omega, rfl, rfl, hg4, by omega, fun j hj => ?_⟩
        rw [hk4 j (by omega) (htk j hj), hkk.2 j (by omega), hk.2 j hj]
      | succ j =>
        have hd0 : decide (((j + 1 : Nat) : Int) > 0) = true := decide_eq_true (by omega)
        have hw : IntKind.i64.wrap (((j + 1 : Nat) : Int) - 1) = ((j : Nat) : Int) := by rw [IntKind.wrap_i64]; omega
        have had2 := add_dg (i := j) (by omega)
        have hmx2 := dg_max (i := j) (by omega)
        obtain ⟨S3, hS3⟩ : ∃ S3, S3 = (S2.new (.cells [.str ⟨#[]⟩, .nils, .nils])).put S2.size (some (.cells [.str (cN (j + 1)), .nils, .nils])) := ⟨_, rfl⟩
        have hk23 : Keep S2 S3 := by rw [hS3]; exact ((Keep.refl S2).new' _).put' (Nat.le_refl _) _
        have o3 : S3.obj S2.size = some (.cells [.str (cN (j + 1)), .nils, .nils]) := by rw [hS3, put_eq]
        have z3 : S2.size < S3.size := by rw [hS3]; simp [St.new, St.put]
        simp only [had, hmx, hd0, e3, e6, e7, hw, Nat.le_add_left, go_sem, ↓reduceIte, reduceCtorEq, Nat.reduceEqDiff, Nat.reduceAdd, Nat.reduceSub, Nat.reduceMul, Nat.reduceLeDiff, Nat.reduceLT, loadA, rdCells, storeA, setAt, binA]
        rw [← hS3]
        refine WO_callx [.int .i64 j] rfl ((itoa_law hX (by omega : j < 9) S3).mono ?_)
        rintro v S4 ⟨rfl, hk34⟩
        have o4 := hk34.obj z3 o3
        have z4 := hk34.lt z3
        obtain ⟨S5, hS5⟩ : ∃ S5, S5 = S4.put S2.size (some (.cells [.str (cN (j + 1)), .sl [.str (cN j)] 1 true none, .nils])) := ⟨_, rfl⟩
        have hkk : Keep S S5 := by
          rw [hS5]; exact ((hk2.trans hk23).trans hk34).put' hk2.1 _
        obtain ⟨v', S6, hap, hg6, hz6, hk6⟩ := (hgk S5 hkk).app clcP (Nat.le_trans hk.1 hkk.1) (clsN (j + 1)) (bytes := 64) (by rw [classL_len]; omega)
        have hap' : appendA S5 false 3 64 ov (.sl [.str (cN (j + 1)), .sl [.str (cN j)] 1 false none, .sl [] 0 false none] 1 true none) = some (v', S6) := hap
        have z5 := hkk.1
        have hz := hk.1
        simp only [had2, hmx2, o4, e3, e6, e7, Nat.le_add_left, go_sem, ↓reduceIte, reduceCtorEq, Nat.reduceEqDiff, Nat.reduceAdd, Nat.reduceSub, Nat.reduceMul, Nat.reduceLeDiff, Nat.reduceLT, loadA, rdCells, storeA, setAt, binA]
        rw [← hS5]
        simp only [hap', e3, e6, e7, wrapc (n := j + 1) (by omega), go_sem, ↓reduceIte, reduceCtorEq, Nat.reduceEqDiff, Nat.reduceAdd, Nat.reduceSub, Nat.reduceMul, Nat.reduceLeDiff, Nat.reduceLT, loadA, rdCells, storeA, setAt, binA]
        refine ⟨k - 1, by omega, j + 1 + 1, v', _, by omega, rfl, rfl, hg6, by omega, fun q hj => ?_⟩
        rw [hk6 q (by omega) (htk q hj), hkk.2 q (by omega), hk.2 q hj]
    · have hd : decide ((i : Int) < (n : Int)) = false := by simp; omega
      simp only [cf36_l0, e3, e6, e7, hd, go_sem, ↓reduceIte, reduceCtorEq, Nat.reduceEqDiff, Nat.reduceAdd, Nat.reduceSub, Nat.reduceMul, Nat.reduceLeDiff, Nat.reduceLT, loadA, rdCells, storeA, setAt, binA]
      exact ⟨by simp, _, rfl, by rw [show n = i by omega]; exact hg.isl, hk⟩
  · simp only [go_sem, ↓reduceIte, reduceCtorEq, Nat.reduceEqDiff, Nat.reduceAdd, Nat.reduceSub, Nat.reduceMul, Nat.reduceLeDiff, Nat.reduceLT, loadA, rdCells, storeA, setAt, binA]
  · simp only [go_sem, ↓reduceIte, reduceCtorEq, Nat.reduceEqDiff, Nat.reduceAdd, Nat.reduceSub, Nat.reduceMul, Nat.reduceLeDiff, Nat.reduceLT, loadA, rdCells, storeA, setAt, binA]
  · simp only [go_sem, ↓reduceIte, reduceCtorEq, Nat.reduceEqDiff, Nat.reduceAdd, Nat.reduceSub, Nat.reduceMul, Nat.reduceLeDiff, Nat.reduceLT, loadA, rdCells, storeA, setAt, binA]; rfl
end Go.Am.U3

/- Reduce, as the machine runs it. Conditions: none. -/
namespace Go.Am.U3
open Go.Am.Un Go.So
open Go.Am.U1 (NoX drop_at ne_a ne_b ne_c ne_d avr tyw tyc_w tycP isl_tycs len_tszs tsz_pos)
open Go.Am.U2 (Xb)
set_option maxRecDepth 100000
set_option linter.unusedSimpArgs false
attribute [local go_sem] wseq COp.isStore wreg wdreg wret wskip wexit wblock wcnd cnd_t cnd_f then_n then_x then_r catch_n rnd_n rnd_x rnd_r catch_x catch_r wo_nil wo_grd grdO_t grdO_f wo_ops stpO wr_nil wr_alloc wr_guards grdR_t grdR_f wr_ops stpR evAllocs evOp env0_app eput_some eput_none eset_app Opd.ev wantedA faddrA snew_obj snew_size sput_obj sput_size av_cells av_one av_strip av_still unA eqbA fillA fldA lensA mmA mm2 mmFold List.getD_cons_zero List.getD_cons_succ List.getD_nil List.length_cons List.length_nil List.drop_zero List.drop_succ_cons List.take_succ_cons List.take_zero List.map_cons List.map_nil List.set_cons_zero List.set_cons_succ List.all_cons List.all_nil List.getElem?_cons_zero List.getElem?_cons_succ List.nil_append List.cons_append Nat.zero_add Nat.add_zero beq_self_eq_true bt bf Bool.not_true Bool.not_false Bool.and_true Bool.true_and Bool.and_false Bool.false_and and_self and_true true_and n0 n1 n2 n3 n4 m0 m1 m2 m3 c1 retA resAs resA undefA Option.map_some Option.map_none
variable {X : Ext}

/-- Requirements, one behind the other. -/
inductive RdT (ins : List In) : List Pr → Int → List Pr → Int → List Pr → Prop
  | nil (out : List Pr) (left : Int) : RdT ins out left [] 0 out
  | chk (out : List Pr) (left : Int) (p : Pr) (ps : List Pr) (h : (chk false 1 4096 p.ty).1 ≠ 0) : RdT ins out left (p :: ps) (chk false 1 4096 p.ty).1 []
  | bad (out o1 : List Pr) (left l1 e : Int) (p : Pr) (ps : List Pr) (hc : (chk false 1 4096 p.ty).1 = 0) (h : Rd ins out left (.one p 1) e o1 l1) (he : e ≠ 0) : RdT ins out left (p :: ps) e []
  | ok (out o1 o2 : List Pr) (left l1 e : Int) (p : Pr) (ps : List Pr) (hc : (chk false 1 4096 p.ty).1 = 0) (h : Rd ins out left (.one p 1) 0 o1 l1) (hr : RdT ins o1 l1 ps e o2) : RdT ins out left (p :: ps) e o2
/-- What Reduce answers. -/
def RedR (l : List Cl) (ins : List In) (ps : List Pr) (e : Int) (out : List Pr) : Prop :=
  (inst l ins ≠ 0 ∧ e = inst l ins ∧ out = []) ∨ (inst l ins = 0 ∧ RdT ins [] 4096 ps e out)
theorem grw_known {s : St} {v : AV} {l : List Pr} {tok : Option Nat} (h : Grw prc 0 s v l tok) : Known v := by
  rcases h with ⟨rfl, -, -⟩ | ⟨k, -, rfl, h, -⟩
  · exact Or.inl rfl
  · exact Or.inr ⟨_, _, _, _, rfl, Or.inl h⟩

set_option maxHeartbeats 16000000 in
theorem red_law (hX : NoX X) {lv iv pv : AV} {l : List Cl} {ins : List In} {ps : List Pr} (hl : ISl clc lv l) (hi : ISl inc iv ins) (hp : ISl prc pv ps) (hbl : l.length ≤ 8796093022208) (hbp : ps.length ≤ 8796093022208) (hbi : ins.length ≤ 8796093022208) (hs : ∀ c, c ∈ l → c.sup.length ≤ 8796093022208)
    (hpl : ∀ x, x ∈ ins → x.pre.length * 72 ≤ 140737488355328) {e : Int} {out : List Pr} (h : RedR l ins ps e out) (s : St) :
    WC T X 43 [lv, iv, pv] s (fun r s' => ∃ ov, r = .tup [ov, .int .i64 e] ∧ ISl prc ov out ∧ Known ov ∧ Keep s s') := by
  refine WC_fn cf43 (hX 43 (by decide)) T43 (by simp [cf43]) ?_
  have hil := fun S => inst_law hX hl hi hs hbl hbi (fun x hx => by have := hpl x hx; omega) S
  have hplen := hp.len
  simp only [cf43, go_sem, ↓reduceIte, reduceCtorEq, Nat.reduceEqDiff, Nat.reduceAdd, Nat.reduceSub, Nat.reduceMul, Nat.reduceLeDiff, Nat.reduceLT, loadA, rdCells, storeA, setAt, binA]
  refine WO_callx _ rfl ((hil s).mono ?_)
  rintro w2 S2 ⟨rfl, hk2⟩
  have z2 := hk2.1
  cases hc : (inst l ins != 0)
  · have hin : inst l ins = 0 := by simpa using hc
    have hrun : RdT ins [] 4096 ps e out := by
      rcases h with ⟨h0, -⟩ | ⟨-, h⟩
      · exact absurd hin h0
      · exact h
    have hpl2 := inst_pl hin hpl
    have hb4 := (inst_ok hin).2.1
    obtain ⟨S3, hS3⟩ : ∃ S3, S3 = ((S2.new (.cells [.nils])).new (.cells [.int .i64 0])).put (S2.size + 1) (some (.cells [.int .i64 4096])) := ⟨_, rfl⟩
    have hk3 : Keep S2 S3 := by rw [hS3]; exact (((Keep.refl S2).new' _).new' _).put' (by omega) _
    have o9 : S3.obj S2.size = some (.cells [.nils]) := by rw [hS3, put_ne (by omega), new_ne (by simp [St.new])]; exact new_eq rfl
    have o10 : S3.obj (S2.size + 1) = some (.cells [.int .i64 4096]) := by rw [hS3, put_eq]
    have z3 : S3.size = S2.size + 2 := by rw [hS3]; rfl
    simp only [hc, hplen, Nat.le_add_left, setAt, go_sem, ↓reduceIte, reduceCtorEq, Nat.reduceEqDiff, Nat.reduceAdd, Nat.reduceSub, Nat.reduceMul, Nat.reduceLeDiff, Nat.reduceLT, loadA, rdCells, storeA, setAt, binA]
    rw [← hS3]
    refine W_loop_nat (fun k en S => ∃ (i : Nat) (out1 : List Pr) (left1 : Int) (ov : AV) (tok : Option Nat), i + k = ps.length ∧ en 0 = lv ∧ en 1 = iv ∧ en 9 = .ptr S2.size 0 ∧ en 10 = .ptr (S2.size + 1) 0 ∧ en 21 = pv ∧ en 22 = .int .i64 ps.length ∧ en 23 = .int .i64 i ∧ RdT ins out1 left1 (ps.drop i) e out ∧ RdA S2.size (S2.size + 1) out1 left1 ov tok S ∧ 0 ≤ left1 ∧ (out1.length : Int) + left1 ≤ 4096 ∧ (∀ j, j < S2.size → some j ≠ tok) ∧ Keep s S) ?_ ps.length _ _
      ⟨0, [], 4096, .nils, none, by simp, ?_, ?_, ?_, ?_, ?_, ?_, ?_, by simpa using hrun, ⟨o9, Or.inl ⟨rfl, rfl, rfl⟩, o10, by omega, by omega, by omega⟩, by decide, by simp, by simp, hk2.trans hk3⟩
    · rintro k en S ⟨i, out1, left1, ov, tok, hik, e0, e1, e9, e10, e21, e22, e23, hT, hA, hl0, hlo, htk, hk⟩
      have zS : S2.size + 1 < S.size := hA.2.2.2.2.1
      by_cases hin2 : i < ps.length
      · obtain ⟨x, hx⟩ : ∃ x, ps[i]? = some x := ⟨_, List.getElem?_eq_getElem hin2⟩
        have hd : decide ((i : Int) < (ps.length : Int)) = true := by simp; omega
        have hat := hp.at prcP.len hx
        rw [drop_at hx] at hT
        simp only [prc, List.cons_append, List.nil_append] at hat
        obtain ⟨S4, hS4⟩ : ∃ S4, S4 = (S.new (.cells [.str ⟨#[]⟩, .int .i64 0, .str ⟨#[]⟩, .int .i64 0, .nils])).put S.size (some (.cells [.str x.cls, .int .i64 (kof x.ty), .str (nof x.ty), .int .i64 (vof x.ty), .sl (tycs (lof x.ty)) (lof x.ty).length false none])) := ⟨_, rfl⟩
        have hk4 : Keep S S4 := by rw [hS4]; exact ((Keep.refl S).new' _).put' (Nat.le_refl _) _
        have o4 : S4.obj S.size = some (.cells [.str x.cls, .int .i64 (kof x.ty), .str (nof x.ty), .int .i64 (vof x.ty), .sl (tycs (lof x.ty)) (lof x.ty).length false none]) := by rw [hS4, put_eq]
        have z4 : S.size < S4.size := by rw [hS4]; simp [St.new, St.put]
        have hck := fun S => (U1.check18_law hX x.ty _ (isl_tycs (lof x.ty)) S).sub U2.sub |>.sub sub
        simp only [tyw] at hck
        simp only [cf43_l0, e0, e1, e9, e10, e21, e22, e23, hd, hat, Nat.le_add_left, go_sem, ↓reduceIte, reduceCtorEq, Nat.reduceEqDiff, Nat.reduceAdd, Nat.reduceSub, Nat.reduceMul, Nat.reduceLeDiff, Nat.reduceLT, loadA, rdCells, storeA, setAt, binA]
        rw [← hS4]
        refine WO_callx _ rfl ((hck S4).mono ?_)
        rintro w5 S5 ⟨rfl, hk5⟩
        have o5 := hk5.obj z4 o4
        have hk45 := hk4.trans hk5
        cases hch : ((chk false 1 4096 x.ty).1 != 0)
        · simp only [hch, o5, e0, e1, e9, e10, e21, e22, e23, Nat.le_add_left, go_sem, ↓reduceIte, reduceCtorEq, Nat.reduceEqDiff, Nat.reduceAdd, Nat.reduceSub, Nat.reduceMul, Nat.reduceLeDiff, Nat.reduceLT, loadA, rdCells, storeA, setAt, binA]
          have hA5 := hA.keep hk45
          cases hT with
          | chk _ _ _ _ hc' => exact absurd (by simpa using hch) hc'
          | bad _ o1 _ l1 _ _ _ _ h1 he1 =>
            have hcall := rd_law hX hi hb4 hpl2 (o := S2.size) (lf := S2.size + 1) h1 hl0 hlo (by decide) (by decide) ov tok S5 hA5
            refine WO_callx [iv, .agg (prc x), .ptr S2.size 0, .int .i64 1, .ptr (S2.size + 1) 0] (by simp only [prc, e9, e10, go_sem, ↓reduceIte, reduceCtorEq, Nat.reduceEqDiff, Nat.reduceAdd, Nat.reduceSub, Nat.reduceMul, Nat.reduceLeDiff, Nat.reduceLT, loadA, rdCells, storeA, setAt, binA]) (hcall.mono ?_)
            rintro w6 S6 ⟨rfl, ov', tok', q1, q2, q3, q4, q5⟩
            have hez : (e != 0) = true := by simpa using he1
            simp only [hez, go_sem, ↓reduceIte, reduceCtorEq, Nat.reduceEqDiff, Nat.reduceAdd, Nat.reduceSub, Nat.reduceMul, Nat.reduceLeDiff, Nat.reduceLT, loadA, rdCells, storeA, setAt, binA]
            refine ⟨by simp, _, rfl, .nils, rfl, Or.inl ⟨rfl, rfl⟩, Or.inl rfl, ?_, fun j hj => ?_⟩
            · have := (hk.trans hk45).1; have := q5.1; omega
            · rw [q5.2 j (by have := (hk.trans hk45).1; omega) (by omega) (by omega) (htk j (by omega))]; exact (hk.trans hk45).2 j hj
          | ok _ o1 _ _ l1 _ _ _ _ h1 hr =>
            have hcall := rd_law hX hi hb4 hpl2 (o := S2.size) (lf := S2.size + 1) h1 hl0 hlo (by decide) (by decide) ov tok S5 hA5
            obtain ⟨r1, r2, r3⟩ := rd_len h1 hl0
            refine WO_callx [iv, .agg (prc x), .ptr S2.size 0, .int .i64 1, .ptr (S2.size + 1) 0] (by simp only [prc, e9, e10, go_sem, ↓reduceIte, reduceCtorEq, Nat.reduceEqDiff, Nat.reduceAdd, Nat.reduceSub, Nat.reduceMul, Nat.reduceLeDiff, Nat.reduceLT, loadA, rdCells, storeA, setAt, binA]) (hcall.mono ?_)
            rintro w6 S6 ⟨rfl, ov', tok', q1, q2, q3, q4, q5⟩
            have hez : ((0 : Int) != 0) = false := rfl
            simp only [hez, e0, e1, e9, e10, e21, e22, e23, wrapc (n := i) (by omega), go_sem, ↓reduceIte, reduceCtorEq, Nat.reduceEqDiff, Nat.reduceAdd, Nat.reduceSub, Nat.reduceMul, Nat.reduceLeDiff, Nat.reduceLT, loadA, rdCells, storeA, setAt, binA]
            have hz5 := (hk.trans hk45).1
            have hz45 := hk45.1
            have hz6 := q5.1
            refine ⟨k - 1, by omega, i + 1, o1, l1, ov', tok', by omega, rfl, hr, ⟨q1, q2, q3, by omega, by omega, by omega⟩, r3 rfl, by omega, fun j hj ht => ?_, by omega, fun j hj => ?_⟩
            · rcases q4 with rfl | ⟨k', rfl, hk'⟩
              · exact htk j hj ht
              · cases ht; omega
            · rw [q5.2 j (by omega) (by omega) (by omega) (htk j (by omega))]; exact (hk.trans hk45).2 j hj
        · have hne : (chk false 1 4096 x.ty).1 ≠ 0 := by simpa using hch
          obtain ⟨rfl, rfl⟩ : e = (chk false 1 4096 x.ty).1 ∧ out = [] := by
            cases hT with
            | chk => exact ⟨rfl, rfl⟩
            | bad _ _ _ _ _ _ _ hc' => exact absurd hc' hne
            | ok _ _ _ _ _ _ _ _ hc' => exact absurd hc' hne
          simp only [hch, go_sem, ↓reduceIte, reduceCtorEq, Nat.reduceEqDiff, Nat.reduceAdd, Nat.reduceSub, Nat.reduceMul, Nat.reduceLeDiff, Nat.reduceLT, loadA, rdCells, storeA, setAt, binA]
          exact ⟨by simp, _, rfl, .nils, rfl, Or.inl ⟨rfl, rfl⟩, Or.inl rfl, hk.trans hk45⟩
      · have hd : decide ((i : Int) < (ps.length : Int)) = false := by simp; omega
        rw [List.drop_eq_nil_of_le (by omega)] at hT
        obtain ⟨rfl, rfl⟩ : e = 0 ∧ out1 = out := by
          cases hT with
          | nil => exact ⟨rfl, rfl⟩
        simp only [cf43_l0, e0, e1, e9, e10, e21, e22, e23, hd, hA.1, Nat.le_add_left, go_sem, ↓reduceIte, reduceCtorEq, Nat.reduceEqDiff, Nat.reduceAdd, Nat.reduceSub, Nat.reduceMul, Nat.reduceLeDiff, Nat.reduceLT, loadA, rdCells, storeA, setAt, binA]
        exact ⟨by simp, _, rfl, ov, rfl, hA.2.1.isl, grw_known hA.2.1, hk⟩
    · simp only [go_sem, ↓reduceIte, reduceCtorEq, Nat.reduceEqDiff, Nat.reduceAdd, Nat.reduceSub, Nat.reduceMul, Nat.reduceLeDiff, Nat.reduceLT, loadA, rdCells, storeA, setAt, binA]
    · simp only [go_sem, ↓reduceIte, reduceCtorEq, Nat.reduceEqDiff, Nat.reduceAdd, Nat.reduceSub, Nat.reduceMul, Nat.reduceLeDiff, Nat.reduceLT, loadA, rdCells, storeA, setAt, binA]
    · simp only [go_sem, ↓reduceIte, reduceCtorEq, Nat.reduceEqDiff, Nat.reduceAdd, Nat.reduceSub, Nat.reduceMul, Nat.reduceLeDiff, Nat.reduceLT, loadA, rdCells, storeA, setAt, binA]
    · simp only [go_sem, ↓reduceIte, reduceCtorEq, Nat.reduceEqDiff, Nat.reduceAdd, Nat.reduceSub, Nat.reduceMul, Nat.reduceLeDiff, Nat.reduceLT, loadA, rdCells, storeA, setAt, binA]
    · simp only [go_sem, ↓reduceIte, reduceCtorEq, Nat.reduceEqDiff, Nat.reduceAdd, Nat.reduceSub, Nat.reduceMul, Nat.reduceLeDiff, Nat.reduceLT, loadA, rdCells, storeA, setAt, binA]
    · simp only [go_sem, ↓reduceIte, reduceCtorEq, Nat.reduceEqDiff, Nat.reduceAdd, Nat.reduceSub, Nat.reduceMul, Nat.reduceLeDiff, Nat.reduceLT, loadA, rdCells, storeA, setAt, binA]
    · simp only [go_sem, ↓reduceIte, reduceCtorEq, Nat.reduceEqDiff, Nat.reduceAdd, Nat.reduceSub, Nat.reduceMul, Nat.reduceLeDiff, Nat.reduceLT, loadA, rdCells, storeA, setAt, binA]; rfl
  · have hne : inst l ins ≠ 0 := by simpa using hc
    obtain ⟨rfl, rfl⟩ : e = inst l ins ∧ out = [] := by
      rcases h with ⟨-, he, ho⟩ | ⟨h0, -⟩
      · exact ⟨he, ho⟩
      · exact absurd h0 hne
    simp only [hc, go_sem, ↓reduceIte, reduceCtorEq, Nat.reduceEqDiff, Nat.reduceAdd, Nat.reduceSub, Nat.reduceMul, Nat.reduceLeDiff, Nat.reduceLT, loadA, rdCells, storeA, setAt, binA]
    exact ⟨by simp, _, rfl, .nils, rfl, Or.inl ⟨rfl, rfl⟩, Or.inl rfl, hk2⟩
end Go.Am.U3
