/- entail: the search of a proof. Conditions: none. -/
import Derived.Test.YtfleakoephmgaaaDoorClH
set_option linter.unusedSimpArgs false
set_option linter.unusedVariables false
namespace Go.Am.U3
open Go.Am.Un Go.So
open Go.Am.U1 (NoX drop_at ne_a ne_b ne_c ne_d avr tyw tyc_w tycP isl_tycs len_tszs tsz_pos)
open Go.Am.U2 (Xb)
set_option maxRecDepth 100000
set_option linter.unusedSimpArgs false
attribute [local go_sem] wseq COp.isStore wreg wdreg wret wskip wexit wblock wcnd cnd_t cnd_f then_n then_x then_r catch_n rnd_n rnd_x rnd_r catch_x catch_r wo_nil wo_grd grdO_t grdO_f wo_ops stpO wr_nil wr_alloc wr_guards grdR_t grdR_f wr_ops stpR evAllocs evOp env0_app eput_some eput_none eset_app Opd.ev wantedA faddrA snew_obj snew_size sput_obj sput_size av_cells av_one av_strip av_still unA eqbA fillA fldA lensA mmA mm2 mmFold List.getD_cons_zero List.getD_cons_succ List.getD_nil List.length_cons List.length_nil List.drop_zero List.drop_succ_cons List.take_succ_cons List.take_zero List.map_cons List.map_nil List.set_cons_zero List.set_cons_succ List.all_cons List.all_nil List.getElem?_cons_zero List.getElem?_cons_succ List.nil_append List.cons_append Nat.zero_add Nat.add_zero beq_self_eq_true bt bf Bool.not_true Bool.not_false Bool.and_true Bool.true_and Bool.and_false Bool.false_and and_self and_true true_and n0 n1 n2 n3 n4 m0 m1 m2 m3 c1 retA resAs resA undefA Option.map_some Option.map_none

/-- The first given requirement that helps. -/
inductive Gv (l : List Cl) (w : Pr) : Nat → List Pr → Option Pf → Prop
  | nil (i : Nat) : Gv l w i [] none
  | skip (i : Nat) (h : Pr) (r : List Pr) (o : Option Pf) (hs : eqb (nf h.ty) (nf w.ty) = false) (hr : Gv l w (i + 1) r o) : Gv l w i (h :: r) o
  | yes (i : Nat) (h : Pr) (r : List Pr) (p : Pf) (sn : List ByteArray) (hs : eqb (nf h.ty) (nf w.ty) = true) (hu : Su l w.cls [] (.one h.cls (.mk 0 i [])) true p sn) : Gv l w i (h :: r) (some p)
  | next (i : Nat) (h : Pr) (r : List Pr) (p : Pf) (sn : List ByteArray) (o : Option Pf) (hs : eqb (nf h.ty) (nf w.ty) = true) (hu : Su l w.cls [] (.one h.cls (.mk 0 i [])) false p sn) (hr : Gv l w (i + 1) r o) : Gv l w i (h :: r) o
inductive EnJ where
  | one (w : Pr) (d : Int)
  | all (ps : List Pr) (d : Int) (n : Nat) (acc : List Pf)
/-- A run of entail: what is left ahead, the work, the error, the proof, what is left then. -/
inductive En (l : List Cl) (ins : List In) (hv : List Pr) : Int → EnJ → Int → Pf → Int → Prop
  | large (left : Int) (w : Pr) (d : Int) (h : d > 400 ∨ left - 1 < 0) : En l ins hv left (.one w d) 2 noPf (left - 1)
  | given (left : Int) (w : Pr) (d : Int) (p : Pf) (hd : d ≤ 400) (hl : 0 ≤ left - 1) (hg : Gv l w 0 hv (some p)) : En l ins hv left (.one w d) 0 p (left - 1)
  | no (left : Int) (w : Pr) (d : Int) (hd : d ≤ 400) (hl : 0 ≤ left - 1) (hg : Gv l w 0 hv none) (hn : instAt w 0 ins = none) : En l ins hv left (.one w d) 11 noPf (left - 1)
  | yes (left left' : Int) (w : Pr) (d e : Int) (p : Pf) (i : Nat) (x : In) (hd : d ≤ 400) (hl : 0 ≤ left - 1) (hg : Gv l w 0 hv none) (hs : instAt w 0 ins = some (i, x)) (hr : En l ins hv (left - 1) (.all (needs x w.ty) (d + 1) i []) e p left') : En l ins hv left (.one w d) e p left'
  | nil (left d : Int) (n : Nat) (acc : List Pf) : En l ins hv left (.all [] d n acc) 0 (.mk 2 n acc) left
  | ok (left l1 l2 : Int) (w : Pr) (ps : List Pr) (d e : Int) (n : Nat) (acc : List Pf) (q r : Pf) (h : En l ins hv left (.one w d) 0 q l1) (hr : En l ins hv l1 (.all ps d n (acc ++ [q])) e r l2) : En l ins hv left (.all (w :: ps) d n acc) e r l2
  | bad (left l1 : Int) (w : Pr) (ps : List Pr) (d e : Int) (n : Nat) (acc : List Pf) (q : Pf) (h : En l ins hv left (.one w d) e q l1) (he : e ≠ 0) : En l ins hv left (.all (w :: ps) d n acc) e noPf l1
theorem en_len {l : List Cl} {ins : List In} {hv : List Pr} {left left' e : Int} {j : EnJ} {p : Pf} (h : En l ins hv left j e p left') : 0 ≤ left → left' ≤ left ∧ (e = 0 → 0 ≤ left') ∧ -1 ≤ left' := by
  induction h with
  | large => exact fun _ => ⟨by omega, (fun h => by cases h), by omega⟩
  | given => exact fun _ => ⟨by omega, fun _ => by omega, by omega⟩
  | no => exact fun _ => ⟨by omega, (fun h => by cases h), by omega⟩
  | yes left left' w d e p i x hd hl hg hs hr ih => intro _; obtain ⟨h1, h2, h3⟩ := ih hl; exact ⟨by omega, h2, h3⟩
  | nil => exact fun h => ⟨Int.le_refl _, fun _ => h, by omega⟩
  | ok left l1 l2 w ps d e n acc q r h hr ih1 ih2 =>
    intro h0
    obtain ⟨h1, h2, h3⟩ := ih1 h0
    obtain ⟨h4, h5, h6⟩ := ih2 (h2 rfl)
    exact ⟨by omega, h5, h6⟩
  | bad left l1 w ps d e n acc q h he ih => intro h0; obtain ⟨h1, -, h3⟩ := ih h0; exact ⟨h1, fun h => absurd h he, h3⟩
theorem en_f {l : List Cl} {ins : List In} {hv : List Pr} {left left' e : Int} {j : EnJ} {p : Pf} (h : En l ins hv left j e p left') : e ≠ 0 → p = noPf := by
  induction h with
  | large => exact fun _ => rfl
  | given => exact fun h => absurd rfl h
  | no => exact fun _ => rfl
  | yes left left' w d e p i x hd hl hg hs hr ih => exact ih
  | nil => exact fun h => absurd rfl h
  | ok left l1 l2 w ps d e n acc q r h hr ih1 ih2 => exact ih2
  | bad => exact fun _ => rfl

/-- A requirement of a valid type. -/
def VP (p : Pr) : Prop := Val p.ty ∧ tsz p.ty ≤ 4096

theorem W_loop_eqb {b L : CC} (hL : CC.loop b = L) {e : Env} {s : St} {Q : CX → Env → St → Prop} (h : W T Xb b e s (Then T Xb L Q)) : W T Xb L e s Q := by
  subst hL; exact W_loop h
set_option maxHeartbeats 8000000 in
/-- The loop over the given requirements. -/
theorem gv_loop {lv hvv : AV} {l : List Cl} {hv : List Pr} (hl : ISl clc lv l) (hhv : ISl prc hvv hv) (hbl : l.length ≤ 8796093022208) (hbh : hv.length ≤ 8796093022208) (hs : ∀ c, c ∈ l → c.sup.length ≤ 8796093022208) (hvp : ∀ h, h ∈ hv → VP h) {w : Pr} (hw : VP w) {i : Nat} {rest : List Pr} {op : Option Pf} (h : Gv l w i rest op) :
    ∀ (a r : Nat) (S : St) (en : Env), i ≤ hv.length → hv.drop i = rest → en 0 = lv → en 9 = .ptr a 0 → en 12 = .ptr r 0 → en 40 = hvv → en 41 = .int .i64 hv.length → en 42 = .int .i64 i → S.obj a = some (.cells (prc w)) → a < S.size → (∃ c0 c1 c2, S.obj r = some (.cells [c0, c1, c2])) → r < S.size → a ≠ r →
      W T Xb (.loop cf63_l1) en S (fun x e' S' => ((x = .exit 0 ∧ op = none ∧ (∃ c0 c1 c2, S'.obj r = some (.cells [c0, c1, c2])) ∧ ∀ k, k < 14 → e' k = en k) ∨ (x = .ret ∧ ∃ p, op = some p ∧ e' 13 = .int .i64 0 ∧ e' 12 = .ptr r 0 ∧ S'.obj r = some (.cells (pfc p)))) ∧ KeepBut r S S') := by
  have hX : NoX Xb := U2.Xb_none
  induction h with
  | nil i =>
    intro a r S en hil hdr e0 e9 e12 e40 e41 e42 oa za oor zr nar
    have hi2 : i = hv.length := by have := congrArg List.length hdr; simp at this; omega
    subst hi2
    have hd : decide (((hv.length : Nat) : Int) < (hv.length : Int)) = false := by simp
    refine W_loop ?_
    simp only [cf63_l1, e0, e9, e12, e40, e41, e42, hd, go_sem, ↓reduceIte, reduceCtorEq, Nat.reduceEqDiff, Nat.reduceAdd, Nat.reduceSub, Nat.reduceMul, Nat.reduceLeDiff, Nat.reduceLT, loadA, rdCells, storeA, setAt, binA]
    exact ⟨Or.inl ⟨oor, fun k hk => if_neg (by omega)⟩, KeepBut.refl r S⟩
  | skip i h rr o hsm hr ih =>
    intro a r S en hil hdr e0 e9 e12 e40 e41 e42 oa za oor zr nar
    obtain ⟨hi1, hfx, hdr1⟩ := drop_invP hdr
    have hd : decide ((i : Int) < (hv.length : Int)) = true := by simp; omega
    have hat := hhv.at prcP.len hfx
    obtain ⟨vh, th⟩ := hvp h (List.mem_of_getElem? hfx)
    have hsame := fun S => (U2.same_law (isl_tycs (lof h.ty)) (isl_tycs (lof w.ty)) vh hw.1 (by unfold U2.big; omega) (by unfold U2.big; have := hw.2; omega) S).sub sub
    simp only [tyw, hsm] at hsame
    have oa' := oa
    simp only [prc, List.cons_append, List.nil_append] at hat oa'
    have hwr := wrapc (n := i) (by omega)
    obtain ⟨c0, c1, c2, hor⟩ := oor
    obtain ⟨S1, hS1⟩ : ∃ S1, S1 = (S.new (.cells [.str ⟨#[]⟩, .int .i64 0, .str ⟨#[]⟩, .int .i64 0, .nils])).put S.size (some (.cells [.str h.cls, .int .i64 (kof h.ty), .str (nof h.ty), .int .i64 (vof h.ty), .sl (tycs (lof h.ty)) (lof h.ty).length false none])) := ⟨_, rfl⟩
    have hkS : Keep S S1 := by rw [hS1]; exact ((Keep.refl S).new' _).put' (Nat.le_refl _) _
    have oh : S1.obj S.size = some (.cells [.str h.cls, .int .i64 (kof h.ty), .str (nof h.ty), .int .i64 (vof h.ty), .sl (tycs (lof h.ty)) (lof h.ty).length false none]) := by rw [hS1, put_eq]
    have zh : S.size < S1.size := by rw [hS1]; simp [St.new, St.put]
    have oa1 := hkS.obj za oa'
    generalize hL : CC.loop cf63_l1 = L
    refine W_loop_eqb hL ?_
    simp only [cf63_l1, e0, e9, e12, e40, e41, e42, hd, hat, oa', ne_a za, ne_b za, Nat.le_add_left, go_sem, ↓reduceIte, reduceCtorEq, Nat.reduceEqDiff, Nat.reduceAdd, Nat.reduceSub, Nat.reduceMul, Nat.reduceLeDiff, Nat.reduceLT, loadA, rdCells, storeA, setAt, binA]
    rw [← hS1]
    refine WO_callx _ rfl ((hsame _).mono ?_)
    rintro w0 S2 ⟨rfl, hk2⟩
    have hk02 := hkS.trans hk2
    simp only [e0, e9, e12, e40, e41, e42, hwr, Nat.le_add_left, go_sem, ↓reduceIte, reduceCtorEq, Nat.reduceEqDiff, Nat.reduceAdd, Nat.reduceSub, Nat.reduceMul, Nat.reduceLeDiff, Nat.reduceLT, loadA, rdCells, storeA, setAt, binA]
    subst hL
    refine (ih a r S2 _ hi1 hdr1 ?_ ?_ ?_ ?_ ?_ ?_ (hk02.obj za oa) (hk02.lt za) ⟨c0, c1, c2, hk02.obj zr hor⟩ (hk02.lt zr) nar).mono ?_
    · simp only [e0, go_sem, ↓reduceIte, reduceCtorEq, Nat.reduceEqDiff, Nat.reduceAdd, Nat.reduceSub, Nat.reduceMul, Nat.reduceLeDiff, Nat.reduceLT, loadA, rdCells, storeA, setAt, binA]
    · simp only [e9, go_sem, ↓reduceIte, reduceCtorEq, Nat.reduceEqDiff, Nat.reduceAdd, Nat.reduceSub, Nat.reduceMul, Nat.reduceLeDiff, Nat.reduceLT, loadA, rdCells, storeA, setAt, binA]
    · simp only [e12, go_sem, ↓reduceIte, reduceCtorEq, Nat.reduceEqDiff, Nat.reduceAdd, Nat.reduceSub, Nat.reduceMul, Nat.reduceLeDiff, Nat.reduceLT, loadA, rdCells, storeA, setAt, binA]
    · simp only [e40, go_sem, ↓reduceIte, reduceCtorEq, Nat.reduceEqDiff, Nat.reduceAdd, Nat.reduceSub, Nat.reduceMul, Nat.reduceLeDiff, Nat.reduceLT, loadA, rdCells, storeA, setAt, binA]
    · simp only [e41, go_sem, ↓reduceIte, reduceCtorEq, Nat.reduceEqDiff, Nat.reduceAdd, Nat.reduceSub, Nat.reduceMul, Nat.reduceLeDiff, Nat.reduceLT, loadA, rdCells, storeA, setAt, binA]
    · simp only [go_sem, ↓reduceIte, reduceCtorEq, Nat.reduceEqDiff, Nat.reduceAdd, Nat.reduceSub, Nat.reduceMul, Nat.reduceLeDiff, Nat.reduceLT, loadA, rdCells, storeA, setAt, binA]
    · rintro x e' S9 ⟨hx, hk9⟩
      refine ⟨?_, (hk02.but (p := r)).trans hk9⟩
      rcases hx with ⟨rfl, rfl, h1, h2⟩ | hx
      · refine Or.inl ⟨rfl, rfl, h1, fun k hk => (h2 k hk).trans ?_⟩
        simp only [go_sem, ↓reduceIte, reduceCtorEq, Nat.reduceEqDiff, Nat.reduceAdd, Nat.reduceSub, Nat.reduceMul, Nat.reduceLeDiff, Nat.reduceLT, loadA, rdCells, storeA, setAt, binA]
        repeat rw [if_neg (by omega)]
      · exact Or.inr hx
  | yes i h rr p sn hsm hu =>
    intro a r S en hil hdr e0 e9 e12 e40 e41 e42 oa za oor zr nar
    obtain ⟨hi1, hfx, hdr1⟩ := drop_invP hdr
    have hd : decide ((i : Int) < (hv.length : Int)) = true := by simp; omega
    have hat := hhv.at prcP.len hfx
    obtain ⟨vh, th⟩ := hvp h (List.mem_of_getElem? hfx)
    have hsame := fun S => (U2.same_law (isl_tycs (lof h.ty)) (isl_tycs (lof w.ty)) vh hw.1 (by unfold U2.big; omega) (by unfold U2.big; have := hw.2; omega) S).sub sub
    simp only [tyw, hsm] at hsame
    have oa' := oa
    simp only [prc, List.cons_append, List.nil_append] at hat oa'
    have hwr := wrapc (n := i) (by omega)
    obtain ⟨c0, c1, c2, hor⟩ := oor
    obtain ⟨S1, hS1⟩ : ∃ S1, S1 = (S.new (.cells [.str ⟨#[]⟩, .int .i64 0, .str ⟨#[]⟩, .int .i64 0, .nils])).put S.size (some (.cells [.str h.cls, .int .i64 (kof h.ty), .str (nof h.ty), .int .i64 (vof h.ty), .sl (tycs (lof h.ty)) (lof h.ty).length false none])) := ⟨_, rfl⟩
    have hkS : Keep S S1 := by rw [hS1]; exact ((Keep.refl S).new' _).put' (Nat.le_refl _) _
    have oh : S1.obj S.size = some (.cells [.str h.cls, .int .i64 (kof h.ty), .str (nof h.ty), .int .i64 (vof h.ty), .sl (tycs (lof h.ty)) (lof h.ty).length false none]) := by rw [hS1, put_eq]
    have zh : S.size < S1.size := by rw [hS1]; simp [St.new, St.put]
    have oa1 := hkS.obj za oa'
    refine W_loop ?_
    simp only [cf63_l1, e0, e9, e12, e40, e41, e42, hd, hat, oa', ne_a za, ne_b za, Nat.le_add_left, go_sem, ↓reduceIte, reduceCtorEq, Nat.reduceEqDiff, Nat.reduceAdd, Nat.reduceSub, Nat.reduceMul, Nat.reduceLeDiff, Nat.reduceLT, loadA, rdCells, storeA, setAt, binA]
    rw [← hS1]
    refine WO_callx _ rfl ((hsame _).mono ?_)
    rintro w0 S2 ⟨rfl, hk2⟩
    have hk02 := hkS.trans hk2
    have oh2 := hk2.obj zh oh
    have oa2 := hk2.obj (hkS.lt za) oa1
    have zh2 := hk2.lt zh
    have za2 := hk02.lt za
    simp only [e0, e9, e12, e40, e41, e42, hwr, oh2, oa2, ne_a zh2, ne_b zh2, ne_a za2, ne_b za2, Nat.le_add_left, go_sem, ↓reduceIte, reduceCtorEq, Nat.reduceEqDiff, Nat.reduceAdd, Nat.reduceSub, Nat.reduceMul, Nat.reduceLeDiff, Nat.reduceLT, loadA, rdCells, storeA, setAt, binA]
    have hsu := su_law hX hl hbl hs hu .nils .nils none (S2.new (.cells [.nils])) rfl ⟨new_eq rfl, Or.inl ⟨rfl, rfl, rfl⟩, by simp [St.new]⟩
    simp only [kofP, nofP] at hsu
    refine WO_callx _ rfl (hsu.mono ?_)
    rintro w1 S3 ⟨rfl, ov', tok', q1, q2, q3, q4⟩
    have hk23 : Keep S2 S3 := ⟨by have := q4.1; simp only [St.new] at this; omega, fun j hj => by
      rw [q4.2 j (by simp only [St.new]; omega) (by omega) (by omega) (fun h => by cases h), new_ne (by omega)]⟩
    have hk03 := hk02.trans hk23
    rw [pfc_w]
    have or3 := hk03.obj zr hor
    have zr3 := hk03.lt zr
    simp only [e0, e9, e12, e40, e41, e42, or3, ne_a zr3, ne_b zr3, Nat.le_add_left, setAt, go_sem, ↓reduceIte, reduceCtorEq, Nat.reduceEqDiff, Nat.reduceAdd, Nat.reduceSub, Nat.reduceMul, Nat.reduceLeDiff, Nat.reduceLT, loadA, rdCells, storeA, setAt, binA]
    have hz03 := hk03.1
    refine ⟨Or.inr ⟨p, rfl, by rw [pfc_w]⟩, by simp only [St.put, St.new]; omega, fun j hj hn => ?_⟩
    rw [put_ne hn, put_ne (by omega), new_ne (by omega)]; exact hk03.2 j hj
  | next i h rr p sn o hsm hu hr ih =>
    intro a r S en hil hdr e0 e9 e12 e40 e41 e42 oa za oor zr nar
    obtain ⟨hi1, hfx, hdr1⟩ := drop_invP hdr
    have hd : decide ((i : Int) < (hv.length : Int)) = true := by simp; omega
    have hat := hhv.at prcP.len hfx
    obtain ⟨vh, th⟩ := hvp h (List.mem_of_getElem? hfx)
    have hsame := fun S => (U2.same_law (isl_tycs (lof h.ty)) (isl_tycs (lof w.ty)) vh hw.1 (by unfold U2.big; omega) (by unfold U2.big; have := hw.2; omega) S).sub sub
    simp only [tyw, hsm] at hsame
    have oa' := oa
    simp only [prc, List.cons_append, List.nil_append] at hat oa'
    have hwr := wrapc (n := i) (by omega)
    obtain ⟨c0, c1, c2, hor⟩ := oor
    obtain ⟨S1, hS1⟩ : ∃ S1, S1 = (S.new (.cells [.str ⟨#[]⟩, .int .i64 0, .str ⟨#[]⟩, .int .i64 0, .nils])).put S.size (some (.cells [.str h.cls, .int .i64 (kof h.ty), .str (nof h.ty), .int .i64 (vof h.ty), .sl (tycs (lof h.ty)) (lof h.ty).length false none])) := ⟨_, rfl⟩
    have hkS : Keep S S1 := by rw [hS1]; exact ((Keep.refl S).new' _).put' (Nat.le_refl _) _
    have oh : S1.obj S.size = some (.cells [.str h.cls, .int .i64 (kof h.ty), .str (nof h.ty), .int .i64 (vof h.ty), .sl (tycs (lof h.ty)) (lof h.ty).length false none]) := by rw [hS1, put_eq]
    have zh : S.size < S1.size := by rw [hS1]; simp [St.new, St.put]
    have oa1 := hkS.obj za oa'
    generalize hL : CC.loop cf63_l1 = L
    refine W_loop_eqb hL ?_
    simp only [cf63_l1, e0, e9, e12, e40, e41, e42, hd, hat, oa', ne_a za, ne_b za, Nat.le_add_left, go_sem, ↓reduceIte, reduceCtorEq, Nat.reduceEqDiff, Nat.reduceAdd, Nat.reduceSub, Nat.reduceMul, Nat.reduceLeDiff, Nat.reduceLT, loadA, rdCells, storeA, setAt, binA]
    rw [← hS1]
    refine WO_callx _ rfl ((hsame _).mono ?_)
    rintro w0 S2 ⟨rfl, hk2⟩
    have hk02 := hkS.trans hk2
    have oh2 := hk2.obj zh oh
    have oa2 := hk2.obj (hkS.lt za) oa1
    have zh2 := hk2.lt zh
    have za2 := hk02.lt za
    simp only [e0, e9, e12, e40, e41, e42, hwr, oh2, oa2, ne_a zh2, ne_b zh2, ne_a za2, ne_b za2, Nat.le_add_left, go_sem, ↓reduceIte, reduceCtorEq, Nat.reduceEqDiff, Nat.reduceAdd, Nat.reduceSub, Nat.reduceMul, Nat.reduceLeDiff, Nat.reduceLT, loadA, rdCells, storeA, setAt, binA]
    have hsu := su_law hX hl hbl hs hu .nils .nils none (S2.new (.cells [.nils])) rfl ⟨new_eq rfl, Or.inl ⟨rfl, rfl, rfl⟩, by simp [St.new]⟩
    simp only [kofP, nofP] at hsu
    refine WO_callx _ rfl (hsu.mono ?_)
    rintro w1 S3 ⟨rfl, ov', tok', q1, q2, q3, q4⟩
    have hk23 : Keep S2 S3 := ⟨by have := q4.1; simp only [St.new] at this; omega, fun j hj => by
      rw [q4.2 j (by simp only [St.new]; omega) (by omega) (by omega) (fun h => by cases h), new_ne (by omega)]⟩
    have hk03 := hk02.trans hk23
    rw [pfc_w]
    simp only [e0, e9, e12, e40, e41, e42, hwr, Nat.le_add_left, setAt, go_sem, ↓reduceIte, reduceCtorEq, Nat.reduceEqDiff, Nat.reduceAdd, Nat.reduceSub, Nat.reduceMul, Nat.reduceLeDiff, Nat.reduceLT, loadA, rdCells, storeA, setAt, binA]
    obtain ⟨S5, hS5⟩ : ∃ S5, S5 = (S3.new (.cells [.int .i64 0, .int .i64 0, .nils])).put S3.size (some (.cells [.int .i64 (kofP p), .int .i64 (nofP p), .sl (pfcs (subP p)) (subP p).length false none])) := ⟨_, rfl⟩
    have hk35 : Keep S3 S5 := by rw [hS5]; exact ((Keep.refl S3).new' _).put' (Nat.le_refl _) _
    have hk05 := hk03.trans hk35
    rw [← hS5]
    subst hL
    refine (ih a r S5 _ hi1 hdr1 ?_ ?_ ?_ ?_ ?_ ?_ (hk05.obj za oa) (hk05.lt za) ⟨c0, c1, c2, hk05.obj zr hor⟩ (hk05.lt zr) nar).mono ?_
    · simp only [e0, go_sem, ↓reduceIte, reduceCtorEq, Nat.reduceEqDiff, Nat.reduceAdd, Nat.reduceSub, Nat.reduceMul, Nat.reduceLeDiff, Nat.reduceLT, loadA, rdCells, storeA, setAt, binA]
    · simp only [e9, go_sem, ↓reduceIte, reduceCtorEq, Nat.reduceEqDiff, Nat.reduceAdd, Nat.reduceSub, Nat.reduceMul, Nat.reduceLeDiff, Nat.reduceLT, loadA, rdCells, storeA, setAt, binA]
    · simp only [e12, go_sem, ↓reduceIte, reduceCtorEq, Nat.reduceEqDiff, Nat.reduceAdd, Nat.reduceSub, Nat.reduceMul, Nat.reduceLeDiff, Nat.reduceLT, loadA, rdCells, storeA, setAt, binA]
    · simp only [e40, go_sem, ↓reduceIte, reduceCtorEq, Nat.reduceEqDiff, Nat.reduceAdd, Nat.reduceSub, Nat.reduceMul, Nat.reduceLeDiff, Nat.reduceLT, loadA, rdCells, storeA, setAt, binA]
    · simp only [e41, go_sem, ↓reduceIte, reduceCtorEq, Nat.reduceEqDiff, Nat.reduceAdd, Nat.reduceSub, Nat.reduceMul, Nat.reduceLeDiff, Nat.reduceLT, loadA, rdCells, storeA, setAt, binA]
    · simp only [go_sem, ↓reduceIte, reduceCtorEq, Nat.reduceEqDiff, Nat.reduceAdd, Nat.reduceSub, Nat.reduceMul, Nat.reduceLeDiff, Nat.reduceLT, loadA, rdCells, storeA, setAt, binA]
    · rintro x e' S9 ⟨hx, hk9⟩
      refine ⟨?_, (hk05.but (p := r)).trans hk9⟩
      rcases hx with ⟨rfl, rfl, h1, h2⟩ | hx
      · refine Or.inl ⟨rfl, rfl, h1, fun k hk => (h2 k hk).trans ?_⟩
        simp only [go_sem, ↓reduceIte, reduceCtorEq, Nat.reduceEqDiff, Nat.reduceAdd, Nat.reduceSub, Nat.reduceMul, Nat.reduceLeDiff, Nat.reduceLT, loadA, rdCells, storeA, setAt, binA]
        repeat rw [if_neg (by omega)]
      · exact Or.inr hx
end Go.Am.U3
