/- cyclic at any substitution. Conditions: none. -/
import Derived.Test.YtfleakoephmgaaaDoorVaA
import Derived.Test.YtfleakoephmgaaaDoorUtD
import Derived.Test.YtfleakoephmgaaaDoorUnL
set_option linter.unusedSimpArgs false
set_option linter.unusedVariables false
namespace Go.Am.U1
open Go.Am.Un
set_option maxRecDepth 100000
set_option linter.unusedSimpArgs false
attribute [local go_sem] wseq COp.isStore wreg wdreg wret wskip wexit wblock wcnd cnd_t cnd_f then_n then_x then_r catch_n rnd_n rnd_x rnd_r catch_x catch_r wo_nil wo_grd grdO_t grdO_f wo_ops stpO wr_nil wr_alloc wr_guards grdR_t grdR_f wr_ops stpR evAllocs evOp env0_app eput_some eput_none eset_app Opd.ev wantedA faddrA snew_obj snew_size sput_obj sput_size av_cells av_one av_strip av_still unA eqbA fillA fldA lensA mmA mm2 mmFold List.getD_cons_zero List.getD_cons_succ List.getD_nil List.length_cons List.length_nil List.drop_zero List.drop_succ_cons List.take_succ_cons List.take_zero List.map_cons List.map_nil List.set_cons_zero List.set_cons_succ List.all_cons List.all_nil List.getElem?_cons_zero List.getElem?_cons_succ List.nil_append List.cons_append Nat.zero_add Nat.add_zero beq_self_eq_true bt bf Bool.not_true Bool.not_false Bool.and_true Bool.true_and Bool.and_false Bool.false_and and_self and_true true_and n0 n1 n2 n3 n4 m0 m1 m2 m3 c1 retA resAs resA undefA Option.map_some Option.map_none
variable {X : Ext}

/-- One variable; the variables that are still to go. -/
inductive CyJ where
  | one (v : Nat)
  | all (l : List Int)
/-- A run of cyclic: the states ahead, the work, the answer, the states then. -/
inductive Cy (ss : List Tm) : List Int → CyJ → Bool → List Int → Prop
  | done (st : List Int) (v : Nat) (x : Int) (h : st[v]? = some x) (hx : 0 < x) : Cy ss st (.one v) (x == 1) st
  | self (st : List Int) (v : Nat) (u : Tm) (h : st[v]? = some 0) (hu : ss[v]? = some u) (h0 : kof u = 0) (h1 : vof u = v) : Cy ss st (.one v) false st
  | go (st st' : List Int) (v : Nat) (u : Tm) (h : st[v]? = some 0) (hu : ss[v]? = some u) (hn : ¬ (kof u = 0 ∧ vof u = v)) (hr : Cy ss (st.set v 1) (.all (fre u)) false st') : Cy ss st (.one v) false (st'.set v 2)
  | bad (st st' : List Int) (v : Nat) (u : Tm) (h : st[v]? = some 0) (hu : ss[v]? = some u) (hn : ¬ (kof u = 0 ∧ vof u = v)) (hr : Cy ss (st.set v 1) (.all (fre u)) true st') : Cy ss st (.one v) true st'
  | nil (st : List Int) : Cy ss st (.all []) false st
  | cons (st st1 st2 : List Int) (w : Nat) (l : List Int) (b : Bool) (h : Cy ss st (.one w) false st1) (hs : Cy ss st1 (.all l) b st2) : Cy ss st (.all ((w : Int) :: l)) b st2
  | stop (st st1 : List Int) (w : Nat) (l : List Int) (h : Cy ss st (.one w) true st1) : Cy ss st (.all ((w : Int) :: l)) true st1

theorem cy_len {ss : List Tm} {st st' : List Int} {j : CyJ} {b : Bool} (h : Cy ss st j b st') : st'.length = st.length := by
  induction h with
  | done => rfl
  | self => rfl
  | go st st' v u h hu hn hr ih => rw [List.length_set, ih, List.length_set]
  | bad st st' v u h hu hn hr ih => rw [ih, List.length_set]
  | nil => rfl
  | cons st st1 st2 w l b h hs ih1 ih2 => rw [ih2, ih1]
  | stop st st1 w l h ih => exact ih

/-- What the machine does at it. -/
def CyC (X : Ext) (ss : List Tm) (sv : AV) (q : Nat) (st st' : List Int) (b : Bool) : CyJ → Prop
  | .one v => ∀ s, s.obj q = some (.cells (icells st)) → q < s.size → WC T X 60 [sv, .msl q 0 ss.length 1, .int .i64 v] s (fun r s' => r = .bool b ∧ s'.obj q = some (.cells (icells st')) ∧ KeepBut q s s')
  | .all l => ∀ (full : List Int) (i : Nat) (v : AV) (c d : Nat) (s0 S : St) (e : Env), ISl ic v full → full.length ≤ 4398046511104 → i ≤ full.length → full.drop i = l → e 0 = v → e 1 = .func 76 [.ptr c 0, .ptr d 0] → e 7 = .int .i64 full.length → e 8 = .int .i64 i →
      S.obj q = some (.cells (icells st)) → q < s0.size → s0.obj c = some (.cells [sv]) → s0.obj d = some (.cells [.msl q 0 ss.length 1]) → c < s0.size → d < s0.size → c ≠ q → d ≠ q → KeepBut q s0 S →
      W T X (.loop cf48_l0) e S (fun x e' S' => ((x = .exit 0 ∧ b = false) ∨ (x = .ret ∧ b = true ∧ ∃ m : Int, e' 4 = .int .i64 m ∧ decide (m ≥ 0) = true)) ∧ S'.obj q = some (.cells (icells st')) ∧ KeepBut q s0 S')

theorem KeepBut.trans {q : Nat} {a b c : St} (h : KeepBut q a b) (h2 : KeepBut q b c) : KeepBut q a c := ⟨Nat.le_trans h.1 h2.1, fun j hj hn => (h2.2 j (Nat.lt_of_lt_of_le hj h.1) hn).trans (h.2 j hj hn)⟩

theorem all_con (hX : NoX X) {ss : List Tm} {sv : AV} {q : Nat} {st st' : List Int} {b : Bool} {l : List Int} (hc : CyC X ss sv q st st' b (.all l)) {v : AV} (hv : ISl ic v l) (hl : l.length ≤ 4398046511104) (c d : Nat) (s : St)
    (ho : s.obj q = some (.cells (icells st))) (hq : q < s.size) (h3 : s.obj c = some (.cells [sv])) (h4 : s.obj d = some (.cells [.msl q 0 ss.length 1])) (hc3 : c < s.size) (hd3 : d < s.size) (hcq : c ≠ q) (hdq : d ≠ q) :
    WC T X 19 [v, .func 76 [.ptr c 0, .ptr d 0]] s (fun r s' => r = .bool b ∧ s'.obj q = some (.cells (icells st')) ∧ KeepBut q s s') := by
  refine WC_fn cf19 (hX 19 (by decide)) T19 (by simp [cf19]) ?_
  simp only [cf19, go_sem, ↓reduceIte, reduceCtorEq, Nat.reduceEqDiff, Nat.reduceAdd, Nat.reduceSub, Nat.reduceMul, Nat.reduceLeDiff, Nat.reduceLT, loadA, rdCells, storeA, setAt, binA]
  refine WO_callx [v, .func 76 [.ptr c 0, .ptr d 0]] (by simp only [go_sem, ↓reduceIte, reduceCtorEq, Nat.reduceEqDiff, Nat.reduceAdd, Nat.reduceSub, Nat.reduceMul, Nat.reduceLeDiff, Nat.reduceLT, loadA, rdCells, storeA, setAt, binA]) (WC.mono (Q := fun r s' => (∃ m : Int, r = .int .i64 m ∧ decide (m ≥ 0) = b) ∧ s'.obj q = some (.cells (icells st')) ∧ KeepBut q s s') ?_ ?_)
  · refine WC_fn cf48 (hX 48 (by decide)) T48 (by simp [cf48]) ?_
    have hlen := hv.len
    simp only [cf48, hlen, go_sem, ↓reduceIte, reduceCtorEq, Nat.reduceEqDiff, Nat.reduceAdd, Nat.reduceSub, Nat.reduceMul, Nat.reduceLeDiff, Nat.reduceLT, loadA, rdCells, storeA, setAt, binA]
    refine (hc l 0 v c d s s _ hv hl (Nat.zero_le _) rfl ?_ ?_ ?_ ?_ ho hq h3 h4 hc3 hd3 hcq hdq ⟨Nat.le_refl _, fun _ _ _ => rfl⟩).mono ?_
    · simp only [go_sem, ↓reduceIte, reduceCtorEq, Nat.reduceEqDiff, Nat.reduceAdd, Nat.reduceSub, Nat.reduceMul, Nat.reduceLeDiff, Nat.reduceLT, loadA, rdCells, storeA, setAt, binA]
    · simp only [go_sem, ↓reduceIte, reduceCtorEq, Nat.reduceEqDiff, Nat.reduceAdd, Nat.reduceSub, Nat.reduceMul, Nat.reduceLeDiff, Nat.reduceLT, loadA, rdCells, storeA, setAt, binA]
    · simp only [go_sem, ↓reduceIte, reduceCtorEq, Nat.reduceEqDiff, Nat.reduceAdd, Nat.reduceSub, Nat.reduceMul, Nat.reduceLeDiff, Nat.reduceLT, loadA, rdCells, storeA, setAt, binA]
    · simp only [go_sem, ↓reduceIte, reduceCtorEq, Nat.reduceEqDiff, Nat.reduceAdd, Nat.reduceSub, Nat.reduceMul, Nat.reduceLeDiff, Nat.reduceLT, loadA, rdCells, storeA, setAt, binA]; rfl
    · rintro x e' S' ⟨hx, hoo, hk⟩
      rcases hx with ⟨rfl, rfl⟩ | ⟨rfl, rfl, m, hm, hd⟩
      · simp only [go_sem, ↓reduceIte, reduceCtorEq, Nat.reduceEqDiff, Nat.reduceAdd, Nat.reduceSub, Nat.reduceMul, Nat.reduceLeDiff, Nat.reduceLT, loadA, rdCells, storeA, setAt, binA]
        exact ⟨by simp, _, rfl, ⟨-1, rfl, rfl⟩, hoo, hk⟩
      · simp only [go_sem, ↓reduceIte, reduceCtorEq, Nat.reduceEqDiff, Nat.reduceAdd, Nat.reduceSub, Nat.reduceMul, Nat.reduceLeDiff, Nat.reduceLT, loadA, rdCells, storeA, setAt, binA]
        exact ⟨by simp, _, rfl, ⟨m, hm, hd⟩, hoo, hk⟩
  · rintro w s2 ⟨⟨m, rfl, hm⟩, ho2, hk⟩
    simp only [go_sem, ↓reduceIte, reduceCtorEq, Nat.reduceEqDiff, Nat.reduceAdd, Nat.reduceSub, Nat.reduceMul, Nat.reduceLeDiff, Nat.reduceLT, loadA, rdCells, storeA, setAt, binA]
    exact ⟨by simp, _, rfl, by rw [hm], ho2, hk⟩

theorem isl_ent {sv : AV} {ss : List Tm} (h : ISl tyc sv ss) {v : Nat} {u : Tm} (hu : ss[v]? = some u) : ∃ r, iaddrA 4 sv (.int .i64 v) = some (.eptr (.int .i64 (kof u) :: .str (nof u) :: .int .i64 (vof u) :: .sl (tycs (lof u)) (lof u).length false none :: r)) := by
  have := h.at tyc_len hu
  rw [tyc_w, tyw] at this
  exact ⟨_, this⟩

set_option maxHeartbeats 4000000 in
theorem cy_step (hX : NoX X) {ss : List Tm} {sv : AV} (hsv : ISl tyc sv ss) {q v : Nat} {u : Tm} {st st' : List Int} {b : Bool} (hln : st.length = ss.length) (hl2 : st'.length = ss.length) (h : st[v]? = some 0) (hu : ss[v]? = some u) (hn : ¬ (kof u = 0 ∧ vof u = v)) (hsz : tsz u ≤ 4096)
    (hc : CyC X ss sv q (st.set v 1) st' b (.all (fre u))) (s : St) (ho : s.obj q = some (.cells (icells st))) (hq : q < s.size) :
    WC T X 60 [sv, .msl q 0 ss.length 1, .int .i64 v] s (fun r s' => r = .bool b ∧ s'.obj q = some (.cells (icells (bif b then st' else st'.set v 2))) ∧ KeepBut q s s') := by
  have hcl : sv.cells = [sv] := by rcases hsv with ⟨rfl, -⟩ | ⟨f, t, rfl⟩ <;> rfl
  have hv : v < ss.length := (List.getElem?_eq_some_iff.1 hu).1
  refine WC_fn cf60 (hX 60 (by decide)) T60 (by simp [cf60]) ?_
  have hba := bat (q := q) (i := v) (n := ss.length) hv
  have hig := iget h
  have hle : (v + 1 ≤ (icells st).length) = True := eq_true (by simp [icells]; omega)
  have hle1 : (v < (icells st).length) = True := eq_true (by simp [icells]; omega)
  have hd : decide ((0 : Int) > 0) = false := rfl
  obtain ⟨r, hat⟩ := isl_ent hsv hu
  have hset := iset st v 1
  have hfr := fun S => free_law hX (tsz u) u (Nat.le_refl _) (by omega) _ S (isl_tycs (lof u))
  simp only [tyw] at hfr
  have hfl := fre_len u
  have hcond : (kof u == 0) = false ∨ ((kof u == 0) = true ∧ (vof u == (v : Int)) = false) := by
    by_cases hk : kof u = 0
    · exact Or.inr ⟨by simp [hk], by simpa using fun h2 => hn ⟨hk, h2⟩⟩
    · exact Or.inl (by simpa using hk)
  have tail : ∀ (fv : AV) (S1 S2 : St), S1 = ((s.new (.cells [sv])).new (.cells [.msl q 0 ss.length 1])).put q (some (.cells (icells (st.set v 1)))) → ISl ic fv (fre u) → Keep S1 S2 →
      WC T X 19 [fv, .func 76 [.ptr s.size 0, .ptr (s.size + 1) 0]] S2 (fun r s' => r = .bool b ∧ s'.obj q = some (.cells (icells st')) ∧ KeepBut q S2 s') := by
    intro fv S1 S2 hS1 hfv hk2
    have z1 : S1.size = s.size + 1 + 1 := by rw [hS1]; rfl
    have o1 : S1.obj q = some (.cells (icells (st.set v 1))) := by rw [hS1, put_eq]
    have o3 : S1.obj s.size = some (.cells [sv]) := by rw [hS1, put_ne (by omega), new_ne (by simp [St.new])]; exact new_eq rfl
    have o4 : S1.obj (s.size + 1) = some (.cells [.msl q 0 ss.length 1]) := by rw [hS1, put_ne (by omega)]; exact new_eq rfl
    have hz2 := hk2.1
    exact all_con hX hc hfv (by omega) s.size (s.size + 1) S2 (hk2.obj (by omega) o1) (by omega) (hk2.obj (by omega) o3) (hk2.obj (by omega) o4) (by omega) (by omega) (by omega) (by omega)
  have kb1 : ∀ S1, S1 = ((s.new (.cells [sv])).new (.cells [.msl q 0 ss.length 1])).put q (some (.cells (icells (st.set v 1)))) → KeepBut q s S1 := by
    intro S1 hS1
    rw [hS1]
    refine ⟨by simp only [St.new, St.put]; omega, fun j hj hn => ?_⟩
    rw [put_ne hn, new_ne (by simp only [St.new]; omega), new_ne (by omega)]
  obtain ⟨S1, hS1⟩ : ∃ S1, S1 = ((s.new (.cells [sv])).new (.cells [.msl q 0 ss.length 1])).put q (some (.cells (icells (st.set v 1)))) := ⟨_, rfl⟩
  have k1 := kb1 S1 hS1
  have z1 : S1.size = s.size + 1 + 1 := by rw [hS1]; rfl
  have o3 : S1.obj s.size = some (.cells [sv]) := by rw [hS1, put_ne (by omega), new_ne (by simp [St.new])]; exact new_eq rfl
  have o4 : S1.obj (s.size + 1) = some (.cells [.msl q 0 ss.length 1]) := by rw [hS1, put_ne (by omega)]; exact new_eq rfl
  have fin : ∀ (S2 S3 : St), Keep S1 S2 → KeepBut q S2 S3 → S3.obj q = some (.cells (icells st')) → S3.obj (s.size + 1) = some (.cells [.msl q 0 ss.length 1]) ∧ KeepBut q s S3 ∧ KeepBut q s (S3.put q (some (.cells (icells (st'.set v 2))))) := by
    intro S2 S3 hk2 hk3 ho3
    have kk := (k1.trans (hk2.but (p := q))).trans hk3
    refine ⟨(hk3.2 _ (by have := hk2.1; omega) (by omega)).trans (hk2.obj (by omega) o4), kk, kk.1, fun j hj hn => ?_⟩
    rw [put_ne hn]; exact kk.2 j hj hn
  have hle2 : (v + 1 ≤ (icells st').length) = True := eq_true (by simp [icells]; omega)
  have hset2 := iset st' v 2
  rcases hcond with z0 | ⟨z0, zv⟩
  · simp only [cf60, hcl, hba, ho, hig, hle, hle1, hd, hat, z0, hset, ne_a hq, ne_b hq, ne_c hq, ne_d hq, Nat.le_add_left, go_sem, ↓reduceIte, reduceCtorEq, Nat.reduceEqDiff, Nat.reduceAdd, Nat.reduceSub, Nat.reduceMul, Nat.reduceLeDiff, Nat.reduceLT, loadA, rdCells, storeA, setAt, binA]
    rw [← hS1]
    refine WO_callx _ rfl ((hfr _).mono ?_)
    rintro fv S2 ⟨hfv, hk2⟩
    simp only [go_sem, ↓reduceIte, reduceCtorEq, Nat.reduceEqDiff, Nat.reduceAdd, Nat.reduceSub, Nat.reduceMul, Nat.reduceLeDiff, Nat.reduceLT, loadA, rdCells, storeA, setAt, binA]
    refine WO_callx _ rfl ((tail fv S1 S2 hS1 hfv hk2).mono ?_)
    rintro w S3 ⟨rfl, ho3, hk3⟩
    obtain ⟨f1, f2, f3⟩ := fin S2 S3 hk2 hk3 ho3
    cases b
    · simp only [hba, ho3, f1, hle2, hset2, Nat.le_add_left, go_sem, ↓reduceIte, reduceCtorEq, Nat.reduceEqDiff, Nat.reduceAdd, Nat.reduceSub, Nat.reduceMul, Nat.reduceLeDiff, Nat.reduceLT, loadA, rdCells, storeA, setAt, binA]
      exact ⟨by simp, _, rfl, rfl, rfl, f3⟩
    · simp only [go_sem, ↓reduceIte, reduceCtorEq, Nat.reduceEqDiff, Nat.reduceAdd, Nat.reduceSub, Nat.reduceMul, Nat.reduceLeDiff, Nat.reduceLT, loadA, rdCells, storeA, setAt, binA]
      exact ⟨by simp, _, rfl, rfl, ho3, f2⟩
  · simp only [cf60, hcl, hba, ho, hig, hle, hle1, hd, hat, z0, zv, hset, ne_a hq, ne_b hq, ne_c hq, ne_d hq, Nat.le_add_left, go_sem, ↓reduceIte, reduceCtorEq, Nat.reduceEqDiff, Nat.reduceAdd, Nat.reduceSub, Nat.reduceMul, Nat.reduceLeDiff, Nat.reduceLT, loadA, rdCells, storeA, setAt, binA]
    rw [← hS1]
    refine WO_callx _ rfl ((hfr _).mono ?_)
    rintro fv S2 ⟨hfv, hk2⟩
    simp only [go_sem, ↓reduceIte, reduceCtorEq, Nat.reduceEqDiff, Nat.reduceAdd, Nat.reduceSub, Nat.reduceMul, Nat.reduceLeDiff, Nat.reduceLT, loadA, rdCells, storeA, setAt, binA]
    refine WO_callx _ rfl ((tail fv S1 S2 hS1 hfv hk2).mono ?_)
    rintro w S3 ⟨rfl, ho3, hk3⟩
    obtain ⟨f1, f2, f3⟩ := fin S2 S3 hk2 hk3 ho3
    cases b
    · simp only [hba, ho3, f1, hle2, hset2, Nat.le_add_left, go_sem, ↓reduceIte, reduceCtorEq, Nat.reduceEqDiff, Nat.reduceAdd, Nat.reduceSub, Nat.reduceMul, Nat.reduceLeDiff, Nat.reduceLT, loadA, rdCells, storeA, setAt, binA]
      exact ⟨by simp, _, rfl, rfl, rfl, f3⟩
    · simp only [go_sem, ↓reduceIte, reduceCtorEq, Nat.reduceEqDiff, Nat.reduceAdd, Nat.reduceSub, Nat.reduceMul, Nat.reduceLeDiff, Nat.reduceLT, loadA, rdCells, storeA, setAt, binA]
      exact ⟨by simp, _, rfl, rfl, ho3, f2⟩

theorem drop_inv {full : List Int} {i : Nat} {x : Int} {l : List Int} (h : full.drop i = x :: l) : i + 1 ≤ full.length ∧ full[i]? = some x ∧ full.drop (i + 1) = l := by
  have hi : i < full.length := by
    have := congrArg List.length h
    simp at this; omega
  rw [List.drop_eq_getElem_cons hi] at h
  cases h
  exact ⟨hi, List.getElem?_eq_getElem hi, rfl⟩
theorem clo76 (hX : NoX X) {sv : AV} {N q w c d : Nat} {s : St} {Q : AV → St → Prop} (h3 : s.obj c = some (.cells [sv])) (h4 : s.obj d = some (.cells [.msl q 0 N 1])) (h : WC T X 60 [sv, .msl q 0 N 1, .int .i64 w] s Q) : WC T X 76 [.int .i64 w, .ptr c 0, .ptr d 0] s Q := by
  refine WC_fn cf76 (hX 76 (by decide)) T76 (by simp [cf76]) ?_
  simp only [cf76, h3, h4, Nat.le_add_left, go_sem, ↓reduceIte, reduceCtorEq, Nat.reduceEqDiff, Nat.reduceAdd, Nat.reduceSub, Nat.reduceMul, Nat.reduceLeDiff, Nat.reduceLT, loadA, rdCells, storeA, setAt, binA]
  refine WO_callx _ rfl (h.mono ?_)
  intro r S2 hq
  simp only [go_sem, ↓reduceIte, reduceCtorEq, Nat.reduceEqDiff, Nat.reduceAdd, Nat.reduceSub, Nat.reduceMul, Nat.reduceLeDiff, Nat.reduceLT, loadA, rdCells, storeA, setAt, binA]
  exact ⟨by simp, _, rfl, hq⟩

set_option maxHeartbeats 4000000 in
theorem cy_law (hX : NoX X) {ss : List Tm} {sv : AV} (hsv : ISl tyc sv ss) (hsz : ∀ (i : Nat) u, ss[i]? = some u → tsz u ≤ 4096) {q : Nat} {st st' : List Int} {j : CyJ} {b : Bool} (h : Cy ss st j b st') : st.length = ss.length → CyC X ss sv q st st' b j := by
  have hcl : sv.cells = [sv] := by rcases hsv with ⟨rfl, -⟩ | ⟨f, t, rfl⟩ <;> rfl
  induction h with
  | done st v x h hx =>
    intro hln s ho hq
    have hv : v < ss.length := by rw [← hln]; exact (List.getElem?_eq_some_iff.1 h).1
    refine WC_fn cf60 (hX 60 (by decide)) T60 (by simp [cf60]) ?_
    have hba := bat (q := q) (i := v) (n := ss.length) hv
    have hig := iget h
    have hle : (v + 1 ≤ (icells st).length) = True := eq_true (by simp [icells]; omega)
    have hd : decide (x > 0) = true := by simpa using hx
    simp only [cf60, hcl, hba, ho, hig, hle, hd, ne_a hq, ne_b hq, ne_c hq, ne_d hq, Nat.le_add_left, go_sem, ↓reduceIte, reduceCtorEq, Nat.reduceEqDiff, Nat.reduceAdd, Nat.reduceSub, Nat.reduceMul, Nat.reduceLeDiff, Nat.reduceLT, loadA, rdCells, storeA, setAt, binA]
    exact ⟨by simp, _, rfl, rfl, ((((Keep.refl s).new' _).new' _).but (p := q))⟩
  | self st v u h hu h0 h1 =>
    intro hln s ho hq
    have hv : v < ss.length := (List.getElem?_eq_some_iff.1 hu).1
    refine WC_fn cf60 (hX 60 (by decide)) T60 (by simp [cf60]) ?_
    have hba := bat (q := q) (i := v) (n := ss.length) hv
    have hig := iget h
    have hle : (v + 1 ≤ (icells st).length) = True := eq_true (by simp [icells]; omega)
    have hd : decide ((0 : Int) > 0) = false := rfl
    obtain ⟨r, hat⟩ := isl_ent hsv hu
    have z0 : (kof u == 0) = true := by simp [h0]
    have z1 : (vof u == (v : Int)) = true := by simp [h1]
    have z2 : ((0 : Int) == 1) = false := rfl
    simp only [cf60, hcl, hba, ho, hig, hle, hd, hat, z0, z1, z2, ne_a hq, ne_b hq, ne_c hq, ne_d hq, Nat.le_add_left, go_sem, ↓reduceIte, reduceCtorEq, Nat.reduceEqDiff, Nat.reduceAdd, Nat.reduceSub, Nat.reduceMul, Nat.reduceLeDiff, Nat.reduceLT, loadA, rdCells, storeA, setAt, binA]
    exact ⟨by simp, _, rfl, rfl, ((((Keep.refl s).new' _).new' _).but (p := q))⟩
  | go st st' v u h hu hn hr ih =>
    intro hln s ho hq
    have hl2 := cy_len hr
    rw [List.length_set, hln] at hl2
    exact cy_step hX hsv hln hl2 h hu hn (hsz v u hu) (ih (by rw [List.length_set]; exact hln)) s ho hq
  | bad st st' v u h hu hn hr ih =>
    intro hln s ho hq
    have hl2 := cy_len hr
    rw [List.length_set, hln] at hl2
    exact cy_step hX hsv hln hl2 h hu hn (hsz v u hu) (ih (by rw [List.length_set]; exact hln)) s ho hq
  | nil st =>
    intro hln full i v c d s0 S e hv hl hi hdr e0 e1 e7 e8 ho hq h3 h4 hc3 hd3 hcq hdq hk
    have hi2 : i = full.length := by have := congrArg List.length hdr; simp at this; omega
    subst hi2
    have hd : decide (((full.length : Nat) : Int) < (full.length : Int)) = false := by simp
    refine W_loop ?_
    simp only [cf48_l0, e0, e1, e7, e8, hd, go_sem, ↓reduceIte, reduceCtorEq, Nat.reduceEqDiff, Nat.reduceAdd, Nat.reduceSub, Nat.reduceMul, Nat.reduceLeDiff, Nat.reduceLT, loadA, rdCells, storeA, setAt, binA]
    exact ⟨Or.inl trivial, ho, hk⟩
  | cons st st1 st2 w l b h hs ih1 ih2 =>
    intro hln full i v c d s0 S e hv hl hi hdr e0 e1 e7 e8 ho hq h3 h4 hc3 hd3 hcq hdq hk
    obtain ⟨hi1, hfx, hdr1⟩ := drop_inv hdr
    have hd : decide ((i : Int) < (full.length : Int)) = true := by simp; omega
    generalize hL : CC.loop cf48_l0 = L
    refine W_loop_eq hL ?_
    simp only [cf48_l0, e0, e1, e7, e8, hd, hv.at ic_len hfx, ic, Nat.le_add_left, go_sem, ↓reduceIte, reduceCtorEq, Nat.reduceEqDiff, Nat.reduceAdd, Nat.reduceSub, Nat.reduceMul, Nat.reduceLeDiff, Nat.reduceLT, loadA, rdCells, storeA, setAt, binA]
    refine WO_callvx 76 [.ptr c 0, .ptr d 0] [.int .i64 w, .ptr c 0, .ptr d 0] (by simp only [e0, e1, go_sem, ↓reduceIte, reduceCtorEq, Nat.reduceEqDiff, Nat.reduceAdd, Nat.reduceSub, Nat.reduceMul, Nat.reduceLeDiff, Nat.reduceLT, loadA, rdCells, storeA, setAt, binA]) (by simp only [go_sem, ↓reduceIte, reduceCtorEq, Nat.reduceEqDiff, Nat.reduceAdd, Nat.reduceSub, Nat.reduceMul, Nat.reduceLeDiff, Nat.reduceLT, loadA, rdCells, storeA, setAt, binA]) ((clo76 hX (hk.2 c hc3 hcq ▸ h3) (hk.2 d hd3 hdq ▸ h4) (ih1 hln S ho (Nat.lt_of_lt_of_le hq hk.1))).mono ?_)
    rintro r S2 ⟨rfl, ho2, hk2⟩
    simp only [e0, e1, e7, e8, wrapn (n := i) (by omega), go_sem, ↓reduceIte, reduceCtorEq, Nat.reduceEqDiff, Nat.reduceAdd, Nat.reduceSub, Nat.reduceMul, Nat.reduceLeDiff, Nat.reduceLT, loadA, rdCells, storeA, setAt, binA]
    subst hL
    refine ih2 ((cy_len h).trans hln) full (i + 1) v c d s0 S2 _ hv hl hi1 hdr1 ?_ ?_ ?_ ?_ ho2 hq h3 h4 hc3 hd3 hcq hdq (hk.trans hk2)
    · simp only [e0, go_sem, ↓reduceIte, reduceCtorEq, Nat.reduceEqDiff, Nat.reduceAdd, Nat.reduceSub, Nat.reduceMul, Nat.reduceLeDiff, Nat.reduceLT, loadA, rdCells, storeA, setAt, binA]
    · simp only [e1, go_sem, ↓reduceIte, reduceCtorEq, Nat.reduceEqDiff, Nat.reduceAdd, Nat.reduceSub, Nat.reduceMul, Nat.reduceLeDiff, Nat.reduceLT, loadA, rdCells, storeA, setAt, binA]
    · simp only [e7, go_sem, ↓reduceIte, reduceCtorEq, Nat.reduceEqDiff, Nat.reduceAdd, Nat.reduceSub, Nat.reduceMul, Nat.reduceLeDiff, Nat.reduceLT, loadA, rdCells, storeA, setAt, binA]
    · simp only [go_sem, ↓reduceIte, reduceCtorEq, Nat.reduceEqDiff, Nat.reduceAdd, Nat.reduceSub, Nat.reduceMul, Nat.reduceLeDiff, Nat.reduceLT, loadA, rdCells, storeA, setAt, binA]
  | stop st st1 w l h ih =>
    intro hln full i v c d s0 S e hv hl hi hdr e0 e1 e7 e8 ho hq h3 h4 hc3 hd3 hcq hdq hk
    obtain ⟨hi1, hfx, hdr1⟩ := drop_inv hdr
    have hd : decide ((i : Int) < (full.length : Int)) = true := by simp; omega
    refine W_loop ?_
    simp only [cf48_l0, e0, e1, e7, e8, hd, hv.at ic_len hfx, ic, Nat.le_add_left, go_sem, ↓reduceIte, reduceCtorEq, Nat.reduceEqDiff, Nat.reduceAdd, Nat.reduceSub, Nat.reduceMul, Nat.reduceLeDiff, Nat.reduceLT, loadA, rdCells, storeA, setAt, binA]
    refine WO_callvx 76 [.ptr c 0, .ptr d 0] [.int .i64 w, .ptr c 0, .ptr d 0] (by simp only [e0, e1, go_sem, ↓reduceIte, reduceCtorEq, Nat.reduceEqDiff, Nat.reduceAdd, Nat.reduceSub, Nat.reduceMul, Nat.reduceLeDiff, Nat.reduceLT, loadA, rdCells, storeA, setAt, binA]) (by simp only [go_sem, ↓reduceIte, reduceCtorEq, Nat.reduceEqDiff, Nat.reduceAdd, Nat.reduceSub, Nat.reduceMul, Nat.reduceLeDiff, Nat.reduceLT, loadA, rdCells, storeA, setAt, binA]) ((clo76 hX (hk.2 c hc3 hcq ▸ h3) (hk.2 d hd3 hdq ▸ h4) (ih hln S ho (Nat.lt_of_lt_of_le hq hk.1))).mono ?_)
    rintro r S2 ⟨rfl, ho2, hk2⟩
    simp only [e0, e1, e7, e8, go_sem, ↓reduceIte, reduceCtorEq, Nat.reduceEqDiff, Nat.reduceAdd, Nat.reduceSub, Nat.reduceMul, Nat.reduceLeDiff, Nat.reduceLT, loadA, rdCells, storeA, setAt, binA]
    exact ⟨Or.inr ⟨i, rfl, by simp⟩, ho2, hk.trans hk2⟩
end Go.Am.U1

/- A part of the proof of unifySymmetric. Conditions: none. -/
namespace Go.Am.U1
open Go.Am.Un
set_option maxRecDepth 100000
set_option linter.unusedSimpArgs false
attribute [local go_sem] wseq COp.isStore wreg wdreg wret wskip wexit wblock wcnd cnd_t cnd_f then_n then_x then_r catch_n rnd_n rnd_x rnd_r catch_x catch_r wo_nil wo_grd grdO_t grdO_f wo_ops stpO wr_nil wr_alloc wr_guards grdR_t grdR_f wr_ops stpR evAllocs evOp env0_app eput_some eput_none eset_app Opd.ev wantedA faddrA snew_obj snew_size sput_obj sput_size av_cells av_one av_strip av_still unA eqbA fillA fldA lensA mmA mm2 mmFold List.getD_cons_zero List.getD_cons_succ List.getD_nil List.length_cons List.length_nil List.drop_zero List.drop_succ_cons List.take_succ_cons List.take_zero List.map_cons List.map_nil List.set_cons_zero List.set_cons_succ List.all_cons List.all_nil List.getElem?_cons_zero List.getElem?_cons_succ List.nil_append List.cons_append Nat.zero_add Nat.add_zero beq_self_eq_true bt bf Bool.not_true Bool.not_false Bool.and_true Bool.true_and Bool.and_false Bool.false_and and_self and_true true_and n0 n1 n2 n3 n4 m0 m1 m2 m3 c1 retA resAs resA undefA Option.map_some Option.map_none
variable {X : Ext}

end Go.Am.U1
