/- Sizes of what a substitution makes of its variables. Conditions: none. -/
import Derived.Test.YtfleakoephmgaaaDoorUtB
set_option linter.unusedSimpArgs false
set_option linter.unusedVariables false
namespace Go.Am.U1
open Go.Am.Un
set_option maxRecDepth 100000
set_option linter.unusedSimpArgs false
attribute [local go_sem] wseq COp.isStore wreg wdreg wret wskip wexit wblock wcnd cnd_t cnd_f then_n then_x then_r catch_n rnd_n rnd_x rnd_r catch_x catch_r wo_nil wo_grd grdO_t grdO_f wo_ops stpO wr_nil wr_alloc wr_guards grdR_t grdR_f wr_ops stpR evAllocs evOp env0_app eput_some eput_none eset_app Opd.ev wantedA faddrA snew_obj snew_size sput_obj sput_size av_cells av_one av_strip av_still unA eqbA fillA fldA lensA mmA mm2 mmFold List.getD_cons_zero List.getD_cons_succ List.getD_nil List.length_cons List.length_nil List.drop_zero List.drop_succ_cons List.take_succ_cons List.take_zero List.map_cons List.map_nil List.set_cons_zero List.set_cons_succ List.all_cons List.all_nil List.getElem?_cons_zero List.getElem?_cons_succ List.nil_append List.cons_append Nat.zero_add Nat.add_zero beq_self_eq_true bt bf Bool.not_true Bool.not_false Bool.and_true Bool.true_and Bool.and_false Bool.false_and and_self and_true true_and n0 n1 n2 n3 n4 m0 m1 m2 m3 c1 retA resAs resA undefA Option.map_some Option.map_none
variable {X : Ext}

def icells (l : List Int) : List AV := l.map (.int .i64)
theorem iget {fl : List Int} {i : Nat} {x : Int} (h : fl[i]? = some x) : List.take 1 (List.drop i (icells fl)) = [.int .i64 x] := by
  obtain ⟨hi, hx⟩ := List.getElem?_eq_some_iff.1 h
  rw [List.drop_eq_getElem_cons (by simpa [icells] using hi)]
  simp [icells, hx]
theorem iset (fl : List Int) (i : Nat) (x : Int) : (icells fl).set i (.int .i64 x) = icells (fl.set i x) := by simp [icells, List.map_set]

theorem tszs_sum : ∀ l : List Tm, tszs l = (l.map tsz).sum
  | [] => by rw [tszs]; rfl
  | t :: r => by rw [tszs, tszs_sum r]; simp

def cap97 (n : Nat) : Int := if n ≤ 4097 then n else 4097
theorem cap97_b (n : Nat) : 0 ≤ cap97 n ∧ cap97 n ≤ 4097 := by unfold cap97; split <;> omega
theorem cap97_add (x y : Nat) : (if cap97 x + cap97 y ≤ 4097 then cap97 x + cap97 y else 4097) = cap97 (x + y) := by
  unfold cap97; (repeat' split) <;> omega

/-- The memory of a meter. -/
structure Mem (ss : List Tm) (of : List Int) : Prop where
  ln : of.length = ss.length
  ok : ∀ (w : Nat) x, of[w]? = some x → x = 0 ∨ ∀ B, Ap ss (vtm w) B → x = cap97 (tsz B)
theorem Mem.set {ss : List Tm} {of : List Int} (h : Mem ss of) {j : Nat} {x : Int} (hx : ∀ B, Ap ss (vtm j) B → x = cap97 (tsz B)) : Mem ss (of.set j x) := by
  refine ⟨by rw [List.length_set]; exact h.ln, fun w y hy => ?_⟩
  by_cases hw : w = j
  · subst hw
    by_cases hl : w < of.length
    · rw [List.getElem?_set_self hl] at hy; cases hy; exact Or.inr hx
    · rw [List.getElem?_eq_none (by simpa using Nat.le_of_not_lt hl)] at hy; cases hy
  · rw [List.getElem?_set_ne (by omega)] at hy; exact h.ok w y hy

theorem ia_of {o N j : Nat} (hj : j < N) : iaddrA 1 (.msl o 0 N 1) (.int .i64 j) = some (.ptr o j) := bat hj

set_option maxHeartbeats 8000000 in
theorem meter_law (hX : NoX X) {ss : List Tm} {rk : Nat → Nat} {m o : Nat} {sv : AV} (hac : Acy ss rk) (hom : o ≠ m) : ∀ (R n : Nat) (t A : Tm), Ap ss t A → (∀ x : Nat, Occ x t → rk x < R) → Wt ss.length t → tsz t ≤ n → ∀ (s : St) (of : List Int),
    RdS sv ss s → (∀ p, sv = .msl p 0 ss.length 4 → p ≠ o) → s.obj m = some (.cells [sv, .msl o 0 ss.length 1]) → m < s.size → s.obj o = some (.cells (icells of)) → o < s.size → Mem ss of →
    WC T X 77 [.ptr m 0, .agg (tyc t)] s (fun r s' => r = .int .i64 (cap97 (tsz A)) ∧ ∃ of', s'.obj o = some (.cells (icells of')) ∧ Mem ss of' ∧ KeepBut o s s') := by
  intro R
  induction R using Nat.strongRecOn with
  | ind R ihR =>
  intro n
  induction n with
  | zero => intro t A _ _ _ h; have := tsz_pos t; omega
  | succ n ihn =>
    intro t A hA hR hw hs s of hrd hpo hm hms ho hos hmem
    refine WC_fn cf77 (hX 77 (by decide)) T77 (by simp [cf77]) ?_
    by_cases hk : kof t = 0
    · obtain ⟨j, hj, rfl⟩ := wt_var hw hk
      have hRj := hR j (by rw [vtm, Occ, if_pos rfl])
      obtain ⟨u, hu⟩ : ∃ u, ss[j]? = some u := ⟨_, List.getElem?_eq_getElem hj⟩
      obtain ⟨x, hx⟩ : ∃ x, of[j]? = some x := ⟨_, List.getElem?_eq_getElem (by rw [hmem.ln]; exact hj)⟩
      have z0 : ((0 : Int) == 0) = true := rfl
      have hio := ia_of (o := o) hj
      have hig := iget hx
      have hile : (j + 1 ≤ (icells of).length) = True := eq_true (by simp [icells]; rw [hmem.ln]; omega)
      have emo : (m = o) = False := eq_false (Ne.symm hom)
      have eom : (o = m) = False := eq_false hom
      rw [vtm_c]
      have hcell := hrd.cells
      have hjj : ((j : Int) == (j : Int)) = true := by simp
      rcases hrd.at hu with ⟨r, hat⟩ | ⟨p, L, hat, hop, hpz, hle, htk⟩
      · have hpz : True := trivial
        by_cases hse : kof u = 0 ∧ vof u = (j : Int)
        · obtain ⟨hku, hvu⟩ := hse
          rw [hku, hvu] at hat
          have hA1 : A = vtm j := ap_det hA (.self _ u j rfl rfl hu hku hvu)
          subst hA1
          simp only [cf77, hm, hat, z0, hjj, ne_a hms, ne_b hms, ne_c hms, ne_d hms, ne_a hos, ne_b hos, ne_c hos, ne_d hos, emo, eom, Nat.le_add_left, go_sem, ↓reduceIte, reduceCtorEq, Nat.reduceEqDiff, Nat.reduceAdd, Nat.reduceSub, Nat.reduceMul, Nat.reduceLeDiff, Nat.reduceLT, loadA, rdCells, storeA, setAt, binA]
          exact ⟨by simp, _, rfl, by rw [vtm, tsz, tszs]; rfl, of, by first | exact ho | (simp only [go_sem, ↓reduceIte, reduceCtorEq, Nat.reduceEqDiff, Nat.reduceAdd, Nat.reduceSub, Nat.reduceMul, Nat.reduceLeDiff, Nat.reduceLT, loadA, rdCells, storeA, setAt, binA]; exact ho), hmem, ((((Keep.refl s).new' _).new' _).put' (Nat.le_succ _) _).but⟩
        · have hA1 : Ap ss u A := by
            cases hA with
            | self _ u' j' h' hv' hi' hu' hw' =>
              obtain rfl := nat_eq hv' (show vof (vtm j) = (j : Int) from rfl)
              rw [hu] at hi'; cases hi'
              exact absurd ⟨hu', hw'⟩ hse
            | step _ u' _ j' h' hv' hi' hn' hr' =>
              obtain rfl := nat_eq hv' (show vof (vtm j) = (j : Int) from rfl)
              rw [hu] at hi'; cases hi'
              exact hr'
            | con => exact absurd hk (by assumption)
          have hdn : ∀ x : Nat, Occ x u → rk x < rk j := by
            rcases hac.dn j u hu with h | h
            · exact absurd h hse
            · exact h
          have hcall := fun S => ihR (rk j) hRj (tsz u) u A hA1 hdn (hac.wt j u hu) (Nat.le_refl _) S of
          rw [tyc_w u, tyw] at hcall
          have hkind : (kof u == 0) = false ∨ ((kof u == 0) = true ∧ kof u = 0 ∧ (vof u == (j : Int)) = false) := by
            by_cases h : kof u = 0
            · have h3 : vof u ≠ j := fun h2 => hse ⟨h, h2⟩
              exact Or.inr ⟨by simp [h], h, by simpa using h3⟩
            · exact Or.inl (by simpa using h)
          rcases hkind with hku0 | ⟨hku0, hku, hvu0⟩
          · cases hx0 : (x == 0)
            · have hxA : x = cap97 (tsz A) := by
                rcases hmem.ok j x hx with h | h
                · subst h; simp at hx0
                · exact h A hA
              simp only [cf77, hm, ho, hat, z0, hku0, hx0, hio, hig, hile, ne_a hms, ne_b hms, ne_c hms, ne_d hms, ne_a hos, ne_b hos, ne_c hos, ne_d hos, emo, eom, Nat.le_add_left, go_sem, ↓reduceIte, reduceCtorEq, Nat.reduceEqDiff, Nat.reduceAdd, Nat.reduceSub, Nat.reduceMul, Nat.reduceLeDiff, Nat.reduceLT, loadA, rdCells, storeA, setAt, binA]
              exact ⟨by simp, _, rfl, by rw [hxA], of, by simp only [ho, ne_a hms, ne_b hms, ne_c hms, ne_d hms, ne_a hos, ne_b hos, ne_c hos, ne_d hos, emo, eom, go_sem, ↓reduceIte, reduceCtorEq, Nat.reduceEqDiff, Nat.reduceAdd, Nat.reduceSub, Nat.reduceMul, Nat.reduceLeDiff, Nat.reduceLT, loadA, rdCells, storeA, setAt, binA], hmem, ((((Keep.refl s).new' _).new' _).put' (Nat.le_succ _) _).but⟩
            · simp only [cf77, hm, ho, hat, z0, hku0, hx0, hio, hig, hile, ne_a hms, ne_b hms, ne_c hms, ne_d hms, ne_a hos, ne_b hos, ne_c hos, ne_d hos, emo, eom, Nat.le_add_left, go_sem, ↓reduceIte, reduceCtorEq, Nat.reduceEqDiff, Nat.reduceAdd, Nat.reduceSub, Nat.reduceMul, Nat.reduceLeDiff, Nat.reduceLT, loadA, rdCells, storeA, setAt, binA]
              obtain ⟨SA, hSA⟩ : ∃ SA, SA = ((s.new (.cells [.int .i64 0, .str ⟨#[]⟩, .int .i64 j, .sl [] 0 false none])).new (.cells [.int .i64 0, .str ⟨#[]⟩, .int .i64 0, .nils])).put (s.size + 1) (some (.cells [.int .i64 (kof u), .str (nof u), .int .i64 (vof u), .sl (tycs (lof u)) (lof u).length false none])) := ⟨_, rfl⟩
              have hzA : SA.size = s.size + 1 + 1 := by rw [hSA]; rfl
              have hkA : Keep s SA := by rw [hSA]; exact (((Keep.refl s).new' _).new' _).put' (Nat.le_succ _) _
              have mA := hkA.obj hms hm
              have oA := hkA.obj hos ho
              have bA : SA.obj s.size = some (.cells [.int .i64 0, .str ⟨#[]⟩, .int .i64 j, .sl [] 0 false none]) := by rw [hSA, put_ne (by omega), new_ne (by simp [St.new]), new_eq rfl]
              have uA : SA.obj (s.size + 1) = some (.cells [.int .i64 (kof u), .str (nof u), .int .i64 (vof u), .sl (tycs (lof u)) (lof u).length false none]) := by rw [hSA, put_eq]
              refine W_dreg ?_
              rw [← hSA]
              simp only [wt_ops, stpT, Tr, mA, oA, bA, uA, wt_nil, chk1, avr, Bool.or_true, Nat.le_add_left, go_sem, ↓reduceIte, reduceCtorEq, Nat.reduceEqDiff, Nat.reduceAdd, Nat.reduceSub, Nat.reduceMul, Nat.reduceLeDiff, Nat.reduceLT, loadA, rdCells, storeA, setAt, binA]
              refine WT_callx _ rfl ((hcall SA (hrd.keep hkA) hpo mA (hkA.lt hms) oA (hkA.lt hos) hmem).mono ?_)
              rintro w S2 ⟨rfl, of2, o2, m2, k2⟩
              have mS := (k2.2 m (hkA.lt hms) (Ne.symm hom)).trans mA
              have bS := (k2.2 s.size (by omega) (by omega)).trans bA
              have hile2 : (j + 1 ≤ (icells of2).length) = True := eq_true (by simp [icells]; rw [m2.ln]; omega)
              have hm3 := m2.set (j := j) (x := cap97 (tsz A)) (fun B hB => by rw [ap_det hB hA])
              have hig3 := iget (fl := of2.set j (cap97 (tsz A))) (i := j) (x := cap97 (tsz A)) (by rw [List.getElem?_set_self (by rw [m2.ln]; exact hj)])
              have hile3 : (j + 1 ≤ (icells (of2.set j (cap97 (tsz A)))).length) = True := eq_true (by simp [icells]; rw [m2.ln]; omega)
              have eso : (s.size = o) = False := eq_false (by omega)
              simp only [wt_ops, stpT, Tr, mA, bA, mS, bS, o2, hio, hile2, emo, eso, iset, hig3, hile3, wt_nil, chk1, avr, Bool.or_true, Nat.le_add_left, go_sem, ↓reduceIte, reduceCtorEq, Nat.reduceEqDiff, Nat.reduceAdd, Nat.reduceSub, Nat.reduceMul, Nat.reduceLeDiff, Nat.reduceLT, loadA, rdCells, storeA, setAt, binA]
              refine ⟨by simp, _, rfl, rfl, _, by first | rw [put_eq] | rfl, hm3, ?_⟩
              exact ((hkA.but (p := o)).trans k2).trans ⟨by simp [St.put], fun k _ hk => put_ne hk⟩
          · rw [hku] at hat hcall
            cases hx0 : (x == 0)
            · have hxA : x = cap97 (tsz A) := by
                rcases hmem.ok j x hx with h | h
                · subst h; simp at hx0
                · exact h A hA
              simp only [cf77, hm, ho, hat, z0, hvu0, hx0, hio, hig, hile, ne_a hms, ne_b hms, ne_c hms, ne_d hms, ne_a hos, ne_b hos, ne_c hos, ne_d hos, emo, eom, Nat.le_add_left, go_sem, ↓reduceIte, reduceCtorEq, Nat.reduceEqDiff, Nat.reduceAdd, Nat.reduceSub, Nat.reduceMul, Nat.reduceLeDiff, Nat.reduceLT, loadA, rdCells, storeA, setAt, binA]
              exact ⟨by simp, _, rfl, by rw [hxA], of, by simp only [ho, ne_a hms, ne_b hms, ne_c hms, ne_d hms, ne_a hos, ne_b hos, ne_c hos, ne_d hos, emo, eom, go_sem, ↓reduceIte, reduceCtorEq, Nat.reduceEqDiff, Nat.reduceAdd, Nat.reduceSub, Nat.reduceMul, Nat.reduceLeDiff, Nat.reduceLT, loadA, rdCells, storeA, setAt, binA], hmem, ((((Keep.refl s).new' _).new' _).put' (Nat.le_succ _) _).but⟩
            · simp only [cf77, hm, ho, hat, z0, hvu0, hx0, hio, hig, hile, ne_a hms, ne_b hms, ne_c hms, ne_d hms, ne_a hos, ne_b hos, ne_c hos, ne_d hos, emo, eom, Nat.le_add_left, go_sem, ↓reduceIte, reduceCtorEq, Nat.reduceEqDiff, Nat.reduceAdd, Nat.reduceSub, Nat.reduceMul, Nat.reduceLeDiff, Nat.reduceLT, loadA, rdCells, storeA, setAt, binA]
              obtain ⟨SA, hSA⟩ : ∃ SA, SA = ((s.new (.cells [.int .i64 0, .str ⟨#[]⟩, .int .i64 j, .sl [] 0 false none])).new (.cells [.int .i64 0, .str ⟨#[]⟩, .int .i64 0, .nils])).put (s.size + 1) (some (.cells [.int .i64 0, .str (nof u), .int .i64 (vof u), .sl (tycs (lof u)) (lof u).length false none])) := ⟨_, rfl⟩
              have hzA : SA.size = s.size + 1 + 1 := by rw [hSA]; rfl
              have hkA : Keep s SA := by rw [hSA]; exact (((Keep.refl s).new' _).new' _).put' (Nat.le_succ _) _
              have mA := hkA.obj hms hm
              have oA := hkA.obj hos ho
              have bA : SA.obj s.size = some (.cells [.int .i64 0, .str ⟨#[]⟩, .int .i64 j, .sl [] 0 false none]) := by rw [hSA, put_ne (by omega), new_ne (by simp [St.new]), new_eq rfl]
              have uA : SA.obj (s.size + 1) = some (.cells [.int .i64 0, .str (nof u), .int .i64 (vof u), .sl (tycs (lof u)) (lof u).length false none]) := by rw [hSA, put_eq]
              refine W_dreg ?_
              rw [← hSA]
              simp only [wt_ops, stpT, Tr, mA, oA, bA, uA, wt_nil, chk1, avr, Bool.or_true, Nat.le_add_left, go_sem, ↓reduceIte, reduceCtorEq, Nat.reduceEqDiff, Nat.reduceAdd, Nat.reduceSub, Nat.reduceMul, Nat.reduceLeDiff, Nat.reduceLT, loadA, rdCells, storeA, setAt, binA]
              refine WT_callx _ rfl ((hcall SA (hrd.keep hkA) hpo mA (hkA.lt hms) oA (hkA.lt hos) hmem).mono ?_)
              rintro w S2 ⟨rfl, of2, o2, m2, k2⟩
              have mS := (k2.2 m (hkA.lt hms) (Ne.symm hom)).trans mA
              have bS := (k2.2 s.size (by omega) (by omega)).trans bA
              have hile2 : (j + 1 ≤ (icells of2).length) = True := eq_true (by simp [icells]; rw [m2.ln]; omega)
              have hm3 := m2.set (j := j) (x := cap97 (tsz A)) (fun B hB => by rw [ap_det hB hA])
              have hig3 := iget (fl := of2.set j (cap97 (tsz A))) (i := j) (x := cap97 (tsz A)) (by rw [List.getElem?_set_self (by rw [m2.ln]; exact hj)])
              have hile3 : (j + 1 ≤ (icells (of2.set j (cap97 (tsz A)))).length) = True := eq_true (by simp [icells]; rw [m2.ln]; omega)
              have eso : (s.size = o) = False := eq_false (by omega)
              simp only [wt_ops, stpT, Tr, mA, bA, mS, bS, o2, hio, hile2, emo, eso, iset, hig3, hile3, wt_nil, chk1, avr, Bool.or_true, Nat.le_add_left, go_sem, ↓reduceIte, reduceCtorEq, Nat.reduceEqDiff, Nat.reduceAdd, Nat.reduceSub, Nat.reduceMul, Nat.reduceLeDiff, Nat.reduceLT, loadA, rdCells, storeA, setAt, binA]
              refine ⟨by simp, _, rfl, rfl, _, by first | rw [put_eq] | rfl, hm3, ?_⟩
              exact ((hkA.but (p := o)).trans k2).trans ⟨by simp [St.put], fun k _ hk => put_ne hk⟩
      · have hpo' : p ≠ o := by
          rcases hrd with h | ⟨p', h, -, -⟩
          · rcases h with ⟨rfl, h⟩ | ⟨f, tk, rfl⟩
            · simp [iaddrA] at hat
            · simp only [iaddrA] at hat
              split at hat <;> simp at hat
          · subst h
            simp only [iaddrA] at hat
            split at hat
            · simp only [Option.some.injEq, AV.ptr.injEq] at hat
              rw [← hat.1]; exact hpo _ rfl
            · simp at hat
        have epo : (p = o) = False := eq_false hpo'
        by_cases hse : kof u = 0 ∧ vof u = (j : Int)
        · obtain ⟨hku, hvu⟩ := hse
          rw [hku, hvu] at htk
          have hA1 : A = vtm j := ap_det hA (.self _ u j rfl rfl hu hku hvu)
          subst hA1
          simp only [cf77, hm, hat, hop, hle, htk, ne_a hpz, ne_b hpz, ne_c hpz, ne_d hpz, epo, z0, hjj, ne_a hms, ne_b hms, ne_c hms, ne_d hms, ne_a hos, ne_b hos, ne_c hos, ne_d hos, emo, eom, Nat.le_add_left, go_sem, ↓reduceIte, reduceCtorEq, Nat.reduceEqDiff, Nat.reduceAdd, Nat.reduceSub, Nat.reduceMul, Nat.reduceLeDiff, Nat.reduceLT, loadA, rdCells, storeA, setAt, binA]
          exact ⟨by simp, _, rfl, by rw [vtm, tsz, tszs]; rfl, of, by first | exact ho | (simp only [go_sem, ↓reduceIte, reduceCtorEq, Nat.reduceEqDiff, Nat.reduceAdd, Nat.reduceSub, Nat.reduceMul, Nat.reduceLeDiff, Nat.reduceLT, loadA, rdCells, storeA, setAt, binA]; exact ho), hmem, ((((Keep.refl s).new' _).new' _).put' (Nat.le_succ _) _).but⟩
        · have hA1 : Ap ss u A := by
            cases hA with
            | self _ u' j' h' hv' hi' hu' hw' =>
              obtain rfl := nat_eq hv' (show vof (vtm j) = (j : Int) from rfl)
              rw [hu] at hi'; cases hi'
              exact absurd ⟨hu', hw'⟩ hse
            | step _ u' _ j' h' hv' hi' hn' hr' =>
              obtain rfl := nat_eq hv' (show vof (vtm j) = (j : Int) from rfl)
              rw [hu] at hi'; cases hi'
              exact hr'
            | con => exact absurd hk (by assumption)
          have hdn : ∀ x : Nat, Occ x u → rk x < rk j := by
            rcases hac.dn j u hu with h | h
            · exact absurd h hse
            · exact h
          have hcall := fun S => ihR (rk j) hRj (tsz u) u A hA1 hdn (hac.wt j u hu) (Nat.le_refl _) S of
          rw [tyc_w u, tyw] at hcall
          have hkind : (kof u == 0) = false ∨ ((kof u == 0) = true ∧ kof u = 0 ∧ (vof u == (j : Int)) = false) := by
            by_cases h : kof u = 0
            · have h3 : vof u ≠ j := fun h2 => hse ⟨h, h2⟩
              exact Or.inr ⟨by simp [h], h, by simpa using h3⟩
            · exact Or.inl (by simpa using h)
          rcases hkind with hku0 | ⟨hku0, hku, hvu0⟩
          · cases hx0 : (x == 0)
            · have hxA : x = cap97 (tsz A) := by
                rcases hmem.ok j x hx with h | h
                · subst h; simp at hx0
                · exact h A hA
              simp only [cf77, hm, ho, hat, hop, hle, htk, ne_a hpz, ne_b hpz, ne_c hpz, ne_d hpz, epo, z0, hku0, hx0, hio, hig, hile, ne_a hms, ne_b hms, ne_c hms, ne_d hms, ne_a hos, ne_b hos, ne_c hos, ne_d hos, emo, eom, Nat.le_add_left, go_sem, ↓reduceIte, reduceCtorEq, Nat.reduceEqDiff, Nat.reduceAdd, Nat.reduceSub, Nat.reduceMul, Nat.reduceLeDiff, Nat.reduceLT, loadA, rdCells, storeA, setAt, binA]
              exact ⟨by simp, _, rfl, by rw [hxA], of, by simp only [ho, ne_a hms, ne_b hms, ne_c hms, ne_d hms, ne_a hos, ne_b hos, ne_c hos, ne_d hos, emo, eom, go_sem, ↓reduceIte, reduceCtorEq, Nat.reduceEqDiff, Nat.reduceAdd, Nat.reduceSub, Nat.reduceMul, Nat.reduceLeDiff, Nat.reduceLT, loadA, rdCells, storeA, setAt, binA], hmem, ((((Keep.refl s).new' _).new' _).put' (Nat.le_succ _) _).but⟩
            · simp only [cf77, hm, ho, hat, hop, hle, htk, ne_a hpz, ne_b hpz, ne_c hpz, ne_d hpz, epo, z0, hku0, hx0, hio, hig, hile, ne_a hms, ne_b hms, ne_c hms, ne_d hms, ne_a hos, ne_b hos, ne_c hos, ne_d hos, emo, eom, Nat.le_add_left, go_sem, ↓reduceIte, reduceCtorEq, Nat.reduceEqDiff, Nat.reduceAdd, Nat.reduceSub, Nat.reduceMul, Nat.reduceLeDiff, Nat.reduceLT, loadA, rdCells, storeA, setAt, binA]
              obtain ⟨SA, hSA⟩ : ∃ SA, SA = ((s.new (.cells [.int .i64 0, .str ⟨#[]⟩, .int .i64 j, .sl [] 0 false none])).new (.cells [.int .i64 0, .str ⟨#[]⟩, .int .i64 0, .nils])).put (s.size + 1) (some (.cells [.int .i64 (kof u), .str (nof u), .int .i64 (vof u), .sl (tycs (lof u)) (lof u).length false none])) := ⟨_, rfl⟩
              have hzA : SA.size = s.size + 1 + 1 := by rw [hSA]; rfl
              have hkA : Keep s SA := by rw [hSA]; exact (((Keep.refl s).new' _).new' _).put' (Nat.le_succ _) _
              have mA := hkA.obj hms hm
              have oA := hkA.obj hos ho
              have bA : SA.obj s.size = some (.cells [.int .i64 0, .str ⟨#[]⟩, .int .i64 j, .sl [] 0 false none]) := by rw [hSA, put_ne (by omega), new_ne (by simp [St.new]), new_eq rfl]
              have uA : SA.obj (s.size + 1) = some (.cells [.int .i64 (kof u), .str (nof u), .int .i64 (vof u), .sl (tycs (lof u)) (lof u).length false none]) := by rw [hSA, put_eq]
              refine W_dreg ?_
              rw [← hSA]
              simp only [wt_ops, stpT, Tr, mA, oA, bA, uA, wt_nil, chk1, avr, Bool.or_true, Nat.le_add_left, go_sem, ↓reduceIte, reduceCtorEq, Nat.reduceEqDiff, Nat.reduceAdd, Nat.reduceSub, Nat.reduceMul, Nat.reduceLeDiff, Nat.reduceLT, loadA, rdCells, storeA, setAt, binA]
              refine WT_callx _ rfl ((hcall SA (hrd.keep hkA) hpo mA (hkA.lt hms) oA (hkA.lt hos) hmem).mono ?_)
              rintro w S2 ⟨rfl, of2, o2, m2, k2⟩
              have mS := (k2.2 m (hkA.lt hms) (Ne.symm hom)).trans mA
              have bS := (k2.2 s.size (by omega) (by omega)).trans bA
              have hile2 : (j + 1 ≤ (icells of2).length) = True := eq_true (by simp [icells]; rw [m2.ln]; omega)
              have hm3 := m2.set (j := j) (x := cap97 (tsz A)) (fun B hB => by rw [ap_det hB hA])
              have hig3 := iget (fl := of2.set j (cap97 (tsz A))) (i := j) (x := cap97 (tsz A)) (by rw [List.getElem?_set_self (by rw [m2.ln]; exact hj)])
              have hile3 : (j + 1 ≤ (icells (of2.set j (cap97 (tsz A)))).length) = True := eq_true (by simp [icells]; rw [m2.ln]; omega)
              have eso : (s.size = o) = False := eq_false (by omega)
              simp only [wt_ops, stpT, Tr, mA, bA, mS, bS, o2, hio, hile2, emo, eso, iset, hig3, hile3, wt_nil, chk1, avr, Bool.or_true, Nat.le_add_left, go_sem, ↓reduceIte, reduceCtorEq, Nat.reduceEqDiff, Nat.reduceAdd, Nat.reduceSub, Nat.reduceMul, Nat.reduceLeDiff, Nat.reduceLT, loadA, rdCells, storeA, setAt, binA]
              refine ⟨by simp, _, rfl, rfl, _, by first | rw [put_eq] | rfl, hm3, ?_⟩
              exact ((hkA.but (p := o)).trans k2).trans ⟨by simp [St.put], fun k _ hk => put_ne hk⟩
          · rw [hku] at htk hcall
            cases hx0 : (x == 0)
            · have hxA : x = cap97 (tsz A) := by
                rcases hmem.ok j x hx with h | h
                · subst h; simp at hx0
                · exact h A hA
              simp only [cf77, hm, ho, hat, hop, hle, htk, ne_a hpz, ne_b hpz, ne_c hpz, ne_d hpz, epo, z0, hvu0, hx0, hio, hig, hile, ne_a hms, ne_b hms, ne_c hms, ne_d hms, ne_a hos, ne_b hos, ne_c hos, ne_d hos, emo, eom, Nat.le_add_left, go_sem, ↓reduceIte, reduceCtorEq, Nat.reduceEqDiff, Nat.reduceAdd, Nat.reduceSub, Nat.reduceMul, Nat.reduceLeDiff, Nat.reduceLT, loadA, rdCells, storeA, setAt, binA]
              exact ⟨by simp, _, rfl, by rw [hxA], of, by simp only [ho, ne_a hms, ne_b hms, ne_c hms, ne_d hms, ne_a hos, ne_b hos, ne_c hos, ne_d hos, emo, eom, go_sem, ↓reduceIte, reduceCtorEq, Nat.reduceEqDiff, Nat.reduceAdd, Nat.reduceSub, Nat.reduceMul, Nat.reduceLeDiff, Nat.reduceLT, loadA, rdCells, storeA, setAt, binA], hmem, ((((Keep.refl s).new' _).new' _).put' (Nat.le_succ _) _).but⟩
            · simp only [cf77, hm, ho, hat, hop, hle, htk, ne_a hpz, ne_b hpz, ne_c hpz, ne_d hpz, epo, z0, hvu0, hx0, hio, hig, hile, ne_a hms, ne_b hms, ne_c hms, ne_d hms, ne_a hos, ne_b hos, ne_c hos, ne_d hos, emo, eom, Nat.le_add_left, go_sem, ↓reduceIte, reduceCtorEq, Nat.reduceEqDiff, Nat.reduceAdd, Nat.reduceSub, Nat.reduceMul, Nat.reduceLeDiff, Nat.reduceLT, loadA, rdCells, storeA, setAt, binA]
              obtain ⟨SA, hSA⟩ : ∃ SA, SA = ((s.new (.cells [.int .i64 0, .str ⟨#[]⟩, .int .i64 j, .sl [] 0 false none])).new (.cells [.int .i64 0, .str ⟨#[]⟩, .int .i64 0, .nils])).put (s.size + 1) (some (.cells [.int .i64 0, .str (nof u), .int .i64 (vof u), .sl (tycs (lof u)) (lof u).length false none])) := ⟨_, rfl⟩
              have hzA : SA.size = s.size + 1 + 1 := by rw [hSA]; rfl
              have hkA : Keep s SA := by rw [hSA]; exact (((Keep.refl s).new' _).new' _).put' (Nat.le_succ _) _
              have mA := hkA.obj hms hm
              have oA := hkA.obj hos ho
              have bA : SA.obj s.size = some (.cells [.int .i64 0, .str ⟨#[]⟩, .int .i64 j, .sl [] 0 false none]) := by rw [hSA, put_ne (by omega), new_ne (by simp [St.new]), new_eq rfl]
              have uA : SA.obj (s.size + 1) = some (.cells [.int .i64 0, .str (nof u), .int .i64 (vof u), .sl (tycs (lof u)) (lof u).length false none]) := by rw [hSA, put_eq]
              refine W_dreg ?_
              rw [← hSA]
              simp only [wt_ops, stpT, Tr, mA, oA, bA, uA, wt_nil, chk1, avr, Bool.or_true, Nat.le_add_left, go_sem, ↓reduceIte, reduceCtorEq, Nat.reduceEqDiff, Nat.reduceAdd, Nat.reduceSub, Nat.reduceMul, Nat.reduceLeDiff, Nat.reduceLT, loadA, rdCells, storeA, setAt, binA]
              refine WT_callx _ rfl ((hcall SA (hrd.keep hkA) hpo mA (hkA.lt hms) oA (hkA.lt hos) hmem).mono ?_)
              rintro w S2 ⟨rfl, of2, o2, m2, k2⟩
              have mS := (k2.2 m (hkA.lt hms) (Ne.symm hom)).trans mA
              have bS := (k2.2 s.size (by omega) (by omega)).trans bA
              have hile2 : (j + 1 ≤ (icells of2).length) = True := eq_true (by simp [icells]; rw [m2.ln]; omega)
              have hm3 := m2.set (j := j) (x := cap97 (tsz A)) (fun B hB => by rw [ap_det hB hA])
              have hig3 := iget (fl := of2.set j (cap97 (tsz A))) (i := j) (x := cap97 (tsz A)) (by rw [List.getElem?_set_self (by rw [m2.ln]; exact hj)])
              have hile3 : (j + 1 ≤ (icells (of2.set j (cap97 (tsz A)))).length) = True := eq_true (by simp [icells]; rw [m2.ln]; omega)
              have eso : (s.size = o) = False := eq_false (by omega)
              simp only [wt_ops, stpT, Tr, mA, bA, mS, bS, o2, hio, hile2, emo, eso, iset, hig3, hile3, wt_nil, chk1, avr, Bool.or_true, Nat.le_add_left, go_sem, ↓reduceIte, reduceCtorEq, Nat.reduceEqDiff, Nat.reduceAdd, Nat.reduceSub, Nat.reduceMul, Nat.reduceLeDiff, Nat.reduceLT, loadA, rdCells, storeA, setAt, binA]
              refine ⟨by simp, _, rfl, rfl, _, by first | rw [put_eq] | rfl, hm3, ?_⟩
              exact ((hkA.but (p := o)).trans k2).trans ⟨by simp [St.put], fun k _ hk => put_ne hk⟩
    · obtain ⟨k, nm, v, l⟩ := t
      rw [kof_mk] at hk
      obtain ⟨L, rfl, hL⟩ := ap_con hk hA
      have hk0 : (k == 0) = false := by simpa using hk
      have hll := aps_len hL
      have hts := wt_lof hw
      rw [lof_mk] at hts
      rw [tsz] at hs
      rw [tyc]
      have hsl := isl_tycs l
      have hlen : lenA (.sl (tycs l) l.length false none) = some (.int .i64 l.length) := rfl
      generalize AV.sl (tycs l) l.length false none = lv at hsl hlen
      simp only [cf77, hk0, hlen, Nat.le_add_left, go_sem, ↓reduceIte, reduceCtorEq, Nat.reduceEqDiff, Nat.reduceAdd, Nat.reduceSub, Nat.reduceMul, Nat.reduceLeDiff, Nat.reduceLT, loadA, rdCells, storeA, setAt, binA]
      refine W_loop_nat (fun kk e S => ∃ (i : Nat) (of' : List Int), i + kk = l.length ∧ e 0 = .ptr m 0 ∧ e 58 = lv ∧ e 59 = .int .i64 l.length ∧ e 60 = .int .i64 i ∧ e 6 = .int .i64 (cap97 (1 + tszs (L.take i))) ∧ S.obj o = some (.cells (icells of')) ∧ Mem ss of' ∧ KeepBut o s S) ?_ l.length _ _
        ⟨0, of, by simp, ?_, ?_, ?_, ?_, ?_, ?_, hmem, ?_⟩
      · rintro kk e S ⟨i, of', hik, e0, e58, e59, e60, e6, hoS, hmS, hkS⟩
        by_cases hi : i < l.length
        · have hd : decide ((i : Int) < (l.length : Int)) = true := by simp; omega
          obtain ⟨a, ha⟩ : ∃ a, l[i]? = some a := ⟨_, List.getElem?_eq_getElem hi⟩
          obtain ⟨Ai, hAi, hap⟩ := aps_at hL ha
          have hal : a ∈ lof (Tm.mk k nm v l) := List.mem_of_getElem? ha
          have hza := tsz_mem hal
          rw [tsz] at hza
          have hat := hsl.at tyc_len ha
          have hmS' : S.obj m = some (.cells [sv, .msl o 0 ss.length 1]) := (hkS.2 m hms (Ne.symm hom)).trans hm
          have hmsS := Nat.lt_of_lt_of_le hms hkS.1
          have hosS := Nat.lt_of_lt_of_le hos hkS.1
          have hrdS : RdS sv ss S := by
            rcases hrd with h | ⟨p, h1, h2, h3⟩
            · exact Or.inl h
            · exact Or.inr ⟨p, h1, (hkS.2 p h3 (hpo p h1)).trans h2, Nat.lt_of_lt_of_le h3 hkS.1⟩
          have hcall := fun S' (hk' : Keep S S') => ihn a Ai hap (fun x ho => hR x ((occ_oth x (by simpa [kof_mk] using hk)).2 ⟨a, hal, ho⟩)) (wt_arg hw hal) (by omega) S' of' (hrdS.keep hk') hpo (hk'.obj hmsS hmS') (hk'.lt hmsS) (hk'.obj hosS hoS) (hk'.lt hosS) hmS
          rw [tyc_w, tyw] at hat
          rw [tyc_w a, tyw] at hcall
          simp only [cf77_l0, e0, e58, e59, e60, e6, hd, hat, Nat.le_add_left, go_sem, ↓reduceIte, reduceCtorEq, Nat.reduceEqDiff, Nat.reduceAdd, Nat.reduceSub, Nat.reduceMul, Nat.reduceLeDiff, Nat.reduceLT, loadA, rdCells, storeA, setAt, binA]
          refine WO_callx _ rfl ((hcall _ (((Keep.refl S).new' _).put' (Nat.le_refl _) _)).mono ?_)
          rintro w S2 ⟨rfl, of2, o2, m2, k2⟩
          have hb1 := cap97_b (1 + tszs (L.take i))
          have hb2 := cap97_b (tsz Ai)
          have hwr : IntKind.i64.wrap (cap97 (1 + tszs (L.take i)) + cap97 (tsz Ai)) = cap97 (1 + tszs (L.take i)) + cap97 (tsz Ai) := by rw [IntKind.wrap_i64]; omega
          have hmin : (if (4097 : Int) < cap97 (1 + tszs (L.take i)) + cap97 (tsz Ai) then 4097 else cap97 (1 + tszs (L.take i)) + cap97 (tsz Ai)) = cap97 (1 + tszs (L.take (i + 1))) := by
            have h1 : tszs (L.take (i + 1)) = tszs (L.take i) + tsz Ai := by
              rw [List.take_add_one, hAi, tszs_sum, tszs_sum]; simp
            rw [h1, ← Nat.add_assoc, ← cap97_add (1 + tszs (L.take i)) (tsz Ai)]
            (repeat' split) <;> omega
          simp only [e0, e58, e59, e60, e6, hwr, hmin, wrapn (n := i) (by omega), go_sem, ↓reduceIte, reduceCtorEq, Nat.reduceEqDiff, Nat.reduceAdd, Nat.reduceSub, Nat.reduceMul, Nat.reduceLeDiff, Nat.reduceLT, loadA, rdCells, storeA, setAt, binA]
          exact ⟨kk - 1, by omega, i + 1, of2, by omega, rfl, rfl, o2, m2, hkS.trans (((((Keep.refl S).new' _).put' (Nat.le_refl _) _).but (p := o)).trans k2)⟩
        · have hd : decide ((i : Int) < (l.length : Int)) = false := by simp; omega
          simp only [cf77_l0, e0, e58, e59, e60, e6, hd, go_sem, ↓reduceIte, reduceCtorEq, Nat.reduceEqDiff, Nat.reduceAdd, Nat.reduceSub, Nat.reduceMul, Nat.reduceLeDiff, Nat.reduceLT, loadA, rdCells, storeA, setAt, binA]
          exact ⟨by simp, _, rfl, by rw [List.take_of_length_le (by omega), tsz], of', hoS, hmS, hkS⟩
      · simp only [go_sem, ↓reduceIte, reduceCtorEq, Nat.reduceEqDiff, Nat.reduceAdd, Nat.reduceSub, Nat.reduceMul, Nat.reduceLeDiff, Nat.reduceLT, loadA, rdCells, storeA, setAt, binA]
      · simp only [go_sem, ↓reduceIte, reduceCtorEq, Nat.reduceEqDiff, Nat.reduceAdd, Nat.reduceSub, Nat.reduceMul, Nat.reduceLeDiff, Nat.reduceLT, loadA, rdCells, storeA, setAt, binA]
      · simp only [go_sem, ↓reduceIte, reduceCtorEq, Nat.reduceEqDiff, Nat.reduceAdd, Nat.reduceSub, Nat.reduceMul, Nat.reduceLeDiff, Nat.reduceLT, loadA, rdCells, storeA, setAt, binA]
      · simp only [go_sem, ↓reduceIte, reduceCtorEq, Nat.reduceEqDiff, Nat.reduceAdd, Nat.reduceSub, Nat.reduceMul, Nat.reduceLeDiff, Nat.reduceLT, loadA, rdCells, storeA, setAt, binA]; rfl
      · simp only [go_sem, ↓reduceIte, reduceCtorEq, Nat.reduceEqDiff, Nat.reduceAdd, Nat.reduceSub, Nat.reduceMul, Nat.reduceLeDiff, Nat.reduceLT, loadA, rdCells, storeA, setAt, binA]; rfl
      · simp only [ho, ne_a hos, go_sem, ↓reduceIte, reduceCtorEq, Nat.reduceEqDiff, Nat.reduceAdd, Nat.reduceSub, Nat.reduceMul, Nat.reduceLeDiff, Nat.reduceLT, loadA, rdCells, storeA, setAt, binA]
      · exact ((Keep.refl s).new' _).but
end Go.Am.U1
