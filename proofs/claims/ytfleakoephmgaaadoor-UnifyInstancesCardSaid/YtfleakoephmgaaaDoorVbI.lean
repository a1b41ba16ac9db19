/- UnifyInstances: Apply at variables that the substitution lacks; the run at an instance. Conditions: none. -/
import Derived.Test.YtfleakoephmgaaaDoorUuD
set_option linter.unusedSimpArgs false
set_option linter.unusedVariables false
namespace Go.Am.U1
open Go.Am.Un
set_option maxRecDepth 100000
set_option linter.unusedSimpArgs false
attribute [local go_sem] wseq COp.isStore wreg wdreg wret wskip wexit wblock wcnd cnd_t cnd_f then_n then_x then_r catch_n rnd_n rnd_x rnd_r catch_x catch_r wo_nil wo_grd grdO_t grdO_f wo_ops stpO wr_nil wr_alloc wr_guards grdR_t grdR_f wr_ops stpR evAllocs evOp env0_app eput_some eput_none eset_app Opd.ev wantedA faddrA snew_obj snew_size sput_obj sput_size av_cells av_one av_strip av_still unA eqbA fillA fldA lensA mmA mm2 mmFold List.getD_cons_zero List.getD_cons_succ List.getD_nil List.length_cons List.length_nil List.drop_zero List.drop_succ_cons List.take_succ_cons List.take_zero List.map_cons List.map_nil List.set_cons_zero List.set_cons_succ List.all_cons List.all_nil List.getElem?_cons_zero List.getElem?_cons_succ List.nil_append List.cons_append Nat.zero_add Nat.add_zero beq_self_eq_true bt bf Bool.not_true Bool.not_false Bool.and_true Bool.true_and Bool.and_false Bool.false_and and_self and_true true_and n0 n1 n2 n3 n4 m0 m1 m2 m3 c1 retA resAs resA undefA Option.map_some Option.map_none
variable {X : Ext}
theorem walk_out (hX : NoX X) {sv : AV} {ss : List Tm} (hsv : ISl tyc sv ss) {t : Tm} (h0 : kof t = 0) (hv : (ss.length : Int) ≤ vof t) (s : St) : WC T X 57 [sv, .agg (tyc t)] s (fun v s' => v = .agg (tyc t) ∧ Keep s s') := by
  refine WC_fn cf57 (hX 57 (by decide)) T57 (by simp [cf57]) ?_
  have hc : sv.cells = [sv] := by rcases hsv with ⟨rfl, -⟩ | ⟨f, t, rfl⟩ <;> rfl
  have hl := hsv.len
  rw [tyc_w t, tyw]
  simp only [cf57, go_sem, ↓reduceIte, reduceCtorEq, Nat.reduceEqDiff, Nat.reduceAdd, Nat.reduceSub, Nat.reduceMul, Nat.reduceLeDiff, Nat.reduceLT, loadA, rdCells, storeA, setAt, binA]
  refine W_loop ?_
  have hk0 : (kof t == 0) = true := by simp [h0]
  have hd : decide (vof t < (ss.length : Int)) = false := by simp; omega
  simp only [cf57_l0, hk0, hd, hl, hc, Nat.le_add_left, go_sem, ↓reduceIte, reduceCtorEq, Nat.reduceEqDiff, Nat.reduceAdd, Nat.reduceSub, Nat.reduceMul, Nat.reduceLeDiff, Nat.reduceLT, loadA, rdCells, storeA, setAt, binA]
  exact ⟨by simp, _, rfl, rfl, (((Keep.refl s).new' _).new' _).put' (by simp [St.new]) _⟩
end Go.Am.U1
namespace Go.Am.U2
open Go.Am.Un Go.So
open Go.Am.U1 (tycP isl_tycs drop_at tyw tyc_w NoX vtm vtm_c vars vars_len vars_at len_tszs tsz_pos WalkTo Ap Aps Acy Wt Wts walk_law wt_lof wt_var wt_arg ap_con ap_det Un Fine Small szd szd_0 Self Jb BdR OC ExR TlE TyOk)
set_option maxRecDepth 100000
set_option linter.unusedSimpArgs false
variable {X : Ext}

mutual
/-- What Apply makes of a type whose variables may be beyond the substitution. -/
inductive Aq (ss : List Tm) : Tm → Tm → Prop
  | out (t : Tm) (h : kof t = 0) (hl : lof t = []) (hv : (ss.length : Int) ≤ vof t) : Aq ss t t
  | var (t A : Tm) (h : kof t = 0) (hw : Wt ss.length t) (ha : Ap ss t A) : Aq ss t A
  | con (k : Int) (n : ByteArray) (v : Int) (l L : List Tm) (hk : k ≠ 0) (hl : l.length ≤ 1099511627776) (hs : Aqs ss l L) : Aq ss (.mk k n v l) (.mk k n v L)
inductive Aqs (ss : List Tm) : List Tm → List Tm → Prop
  | nil : Aqs ss [] []
  | cons (a A : Tm) (l L : List Tm) (h : Aq ss a A) (hs : Aqs ss l L) : Aqs ss (a :: l) (A :: L)
end
theorem aqs_len {ss : List Tm} : ∀ {l L : List Tm}, Aqs ss l L → L.length = l.length
  | _, _, .nil => rfl
  | _, _, .cons a A l L h hs => by simp [aqs_len hs]
theorem aqs_at {ss : List Tm} : ∀ {l L : List Tm}, Aqs ss l L → ∀ {i : Nat} {a B : Tm}, l[i]? = some a → L[i]? = some B → Aq ss a B
  | _, _, .nil, i, a, B, h, _ => by simp at h
  | _, _, .cons a A l L h hs, i, x, B, hi, hb => by
    cases i with
    | zero => simp at hi hb; subst hi; subst hb; exact h
    | succ i => exact aqs_at hs (i := i) (by simpa using hi) (by simpa using hb)
mutual
theorem aq_ex {ss : List Tm} {rk : Nat → Nat} (hac : Acy ss rk) (M : Nat) : ∀ t : Tm, Wt M t → ∃ A, Aq ss t A
  | .mk k n v l => fun hw => by
    by_cases hk : k = 0
    · have hw' := hw
      rw [Wt] at hw'
      obtain ⟨rfl, rfl, h1, h2⟩ := hw'.2.2.1 hk
      by_cases hv : v < ss.length
      · have hwt : Wt ss.length (.mk k ⟨#[]⟩ v []) := by
          subst hk; rw [Wt]; simp [Wts]; omega
        obtain ⟨A, hA⟩ := hac.ex hwt
        exact ⟨A, .var _ A (by simpa [kof] using hk) hwt hA⟩
      · exact ⟨_, .out _ (by simpa [kof] using hk) rfl (by simp only [vof]; omega)⟩
    · have hl := wt_lof hw
      rw [Wt] at hw
      obtain ⟨L, hL⟩ := aqs_ex hac M l hw.2.2.2.2.2.2.2.2.2
      exact ⟨_, .con k n v l L hk hl hL⟩
theorem aqs_ex {ss : List Tm} {rk : Nat → Nat} (hac : Acy ss rk) (M : Nat) : ∀ l : List Tm, Wts M l → ∃ L, Aqs ss l L
  | [], _ => ⟨[], .nil⟩
  | a :: l, h => by
    rw [Wts] at h
    obtain ⟨A, hA⟩ := aq_ex hac M a h.1
    obtain ⟨L, hL⟩ := aqs_ex hac M l h.2
    exact ⟨_, .cons a A l L hA hL⟩
end
theorem apply_q (hX : NoX X) {sv : AV} {ss : List Tm} (hsv : ISl tyc sv ss) {rk : Nat → Nat} (hac : Acy ss rk) : ∀ (n : Nat) (t A : Tm), Aq ss t A → tsz t ≤ n → ∀ s, WC T X 28 [sv, .agg (tyc t)] s (fun v s' => v = .agg (tyc A) ∧ Keep s s') := by
  intro n
  induction n with
  | zero => intro t A _ h; have := tsz_pos t; omega
  | succ n ih =>
    intro t A hA hn s
    cases hA with
    | out _ h hl hv =>
      obtain ⟨k, m, v, l⟩ := t
      simp only [lof] at hl
      subst hl
      exact apply_step (L := []) hX (fun S => (U1.walk_out hX hsv h hv S).sub sub) (by simp) rfl (fun i a B h => by simp at h) s
    | var _ _ h hw ha => exact apply_law hX hsv hac _ t A ha (Nat.le_refl _) hw s
    | con k m v l L hk hl hs =>
      rw [tsz] at hn
      refine apply_step hX (fun S => (walk_law hX (.con _ (by simpa [kof] using hk)) S (Or.inl hsv)).sub sub) hl (aqs_len hs) (fun i a B ha hB S => ?_) s
      exact ih a B (aqs_at hs ha hB) (by have := tsz_at ha; omega) S

/-- A type without variables. -/
def Gr (t : Tm) : Prop := ∀ x, ¬ Occ x t
theorem gr_kof {t : Tm} (h : Gr t) : kof t ≠ 0 := fun h0 => h (vof t) (by
  obtain ⟨k, n, v, l⟩ := t
  simp only [kof] at h0; subst h0
  rw [Occ, if_pos rfl]; rfl)
theorem gr_mem {t a : Tm} (h : Gr t) (ha : a ∈ lof t) : Gr a := fun x ho => h x ((occ_oth x (gr_kof h)).2 ⟨a, ha, ho⟩)
mutual
theorem aq_ap {ss : List Tm} (M : Nat) : ∀ {t A : Tm}, Aq ss t A → Wt M t → Gr A → Ap ss t A ∧ Wt ss.length t
  | _, _, .out t h hl hv, _, hg => absurd h (gr_kof hg)
  | _, _, .var t A h hw ha, _, _ => ⟨ha, hw⟩
  | _, _, .con k n v l L hk hl hs, hw, hg => by
    rw [Wt] at hw
    obtain ⟨h1, h2⟩ := aqs_aps M hs hw.2.2.2.2.2.2.2.2.2 fun a ha => gr_mem hg ha
    refine ⟨.con k n v l L hk h1, ?_⟩
    rw [Wt]
    exact ⟨hw.1, hw.2.1, fun h => absurd h hk, hw.2.2.2.1, hw.2.2.2.2.1, hw.2.2.2.2.2.1, hw.2.2.2.2.2.2.1, hw.2.2.2.2.2.2.2.1, hw.2.2.2.2.2.2.2.2.1, h2⟩
theorem aqs_aps {ss : List Tm} (M : Nat) : ∀ {l L : List Tm}, Aqs ss l L → Wts M l → (∀ a, a ∈ L → Gr a) → Aps ss l L ∧ Wts ss.length l
  | _, _, .nil, _, _ => ⟨.nil, by rw [Wts]; trivial⟩
  | _, _, .cons a A l L h hs, hw, hg => by
    rw [Wts] at hw
    obtain ⟨h1, h2⟩ := aq_ap M h hw.1 (hg A (by simp))
    obtain ⟨h3, h4⟩ := aqs_aps M hs hw.2 fun b hb => hg b (by simp [hb])
    exact ⟨.cons a A l L h1 h3, by rw [Wts]; exact ⟨h2, h4⟩⟩
end

theorem ap_gr {ss : List Tm} : ∀ (n : Nat) (t A : Tm), tsz t ≤ n → Gr t → Ap ss t A → A = t := by
  intro n
  induction n with
  | zero => intro t A h; have := tsz_pos t; omega
  | succ n ih =>
    rintro ⟨k, m, v, l⟩ A hn hg hA
    obtain ⟨L, rfl, hL⟩ := ap_con (gr_kof hg) hA
    rw [tsz] at hn
    have : ∀ (l' L' : List Tm), Aps ss l' L' → tszs l' ≤ n → (∀ a, a ∈ l' → a ∈ l) → L' = l' := by
      intro l'
      induction l' with
      | nil => intro L' h _ _; cases h; rfl
      | cons a r ihl =>
        intro L' h hz hm
        rw [tszs] at hz
        cases h with
        | cons _ A _ L' h hs => rw [ih a A (by omega) (gr_mem hg (hm a (by simp))) h, ihl L' hs (by omega) fun b hb => hm b (by simp [hb])]
    show Tm.mk k m v L = Tm.mk k m v l
    rw [this l L hL (by omega) fun _ h => h]

theorem eq_run {ss : List Tm} (hf : Fine ss) : ∀ (n : Nat) (t : Tm), tsz t ≤ n → Gr t → Wt ss.length t → ∀ a b, WalkTo ss a t → WalkTo ss b t → Un ss (.un a b) 0 ss := by
  intro n
  induction n with
  | zero => intro t h; have := tsz_pos t; omega
  | succ n ih =>
    rintro ⟨k, m, v, l⟩ hn hg hw a b wa wb
    have hk := gr_kof hg
    have hself : ∀ {x : Tm}, x ∈ l → WalkTo ss x x := fun hx => .con _ (gr_kof (gr_mem (t := .mk k m v l) hg hx))
    have hsz : ∀ {x : Tm}, x ∈ l → tsz x ≤ n := fun hx => by have := tsz_mem (t := .mk k m v l) hx; omega
    by_cases h5 : k = 5
    · subst h5
      obtain ⟨x, y, rfl⟩ := U1.wt_two hw
      obtain ⟨z, hz⟩ := U1.tle_ex hf _ (.mk 5 m v [x, y]) (Nat.le_refl _) hw (Or.inl (by simp [kof]))
      refine .row ss a b (.mk 5 m v [x, y]) m v x y 0 ss wa wb (by simp [kof]) ?_
      refine .rok ss ss ss ss m v x y _ x y z 0 hz (.here _ m v x y (.con _ (by simp [kof])) (by simp)) ?_ ?_
      · exact ih x (hsz (by simp)) (gr_mem hg (by simp [lof])) (wt_arg hw (by simp [lof])) x x (hself (by simp)) (hself (by simp))
      · exact ih y (hsz (by simp)) (gr_mem hg (by simp [lof])) (wt_arg hw (by simp [lof])) y y (hself (by simp)) (hself (by simp))
    · refine .args ss a b k m m v v l l 0 ss wa wb hk h5 (by simp) rfl ?_
      have : ∀ l' : List Tm, (∀ x, x ∈ l' → x ∈ l) → Un ss (.us l' l') 0 ss := by
        intro l'
        induction l' with
        | nil => intro _; exact .nil ss
        | cons x r ihl =>
          intro hm
          have hx := hm x (by simp)
          exact .ok ss ss ss x x r r 0 (ih x (hsz hx) (gr_mem (t := .mk k m v l) hg hx) (wt_arg (t := .mk k m v l) hw hx) x x (hself hx) (hself hx)) (ihl fun y hy => hm y (by simp [hy]))
      exact this l fun _ h => h

/-- Each variable is its own, or has what it shall become. -/
structure GI (th : Nat → Tm) (ss : List Tm) : Prop where
  fine : Fine ss
  len : ss.length = 12
  ent : ∀ i, i < 12 → ss[i]? = some (vtm i) ∨ (ss[i]? = some (th i) ∧ Gr (th i))

theorem gi_small {th : Nat → Tm} (hsz : ∀ i, i < 12 → tsz (th i) ≤ 4096) {ss : List Tm} (hl : ss.length = 12) (h : ∀ i, i < 12 → ss[i]? = some (vtm i) ∨ (ss[i]? = some (th i) ∧ Gr (th i))) : Small ss := by
  intro i A hi hA
  rcases h i (by omega) with h | ⟨h, hg⟩
  · rw [ap_det hA (.self _ (vtm i) i rfl rfl h rfl rfl), vtm, tsz, tszs]; omega
  · have := U1.ap_bound h (fun hh => gr_kof hg hh.1) hA
    rw [ap_gr _ (th i) A (Nat.le_refl _) hg this]
    exact hsz i (by omega)

theorem ins_run {sub : List Tm} (hsl : sub.length = 12) {th : Nat → Tm} (hth : ∀ i, i < 12 → Ap sub (vtm i) (th i) ∧ tsz (th i) ≤ 4096 ∧ Wt 12 (th i)) : ∀ (n : Nat) (t A : Tm) (ss : List Tm), tsz t ≤ n → Ap sub t A → Gr A → Wt 12 t → Wt 12 A → GI th ss → ∃ ss', Un ss (.un t A) 0 ss' ∧ GI th ss' := by
  intro n
  induction n with
  | zero => intro t A ss h; have := tsz_pos t; omega
  | succ n ih =>
    intro t A ss hn hA hg hw hwA hG
    have wA : WalkTo ss A A := .con _ (gr_kof hg)
    by_cases h0 : kof t = 0
    · obtain ⟨i, hi, rfl⟩ := wt_var hw h0
      obtain ⟨h1, h2, h3⟩ := hth i hi
      have hAt := ap_det hA h1
      subst hAt
      rcases hG.ent i hi with h | ⟨h, -⟩
      · have wt : WalkTo ss (vtm i) (vtm i) := .self _ (vtm i) i rfl rfl h rfl rfl
        have hl : i < ss.length := by rw [hG.len]; exact hi
        have hn : ¬ (kof (th i) = 0 ∧ vof (th i) = (i : Int)) := fun hh => gr_kof hg hh.1
        have hent : ∀ j, j < 12 → (ss.set i (th i))[j]? = some (vtm j) ∨ ((ss.set i (th i))[j]? = some (th j) ∧ Gr (th j)) := fun j hj => by
          by_cases hij : i = j
          · subst hij; exact Or.inr ⟨List.getElem?_set_self hl, hg⟩
          · rw [List.getElem?_set_ne hij]; exact hG.ent j hj
        have hsm := gi_small (fun j hj => (hth j hj).2.1) (by rw [List.length_set]; exact hG.len) hent
        have hr : Un ss (.un (vtm i) (th i)) 0 (ss.set i (th i)) := .bl _ _ _ _ i 0 _ wt wA (Or.inr (Or.inr ⟨hn, fun ⟨B, hB, ho⟩ => hg _ (by rw [ap_gr _ (th i) B (Nat.le_refl _) hg hB] at ho; exact ho), (szd_0.2 hsm).symm, rfl⟩))
        exact ⟨_, hr, (U1.un_fine hr hG.fine (by rw [hG.len]; decide) ⟨by rw [hG.len]; exact hw, by rw [hG.len]; exact hwA⟩).1, by rw [List.length_set]; exact hG.len, hent⟩
      · exact ⟨ss, eq_run hG.fine _ (th i) (Nat.le_refl _) hg (by rw [hG.len]; exact h3) _ _ (.step _ (th i) (th i) i rfl rfl h (fun hh => gr_kof hg hh.1) wA) wA, hG⟩
    · obtain ⟨k, m, v, l⟩ := t
      obtain ⟨L, rfl, hL⟩ := ap_con h0 hA
      have wt : WalkTo ss (.mk k m v l) (.mk k m v l) := .con _ h0
      by_cases h5 : k = 5
      · subst h5
        obtain ⟨x, y, rfl⟩ := U1.wt_two hw
        obtain ⟨X, Y, rfl, hX, hY⟩ := U1.aps_two hL
        have hxy := U1.row_wt hw
        have hXY := U1.row_wt hwA
        rw [tsz, tszs, tszs, tszs] at hn
        obtain ⟨ss1, r1, g1⟩ := ih x X ss (by omega) hX (gr_mem hg (by simp [lof])) hxy.1 hXY.1 hG
        obtain ⟨ss2, r2, g2⟩ := ih y Y ss1 (by omega) hY (gr_mem hg (by simp [lof])) hxy.2 hXY.2 g1
        obtain ⟨z, hz⟩ := U1.tle_ex hG.fine _ (.mk 5 m v [x, y]) (Nat.le_refl _) (by rw [hG.len]; exact hw) (Or.inl (by simp [kof]))
        exact ⟨ss2, .row ss _ _ (.mk 5 m v [X, Y]) m v x y 0 ss2 wt wA (by simp [kof]) (.rok ss ss ss1 ss2 m v x y _ X Y z 0 hz (.here _ m v X Y wA (by simp)) r1 r2), g2⟩
      · have : ∀ (l' L' : List Tm) (ss : List Tm), Aps sub l' L' → tszs l' ≤ n → (∀ a, a ∈ l' → Wt 12 a) → (∀ a, a ∈ L' → Wt 12 a ∧ Gr a) → GI th ss → ∃ ss', Un ss (.us l' L') 0 ss' ∧ GI th ss' := by
          intro l'
          induction l' with
          | nil => intro L' ss h _ _ _ hG; cases h; exact ⟨ss, .nil ss, hG⟩
          | cons a r ihl =>
            intro L' ss h hz h1 h2 hG
            rw [tszs] at hz
            cases h with
            | cons _ B _ L' h hs =>
              obtain ⟨ss1, r1, g1⟩ := ih a B ss (by omega) h (h2 B (by simp)).2 (h1 a (by simp)) (h2 B (by simp)).1 hG
              obtain ⟨ss2, r2, g2⟩ := ihl L' ss1 hs (by omega) (fun b hb => h1 b (by simp [hb])) (fun b hb => h2 b (by simp [hb])) g1
              exact ⟨ss2, .ok ss ss1 ss2 a B r L' 0 r1 r2, g2⟩
        rw [tsz] at hn
        obtain ⟨ss', r, g⟩ := this l L ss hL (by omega) (fun a ha => wt_arg hw ha) (fun a ha => ⟨wt_arg hwA ha, gr_mem hg ha⟩) hG
        exact ⟨ss', .args ss _ _ k m m v v l L 0 ss' wt wA h0 h5 (by simp) (U1.aps_len hL).symm r, g⟩
end Go.Am.U2
