/- A variable in what a substitution makes of a type: occurs. Conditions: none. -/
import Derived.Test.YtfleakoephmgaaaDoorUtA
set_option linter.unusedSimpArgs false
set_option linter.unusedVariables false
namespace Go.Am.U1
open Go.Am.Un
set_option maxRecDepth 100000
set_option linter.unusedSimpArgs false
attribute [local go_sem] wseq COp.isStore wreg wdreg wret wskip wexit wblock wcnd cnd_t cnd_f then_n then_x then_r catch_n rnd_n rnd_x rnd_r catch_x catch_r wo_nil wo_grd grdO_t grdO_f wo_ops stpO wr_nil wr_alloc wr_guards grdR_t grdR_f wr_ops stpR evAllocs evOp env0_app eput_some eput_none eset_app Opd.ev wantedA faddrA snew_obj snew_size sput_obj sput_size av_cells av_one av_strip av_still unA eqbA fillA fldA lensA mmA mm2 mmFold List.getD_cons_zero List.getD_cons_succ List.getD_nil List.length_cons List.length_nil List.drop_zero List.drop_succ_cons List.take_succ_cons List.take_zero List.map_cons List.map_nil List.set_cons_zero List.set_cons_succ List.all_cons List.all_nil List.getElem?_cons_zero List.getElem?_cons_succ List.nil_append List.cons_append Nat.zero_add Nat.add_zero beq_self_eq_true bt bf Bool.not_true Bool.not_false Bool.and_true Bool.true_and Bool.and_false Bool.false_and and_self and_true true_and n0 n1 n2 n3 n4 m0 m1 m2 m3 c1 retA resAs resA undefA Option.map_some Option.map_none
variable {X : Ext}

/-- A type of a list, at a function that writes. -/
theorem index_fj (hX : NoX X) {v : AV} {l : List Tm} (h : ISl tyc v l) (hb : l.length ≤ 4398046511104) (g : Nat) (cap : List AV) (p : Tm → Bool) (I : Nat → St → Prop) (J : St → Prop) (s : St) (hI : I 0 s)
    (hg : ∀ (i : Nat) x s1, l[i]? = some x → I i s1 → WC T X g (.agg (tyc x) :: cap) s1 (fun v s2 => v = .bool (p x) ∧ (p x = false → I (i + 1) s2) ∧ (p x = true → J s2))) :
    WC T X 75 [v, .func g cap] s (fun v s' => (∃ m : Int, v = .int .i64 m ∧ decide (m ≥ 0) = l.any p) ∧ (l.any p = false → I l.length s') ∧ (l.any p = true → J s')) := by
  refine WC_fn cf75 (hX 75 (by decide)) T75 (by simp [cf75]) ?_
  have hlen := h.len
  simp only [cf75, hlen, go_sem, ↓reduceIte, reduceCtorEq, Nat.reduceEqDiff, Nat.reduceAdd, Nat.reduceSub, Nat.reduceMul, Nat.reduceLeDiff, Nat.reduceLT, loadA, rdCells, storeA, setAt, binA]
  refine W_loop_nat (fun k e s1 => ∃ i, i + k = l.length ∧ e 0 = v ∧ e 1 = .func g cap ∧ e 7 = .int .i64 l.length ∧ e 8 = .int .i64 i ∧ l.any p = (l.drop i).any p ∧ I i s1) ?_ l.length _ _ ⟨0, by simp, ?_⟩
  · rintro k e s1 ⟨i, hik, h0, h1, h7, h8, hf, hk⟩
    by_cases hi : i < l.length
    · obtain ⟨x, hx⟩ : ∃ x, l[i]? = some x := ⟨_, List.getElem?_eq_getElem hi⟩
      have hd : decide ((i : Int) < (l.length : Int)) = true := by simp; omega
      have hat := h.at tyc_len hx
      have hgx := hg i x s1 hx hk
      rw [tyc_w, tyw] at hat hgx
      simp only [cf75_l0, h0, h1, h7, h8, hd, hat, Nat.le_add_left, go_sem, ↓reduceIte, reduceCtorEq, Nat.reduceEqDiff, Nat.reduceAdd, Nat.reduceSub, Nat.reduceMul, Nat.reduceLeDiff, Nat.reduceLT, loadA, rdCells, storeA, setAt, binA]
      refine WO_callvx g cap _ (by simp only [h0, h1, go_sem, ↓reduceIte, reduceCtorEq, Nat.reduceEqDiff, Nat.reduceAdd, Nat.reduceSub, Nat.reduceMul, Nat.reduceLeDiff, Nat.reduceLT, loadA, rdCells, storeA, setAt, binA]) rfl ((by simpa only [go_sem, ↓reduceIte, reduceCtorEq, Nat.reduceEqDiff, Nat.reduceAdd, Nat.reduceSub, Nat.reduceMul, Nat.reduceLeDiff, Nat.reduceLT, loadA, rdCells, storeA, setAt, binA] using hgx : WC T X g _ s1 _).mono ?_)
      rintro w s2 ⟨rfl, hk2, hk3⟩
      cases hp : p x <;> simp only [h0, h1, h7, h8, wrapn (n := i) (by omega), go_sem, ↓reduceIte, reduceCtorEq, Nat.reduceEqDiff, Nat.reduceAdd, Nat.reduceSub, Nat.reduceMul, Nat.reduceLeDiff, Nat.reduceLT, loadA, rdCells, storeA, setAt, binA]
      · exact ⟨k - 1, by omega, i + 1, by omega, rfl, by rw [hf, drop_at hx, List.any_cons, hp, Bool.false_or], hk2 hp⟩
      · have ht : l.any p = true := by rw [hf, drop_at hx, List.any_cons, hp, Bool.true_or]
        exact ⟨by simp, _, rfl, ⟨(i : Int), rfl, by rw [ht]; simp⟩, (fun h => by rw [ht] at h; cases h), fun _ => hk3 hp⟩
    · have hd : decide ((i : Int) < (l.length : Int)) = false := by simp; omega
      obtain rfl : i = l.length := by omega
      have ht : l.any p = false := by rw [hf, List.drop_eq_nil_of_le (by omega)]; rfl
      simp only [cf75_l0, h0, h1, h7, h8, hd, go_sem, ↓reduceIte, reduceCtorEq, Nat.reduceEqDiff, Nat.reduceAdd, Nat.reduceSub, Nat.reduceMul, Nat.reduceLeDiff, Nat.reduceLT, loadA, rdCells, storeA, setAt, binA]
      exact ⟨by simp, _, rfl, ⟨-1, rfl, by rw [ht]; rfl⟩, (fun _ => hk), fun h => by rw [ht] at h; cases h⟩
  · simp only [go_sem, ↓reduceIte, reduceCtorEq, Nat.reduceEqDiff, Nat.reduceAdd, Nat.reduceSub, Nat.reduceMul, Nat.reduceLeDiff, Nat.reduceLT, loadA, rdCells, storeA, setAt, binA]
    exact ⟨rfl, hI⟩
theorem contains_fj (hX : NoX X) {v : AV} {l : List Tm} (h : ISl tyc v l) (hb : l.length ≤ 4398046511104) (g : Nat) (cap : List AV) (p : Tm → Bool) (I : Nat → St → Prop) (J : St → Prop) (s : St) (hI : I 0 s)
    (hg : ∀ (i : Nat) x s1, l[i]? = some x → I i s1 → WC T X g (.agg (tyc x) :: cap) s1 (fun v s2 => v = .bool (p x) ∧ (p x = false → I (i + 1) s2) ∧ (p x = true → J s2))) :
    WC T X 55 [v, .func g cap] s (fun v s' => v = .bool (l.any p) ∧ (l.any p = false → I l.length s') ∧ (l.any p = true → J s')) := by
  refine WC_fn cf55 (hX 55 (by decide)) T55 (by simp [cf55]) ?_
  simp only [cf55, go_sem, ↓reduceIte, reduceCtorEq, Nat.reduceEqDiff, Nat.reduceAdd, Nat.reduceSub, Nat.reduceMul, Nat.reduceLeDiff, Nat.reduceLT, loadA, rdCells, storeA, setAt, binA]
  refine WO_callx [v, .func g cap] (by simp only [go_sem, ↓reduceIte, reduceCtorEq, Nat.reduceEqDiff, Nat.reduceAdd, Nat.reduceSub, Nat.reduceMul, Nat.reduceLeDiff, Nat.reduceLT, loadA, rdCells, storeA, setAt, binA]) ((index_fj hX h hb g cap p I J s hI hg).mono ?_)
  rintro w s2 ⟨⟨m, rfl, hm⟩, hk⟩
  simp only [go_sem, ↓reduceIte, reduceCtorEq, Nat.reduceEqDiff, Nat.reduceAdd, Nat.reduceSub, Nat.reduceMul, Nat.reduceLeDiff, Nat.reduceLT, loadA, rdCells, storeA, setAt, binA]
  exact ⟨by simp, _, rfl, by rw [hm], hk⟩

/-- The variable is in what the substitution makes of the type. -/
def OC (ss : List Tm) (v : Int) (t : Tm) : Prop := ∃ B, Ap ss t B ∧ Occ v B
noncomputable def ocb (ss : List Tm) (v : Int) (t : Tm) : Bool := @decide (OC ss v t) (Classical.propDecidable _)
theorem ocb_iff {ss : List Tm} {v : Int} {t : Tm} : ocb ss v t = true ↔ OC ss v t := by simp [ocb]
theorem ocb_f {ss : List Tm} {v : Int} {t : Tm} : ocb ss v t = false ↔ ¬ OC ss v t := by simp [ocb]
theorem oc_step {ss : List Tm} {v : Int} {t u : Tm} {i : Nat} (h : kof t = 0) (hv : vof t = i) (hi : ss[i]? = some u) (hn : ¬ (kof u = 0 ∧ vof u = vof t)) : OC ss v t ↔ OC ss v u := by
  constructor
  · rintro ⟨B, h1, h2⟩
    cases h1 with
    | self _ u' j h' hv' hi' hu' hw' =>
      obtain rfl := nat_eq hv hv'
      rw [hi] at hi'; cases hi'
      exact absurd ⟨hu', hw'⟩ hn
    | step _ u' _ j h' hv' hi' hn' hr' =>
      obtain rfl := nat_eq hv hv'
      rw [hi] at hi'; cases hi'
      exact ⟨B, hr', h2⟩
    | con => exact absurd h (by assumption)
  · rintro ⟨B, h1, h2⟩
    exact ⟨B, .step t u B i h hv hi hn h1, h2⟩
theorem oc_con {ss : List Tm} {x : Int} {k : Int} {n : ByteArray} {v : Int} {l : List Tm} (hk : k ≠ 0) (hex : ∀ a, a ∈ l → ∃ A, Ap ss a A) : OC ss x (.mk k n v l) ↔ ∃ a, a ∈ l ∧ OC ss x a := by
  constructor
  · rintro ⟨B, h1, h2⟩
    obtain ⟨L, rfl, hs⟩ := ap_con hk h1
    rw [occ_oth x (by simpa [kof_mk] using hk)] at h2
    obtain ⟨A, hA, ho⟩ := h2
    obtain ⟨i, hi⟩ := List.getElem?_of_mem hA
    rw [lof_mk] at hi
    have hil : i < l.length := by have := (List.getElem?_eq_some_iff.1 hi).1; have := aps_len hs; omega
    obtain ⟨a, ha⟩ : ∃ a, l[i]? = some a := ⟨_, List.getElem?_eq_getElem hil⟩
    obtain ⟨A', h3, h4⟩ := aps_at hs ha
    rw [hi] at h3; cases h3
    exact ⟨a, List.mem_of_getElem? ha, A, h4, ho⟩
  · rintro ⟨a, ha, A, h1, h2⟩
    have : ∀ l' : List Tm, (∀ b, b ∈ l' → b ∈ l) → ∃ L, Aps ss l' L := by
      intro l'
      induction l' with
      | nil => intro _; exact ⟨[], .nil⟩
      | cons b l' ih =>
        intro hm
        obtain ⟨B, hB⟩ := hex b (hm b (by simp))
        obtain ⟨L, hL⟩ := ih fun c hc => hm c (by simp [hc])
        exact ⟨B :: L, .cons _ _ _ _ hB hL⟩
    obtain ⟨L, hL⟩ := this l fun _ h => h
    refine ⟨_, .con k n v l L hk hL, ?_⟩
    rw [occ_oth x (by simpa [kof_mk] using hk)]
    obtain ⟨i, hi⟩ := List.getElem?_of_mem ha
    obtain ⟨A', h3, h4⟩ := aps_at hL hi
    obtain rfl := ap_det h1 h4
    exact ⟨A, List.mem_of_getElem? h3, h2⟩

/-- The cells of marks. -/
def bcells (fl : List Bool) : List AV := fl.map .bool
theorem bat {q n i : Nat} (hi : i < n) : iaddrA 1 (.msl q 0 n 1) (.int .i64 i) = some (.ptr q i) := by
  simp only [iaddrA]
  rw [if_pos (by exact ⟨by omega, by omega, trivial⟩), Int.toNat_natCast]; simp
theorem bget {fl : List Bool} {i : Nat} {x : Bool} (h : fl[i]? = some x) : List.take 1 (List.drop i (bcells fl)) = [.bool x] := by
  obtain ⟨hi, hx⟩ := List.getElem?_eq_some_iff.1 h
  rw [List.drop_eq_getElem_cons (by simpa [bcells] using hi)]
  simp [bcells, hx]
theorem bset (fl : List Bool) (i : Nat) (x : Bool) : (bcells fl).set i (.bool x) = bcells (fl.set i x) := by simp [bcells, List.map_set]

theorem oc_walk {ss : List Tm} {v : Int} {t t' : Tm} (h : WalkTo ss t t') : OC ss v t ↔ OC ss v t' := by
  induction h with
  | con t h => exact Iff.rfl
  | self t u i h hv hi hu hw => exact Iff.rfl
  | step t u t' i h hv hi hn hr ih => exact (oc_step h hv hi hn).trans ih
theorem oc_self {ss : List Tm} {v i : Nat} (h : Self ss i) : OC ss v (vtm i) ↔ i = v := by
  obtain ⟨u, h1, h2, h3⟩ := h
  have ha : Ap ss (vtm i) (vtm i) := .self (vtm i) u i rfl rfl h1 h2 h3
  constructor
  · rintro ⟨B, h4, h5⟩
    obtain rfl := ap_det ha h4
    rw [vtm, Occ, if_pos rfl] at h5
    omega
  · rintro rfl
    exact ⟨_, ha, by rw [vtm, Occ, if_pos rfl]⟩

/-- The boxes of a run of occurs. -/
structure OccB (b v q N c : Nat) (t : Tm) (fl : List Bool) (S : St) : Prop where
  b0 : S.obj c = some (.cells [.ptr b 0])
  b1 : S.obj (c + 1) = some (.cells [.int .i64 v])
  b2 : S.obj (c + 2) = some (.cells (tyc t))
  b3 : S.obj (c + 3) = some (.cells [.msl q 0 N 1])
  ob : S.obj q = some (.cells (bcells fl))
  sz : c + 4 ≤ S.size

def OccQ (ss : List Tm) (rk : Nat → Nat) (b q v c R : Nat) (t t' : Tm) (fl : List Bool) (S0 : St) (x : CX) (e' : Env) (S' : St) : Prop :=
  (x = .ret ∧ e' 8 = .bool (ocb ss v t) ∧ ∃ fl', S'.obj q = some (.cells (bcells fl')) ∧ fl'.length = fl.length ∧ KeepBut q S0 S' ∧ (¬ OC ss v t → ∀ w : Nat, fl'[w]? = some true → fl[w]? = some true ∨ ¬ OC ss v (vtm w))) ∨
  (x = .exit 0 ∧ kof t' ≠ 0 ∧ e' 4 = .ptr c 0 ∧ e' 5 = .ptr (c + 1) 0 ∧ e' 6 = .ptr (c + 2) 0 ∧ e' 7 = .ptr (c + 3) 0 ∧ ∃ fl' R', (R' < R ∨ (R' = R ∧ t' = t)) ∧ (∀ x : Nat, Occ x t' → rk x < R') ∧ fl'.length = fl.length ∧ OccB b v q ss.length c t' fl' S' ∧ KeepBut q S0 S' ∧
    ∀ w : Nat, fl'[w]? = some true → fl[w]? = some true ∨ (R' ≤ rk w ∧ (OC ss v (vtm w) ↔ OC ss v t')))

theorem set_get {fl : List Bool} {i w : Nat} (hi : i < fl.length) (h : (fl.set i true)[w]? = some true) : fl[w]? = some true ∨ w = i := by
  by_cases hw : w = i
  · exact Or.inr hw
  · rw [List.getElem?_set_ne (by omega)] at h; exact Or.inl h

set_option maxHeartbeats 8000000 in
/-- Along the variables. -/
theorem occ_loop {ss : List Tm} {rk : Nat → Nat} {b p q v : Nat} (hac : Acy ss rk) (hse : Self ss v) {t t' : Tm} (hwk : WalkTo ss t t') : Wt ss.length t → ∀ (R : Nat), (∀ x : Nat, Occ x t → rk x < R) → ∀ (e : Env) (S S0 : St) (fl : List Bool) (c : Nat),
    US S0 b p ss → KeepBut q S0 S → S0.size ≤ c → q ≠ b → q ≠ p → q < S0.size → fl.length = ss.length → (∀ w : Nat, fl[w]? = some true → ¬ OC ss v (vtm w) ∨ R ≤ rk w) →
    e 4 = .ptr c 0 → e 5 = .ptr (c + 1) 0 → e 6 = .ptr (c + 2) 0 → e 7 = .ptr (c + 3) 0 → OccB b v q ss.length c t fl S →
    W T X (.loop cf97_l0) e S (OccQ ss rk b q v c R t t' fl S0) := by
  induction hwk with
  | con t h =>
    intro hw R hR e S S0 fl c hu hk hc hqb hqp hq hln hinv e4 e5 e6 e7 hB
    have h0 : (kof t == 0) = false := by simpa using h
    have o2 := hB.b2
    rw [tyc_w, tyw] at o2
    refine W_loop ?_
    simp only [cf97_l0, e6, o2, h0, Nat.le_add_left, go_sem, ↓reduceIte, reduceCtorEq, Nat.reduceEqDiff, Nat.reduceAdd, Nat.reduceSub, Nat.reduceMul, Nat.reduceLeDiff, Nat.reduceLT, loadA, rdCells, storeA, setAt, binA]
    exact Or.inr ⟨rfl, h, by simp only [e4, go_sem, ↓reduceIte, reduceCtorEq, Nat.reduceEqDiff, Nat.reduceAdd, Nat.reduceSub, Nat.reduceMul, Nat.reduceLeDiff, Nat.reduceLT, loadA, rdCells, storeA, setAt, binA], by simp only [e5, go_sem, ↓reduceIte, reduceCtorEq, Nat.reduceEqDiff, Nat.reduceAdd, Nat.reduceSub, Nat.reduceMul, Nat.reduceLeDiff, Nat.reduceLT, loadA, rdCells, storeA, setAt, binA], by simp only [e6, go_sem, ↓reduceIte, reduceCtorEq, Nat.reduceEqDiff, Nat.reduceAdd, Nat.reduceSub, Nat.reduceMul, Nat.reduceLeDiff, Nat.reduceLT, loadA, rdCells, storeA, setAt, binA], by simp only [e7, go_sem, ↓reduceIte, reduceCtorEq, Nat.reduceEqDiff, Nat.reduceAdd, Nat.reduceSub, Nat.reduceMul, Nat.reduceLeDiff, Nat.reduceLT, loadA, rdCells, storeA, setAt, binA], fl, R, Or.inr ⟨rfl, rfl⟩, hR, rfl, hB, hk, fun w hw => Or.inl hw⟩
  | self t u i h hv hi hu' hw' =>
    intro hw R hR e S S0 fl c hu hk hc hqb hqp hq hln hinv e4 e5 e6 e7 hB
    obtain ⟨j, hj, rfl⟩ := wt_var hw h
    obtain rfl : j = i := by have : (j : Int) = i := hv; omega
    have hsi : Self ss j := ⟨u, hi, hu', by rw [hw']; exact hv⟩
    have o2 := hB.b2
    rw [vtm_c] at o2
    have hjl : j < fl.length := by rw [hln]; exact hj
    have hq2 : q < c := by omega
    have hz := hB.sz
    have eqc : (q = c + 2) = False := eq_false (by omega)
    have eqd : (c + 2 = q) = False := eq_false (by omega)
    have hp := hu.2.2.2
    have hbz := hu.2.2.1
    have hpS : US S b p ss := ⟨(hk.2 b hbz (by omega)).trans hu.1, (hk.2 p hp (by omega)).trans hu.2.1, by omega, by omega⟩
    have z0 : ((0 : Int) == 0) = true := rfl
    have z00 : ((0 : Int) != 0) = false := rfl
    have hba := bat (q := q) (i := j) (n := ss.length) hj
    obtain ⟨x, hx⟩ : ∃ x, fl[j]? = some x := ⟨_, List.getElem?_eq_getElem hjl⟩
    have hbg := bget hx
    have hble : (j + 1 ≤ (bcells fl).length) = True := eq_true (by simp [bcells]; omega)
    have hpi : iaddrA 4 (.msl p 0 ss.length 4) (.int .i64 j) = some (.ptr p (j * 4)) := by
      simp only [iaddrA]
      rw [if_pos (by exact ⟨by omega, by omega, trivial⟩), Int.toNat_natCast]; simp
    have hpl : (j * 4 + 4 ≤ (ss.flatMap tyc).length) = True := eq_true (flat_le tyc_len hi 4 (Nat.le_refl _))
    have hpr : List.take 4 (List.drop (j * 4) (ss.flatMap tyc)) = [.int .i64 (kof u), .str (nof u), .int .i64 (vof u), .sl (tycs (lof u)) (lof u).length false none] := by
      rw [flat_row tyc_len hi, tyc_w, tyw]
    have epq : (p = q) = False := eq_false (Ne.symm hqp)
    have ebq : (b = q) = False := eq_false (Ne.symm hqb)
    have ec0 : (c = q) = False := eq_false (by omega)
    have ec1 : (c + 1 = q) = False := eq_false (by omega)
    have ec3 : (c + 3 = q) = False := eq_false (by omega)
    have hcS : c < S.size := by omega
    have hc1S : c + 1 < S.size := by omega
    have hc2S : c + 2 < S.size := by omega
    have hc3S : c + 3 < S.size := by omega
    generalize hL : CC.loop cf97_l0 = L
    refine W_loop_eq hL ?_
    cases hjv : ((j : Int) == (v : Int))
    · have hne : j ≠ v := fun e => by subst e; simp at hjv
      have hoc : ocb ss v (vtm j) = false := ocb_f.2 fun ho => hne ((oc_self hsi).1 ho)
      cases x
      · have hus : kof u = 0 := hu'
        have huv : vof u = (j : Int) := by rw [hw']; exact hv
        rw [hus, huv] at hpr
        have hjj : ((j : Int) != (j : Int)) = false := by simp
        simp only [cf97_l0, hjj, e4, e5, e6, e7, hB.b0, hB.b1, o2, hB.b3, hB.ob, z0, z00, hjv, hba, hbg, hble, eqc, eqd, hpS.1, hpS.2.1, hpi, hpl, hpr, epq, ebq, ec0, ec1, ec3, ne_a hcS, ne_a hc1S, ne_a hc2S, ne_a hc3S, ne_b hcS, ne_b hc1S, ne_b hc2S, ne_b hc3S, ne_a hpS.2.2.2, ne_a hpS.2.2.1, Nat.le_add_left, go_sem, ↓reduceIte, reduceCtorEq, Nat.reduceEqDiff, Nat.reduceAdd, Nat.reduceSub, Nat.reduceMul, Nat.reduceLeDiff, Nat.reduceLT, loadA, rdCells, storeA, setAt, binA]
        refine Or.inl ⟨rfl, by simp only [hoc, go_sem, ↓reduceIte, reduceCtorEq, Nat.reduceEqDiff, Nat.reduceAdd, Nat.reduceSub, Nat.reduceMul, Nat.reduceLeDiff, Nat.reduceLT, loadA, rdCells, storeA, setAt, binA], fl.set j true, ?_, by simp, ?_, fun _ w hw => ?_⟩
        · rw [put_ne (by omega), new_ne (by simp only [St.put]; omega), put_eq, bset]
        · refine hk.trans ⟨by simp only [St.new, St.put]; omega, fun k hk1 hk2 => ?_⟩
          rw [put_ne (by omega), new_ne (by simp only [St.put]; omega), put_ne hk2]
        · rcases set_get hjl hw with h | rfl
          · exact Or.inl h
          · exact Or.inr (ocb_f.1 hoc)
      · simp only [cf97_l0, e4, e5, e6, e7, hB.b0, hB.b1, o2, hB.b3, hB.ob, z0, z00, hjv, hba, hbg, hble, eqc, eqd, hpS.1, hpS.2.1, hpi, hpl, hpr, epq, ebq, ec0, ec1, ec3, ne_a hcS, ne_a hc1S, ne_a hc2S, ne_a hc3S, ne_b hcS, ne_b hc1S, ne_b hc2S, ne_b hc3S, ne_a hpS.2.2.2, ne_a hpS.2.2.1, Nat.le_add_left, go_sem, ↓reduceIte, reduceCtorEq, Nat.reduceEqDiff, Nat.reduceAdd, Nat.reduceSub, Nat.reduceMul, Nat.reduceLeDiff, Nat.reduceLT, loadA, rdCells, storeA, setAt, binA]
        refine Or.inl ⟨rfl, by simp only [hoc, go_sem, ↓reduceIte, reduceCtorEq, Nat.reduceEqDiff, Nat.reduceAdd, Nat.reduceSub, Nat.reduceMul, Nat.reduceLeDiff, Nat.reduceLT, loadA, rdCells, storeA, setAt, binA], fl, hB.ob, rfl, hk, fun _ w hw => Or.inl hw⟩
    · have hjv' : j = v := by have : (j : Int) = v := by simpa using hjv
                              omega
      have hoc : ocb ss v (vtm j) = true := ocb_iff.2 ((oc_self hsi).2 hjv')
      simp only [cf97_l0, e4, e5, e6, e7, hB.b0, hB.b1, o2, hB.b3, hB.ob, z0, z00, hjv, hba, hbg, hble, eqc, eqd, hpS.1, hpS.2.1, hpi, hpl, hpr, epq, ebq, ec0, ec1, ec3, ne_a hcS, ne_a hc1S, ne_a hc2S, ne_a hc3S, ne_b hcS, ne_b hc1S, ne_b hc2S, ne_b hc3S, ne_a hpS.2.2.2, ne_a hpS.2.2.1, Nat.le_add_left, go_sem, ↓reduceIte, reduceCtorEq, Nat.reduceEqDiff, Nat.reduceAdd, Nat.reduceSub, Nat.reduceMul, Nat.reduceLeDiff, Nat.reduceLT, loadA, rdCells, storeA, setAt, binA]
      exact Or.inl ⟨rfl, by simp only [hoc, go_sem, ↓reduceIte, reduceCtorEq, Nat.reduceEqDiff, Nat.reduceAdd, Nat.reduceSub, Nat.reduceMul, Nat.reduceLeDiff, Nat.reduceLT, loadA, rdCells, storeA, setAt, binA], fl, hB.ob, rfl, hk, fun _ w hw => Or.inl hw⟩
  | step t u t' i h hv hi hn hr ih =>
    intro hw R hR e S S0 fl c hu hk hc hqb hqp hq hln hinv e4 e5 e6 e7 hB
    obtain ⟨j, hj, rfl⟩ := wt_var hw h
    obtain rfl : j = i := by have : (j : Int) = i := hv; omega
    have o2 := hB.b2
    rw [vtm_c] at o2
    have hjl : j < fl.length := by rw [hln]; exact hj
    have hq2 : q < c := by omega
    have hz := hB.sz
    have eqc : (q = c + 2) = False := eq_false (by omega)
    have eqd : (c + 2 = q) = False := eq_false (by omega)
    have hp := hu.2.2.2
    have hbz := hu.2.2.1
    have hpS : US S b p ss := ⟨(hk.2 b hbz (by omega)).trans hu.1, (hk.2 p hp (by omega)).trans hu.2.1, by omega, by omega⟩
    have z0 : ((0 : Int) == 0) = true := rfl
    have z00 : ((0 : Int) != 0) = false := rfl
    have hba := bat (q := q) (i := j) (n := ss.length) hj
    obtain ⟨x, hx⟩ : ∃ x, fl[j]? = some x := ⟨_, List.getElem?_eq_getElem hjl⟩
    have hbg := bget hx
    have hble : (j + 1 ≤ (bcells fl).length) = True := eq_true (by simp [bcells]; omega)
    have hpi : iaddrA 4 (.msl p 0 ss.length 4) (.int .i64 j) = some (.ptr p (j * 4)) := by
      simp only [iaddrA]
      rw [if_pos (by exact ⟨by omega, by omega, trivial⟩), Int.toNat_natCast]; simp
    have hpl : (j * 4 + 4 ≤ (ss.flatMap tyc).length) = True := eq_true (flat_le tyc_len hi 4 (Nat.le_refl _))
    have hpr : List.take 4 (List.drop (j * 4) (ss.flatMap tyc)) = [.int .i64 (kof u), .str (nof u), .int .i64 (vof u), .sl (tycs (lof u)) (lof u).length false none] := by
      rw [flat_row tyc_len hi, tyc_w, tyw]
    have epq : (p = q) = False := eq_false (Ne.symm hqp)
    have ebq : (b = q) = False := eq_false (Ne.symm hqb)
    have ec0 : (c = q) = False := eq_false (by omega)
    have ec1 : (c + 1 = q) = False := eq_false (by omega)
    have ec3 : (c + 3 = q) = False := eq_false (by omega)
    have hcS : c < S.size := by omega
    have hc1S : c + 1 < S.size := by omega
    have hc2S : c + 2 < S.size := by omega
    have hc3S : c + 3 < S.size := by omega
    have hne : j ≠ v := fun e => by
      subst e
      obtain ⟨u', h1, h2, h3⟩ := hse
      rw [hi] at h1; cases h1
      exact hn ⟨h2, by rw [hv]; exact h3⟩
    have hjv : ((j : Int) == (v : Int)) = false := by simp; omega
    have hrj := hR j (by rw [vtm, Occ, if_pos rfl])
    have hst := oc_step (v := v) h hv hi hn
    generalize hL : CC.loop cf97_l0 = L at ih ⊢
    refine W_loop_eq hL ?_
    have fin : ∀ (e1 : Env) (S1 : St), S1 = (((S.put q (some (.cells ((bcells fl).set j (.bool true))))).new (.cells [.int .i64 0, .str ⟨#[]⟩, .int .i64 0, .nils])).put S.size (some (.cells [.int .i64 (kof u), .str (nof u), .int .i64 (vof u), .sl (tycs (lof u)) (lof u).length false none]))).put (c + 2) (some (.cells [.int .i64 (kof u), .str (nof u), .int .i64 (vof u), .sl (tycs (lof u)) (lof u).length false none])) →
        e1 4 = .ptr c 0 → e1 5 = .ptr (c + 1) 0 → e1 6 = .ptr (c + 2) 0 → e1 7 = .ptr (c + 3) 0 → W T X L e1 S1 (OccQ ss rk b q v c R (vtm j) t' fl S0) := by
      rintro e1 S1 rfl g4 g5 g6 g7
      have hdn : ∀ x : Nat, Occ x u → rk x < rk j := by
        rcases hac.dn j u hi with h | h
        · exact absurd ⟨h.1, by rw [hv]; exact h.2⟩ hn
        · exact h
      have hkk : ∀ k, k < S.size → k ≠ q → k ≠ c + 2 → ((((S.put q (some (.cells ((bcells fl).set j (.bool true))))).new (.cells [.int .i64 0, .str ⟨#[]⟩, .int .i64 0, .nils])).put S.size (some (.cells [.int .i64 (kof u), .str (nof u), .int .i64 (vof u), .sl (tycs (lof u)) (lof u).length false none]))).put (c + 2) (some (.cells [.int .i64 (kof u), .str (nof u), .int .i64 (vof u), .sl (tycs (lof u)) (lof u).length false none]))).obj k = S.obj k := fun k h1 h2 h3 => by
        rw [put_ne h3, put_ne (by omega), new_ne (by simp only [St.put]; omega), put_ne h2]
      refine (ih (hac.wt j u hi) (rk j) hdn e1 _ S0 (fl.set j true) c hu ?_ hc hqb hqp hq (by simpa using hln) ?_ g4 g5 g6 g7 ⟨?_, ?_, ?_, ?_, ?_, ?_⟩).mono ?_
      · exact ⟨by have := hk.1; simp only [St.new, St.put]; omega, fun k hk1 hk2 => (hkk k (Nat.lt_of_lt_of_le hk1 hk.1) hk2 (by omega)).trans (hk.2 k hk1 hk2)⟩
      · intro w hw
        rcases set_get hjl hw with h | rfl
        · rcases hinv w h with h | h
          · exact Or.inl h
          · exact Or.inr (by omega)
        · exact Or.inr (Nat.le_refl _)
      · rw [hkk c hcS (by omega) (by omega)]; exact hB.b0
      · rw [hkk (c + 1) hc1S (by omega) (by omega)]; exact hB.b1
      · rw [put_eq, tyc_w, tyw]
      · rw [hkk (c + 3) hc3S (by omega) (by omega)]; exact hB.b3
      · rw [put_ne (by omega), put_ne (by omega), new_ne (by simp only [St.put]; omega), put_eq, bset]
      · simp only [St.new, St.put]; omega
      · rintro x e' S' (⟨h1, h2, fl', h3, h4, h5, h6⟩ | ⟨h1, h2, h3, h4, h5, h6, fl', R', h7, h8, h9, h10, h11, h12⟩)
        · refine Or.inl ⟨h1, ?_, fl', h3, by rw [h4]; simp, h5, fun ho w hw => ?_⟩
          · rw [h2]; congr 1
            cases hq : ocb ss v u
            · exact (ocb_f.2 fun hh => (ocb_f.1 hq) (hst.1 hh)).symm
            · exact (ocb_iff.2 (hst.2 (ocb_iff.1 hq))).symm
          · rcases h6 (fun hh => ho (hst.2 hh)) w hw with h | h
            · rcases set_get hjl h with h | rfl
              · exact Or.inl h
              · exact Or.inr ho
            · exact Or.inr h
        · refine Or.inr ⟨h1, h2, h3, h4, h5, h6, fl', R', ?_, h8, by rw [h9]; simp, h10, h11, fun w hw => ?_⟩
          · rcases h7 with h7 | ⟨h7, -⟩
            · exact Or.inl (by omega)
            · exact Or.inl (by omega)
          · rcases h12 w hw with h | h
            · rcases set_get hjl h with h | rfl
              · exact Or.inl h
              · refine Or.inr ⟨?_, hst.trans (oc_walk hr)⟩
                rcases h7 with h7 | ⟨h7, -⟩ <;> omega
            · exact Or.inr h
    cases x
    · by_cases hku : kof u = 0
      · have hvu : (vof u != (j : Int)) = true := by
          have : vof u ≠ j := fun h => hn ⟨hku, by rw [hv]; exact h⟩
          simpa using this
        rw [hku] at hpr fin
        simp only [cf97_l0, hvu, e4, e5, e6, e7, hB.b0, hB.b1, o2, hB.b3, hB.ob, z0, z00, hjv, hba, hbg, hble, eqc, eqd, hpS.1, hpS.2.1, hpi, hpl, hpr, epq, ebq, ec0, ec1, ec3, ne_a hcS, ne_a hc1S, ne_a hc2S, ne_a hc3S, ne_b hcS, ne_b hc1S, ne_b hc2S, ne_b hc3S, ne_a hpS.2.2.2, ne_a hpS.2.2.1, Nat.le_add_left, go_sem, ↓reduceIte, reduceCtorEq, Nat.reduceEqDiff, Nat.reduceAdd, Nat.reduceSub, Nat.reduceMul, Nat.reduceLeDiff, Nat.reduceLT, loadA, rdCells, storeA, setAt, binA]
        exact fin _ _ rfl (by simp only [e4, go_sem, ↓reduceIte, reduceCtorEq, Nat.reduceEqDiff, Nat.reduceAdd, Nat.reduceSub, Nat.reduceMul, Nat.reduceLeDiff, Nat.reduceLT, loadA, rdCells, storeA, setAt, binA]) (by simp only [e5, go_sem, ↓reduceIte, reduceCtorEq, Nat.reduceEqDiff, Nat.reduceAdd, Nat.reduceSub, Nat.reduceMul, Nat.reduceLeDiff, Nat.reduceLT, loadA, rdCells, storeA, setAt, binA]) (by simp only [e6, go_sem, ↓reduceIte, reduceCtorEq, Nat.reduceEqDiff, Nat.reduceAdd, Nat.reduceSub, Nat.reduceMul, Nat.reduceLeDiff, Nat.reduceLT, loadA, rdCells, storeA, setAt, binA]) (by simp only [e7, go_sem, ↓reduceIte, reduceCtorEq, Nat.reduceEqDiff, Nat.reduceAdd, Nat.reduceSub, Nat.reduceMul, Nat.reduceLeDiff, Nat.reduceLT, loadA, rdCells, storeA, setAt, binA])
      · have hku0 : (kof u != 0) = true := by simpa using hku
        simp only [cf97_l0, hku0, e4, e5, e6, e7, hB.b0, hB.b1, o2, hB.b3, hB.ob, z0, z00, hjv, hba, hbg, hble, eqc, eqd, hpS.1, hpS.2.1, hpi, hpl, hpr, epq, ebq, ec0, ec1, ec3, ne_a hcS, ne_a hc1S, ne_a hc2S, ne_a hc3S, ne_b hcS, ne_b hc1S, ne_b hc2S, ne_b hc3S, ne_a hpS.2.2.2, ne_a hpS.2.2.1, Nat.le_add_left, go_sem, ↓reduceIte, reduceCtorEq, Nat.reduceEqDiff, Nat.reduceAdd, Nat.reduceSub, Nat.reduceMul, Nat.reduceLeDiff, Nat.reduceLT, loadA, rdCells, storeA, setAt, binA]
        exact fin _ _ rfl (by simp only [e4, go_sem, ↓reduceIte, reduceCtorEq, Nat.reduceEqDiff, Nat.reduceAdd, Nat.reduceSub, Nat.reduceMul, Nat.reduceLeDiff, Nat.reduceLT, loadA, rdCells, storeA, setAt, binA]) (by simp only [e5, go_sem, ↓reduceIte, reduceCtorEq, Nat.reduceEqDiff, Nat.reduceAdd, Nat.reduceSub, Nat.reduceMul, Nat.reduceLeDiff, Nat.reduceLT, loadA, rdCells, storeA, setAt, binA]) (by simp only [e6, go_sem, ↓reduceIte, reduceCtorEq, Nat.reduceEqDiff, Nat.reduceAdd, Nat.reduceSub, Nat.reduceMul, Nat.reduceLeDiff, Nat.reduceLT, loadA, rdCells, storeA, setAt, binA]) (by simp only [e7, go_sem, ↓reduceIte, reduceCtorEq, Nat.reduceEqDiff, Nat.reduceAdd, Nat.reduceSub, Nat.reduceMul, Nat.reduceLeDiff, Nat.reduceLT, loadA, rdCells, storeA, setAt, binA])
    · have hoc : ocb ss v (vtm j) = false := by
        rw [ocb_f]
        rcases hinv j hx with h | h
        · exact h
        · omega
      simp only [cf97_l0, e4, e5, e6, e7, hB.b0, hB.b1, o2, hB.b3, hB.ob, z0, z00, hjv, hba, hbg, hble, eqc, eqd, hpS.1, hpS.2.1, hpi, hpl, hpr, epq, ebq, ec0, ec1, ec3, ne_a hcS, ne_a hc1S, ne_a hc2S, ne_a hc3S, ne_b hcS, ne_b hc1S, ne_b hc2S, ne_b hc3S, ne_a hpS.2.2.2, ne_a hpS.2.2.1, Nat.le_add_left, go_sem, ↓reduceIte, reduceCtorEq, Nat.reduceEqDiff, Nat.reduceAdd, Nat.reduceSub, Nat.reduceMul, Nat.reduceLeDiff, Nat.reduceLT, loadA, rdCells, storeA, setAt, binA]
      refine Or.inl ⟨rfl, by simp only [hoc, go_sem, ↓reduceIte, reduceCtorEq, Nat.reduceEqDiff, Nat.reduceAdd, Nat.reduceSub, Nat.reduceMul, Nat.reduceLeDiff, Nat.reduceLT, loadA, rdCells, storeA, setAt, binA], fl, hB.ob, rfl, hk, fun _ w hw => Or.inl hw⟩
theorem walk_wt {ss : List Tm} {rk : Nat → Nat} (hac : Acy ss rk) {t t' : Tm} (h : WalkTo ss t t') : Wt ss.length t → Wt ss.length t' := by
  induction h with
  | con t h => exact id
  | self t u i h hv hi hu hw => exact id
  | step t u t' i h hv hi hn hr ih => exact fun _ => ih (hac.wt i u hi)
theorem acy_args {ss : List Tm} {rk : Nat → Nat} (hac : Acy ss rk) {t : Tm} (hw : Wt ss.length t) : ∀ a, a ∈ lof t → ∃ A, Ap ss a A := fun a ha => hac.ex (wt_arg hw ha)

set_option maxHeartbeats 8000000 in
theorem occ_law (hX : NoX X) {ss : List Tm} {rk : Nat → Nat} {b p q v : Nat} (hac : Acy ss rk) (hse : Self ss v) (hqb : q ≠ b) (hqp : q ≠ p) : ∀ (R n : Nat) (t : Tm), (∀ x : Nat, Occ x t → rk x < R) → Wt ss.length t → tsz t ≤ n → ∀ (s : St) (fl : List Bool),
    US s b p ss → q < s.size → fl.length = ss.length → s.obj q = some (.cells (bcells fl)) → (∀ w : Nat, fl[w]? = some true → ¬ OC ss v (vtm w) ∨ R ≤ rk w) →
    WC T X 97 [.ptr b 0, .int .i64 v, .agg (tyc t), .msl q 0 ss.length 1] s (fun r s' => r = .bool (ocb ss v t) ∧ ∃ fl', s'.obj q = some (.cells (bcells fl')) ∧ fl'.length = fl.length ∧ KeepBut q s s' ∧ (¬ OC ss v t → ∀ w : Nat, fl'[w]? = some true → fl[w]? = some true ∨ ¬ OC ss v (vtm w))) := by
  intro R
  induction R using Nat.strongRecOn with
  | ind R ihR =>
  intro n
  induction n with
  | zero => intro t _ _ h; have := tsz_pos t; omega
  | succ n ihn =>
    intro t hR hw hs s fl hu hq hln hob hinv
    refine WC_fn cf97 (hX 97 (by decide)) T97 (by simp [cf97]) ?_
    obtain ⟨A, hA⟩ := hac.ex hw
    obtain ⟨t', hwk, -, hA'⟩ := walk_ap hA
    have hlp := occ_loop (X := X) (b := b) (p := p) (q := q) hac hse hwk hw R hR
    simp only [cf97, go_sem, ↓reduceIte, reduceCtorEq, Nat.reduceEqDiff, Nat.reduceAdd, Nat.reduceSub, Nat.reduceMul, Nat.reduceLeDiff, Nat.reduceLT, loadA, rdCells, storeA, setAt, binA]
    refine (hlp _ _ s fl s.size hu ?_ (Nat.le_refl _) hqb hqp hq hln hinv ?_ ?_ ?_ ?_ ⟨?_, ?_, ?_, ?_, ?_, ?_⟩).mono ?_
    · exact ⟨by simp only [St.new]; omega, fun j hj _ => by rw [new_ne (by simp only [St.new]; omega), new_ne (by simp only [St.new]; omega), new_ne (by simp only [St.new]; omega), new_ne (by omega)]⟩
    · simp only [go_sem, ↓reduceIte, reduceCtorEq, Nat.reduceEqDiff, Nat.reduceAdd, Nat.reduceSub, Nat.reduceMul, Nat.reduceLeDiff, Nat.reduceLT, loadA, rdCells, storeA, setAt, binA]
    · simp only [go_sem, ↓reduceIte, reduceCtorEq, Nat.reduceEqDiff, Nat.reduceAdd, Nat.reduceSub, Nat.reduceMul, Nat.reduceLeDiff, Nat.reduceLT, loadA, rdCells, storeA, setAt, binA]
    · simp only [go_sem, ↓reduceIte, reduceCtorEq, Nat.reduceEqDiff, Nat.reduceAdd, Nat.reduceSub, Nat.reduceMul, Nat.reduceLeDiff, Nat.reduceLT, loadA, rdCells, storeA, setAt, binA]
    · simp only [go_sem, ↓reduceIte, reduceCtorEq, Nat.reduceEqDiff, Nat.reduceAdd, Nat.reduceSub, Nat.reduceMul, Nat.reduceLeDiff, Nat.reduceLT, loadA, rdCells, storeA, setAt, binA]
    · rw [new_ne (by simp only [St.new]; omega), new_ne (by simp only [St.new]; omega), new_ne (by simp only [St.new]; omega), new_eq rfl]
    · rw [new_ne (by simp only [St.new]; omega), new_ne (by simp only [St.new]; omega), new_eq (by simp [St.new])]
    · rw [new_ne (by simp only [St.new]; omega), new_eq (by simp [St.new])]
    · rw [new_eq (by simp [St.new])]
    · rw [new_ne (by simp only [St.new]; omega), new_ne (by simp only [St.new]; omega), new_ne (by simp only [St.new]; omega), new_ne (by omega)]; exact hob
    · simp only [St.new]; omega
    rintro x e' S1 (⟨rfl, h2, fl', h3, h4, h5, h6⟩ | ⟨rfl, h2, h3, h4, h5, h6, fl', R', h7, h8, h9, h10, h11, h12⟩)
    · simp only [h2, go_sem, ↓reduceIte, reduceCtorEq, Nat.reduceEqDiff, Nat.reduceAdd, Nat.reduceSub, Nat.reduceMul, Nat.reduceLeDiff, Nat.reduceLT, loadA, rdCells, storeA, setAt, binA]
      exact ⟨by simp, _, rfl, rfl, fl', h3, h4, h5, h6⟩
    · obtain ⟨k', n', v', l'⟩ := t'
      rw [kof_mk] at h2
      have hwt' : Wt ss.length (.mk k' n' v' l') := walk_wt hac hwk hw
      have hex := acy_args hac hwt'
      rw [lof_mk] at hex
      have o2 := h10.b2
      rw [tyc] at o2
      have hts := wt_lof hwt'
      rw [lof_mk] at hts
      have hR'R : R' ≤ R := by rcases h7 with h | ⟨h, -⟩ <;> omega
      have hany : l'.any (ocb ss v) = ocb ss v t := by
        cases hq : ocb ss v t
        · have h1 := ocb_f.1 hq
          rw [oc_walk hwk, oc_con h2 hex] at h1
          rw [List.any_eq_false]
          exact fun a ha hh => h1 ⟨a, ha, ocb_iff.1 hh⟩
        · have h1 := ocb_iff.1 hq
          rw [oc_walk hwk, oc_con h2 hex] at h1
          obtain ⟨a, ha, hh⟩ := h1
          rw [List.any_eq_true]
          exact ⟨a, ha, ocb_iff.2 hh⟩
      simp only [h3, h4, h5, h6, o2, Nat.le_add_left, go_sem, ↓reduceIte, reduceCtorEq, Nat.reduceEqDiff, Nat.reduceAdd, Nat.reduceSub, Nat.reduceMul, Nat.reduceLeDiff, Nat.reduceLT, loadA, rdCells, storeA, setAt, binA]
      refine WO_callx [.sl (tycs l') l'.length false none, .func 107 [.ptr s.size 0, .ptr (s.size + 1) 0, .ptr (s.size + 3) 0]] (by simp only [h4, h3, h6, go_sem, ↓reduceIte, reduceCtorEq, Nat.reduceEqDiff, Nat.reduceAdd, Nat.reduceSub, Nat.reduceMul, Nat.reduceLeDiff, Nat.reduceLT, loadA, rdCells, storeA, setAt, binA]) ((contains_fj hX (isl_tycs l') ?_ 107 [.ptr s.size 0, .ptr (s.size + 1) 0, .ptr (s.size + 3) 0] (ocb ss v)
        (fun _ S => ∃ flS, OccB b v q ss.length s.size (.mk k' n' v' l') flS S ∧ flS.length = fl.length ∧ KeepBut q s S ∧ ∀ w : Nat, flS[w]? = some true → fl[w]? = some true ∨ (R' ≤ rk w ∧ (OC ss v (vtm w) ↔ OC ss v (.mk k' n' v' l'))) ∨ ¬ OC ss v (vtm w))
        (fun S => ∃ flS, S.obj q = some (.cells (bcells flS)) ∧ flS.length = fl.length ∧ KeepBut q s S) S1 ⟨fl', h10, h9, h11, fun w hw => ?_⟩ ?_).mono ?_)
      · omega
      · rcases h12 w hw with h | h
        · exact Or.inl h
        · exact Or.inr (Or.inl h)
      · rintro i x S hi ⟨flS, hB, hl, hk, hm⟩
        have hxm := List.mem_of_getElem? hi
        have hxl : x ∈ lof (Tm.mk k' n' v' l') := hxm
        have hcall : ∀ S', Keep S S' → WC T X 97 [.ptr b 0, .int .i64 v, .agg (tyc x), .msl q 0 ss.length 1] S' (fun r s' => r = .bool (ocb ss v x) ∧ ∃ fl', s'.obj q = some (.cells (bcells fl')) ∧ fl'.length = flS.length ∧ KeepBut q S' s' ∧ (¬ OC ss v x → ∀ w : Nat, fl'[w]? = some true → flS[w]? = some true ∨ ¬ OC ss v (vtm w))) := by
          intro S' hkS
          have hRx : ∀ y : Nat, Occ y x → rk y < R' := fun y ho => h8 y ((occ_oth y (by simpa [kof_mk] using h2)).2 ⟨x, hxl, ho⟩)
          have hinv' : ∀ w : Nat, flS[w]? = some true → ¬ OC ss v (vtm w) ∨ R' ≤ rk w := fun w hw => by
            rcases hm w hw with h | h | h
            · rcases hinv w h with h | h
              · exact Or.inl h
              · exact Or.inr (by omega)
            · exact Or.inr h.1
            · exact Or.inl h
          have hqS : q < S.size := Nat.lt_of_lt_of_le hq hk.1
          have huS : US S b p ss := ⟨(hk.2 b hu.2.2.1 (Ne.symm hqb)).trans hu.1, (hk.2 p hu.2.2.2 (Ne.symm hqp)).trans hu.2.1, by have := hk.1; have := hu.2.2.1; omega, by have := hk.1; have := hu.2.2.2; omega⟩
          rcases h7 with h | ⟨h, h'⟩
          · exact ihR R' h (tsz x) x hRx (wt_arg hwt' hxl) (Nat.le_refl _) S' flS (huS.keep hkS) (hkS.lt hqS) (by rw [hl, hln]) (hkS.obj hqS hB.ob) hinv'
          · subst h
            exact ihn x hRx (wt_arg hwt' hxl) (by have := tsz_mem hxl; rw [h'] at this; omega) S' flS (huS.keep hkS) (hkS.lt hqS) (by rw [hl, hln]) (hkS.obj hqS hB.ob) hinv'
        refine WC_fn cf107 (hX 107 (by decide)) T107 (by simp [cf107]) ?_
        have hz := hB.sz
        have z0 : s.size < S.size := by omega
        have z1 : s.size + 1 < S.size := by omega
        have z3 : s.size + 3 < S.size := by omega
        rw [tyc_w, tyw] at hcall ⊢
        simp only [cf107, hB.b0, hB.b1, hB.b3, ne_a z0, ne_a z1, ne_a z3, ne_b z0, ne_b z1, ne_b z3, Nat.le_add_left, go_sem, ↓reduceIte, reduceCtorEq, Nat.reduceEqDiff, Nat.reduceAdd, Nat.reduceSub, Nat.reduceMul, Nat.reduceLeDiff, Nat.reduceLT, loadA, rdCells, storeA, setAt, binA]
        refine WO_callx _ rfl ((hcall _ ((Keep.refl S).new' _)).mono ?_)
        rintro w S2 ⟨rfl, fl2, o1, l1, k1, m1⟩
        have k2 : KeepBut q S S2 := (((Keep.refl S).new' _).but (p := q)).trans k1
        simp only [go_sem, ↓reduceIte, reduceCtorEq, Nat.reduceEqDiff, Nat.reduceAdd, Nat.reduceSub, Nat.reduceMul, Nat.reduceLeDiff, Nat.reduceLT, loadA, rdCells, storeA, setAt, binA]
        refine ⟨by simp, _, rfl, rfl, fun hf => ⟨fl2, ⟨?_, ?_, ?_, ?_, o1, ?_⟩, by rw [l1, hl], hk.trans k2, fun w hw => ?_⟩, fun _ => ⟨fl2, o1, by rw [l1, hl], hk.trans k2⟩⟩
        · rw [k2.2 _ z0 (by omega)]; exact hB.b0
        · rw [k2.2 _ z1 (by omega)]; exact hB.b1
        · rw [k2.2 _ (by omega) (by omega)]; exact hB.b2
        · rw [k2.2 _ z3 (by omega)]; exact hB.b3
        · have := k2.1; omega
        · rcases m1 (ocb_f.1 hf) w hw with h | h
          · exact hm w h
          · exact Or.inr (Or.inr h)
      · rintro w S2 ⟨rfl, g1, g2⟩
        simp only [go_sem, ↓reduceIte, reduceCtorEq, Nat.reduceEqDiff, Nat.reduceAdd, Nat.reduceSub, Nat.reduceMul, Nat.reduceLeDiff, Nat.reduceLT, loadA, rdCells, storeA, setAt, binA]
        refine ⟨by simp, _, rfl, by rw [hany], ?_⟩
        cases hq : ocb ss v t
        · obtain ⟨flS, hB, hl, hk, hm⟩ := g1 (by rw [hany, hq])
          refine ⟨flS, hB.ob, hl, hk, fun hno w hw => ?_⟩
          rcases hm w hw with h | h | h
          · exact Or.inl h
          · exact Or.inr fun hh => hno ((oc_walk hwk).2 (h.2.1 hh))
          · exact Or.inr h
        · obtain ⟨flS, h1, h2', h3'⟩ := g2 (by rw [hany, hq])
          exact ⟨flS, h1, h2', h3', fun hno => absurd (ocb_iff.1 hq) hno⟩
end Go.Am.U1
