/- A part of the proof of unifyNormal. Conditions: none. -/
import Derived.Test.YtfleakoephmgaaaDoorUnM
set_option linter.unusedSimpArgs false
set_option linter.unusedVariables false
namespace Go.Am.U1
open Go.Am.Un
set_option maxRecDepth 100000

theorem chk_inv {row : Bool} {d left k v : Int} {n : ByteArray} {l : List Tm} (h : (chk row d left (.mk k n v l)).1 = 0) :
    1 ≤ left ∧ 0 ≤ k ∧ k ≤ 5 ∧ (k = 0 → l = [] ∧ 0 ≤ v ∧ v < 4096) ∧ (k = 5 → l.length = 2) ∧ chk row d left (.mk k n v l) = chks k 0 (d + 1) (left - 1) l := by
  rw [chk] at h ⊢
  split at h
  · simp at h
  · rename_i h1
    split at h
    · simp at h
    · rename_i h2
      split at h
      · simp at h
      · rename_i h3
        split at h
        · simp at h
        · rename_i h4
          split at h
          · simp at h
          · rename_i h5
            rw [if_neg h1, if_neg h2, if_neg h3, if_neg h4, if_neg h5]
            have h30 : ¬ (szK k ≥ 0 ∧ (l.length : Int) ≠ szK k) := fun hh => h3 (Or.inl hh)
            refine ⟨by omega, by omega, by omega, fun hk => ⟨?_, by omega, by omega⟩, fun hk => ?_, rfl⟩
            · subst hk
              simp only [szK, if_true] at h30
              exact List.eq_nil_of_length_eq_zero (by omega)
            · subst hk
              have : szK 5 = 2 := rfl
              rw [this] at h30
              omega

theorem chks_cons {k : Int} {i : Nat} {d left : Int} {a : Tm} {r : List Tm} (h : (chks k i d left (a :: r)).1 = 0) :
    (chk (rowed k i a) d left a).1 = 0 ∧ (chks k (i + 1) d (chk (rowed k i a) d left a).2 r).1 = 0 ∧ (chks k i d left (a :: r)).2 = (chks k (i + 1) d (chk (rowed k i a) d left a).2 r).2 := by
  rw [chks] at h ⊢
  split at h
  · rename_i h2; exact absurd h h2
  · rename_i h2
    rw [if_neg h2]
    exact ⟨Classical.not_not.1 h2, h, rfl⟩

theorem mem_adds : ∀ (f out : List Int) (x : Int), x ∈ out ∨ x ∈ f → x ∈ adds out f
  | [], out, x, h => by rw [adds]; simpa using h
  | v :: r, out, x, h => by
    rw [adds]
    refine mem_adds r _ x ?_
    rcases h with h | h
    · left; split
      · exact h
      · simp [h]
    · rcases List.mem_cons.1 h with rfl | h
      · left; split
        · rename_i hc; simpa using hc
        · simp
      · exact Or.inr h
theorem mem_fres : ∀ (l : List Tm) (out : List Int) (x : Int), (x ∈ out ∨ ∃ a, a ∈ l ∧ x ∈ fre a) → x ∈ fres out l
  | [], out, x, h => by rw [fres]; rcases h with h | ⟨a, h, -⟩; exact h; simp at h
  | a :: r, out, x, h => by
    rw [fres]
    refine mem_fres r _ x ?_
    rcases h with h | ⟨b, hb, hx⟩
    · exact Or.inl (mem_adds _ _ _ (Or.inl h))
    · rcases List.mem_cons.1 hb with rfl | hb
      · exact Or.inl (mem_adds _ _ _ (Or.inr hx))
      · exact Or.inr ⟨b, hb, hx⟩

mutual
theorem sub_id (N : Nat) (row : Bool) (d left : Int) : ∀ t : Tm, (chk row d left t).1 = 0 → (∀ x, x ∈ fre t → x < N) → Sub (vars N) t t
  | .mk k n v l => by
    intro h hf
    obtain ⟨h1, h2, h3, h4, h5, h6⟩ := chk_inv h
    by_cases hk : k = 0
    · subst hk
      obtain ⟨rfl, hv0, hv1⟩ := h4 rfl
      have hvN : v < N := hf v (by rw [fre, if_pos rfl]; simp)
      obtain ⟨i, rfl⟩ : ∃ i : Nat, v = i := ⟨v.toNat, by omega⟩
      exact .var _ _ (.self _ (vtm i) i rfl rfl (vars_at (by omega)) rfl rfl) rfl
    · refine .con _ k n v l l (.con _ hk) hk (subs_id N k 0 (d + 1) (left - 1) l (by rw [← h6]; exact h) fun x a ha hx => hf x ?_)
      rw [fre, if_neg hk]
      exact mem_fres _ _ _ (Or.inr ⟨a, ha, hx⟩)
theorem subs_id (N : Nat) (k : Int) (i : Nat) (d left : Int) : ∀ l : List Tm, (chks k i d left l).1 = 0 → (∀ x a, a ∈ l → x ∈ fre a → x < N) → Subs (vars N) l l
  | [] => fun _ _ => .nil
  | a :: r => fun h hf => .cons _ _ _ _ (sub_id N _ d left a (chks_cons h).1 fun x hx => hf x a (by simp) hx) (subs_id N k (i + 1) d _ r (chks_cons h).2.1 fun x b hb hx => hf x b (by simp [hb]) hx)
end
theorem eqvs_of : ∀ l : List Tm, (∀ a, a ∈ l → Eqv a a) → Eqvs l l
  | [], _ => .nil
  | a :: r, h => .cons _ _ _ _ (h a (by simp)) (eqvs_of r fun b hb => h b (by simp [hb]))
mutual
theorem eqv_id (row : Bool) (d left : Int) : ∀ t : Tm, (chk row d left t).1 = 0 → Eqv t t
  | .mk k n v l => by
    intro h
    obtain ⟨h1, h2, h3, h4, h5, h6⟩ := chk_inv h
    have hl := eqv_ids k 0 (d + 1) (left - 1) l (by rw [← h6]; exact h)
    by_cases hk : k = 0
    · subst hk; exact .var _ _ rfl rfl rfl
    · by_cases hk5 : k = 5
      · subst hk5
        have hlen := h5 rfl
        match l, hlen, hl with
        | [x, r], _, hl => exact .row n v x r _ x r (.here v x r) (hl x (by simp)) (hl r (by simp))
      · exact .app k n n v v l l hk hk5 (by simp) (eqvs_of l hl)
theorem eqv_ids (k : Int) (i : Nat) (d left : Int) : ∀ l : List Tm, (chks k i d left l).1 = 0 → ∀ a, a ∈ l → Eqv a a
  | [] => fun _ a ha => by simp at ha
  | a :: r => fun h b hb => by
    rcases List.mem_cons.1 hb with hb' | hb'
    · rw [hb']; exact eqv_id _ d left a (chks_cons h).1
    · exact eqv_ids k (i + 1) d _ r (chks_cons h).2.1 b hb'
end
mutual
theorem chk_size (row : Bool) (d left : Int) : ∀ t : Tm, (chk row d left t).1 = 0 → (chk row d left t).2 + tsz t = left
  | .mk k n v l => by
    intro h
    obtain ⟨h1, h2, h3, h4, h5, h6⟩ := chk_inv h
    rw [h6, tsz]
    have := chks_size k 0 (d + 1) (left - 1) l (by rw [← h6]; exact h)
    omega
theorem chks_size (k : Int) (i : Nat) (d left : Int) : ∀ l : List Tm, (chks k i d left l).1 = 0 → (chks k i d left l).2 + tszs l = left
  | [] => fun _ => by rw [chks, tszs]; simp
  | a :: r => fun h => by
    obtain ⟨h1, h2, h3⟩ := chks_cons h
    have e1 := chk_size _ d left a h1
    have e2 := chks_size k (i + 1) d _ r h2
    rw [h3, tszs]
    omega
end
theorem chk_tsz {row : Bool} {d : Int} {t : Tm} (h : (chk row d 4096 t).1 = 0) : tsz t ≤ 4096 := by
  have h1 := chk_size row d 4096 t h
  have h2 := chk_ok row d 4096 t h
  omega
end Go.Am.U1

/- A part of the proof of unifyNormal. Conditions: none. -/
namespace Go.Am.U1
open Go.Am.Un
set_option maxRecDepth 100000
set_option linter.unusedSimpArgs false
attribute [local go_sem] wseq COp.isStore wreg wdreg wret wskip wexit wblock wcnd cnd_t cnd_f then_n then_x then_r catch_n rnd_n rnd_x rnd_r catch_x catch_r wo_nil wo_grd grdO_t grdO_f wo_ops stpO wr_nil wr_alloc wr_guards grdR_t grdR_f wr_ops stpR evAllocs evOp env0_app eput_some eput_none eset_app Opd.ev wantedA faddrA snew_obj snew_size sput_obj sput_size av_cells av_one av_strip av_still unA eqbA fillA fldA lensA mmA mm2 mmFold List.getD_cons_zero List.getD_cons_succ List.getD_nil List.length_cons List.length_nil List.drop_zero List.drop_succ_cons List.take_succ_cons List.take_zero List.map_cons List.map_nil List.set_cons_zero List.set_cons_succ List.all_cons List.all_nil List.getElem?_cons_zero List.getElem?_cons_succ List.nil_append List.cons_append Nat.zero_add Nat.add_zero beq_self_eq_true bt bf Bool.not_true Bool.not_false Bool.and_true Bool.true_and Bool.and_false Bool.false_and and_self and_true true_and n0 n1 n2 n3 n4 m0 m1 m2 m3 c1 retA resAs resA undefA Option.map_some Option.map_none
variable {X : Ext}

theorem con_law (hX : NoX X) (n : ByteArray) (w : AV) (hw : w.cells = [w]) (ho : w.one = true) (s : St) : WC T X 16 [.str n, w] s (fun v s' => v = .agg [.int .i64 1, .str n, .int .i64 0, w.strip] ∧ Keep s s') := by
  refine WC_fn cf16 (hX 16 (by decide)) T16 (by simp [cf16]) ?_
  simp only [cf16, hw, ho, Nat.le_add_left, go_sem, ↓reduceIte, reduceCtorEq, Nat.reduceEqDiff, Nat.reduceAdd, Nat.reduceSub, Nat.reduceMul, Nat.reduceLeDiff, Nat.reduceLT, loadA, rdCells, storeA, setAt, binA]
  exact ⟨by simp, _, rfl, rfl, ((Keep.refl s).new' _).put' (Nat.le_refl _) _⟩

theorem pair_law (hX : NoX X) (a b : AV) (s : St) : WC T X 14 [a, b] s (fun v s' => ∃ sv, v = .tup [sv, .bool true] ∧ ISl tyc sv (vars 12) ∧ sv ≠ .nils ∧ Keep s s') := by
  refine WC_fn cf14 (hX 14 (by decide)) T14 (by simp [cf14]) ?_
  simp only [cf14, go_sem, ↓reduceIte, reduceCtorEq, Nat.reduceEqDiff, Nat.reduceAdd, Nat.reduceSub, Nat.reduceMul, Nat.reduceLeDiff, Nat.reduceLT, loadA, rdCells, storeA, setAt, binA]
  refine WO_callx [.int .i64 12] (by simp only [go_sem, ↓reduceIte, reduceCtorEq, Nat.reduceEqDiff, Nat.reduceAdd, Nat.reduceSub, Nat.reduceMul, Nat.reduceLeDiff, Nat.reduceLT, loadA, rdCells, storeA, setAt, binA]) ((identity_law hX _).mono ?_)
  rintro w S ⟨sv, rfl, hsv, hn, hk⟩
  have hl := hsv.len
  rw [vars_len] at hl
  replace hl : lenA sv = some (.int .i64 12) := hl
  have d0 : ((0 : Int) == 0) = true := rfl
  have d1 : ((12 : Int) == 12) = true := rfl
  simp only [hl, d0, d1, go_sem, ↓reduceIte, reduceCtorEq, Nat.reduceEqDiff, Nat.reduceAdd, Nat.reduceSub, Nat.reduceMul, Nat.reduceLeDiff, Nat.reduceLT, loadA, rdCells, storeA, setAt, binA]
  exact ⟨by simp, _, rfl, sv, rfl, hsv, hn, (((Keep.refl s).new' _).new' _).trans hk⟩

def wi (n : Int) : Int := (n.tmod 12 + 12).tmod 12
theorem wi_b (n : Int) : 0 ≤ wi n ∧ wi n < 12 := by
  unfold wi
  have h1 : -12 < n.tmod 12 := by have := Int.lt_tmod_of_pos n (show (0 : Int) < 12 by omega); omega
  have h2 : n.tmod 12 < 12 := Int.tmod_lt_of_pos n (by omega)
  exact ⟨Int.tmod_nonneg _ (by omega), Int.tmod_lt_of_pos _ (by omega)⟩
theorem within_law (hX : NoX X) (n : Int) (s : St) : WC T X 17 [.int .i64 n, .int .i64 0, .int .i64 11] s (fun v s' => v = .int .i64 (wi n) ∧ Keep s s') := by
  refine WC_fn cf17 (hX 17 (by decide)) T17 (by simp [cf17]) ?_
  have w0 : IntKind.i64.wrap (11 - 0) = 11 := rfl
  have w1 : IntKind.i64.wrap (11 + 1) = 12 := rfl
  have h2 : n.tmod 12 < 12 := Int.tmod_lt_of_pos n (by omega)
  have h1 : -12 < n.tmod 12 := by have := Int.lt_tmod_of_pos n (show (0 : Int) < 12 by omega); omega
  have w2 : IntKind.i64.wrap (n.tmod 12) = n.tmod 12 := by rw [IntKind.wrap_i64]; omega
  have w3 : IntKind.i64.wrap (n.tmod 12 + 12) = n.tmod 12 + 12 := by rw [IntKind.wrap_i64]; omega
  have hb := wi_b n
  have w4 : IntKind.i64.wrap ((n.tmod 12 + 12).tmod 12) = wi n := by rw [IntKind.wrap_i64]; unfold wi at hb ⊢; omega
  have w5 : IntKind.i64.wrap (0 + wi n) = wi n := by rw [IntKind.wrap_i64]; omega
  have d0 : ((12 : Int) ≠ 0) = True := by simp
  simp only [cf17, w0, w1, w2, w3, w4, w5, d0, go_sem, ↓reduceIte, reduceCtorEq, Nat.reduceEqDiff, Nat.reduceAdd, Nat.reduceSub, Nat.reduceMul, Nat.reduceLeDiff, Nat.reduceLT, loadA, rdCells, storeA, setAt, binA]
  exact ⟨by simp, _, rfl, by rw [show (0 : Int) + (n.tmod 12 + 12).tmod 12 = wi n from Int.zero_add _]; exact congrArg _ (by rw [IntKind.wrap_i64]; omega), Keep.refl s⟩

theorem chk_L0 : (chk false 1 4096 (.mk 1 ⟨#[76]⟩ 0 [vtm 0])).1 = 0 := by
  rw [Un.chk1 (by omega)]
  have h : chk (rowed 1 0 (vtm 0)) (1 + 1) (4096 - 1) (vtm 0) = (0, 4094) := by
    rw [vtm, Un.chk0 (by omega), chks]
    have h3 : (({ data := #[] } : ByteArray).toList == ({ data := #[] } : ByteArray).toList) = true := by simp
    rw [h3]; rfl
  rw [chks, h, chks]; rfl

theorem chk_v {i : Nat} (hi : i < 12) : (chk (decide (kof (vtm i) ≥ 4)) 1 4096 (vtm i)).1 = 0 := by
  have : decide (kof (vtm i) ≥ 4) = false := rfl
  rw [this, chk_vtm hi]

/-- A variable against a type that begins with it; a type against itself. -/
theorem unify_c (hX : NoX X) {sv : AV} (hsv : ISl tyc sv (vars 12)) {i : Nat} (hi : i < 12) (n : ByteArray) (r : List Tm) (hr : r.length ≤ 1000) (wa wb : AV) (hwa : ISl tyc wa []) (hwb : ISl tyc wb (vtm i :: r))
    (hc : (chk false 1 4096 (.mk 1 n 0 (vtm i :: r))).1 = 0) (hf : (fre (.mk 1 n 0 (vtm i :: r))).any (fun x => decide (x ≥ 12)) = false) (s : St) :
    WC T X 15 [sv, .agg [.int .i64 0, .str ⟨#[]⟩, .int .i64 i, wa], .agg [.int .i64 1, .str n, .int .i64 0, wb]] s (ExtQ (vars 12) 8 s) := by
  refine unifyT_law hX hsv (vtm i) (.mk 1 n 0 (vtm i :: r)) wa wb hwa hwb 8 s (chk_v hi) hc ?_ hf (by rw [vtm, tsz, tszs]; omega) (chk_tsz hc) fun S => ?_
  · rw [vtm, fre, if_pos rfl]; simp; omega
  · exact extend_law hX hsv (by rw [vars_len]; omega) (by rw [vars_len]; omega) _ _ 8 S fun b' p' S' hu => unify_occ hX i b' p' hi n r hr S' hu

theorem unify_s (hX : NoX X) {sv : AV} (hsv : ISl tyc sv (vars 12)) (t : Tm) (wa wb : AV) (hwa : ISl tyc wa (lof t)) (hwb : ISl tyc wb (lof t))
    (hc : (chk (decide (kof t ≥ 4)) 1 4096 t).1 = 0) (hf : (fre t).any (fun x => decide (x ≥ 12)) = false) (s : St) :
    WC T X 15 [sv, .agg (tyw t wa), .agg (tyw t wb)] s (ExtQ (vars 12) 0 s) := by
  have hs := sub_id 12 _ 1 4096 t hc fun x hx => by
    have := List.any_eq_false.1 hf x hx
    simp at this
    omega
  refine unifyT_law hX hsv t t wa wb hwa hwb 0 s hc hc hf hf (chk_tsz hc) (chk_tsz hc) fun S => ?_
  exact extend_law hX hsv (by rw [vars_len]; omega) (by rw [vars_len]; omega) _ _ 0 S fun b' p' S' hu => unify_law hX (tsz t) t t (Nat.le_refl _) (by have := chk_tsz hc; omega) (eqv_id _ 1 4096 t hc) t t hs hs S' hu

theorem occurs_law (hX : NoX X) (v : Int) (a : Tm) (s : St) : WC T X 3 [.int .i64 v, .agg (tyc a)] s (fun r _ => r = .bool true) := by
  refine WC_fn cf3 (hX 3 (by decide)) T3 (by simp [cf3]) ?_
  have hk1 := (Keep.refl s).new' (.cells (tyc a))
  rw [tyc_w a, tyw] at hk1 ⊢
  simp only [cf3, Nat.le_add_left, go_sem, ↓reduceIte, reduceCtorEq, Nat.reduceEqDiff, Nat.reduceAdd, Nat.reduceSub, Nat.reduceMul, Nat.reduceLeDiff, Nat.reduceLT, loadA, rdCells, storeA, setAt, binA]
  refine WO_callx _ rfl ((pair_law hX _ _ _).mono ?_)
  rintro w S1 ⟨sv, rfl, hsv, hnn, hk2⟩
  simp only [go_sem, ↓reduceIte, reduceCtorEq, Nat.reduceEqDiff, Nat.reduceAdd, Nat.reduceSub, Nat.reduceMul, Nat.reduceLeDiff, Nat.reduceLT, loadA, rdCells, storeA, setAt, binA]
  refine WO_callx _ rfl ((con_law hX _ _ (by rfl) (by rfl) _).mono ?_)
  rintro w S2 ⟨rfl, hk3⟩
  simp only [go_sem, ↓reduceIte, reduceCtorEq, Nat.reduceEqDiff, Nat.reduceAdd, Nat.reduceSub, Nat.reduceMul, Nat.reduceLeDiff, Nat.reduceLT, loadA, rdCells, storeA, setAt, binA]
  have hc1 := fun S => unify_c hX hsv (i := 0) (by omega) ⟨#[76]⟩ [] (by simp) .nils (.sl [.int .i64 0, .str ⟨#[]⟩, .int .i64 0, .sl [] 0 false none] 1 false none) (Or.inl ⟨rfl, rfl⟩) (Or.inr ⟨false, none, by rw [List.flatMap_cons, List.flatMap_nil, List.append_nil, vtm_c]; rfl⟩) chk_L0 (by rw [fre, if_neg (by decide), fres, vtm, fre, if_pos rfl]; rfl) S
  rw [show ((0 : Nat) : Int) = 0 from rfl] at hc1
  refine WO_callx _ rfl ((hc1 _).mono ?_)
  rintro w S3 ⟨rv, rfl, -, hk4⟩
  have d8 : ((8 : Int) != 8) = false := rfl
  have hkA := ((hk1.trans hk2).trans hk3).trans hk4
  have hzA := hkA.1
  simp only [d8, go_sem, ↓reduceIte, reduceCtorEq, Nat.reduceEqDiff, Nat.reduceAdd, Nat.reduceSub, Nat.reduceMul, Nat.reduceLeDiff, Nat.reduceLT, loadA, rdCells, storeA, setAt, binA]
  refine WO_callx _ rfl ((within_law hX v _).mono ?_)
  rintro w S4 ⟨rfl, hk5⟩
  obtain ⟨hw0, hw1⟩ := wi_b v
  obtain ⟨i, hi⟩ : ∃ i : Nat, wi v = i := ⟨(wi v).toNat, by omega⟩
  rw [hi] at hw0 hw1 ⊢
  have hi12 : i < 12 := by omega
  have hk25 := ((hk2.trans hk3).trans hk4).trans hk5
  have o3 := hk25.2 s.size (by simp [St.new])
  simp only [go_sem, ↓reduceIte, reduceCtorEq, Nat.reduceEqDiff, Nat.reduceAdd, Nat.reduceSub, Nat.reduceMul, Nat.reduceLeDiff, Nat.reduceLT, loadA, rdCells, storeA, setAt, binA] at o3
  simp only [o3, Nat.le_add_left, go_sem, ↓reduceIte, reduceCtorEq, Nat.reduceEqDiff, Nat.reduceAdd, Nat.reduceSub, Nat.reduceMul, Nat.reduceLeDiff, Nat.reduceLT, loadA, rdCells, storeA, setAt, binA]
  refine WO_callx _ rfl ((con_law hX _ _ (by rfl) (by rfl) _).mono ?_)
  rintro w S5 ⟨rfl, hk6⟩
  obtain ⟨x, hx⟩ : ∃ x, x = Tm.mk 1 ⟨#[76]⟩ 0 [vtm i, a] := ⟨_, rfl⟩
  have hwx : ISl tyc (.sl [.int .i64 0, .str ⟨#[]⟩, .int .i64 i, .sl [] 0 false none, .int .i64 (kof a), .str (nof a), .int .i64 (vof a), .sl (tycs (lof a)) (lof a).length false none] 2 false none) [vtm i, a] := Or.inr ⟨false, none, by rw [List.flatMap_cons, List.flatMap_cons, List.flatMap_nil, List.append_nil, vtm_c, tyc_w a]; rfl⟩
  have hck := fun S => check18_law hX x _ (by rw [hx]; exact hwx) S
  simp only [hx, tyw, kof_mk, nof_mk, vof_mk] at hck
  simp only [AV.strip, Nat.le_add_left, go_sem, ↓reduceIte, reduceCtorEq, Nat.reduceEqDiff, Nat.reduceAdd, Nat.reduceSub, Nat.reduceMul, Nat.reduceLeDiff, Nat.reduceLT, loadA, rdCells, storeA, setAt, binA]
  refine WO_callx _ rfl ((hck _).mono ?_)
  rintro w S6 ⟨rfl, hk7⟩
  have hz7 := hk7.1
  simp only [St.new, St.put] at hz7
  have o9 := hk7.2 S5.size (by simp [St.new, St.put])
  simp only [go_sem, ↓reduceIte, reduceCtorEq, Nat.reduceEqDiff, Nat.reduceAdd, Nat.reduceSub, Nat.reduceMul, Nat.reduceLeDiff, Nat.reduceLT, loadA, rdCells, storeA, setAt, binA] at o9
  rw [← hx]
  cases hz : ((chk false 1 4096 x).1 != 0)
  case true =>
    simp only [hz, go_sem, ↓reduceIte, reduceCtorEq, Nat.reduceEqDiff, Nat.reduceAdd, Nat.reduceSub, Nat.reduceMul, Nat.reduceLeDiff, Nat.reduceLT, loadA, rdCells, storeA, setAt, binA]
    exact ⟨by simp, _, rfl, rfl⟩
  have hc0 : (chk false 1 4096 x).1 = 0 := by simpa using hz
  have htx := chk_tsz hc0
  have hfr := fun S => free_law hX (tsz x) x (Nat.le_refl _) (by omega) _ S (by rw [hx]; exact hwx)
  have hfr2 : ∀ S, _ := hfr
  simp only [hx, tyw, kof_mk, nof_mk, vof_mk] at hfr
  simp only [hz, o9, Nat.le_add_left, go_sem, ↓reduceIte, reduceCtorEq, Nat.reduceEqDiff, Nat.reduceAdd, Nat.reduceSub, Nat.reduceMul, Nat.reduceLeDiff, Nat.reduceLT, loadA, rdCells, storeA, setAt, binA]
  refine WO_callx _ rfl ((hfr _).mono ?_)
  rintro fv S7 ⟨hfv, hk8⟩
  rw [← hx] at hfv
  simp only [go_sem, ↓reduceIte, reduceCtorEq, Nat.reduceEqDiff, Nat.reduceAdd, Nat.reduceSub, Nat.reduceMul, Nat.reduceLeDiff, Nat.reduceLT, loadA, rdCells, storeA, setAt, binA]
  refine WO_callx _ rfl ((contains_fi hX hfv (by have := fre_len x; omega) 21 [] (fun y => decide (y > 11)) S7 (fun y S8 _ _ => clo21_law hX y S8)).mono ?_)
  rintro w S8 ⟨rfl, hk9⟩
  cases hf : (fre x).any (fun y => decide (y > 11))
  case true =>
    simp only [hf, go_sem, ↓reduceIte, reduceCtorEq, Nat.reduceEqDiff, Nat.reduceAdd, Nat.reduceSub, Nat.reduceMul, Nat.reduceLeDiff, Nat.reduceLT, loadA, rdCells, storeA, setAt, binA]
    exact ⟨by simp, _, rfl, rfl⟩
  have hf2 : (fre x).any (fun y => decide (y ≥ 12)) = false := by
    rw [← hf]; congr 1
  have hk79 := hk8.trans hk9
  have o10 := hk79.obj (by omega : S5.size < S6.size) o9
  have hu1 := fun S => unify_c hX hsv hi12 ⟨#[76]⟩ [a] (by simp) .nils _ (Or.inl ⟨rfl, rfl⟩) hwx (by rw [← hx]; exact hc0) (by rw [← hx]; exact hf2) S
  have hkx : decide (kof x ≥ 4) = false := by rw [hx]; rfl
  have hu2 := fun S => unify_s hX hsv x _ _ (by rw [hx]; exact hwx) (by rw [hx]; exact hwx) (by rw [hkx]; exact hc0) hf2 S
  simp only [hx, tyw, kof_mk, nof_mk, vof_mk] at hu2
  simp only [hf, o10, Nat.le_add_left, go_sem, ↓reduceIte, reduceCtorEq, Nat.reduceEqDiff, Nat.reduceAdd, Nat.reduceSub, Nat.reduceMul, Nat.reduceLeDiff, Nat.reduceLT, loadA, rdCells, storeA, setAt, binA]
  refine WO_callx _ rfl ((hu1 _).mono ?_)
  rintro w S9 ⟨rv2, rfl, -, hk10⟩
  have o11 := hk10.obj (by have := hk79.1; omega : S5.size < S8.size) o10
  simp only [o11, Nat.le_add_left, go_sem, ↓reduceIte, reduceCtorEq, Nat.reduceEqDiff, Nat.reduceAdd, Nat.reduceSub, Nat.reduceMul, Nat.reduceLeDiff, Nat.reduceLT, loadA, rdCells, storeA, setAt, binA]
  refine WO_callx _ rfl ((hu2 _).mono ?_)
  rintro w S10 ⟨rv3, rfl, hq, hk11⟩
  obtain ⟨q, rfl, -, -⟩ := hq rfl
  have hl := hsv.len
  rw [vars_len] at hl ⊢
  replace hl : lenA sv = some (.int .i64 12) := hl
  have hl2 : lenA (.msl q 0 12 4) = some (.int .i64 12) := rfl
  have d9 : ((8 : Int) == 8) = true := rfl
  have d10 : ((0 : Int) == 0) = true := rfl
  have d11 : ((12 : Int) == 12) = true := rfl
  simp only [hl, hl2, d9, d10, d11, go_sem, ↓reduceIte, reduceCtorEq, Nat.reduceEqDiff, Nat.reduceAdd, Nat.reduceSub, Nat.reduceMul, Nat.reduceLeDiff, Nat.reduceLT, loadA, rdCells, storeA, setAt, binA]
  exact ⟨by simp, _, rfl, rfl⟩
end Go.Am.U1
