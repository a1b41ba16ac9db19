/- A part of the proof of Go. Conditions: none. -/
import Derived.Test.YtfleakoephmgaaaDoorUnB
set_option linter.unusedSimpArgs false
set_option linter.unusedVariables false
namespace Go.Am.U1
open Go.Am.Un
set_option maxRecDepth 100000
set_option linter.unusedSimpArgs false
attribute [local go_sem] wseq COp.isStore wreg wdreg wret wskip wexit wblock wcnd cnd_t cnd_f then_n then_x then_r catch_n rnd_n rnd_x rnd_r catch_x catch_r wo_nil wo_grd grdO_t grdO_f wo_ops stpO wr_nil wr_alloc wr_guards grdR_t grdR_f wr_ops stpR evAllocs evOp env0_app eput_some eput_none eset_app Opd.ev wantedA faddrA snew_obj snew_size sput_obj sput_size av_cells av_one av_strip av_still unA eqbA fillA fldA lensA mmA mm2 mmFold List.getD_cons_zero List.getD_cons_succ List.getD_nil List.length_cons List.length_nil List.drop_zero List.drop_succ_cons List.take_succ_cons List.take_zero List.map_cons List.map_nil List.set_cons_zero List.set_cons_succ List.all_cons List.all_nil List.getElem?_cons_zero List.getElem?_cons_succ List.nil_append List.cons_append Nat.zero_add Nat.add_zero beq_self_eq_true bt bf Bool.not_true Bool.not_false Bool.and_true Bool.true_and Bool.and_false Bool.false_and and_self and_true true_and n0 n1 n2 n3 n4 m0 m1 m2 m3 c1 retA resAs resA undefA Option.map_some Option.map_none
variable {X : Ext}

/-- What a check says and leaves. -/
def ChkQ (b : Nat) (R : Int × Int) (s : St) (v : AV) (s' : St) : Prop :=
  v = .int .i64 R.1 ∧ s'.obj b = some (.cells [.int .i64 R.2]) ∧ KeepBut b s s'

def sizesA : AV := .eptr [.int .i64 0, .int .i64 (-1), .int .i64 3, .int .i64 1, .int .i64 0, .int .i64 2]
set_option maxHeartbeats 8000000 in
/-- The check of the arguments. -/
theorem check_loop (hX : NoX X) {b : Nat} {k v depth : Int} {n : ByteArray} {l : List Tm} {w : AV} (hiw : ISl tyc w l) (hd0 : 0 ≤ depth) (hd : depth ≤ 400)
    (ih : ∀ t, tsz t < 1 + tszs l → ∀ (left : Int) (row : Bool) (s : St), 0 ≤ left → left ≤ 4096 → s.obj b = some (.cells [.int .i64 left]) → b < s.size →
      WC T X 45 [.ptr b 0, .agg (tyc t), .bool row, .int .i64 (depth + 1)] s (ChkQ b (chk row (depth + 1) left t) s))
    :
    ∀ (m i : Nat) (e : Env) (S : St) (left : Int) (pt : Nat), i + m = l.length → e 0 = .ptr b 0 → e 3 = .int .i64 depth → e 5 = .ptr pt 0 → e 8 = .int .i64 0 → e 102 = w → e 103 = .int .i64 l.length → e 104 = .int .i64 i →
      S.obj pt = some (.cells [.int .i64 k, .str n, .int .i64 v, w]) → pt < S.size → pt ≠ b → S.obj b = some (.cells [.int .i64 left]) → b < S.size → 0 ≤ left → (i : Int) + left ≤ 4096 →
      W T X (.loop cf45_l0) e S (fun x e' S' => ((x = .exit 1 ∧ (chks k i (depth + 1) left (l.drop i)).1 = 0) ∨ (x = .ret ∧ e' 8 = .int .i64 (chks k i (depth + 1) left (l.drop i)).1 ∧ (chks k i (depth + 1) left (l.drop i)).1 ≠ 0)) ∧ S'.obj b = some (.cells [.int .i64 (chks k i (depth + 1) left (l.drop i)).2]) ∧ KeepBut b S S') := by
  intro m
  induction m with
  | zero =>
    intro i e S left pt him e0 e3 e5 e8 e102 e103 e104 hop hpt hpb hob hb h0 h1
    have hdi : decide ((i : Int) < (l.length : Int)) = false := by simp; omega
    refine W_loop ?_
    simp only [cf45_l0, e0, e3, e5, e8, e102, e103, e104, hdi, go_sem, ↓reduceIte, reduceCtorEq, Nat.reduceEqDiff, Nat.reduceAdd, Nat.reduceSub, Nat.reduceMul, Nat.reduceLeDiff, Nat.reduceLT, loadA, rdCells, storeA, setAt, binA]
    rw [List.drop_eq_nil_of_le (by omega), chks]
    exact ⟨Or.inl rfl, hob, ⟨Nat.le_refl _, fun _ _ _ => rfl⟩⟩
  | succ m ihm =>
    intro i e S left pt him e0 e3 e5 e8 e102 e103 e104 hop hpt hpb hob hb h0 h1
    have hi : i < l.length := by omega
    have hdi : decide ((i : Int) < (l.length : Int)) = true := by simp; omega
    obtain ⟨a, ha⟩ : ∃ a, l[i]? = some a := ⟨_, List.getElem?_eq_getElem hi⟩
    have hia : iaddrA 4 (w) (.int .i64 i) = some (.eptr (tyc a ++ (l.drop (i + 1)).flatMap tyc)) := by
      exact hiw.at tyc_len ha
    have hwi := wrapn (n := i) (by omega)
    have hwd : IntKind.i64.wrap (depth + 1) = depth + 1 := by rw [IntKind.wrap_i64]; omega
    have hiha := ih a (by have := tsz_at ha; omega) left
    have hcs0 : chks k i (depth + 1) left (l.drop i) = if (chk (rowed k i a) (depth + 1) left a).1 ≠ 0 then chk (rowed k i a) (depth + 1) left a else chks k (i + 1) (depth + 1) (chk (rowed k i a) (depth + 1) left a).2 (l.drop (i + 1)) := by rw [drop_at ha, chks]
    have hle := chk_le (rowed k i a) (depth + 1) left a
    have hok := chk_ok (rowed k i a) (depth + 1) left a
    rw [hcs0]
    obtain ⟨ka, na, va, la⟩ := a
    simp only [tyc] at hia hiha
    refine W_loop ?_
    generalize hL : CC.loop cf45_l0 = L
    have e5b : (pt = S.size) = False := eq_false (by omega)
    have e5c : (S.size = pt) = False := eq_false (by omega)
    have eb1 : (b = S.size) = False := eq_false (by omega)
    have eb2 : (S.size = b) = False := eq_false (by omega)
    have hS1 : ∀ s1, s1 = (S.new (.cells [.int .i64 0, .str ⟨#[]⟩, .int .i64 0, .nils])).put S.size (some (.cells [.int .i64 ka, .str na, .int .i64 va, .sl (tycs la) la.length false none])) → s1.obj b = some (.cells [.int .i64 left]) ∧ b < s1.size ∧ s1.obj pt = some (.cells [.int .i64 k, .str n, .int .i64 v, w]) ∧ pt < s1.size ∧ Keep S s1 := by
      rintro s1 rfl
      refine ⟨?_, ?_, ?_, ?_, ((Keep.refl S).new' _).put' (Nat.le_refl _) _⟩
      · rw [put_ne (by omega), new_ne (by omega)]; exact hob
      · simp only [St.put, St.new]; omega
      · rw [put_ne (by omega), new_ne (by omega)]; exact hop
      · simp only [St.put, St.new]; omega
    simp only [cf45_l0, e0, e3, e5, e8, e102, e103, e104, hdi, hia, hop, e5b, e5c, eb1, eb2, Nat.le_add_left, go_sem, ↓reduceIte, reduceCtorEq, Nat.reduceEqDiff, Nat.reduceAdd, Nat.reduceSub, Nat.reduceMul, Nat.reduceLeDiff, Nat.reduceLT, loadA, rdCells, storeA, setAt, binA]
    have hcs : ((k == 2) = true ∧ (k == 3) = false ∧ (k == 5) = false ∧ (k == 1) = false) ∨ ((k == 2) = false ∧ (k == 3) = true ∧ (k == 5) = false ∧ (k == 1) = false) ∨ ((k == 2) = false ∧ (k == 3) = false ∧ (k == 5) = true ∧ (k == 1) = false) ∨ ((k == 2) = false ∧ (k == 3) = false ∧ (k == 5) = false ∧ (k == 1) = true) ∨ ((k == 2) = false ∧ (k == 3) = false ∧ (k == 5) = false ∧ (k == 1) = false) := by
      simp only [beq_iff_eq, beq_eq_false_iff_ne]; omega
    rcases hcs with ⟨d1, d3, d4, d5⟩ | ⟨d1, d3, d4, d5⟩ | ⟨d1, d3, d4, d5⟩ | ⟨d1, d3, d4, d5⟩ | ⟨d1, d3, d4, d5⟩ <;> cases d2 : ((i : Int) == 1) <;>
      simp only [d1, d2, d3, d4, d5, e0, e3, e5, e8, e102, e103, e104, hop, e5b, e5c, eb1, eb2, hwd, Nat.le_add_left, go_sem, ↓reduceIte, reduceCtorEq, Nat.reduceEqDiff, Nat.reduceAdd, Nat.reduceSub, Nat.reduceMul, Nat.reduceLeDiff, Nat.reduceLT, loadA, rdCells, storeA, setAt, binA]
    all_goals
      generalize hs1 : (S.new (.cells [.int .i64 0, .str ⟨#[]⟩, .int .i64 0, .nils])).put S.size (some (.cells [.int .i64 ka, .str na, .int .i64 va, .sl (tycs la) la.length false none])) = s1
      obtain ⟨q1, q2, q3, q4, q5⟩ := hS1 s1 hs1.symm
      have hrw : ∀ t, rowed k i t = bif k == 1 then decide (kof t ≥ 4) else (k == 2 && (i : Int) == 1) || (k == 3) || (k == 5 && (i : Int) == 1) := fun t => rfl
      simp only [d1, d2, d3, d4, d5, kof, Bool.or_false, Bool.false_or, Bool.or_true, Bool.true_or, cond_true, cond_false, go_sem, ↓reduceIte, reduceCtorEq, Nat.reduceEqDiff, Nat.reduceAdd, Nat.reduceSub, Nat.reduceMul, Nat.reduceLeDiff, Nat.reduceLT, loadA, rdCells, storeA, setAt, binA] at hrw
      generalize hR : chk (rowed k i (Tm.mk ka na va la)) (depth + 1) left (Tm.mk ka na va la) = R at hle hok ⊢
      rw [hrw] at hR
      try simp only [kof] at hR
      refine WO_callx [.ptr b 0, .agg [.int .i64 ka, .str na, .int .i64 va, .sl (tycs la) la.length false none], .bool _, .int .i64 (depth + 1)] (by simp only [go_sem, ↓reduceIte, reduceCtorEq, Nat.reduceEqDiff, Nat.reduceAdd, Nat.reduceSub, Nat.reduceMul, Nat.reduceLeDiff, Nat.reduceLT, loadA, rdCells, storeA, setAt, binA]; rfl) ((hiha _ s1 h0 (by omega) q1 q2).mono ?_)
      rintro w2 s2 ⟨rfl, hob2, hk2⟩
      first
        | rw [hR] at hob2 ⊢
        | (have hR2 : chk (decide (ka ≥ 4)) (depth + 1) left (Tm.mk ka na va la) = R := hR; rw [hR2] at hob2 ⊢)
      have hkb : KeepBut b S s2 := q5.but.trans hk2
      simp only [e0, e3, e5, e8, e102, e103, e104, go_sem, ↓reduceIte, reduceCtorEq, Nat.reduceEqDiff, Nat.reduceAdd, Nat.reduceSub, Nat.reduceMul, Nat.reduceLeDiff, Nat.reduceLT, loadA, rdCells, storeA, setAt, binA]
      obtain ⟨R1, R2⟩ := R
      simp only [] at hle hok hob2 ⊢
      cases hz : (R1 != 0)
      · have h00 : R1 = 0 := by simpa using hz
        have g1 := hok h00
        simp only [e0, e3, e5, e8, e102, e103, e104, hwi, go_sem, ↓reduceIte, reduceCtorEq, Nat.reduceEqDiff, Nat.reduceAdd, Nat.reduceSub, Nat.reduceMul, Nat.reduceLeDiff, Nat.reduceLT, loadA, rdCells, storeA, setAt, binA]
        rw [if_neg (by simpa using h00)]
        subst hL
        refine (ihm (i + 1) _ s2 R2 pt (by omega) ?_ ?_ ?_ ?_ ?_ ?_ ?_ ?_ ?_ hpb hob2 ?_ g1 (by simp only [Int.natCast_add]; omega)).mono ?_
        · simp only [e0, go_sem, ↓reduceIte, reduceCtorEq, Nat.reduceEqDiff, Nat.reduceAdd, Nat.reduceSub, Nat.reduceMul, Nat.reduceLeDiff, Nat.reduceLT, loadA, rdCells, storeA, setAt, binA]
        · simp only [e3, go_sem, ↓reduceIte, reduceCtorEq, Nat.reduceEqDiff, Nat.reduceAdd, Nat.reduceSub, Nat.reduceMul, Nat.reduceLeDiff, Nat.reduceLT, loadA, rdCells, storeA, setAt, binA]
        · simp only [e5, go_sem, ↓reduceIte, reduceCtorEq, Nat.reduceEqDiff, Nat.reduceAdd, Nat.reduceSub, Nat.reduceMul, Nat.reduceLeDiff, Nat.reduceLT, loadA, rdCells, storeA, setAt, binA]
        · simp only [e8, go_sem, ↓reduceIte, reduceCtorEq, Nat.reduceEqDiff, Nat.reduceAdd, Nat.reduceSub, Nat.reduceMul, Nat.reduceLeDiff, Nat.reduceLT, loadA, rdCells, storeA, setAt, binA]
        · simp only [e102, go_sem, ↓reduceIte, reduceCtorEq, Nat.reduceEqDiff, Nat.reduceAdd, Nat.reduceSub, Nat.reduceMul, Nat.reduceLeDiff, Nat.reduceLT, loadA, rdCells, storeA, setAt, binA]
        · simp only [e103, go_sem, ↓reduceIte, reduceCtorEq, Nat.reduceEqDiff, Nat.reduceAdd, Nat.reduceSub, Nat.reduceMul, Nat.reduceLeDiff, Nat.reduceLT, loadA, rdCells, storeA, setAt, binA]
        · simp only [go_sem, ↓reduceIte, reduceCtorEq, Nat.reduceEqDiff, Nat.reduceAdd, Nat.reduceSub, Nat.reduceMul, Nat.reduceLeDiff, Nat.reduceLT, loadA, rdCells, storeA, setAt, binA]
        · rw [hk2.2 pt q4 hpb]; exact q3
        · exact Nat.lt_of_lt_of_le q4 hk2.1
        · exact Nat.lt_of_lt_of_le q2 hk2.1
        · rintro x e' S' ⟨hx, y3, y4⟩
          exact ⟨hx, y3, hkb.trans y4⟩
      · simp only [e0, e3, e5, e8, e102, e103, e104, go_sem, ↓reduceIte, reduceCtorEq, Nat.reduceEqDiff, Nat.reduceAdd, Nat.reduceSub, Nat.reduceMul, Nat.reduceLeDiff, Nat.reduceLT, loadA, rdCells, storeA, setAt, binA]
        rw [if_pos (by simpa using hz)]
        exact ⟨Or.inr ⟨rfl, by simpa using hz⟩, hob2, hkb⟩
end Go.Am.U1
