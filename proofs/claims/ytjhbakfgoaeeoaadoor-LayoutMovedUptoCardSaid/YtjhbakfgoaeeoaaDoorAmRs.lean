/- strings.Repeat and strings.ReplaceAll, as the abstract machine has them. Conditions: none. -/
import Derived.Test.YtjhbakfgoaeeoaaDoorAmRq
import Derived.Test.YtjhbakfgoaeeoaaDoorAmYa
import Derived.Test.YtjhbakfgoaeeoaaDoorAmTz
import Derived.Lib.Repeat
set_option linter.unusedSimpArgs false
set_option linter.unusedVariables false
namespace Go.Am
open Go.RowKit Go.Proofs

def repX : List AV → St → Option (AV × St)
  | [.str s, .int .i64 c], st => if 0 ≤ c ∧ c ≤ 9223372036854775807 ∧ s.size * c.toNat ≤ 140737488355328 then some (.str (ofB (Lib.repeatL (bts s) c.toNat)), st) else none
  | _, _ => none
def rplX : List AV → St → Option (AV × St)
  | [.str s, .str old, .str new], st => if s.size < 4294967281 ∧ 1 ≤ old.size ∧ s.size + Lib.countB s old * new.size ≤ 140737488355328 then some (.str (ofB (Lib.replaceAll (bts s) (bts old) (bts new))), st) else none
  | _, _ => none

section
variable {G : Glob} {P : Program} {f : Nat}
theorem argv3 {ρ : Rho} {w : World} {n : Nat} {a b c : AV} {argv : List Value} (h : Vs ρ w n [a, b, c] argv) : ∃ x y z, argv = [x, y, z] ∧ V ρ w n a x ∧ V ρ w n b y ∧ V ρ w n c z := by
  cases h with
  | cons _ x _ vs h hs => cases hs with | cons _ y _ vs h2 hs => cases hs with | cons _ z _ vs h3 hs => cases hs; exact ⟨x, y, z, rfl, h, h2, h3⟩

theorem rep_callC (he : ∀ args w, (callFunc f args).run P w = .ok (.enter f args) w)
    (hc : ∀ (s : ByteArray) (c : Nat) (w : World), c ≤ 9223372036854775807 → s.size * c ≤ 140737488355328 → Calls P f #[.string s, .int .i64 c] w fun e w' => e = .returned (.string ⟨(Lib.repeatL s.data.toList c).toArray⟩) ∧ Below w.heap.size w w') :
    ∀ args s v s', repX args s = some (v, s') → CallC G P f args s v s' := by
  intro args s v s' h
  unfold repX at h
  split at h
  · split at h
    · rename_i _ _ t c hcd
      obtain ⟨h1, h2, h3⟩ := hcd
      cases h
      obtain ⟨n, rfl⟩ : ∃ n : Nat, c = n := ⟨c.toNat, (Int.toNat_of_nonneg h1).symm⟩
      rw [Int.toNat_natCast] at h3 ⊢
      refine callC_of fun ρ w argv hS hG hV => ⟨he _, ?_⟩
      obtain ⟨x, y, rfl, hx, hy⟩ := argv2 hV
      cases hx; cases hy
      refine (hc t n w (by omega) h3).mono ?_
      rintro e w' ⟨rfl, hb⟩
      exact ⟨_, rfl, hb, fun _ => .str _⟩
    · cases h
  · cases h

theorem rpl_callC {g : Nat} {m : Int} (hg : G g = some [.int .i64 m]) (he : ∀ args w, (callFunc f args).run P w = .ok (.enter f args) w)
    (hc : ∀ (s old new : ByteArray) (m : Int) (w : World), s.size < 4294967281 → w.cell? ⟨g, 0, none⟩ = some (.int .i64 m) → 1 ≤ old.size → s.size + Lib.countB s old * new.size ≤ 140737488355328 →
      Calls P f #[.string s, .string old, .string new] w fun e w' => e = .returned (.string ⟨(Lib.replaceAll s.data.toList old.data.toList new.data.toList).toArray⟩) ∧ Below w.heap.size w w') :
    ∀ args s v s', rplX args s = some (v, s') → CallC G P f args s v s' := by
  intro args s v s' h
  unfold rplX at h
  split at h
  · split at h
    · rename_i _ _ t old new hcd
      obtain ⟨h1, h2, h3⟩ := hcd
      cases h
      refine callC_of fun ρ w argv hS hG hV => ⟨he _, ?_⟩
      obtain ⟨x, y, z, rfl, hx, hy, hz⟩ := argv3 hV
      cases hx; cases hy; cases hz
      have hgl := hG g _ hg
      have hcell : w.cell? ⟨g, 0, none⟩ = some (.int .i64 m) := by
        cases hgl with
        | eptr cs vs b o hvs ha =>
          cases hvs with
          | cons _ v _ vs hv hs => cases hv; exact (ha 0 _ rfl).2
      refine (hc t old new m w h1 hcell h2 h3).mono ?_
      rintro e w' ⟨rfl, hb⟩
      exact ⟨_, rfl, hb, fun _ => .str _⟩
    · cases h
  · cases h
end

/-! ### What they give here -/
theorem repeat_sp : ∀ k : Nat, Lib.repeatL [32] k = Y1.spL k
  | 0 => rfl
  | k + 1 => by rw [Lib.repeatL, repeat_sp k]; rfl
theorem repl_ne {b : UInt8} (hb : b ≠ 10) (new : List UInt8) (k : Nat) (l : List UInt8) : Lib.replaceK [10] new k (b :: l) = b :: Lib.replaceK [10] new k l := by
  cases k with
  | zero => rfl
  | succ k =>
    have hp : ([10] : List UInt8).isPrefixOf (b :: l) = false := by simp [List.isPrefixOf]; exact fun h => hb h.symm
    have hix : Lib.index (b :: l) [10] = if Lib.index l [10] == -1 then -1 else Lib.index l [10] + 1 := by rw [Lib.index, hp]; simp
    have hge := Lib.index_ge l [10]
    rw [Lib.replaceK, Lib.replaceK, hix]
    by_cases hm : Lib.index l [10] = -1
    · simp [hm]
    · have h1 : (Lib.index l [10] == -1) = false := by simpa using hm
      have h2 : (Lib.index l [10] + 1 == -1) = false := by simp; omega
      have h3 : (Lib.index l [10] + 1).toNat = (Lib.index l [10]).toNat + 1 := by omega
      simp only [h1, Bool.false_eq_true, if_false, h2, h3, List.take_succ_cons, List.cons_append, List.length_singleton]
      rw [show (Lib.index l [10]).toNat + 1 + 1 = ((Lib.index l [10]).toNat + 1) + 1 from rfl, List.drop_succ_cons]
theorem repl_ind (k : Nat) : ∀ l : List UInt8, Lib.replaceK [10] (10 :: Y1.spL k) (l.count 10) l = Y1.ind k l
  | [] => rfl
  | b :: l => by
    by_cases hb : b = 10
    · subst hb
      have hix : Lib.index (10 :: l) [10] = ((0 : Nat) : Int) := by rw [Lib.index]; simp [List.isPrefixOf]
      rw [List.count_cons_self, Lib.replaceK_hit _ _ _ _ 0 hix, Y1.ind, if_pos rfl]
      simp only [List.take_zero, List.nil_append, List.length_singleton, Nat.zero_add, List.drop_succ_cons, List.drop_zero, List.cons_append]
      rw [repl_ind k l]
    · rw [List.count_cons_of_ne (by simpa using hb), repl_ne hb, repl_ind k l, Y1.ind, if_neg hb]
theorem ind_zero : ∀ l : List UInt8, Y1.ind 0 l = l
  | [] => rfl
  | b :: l => by
    rw [Y1.ind]
    split
    · rename_i h; subst h; rw [ind_zero l]; rfl
    · rw [ind_zero l]
theorem replAll_ind (k : Nat) (l : List UInt8) : Lib.replaceAll l [10] (10 :: Y1.spL k) = Y1.ind k l := by
  unfold Lib.replaceAll Lib.replace
  have hn : Lib.replaceNum l [10] (-1) = l.count 10 := by rw [Lib.replaceNum, if_pos (Or.inl (by decide)), Lib.count_one]
  split
  · rename_i h
    have : Y1.spL k = [] := by have := beq_iff_eq.1 h; simp only [List.cons.injEq, true_and] at this; exact this.symm
    have hk : k = 0 := by
      cases k with
      | zero => rfl
      | succ k => simp [Y1.spL, List.replicate_succ] at this
    rw [hk, ind_zero]
  · rw [hn, repl_ind]
end Go.Am

/- LayoutMoved's law. Conditions: none. -/
namespace Go.Am.Y2
open Go.Am.Y1 (LaidQ LaidOk laid_law TokL tok_addr Rd5 eq32_law markT shT spL ind subL chk_of ok_of)
open Go.Am.L1 (Tk tkc tkP scanT big bts_len)
set_option maxRecDepth 100000
set_option linter.unusedSimpArgs false
attribute [local go_sem] wseq wreg wdreg wret wskip wexit wblock wcnd cnd_t cnd_f then_n then_x then_r catch_n rnd_n rnd_x rnd_r catch_x catch_r wo_nil wo_grd grdO_t grdO_f wo_ops stpO wr_nil wr_alloc wr_guards grdR_t grdR_f wr_ops stpR evAllocs evOp env0_app eput_some eput_none eset_app Opd.ev wantedA faddrA storeA setAt snew_obj snew_size sput_obj sput_size av_cells av_one av_strip av_still unA eqbA fillA fldA lensA mmA mm2 mmFold List.getD_cons_zero List.getD_cons_succ List.getD_nil List.length_cons List.length_nil List.drop_zero List.drop_succ_cons List.take_succ_cons List.take_zero List.map_cons List.map_nil List.set_cons_zero List.set_cons_succ List.all_cons List.all_nil List.getElem?_cons_zero List.getElem?_cons_succ List.nil_append List.cons_append Nat.zero_add Nat.add_zero beq_self_eq_true bt bf Bool.not_true Bool.not_false Bool.and_true Bool.true_and Bool.and_false Bool.false_and and_self and_true true_and n0 n1 n2 n3 n4 m0 m1 m2 m3 c1 retA resAs resA undefA Option.map_some Option.map_none

/-- Both tables. -/
def TT (f : Nat) : Option CF := match T f with | some cf => some cf | none => Y1.T f
def zx : Ext := fun f => if f = 37 then some repX else if f = 38 then some rplX else Y1.yx f
theorem hTT (m : Int) (f : Nat) (cf : CF) (h : TT f = some cf) : ∃ fn mu fz, Go.Proofs.Tryd.prog.funcs[f]? = some fn ∧ cFunc (Y1.Gm m) Go.Proofs.Tryd.prog mu fn fz = some cf := by
  unfold TT at h
  cases h0 : T f with
  | some c => rw [h0] at h; cases h; exact hT m f _ h0
  | none => rw [h0] at h; exact Y1.hT m f cf h
theorem good2 (m : Int) {X : Ext} (hX : ∀ f h, X f = some h → ∀ args s v s', h args s = some (v, s') → CallC (Y1.Gm m) Go.Proofs.Tryd.prog f args s v s') : Good (Y1.Gm m) Go.Proofs.Tryd.prog TT X := ⟨(good m (X := X) hX).1, hTT m, hX⟩
theorem subY : Sub Y1.T Y1.yx TT zx := by
  refine ⟨fun f h hx => ⟨h, ?_, fun _ _ _ hh => hh⟩, fun f cf hx ht => ?_⟩
  · unfold zx
    rw [if_neg (by rintro rfl; simp [Y1.yx, L1.xs] at hx), if_neg (by rintro rfl; simp [Y1.yx, L1.xs] at hx)]
    exact hx
  · have h11 : f ≠ 11 := by rintro rfl; cases ht
    have h14 : f ≠ 14 := by rintro rfl; cases ht
    have h37 : f ≠ 37 := by rintro rfl; cases ht
    have h38 : f ≠ 38 := by rintro rfl; cases ht
    refine ⟨by unfold zx; rw [if_neg h37, if_neg h38]; exact hx, ?_⟩
    have h0 : T f = none := by
      unfold T
      split
      · exact absurd rfl h11
      · exact absurd rfl h14
      · rfl
    unfold TT
    rw [h0]; exact ht
theorem TT11 : TT 11 = some cf11 := rfl
theorem TT14 : TT 14 = some cf14 := rfl

theorem within_law (n : Int) (m : Nat) (hb : m < big) (s : St) : WC TT zx 14 [.int .i64 n, .int .i64 0, .int .i64 (m : Int)] s (fun v s' => (∃ j : Nat, v = .int .i64 j ∧ j ≤ m) ∧ s' = s) := by
  refine WC_fn cf14 rfl TT14 (by simp [cf14]) ?_
  simp only [big] at hb
  have w1 : IntKind.i64.wrap ((m : Int) - 0) = (m : Int) := by rw [IntKind.wrap_i64]; omega
  have w2 : IntKind.i64.wrap ((m : Int) + 1) = ((m + 1 : Nat) : Int) := by rw [IntKind.wrap_i64]; omega
  have hne : ((m + 1 : Nat) : Int) ≠ 0 := by omega
  generalize hM : m + 1 = M at *
  have b1 : -(M : Int) < n.tmod M ∧ n.tmod M < M := ⟨by have h1 := Int.natAbs_tmod n M; have h2 := Nat.mod_lt n.natAbs (show 0 < (M : Int).natAbs by omega); omega, Int.tmod_lt_of_pos n (by omega)⟩
  have w3 : IntKind.i64.wrap (n.tmod M + (M : Int)) = n.tmod M + M := by rw [IntKind.wrap_i64]; omega
  have b2 : 0 ≤ (n.tmod M + (M : Int)).tmod M ∧ (n.tmod M + (M : Int)).tmod M < M := ⟨Int.tmod_nonneg _ (by omega), Int.tmod_lt_of_pos _ (by omega)⟩
  have w4 : IntKind.i64.wrap (0 + (n.tmod M + (M : Int)).tmod M) = (n.tmod M + (M : Int)).tmod M := by rw [IntKind.wrap_i64]; omega
  simp only [cf14, w1, w2, w3, w4, hne, ne_eq, not_false_eq_true, go_sem, ↓reduceIte, reduceCtorEq, Nat.reduceEqDiff, Nat.reduceAdd, Nat.reduceSub, Nat.reduceMul, Nat.reduceLeDiff, Nat.reduceLT, loadA, rdCells, binA]
  exact ⟨by simp, _, rfl, ((n.tmod M + (M : Int)).tmod M).toNat, by rw [Int.toNat_of_nonneg b2.1], by omega⟩

def ofS : ByteArray := ⟨#[111, 102, 10, 32, 97, 10, 32, 98]⟩
theorem of_ok : LaidOk ofS := ⟨ok_of (by kernel_rfl), List.eq_nil_of_length_eq_zero (by kernel_rfl), chk_of (by kernel_rfl)⟩
theorem of_len : (markT (scanT ofS)).length = 7 := by kernel_rfl

theorem ind_len (k : Nat) (hk : k ≤ 6) : ∀ l : List UInt8, (ind k l).length ≤ 7 * l.length
  | [] => by simp [ind]
  | b :: l => by
    have := ind_len k hk l
    rw [ind]
    split
    · simp only [List.length_cons, List.length_append, spL, List.length_replicate]; omega
    · simp only [List.length_cons]; omega
def un (k : Nat) (t : Tk) : Tk := { t with col := t.col - k }
theorem un_sh (k : Nat) (t : Tk) : un k (shT k t) = t := by simp [un, shT]

/-! ### Columns are small -/
theorem lex_col : ∀ (n : Nat) (r : List UInt8), r.length ≤ n → ∀ (l c : Nat), 1 ≤ c → (∀ x, x ∈ (L1.lexA r l c).1 → x.col ≤ c + r.length) ∧ (L1.lexA r l c).2.2.2 ≤ c + r.length
  | _, [], _, l, c, _ => by simp [L1.lexA, L1.lexL]
  | 0, _ :: _, h, _, _, _ => by simp at h
  | n + 1, b :: r, h, l, c, hc => by
    have hp := L1.item_pos b r
    have hle := L1.item_le b r
    obtain ⟨h1, h2⟩ := L1.col_le (L1.item b (b :: r)) c hp hc
    simp only [List.length_cons] at h hle ⊢
    have hdl : ((b :: r).drop (L1.item b (b :: r)).len).length = r.length + 1 - (L1.item b (b :: r)).len := by rw [List.length_drop, List.length_cons]
    obtain ⟨h3, h4⟩ := lex_col n ((b :: r).drop (L1.item b (b :: r)).len) (by omega) ((L1.item b (b :: r)).line l) ((L1.item b (b :: r)).col c) h2
    rw [L1.lexA_cons]
    refine ⟨fun x hx => ?_, by simp only; omega⟩
    rcases List.mem_append.1 hx with hx | hx
    · have : x.col = c := by
        revert hx
        cases L1.item b (b :: r) <;> simp [L1.It.toks]
        rintro rfl; rfl
      omega
    · have := h3 x hx; omega
theorem scanT_col (s : ByteArray) : ∀ x, x ∈ scanT s → x.col ≤ 1 + s.size := by
  obtain ⟨h1, h2⟩ := lex_col _ (bts s) (Nat.le_refl _) 1 1 (Nat.le_refl _)
  rw [bts_len] at h1 h2
  intro x hx
  rw [scanT, L1.scan_eq] at hx
  rcases List.mem_append.1 hx with hx | hx
  · exact h1 x hx
  · rw [List.mem_singleton.1 hx]; exact h2
section
variable {b : Nat}
def LeC (b : Nat) (out : List Tk) : Prop := ∀ t, t ∈ out → t.col ≤ b
theorem LeC.app {x y : List Tk} (h1 : LeC b x) (h2 : LeC b y) : LeC b (x ++ y) := fun t ht => (List.mem_append.1 ht).elim (h1 t) (h2 t)
theorem LeC.one {t : Tk} (h : t.col ≤ b) : LeC b [t] := fun u hu => by rw [List.mem_singleton.1 hu]; exact h
theorem LeC.cl {t : Tk} (h : t.col ≤ b) (n : Nat) : LeC b (Y1.closes n t) := fun u hu => by rw [List.eq_of_mem_replicate hu]; exact h
theorem LeC.nil : LeC b [] := fun u hu => by cases hu
theorem openM_c {prev : Option Tk} {t : Tk} {r : List Y1.Cx} {out : List Tk} (h : LeC b out) (ht : t.col ≤ b) : LeC b (Y1.openM prev t r out).2.1 := by
  unfold Y1.openM
  split
  · exact h
  · split
    · exact h
    split
    · exact h
    split
    · exact h.app (.one (t := Y1.mkT 6 t) ht)
    · exact (h.app (.one (t := Y1.mkT 6 t) ht)).app (.one (t := Y1.mkT 7 t) ht)
theorem tailM_c {t : Tk} {f : Bool} {r : List Y1.Cx} {out : List Tk} (h : LeC b out) (ht : t.col ≤ b) : LeC b (Y1.tailM t f r out).2 := by
  have h2 : ∀ r, LeC b (Y1.semis r t) := fun r => by
    unfold Y1.semis
    split
    · exact .one ht
    · exact .nil
  cases f
  · simp only [Y1.tailM, Bool.false_eq_true, if_false]
    exact (h.app (.cl ht _)).app (.one ht)
  · simp only [Y1.tailM, if_true]
    exact (((h.app (.cl ht _)).app (h2 _)).app (.cl ht _)).app (.one ht)
theorem markG_c : ∀ (R : List Tk) (prev : Option Tk) (r : List Y1.Cx) (out : List Tk), LeC b out → LeC b R → LeC b (Y1.markG prev R r out).2
  | [], _, _, _, h, _ => h
  | t :: R, prev, r, out, h, hR => by
    have ht := hR t (List.mem_cons_self ..)
    rw [Y1.markG]
    split
    · exact openM_c h ht
    · exact markG_c R _ _ _ (tailM_c (openM_c h ht) ht) fun u hu => hR u (List.mem_cons_of_mem _ hu)
theorem markT_c {L : List Tk} (h : LeC b L) (hne : L ≠ []) : LeC b (markT L) := by
  have hl : (Y1.lastT L).col ≤ b := by
    rw [Y1.lastT, List.getLast?_eq_some_getLast hne]
    exact h _ (List.getLast_mem hne)
  rw [markT]
  exact ((markG_c L none [] [] .nil h).app (.cl hl _)).app (.one hl)
end

theorem laid2 (s : ByteArray) (hs : s.size ≤ big) (S : St) : WC TT zx 33 [.str s] S (fun v S' => LaidQ s S v S' ∧ Keep S S') := (laid_law s hs S).sub subY

set_option maxHeartbeats 4000000 in
theorem moved_law (s : ByteArray) (n : Int) (hs : s.size ≤ 16777216) : WC TT zx 11 [.str s, .int .i64 n] st0 (fun v _ => v = .bool true) := by
  refine WC_fn cf11 rfl TT11 (by simp [cf11]) ?_
  have hsb : s.size ≤ big := by simp only [big]; omega
  simp only [cf11, go_sem, ↓reduceIte, reduceCtorEq, Nat.reduceEqDiff, Nat.reduceAdd, Nat.reduceSub, Nat.reduceMul, Nat.reduceLeDiff, Nat.reduceLT, loadA, rdCells, binA]
  refine WO_callx [.str ofS] (by simp only [go_sem, ↓reduceIte, reduceCtorEq, Nat.reduceEqDiff, Nat.reduceAdd, Nat.reduceSub, Nat.reduceMul, Nat.reduceLeDiff, Nat.reduceLT, loadA, rdCells, binA]; rfl) ((laid2 ofS (by decide) st0).mono ?_)
  rintro v S1 ⟨hq1, hk1⟩
  rcases hq1 with ⟨a, b, rfl, hno⟩ | ⟨-, q1, o1, rfl, -, -, hM1, -⟩
  · exact absurd of_ok hno
  have hl1 := hM1.len
  rw [of_len] at hl1
  have h77 : (((7 : Nat) : Int) != 7) = false := rfl
  simp only [hl1, h77, go_sem, ↓reduceIte, reduceCtorEq, Nat.reduceEqDiff, Nat.reduceAdd, Nat.reduceSub, Nat.reduceMul, Nat.reduceLeDiff, Nat.reduceLT, loadA, rdCells, binA]
  refine WO_callx [.str s] (by simp only [go_sem, ↓reduceIte, reduceCtorEq, Nat.reduceEqDiff, Nat.reduceAdd, Nat.reduceSub, Nat.reduceMul, Nat.reduceLeDiff, Nat.reduceLT, loadA, rdCells, binA]) ((laid2 s hsb S1).mono ?_)
  rintro v S2 ⟨hQ2, hk2⟩
  -- the rest, whatever came out
  have hget : ∃ a b c, v = .tup [a, b, .bool c] := by
    rcases hQ2 with ⟨a, b, rfl, -⟩ | ⟨-, q, ov, rfl, -⟩ <;> exact ⟨_, _, _, rfl⟩
  obtain ⟨a2, b2, c2, rfl⟩ := hget
  simp only [go_sem, ↓reduceIte, reduceCtorEq, Nat.reduceEqDiff, Nat.reduceAdd, Nat.reduceSub, Nat.reduceMul, Nat.reduceLeDiff, Nat.reduceLT, loadA, rdCells, binA]
  refine WO_callx [.int .i64 n, .int .i64 0, .int .i64 6] (by simp only [go_sem, ↓reduceIte, reduceCtorEq, Nat.reduceEqDiff, Nat.reduceAdd, Nat.reduceSub, Nat.reduceMul, Nat.reduceLeDiff, Nat.reduceLT, loadA, rdCells, binA]) ((within_law n 6 (by decide) S2).mono ?_)
  rintro v S3 ⟨⟨k, rfl, hk6⟩, rfl⟩
  simp only [go_sem, ↓reduceIte, reduceCtorEq, Nat.reduceEqDiff, Nat.reduceAdd, Nat.reduceSub, Nat.reduceMul, Nat.reduceLeDiff, Nat.reduceLT, loadA, rdCells, binA]
  refine WO_callx [.str ⟨#[32]⟩, .int .i64 k] (by simp only [go_sem, ↓reduceIte, reduceCtorEq, Nat.reduceEqDiff, Nat.reduceAdd, Nat.reduceSub, Nat.reduceMul, Nat.reduceLeDiff, Nat.reduceLT, loadA, rdCells, binA]) (WC_ext (h := repX) rfl (v := .str (ofB (spL k))) (s' := S3) (by
    simp only [repX, Int.toNat_natCast]
    rw [if_pos ⟨by omega, by omega, by show 1 * k ≤ _; omega⟩]
    have : bts ⟨#[32]⟩ = [32] := rfl
    rw [this, repeat_sp]) ?_)
  have hspl : (ofB (spL k)).size = k := by rw [← bts_len, bts_ofB]; simp [spL]
  have hadd : ∀ a b : ByteArray, a.size + b.size ≤ 1000000000 → binA .add (.str a) (.str b) = some (.str (a ++ b)) := fun a b h => by
    simp only [binA]; rw [if_pos (by show ((a.size + b.size : Nat) : Int) ≤ 9223372036854775807; omega)]
  have h10s : (⟨#[10]⟩ : ByteArray).size = 1 := rfl
  have hbap : ∀ a b : ByteArray, bts (a ++ b) = bts a ++ bts b := fun a b => by simp [bts]
  have hadd1 := hadd ⟨#[10]⟩ (ofB (spL k)) (by rw [h10s]; omega)
  simp only [hadd1, go_sem, ↓reduceIte, reduceCtorEq, Nat.reduceEqDiff, Nat.reduceAdd, Nat.reduceSub, Nat.reduceMul, Nat.reduceLeDiff, Nat.reduceLT, loadA, rdCells]
  have hcnt : Lib.countB s ⟨#[10]⟩ ≤ s.size := by
    show Lib.count (bts s) [10] ≤ s.size
    rw [Lib.count_one, ← bts_len]
    exact List.count_le_length
  have hns : (⟨#[10]⟩ ++ ofB (spL k) : ByteArray).size = 1 + k := by rw [← bts_len, hbap, List.length_append, bts_len, bts_len, hspl]; rfl
  have hmul : Lib.countB s ⟨#[10]⟩ * (1 + k) ≤ 16777216 * 7 := Nat.mul_le_mul (by omega) (by omega)
  refine WO_callx [.str s, .str ⟨#[10]⟩, .str (⟨#[10]⟩ ++ ofB (spL k))] (by simp only [go_sem, ↓reduceIte, reduceCtorEq, Nat.reduceEqDiff, Nat.reduceAdd, Nat.reduceSub, Nat.reduceMul, Nat.reduceLeDiff, Nat.reduceLT, loadA, rdCells, binA]) (WC_ext (h := rplX) rfl (v := .str (ofB (ind k (bts s)))) (s' := S3) (by
    simp only [rplX]
    rw [if_pos ⟨by omega, by decide, by rw [hns]; omega⟩]
    have e1 : bts (⟨#[10]⟩ ++ ofB (spL k)) = 10 :: spL k := by rw [hbap, bts_ofB]; rfl
    have e2 : bts ⟨#[10]⟩ = [10] := rfl
    rw [e1, e2, replAll_ind]) ?_)
  have hil := ind_len k hk6 (bts s)
  rw [bts_len] at hil
  have hisz : (ofB (ind k (bts s))).size ≤ 7 * s.size := by rw [← bts_len, bts_ofB]; exact hil
  have hadd2 := hadd (ofB (spL k)) (ofB (ind k (bts s))) (by omega)
  obtain ⟨u, hu⟩ : ∃ u, u = ofB (spL k) ++ ofB (ind k (bts s)) := ⟨_, rfl⟩
  have hub : bts u = spL k ++ ind k (bts s) := by rw [hu, hbap, bts_ofB, bts_ofB]
  have hus : u.size ≤ big := by
    rw [← bts_len, hub, List.length_append, spL, List.length_replicate]; simp only [big]; omega
  have hT := Y1.scan_ind k hub
  rw [← hu] at hadd2
  simp only [hadd2, go_sem, ↓reduceIte, reduceCtorEq, Nat.reduceEqDiff, Nat.reduceAdd, Nat.reduceSub, Nat.reduceMul, Nat.reduceLeDiff, Nat.reduceLT, loadA, rdCells]
  refine WO_callx [.str u] (by simp only [go_sem, ↓reduceIte, reduceCtorEq, Nat.reduceEqDiff, Nat.reduceAdd, Nat.reduceSub, Nat.reduceMul, Nat.reduceLeDiff, Nat.reduceLT, loadA, rdCells, binA]) ((laid2 u hus S3).mono ?_)
  rintro v S4 ⟨hQ4, hk4⟩
  have hget : ∃ a b c, v = .tup [a, b, .bool c] := by
    rcases hQ4 with ⟨a, b, rfl, -⟩ | ⟨-, q, ov, rfl, -⟩ <;> exact ⟨_, _, _, rfl⟩
  obtain ⟨a4, b4, c4, rfl⟩ := hget
  cases c2
  · simp only [go_sem, ↓reduceIte, reduceCtorEq, Nat.reduceEqDiff, Nat.reduceAdd, Nat.reduceSub, Nat.reduceMul, Nat.reduceLeDiff, Nat.reduceLT, binA]
    exact ⟨by simp, _, rfl, rfl⟩
  cases c4
  · simp only [go_sem, ↓reduceIte, reduceCtorEq, Nat.reduceEqDiff, Nat.reduceAdd, Nat.reduceSub, Nat.reduceMul, Nat.reduceLeDiff, Nat.reduceLT, binA]
    exact ⟨by simp, _, rfl, rfl⟩
  rcases hQ2 with ⟨_, _, h, -⟩ | ⟨hL2, q2, ov2, h, hT2, -, hM2, -⟩
  · cases h
  cases h
  rcases hQ4 with ⟨_, _, h, -⟩ | ⟨hL4, q4, ov4, h, hT4, -, hM4, hno4⟩
  · cases h
  cases h
  rw [hT, Y1.markT_sh hL2.chk] at hM4
  have hml := Y1.markT_len (scanT s)
  have hLl := hL2.chk.le
  have hMc := markT_c (b := 1 + s.size) (scanT_col s) (by intro h0; have := hL2.chk.pos; rw [h0] at this; simp at this)
  generalize hMg : markT (scanT s) = M at *
  have hMS2 : MSl tkc 5 S4 b2 M := hM2.keep hk4
  have hlen4 := hM4.len
  rw [List.length_map] at hlen4
  simp only [hlen4, go_sem, ↓reduceIte, reduceCtorEq, Nat.reduceEqDiff, Nat.reduceAdd, Nat.reduceSub, Nat.reduceMul, Nat.reduceLeDiff, Nat.reduceLT, binA]
  have hNl : (M.map (shT k)).length = M.length := List.length_map ..
  refine W_loop_nat (fun k' e S => ∃ (i : Nat), i + k' = M.length ∧ e 1 = .int .i64 k ∧ e 9 = b2 ∧ e 13 = b4 ∧ e 56 = .int .i64 M.length ∧ e 57 = .int .i64 i ∧ MSl tkc 5 S b4 (mapTo (un k) (M.map (shT k)) i) ∧ MSl tkc 5 S b2 M) ?_ M.length _ _
    ⟨0, by omega, by simp only [go_sem, ↓reduceIte, reduceCtorEq, Nat.reduceEqDiff, Nat.reduceAdd, Nat.reduceSub, Nat.reduceMul, Nat.reduceLeDiff, Nat.reduceLT, loadA, rdCells, binA], by simp only [go_sem, ↓reduceIte, reduceCtorEq, Nat.reduceEqDiff, Nat.reduceAdd, Nat.reduceSub, Nat.reduceMul, Nat.reduceLeDiff, Nat.reduceLT, loadA, rdCells, binA], by simp only [go_sem, ↓reduceIte, reduceCtorEq, Nat.reduceEqDiff, Nat.reduceAdd, Nat.reduceSub, Nat.reduceMul, Nat.reduceLeDiff, Nat.reduceLT, loadA, rdCells, binA], by simp only [go_sem, ↓reduceIte, reduceCtorEq, Nat.reduceEqDiff, Nat.reduceAdd, Nat.reduceSub, Nat.reduceMul, Nat.reduceLeDiff, Nat.reduceLT, loadA, rdCells, binA], by simp only [go_sem, ↓reduceIte, reduceCtorEq, Nat.reduceEqDiff, Nat.reduceAdd, Nat.reduceSub, Nat.reduceMul, Nat.reduceLeDiff, Nat.reduceLT, loadA, rdCells, binA]; rfl, by rw [mapTo_zero]; exact hM4, hMS2⟩
  rintro k' e S ⟨i, hik, e1, e9, e13, e56, e57, hA, hB⟩
  by_cases hi : i < M.length
  · have hd : decide ((i : Int) < (M.length : Int)) = true := by simp; omega
    obtain ⟨y, hy⟩ : ∃ y, M[i]? = some y := ⟨_, List.getElem?_eq_getElem hi⟩
    have hx : (M.map (shT k))[i]? = some (shT k y) := by rw [List.getElem?_map, hy]; rfl
    have hxm := mapTo_at (g := un k) hx
    obtain ⟨p, hb4, hpo, hps, hia⟩ := hA.at hxm
    have hml2 : (mapTo (un k) (M.map (shT k)) i).length = M.length := by rw [mapTo_len, hNl]
    have hle : i * 5 + 5 ≤ ((mapTo (un k) (M.map (shT k)) i).flatMap tkc).length := flat_le tkP.len hxm 5 (Nat.le_refl _)
    have hld : loadA S false 1 (.ptr p (i * 5 + 4)) = some (.int .i64 ((y.col + k : Nat) : Int)) := by
      simp only [loadA, rdCells, hpo]
      rw [if_pos (by omega), flat_cell tkP.len hxm (by omega)]
      rfl
    have w5 : IntKind.i64.wrap (((y.col + k : Nat) : Int) - k) = ((y.col : Nat) : Int) := by
      have := hMc y (List.mem_of_getElem? hy)
      rw [IntKind.wrap_i64]; omega
    have hset : ((mapTo (un k) (M.map (shT k)) i).flatMap tkc).set (i * 5 + 4) (.int .i64 (y.col : Int)) = (mapTo (un k) (M.map (shT k)) (i + 1)).flatMap tkc := by
      rw [flat_set tkP.len hxm (by omega) (y := un k (shT k y)) (by rw [un_sh]; rfl), mapTo_set hx]
    have w6 : IntKind.i64.wrap ((i : Int) + 1) = ((i + 1 : Nat) : Int) := by rw [IntKind.wrap_i64]; omega
    have hle2 : (i * 5 + 4 + 1 ≤ ((mapTo (un k) (M.map (shT k)) i).flatMap tkc).length) = True := eq_true (by omega)
    simp only [cf11_l0, e1, e9, e13, e56, e57, hd, hia, hld, w5, hpo, hle2, hset, w6, go_sem, ↓reduceIte, reduceCtorEq, Nat.reduceEqDiff, Nat.reduceAdd, Nat.reduceSub, Nat.reduceMul, Nat.reduceLeDiff, Nat.reduceLT, binA]
    refine ⟨k' - 1, by omega, i + 1, by omega, rfl, ?_, hB.of (fun p' hp' hl' => put_ne ?_) (Nat.le_refl _)⟩
    · rw [hb4]
      exact Or.inr (Or.inr ⟨p, by rw [hml2, mapTo_len, hNl], put_eq, hps⟩)
    · intro he
      have hlt := Y1.mout_lt hM2 _ _ _ _ hp'
      rw [he] at hlt
      exact hno4 p hlt _ _ _ hb4
  · have hd : decide ((i : Int) < (M.length : Int)) = false := by simp; omega
    rw [mapTo_all (by rw [hNl]; omega), List.map_map] at hA
    have hid : M.map (un k ∘ shT k) = M := by
      have : (un k ∘ shT k) = id := by funext t; exact un_sh k t
      rw [this, List.map_id]
    rw [hid] at hA
    simp only [cf11_l0, e9, e13, e56, e57, hd, go_sem, ↓reduceIte, reduceCtorEq, Nat.reduceEqDiff, Nat.reduceAdd, Nat.reduceSub, Nat.reduceMul, Nat.reduceLeDiff, Nat.reduceLT, binA]
    have rd : ∀ v, MSl tkc 5 S v M → Rd5 S v M := fun v h => ⟨h.len, fun j t hj => by
      obtain ⟨p, rfl, ho, hp, ha⟩ := h.at hj
      exact ⟨_, ha, (TokL.at ⟨ho, hp⟩ hj).1⟩⟩
    refine WO_callx [b2, b4] (by simp only [e9, e13, go_sem, ↓reduceIte, reduceCtorEq, Nat.reduceEqDiff, Nat.reduceAdd, Nat.reduceSub, Nat.reduceMul, Nat.reduceLeDiff, Nat.reduceLT, loadA, rdCells, binA]) (((eq32_law (rd _ hB) (rd _ hA) (by omega)).sub subY).mono ?_)
    rintro v S5 ⟨rfl, rfl⟩
    simp only [go_sem, ↓reduceIte, reduceCtorEq, Nat.reduceEqDiff, Nat.reduceAdd, Nat.reduceSub, Nat.reduceMul, Nat.reduceLeDiff, Nat.reduceLT, loadA, rdCells, binA]
    exact ⟨by simp, _, rfl, rfl⟩
end Go.Am.Y2
