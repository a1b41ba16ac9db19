/- A part of the proof of Go. Conditions: none. -/
import Derived.Test.YtfleakoephmgaaaDoorUoL
import Derived.Test.YtfleakoephmgaaaDoorAmR
import Derived.Test.YtfleakoephmgaaaDoorAmW
import Derived.OpenShut
import Derived.LaidMore
import Derived.Lay
set_option linter.unusedSimpArgs false
set_option linter.unusedVariables false
namespace Go.Am.U1
open Go.Am.Un
set_option maxRecDepth 100000

theorem chk_inv {row : Bool} {d left k v : Int} {n : ByteArray} {l : List Tm} (h : (chk row d left (.mk k n v l)).1 = 0) :
    1 ≤ left ∧ 0 ≤ k ∧ k ≤ 5 ∧ (k = 0 → l = [] ∧ 0 ≤ v ∧ v < 4096) ∧ (k = 5 → l.length = 2) ∧ chk row d left (.mk k n v l) = chks k 0 (d + 1) (left - 1) l := by
  rw [chk] at h ⊢
  split at h
  · simp at h
  · rename_i h1
    split at h
    · simp at h
    · rename_i h2
      split at h
      · simp at h
      · rename_i h3
        split at h
        · simp at h
        · rename_i h4
          split at h
          · simp at h
          · rename_i h5
            rw [if_neg h1, if_neg h2, if_neg h3, if_neg h4, if_neg h5]
            have h30 : ¬ (szK k ≥ 0 ∧ (l.length : Int) ≠ szK k) := fun hh => h3 (Or.inl hh)
            refine ⟨by omega, by omega, by omega, fun hk => ⟨?_, by omega, by omega⟩, fun hk => ?_, rfl⟩
            · subst hk
              simp only [szK, if_true] at h30
              exact List.eq_nil_of_length_eq_zero (by omega)
            · subst hk
              have : szK 5 = 2 := rfl
              rw [this] at h30
              omega

theorem chks_cons {k : Int} {i : Nat} {d left : Int} {a : Tm} {r : List Tm} (h : (chks k i d left (a :: r)).1 = 0) :
    (chk (rowed k i a) d left a).1 = 0 ∧ (chks k (i + 1) d (chk (rowed k i a) d left a).2 r).1 = 0 ∧ (chks k i d left (a :: r)).2 = (chks k (i + 1) d (chk (rowed k i a) d left a).2 r).2 := by
  rw [chks] at h ⊢
  split at h
  · rename_i h2; exact absurd h h2
  · rename_i h2
    rw [if_neg h2]
    exact ⟨Classical.not_not.1 h2, h, rfl⟩

theorem mem_adds : ∀ (f out : List Int) (x : Int), x ∈ out ∨ x ∈ f → x ∈ adds out f
  | [], out, x, h => by rw [adds]; simpa using h
  | v :: r, out, x, h => by
    rw [adds]
    refine mem_adds r _ x ?_
    rcases h with h | h
    · left; split
      · exact h
      · simp [h]
    · rcases List.mem_cons.1 h with rfl | h
      · left; split
        · rename_i hc; simpa using hc
        · simp
      · exact Or.inr h
theorem mem_fres : ∀ (l : List Tm) (out : List Int) (x : Int), (x ∈ out ∨ ∃ a, a ∈ l ∧ x ∈ fre a) → x ∈ fres out l
  | [], out, x, h => by rw [fres]; rcases h with h | ⟨a, h, -⟩; exact h; simp at h
  | a :: r, out, x, h => by
    rw [fres]
    refine mem_fres r _ x ?_
    rcases h with h | ⟨b, hb, hx⟩
    · exact Or.inl (mem_adds _ _ _ (Or.inl h))
    · rcases List.mem_cons.1 hb with rfl | hb
      · exact Or.inl (mem_adds _ _ _ (Or.inr hx))
      · exact Or.inr ⟨b, hb, hx⟩

mutual
theorem sub_id (N : Nat) (row : Bool) (d left : Int) : ∀ t : Tm, (chk row d left t).1 = 0 → (∀ x, x ∈ fre t → x < N) → Sub (vars N) t t
  | .mk k n v l => by
    intro h hf
    obtain ⟨h1, h2, h3, h4, h5, h6⟩ := chk_inv h
    by_cases hk : k = 0
    · subst hk
      obtain ⟨rfl, hv0, hv1⟩ := h4 rfl
      have hvN : v < N := hf v (by rw [fre, if_pos rfl]; simp)
      obtain ⟨i, rfl⟩ : ∃ i : Nat, v = i := ⟨v.toNat, by omega⟩
      exact .var _ _ (.self _ (vtm i) i rfl rfl (vars_at (by omega)) rfl rfl) rfl
    · refine .con _ k n v l l (.con _ hk) hk (subs_id N k 0 (d + 1) (left - 1) l (by rw [← h6]; exact h) fun x a ha hx => hf x ?_)
      rw [fre, if_neg hk]
      exact mem_fres _ _ _ (Or.inr ⟨a, ha, hx⟩)
theorem subs_id (N : Nat) (k : Int) (i : Nat) (d left : Int) : ∀ l : List Tm, (chks k i d left l).1 = 0 → (∀ x a, a ∈ l → x ∈ fre a → x < N) → Subs (vars N) l l
  | [] => fun _ _ => .nil
  | a :: r => fun h hf => .cons _ _ _ _ (sub_id N _ d left a (chks_cons h).1 fun x hx => hf x a (by simp) hx) (subs_id N k (i + 1) d _ r (chks_cons h).2.1 fun x b hb hx => hf x b (by simp [hb]) hx)
end
theorem eqvs_of : ∀ l : List Tm, (∀ a, a ∈ l → Eqv a a) → Eqvs l l
  | [], _ => .nil
  | a :: r, h => .cons _ _ _ _ (h a (by simp)) (eqvs_of r fun b hb => h b (by simp [hb]))
mutual
theorem eqv_id (row : Bool) (d left : Int) : ∀ t : Tm, (chk row d left t).1 = 0 → Eqv t t
  | .mk k n v l => by
    intro h
    obtain ⟨h1, h2, h3, h4, h5, h6⟩ := chk_inv h
    have hl := eqv_ids k 0 (d + 1) (left - 1) l (by rw [← h6]; exact h)
    by_cases hk : k = 0
    · subst hk; exact .var _ _ rfl rfl rfl
    · by_cases hk5 : k = 5
      · subst hk5
        have hlen := h5 rfl
        match l, hlen, hl with
        | [x, r], _, hl => exact .row n v x r _ x r (.here v x r) (hl x (by simp)) (hl r (by simp))
      · exact .app k n n v v l l hk hk5 (by simp) (eqvs_of l hl)
theorem eqv_ids (k : Int) (i : Nat) (d left : Int) : ∀ l : List Tm, (chks k i d left l).1 = 0 → ∀ a, a ∈ l → Eqv a a
  | [] => fun _ a ha => by simp at ha
  | a :: r => fun h b hb => by
    rcases List.mem_cons.1 hb with hb' | hb'
    · rw [hb']; exact eqv_id _ d left a (chks_cons h).1
    · exact eqv_ids k (i + 1) d _ r (chks_cons h).2.1 b hb'
end
mutual
theorem chk_size (row : Bool) (d left : Int) : ∀ t : Tm, (chk row d left t).1 = 0 → (chk row d left t).2 + tsz t = left
  | .mk k n v l => by
    intro h
    obtain ⟨h1, h2, h3, h4, h5, h6⟩ := chk_inv h
    rw [h6, tsz]
    have := chks_size k 0 (d + 1) (left - 1) l (by rw [← h6]; exact h)
    omega
theorem chks_size (k : Int) (i : Nat) (d left : Int) : ∀ l : List Tm, (chks k i d left l).1 = 0 → (chks k i d left l).2 + tszs l = left
  | [] => fun _ => by rw [chks, tszs]; simp
  | a :: r => fun h => by
    obtain ⟨h1, h2, h3⟩ := chks_cons h
    have e1 := chk_size _ d left a h1
    have e2 := chks_size k (i + 1) d _ r h2
    rw [h3, tszs]
    omega
end
theorem chk_tsz {row : Bool} {d : Int} {t : Tm} (h : (chk row d 4096 t).1 = 0) : tsz t ≤ 4096 := by
  have h1 := chk_size row d 4096 t h
  have h2 := chk_ok row d 4096 t h
  omega
end Go.Am.U1

/- A part of the proof of Go. Conditions: none. -/
namespace Go.Am.U1
open Go.Am.Un
set_option maxRecDepth 100000
set_option linter.unusedSimpArgs false
attribute [local go_sem] wseq COp.isStore wreg wdreg wret wskip wexit wblock wcnd cnd_t cnd_f then_n then_x then_r catch_n rnd_n rnd_x rnd_r catch_x catch_r wo_nil wo_grd grdO_t grdO_f wo_ops stpO wr_nil wr_alloc wr_guards grdR_t grdR_f wr_ops stpR evAllocs evOp env0_app eput_some eput_none eset_app Opd.ev wantedA faddrA snew_obj snew_size sput_obj sput_size av_cells av_one av_strip av_still unA eqbA fillA fldA lensA mmA mm2 mmFold List.getD_cons_zero List.getD_cons_succ List.getD_nil List.length_cons List.length_nil List.drop_zero List.drop_succ_cons List.take_succ_cons List.take_zero List.map_cons List.map_nil List.set_cons_zero List.set_cons_succ List.all_cons List.all_nil List.getElem?_cons_zero List.getElem?_cons_succ List.nil_append List.cons_append Nat.zero_add Nat.add_zero beq_self_eq_true bt bf Bool.not_true Bool.not_false Bool.and_true Bool.true_and Bool.and_false Bool.false_and and_self and_true true_and n0 n1 n2 n3 n4 m0 m1 m2 m3 c1 retA resAs resA undefA Option.map_some Option.map_none
variable {X : Ext}

end Go.Am.U1

/- A law's arguments, opened. Conditions: none. -/
namespace Go.Am
section
variable {R : Nat} {P : Program}

theorem ty_int {t : TypeId} {k : IntKind} {cs : List AV} (hu : P.underlying t = some (.int k)) (h : TyR R P t cs) : ∃ n, cs = [.int k n] ∧ (Lit.int k n).wf = true := by
  cases h with
  | int t k' n h hw => rw [hu] at h; cases h; exact ⟨n, rfl, hw⟩
  | bool t b h => rw [hu] at h; cases h
  | str t s h hs => rw [hu] at h; cases h
  | slice t e len cs h hc hb => rw [hu] at h; cases h
  | struct t fs cs h hc => rw [hu] at h; cases h
theorem ty_str {t : TypeId} {cs : List AV} (hu : P.underlying t = some .string) (h : TyR R P t cs) : ∃ s, cs = [.str s] ∧ s.size ≤ R := by
  cases h with
  | int t k' n h hw => rw [hu] at h; cases h
  | bool t b h => rw [hu] at h; cases h
  | str t s h hs => exact ⟨s, rfl, hs⟩
  | slice t e len cs h hc hb => rw [hu] at h; cases h
  | struct t fs cs h hc => rw [hu] at h; cases h
theorem ty_struct {t : TypeId} {fs : Array Field} {cs : List AV} (hu : P.underlying t = some (.struct fs)) (h : TyR R P t cs) : TyFR R P fs.toList cs := by
  cases h with
  | int t k' n h hw => rw [hu] at h; cases h
  | bool t b h => rw [hu] at h; cases h
  | str t s h hs => rw [hu] at h; cases h
  | slice t e len cs h hc hb => rw [hu] at h; cases h
  | struct t fs cs h hc => rw [hu] at h; cases h; exact hc
theorem ty_slice {t e : TypeId} {cs : List AV} (hu : P.underlying t = some (.slice e)) (h : TyR R P t cs) : ∃ len ds, cs = [.sl ds len false none] ∧ TyNR R P e len ds ∧ len * P.bytesOf e ≤ R := by
  cases h with
  | int t k' n h hw => rw [hu] at h; cases h
  | bool t b h => rw [hu] at h; cases h
  | str t s h hs => rw [hu] at h; cases h
  | slice t e len cs h hc hb => rw [hu] at h; cases h; exact ⟨_, _, rfl, hc, hb⟩
  | struct t fs cs h hc => rw [hu] at h; cases h
theorem tyf_cons {f : Field} {r : List Field} {cs : List AV} (h : TyFR R P (f :: r) cs) : ∃ us bs, cs = us ++ bs ∧ TyR R P f.type us ∧ TyFR R P r bs := by
  cases h with
  | cons f r us bs h hl hs => exact ⟨us, bs, rfl, h, hs⟩
theorem tyf_nil {cs : List AV} (h : TyFR R P [] cs) : cs = [] := by cases h; rfl

theorem tyn_of {α : Type} {e : TypeId} {f : α → List AV} {p : α → Prop} (hf : ∀ cs, TyR R P e cs → ∃ x, cs = f x ∧ p x) : ∀ (len : Nat) (ds : List AV), TyNR R P e len ds → ∃ l : List α, l.length = len ∧ ds = l.flatMap f ∧ ∀ x, x ∈ l → p x
  | 0, ds, h => by cases h; exact ⟨[], rfl, rfl, by simp⟩
  | n + 1, ds, h => by
    cases h with
    | succ e n cs ds h hl hs =>
      obtain ⟨x, rfl, hx⟩ := hf _ h
      obtain ⟨l, rfl, rfl, hp⟩ := tyn_of hf n ds hs
      exact ⟨x :: l, rfl, by simp, by simpa using ⟨hx, hp⟩⟩

/-- A slice as an argument. -/
theorem slice_arg {α : Type} {t e : TypeId} {f : α → List AV} {p : α → Prop} {a : AV} (hu : P.underlying t = some (.slice e)) (hf : ∀ cs, TyR R P e cs → ∃ x, cs = f x ∧ p x) (h : TyAR R P t a) :
    ∃ l, ISl f a l ∧ Known a ∧ (∀ x, x ∈ l → p x) ∧ l.length * P.bytesOf e ≤ R := by
  unfold TyAR at h
  rw [hu] at h
  rcases h with hd | hd | ⟨len, ds, h0, hd, hn, hb⟩
  · subst hd; exact ⟨[], Or.inl ⟨rfl, rfl⟩, Or.inl rfl, by simp, by simp⟩
  · subst hd; exact ⟨[], Or.inr ⟨false, some 0, rfl⟩, Or.inr ⟨_, _, _, _, rfl, Or.inr rfl⟩, by simp, by simp⟩
  · obtain ⟨l, rfl, rfl, hp⟩ := tyn_of hf len ds hn
    subst hd
    exact ⟨l, Or.inr ⟨false, none, rfl⟩, Or.inr ⟨_, _, _, _, rfl, Or.inl h0⟩, hp, hb⟩
end
end Go.Am

/- A part of the proof of Go. Conditions: none. -/
namespace Go.Am.U1
open Go.Proofs Go.RowKit
set_option maxRecDepth 100000
set_option linter.unusedSimpArgs false

mutual
def avd : AV → Nat
  | .sl cs _ _ _ => avds cs + 1
  | _ => 0
def avds : List AV → Nat
  | [] => 0
  | a :: r => avd a + avds r
end
theorem avds_app : ∀ a b : List AV, avds (a ++ b) = avds a + avds b
  | [], b => by simp [avds]
  | x :: a, b => by rw [List.cons_append, avds, avds_app a b, avds]; omega

theorem tms_of {n : Nat} (ih : ∀ cs, avds cs ≤ n → Ty Tryd.prog 24 cs → ∃ t, cs = tyc t) : ∀ (len : Nat) (ds : List AV), avds ds ≤ n → TyN Tryd.prog 24 len ds → ∃ l : List Tm, l.length = len ∧ ds = tycs l
  | 0, ds, _, h => by cases h; exact ⟨[], rfl, by rw [tycs]⟩
  | m + 1, ds, hb, h => by
    cases h with
    | succ e n cs ds h hl hs =>
      rw [avds_app] at hb
      obtain ⟨x, rfl⟩ := ih cs (by omega) h
      obtain ⟨l, rfl, rfl⟩ := tms_of ih m ds (by omega) hs
      exact ⟨x :: l, rfl, by rw [tycs]⟩

theorem tm_of : ∀ (n : Nat) (cs : List AV), avds cs ≤ n → Ty Tryd.prog 24 cs → ∃ t, cs = tyc t := by
  intro n
  induction n with
  | zero =>
    intro cs hb h
    obtain ⟨us, bs, rfl, h1, h2⟩ := tyf_cons (ty_struct Tryd.underlying24 h)
    obtain ⟨us2, bs2, rfl, h3, h4⟩ := tyf_cons h2
    obtain ⟨us3, bs3, rfl, h5, h6⟩ := tyf_cons h4
    obtain ⟨us4, bs4, rfl, h7, h8⟩ := tyf_cons h6
    obtain ⟨len, ds, rfl, h9, -⟩ := ty_slice Tryd.underlying22 h7
    simp only [avds_app, avds, avd] at hb
    omega
  | succ n ih =>
    intro cs hb h
    obtain ⟨us, bs, rfl, h1, h2⟩ := tyf_cons (ty_struct Tryd.underlying24 h)
    obtain ⟨us2, bs2, rfl, h3, h4⟩ := tyf_cons h2
    obtain ⟨us3, bs3, rfl, h5, h6⟩ := tyf_cons h4
    obtain ⟨us4, bs4, rfl, h7, h8⟩ := tyf_cons h6
    obtain ⟨k, rfl, -⟩ := ty_int Tryd.underlying3 h1
    obtain ⟨nm, rfl, -⟩ := ty_str Tryd.underlying9 h3
    obtain ⟨v, rfl, -⟩ := ty_int Tryd.underlying3 h5
    obtain ⟨len, ds, rfl, h9, -⟩ := ty_slice Tryd.underlying22 h7
    have hnil := tyf_nil h8
    subst hnil
    simp only [avds_app, avds, avd] at hb
    obtain ⟨l, rfl, rfl⟩ := tms_of ih len ds (by omega) h9
    exact ⟨.mk k nm v l, by rw [tyc]; rfl⟩

def szs : List Int := [0, -1, 3, 1, 0, 2]
theorem size_cell {W : World} (h : laidMetH Tryd.prog Go.Proofs.YtfleakoephmgaaaDoor.Rows.unifyOccursRow.laid W) (r : Nat) (hr : r < 6) : W.cell? ⟨0, r, none⟩ = some (.int .i64 (szs.getD r 0)) := by
  rw [MakeChecks.laidMetH_plain _ _ _ (by kernel_rfl)] at h
  obtain ⟨ps, ⟨g, t, cs, fuel, p, q, hg, ht, hv, hd, _, _⟩, _, _⟩ := h
  obtain rfl := Option.some.inj ((show Tryd.prog.globalNamed "provenance/unify.sizes" = some 0 by kernel_rfl).symm.trans hg)
  obtain rfl := Option.some.inj ((show (Tryd.prog.globals[0]?).map (·.type) = some 108 by kernel_rfl).symm.trans ht)
  obtain ⟨xs, m, _, ex, _, hl, hel⟩ := DataW.trod_array Tryd.underlying108 hd
  have c5 : Tryd.prog.cellsOf 3 = 1 := by kernel_rfl
  have hE := hel r hr
  rw [c5, Nat.mul_one, List.getElem?_eq_getElem (by omega)] at hE
  obtain ⟨z, e1, e2, _⟩ := DataW.trod_int Tryd.underlying3 hE
  have hlen : szs.length = 6 := rfl
  have e3 : (xs.map (·.1)) = szs.map fun n => .lit (.int .i64 n) := (DataW.agg.inj (Prod.mk.inj ex).1).symm
  have e4 : (xs.map (·.1))[r]? = (szs.map fun n => (DataW.lit (.int .i64 n) : DataW Unit))[r]? := by rw [e3]
  rw [List.getElem?_map, List.getElem?_map, List.getElem?_eq_getElem (by omega : r < xs.length), List.getElem?_eq_getElem (by omega : r < szs.length), e2] at e4
  have hz : z = szs.getD r 0 := by
    simp only [Option.map_some, Option.some.injEq, DataW.lit.injEq, Lit.int.injEq, true_and] at e4
    rw [e4, List.getD, List.getElem?_eq_getElem (by omega : r < szs.length)]; rfl
  rw [World.var?_cell hg hv r, ← hz]
  have : cs.toList[r]? = some (.int .i64 z) := by
    have h0 : ((cs.toList.drop r).take 1)[0]? = some (.int .i64 z) := by rw [e1]; rfl
    simpa using h0
  simpa using this

theorem glob {W : World} (h : laidMetH Tryd.prog Go.Proofs.YtfleakoephmgaaaDoor.Rows.unifyOccursRow.laid W) : GlobR G0 (rho0 W) W 0 := by
  intro g cs hg
  unfold G0 at hg
  split at hg
  · rename_i h1
    subst h1
    cases hg
    refine .eptr _ [.int .i64 0, .int .i64 (-1), .int .i64 3, .int .i64 1, .int .i64 0, .int .i64 2] 0 0 ?_ (at0 fun j v hj => ?_)
    · exact .cons _ _ _ _ (.int _ _) (.cons _ _ _ _ (.int _ _) (.cons _ _ _ _ (.int _ _) (.cons _ _ _ _ (.int _ _) (.cons _ _ _ _ (.int _ _) (.cons _ _ _ _ (.int _ _) .nil)))))
    · have hj6 := (List.getElem?_eq_some_iff.1 hj).1
      simp only [List.length_cons, List.length_nil] at hj6
      rw [Nat.zero_add, size_cell h j (by omega), ← hj]
      have : j = 0 ∨ j = 1 ∨ j = 2 ∨ j = 3 ∨ j = 4 ∨ j = 5 := by omega
      rcases this with rfl | rfl | rfl | rfl | rfl | rfl <;> rfl
  · cases hg
end Go.Am.U1
