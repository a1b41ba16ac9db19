/- A part of the proof of unifyNormal. Conditions: none. -/
import Derived.Test.YtfleakoephmgaaaDoorUnP
import Derived.Test.YtfleakoephmgaaaDoorAmY6
import Derived.OpenShut
import Derived.LaidMore
import Derived.Lay
set_option linter.unusedSimpArgs false
set_option linter.unusedVariables false
namespace Go.Am.U1
open Go.Proofs Go.RowKit
set_option maxRecDepth 100000
set_option linter.unusedSimpArgs false

mutual
def avd : AV → Nat
  | .sl cs _ _ _ => avds cs + 1
  | _ => 0
def avds : List AV → Nat
  | [] => 0
  | a :: r => avd a + avds r
end
theorem avds_app : ∀ a b : List AV, avds (a ++ b) = avds a + avds b
  | [], b => by simp [avds]
  | x :: a, b => by rw [List.cons_append, avds, avds_app a b, avds]; omega

theorem tms_of {n : Nat} (ih : ∀ cs, avds cs ≤ n → Ty Tryd.prog 24 cs → ∃ t, cs = tyc t) : ∀ (len : Nat) (ds : List AV), avds ds ≤ n → TyN Tryd.prog 24 len ds → ∃ l : List Tm, l.length = len ∧ ds = tycs l
  | 0, ds, _, h => by cases h; exact ⟨[], rfl, by rw [tycs]⟩
  | m + 1, ds, hb, h => by
    cases h with
    | succ e n cs ds h hl hs =>
      rw [avds_app] at hb
      obtain ⟨x, rfl⟩ := ih cs (by omega) h
      obtain ⟨l, rfl, rfl⟩ := tms_of ih m ds (by omega) hs
      exact ⟨x :: l, rfl, by rw [tycs]⟩

theorem tm_of : ∀ (n : Nat) (cs : List AV), avds cs ≤ n → Ty Tryd.prog 24 cs → ∃ t, cs = tyc t := by
  intro n
  induction n with
  | zero =>
    intro cs hb h
    obtain ⟨us, bs, rfl, h1, h2⟩ := tyf_cons (ty_struct Tryd.underlying24 h)
    obtain ⟨us2, bs2, rfl, h3, h4⟩ := tyf_cons h2
    obtain ⟨us3, bs3, rfl, h5, h6⟩ := tyf_cons h4
    obtain ⟨us4, bs4, rfl, h7, h8⟩ := tyf_cons h6
    obtain ⟨len, ds, rfl, h9, -⟩ := ty_slice Tryd.underlying22 h7
    simp only [avds_app, avds, avd] at hb
    omega
  | succ n ih =>
    intro cs hb h
    obtain ⟨us, bs, rfl, h1, h2⟩ := tyf_cons (ty_struct Tryd.underlying24 h)
    obtain ⟨us2, bs2, rfl, h3, h4⟩ := tyf_cons h2
    obtain ⟨us3, bs3, rfl, h5, h6⟩ := tyf_cons h4
    obtain ⟨us4, bs4, rfl, h7, h8⟩ := tyf_cons h6
    obtain ⟨k, rfl, -⟩ := ty_int Tryd.underlying3 h1
    obtain ⟨nm, rfl, -⟩ := ty_str Tryd.underlying9 h3
    obtain ⟨v, rfl, -⟩ := ty_int Tryd.underlying3 h5
    obtain ⟨len, ds, rfl, h9, -⟩ := ty_slice Tryd.underlying22 h7
    have hnil := tyf_nil h8
    subst hnil
    simp only [avds_app, avds, avd] at hb
    obtain ⟨l, rfl, rfl⟩ := tms_of ih len ds (by omega) h9
    exact ⟨.mk k nm v l, by rw [tyc]; rfl⟩

theorem occurs_all : ∀ us, TyAs Tryd.prog [3, 24] us → WC T (fun _ => none) 3 us st0 (fun v _ => v = .bool true) := by
  intro us h
  cases h with
  | cons t a ts vs h1 hs =>
    cases hs with
    | cons t2 a2 ts2 vs2 h2 hs2 =>
      cases hs2
      obtain ⟨n, rfl, -⟩ := int_arg Tryd.underlying3 h1
      unfold TyAR at h2
      rw [Tryd.underlying24] at h2
      obtain ⟨cs, rfl, h3⟩ := h2
      obtain ⟨t, rfl⟩ := tm_of _ cs (Nat.le_refl _) h3
      exact occurs_law (fun _ _ => rfl) n t st0

def szs : List Int := [0, -1, 3, 1, 0, 2]
theorem size_cell {W : World} (h : laidMetH Tryd.prog Go.Proofs.YtfleakoephmgaaaDoor.Rows.unifyOccursRow.laid W) (r : Nat) (hr : r < 6) : W.cell? ⟨0, r, none⟩ = some (.int .i64 (szs.getD r 0)) := by
  rw [MakeChecks.laidMetH_plain _ _ _ (by kernel_rfl)] at h
  obtain ⟨ps, ⟨g, t, cs, fuel, p, q, hg, ht, hv, hd, _, _⟩, _, _⟩ := h
  obtain rfl := Option.some.inj ((show Tryd.prog.globalNamed "provenance/unify.sizes" = some 0 by kernel_rfl).symm.trans hg)
  obtain rfl := Option.some.inj ((show (Tryd.prog.globals[0]?).map (·.type) = some 108 by kernel_rfl).symm.trans ht)
  obtain ⟨xs, m, _, ex, _, hl, hel⟩ := DataW.trod_array Tryd.underlying108 hd
  have c5 : Tryd.prog.cellsOf 3 = 1 := by kernel_rfl
  have hE := hel r hr
  rw [c5, Nat.mul_one, List.getElem?_eq_getElem (by omega)] at hE
  obtain ⟨z, e1, e2, _⟩ := DataW.trod_int Tryd.underlying3 hE
  have hlen : szs.length = 6 := rfl
  have e3 : (xs.map (·.1)) = szs.map fun n => .lit (.int .i64 n) := (DataW.agg.inj (Prod.mk.inj ex).1).symm
  have e4 : (xs.map (·.1))[r]? = (szs.map fun n => (DataW.lit (.int .i64 n) : DataW Unit))[r]? := by rw [e3]
  rw [List.getElem?_map, List.getElem?_map, List.getElem?_eq_getElem (by omega : r < xs.length), List.getElem?_eq_getElem (by omega : r < szs.length), e2] at e4
  have hz : z = szs.getD r 0 := by
    simp only [Option.map_some, Option.some.injEq, DataW.lit.injEq, Lit.int.injEq, true_and] at e4
    rw [e4, List.getD, List.getElem?_eq_getElem (by omega : r < szs.length)]; rfl
  rw [World.var?_cell hg hv r, ← hz]
  have : cs.toList[r]? = some (.int .i64 z) := by
    have h0 : ((cs.toList.drop r).take 1)[0]? = some (.int .i64 z) := by rw [e1]; rfl
    simpa using h0
  simpa using this

theorem glob {W : World} (h : laidMetH Tryd.prog Go.Proofs.YtfleakoephmgaaaDoor.Rows.unifyOccursRow.laid W) : GlobR G0 (rho0 W) W 0 := by
  intro g cs hg
  unfold G0 at hg
  split at hg
  · rename_i h1
    subst h1
    cases hg
    refine .eptr _ [.int .i64 0, .int .i64 (-1), .int .i64 3, .int .i64 1, .int .i64 0, .int .i64 2] 0 0 ?_ (at0 fun j v hj => ?_)
    · exact .cons _ _ _ _ (.int _ _) (.cons _ _ _ _ (.int _ _) (.cons _ _ _ _ (.int _ _) (.cons _ _ _ _ (.int _ _) (.cons _ _ _ _ (.int _ _) (.cons _ _ _ _ (.int _ _) .nil)))))
    · have hj6 := (List.getElem?_eq_some_iff.1 hj).1
      simp only [List.length_cons, List.length_nil] at hj6
      rw [Nat.zero_add, size_cell h j (by omega), ← hj]
      have : j = 0 ∨ j = 1 ∨ j = 2 ∨ j = 3 ∨ j = 4 ∨ j = 5 := by omega
      rcases this with rfl | rfl | rfl | rfl | rfl | rfl <;> rfl
  · cases hg
end Go.Am.U1
