/- The package variables that LexerPlaces reads, and its arguments. Conditions: none. -/
import Derived.Test.YtjhbakfgoaeeoaaDoorAmLl
import Derived.Test.YtjhbakfgoaeeoaaDoorAmY6
import Derived.Test.YtjhbakfgoaeeoaaDoorShelf
import Derived.MakeChecks
namespace Go.Am.P1
open Go.Proofs Go.RowKit
set_option maxRecDepth 100000

theorem hX (m : Int) : ∀ f h, xs f = some h → ∀ args s v s', h args s = some (v, s') → CallC (Gm m) Tryd.prog f args s v s' := by
  intro f h hx
  unfold xs at hx
  split at hx
  · rename_i hf; subst hf; cases hx
    exact count_callC (enters_of Tryd.func24 (by kernel_rfl) rfl) (fun s c w => Tryd.strings_Count_one s c w)
  split at hx
  · rename_i hf; subst hf; cases hx
    exact join_callC (enters_of Tryd.func25 (by kernel_rfl) rfl) (fun bk o c xs sep w h1 h2 h3 h4 h5 => Tryd.strings_Join bk o c xs sep w h1 h2 h3 h4 h5)
  split at hx
  · rename_i hf; subst hf; cases hx
    exact split_callC (g := 1) (m := m) (by simp [Gm]) (enters_of Tryd.func35 (by kernel_rfl) rfl) (fun s sep m w h1 h2 h3 => Tryd.strings_Split s sep m w h1 h2 h3)
  split at hx
  · rename_i hf; subst hf; cases hx
    exact idx2_callC (enters_of Tryd.func53 (by kernel_rfl) rfl) (fun s c w => Tryd.strings_IndexByte s c w)
  split at hx
  · rename_i hf; subst hf; cases hx
    exact last_callC (enters_of Tryd.func54 (by kernel_rfl) rfl) (fun s c h w => Tryd.strings_LastIndexByte s c h w)
  split at hx
  · rename_i hf; subst hf; cases hx
    exact clone_callC (enters_of Tryd.func80 (by kernel_rfl) rfl) (fun s w h => Tryd.stringslite_Clone s w h)
  split at hx
  · rename_i hf; subst hf; cases hx
    exact has_callC (g := 1) (m := m) (by simp [Gm]) (enters_of Tryd.func137 (by kernel_rfl) rfl) (fun s sub m w h1 h2 => Tryd.strings_Contains s sub m w h1 h2)
  · cases hx

def spN : List Int := (List.range 256).map fun i => if [9, 10, 11, 12, 13, 32].contains i then 1 else 0
theorem spN_tab : spTab = spN.map (AV.int .u8) := by simp [spTab, spN]

theorem space_cell {W : World} (h : laidMetH Tryd.prog Go.Proofs.YtjhbakfgoaeeoaaDoor.Rows.lexerPlacesRow.laid W) (r : Nat) (hr : r < 256) : W.cell? ⟨0, r, none⟩ = some (.int .u8 (spN.getD r 0)) := by
  rw [MakeChecks.laidMetH_plain _ _ _ (by kernel_rfl)] at h
  obtain ⟨ps, ⟨_, _, _, _, _, q1, _, _, _, _, ⟨_, _, _, _, _, q2, _, _, _, _, ⟨g, t, cs, fuel, p, q, hg, ht, hv, hd, _, _⟩, _⟩, _⟩, _, _⟩ := h
  obtain rfl := Option.some.inj ((show Tryd.prog.globalNamed "strings.asciiSpace" = some 0 by kernel_rfl).symm.trans hg)
  obtain rfl := Option.some.inj ((show (Tryd.prog.globals[0]?).map (·.type) = some 117 by kernel_rfl).symm.trans ht)
  obtain ⟨xs, m, _, ex, _, hl, hel⟩ := DataW.trod_array Tryd.underlying117 hd
  have c5 : Tryd.prog.cellsOf 5 = 1 := by kernel_rfl
  have hE := hel r hr
  rw [c5, Nat.mul_one, List.getElem?_eq_getElem (by omega)] at hE
  obtain ⟨z, e1, e2, _⟩ := DataW.trod_int Tryd.underlying5 hE
  have hlen : spN.length = 256 := by simp [spN]
  have e0 : (Go.Proofs.YtjhbakfgoaeeoaaDoor.Rows.laid_strings_asciiSpace : DataW Unit) = .agg (spN.map fun n => .lit (.int .u8 n)) := by kernel_rfl
  have e3 : (xs.map (·.1)) = spN.map fun n => .lit (.int .u8 n) := (DataW.agg.inj (e0.symm.trans (Prod.mk.inj ex).1)).symm
  have e4 : (xs.map (·.1))[r]? = (spN.map fun n => (DataW.lit (.int .u8 n) : DataW Unit))[r]? := by rw [e3]
  rw [List.getElem?_map, List.getElem?_map, List.getElem?_eq_getElem (by omega : r < xs.length), List.getElem?_eq_getElem (by omega : r < spN.length), e2] at e4
  have hz : z = spN.getD r 0 := by
    simp only [Option.map_some, Option.some.injEq, DataW.lit.injEq, Lit.int.injEq, true_and] at e4
    rw [e4, List.getD, List.getElem?_eq_getElem (by omega : r < spN.length)]; rfl
  rw [World.var?_cell hg hv r, ← hz]
  have : cs.toList[r]? = some (.int .u8 z) := by
    have h0 : ((cs.toList.drop r).take 1)[0]? = some (.int .u8 z) := by rw [e1]; rfl
    simpa using h0
  simpa using this

theorem vs_ints {ρ : Rho} {w : World} {n : Nat} {k : IntKind} : ∀ l : List Int, Vs ρ w n (l.map (AV.int k)) (l.map (Value.int k))
  | [] => .nil
  | z :: l => .cons _ _ _ _ (.int _ _) (vs_ints l)

theorem glob (m : Int) {W : World} (h : W.cell? ⟨1, 0, none⟩ = some (.int .i64 m)) (h2 : laidMetH Tryd.prog Go.Proofs.YtjhbakfgoaeeoaaDoor.Rows.lexerPlacesRow.laid W) : GlobR (Gm m) (rho0 W) W 0 := by
  intro g cs hg
  unfold Gm at hg
  split at hg
  · rename_i h1
    subst h1
    cases hg
    rw [spN_tab]
    refine .eptr _ (spN.map (Value.int .u8)) 0 0 (vs_ints _) (at0 fun j v hj => ?_)
    have hlen : spN.length = 256 := by simp [spN]
    have hj6 := (List.getElem?_eq_some_iff.1 hj).1
    rw [List.length_map] at hj6
    rw [Nat.zero_add, space_cell h2 j (by omega), ← hj, List.getElem?_map, List.getD, List.getElem?_eq_getElem hj6]
    rfl
  split at hg
  · rename_i h1
    subst h1
    cases hg
    refine .eptr _ [.int .i64 m] 1 0 (.cons _ _ _ _ (.int _ _) .nil) (at0 fun j v hj => ?_)
    cases j with
    | zero => simp at hj; subst hj; exact h
    | succ j => simp at hj
  · cases hg

theorem places_all : ∀ us, TyAs Tryd.prog [9] us → WC T xs 10 us st0 (fun v _ => v = .bool true) := by
  intro us h
  cases h with
  | cons t a ts vs h1 hs =>
    cases hs
    obtain ⟨s, rfl, hs⟩ := str_arg Tryd.underlying9 h1
    simp only [reachBytes] at hs
    exact places_law s (by simp only [L1.big]; omega) st0
end Go.Am.P1
