/- The library's functions by their contracts; the arguments read. Conditions: none. -/
import Derived.Test.YtjhbakfgoaeeoaaDoorAmLh
import Derived.Test.YtjhbakfgoaeeoaaDoorAmY6
import Derived.Test.YtjhbakfgoaeeoaaDoorShelf
set_option linter.unusedSimpArgs false
set_option linter.unusedVariables false
namespace Go.Am.L1
open Go.Proofs
set_option maxRecDepth 100000

theorem hX (m : Int) : ∀ f h, xs f = some h → ∀ args s v s', h args s = some (v, s') → CallC (Gm m) Tryd.prog f args s v s' := by
  intro f h hx
  unfold xs at hx
  split at hx
  · rename_i hf; subst hf; cases hx
    exact count_callC (enters_of Tryd.func24 (by kernel_rfl) rfl) (fun s c w => Tryd.strings_Count_one s c w)
  split at hx
  · rename_i hf; subst hf; cases hx
    exact idx2_callC (enters_of Tryd.func53 (by kernel_rfl) rfl) (fun s c w => Tryd.strings_IndexByte s c w)
  split at hx
  · rename_i hf; subst hf; cases hx
    exact clone_callC (enters_of Tryd.func80 (by kernel_rfl) rfl) (fun s w h => Tryd.stringslite_Clone s w h)
  split at hx
  · rename_i hf; subst hf; cases hx
    exact has_callC (g := 1) (m := m) (by simp [Gm]) (enters_of Tryd.func137 (by kernel_rfl) rfl) (fun s sub m w h1 h2 => Tryd.strings_Contains s sub m w h1 h2)
  · cases hx

theorem glob (m : Int) {W : World} (h : W.cell? ⟨1, 0, none⟩ = some (.int .i64 m)) : GlobR (Gm m) (rho0 W) W 0 := by
  intro g cs hg
  unfold Gm at hg
  split at hg
  · rename_i h1
    subst h1
    cases hg
    refine .eptr _ [.int .i64 m] 1 0 (.cons _ _ _ _ (.int _ _) .nil) (at0 fun j v hj => ?_)
    cases j with
    | zero => simp at hj; subst hj; exact h
    | succ j => simp at hj
  · cases hg

theorem lines_all : ∀ us, TyAs Tryd.prog [9, 9] us → WC T xs 8 us st0 (fun v _ => v = .bool true) := by
  intro us h
  cases h with
  | cons t a ts vs h1 hs =>
    cases hs with
    | cons t b ts vs h2 hs =>
      cases hs
      obtain ⟨s, rfl, hs⟩ := str_arg Tryd.underlying9 h1
      obtain ⟨u, rfl, hu⟩ := str_arg Tryd.underlying9 h2
      simp only [reachBytes] at hs hu
      exact lines_law s u (by simp only [big]; omega) (by simp only [big]; omega) st0
end Go.Am.L1
