/- LayoutMoved: the library's functions by their contracts; the arguments read. Conditions: none. -/
import Derived.Test.YtjhbakfgoaeeoaaDoorAmRs
import Derived.Test.YtjhbakfgoaeeoaaDoorAmRp
import Derived.Test.YtjhbakfgoaeeoaaDoorAmSr
set_option linter.unusedSimpArgs false
set_option linter.unusedVariables false
namespace Go.Am.Y2
open Go.Am.L1 (big)
open Go.Proofs
set_option maxRecDepth 100000

theorem hX (m : Int) : ∀ f h, zx f = some h → ∀ args s v s', h args s = some (v, s') → CallC (Y1.Gm m) Tryd.prog f args s v s' := by
  intro f h hx
  unfold zx at hx
  split at hx
  · rename_i hf; subst hf; cases hx
    exact rep_callC (enters_of Tryd.func37 (by kernel_rfl) rfl) (fun s c w h1 h2 => Tryd.strings_Repeat s c w h1 h2)
  split at hx
  · rename_i hf; subst hf; cases hx
    exact rpl_callC (g := 1) (m := m) (by simp [Y1.Gm]) (enters_of Tryd.func38 (by kernel_rfl) rfl) (fun s o n m w h1 h2 h3 h4 => Tryd.strings_ReplaceAll s o n m w h1 h2 h3 h4)
  · exact Y1.hX m f h hx

/-- What the bound of bulk leaves. -/
def R0 : Nat := 1048576 * 16
theorem moved_all : ∀ us, TyAsR R0 Tryd.prog [9, 3] us → WC TT zx 11 us st0 (fun v _ => v = .bool true) := by
  intro us h
  cases h with
  | cons t a ts vs h1 hs =>
    cases hs with
    | cons t b ts vs h2 hs =>
      cases hs
      obtain ⟨s, rfl, hs⟩ := str_arg Tryd.underlying9 h1
      obtain ⟨i, rfl, -⟩ := int_arg Tryd.underlying3 h2
      simp only [R0] at hs
      exact moved_law s i hs
end Go.Am.Y2
