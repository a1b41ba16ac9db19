/- A part of the proof of sourceLines. Conditions: none. -/
import Derived.Test.YtjhbakfgoaeeoaaDoorAmN3
import Derived.Test.YtjhbakfgoaeeoaaDoorAmY6
import Derived.Test.YtjhbakfgoaeeoaaDoorShelf
namespace Go.Am.S1
open Go.Proofs
set_option maxRecDepth 100000

theorem hX (m : Int) : ∀ f h, xs f = some h → ∀ args s v s', h args s = some (v, s') → CallC (Gm m) Tryd.prog f args s v s' := by
  intro f h hx
  unfold xs at hx
  split at hx
  · rename_i hf; subst hf; cases hx
    exact count_callC (enters_of Tryd.func24 (by kernel_rfl) rfl) (fun s c w => Tryd.strings_Count_one s c w)
  split at hx
  · rename_i hf; subst hf; cases hx
    exact join_callC (enters_of Tryd.func25 (by kernel_rfl) rfl) (fun bk o c xs sep w h1 h2 h3 h4 h5 => Tryd.strings_Join bk o c xs sep w h1 h2 h3 h4 h5)
  split at hx
  · rename_i hf; subst hf; cases hx
    exact split_callC (g := 1) (m := m) (by simp [Gm]) (enters_of Tryd.func35 (by kernel_rfl) rfl) (fun s sep m w h1 h2 h3 => Tryd.strings_Split s sep m w h1 h2 h3)
  split at hx
  · rename_i hf; subst hf; cases hx
    exact idx_callC (enters_of Tryd.func53 (by kernel_rfl) rfl) (fun s c w => Tryd.strings_IndexByte s c w)
  split at hx
  · rename_i hf; subst hf; cases hx
    exact last_callC (enters_of Tryd.func54 (by kernel_rfl) rfl) (fun s c h w => Tryd.strings_LastIndexByte s c h w)
  split at hx
  · rename_i hf; subst hf; cases hx
    exact clone_callC (enters_of Tryd.func80 (by kernel_rfl) rfl) (fun s w h => Tryd.stringslite_Clone s w h)
  · cases hx

theorem glob (m : Int) {W : World} (h : W.cell? ⟨1, 0, none⟩ = some (.int .i64 m)) : GlobR (Gm m) (rho0 W) W 0 := by
  intro g cs hg
  unfold Gm at hg
  split at hg
  · rename_i h1
    subst h1
    cases hg
    refine .eptr _ [.int .i64 m] 1 0 (.cons _ _ _ _ (.int _ _) .nil) (at0 fun j v hj => ?_)
    cases j with
    | zero => simp at hj; subst hj; exact h
    | succ j => simp at hj
  · cases hg

theorem lines_all : ∀ us, TyAs Tryd.prog [9] us → WC T xs 6 us st0 (fun v _ => v = .bool true) := by
  intro us h
  cases h with
  | cons t a ts vs h1 hs =>
    cases hs
    obtain ⟨s, rfl, hs⟩ := str_arg Tryd.underlying9 h1
    simp only [reachBytes] at hs
    exact lines_law s (by simp only [big]; omega) st0

theorem back_all : ∀ us, TyAs Tryd.prog [9, 3] us → WC T xs 5 us st0 (fun v _ => v = .bool true) := by
  intro us h
  cases h with
  | cons t a ts vs h1 hs =>
    cases hs with
    | cons t b ts vs h2 hs =>
      cases hs
      obtain ⟨s, rfl, hs⟩ := str_arg Tryd.underlying9 h1
      obtain ⟨n, rfl, -⟩ := int_arg Tryd.underlying3 h2
      simp only [reachBytes] at hs
      exact back_law s n (by simp only [big]; omega) st0
end Go.Am.S1
