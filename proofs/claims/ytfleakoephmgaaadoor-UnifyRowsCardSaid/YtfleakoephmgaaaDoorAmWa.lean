/- Guarded steps, blocks and clear in regions of no order. Conditions: none. -/
import Derived.Test.YtfleakoephmgaaaDoorAmW
set_option linter.unusedSimpArgs false
set_option linter.unusedVariables false
namespace Go.Am
set_option maxRecDepth 100000
set_option linter.unusedSimpArgs false

theorem wt_alloc {T : Nat → Option CF} {X : Ext} {d : Option Nat} {g : Option (Option Nat × Bool)} {zs : List AV} {r : List CO} {e : Env} {s : St} {U : List (Env × St) → Env → St → Prop} : WT T X (⟨d, g, .alloc zs⟩ :: r) e s U ↔ WT T X r e s (Tr e s U) := by
  refine ⟨fun ⟨n, e', s', h1, h2⟩ => ⟨n, e', s', by simpa [evRest, isAlloc] using h1, by have := h2; simp only [evTr, isAlloc, if_true] at this; exact this⟩, WT_alloc⟩

end Go.Am
