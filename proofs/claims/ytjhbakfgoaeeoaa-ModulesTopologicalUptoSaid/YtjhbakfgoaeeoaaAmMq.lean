/- The arguments of ModulesTopological read. Conditions: none. -/
import Derived.Test.YtjhbakfgoaeeoaaAmMp
import Derived.Test.YtjhbakfgoaeeoaaAmMi
namespace Go.Am.M2
open Go.Am.M1 (impc big)
open Go.Proofs
theorem topo_all : ∀ xs, TyAsR R0 Try.prog [22, 23] xs → WC T xn 5 xs st0 (fun v _ => v = .bool true) := by
  intro xs h
  cases h with
  | cons t a ts us h1 hs =>
    cases hs with
    | cons t b ts us h2 hs =>
      cases hs
      obtain ⟨l, h3, h4⟩ := args_strs h1
      obtain ⟨m, h5, h6, h7⟩ := args_imps h2
      exact topo_law h3 h5 (by simp only [big]; omega) (by simp only [big]; omega) h6 st0
end Go.Am.M2
