/- The library's sort and compact of strings, as the abstract machine has them. Conditions: none. -/
import Derived.Test.YtfleakoephmgaaaDoorUoC
import Derived.Sort.Grow
import Derived.Sort.EncStr
import Derived.Lib.SlicesCompact
set_option linter.unusedSimpArgs false
set_option linter.unusedVariables false
namespace Go.Am
open Go.RowKit Go.Proofs
open Go.Sort (putRow mapBlock putCells onCells Holds grow grow_empty)

section
variable {ρ : Rho} {s : St} {w : World}

end

section
variable {G : Glob} {P : Program} {f : Nat}

end
end Go.Am
