/- The abstract machine: slices.Clone hands back what it is given, nil or not. -/
import Derived.Test.YtkbdhjfjbkmkcaaGreatJT37
set_option linter.unusedSimpArgs false
set_option linter.unusedVariables false
namespace Go.Proofs.YtkbdhjfjbkmkcaaGreat.Abs
open Go Go.RowKit

section
variable {P : Program} {S B E : TypeId} (hS : P.underlying S = some (.slice E))
include hS
end

end Go.Proofs.YtkbdhjfjbkmkcaaGreat.Abs
