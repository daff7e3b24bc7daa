/- comb: the reference's search, in plain Lean. Conditions: none. -/
import Derived.Test.YtemehoioeoohmaaGa
namespace Go.Proofs.Ytemehoioeoohmaa
open Go Go.Vv Go.Proofs
set_option linter.unusedSimpArgs false
set_option linter.unusedVariables false
set_option linter.unusedSectionVars false
/-- Is the last cell of a queue this one? -/
def ends (b : Ja) (Q : List Seen) : Bool := match Q[Q.length - 1]? with | some s => Kv s.cell b | none => false
section
variable {r : Jk} (hL : Lim r) {a b : Ja} (ha : In r a)
include hL ha
end
end Go.Proofs.Ytemehoioeoohmaa
