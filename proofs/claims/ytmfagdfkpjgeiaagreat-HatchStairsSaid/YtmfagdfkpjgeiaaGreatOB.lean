/- Sorting and compacting rows of numbers by the library. Conditions: the library's functions lie at the program. -/
import Derived.Test.YtmfagdfkpjgeiaaGreatOA
import Derived.Test.YtmfagdfkpjgeiaaGreatFB
import Derived.Shelf.SortM.Plain
import Derived.Shelf.SortM.SortNone
import Derived.Shelf.SlicesE.Compact
set_option linter.unusedVariables false
set_option linter.unusedSimpArgs false
namespace Go.Dn
open Go Go.Vv
theorem cptF_snoc(l:List Int)(x:Int):cptF (l++[x])=cptS (cptF l) x:=by unfold cptF;rw [List.foldl_append];rfl
end Go.Dn
