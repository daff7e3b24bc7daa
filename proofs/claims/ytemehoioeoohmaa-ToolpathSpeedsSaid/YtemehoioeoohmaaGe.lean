/- comb: both ways answer the same; CombPaths. Conditions: none. -/
import Derived.Test.YtemehoioeoohmaaGd
namespace Go.Proofs.Ytemehoioeoohmaa
open Go Go.Vv Go.Proofs
set_option linter.unusedSimpArgs false
set_option linter.unusedVariables false
set_option linter.unusedSectionVars false
theorem Jqj (r : Jk) (a : Ja) {n : Nat} (h : (S r a (4 * n)).length ≤ n) : ∀ t, 4 * n ≤ t → S r a t = S r a (4 * n) := by
  intro t
  induction t with
  | zero => intro ht; have : 4 * n = 0 := by omega
            rw [this]
  | succ t ih =>
    intro ht
    by_cases e : 4 * n = t + 1
    · rw [e]
    · have h1 := ih (by omega)
      show Jgc r (S r a t) (t / 4) (t % 4) = _
      rw [h1]
      unfold Jgc
      rw [List.getElem?_eq_none (by omega)]
section
variable {r : Jk} (hL : Lim r) {a b : Ja}
include hL
end
end Go.Proofs.Ytemehoioeoohmaa
