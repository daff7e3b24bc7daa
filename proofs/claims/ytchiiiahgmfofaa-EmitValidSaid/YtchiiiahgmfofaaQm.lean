/- emit: how many commands and amounts there are. Conditions: none. -/
import Derived.Test.YtchiiiahgmfofaaQd
namespace Go.Proofs.Ytchiiiahgmfofaa
open Go Go.Vv Go.Proofs
set_option linter.unusedSimpArgs false
set_option linter.unusedVariables false
set_option linter.unusedSectionVars false
set_option maxRecDepth 10000
theorem cmdsR_len (s : api_Settings) : ∀ (l : List api_Op) (es : List Int) (a : api_Cell) (n : Nat) (fd : Int) (out out' : List api_Cmd), (∀ o ∈ l, o.Cells.l.length ≤ 40) → cmdsR s l es a n fd out = some out' → out'.length ≤ out.length + 41 * l.length
  | [], es, a, n, fd, out, out', hl, h => by unfold cmdsR at h; cases h; simp
  | o :: r, es, a, n, fd, out, out', hl, h => by
    unfold cmdsR at h
    split at h
    · split at h
      · cases h
      · rename_i q hq
        split at h
        · have := cmdsR_len s r _ _ _ _ _ _ (fun o ho => hl o (by simp [ho])) h
          have h2 := rawOp_len hq (hl o (by simp))
          rw [List.length_append, emitL_len] at this
          simp only [List.length_cons]; omega
        · cases h
    · cases h
theorem cmdsS_len {s : api_Settings} {l : List api_Op} (hF : Few l) : (cmdsS s l).1.length ≤ 100000 := by
  have hl := hF.1
  unfold cmdsS
  split
  · split
    · split
      · simp
      · rename_i out hout
        have := cmdsR_len s l _ _ _ _ _ _ hF.2 hout
        simp only [List.length_nil] at this ⊢; omega
    · simp
  · simp
theorem amtR_out (s : api_Settings) : ∀ (l : List api_Op) (n : Nat) (b : Bool) (out : List Int), (amtR s l n b out).1 = 0 → ∃ t, (amtR s l n b out).2 = out ++ t
  | [], n, b, out, _ => ⟨[], by simp [amtR]⟩
  | o :: r, n, b, out, h => by
    rw [amtR] at h ⊢
    split at h
    · cases h
    · rename_i hc
      rw [if_neg hc]
      obtain ⟨t, e⟩ := amtR_out s r _ _ _ h
      exact ⟨_ :: t, by rw [e, List.append_assoc, List.singleton_append]⟩
end Go.Proofs.Ytchiiiahgmfofaa
