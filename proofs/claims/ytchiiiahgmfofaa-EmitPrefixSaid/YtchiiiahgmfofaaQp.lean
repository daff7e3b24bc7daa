/- emit: the commands of the first operations are the first commands. Conditions: none. -/
import Derived.Test.YtchiiiahgmfofaaQm
namespace Go.Proofs.Ytchiiiahgmfofaa
open Go Go.Vv Go.Proofs
set_option linter.unusedSimpArgs false
set_option linter.unusedVariables false
set_option linter.unusedSectionVars false
set_option maxRecDepth 10000
theorem amtR_prefix (s : api_Settings) : ∀ (l m : List api_Op) (n : Nat) (b : Bool) (out : List Int), (amtR s (l ++ m) n b out).1 = 0 → (amtR s l n b out).1 = 0 ∧ ∃ t, (amtR s (l ++ m) n b out).2 = (amtR s l n b out).2 ++ t
  | [], m, n, b, out, h => ⟨rfl, amtR_out s m n b out h⟩
  | o :: r, m, n, b, out, h => by
    rw [List.cons_append, amtR] at h
    split at h
    · cases h
    · rename_i hc
      obtain ⟨e0, t, e⟩ := amtR_prefix s r m _ _ _ h
      rw [List.cons_append, amtR, amtR, if_neg hc, if_neg hc]
      exact ⟨e0, t, e⟩
theorem cmdsR_out (s : api_Settings) : ∀ (l : List api_Op) (es : List Int) (a : api_Cell) (n : Nat) (fd : Int) (out o' : List api_Cmd), cmdsR s l es a n fd out = some o' → ∃ t, o' = out ++ t
  | [], es, a, n, fd, out, o', h => by unfold cmdsR at h; cases h; exact ⟨[], by simp⟩
  | o :: r, es, a, n, fd, out, o', h => by
    unfold cmdsR at h
    split at h
    · split at h
      · cases h
      · split at h
        · obtain ⟨t, rfl⟩ := cmdsR_out s r _ _ _ _ _ _ h
          exact ⟨_, by rw [List.append_assoc]⟩
        · cases h
    · cases h
theorem cmdsR_prefix (s : api_Settings) : ∀ (l m : List api_Op) (es fs : List Int) (a : api_Cell) (n : Nat) (fd : Int) (out o' : List api_Cmd), es.length = l.length → cmdsR s (l ++ m) (es ++ fs) a n fd out = some o' → ∃ d t, cmdsR s l es a n fd out = some d ∧ o' = d ++ t
  | [], m, es, fs, a, n, fd, out, o', hl, h => by
    obtain ⟨t, e⟩ := cmdsR_out s m _ _ _ _ _ _ h
    exact ⟨out, t, by unfold cmdsR; rfl, e⟩
  | o :: r, m, [], fs, a, n, fd, out, o', hl, h => by simp at hl
  | o :: r, m, e :: es, fs, a, n, fd, out, o', hl, h => by
    rw [List.cons_append, List.cons_append] at h
    unfold cmdsR at h ⊢
    split at h
    · rename_i hg
      rw [if_pos hg]
      split at h
      · cases h
      · rename_i q hq
        rw [List.headD_cons] at hq
        simp only [List.headD_cons, hq]
        split at h
        · rename_i hv
          rw [if_pos hv]
          exact cmdsR_prefix s r m es fs _ _ _ _ _ (by simpa using hl) h
        · cases h
    · cases h
theorem cmdsS_prefix {s : api_Settings} {l m : List api_Op} {c : List api_Cmd} (h : cmdsS s (l ++ m) = (c, 0)) : ∃ d t, cmdsS s l = (d, 0) ∧ c = d ++ t := by
  unfold cmdsS at h ⊢
  split at h
  · rename_i hv
    rw [if_pos hv]
    split at h
    · rename_i h0
      obtain ⟨g0, t, gt⟩ := amtR_prefix s l m 0 false [] h0
      rw [if_pos g0]
      split at h
      · cases h
      · rename_i out ho
        cases h
        rw [gt] at ho
        obtain ⟨d, t', e1, e2⟩ := cmdsR_prefix s l m _ t _ _ _ _ _ (by rw [amtR_len s l 0 false [] g0]; simp) ho
        rw [e1]
        exact ⟨d, t', rfl, e2⟩
    · cases h
  · cases h
theorem fsl_take {α : Type} {x : FS α} {k : Nat} (h : k ≤ x.l.length) : ∃ y, fsl x 0 (k : Int) = some y ∧ y.l = x.l.take k := by
  cases x with
  | nil =>
    simp only [FS.l, List.length_nil] at h
    have : k = 0 := by omega
    subst this
    exact ⟨.nil, by simp [fsl], rfl⟩
  | lst l =>
    simp only [FS.l] at h ⊢
    refine ⟨.lst (l.take k), ?_, rfl⟩
    unfold fsl
    simp only [FS.l]
    rw [if_pos (by omega)]
    simp
theorem emitPrefix_true (x : FS api_Op) (s : api_Settings) (p : Int) : t_additivelaw40_EmitPrefix x s p = some true := by
  obtain ⟨y, ey, hF⟩ := few_ok x
  obtain ⟨c, e, h1, h2⟩ := Commands_ok (s := s) y hF
  have hlen := cmdsS_len (s := s) hF
  rw [← h2] at hlen
  simp only at hlen
  unfold t_additivelaw40_EmitPrefix
  rw [ey]
  simp only
  rw [h1]
  simp only
  by_cases hc : bor (bor (ine e 0) (ilt p 0)) (igt p (flen y)) = true
  · rw [if_pos hc]; rfl
  rw [if_neg hc]
  have hc := hc
  simp only [bor_iff, ine_iff, ilt_iff, igt_iff, flen_eq, not_or, ne_eq, Decidable.not_not] at hc
  obtain ⟨⟨rfl, hp0⟩, hp1⟩ := hc
  obtain ⟨k, rfl⟩ := Int.eq_ofNat_of_zero_le (show 0 ≤ p by omega)
  have hk : k ≤ y.l.length := by omega
  obtain ⟨z, ez, hz⟩ := fsl_take hk
  have hFz : Few z.l := by
    rw [hz]
    exact ⟨by have := hF.1; rw [List.length_take]; omega, fun o ho => hF.2 o (List.mem_of_mem_take ho)⟩
  obtain ⟨d, f, h3, h4⟩ := Commands_ok (s := s) z hFz
  have hsp : cmdsS s (z.l ++ y.l.drop k) = (c.l, 0) := by rw [hz, List.take_append_drop, ← h2]
  obtain ⟨d', t, g1, g2⟩ := cmdsS_prefix hsp
  rw [g1] at h4
  have hd : d.l = d' := congrArg Prod.fst h4
  have hf : f = 0 := congrArg Prod.snd h4
  subst hf
  have hle : d.l.length ≤ c.l.length := by rw [g2, hd, List.length_append]; omega
  have c1 : ile (flen d) (flen c) = true := by rw [ile_iff, flen_eq, flen_eq]; omega
  obtain ⟨w, ew, hw⟩ := fsl_take hle
  have hdw : d.l = w.l := by rw [hw, g2, hd, List.take_left]
  have h5 := sameCmds_ok d w hdw (by omega)
  rw [ez]
  simp only
  rw [h3]
  simp only
  have c2 : band (ieq (0 : Int) 0) (ile (flen d) (flen c)) = true := by rw [c1]; rfl
  have ew' : fsl c 0 (flen d) = some w := by rw [flen_eq]; exact ew
  rw [c2, ew']
  have g1 : gOpt true (some w) = some (some w) := rfl
  rw [g1]
  simp only [Option.getD_some]
  rw [h5]
  rfl
end Go.Proofs.Ytchiiiahgmfofaa
