/- EmitValid: the program side. Conditions: none. -/
import Derived.Test.YtchiiiahgmfofaaQr
import Derived.Test.YtchiiiahgmfofaaQv
namespace Go.Proofs.Ytchiiiahgmfofaa
open Go Go.Vv Go.Proofs
set_option linter.unusedSimpArgs false
set_option linter.unusedVariables false
set_option linter.unusedSectionVars false
set_option maxRecDepth 10000
theorem val_loop {x : FS api_Op} {s : api_Settings} {c : FS api_Cmd} (hc : c.l.length ≤ 1000000) : ∀ (rest : List api_Cmd) (i : Nat) (fd la : Int) (r : Int × Int) (m : Nat), c.l.drop i = rest → (∀ d ∈ rest, Pair d ∧ Vld d) → scanV fd la rest = some r → rest.length < m →
    loopT (t_additivelaw40_EmitValid_L0 x s c) m (fd, la, (i : Int)) = some (.inr r.2)
  | [], i, fd, la, r, m, hr, hv, hs, hm => by
    obtain ⟨m, rfl⟩ : ∃ j, m = j + 1 := ⟨m - 1, by omega⟩
    have hlen : c.l.length ≤ i := by
      have := congrArg List.length hr
      rw [List.length_drop] at this
      simp at this
      omega
    have c1 : ilt (i : Int) (flen c) = false := ilt_ff (by rw [flen_eq]; omega)
    rw [scanV] at hs
    cases hs
    exact loop_dn (by simp only [t_additivelaw40_EmitValid_L0, c1, Bool.false_eq_true, if_false])
  | d :: rest, i, fd, la, r, m, hr, hv, hs, hm => by
    obtain ⟨m, rfl⟩ : ∃ j, m = j + 1 := ⟨m - 1, by omega⟩
    obtain ⟨g1, g2, g3, g4⟩ := get_drop hr
    have c1 : ilt (i : Int) (flen c) = true := ilt_tt (by rw [flen_eq]; omega)
    have f1 := fget_nat g1
    have i1 := isucc (i := i) (by omega)
    obtain ⟨hP, hV⟩ := hv d (by simp)
    obtain ⟨v, ev, hvv⟩ := rValidC_ok hP
    have := hvv.2 hV
    subst this
    rw [scanV] at hs
    have ih := fun fd' la' h => val_loop (x := x) (s := s) hc rest (i + 1) fd' la' r m g2 (fun d' hd => hv d' (by simp [hd])) h (by simp only [List.length_cons] at hm; omega)
    cases hF : hasF d with
    | true =>
      rw [hF] at hs
      simp only [true_and, if_true] at hs
      split at hs
      · cases hs
      · rename_i hne
        have cF : ine (iand .i64 d.Has 16) 0 = true := hF
        have c3 : ieq d.F fd = false := ieq_ff hne
        cases hE : hasE d with
        | true =>
          have cE : ine (iand .i64 d.Has 8) 0 = true := hE
          rw [hE, if_pos rfl] at hs
          rw [loop_nx (s' := (d.F, d.E, ((i + 1 : Nat) : Int))) (by simp only [t_additivelaw40_EmitValid_L0, c1, if_true, f1, ev, bnot_t, cF, c3, cE, Bool.false_eq_true, if_false, i1])]
          exact ih _ _ hs
        | false =>
          have cE : ine (iand .i64 d.Has 8) 0 = false := hE
          rw [hE, if_neg (by simp)] at hs
          rw [loop_nx (s' := (d.F, la, ((i + 1 : Nat) : Int))) (by simp only [t_additivelaw40_EmitValid_L0, c1, if_true, f1, ev, bnot_t, cF, c3, cE, Bool.false_eq_true, if_false, i1])]
          exact ih _ _ hs
    | false =>
      have cF : ine (iand .i64 d.Has 16) 0 = false := hF
      rw [hF] at hs
      simp only [Bool.false_eq_true, false_and, if_false] at hs
      cases hE : hasE d with
      | true =>
        have cE : ine (iand .i64 d.Has 8) 0 = true := hE
        rw [hE, if_pos rfl] at hs
        rw [loop_nx (s' := (fd, d.E, ((i + 1 : Nat) : Int))) (by simp only [t_additivelaw40_EmitValid_L0, c1, if_true, f1, ev, bnot_t, cF, cE, Bool.false_eq_true, if_false, i1])]
        exact ih _ _ hs
      | false =>
        have cE : ine (iand .i64 d.Has 8) 0 = false := hE
        rw [hE, if_neg (by simp)] at hs
        rw [loop_nx (s' := (fd, la, ((i + 1 : Nat) : Int))) (by simp only [t_additivelaw40_EmitValid_L0, c1, if_true, f1, ev, bnot_t, cF, cE, Bool.false_eq_true, if_false, i1])]
        exact ih _ _ hs
theorem emitValid_true (x : FS api_Op) (s : api_Settings) : t_additivelaw40_EmitValid x s = some true := by
  obtain ⟨y, ey, hF⟩ := few_ok x
  obtain ⟨c, e, h1, h2⟩ := Commands_ok (s := s) y hF
  obtain ⟨z, h3, h4⟩ := rAmounts_ok (s := s) y hF
  have hlen := cmdsS_len (s := s) hF
  rw [← h2] at hlen
  simp only at hlen
  unfold t_additivelaw40_EmitValid
  rw [ey]
  simp only
  rw [h1]
  simp only
  have bad : ∀ v : Int, ([], v) = (c.l, e) → v ≠ 0 → (if ine e 0 = true then some (band (ieq (flen c) 0) u_additivelaw40_awake) else none) = some true := fun v hv h0 => by
    have a1 : c.l = [] := (congrArg Prod.fst hv).symm
    have a2 : v = e := congrArg Prod.snd hv
    subst a2
    rw [if_pos (ine_iff.2 h0)]
    have : ieq (flen c) 0 = true := ieq_tt (by rw [flen_eq, a1]; rfl)
    rw [this]
    rfl
  by_cases he : ine e 0 = true
  · rw [if_pos he]
    have a1 : c.l = [] := by
      unfold cmdsS at h2
      split at h2
      · split at h2
        · split at h2
          · exact congrArg Prod.fst h2
          · have : e = 0 := congrArg Prod.snd h2
            exact absurd this (ine_iff.1 he)
        · exact congrArg Prod.fst h2
      · exact congrArg Prod.fst h2
    have : ieq (flen c) 0 = true := ieq_tt (by rw [flen_eq, a1]; rfl)
    rw [this]
    rfl
  rw [if_neg he]
  have e0 : e = 0 := Decidable.not_not.1 (fun h => he (ine_iff.2 h))
  subst e0
  unfold cmdsS at h2
  split at h2
  · rename_i hval
    have hs := okS_of hval
    split at h2
    · rename_i ha0
      split at h2
      · exact absurd (congrArg Prod.snd h2) (by simp)
      · rename_i out ho
        obtain rfl : c.l = out := congrArg Prod.fst h2
        have hA : amtR s y.l 0 false [] = (0, [] ++ (amtR s y.l 0 false []).2) := by rw [List.nil_append, ← ha0]
        obtain ⟨t, fd', k1, k2, k3⟩ := run_valid hs _ _ _ _ _ _ _ _ _ hA ho
        have k4 := k3 []
        rw [List.append_nil, scanV] at k4
        rw [List.nil_append] at k1
        have hc0 : cur s 0 false = 0 := by simp [cur, fil, vol]
        rw [hc0] at k4
        have ef := val_loop (x := y) (s := s) (c := c) (by omega) t 0 0 0 _ bigN k1 k2 k4 (bigN_gt (by rw [← k1]; omega))
        have ef : loopT (t_additivelaw40_EmitValid_L0 y s c) bigN (0, 0, 0) = some (.inr ((amtR s y.l 0 false []).2.getLastD 0)) := ef
        rw [ef]
        simp only
        rw [h3]
        simp only
        rcases h4 with ⟨hb, -⟩ | ⟨-, ⟨-, z2, z1⟩ | ⟨hb, -⟩⟩
        · rw [hval] at hb; cases hb
        · rw [z2]
          have ce : ieq (0 : Int) 0 = true := rfl
          rw [ce, ← z1]
          have hzl : z.1.l.length ≤ 30 := by
            have := amtR_len s y.l 0 false [] ha0
            rw [← z1] at this
            have := hF.1
            simp only [List.length_nil] at *
            omega
          cases hz : z.1.l with
          | nil =>
            have c1 : ieq (flen z.1) 0 = true := ieq_tt (by rw [flen_eq, hz]; rfl)
            rw [c1]
            rfl
          | cons q qs =>
            have c1 : ieq (flen z.1) 0 = false := ieq_ff (by rw [flen_eq, hz]; simp only [List.length_cons]; omega)
            have f1 : fget z.1 (isub .i64 (flen z.1) 1) = some ((q :: qs).getLastD 0) := by
              have hl : z.1.l.length = qs.length + 1 := by rw [hz]; rfl
              rw [flen_eq, hl, isub_eq (by omega) (by omega)]
              have : ((qs.length + 1 : Nat) : Int) - 1 = (qs.length : Int) := by omega
              rw [this]
              apply fget_nat
              rw [hz, List.getLastD_eq_getLast?, List.getLast?_eq_getElem?]
              simp only [List.length_cons, Nat.add_sub_cancel]
              rw [List.getElem?_eq_getElem (by simp)]
              rfl
            rw [c1, f1]
            have gg : ∀ w : Int, gOpt (band true (bnot false)) (some w) = some (some w) := fun w => rfl
            rw [gg]
            simp only [Option.getD_some]
            have c2 : ieq ((q :: qs).getLastD 0) ((q :: qs).getLastD 0) = true := ieq_tt rfl
            rw [c2]
            rfl
        · omega
    · exact absurd (congrArg Prod.snd h2) (by simp)
  · exact absurd (congrArg Prod.snd h2) (by simp)
end Go.Proofs.Ytchiiiahgmfofaa
