/- comb: the law of the ways, in plain Lean. Conditions: none. -/
import Derived.Test.YtchiiiahgmfofaaBe
namespace Go.Proofs.Ytchiiiahgmfofaa
open Go Go.Vv Go.Proofs
set_option linter.unusedSimpArgs false
set_option linter.unusedVariables false
set_option linter.unusedSectionVars false
theorem count_ok (r : api_Region) (hL : Lim r) : ∃ v, t_additiveref18_Count r = some v := by
  obtain ⟨b, e, -⟩ := ref_Valid_ok r hL
  unfold t_additiveref18_Count
  rw [e]
  cases b with
  | false => exact ⟨_, rfl⟩
  | true =>
    obtain ⟨v, ev, -⟩ := loop_ok (body := t_additiveref18_Count_L1 r) (fun s => 0 ≤ s.2 ∧ s.2 ≤ r.Rows.l.length) (fun s => (r.Rows.l.length - s.2).toNat) (fun _ => True)
      (by
        rintro ⟨x, i⟩ ⟨h0, h1⟩
        simp only at h0 h1
        obtain ⟨n, rfl⟩ := Int.eq_ofNat_of_zero_le h0
        have hl := hL.1
        by_cases hlt : n < r.Rows.l.length
        · left
          have c1 : ilt (n : Int) (flen r.Rows) = true := ilt_tt (by rw [flen_eq]; omega)
          have g1 := fget_at hlt
          have hr := hL.2 _ (List.getElem_mem hlt)
          obtain ⟨w, ew, -⟩ := loop_ok (body := t_additiveref18_Count_L0 r (n : Int)) (fun s => 0 ≤ s.2 ∧ s.2 ≤ (r.Rows.l[n]).Runs.l.length) (fun s => ((r.Rows.l[n]).Runs.l.length - s.2).toNat) (fun _ => True)
            (by
              rintro ⟨y, j⟩ ⟨k0, k1⟩
              simp only at k0 k1
              obtain ⟨m, rfl⟩ := Int.eq_ofNat_of_zero_le k0
              by_cases hlm : m < (r.Rows.l[n]).Runs.l.length
              · left
                have c2 : ilt (m : Int) (flen (r.Rows.l[n]).Runs) = true := ilt_tt (by rw [flen_eq]; omega)
                have g2 := fget_at hlm
                exact ⟨_, by simp only [t_additiveref18_Count_L0, g1, c2, if_true, g2, isucc (i := m) (by omega)]; rfl, ⟨by simp only; omega, by simp only; omega⟩, by simp only; omega⟩
              · right
                have c2 : ilt (m : Int) (flen (r.Rows.l[n]).Runs) = false := ilt_ff (by rw [flen_eq]; omega)
                exact ⟨_, by simp only [t_additiveref18_Count_L0, g1, c2, Bool.false_eq_true, if_false]; rfl, trivial⟩)
            bigN (x, 0) ⟨by simp only; omega, by simp only; omega⟩ (bigN_gt (by simp only; omega))
          exact ⟨(w, ((n + 1 : Nat) : Int)), by simp only [t_additiveref18_Count_L1, c1, if_true, ew, isucc (i := n) (by omega)], ⟨by simp only; omega, by simp only; omega⟩, by simp only; omega⟩
        · right
          have c1 : ilt (n : Int) (flen r.Rows) = false := ilt_ff (by rw [flen_eq]; omega)
          exact ⟨_, by simp only [t_additiveref18_Count_L1, c1, Bool.false_eq_true, if_false]; rfl, trivial⟩)
      bigN (0, 0) ⟨by simp only; omega, by simp only; omega⟩ (bigN_gt (by have := hL.1; simp only; omega))
    refine ⟨v, ?_⟩
    simp only [bnot_t, Bool.false_eq_true, if_false, ev]
def Lim4 (r : api_Region) : Prop := r.Rows.l.length ≤ 40 ∧ ∀ w ∈ r.Rows.l, w.Runs.l.length ≤ 40
/-- The law's smallness is total, and what it lets through is within the bounds. -/
theorem small_ok4 (r : api_Region) : ∃ v, t_additivelaw18_Small r = some v ∧ (v = true → Lim4 r) := by
  unfold t_additivelaw18_Small
  by_cases h : (r.Rows.l.length : Int) > 40
  · have c0 : igt (flen r.Rows) 40 = true := igt_tt (by rw [flen_eq]; omega)
    exact ⟨false, by rw [c0]; rfl, by simp⟩
  · have c0 : igt (flen r.Rows) 40 = false := igt_ff (by rw [flen_eq]; omega)
    obtain ⟨v, ev, hv⟩ := loop_ok (body := t_additivelaw18_Small_L0 r) (fun s => ∃ n : Nat, s = n ∧ n ≤ r.Rows.l.length ∧ ∀ k w, k < n → r.Rows.l[k]? = some w → w.Runs.l.length ≤ 40) (fun s => (r.Rows.l.length - s).toNat)
      (fun v => v = .inl false ∨ (v = .inr () ∧ ∀ w ∈ r.Rows.l, w.Runs.l.length ≤ 40))
      (by
        rintro s ⟨n, rfl, hn, hk⟩
        by_cases hlt : n < r.Rows.l.length
        · have c1 : ilt (n : Int) (flen r.Rows) = true := ilt_tt (by rw [flen_eq]; omega)
          have g1 := fget_at hlt
          by_cases hb : ((r.Rows.l[n]).Runs.l.length : Int) > 40
          · right
            have c2 : igt (flen (r.Rows.l[n]).Runs) 40 = true := igt_tt (by rw [flen_eq]; omega)
            exact ⟨.inl false, by simp only [t_additivelaw18_Small_L0, c1, if_true, g1, c2], .inl rfl⟩
          · left
            have c2 : igt (flen (r.Rows.l[n]).Runs) 40 = false := igt_ff (by rw [flen_eq]; omega)
            refine ⟨((n + 1 : Nat) : Int), by simp only [t_additivelaw18_Small_L0, c1, if_true, g1, c2, Bool.false_eq_true, if_false, isucc (i := n) (by omega)], ⟨n + 1, rfl, by omega, fun k w hkn hw => ?_⟩, by omega⟩
            by_cases e : k = n
            · subst e
              rw [List.getElem?_eq_getElem hlt] at hw
              cases hw
              omega
            · exact hk k w (by omega) hw
        · right
          have c1 : ilt (n : Int) (flen r.Rows) = false := ilt_ff (by rw [flen_eq]; omega)
          refine ⟨.inr (), by simp only [t_additivelaw18_Small_L0, c1, Bool.false_eq_true, if_false], .inr ⟨rfl, fun w hw => ?_⟩⟩
          obtain ⟨k, hk2, rfl⟩ := List.getElem_of_mem hw
          exact hk k _ (by omega) (List.getElem?_eq_getElem hk2))
      bigN 0 ⟨0, rfl, by omega, fun k w hk => absurd hk (by omega)⟩ (bigN_gt (by omega))
    rw [c0]
    simp only [Bool.false_eq_true, if_false, ev]
    rcases hv with rfl | ⟨rfl, hw⟩
    · exact ⟨false, rfl, by simp⟩
    · have hL : Lim r := ⟨by omega, fun w hm => by have := hw w hm; omega⟩
      obtain ⟨c, ec⟩ := count_ok r hL
      simp only [ec]
      exact ⟨_, rfl, fun _ => ⟨by omega, hw⟩⟩
theorem Lim4.lim {r : api_Region} (h : Lim4 r) : Lim r := ⟨by have := h.1; omega, fun w hw => by have := h.2 w hw; omega⟩
theorem small_ok (r : api_Region) : ∃ v, t_additivelaw18_Small r = some v ∧ (v = true → Lim r) := by
  obtain ⟨v, e, h⟩ := small_ok4 r
  exact ⟨v, e, fun hv => (h hv).lim⟩
theorem combPaths_true (r : api_Region) (a b : api_Cell) : t_additivelaw34_CombPaths r a b = some true := by
  obtain ⟨v, ev, hv⟩ := small_ok r
  unfold t_additivelaw34_CombPaths
  rw [ev]
  cases v with
  | false => rfl
  | true =>
    have hL := hv rfl
    obtain ⟨x, y, o, e1, e2, e3, e4⟩ := paths_same hL (a := a) (b := b)
    obtain ⟨d, d1, d2⟩ := dists_same hL (a := a) (b := b)
    have ec := cells_same x y e3 (by omega)
    have q : beqB o o = true := beqB_iff.2 rfl
    have qd : ieq d d = true := ieq_iff.2 rfl
    simp only [bnot_t, Bool.false_eq_true, if_false, e1, e2, ec, q, band_t, d1, d2, gOpt_tt, Option.getD_some, qd]
    rfl
end Go.Proofs.Ytchiiiahgmfofaa
