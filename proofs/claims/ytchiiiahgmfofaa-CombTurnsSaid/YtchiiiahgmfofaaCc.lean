/- comb: the turns of a way, in plain Lean. Conditions: none. -/
import Derived.Test.YtchiiiahgmfofaaCb
namespace Go.Proofs.Ytchiiiahgmfofaa
open Go Go.Vv Go.Proofs
set_option linter.unusedSimpArgs false
set_option linter.unusedVariables false
theorem nb_eq {p c : api_Cell} (hp : InR p) (hc : InR c) : ine (iadd .i64 (imul .i64 (((u_comb_step p c)).X) (((u_comb_step p c)).X)) (imul .i64 (((u_comb_step p c)).Y) (((u_comb_step p c)).Y))) 1 = bnot (u_additiveref34_neighbor p c) := by
  unfold InR at hp hc
  unfold u_comb_step u_additiveref34_neighbor
  simp only
  rw [isub_eq (a := c.X) (by omega) (by omega), isub_eq (a := c.Y) (by omega) (by omega), isub_eq (a := p.X) (by omega) (by omega), isub_eq (a := p.Y) (by omega) (by omega)]
  have e1 : (c.X - p.X) * (c.X - p.X) = (p.X - c.X) * (p.X - c.X) := by
    have : c.X - p.X = -(p.X - c.X) := by omega
    rw [this, Int.neg_mul_neg]
  have e2 : (c.Y - p.Y) * (c.Y - p.Y) = (p.Y - c.Y) * (p.Y - c.Y) := by
    have : c.Y - p.Y = -(p.Y - c.Y) := by omega
    rw [this, Int.neg_mul_neg]
  unfold imul
  rw [e1, e2]
  simp only [ine, ieq, bnot, bne]
section
variable (x : FS api_Cell) (hL : x.l.length ≤ 1000000)
/-- The cell at an index is in range, and a neighbor of the one before it. -/
def Good (i : Nat) : Prop := ∀ c, x.l[i]? = some c → InR c ∧ ∀ p, 0 < i → x.l[i - 1]? = some p → u_additiveref34_neighbor p c = true
include hL
theorem way_ok : ∃ r, t_comb_way x = some r ∧ (r = true ↔ ∀ i : Nat, i < x.l.length → Good x i) := by
  obtain ⟨r, e, hr⟩ := loop_ok (body := t_comb_way_L0 x x (flen x)) (fun s => 0 ≤ s ∧ s ≤ x.l.length ∧ ∀ i : Nat, (i : Int) < s → Good x i) (fun s => ((x.l.length : Int) - s).toNat)
    (fun r => (r = .inr () ∧ ∀ i : Nat, i < x.l.length → Good x i) ∨ (r = .inl false ∧ ¬ ∀ i : Nat, i < x.l.length → Good x i))
    (fun s ⟨h0, h1, h2⟩ => by
      by_cases c : s < x.l.length
      · obtain ⟨q, e⟩ := fget_in h0 c
        have next : Good x s.toNat → ∀ i : Nat, (i : Int) < s + 1 → Good x i := fun hg i hi => by
          by_cases hh : (i : Int) < s
          · exact h2 i hh
          · have : i = s.toNat := by omega
            rw [this]; exact hg
        have nolt : ¬ Good x s.toNat → ¬ ∀ i : Nat, i < x.l.length → Good x i := fun hg hh => hg (hh _ q)
        by_cases ho : InR x.l[s.toNat]
        · have ho' : bnot (u_comb_ok x.l[s.toNat]) = false := by rw [← Bool.not_eq_true, bnot_iff, ok_iff]; simpa using ho
          by_cases hs : s = 0
          · left
            refine ⟨s + 1, ?_, ⟨by omega, by omega, next ?_⟩, by omega⟩
            · simp only [t_comb_way_L0, flen_eq, ilt_tt c, e, ho', ieq_tt hs, iadd_eq (a := s) (b := 1) (by omega) (by omega), if_true, if_false, Bool.false_eq_true]
            · intro c0 hc0
              rw [List.getElem?_eq_getElem q] at hc0
              cases hc0
              exact ⟨ho, fun p hp => by omega⟩
          · have e1 : isub .i64 s 1 = s - 1 := isub_eq (by omega) (by omega)
            obtain ⟨q1, g1⟩ := fget_in (x := x) (i := s - 1) (by omega) (by omega)
            have hp : InR x.l[(s - 1).toNat] := by
              have := h2 (s - 1).toNat (by omega) _ (List.getElem?_eq_getElem q1)
              exact this.1
            have hnb := nb_eq hp ho
            have idx : s.toNat - 1 = (s - 1).toNat := by omega
            by_cases hn : u_additiveref34_neighbor x.l[(s - 1).toNat] x.l[s.toNat] = true
            · left
              refine ⟨s + 1, ?_, ⟨by omega, by omega, next ?_⟩, by omega⟩
              · rw [hn] at hnb
                simp only [t_comb_way_L0, flen_eq, ilt_tt c, e, ho', ieq_ff hs, e1, g1, hnb, bnot_t, iadd_eq (a := s) (b := 1) (by omega) (by omega), if_true, if_false, Bool.false_eq_true]
              · intro c0 hc0
                rw [List.getElem?_eq_getElem q] at hc0
                cases hc0
                refine ⟨ho, fun p _ hp' => ?_⟩
                rw [idx, List.getElem?_eq_getElem q1] at hp'
                cases hp'
                exact hn
            · right
              refine ⟨.inl false, ?_, .inr ⟨rfl, nolt fun hg => ?_⟩⟩
              · rw [Bool.not_eq_true] at hn
                rw [hn] at hnb
                simp only [t_comb_way_L0, flen_eq, ilt_tt c, e, ho', ieq_ff hs, e1, g1, hnb, bnot_f, if_true, if_false, Bool.false_eq_true]
              · exact hn ((hg _ (List.getElem?_eq_getElem q)).2 _ (by omega) (by rw [idx]; exact List.getElem?_eq_getElem q1))
        · right
          have ho' : bnot (u_comb_ok x.l[s.toNat]) = true := by rw [bnot_iff, ok_iff]; exact ho
          refine ⟨.inl false, ?_, .inr ⟨rfl, nolt fun hg => ho (hg _ (List.getElem?_eq_getElem q)).1⟩⟩
          simp only [t_comb_way_L0, flen_eq, ilt_tt c, e, ho', if_true]
      · right
        refine ⟨.inr (), ?_, .inl ⟨rfl, fun i hi => h2 i (by omega)⟩⟩
        simp only [t_comb_way_L0, flen_eq, ilt_ff c, if_false, Bool.false_eq_true]) bigN 0 ⟨by omega, by omega, fun i hi => by omega⟩ (bigN_gt (by omega))
  unfold t_comb_way
  rw [e]
  rcases hr with ⟨rfl, hr⟩ | ⟨rfl, hr⟩
  · exact ⟨true, rfl, by simpa using hr⟩
  · exact ⟨false, rfl, by simpa using hr⟩
theorem rway_ok : ∃ r, loopT (t_additiveref34_Turns_L0 x) bigN 0 = some r ∧ ((r = .inr () ∧ ∀ i : Nat, i < x.l.length → Good x i) ∨ (r = .inl 0 ∧ ¬ ∀ i : Nat, i < x.l.length → Good x i)) := by
  refine loop_ok (body := t_additiveref34_Turns_L0 x) (fun s => 0 ≤ s ∧ s ≤ x.l.length ∧ ∀ i : Nat, (i : Int) < s → Good x i) (fun s => ((x.l.length : Int) - s).toNat) _
    (fun s ⟨h0, h1, h2⟩ => ?_) bigN 0 ⟨by omega, by omega, fun i hi => by omega⟩ (bigN_gt (by omega))
  by_cases c : s < x.l.length
  · obtain ⟨q, e⟩ := fget_in h0 c
    have next : Good x s.toNat → ∀ i : Nat, (i : Int) < s + 1 → Good x i := fun hg i hi => by
      by_cases hh : (i : Int) < s
      · exact h2 i hh
      · have : i = s.toNat := by omega
        rw [this]; exact hg
    have nolt : ¬ Good x s.toNat → ¬ ∀ i : Nat, i < x.l.length → Good x i := fun hg hh => hg (hh _ q)
    by_cases ho : InR x.l[s.toNat]
    · have ho' : u_additiveref34_inRange x.l[s.toNat] = true := (range_iff _).2 ho
      by_cases hs : s = 0
      · left
        refine ⟨s + 1, ?_, ⟨by omega, by omega, next ?_⟩, by omega⟩
        · have : igt s 0 = false := igt_ff (by omega)
          simp only [t_additiveref34_Turns_L0, flen_eq, ilt_tt c, e, ho', this, bnot_t, bnot_f, band_t, band_f, bor_f, gOpt_f, iadd_eq (a := s) (b := 1) (by omega) (by omega), if_true, if_false, Bool.false_eq_true]
        · intro c0 hc0
          rw [List.getElem?_eq_getElem q] at hc0
          cases hc0
          exact ⟨ho, fun p hp => by omega⟩
      · have e1 : isub .i64 s 1 = s - 1 := isub_eq (by omega) (by omega)
        obtain ⟨q1, g1⟩ := fget_in (x := x) (i := s - 1) (by omega) (by omega)
        have idx : s.toNat - 1 = (s - 1).toNat := by omega
        have hg0 : igt s 0 = true := igt_tt (by omega)
        by_cases hn : u_additiveref34_neighbor x.l[(s - 1).toNat] x.l[s.toNat] = true
        · left
          refine ⟨s + 1, ?_, ⟨by omega, by omega, next ?_⟩, by omega⟩
          · simp only [t_additiveref34_Turns_L0, flen_eq, ilt_tt c, e, ho', hg0, bnot_t, bnot_f, band_t, band_f, bor_f, gOpt_tt, e1, g1, Option.getD_some, hn, iadd_eq (a := s) (b := 1) (by omega) (by omega), if_true, if_false, Bool.false_eq_true]
          · intro c0 hc0
            rw [List.getElem?_eq_getElem q] at hc0
            cases hc0
            refine ⟨ho, fun p _ hp' => ?_⟩
            rw [idx, List.getElem?_eq_getElem q1] at hp'
            cases hp'
            exact hn
        · right
          refine ⟨.inl 0, ?_, .inr ⟨rfl, nolt fun hg => ?_⟩⟩
          · rw [Bool.not_eq_true] at hn
            simp only [t_additiveref34_Turns_L0, flen_eq, ilt_tt c, e, ho', hg0, bnot_t, bnot_f, band_t, band_f, bor_f, gOpt_tt, e1, g1, Option.getD_some, hn, if_true]
          · exact hn ((hg _ (List.getElem?_eq_getElem q)).2 _ (by omega) (by rw [idx]; exact List.getElem?_eq_getElem q1))
    · right
      have ho' : u_additiveref34_inRange x.l[s.toNat] = false := by rw [← Bool.not_eq_true, range_iff]; exact ho
      refine ⟨.inl 0, ?_, .inr ⟨rfl, nolt fun hg => ho (hg _ (List.getElem?_eq_getElem q)).1⟩⟩
      simp only [t_additiveref34_Turns_L0, flen_eq, ilt_tt c, e, ho', bnot_f, bnot_t, band_f, gOpt_f, bor_t, if_true]
  · right
    refine ⟨.inr (), ?_, .inl ⟨rfl, fun i hi => h2 i (by omega)⟩⟩
    simp only [t_additiveref34_Turns_L0, flen_eq, ilt_ff c, if_false, Bool.false_eq_true]
omit hL in
theorem turns_body (s : Int × Int) : t_comb_Turns_L0 x s = t_additiveref34_Turns_L1 x s := by
  obtain ⟨n, i⟩ := s
  simp only [t_comb_Turns_L0, t_additiveref34_Turns_L1]
  cases ilt (iadd .i64 i 1) (flen x) with
  | false => rfl
  | true =>
    cases fget x i with
    | none => cases fget x (isub .i64 i 1) <;> rfl
    | some b =>
      cases fget x (isub .i64 i 1) with
      | none => rfl
      | some a =>
        cases fget x (iadd .i64 i 1) with
        | none => rfl
        | some d =>
          simp only [u_comb_step, ieq, ine, band, bor, bnot, bne, Bool.and_true, Bool.not_and]
          rfl
theorem turns_loop_ok : ∃ r, loopT (t_additiveref34_Turns_L1 x) bigN (0, 1) = some r := by
  obtain ⟨r, e, -⟩ := loop_ok (body := t_additiveref34_Turns_L1 x) (fun s => 1 ≤ s.2 ∧ s.2 ≤ x.l.length + 1) (fun s => ((x.l.length : Int) + 2 - s.2).toNat) (fun _ => True)
    (fun ⟨n, i⟩ ⟨h0, h1⟩ => by
      simp only at h0 h1 ⊢
      have a1 : iadd .i64 i 1 = i + 1 := iadd_eq (by omega) (by omega)
      have s1 : isub .i64 i 1 = i - 1 := isub_eq (by omega) (by omega)
      by_cases c : i + 1 < x.l.length
      · left
        obtain ⟨q0, g0⟩ := fget_in (x := x) (i := i) (by omega) (by omega)
        obtain ⟨q1, g1⟩ := fget_in (x := x) (i := i - 1) (by omega) (by omega)
        obtain ⟨q2, g2⟩ := fget_in (x := x) (i := i + 1) (by omega) (by omega)
        simp only [t_additiveref34_Turns_L1, a1, s1, flen_eq, ilt_tt c, if_true, g0, g1, g2]
        split
        · exact ⟨_, rfl, ⟨by simp only; omega, by simp only; omega⟩, by simp only; omega⟩
        · exact ⟨_, rfl, ⟨by simp only; omega, by simp only; omega⟩, by simp only; omega⟩
      · right
        exact ⟨n, by simp only [t_additiveref34_Turns_L1, a1, flen_eq, ilt_ff c, if_false, Bool.false_eq_true], trivial⟩) bigN (0, 1) ⟨by simp only; omega, by simp only; omega⟩ (bigN_gt (by simp only; omega))
  exact ⟨r, e⟩
theorem turns_same : ∃ r, t_comb_Turns x = some r ∧ t_additiveref34_Turns x = some r := by
  obtain ⟨r1, e1, h1⟩ := way_ok x hL
  obtain ⟨r2, e2, h2⟩ := rway_ok x hL
  obtain ⟨n, e3⟩ := turns_loop_ok x hL
  have eb : t_comb_Turns_L0 x = t_additiveref34_Turns_L1 x := funext fun s => turns_body x s
  unfold t_comb_Turns t_additiveref34_Turns
  rw [e1, e2, eb, e3]
  rcases h2 with ⟨rfl, h2⟩ | ⟨rfl, h2⟩
  · rw [h1.2 h2]
    exact ⟨n, rfl, rfl⟩
  · have : r1 = false := by
      rw [← Bool.not_eq_true]
      exact fun hh => h2 (h1.1 hh)
    rw [this]
    exact ⟨0, rfl, rfl⟩
end
theorem combTurns_true (x : FS api_Cell) : t_additivelaw34_CombTurns x = some true := by
  unfold t_additivelaw34_CombTurns
  by_cases h : x.l.length ≤ 200
  · obtain ⟨r, e1, e2⟩ := turns_same x (by omega)
    have c : igt (flen x) 200 = false := igt_ff (by rw [flen_eq]; omega)
    simp only [c, bnot_f, gOpt_t rfl e1, gOpt_t rfl e2, Option.getD_some, ieq_tt rfl, bor_f]
    rfl
  · have c : igt (flen x) 200 = true := igt_tt (by rw [flen_eq]; omega)
    simp only [c, bnot_t, gOpt_f, bor_t]
    rfl
end Go.Proofs.Ytchiiiahgmfofaa
