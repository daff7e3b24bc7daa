/- comb: the distance is that of the shortest way; CombSymmetry. Conditions: none. -/
import Derived.Test.YtchiiiahgmfofaaBf
import Derived.Test.YtchiiiahgmfofaaBg
namespace Go.Proofs.Ytchiiiahgmfofaa
open Go Go.Vv Go.Proofs
set_option linter.unusedSimpArgs false
set_option linter.unusedVariables false
set_option linter.unusedSectionVars false
section
variable {r : api_Region} (hL : Lim r) {a b : api_Cell}
include hL
theorem path_spec : ∃ x o, t_comb_Path r a b = some (x, o) ∧ ((o = false ∧ x.l = [] ∧ ∀ n, ¬ Wk r a n b) ∨ (o = true ∧ In r a ∧ ∃ m u full, (Qc r a)[m]? = some u ∧ u.cell = b ∧ Ch (Qc r a) m full ∧ full.length ≤ 67108865 ∧ x.l = full.reverse)) := by
  unfold t_comb_Path
  rw [cb_prog hL a, cb_prog hL b]
  by_cases hca : cb r a = true
  case neg =>
    refine ⟨.nil, false, ?_, .inl ⟨rfl, rfl, fun n h => hca ((cb_iff hL a).2 h.ina)⟩⟩
    rw [Bool.not_eq_true] at hca
    simp [hca, gOpt, bnot, bor]
  by_cases hcb : cb r b = true
  case neg =>
    refine ⟨.nil, false, ?_, .inl ⟨rfl, rfl, fun n h => hcb ((cb_iff hL b).2 h.inr)⟩⟩
    rw [Bool.not_eq_true] at hcb
    simp [hca, hcb, gOpt, bnot, bor]
  have ha := (cb_iff hL a).1 hca
  have c0 : bor false false = false := rfl
  obtain ⟨i, ep, hp1, hp2⟩ := prog_search hL ha (b := b)
  have okp := S_ok hL ha (4 * i)
  simp only [hca, hcb, bnot_t, bnot_f, gOpt_tt, Option.getD_some, c0, Bool.false_eq_true, if_false, ep, mp_has okp]
  by_cases hf : fnd (S r a (4 * i)) b = true
  · obtain ⟨s, hs, hb⟩ := (fnd_iff _ _).1 hf
    obtain ⟨J, hJ, rfl⟩ := List.getElem_of_mem hs
    obtain ⟨full, hch, hfl⟩ := Ch.ex okp _ _ (Nat.le_refl _) hJ
    have hlenT := okp.len
    obtain ⟨x, ex, hx⟩ := prog_back okp (List.getElem?_eq_getElem hJ) hb hch (by omega)
    obtain ⟨w, ew, hw⟩ := turn_ok x (by rw [hx]; omega)
    have e2 : ieq (flen w) (flen x) = true := by rw [ieq_iff, flen_eq, flen_eq, hw, List.length_reverse]
    have hpre := S_Qc hL ha (4 * i)
    refine ⟨flst w, true, ?_, .inr ⟨rfl, ha, J, _, full, pre_get hpre (List.getElem?_eq_getElem hJ), hb, hch.pre hpre, by omega, by rw [flst_l, hw, hx]⟩⟩
    simp only [hf, bnot_t, Bool.false_eq_true, if_false, ex, ew, e2, if_true]
  · refine ⟨.nil, false, ?_, .inl ⟨rfl, rfl, fun n h => ?_⟩⟩
    · rw [Bool.not_eq_true] at hf
      simp only [hf, bnot_f, if_true]
    · have hi : (S r a (4 * i)).length ≤ i := by
        rcases hp2 with h | ⟨s, hs, e⟩
        · exact h
        · exact absurd ((fnd_iff (S r a (4 * i)) b).2 ⟨s, List.mem_of_getElem? hs, e⟩) hf
      obtain ⟨m, u, l, hu, hc, -, -⟩ := Qc_short hL ha h
      have hlt : Qc r a = S r a (4 * i) := by
        by_cases h2 : 4 * i ≤ 4 * 67108864
        · exact S_const r a hi _ h2
        · have h3 := okp.len
          omega
      rw [hlt] at hu
      exact hf ((fnd_iff _ _).2 ⟨u, List.mem_of_getElem? hu, hc⟩)
/-- The distance is the least number of steps. -/
theorem dist_spec (a b : api_Cell) : ∃ d, t_comb_Distance r a b = some d ∧ ((d = -1 ∧ ∀ n, ¬ Wk r a n b) ∨ ∃ n : Nat, d = n ∧ Wk r a n b ∧ ∀ m, Wk r a m b → n ≤ m) := by
  obtain ⟨x, o, e, h⟩ := path_spec hL (a := a) (b := b)
  unfold t_comb_Distance
  rw [e]
  rcases h with ⟨rfl, hx, hn⟩ | ⟨rfl, ha, m, u, full, hu, hb, hch, hl, hx⟩
  · exact ⟨-1, rfl, .inl ⟨rfl, hn⟩⟩
  · refine ⟨isub .i64 (flen x) 1, rfl, .inr ⟨full.length - 1, ?_, ?_, fun n hn => ?_⟩⟩
    · obtain ⟨_, _, _, rfl⟩ := hch.head
      rw [flen_eq, hx, List.length_reverse, isub_eq (by omega) (by omega)]
      simp only [List.length_cons]
      omega
    · obtain ⟨u', hu', hw⟩ := Qc_way hL ha hch
      rw [hu] at hu'
      cases hu'
      rw [hb] at hw
      exact hw
    · obtain ⟨m', u', l', hu', hc', hch', hl'⟩ := Qc_short hL ha hn
      have := (Qc_ok hL ha).inj hu hu' (hb.trans hc'.symm)
      subst this
      rw [hch.det hch']
      omega
end
def dst (a b : api_Cell) : Nat := (a.X - b.X).natAbs + (a.Y - b.Y).natAbs
theorem Wk.far {r : api_Region} {a c : api_Cell} {n : Nat} (h : Wk r a n c) : dst a c ≤ n := by
  induction h with
  | here h => simp [dst]
  | step h1 h2 h3 ih =>
    obtain ⟨k, hk, rfl⟩ := h3
    have : k = 0 ∨ k = 1 ∨ k = 2 ∨ k = 3 := by omega
    unfold dst at *
    rcases this with rfl | rfl | rfl | rfl <;> simp only [nbr] <;> omega
theorem ok_iff (c : api_Cell) : u_comb_ok c = true ↔ InR c := by
  simp only [u_comb_ok, band_iff, ige_iff, ilt_iff, InR]; omega
/-- The straight way's length. -/
theorem straight_len {a b : api_Cell} (ha : InR a) (hb : InR b) : ∃ x, t_comb_Straight a b = some x ∧ x.l.length = 1 + dst a b ∧ dst a b ≤ 16384 := by
  have hd0 : dst a b ≤ 16384 := by unfold InR dst at *; omega
  obtain ⟨y, e, hy⟩ := loop_ok (body := t_comb_Straight_L0 b) (fun s => InR s.1 ∧ s.2.l.length + dst s.1 b = 1 + dst a b) (fun s => dst s.1 b) (fun y => y.l.length = 1 + dst a b)
    (by
      rintro ⟨c, x⟩ ⟨hc, hx⟩
      simp only at hc hx
      have hfit : fits 16 (flen x + 1) = true := fits_len (l := x.l) (by omega) (by omega)
      by_cases e : q_api_Cell c b = true
      · right
        refine ⟨x, ?_, ?_⟩
        · simp only [t_comb_Straight_L0, q_eq, e, bnot_t, Bool.false_eq_true, if_false]
        · have := (q_iff _ _).1 e
          subst this
          simp [dst] at hx ⊢
          omega
      · left
        have hne : ¬ (c.X = b.X ∧ c.Y = b.Y) := fun h => e ((q_iff _ _).2 (Cell.ext' h.1 h.2))
        rw [Bool.not_eq_true] at e
        unfold InR dst at *
        by_cases c1 : c.X < b.X
        · refine ⟨(⟨c.X + 1, c.Y⟩, fsnoc x ⟨c.X + 1, c.Y⟩), ?_, ⟨⟨by simp only; omega, by simp only; omega, by simp only; omega, by simp only; omega⟩, ?_⟩, by simp only; omega⟩
          · simp only [t_comb_Straight_L0, q_eq, e, bnot_f, if_true, ilt_tt c1, hfit, iadd_eq (a := c.X) (b := 1) (by omega) (by omega)]
          · simp only [fsnoc_l, List.length_append, List.length_cons, List.length_nil]; omega
        · by_cases c2 : b.X < c.X
          · refine ⟨(⟨c.X - 1, c.Y⟩, fsnoc x ⟨c.X - 1, c.Y⟩), ?_, ⟨⟨by simp only; omega, by simp only; omega, by simp only; omega, by simp only; omega⟩, ?_⟩, by simp only; omega⟩
            · simp only [t_comb_Straight_L0, q_eq, e, bnot_f, if_true, ilt_ff c1, igt_tt c2, Bool.false_eq_true, if_false, hfit, isub_eq (a := c.X) (b := 1) (by omega) (by omega)]
            · simp only [fsnoc_l, List.length_append, List.length_cons, List.length_nil]; omega
          · by_cases c3 : c.Y < b.Y
            · refine ⟨(⟨c.X, c.Y + 1⟩, fsnoc x ⟨c.X, c.Y + 1⟩), ?_, ⟨⟨by simp only; omega, by simp only; omega, by simp only; omega, by simp only; omega⟩, ?_⟩, by simp only; omega⟩
              · simp only [t_comb_Straight_L0, q_eq, e, bnot_f, if_true, ilt_ff c1, igt_ff c2, ilt_tt c3, Bool.false_eq_true, if_false, hfit, iadd_eq (a := c.Y) (b := 1) (by omega) (by omega)]
              · simp only [fsnoc_l, List.length_append, List.length_cons, List.length_nil]; omega
            · refine ⟨(⟨c.X, c.Y - 1⟩, fsnoc x ⟨c.X, c.Y - 1⟩), ?_, ⟨⟨by simp only; omega, by simp only; omega, by simp only; omega, by simp only; omega⟩, ?_⟩, by simp only; omega⟩
              · simp only [t_comb_Straight_L0, q_eq, e, bnot_f, if_true, ilt_ff c1, igt_ff c2, ilt_ff c3, Bool.false_eq_true, if_false, hfit, isub_eq (a := c.Y) (b := 1) (by omega) (by omega)]
              · simp only [fsnoc_l, List.length_append, List.length_cons, List.length_nil]; omega)
    bigN (a, flit [a]) ⟨ha, rfl⟩ (bigN_gt (by simp only; omega))
  have h1 : bor (bnot (u_comb_ok a)) (bnot (u_comb_ok b)) = false := by rw [(ok_iff a).2 ha, (ok_iff b).2 hb]; rfl
  refine ⟨flst y, ?_, by rw [flst_l]; exact hy, hd0⟩
  unfold t_comb_Straight
  rw [h1, e]
  rfl
theorem combSymmetry_true (r : api_Region) (a b : api_Cell) : t_additivelaw34_CombSymmetry r a b = some true := by
  obtain ⟨v, ev, hv⟩ := small_ok r
  unfold t_additivelaw34_CombSymmetry
  rw [ev]
  cases v with
  | false => rfl
  | true =>
    have hL := hv rfl
    obtain ⟨d, e1, h1⟩ := dist_spec hL a b
    obtain ⟨d', e2, h2⟩ := dist_spec hL b a
    obtain ⟨z, e3, h3⟩ := dist_spec hL a a
    have hd : d = d' := by
      rcases h1 with ⟨rfl, h1⟩ | ⟨n, rfl, w1, m1⟩
      · rcases h2 with ⟨rfl, -⟩ | ⟨m, rfl, w2, -⟩
        · rfl
        · exact absurd w2.symm (h1 m)
      · rcases h2 with ⟨rfl, h2⟩ | ⟨m, rfl, w2, m2⟩
        · exact absurd w1.symm (h2 n)
        · have := m1 m w2.symm
          have := m2 n w1.symm
          omega
    subst hd
    have q : ine d d = false := by simp [ine]
    have hz : In r a → ine z 0 = false := fun ha => by
      rcases h3 with ⟨rfl, h3⟩ | ⟨n, rfl, w3, m3⟩
      · exact absurd (.here ha) (h3 0)
      · have := m3 0 (.here ha)
        have : n = 0 := by omega
        subst this
        rfl
    have c1 : bor false (band (cb r a) (ine ((if cb r a = true then some z else none).getD 0) 0)) = false := by
      by_cases h : cb r a = true
      · rw [if_pos h, h, Option.getD_some, hz ((cb_iff hL a).1 h)]; rfl
      · rw [Bool.not_eq_true] at h; rw [h]; rfl
    have g1 : gOpt (band true (cb r a)) (some z) = some (if cb r a = true then some z else none) := by
      cases cb r a <;> rfl
    simp only [bnot_t, Bool.false_eq_true, if_false, e1, e2, q, bnot_f, gOpt_tt, cb_prog hL a, Option.getD_some, e3, g1, c1]
    rcases h1 with ⟨rfl, h1⟩ | ⟨n, rfl, w1, m1⟩
    · rfl
    · have c2 : ilt (n : Int) 0 = false := ilt_ff (by omega)
      obtain ⟨x, ex, hx, hb⟩ := straight_len (in_range w1.ina) (in_range w1.inr)
      have := w1.far
      have c3 : ige (n : Int) (isub .i64 (flen x) 1) = true := by
        rw [ige_iff, flen_eq, isub_eq (by omega) (by omega)]
        omega
      simp only [c2, bnot_f, gOpt_tt, ex, Option.getD_some, c3]
      rfl
end Go.Proofs.Ytchiiiahgmfofaa
