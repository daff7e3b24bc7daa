/- comb: both ways answer the same; CombPaths. Conditions: none. -/
import Derived.Test.YtchiiiahgmfofaaBd
namespace Go.Proofs.Ytchiiiahgmfofaa
open Go Go.Vv Go.Proofs
set_option linter.unusedSimpArgs false
set_option linter.unusedVariables false
set_option linter.unusedSectionVars false
theorem fnd_ends {b : api_Cell} {Q : List Seen} (h : ends b Q = true) : fnd Q b = true := by
  unfold ends at h
  cases e : Q[Q.length - 1]? with
  | none => rw [e] at h; cases h
  | some s =>
    rw [e] at h
    exact (fnd_iff Q b).2 ⟨s, List.mem_of_getElem? e, (q_iff _ _).1 h⟩
theorem fnd_snoc (b : api_Cell) (Q : List Seen) (x : Seen) : fnd (Q ++ [x]) b = (fnd Q b || ends b (Q ++ [x])) := by
  have e : (Q ++ [x])[(Q ++ [x]).length - 1]? = some x := by simp
  unfold ends
  rw [e]
  simp [fnd]
theorem visit_cases (r : api_Region) (Q : List Seen) (i k : Nat) : visit r Q i k = Q ∨ ∃ x, visit r Q i k = Q ++ [x] := by
  unfold visit
  split
  · exact .inl rfl
  · split
    · exact .inr ⟨_, rfl⟩
    · exact .inl rfl
theorem nofnd (r : api_Region) (a b : api_Cell) {T : Nat} : (∀ t, t < T → ends b (S r a t) = false) → ∀ t, t < T → fnd (S r a t) b = false := by
  intro h t
  induction t with
  | zero =>
    intro ht
    have := h 0 ht
    simpa [fnd, ends, S] using this
  | succ t ih =>
    intro ht
    have h1 := ih (by omega)
    have h2 := h (t + 1) ht
    have e : S r a (t + 1) = visit r (S r a t) (t / 4) (t % 4) := rfl
    rcases visit_cases r (S r a t) (t / 4) (t % 4) with h3 | ⟨x, h3⟩
    · rw [e, h3]; exact h1
    · rw [e, h3] at h2 ⊢
      rw [fnd_snoc, h1, h2]; rfl
theorem S_const (r : api_Region) (a : api_Cell) {n : Nat} (h : (S r a (4 * n)).length ≤ n) : ∀ t, 4 * n ≤ t → S r a t = S r a (4 * n) := by
  intro t
  induction t with
  | zero => intro ht; have : 4 * n = 0 := by omega
            rw [this]
  | succ t ih =>
    intro ht
    by_cases e : 4 * n = t + 1
    · rw [e]
    · have h1 := ih (by omega)
      show visit r (S r a t) (t / 4) (t % 4) = _
      rw [h1]
      unfold visit
      rw [List.getElem?_eq_none (by omega)]
theorem fnd_pre {Q Q' : List Seen} (h : Q <+: Q') {b : api_Cell} (hf : fnd Q b = true) : fnd Q' b = true := by
  obtain ⟨s, hs, e⟩ := (fnd_iff Q b).1 hf
  exact (fnd_iff Q' b).2 ⟨s, h.subset hs, e⟩
section
variable {r : api_Region} (hL : Lim r) {a b : api_Cell}
include hL
/-- Both ways are the same way. -/
theorem paths_same : ∃ x y o, t_comb_Path r a b = some (x, o) ∧ t_additiveref34_Path r a b = some (y, o) ∧ x.l = y.l ∧ x.l.length ≤ 67108865 := by
  unfold t_comb_Path t_additiveref34_Path
  rw [cb_prog hL a, cb_prog hL b, cb_ref hL a, cb_ref hL b]
  by_cases hca : cb r a = true
  case neg =>
    rw [Bool.not_eq_true] at hca
    exact ⟨.nil, .nil, false, by simp [hca, gOpt, bnot, bor], by simp [hca, gOpt, bnot, bor], rfl, by simp [FS.l]⟩
  by_cases hcb : cb r b = true
  case neg =>
    rw [Bool.not_eq_true] at hcb
    exact ⟨.nil, .nil, false, by simp [hca, hcb, gOpt, bnot, bor], by simp [hca, hcb, gOpt, bnot, bor], rfl, by simp [FS.l]⟩
  have ha := (cb_iff hL a).1 hca
  have c0 : bor false false = false := rfl
  obtain ⟨i, ep, hp1, hp2⟩ := prog_search hL ha (b := b)
  obtain ⟨v, T, er, hv, hT1, hT2⟩ := ref_search hL ha (b := b)
  have okp := S_ok hL ha (4 * i)
  have okr := S_ok hL ha T
  have hn := nofnd r a b hT1
  have okv := okr
  rw [← hv] at okv
  have hvl := okv.len
  obtain ⟨sl, gl, hl, hlast⟩ := last_get (x := v) okv.ne (by omega) b
  simp only [hca, hcb, bnot_t, bnot_f, gOpt_tt, Option.getD_some, c0, Bool.false_eq_true, if_false, ep, er, mp_has okp, gl, q_eq, hl]
  by_cases hf : fnd (S r a (4 * i)) b = true
  · have hTi : T ≤ 4 * i := by
      by_cases h : T ≤ 4 * i
      · exact h
      · have := hn (4 * i) (by omega); rw [hf] at this; cases this
    have he : ends b (S r a T) = true := by
      rcases hT2 with h | ⟨n, rfl, h⟩
      · exact h
      · by_cases he : ends b (S r a (4 * n)) = true
        · exact he
        · rw [Bool.not_eq_true] at he
          have h1 := nofnd r a b (T := 4 * n + 1) (fun t ht => by
            by_cases e : t = 4 * n
            · rw [e]; exact he
            · exact hT1 t (by omega)) (4 * n) (by omega)
          rw [← S_const r a h (4 * i) hTi, hf] at h1
          cases h1
    have hb : sl.cell = b := by
      rw [← hv, ← hl] at he
      exact (q_iff _ _).1 he
    rw [hv] at hlast
    have hJ : (S r a T).length - 1 < (S r a T).length := by have := okr.ne; omega
    obtain ⟨full, hch, hfl⟩ := Ch.ex okr _ _ (Nat.le_refl _) hJ
    have hlenT := okr.len
    have hchp := hch.pre (S_mono r a hTi)
    have hsp := pre_get (S_mono r a hTi) hlast
    obtain ⟨x, ex, hx⟩ := prog_back okp hsp hb hchp (by omega)
    obtain ⟨y, ey, hy⟩ := ref_back okr hv hch (by omega) hJ hlenT
    obtain ⟨z, ez, hz⟩ := ref_turn y (by rw [hy]; omega)
    obtain ⟨w, ew, hw⟩ := turn_ok x (by rw [hx]; omega)
    have e1 : isub .i64 (flen v) 1 = (((S r a T).length - 1 : Nat) : Int) := by
      rw [flen_eq, hv, isub_eq (by omega) (by omega)]
      have := okr.ne
      omega
    have e2 : ieq (flen w) (flen x) = true := by rw [ieq_iff, flen_eq, flen_eq, hw, List.length_reverse]
    refine ⟨flst w, z, true, ?_, ?_, by rw [flst_l, hw, hz, hx, hy], by rw [flst_l, hw, List.length_reverse, hx]; omega⟩
    · simp only [hf, bnot_t, Bool.false_eq_true, if_false, ex, ew, e2, if_true]
    · rw [hv, he, e1]
      simp only [bnot_t, Bool.false_eq_true, if_false, ey, ez]
  · rw [Bool.not_eq_true] at hf
    have he : ends b (S r a T) = false := by
      have hi : (S r a (4 * i)).length ≤ i := by
        rcases hp2 with h | ⟨s, hs, e⟩
        · exact h
        · have := (fnd_iff (S r a (4 * i)) b).2 ⟨s, List.mem_of_getElem? hs, e⟩
          rw [hf] at this
          cases this
      rw [← Bool.not_eq_true]
      intro h
      have h1 := fnd_ends h
      by_cases h2 : T ≤ 4 * i
      · have := fnd_pre (S_mono r a h2) h1
        rw [hf] at this
        cases this
      · rw [S_const r a hi T (by omega), hf] at h1
        cases h1
    refine ⟨.nil, .nil, false, ?_, ?_, rfl, by simp [FS.l]⟩
    · simp only [hf, bnot_f, if_true]
    · rw [hv, he]
      simp only [bnot_f, if_true]
theorem dists_same : ∃ d, t_comb_Distance r a b = some d ∧ t_additiveref34_Distance r a b = some d := by
  obtain ⟨x, y, o, e1, e2, e3, -⟩ := paths_same hL (a := a) (b := b)
  unfold t_comb_Distance t_additiveref34_Distance
  rw [e1, e2]
  refine ⟨if bnot o = true then -1 else isub .i64 (flen x) 1, ?_, ?_⟩
  · cases o <;> rfl
  · have : flen x = flen y := by rw [flen_eq, flen_eq, e3]
    rw [this]
    cases o <;> rfl
end
theorem cells_same (x y : FS api_Cell) (h : x.l = y.l) (hlen : x.l.length ≤ 1000000000) : t_additivelaw34_cells x y = some true := by
  obtain ⟨v, e, hr⟩ := loop_ok (body := t_additivelaw34_cells_L0 x y) (fun s => 0 ≤ s ∧ s ≤ x.l.length) (fun s => (x.l.length - s).toNat) (fun v => v = .inr ())
    (fun s ⟨h0, h1⟩ => by
      by_cases hlt : s < x.l.length
      · left
        obtain ⟨n, rfl⟩ := Int.eq_ofNat_of_zero_le h0
        have hn : n < x.l.length := by omega
        have c1 : ilt (n : Int) (flen x) = true := ilt_tt (by rw [flen_eq]; omega)
        have g1 := fget_at (x := x) hn
        have g2 : fget y (n : Int) = some x.l[n] := fget_nat (by rw [← h]; exact List.getElem?_eq_getElem hn)
        have q : q_api_Cell x.l[n] x.l[n] = true := (q_iff _ _).2 rfl
        refine ⟨((n + 1 : Nat) : Int), ?_, ⟨by omega, by omega⟩, by omega⟩
        simp only [t_additivelaw34_cells_L0, c1, if_true, g1, g2, q_eq, q, bnot_t, Bool.false_eq_true, if_false, isucc (i := n) (by omega)]
      · right
        refine ⟨.inr (), ?_, rfl⟩
        have c1 : ilt s (flen x) = false := ilt_ff (by rw [flen_eq]; omega)
        simp only [t_additivelaw34_cells_L0, c1, Bool.false_eq_true, if_false]) bigN 0 ⟨by omega, by omega⟩ (bigN_gt (by omega))
  have c0 : ine (flen x) (flen y) = false := by rw [flen_eq, flen_eq, h]; simp [ine]
  unfold t_additivelaw34_cells
  rw [c0, e, hr]
  rfl
end Go.Proofs.Ytchiiiahgmfofaa
