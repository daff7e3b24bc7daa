/- comb: the reference's search, in plain Lean. Conditions: none. -/
import Derived.Test.YtchiiiahgmfofaaBa
namespace Go.Proofs.Ytchiiiahgmfofaa
open Go Go.Vv Go.Proofs
set_option linter.unusedSimpArgs false
set_option linter.unusedVariables false
set_option linter.unusedSectionVars false
/-- Is the last cell of a queue this one? -/
def ends (b : api_Cell) (Q : List Seen) : Bool := match Q[Q.length - 1]? with | some s => q_api_Cell s.cell b | none => false
theorem found_ok (x : FS Seen) (hL : x.l.length ≤ 1000000000) (c : api_Cell) : t_additiveref34_found x c = some (fnd x.l c) := by
  obtain ⟨r, e, hr⟩ := loop_all (t_additiveref34_found_L0 x c) x.l.length hL (fun i => ∀ q, x.l[i]? = some q → ¬ q.cell = c) (fun _ => .inl true) (.inr ())
    (fun i hi _ => by
      have g1 := fget_at hi
      have c1 : ilt (i : Int) (flen x) = true := ilt_tt (by rw [flen_eq]; omega)
      refine choose_loop (q_api_Cell (x.l[i]).cell c) ?_ ?_
      · rw [q_iff]
        constructor
        · exact fun h h2 => h2 _ (List.getElem?_eq_getElem hi) h
        · intro h
          by_cases h2 : (x.l[i]).cell = c
          · exact h2
          · exact absurd (fun q hq => by rw [List.getElem?_eq_getElem hi] at hq; cases hq; exact h2) h
      · simp only [t_additiveref34_found_L0, c1, if_true, g1, q_eq, iadd_eq (a := (i : Int)) (b := 1) (by omega) (by omega)]
        rfl)
    (fun _ => by simp only [t_additiveref34_found_L0, flen_eq, ilt_ff (a := (x.l.length : Int)) (b := x.l.length) (by omega), Bool.false_eq_true, if_false])
  unfold t_additiveref34_found
  rw [e]
  have hf := fnd_iff x.l c
  rcases hr with ⟨rfl, hr⟩ | ⟨i, hi, rfl, hr, -⟩
  · have : fnd x.l c = false := by
      rw [← Bool.not_eq_true, hf]
      rintro ⟨q, hq, h⟩
      obtain ⟨k, hk, rfl⟩ := List.getElem_of_mem hq
      exact hr k hk _ (List.getElem?_eq_getElem hk) h
    rw [this]
  · have : fnd x.l c = true := by
      rw [hf]
      by_cases h2 : (x.l[i]).cell = c
      · exact ⟨_, List.getElem_mem hi, h2⟩
      · exact absurd (fun q hq => by rw [List.getElem?_eq_getElem hi] at hq; cases hq; exact h2) hr
    rw [this]
theorem last_get {x : FS Seen} (h0 : 0 < x.l.length) (h1 : x.l.length ≤ 1000000000) (b : api_Cell) : ∃ s, fget x (isub .i64 (flen x) 1) = some s ∧ q_api_Cell s.cell b = ends b x.l ∧ x.l[x.l.length - 1]? = some s := by
  have e : isub .i64 (flen x) 1 = ((x.l.length - 1 : Nat) : Int) := by rw [flen_eq, isub_eq (by omega) (by omega)]; omega
  have hi : x.l.length - 1 < x.l.length := by omega
  refine ⟨_, by rw [e]; exact fget_at hi, ?_, List.getElem?_eq_getElem hi⟩
  unfold ends
  rw [List.getElem?_eq_getElem hi]
section
variable {r : api_Region} (hL : Lim r) {a b : api_Cell} (ha : In r a)
include hL ha
theorem nbr_list {c : api_Cell} (hc : InR c) (k : Nat) (hk : k < 4) :
    fget (flit ([(⟨(iadd .i64 c.X 1), c.Y⟩ : api_Cell), (⟨(isub .i64 c.X 1), c.Y⟩ : api_Cell), (⟨c.X, (iadd .i64 c.Y 1)⟩ : api_Cell), (⟨c.X, (isub .i64 c.Y 1)⟩ : api_Cell)] : List api_Cell)) (k : Int) = some (nbr c k) := by
  unfold InR at hc
  rw [iadd_eq (a := c.X) (by omega) (by omega), isub_eq (a := c.X) (by omega) (by omega), iadd_eq (a := c.Y) (by omega) (by omega), isub_eq (a := c.Y) (by omega) (by omega)]
  refine fget_nat ?_
  have : k = 0 ∨ k = 1 ∨ k = 2 ∨ k = 3 := by omega
  rcases this with rfl | rfl | rfl | rfl <;> rfl
theorem ref_inner (i : Nat) (x0 : FS Seen) (h0 : x0.l = S r a (4 * i)) (s0 : Seen) (hs0 : (S r a (4 * i))[i]? = some s0) (hn : ∀ t, t < 4 * i → ends b (S r a t) = false) :
    ∃ y T, loopT (t_additiveref34_search_L0 r b (i : Int) (flit ([(⟨(iadd .i64 s0.cell.X 1), s0.cell.Y⟩ : api_Cell), (⟨(isub .i64 s0.cell.X 1), s0.cell.Y⟩ : api_Cell), (⟨s0.cell.X, (iadd .i64 s0.cell.Y 1)⟩ : api_Cell), (⟨s0.cell.X, (isub .i64 s0.cell.Y 1)⟩ : api_Cell)] : List api_Cell))) bigN (x0, 0) = some y ∧
      y.l = S r a T ∧ 4 * i ≤ T ∧ T ≤ 4 * i + 4 ∧ (T = 4 * i + 4 ∨ ends b (S r a T) = true) ∧ ∀ t, t < T → ends b (S r a t) = false := by
  have hin := in_range ((S_ok hL ha (4 * i)).inr s0 (List.mem_of_getElem? hs0))
  obtain ⟨y, e, T, h1, h2⟩ := loop_ok (body := t_additiveref34_search_L0 r b (i : Int) (flit ([(⟨(iadd .i64 s0.cell.X 1), s0.cell.Y⟩ : api_Cell), (⟨(isub .i64 s0.cell.X 1), s0.cell.Y⟩ : api_Cell), (⟨s0.cell.X, (iadd .i64 s0.cell.Y 1)⟩ : api_Cell), (⟨s0.cell.X, (isub .i64 s0.cell.Y 1)⟩ : api_Cell)] : List api_Cell)))
    (fun s => ∃ k : Nat, s.2 = k ∧ k ≤ 4 ∧ s.1.l = S r a (4 * i + k) ∧ ∀ t, t < 4 * i + k → ends b (S r a t) = false) (fun s => (4 - s.2).toNat)
    (fun y => ∃ T, y.l = S r a T ∧ 4 * i ≤ T ∧ T ≤ 4 * i + 4 ∧ (T = 4 * i + 4 ∨ ends b (S r a T) = true) ∧ ∀ t, t < T → ends b (S r a t) = false)
    (by
      rintro ⟨x, k'⟩ ⟨k, hk', hk, hx, ht⟩
      simp only at hk' hx
      subst hk'
      have ok := S_ok hL ha (4 * i + k)
      rw [← hx] at ok
      have hlen := ok.len
      obtain ⟨sl, gl, hl, -⟩ := last_get (x := x) ok.ne (by omega) b
      by_cases hk4 : k < 4
      · have c1 : ilt (k : Int) 4 = true := ilt_tt (by omega)
        by_cases he : ends b x.l = true
        · right
          refine ⟨x, ?_, 4 * i + k, hx, by omega, by omega, .inr (by rw [← hx]; exact he), ht⟩
          simp only [t_additiveref34_search_L0, c1, gl, gOpt_tt, Option.getD_some, q_eq, hl, he, bnot_t, band_f', Bool.false_eq_true, if_false]
        · left
          rw [Bool.not_eq_true] at he
          have gn := nbr_list (r := r) hL (a := a) ha hin k hk4
          have hcb := cb_ref hL (nbr s0.cell k)
          have hf := found_ok (flst x) (by rw [flst_l]; omega) (nbr s0.cell k)
          rw [flst_l] at hf
          have hq : x.l[i]? = some s0 := by rw [hx]; exact pre_get (S_mono r a (by omega)) hs0
          have hstep : S r a (4 * i + (k + 1)) = visit r x.l i k := by
            have e1 : (4 * i + k) / 4 = i := by omega
            have e2 : (4 * i + k) % 4 = k := by omega
            show visit r (S r a (4 * i + k)) ((4 * i + k) / 4) ((4 * i + k) % 4) = _
            rw [e1, e2, hx]
          have hfit : fits 24 (flen x + 1) = true := fits_len (l := x.l) (by omega) (by omega)
          have ht' : ∀ t, t < 4 * i + (k + 1) → ends b (S r a t) = false := fun t htl => by
            by_cases e : t = 4 * i + k
            · rw [e, ← hx]; exact he
            · exact ht t (by omega)
          have hv : visit r x.l i k = if cb r (nbr s0.cell k) = true ∧ fnd x.l (nbr s0.cell k) = false then x.l ++ [⟨nbr s0.cell k, (i : Int)⟩] else x.l := by
            unfold visit; rw [hq]
          by_cases hcbt : cb r (nbr s0.cell k) = true
          · by_cases hft : fnd x.l (nbr s0.cell k) = true
            · refine ⟨(x, ((k + 1 : Nat) : Int)), ?_, ⟨k + 1, rfl, by omega, ?_, ht'⟩, by simp only; omega⟩
              · simp only [t_additiveref34_search_L0, c1, gl, gOpt_tt, Option.getD_some, q_eq, hl, he, bnot_f, bnot_t, band_t, if_true, gn, hcb, hcbt, hf, hft, Bool.false_eq_true, if_false, isucc (i := k) (by omega)]
              · simp only; rw [hstep, hv, if_neg (by rw [hft]; simp)]
            · rw [Bool.not_eq_true] at hft
              refine ⟨(fsnoc x ⟨nbr s0.cell k, (i : Int)⟩, ((k + 1 : Nat) : Int)), ?_, ⟨k + 1, rfl, by omega, ?_, ht'⟩, by simp only; omega⟩
              · simp only [t_additiveref34_search_L0, c1, gl, gOpt_tt, Option.getD_some, q_eq, hl, he, bnot_f, bnot_t, band_t, if_true, gn, hcb, hcbt, hf, hft, hfit, isucc (i := k) (by omega)]
              · simp only [fsnoc_l]; rw [hstep, hv, if_pos ⟨hcbt, hft⟩]
          · rw [Bool.not_eq_true] at hcbt
            refine ⟨(x, ((k + 1 : Nat) : Int)), ?_, ⟨k + 1, rfl, by omega, ?_, ht'⟩, by simp only; omega⟩
            · simp only [t_additiveref34_search_L0, c1, gl, gOpt_tt, gOpt_ff, Option.getD_some, q_eq, hl, he, bnot_f, bnot_t, band_t, band_f, if_true, gn, hcb, hcbt, Bool.false_eq_true, if_false, isucc (i := k) (by omega)]
            · simp only; rw [hstep, hv, if_neg (by rw [hcbt]; simp)]
      · right
        have : k = 4 := by omega
        subst this
        have c1 : ilt ((4 : Nat) : Int) 4 = false := ilt_ff (by omega)
        refine ⟨x, ?_, 4 * i + 4, hx, by omega, by omega, .inl rfl, ht⟩
        simp only [t_additiveref34_search_L0, c1, gOpt_ff, band_f, Bool.false_eq_true, if_false])
    bigN (x0, 0) ⟨0, rfl, by omega, h0, hn⟩ (bigN_gt (by simp only; omega))
  exact ⟨y, T, e, h1, h2⟩
theorem ref_search : ∃ y T, t_additiveref34_search r a b = some y ∧ y.l = S r a T ∧ (∀ t, t < T → ends b (S r a t) = false) ∧ (ends b (S r a T) = true ∨ ∃ n, T = 4 * n ∧ (S r a T).length ≤ n) := by
  obtain ⟨y, e, T, h1, h2, h3⟩ := loop_ok (body := t_additiveref34_search_L1 r b)
    (fun s => ∃ T n : Nat, s.2 = n ∧ n ≤ 67108865 ∧ s.1.l = S r a T ∧ (∀ t, t < T → ends b (S r a t) = false) ∧ (T = 4 * n ∨ ends b (S r a T) = true)) (fun s => (67108866 - s.2).toNat)
    (fun y => ∃ T, y.l = S r a T ∧ (∀ t, t < T → ends b (S r a t) = false) ∧ (ends b (S r a T) = true ∨ ∃ n, T = 4 * n ∧ (S r a T).length ≤ n))
    (by
      rintro ⟨x, n'⟩ ⟨T, n, hn', hn, hx, ht, hT⟩
      simp only at hn' hx
      subst hn'
      have ok := S_ok hL ha T
      rw [← hx] at ok
      have hlen := ok.len
      obtain ⟨sl, gl, hl, -⟩ := last_get (x := x) ok.ne (by omega) b
      by_cases hnl : n < x.l.length
      · have c1 : ilt (n : Int) (flen x) = true := ilt_tt (by rw [flen_eq]; omega)
        by_cases he : ends b x.l = true
        · right
          refine ⟨x, ?_, T, hx, ht, .inl (by rw [← hx]; exact he)⟩
          simp only [t_additiveref34_search_L1, c1, gl, gOpt_tt, Option.getD_some, q_eq, hl, he, bnot_t, band_f', Bool.false_eq_true, if_false]
        · left
          have hT4 : T = 4 * n := by
            rcases hT with h | h
            · exact h
            · rw [← hx] at h; exact absurd h he
          subst hT4
          rw [Bool.not_eq_true] at he
          have gs := fget_at hnl
          obtain ⟨y, T', ey, hy, hT1, hT2, hT3, hT4⟩ := ref_inner hL ha (b := b) n x hx _ (by rw [← hx]; exact List.getElem?_eq_getElem hnl) ht
          refine ⟨(y, ((n + 1 : Nat) : Int)), ?_, ⟨T', n + 1, rfl, by omega, hy, hT4, ?_⟩, by simp only; omega⟩
          · simp only [t_additiveref34_search_L1, c1, gl, gOpt_tt, Option.getD_some, q_eq, hl, he, bnot_f, band_t, if_true, gs, ey, isucc (i := n) (by omega)]
          · rcases hT3 with h | h
            · exact .inl (by omega)
            · exact .inr h
      · right
        have c1 : ilt (n : Int) (flen x) = false := ilt_ff (by rw [flen_eq]; omega)
        refine ⟨x, ?_, T, hx, ht, ?_⟩
        · simp only [t_additiveref34_search_L1, c1, gOpt_ff, band_f, Bool.false_eq_true, if_false]
        · rcases hT with h | h
          · exact .inr ⟨n, h, by rw [← hx]; omega⟩
          · exact .inl h)
    bigN (flit [⟨a, -1⟩], 0) ⟨0, 0, rfl, by omega, rfl, fun t h => absurd h (by omega), .inl rfl⟩ (bigN_gt (by simp only; omega))
  refine ⟨flst y, T, ?_, by rw [flst_l]; exact h1, h2, h3⟩
  unfold t_additiveref34_search
  rw [e]
end
end Go.Proofs.Ytchiiiahgmfofaa
