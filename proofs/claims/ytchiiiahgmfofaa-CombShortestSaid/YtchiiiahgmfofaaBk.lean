/- comb: the levels are the least numbers of steps. Conditions: none. -/
import Derived.Test.YtchiiiahgmfofaaBj
namespace Go.Proofs.Ytchiiiahgmfofaa
open Go Go.Vv Go.Proofs
set_option linter.unusedSimpArgs false
set_option linter.unusedVariables false
set_option linter.unusedSectionVars false
theorem cnt_lt (p q : Nat → Bool) (h : ∀ j, p j = true → q j = true) : ∀ N, (∃ j, j < N ∧ q j = true ∧ p j = false) → (List.range N).countP p < (List.range N).countP q
  | 0, ⟨j, hj, _⟩ => absurd hj (by omega)
  | N + 1, ⟨j, hj, h1, h2⟩ => by
    rw [List.range_succ, List.countP_append, List.countP_append]
    have hle : (List.range N).countP p ≤ (List.range N).countP q := List.countP_mono_left fun x _ => h x
    by_cases e : j = N
    · subst e
      simp [h1, h2]
      omega
    · have := cnt_lt p q h N ⟨j, by omega, h1, h2⟩
      have h3 : List.countP p [N] ≤ List.countP q [N] := List.countP_mono_left fun x _ => h x
      omega
def Lv (r : api_Region) (a : api_Cell) (n : Nat) (c : api_Cell) : Prop := Wk r a n c ∧ ∀ m, Wk r a m c → n ≤ m
structure Kn (r : api_Region) (a : api_Cell) (x : FS api_Cell) (n : Nat) (d : FS Int) : Prop where
  len : d.l.length = x.l.length
  val : ∀ j, j < x.l.length → (∃ m : Nat, gI d j = m ∧ m ≤ n ∧ Lv r a m (gC x j)) ∨ (gI d j = -1 ∧ ∀ m, m ≤ n → ¬ Wk r a m (gC x j))
def Full (r : api_Region) (a : api_Cell) (x : FS api_Cell) (d : FS Int) : Prop :=
  d.l.length = x.l.length ∧ ∀ j, j < x.l.length → (∃ m : Nat, gI d j = m ∧ Lv r a m (gC x j)) ∨ (gI d j = -1 ∧ ∀ m, ¬ Wk r a m (gC x j))
def neg (N : Nat) (d : FS Int) : Nat := (List.range N).countP fun j => decide (gI d j < 0)
theorem gC_mem {x : FS api_Cell} {j : Nat} (h : j < x.l.length) : gC x j ∈ x.l := by
  unfold gC; rw [List.getElem?_eq_getElem h]; exact List.getElem_mem h
theorem mem_gC {x : FS api_Cell} {c : api_Cell} (h : c ∈ x.l) : ∃ j, j < x.l.length ∧ gC x j = c := by
  obtain ⟨j, hj, rfl⟩ := List.getElem_of_mem h
  exact ⟨j, hj, by unfold gC; rw [List.getElem?_eq_getElem hj]; rfl⟩
section
variable {r : api_Region} {a : api_Cell} {x : FS api_Cell} (hm : ∀ c, c ∈ x.l ↔ In r c)
include hm
theorem kn_succ {n : Nat} {d0 d : FS Int} {more : Bool} (K : Kn r a x n d0) (R : Rnd x n d0 (fun _ _ => True) d more) : Kn r a x (n + 1) d := by
  refine ⟨R.len, fun j hj => ?_⟩
  have hj2 := (hm _).1 (gC_mem hj)
  rcases K.val j hj with ⟨m, e, hmn, hl⟩ | ⟨e, hno⟩
  · rcases R.val j hj with h | ⟨h1, -, -⟩
    · exact .inl ⟨m, h.trans e, by omega, hl⟩
    · omega
  · rcases R.val j hj with h | ⟨h1, h2, i, hi, hd, hadj⟩
    · right
      refine ⟨h.trans e, fun m hmn hw => ?_⟩
      by_cases hle : m ≤ n
      · exact hno m hle hw
      · have : m = n + 1 := by omega
        subst this
        cases hw with
        | step w1 w2 w3 =>
          obtain ⟨i, hi, rfl⟩ := mem_gC ((hm _).2 w1.inr)
          rcases K.val i hi with ⟨m', e', hmn', hl'⟩ | ⟨e', hno'⟩
          · by_cases hlt : m' < n
            · exact hno (m' + 1) (by omega) (.step hl'.1 w2 w3)
            · have : m' = n := by omega
              subst this
              have := R.did i j hi hj trivial e' w3 e
              omega
          · exact hno' n (Nat.le_refl _) w1
    · left
      refine ⟨n + 1, by rw [h2]; omega, Nat.le_refl _, ?_, fun m hw => ?_⟩
      · rcases K.val i hi with ⟨m', e', -, hl'⟩ | ⟨e', -⟩
        · have : m' = n := by omega
          subst this
          exact .step hl'.1 hj2 hadj
        · omega
      · by_cases h3 : m ≤ n
        · exact absurd hw (hno m h3)
        · omega
theorem kn_done {n : Nat} {d0 d : FS Int} (K : Kn r a x n d0) (R : Rnd x n d0 (fun _ _ => True) d false) : Full r a x d := by
  have hno := R.no rfl
  have hall : ∀ (m : Nat) (c : api_Cell), Wk r a m c → ∃ k, k ≤ n ∧ Wk r a k c := by
    intro m c hw
    induction hw with
    | here h => exact ⟨0, by omega, .here h⟩
    | step w1 w2 w3 ih =>
      obtain ⟨k, hk, hwk⟩ := ih
      obtain ⟨i, hi, rfl⟩ := mem_gC ((hm _).2 w1.inr)
      obtain ⟨j, hj, rfl⟩ := mem_gC ((hm _).2 w2)
      rcases K.val j hj with ⟨m', e', hmn', hl'⟩ | ⟨e', hno'⟩
      · exact ⟨m', hmn', hl'.1⟩
      · rcases K.val i hi with ⟨m2, e2, hmn2, hl2⟩ | ⟨e2, hno2⟩
        · by_cases hlt : m2 < n
          · exact ⟨m2 + 1, by omega, .step hl2.1 w2 w3⟩
          · have : m2 = n := by omega
            subst this
            have h1 := R.did i j hi hj trivial e2 w3 e'
            have h2 := hno j hj
            omega
        · exact absurd hwk (hno2 k hk)
  refine ⟨R.len, fun j hj => ?_⟩
  rw [hno j hj]
  rcases K.val j hj with ⟨m', e', hmn', hl'⟩ | ⟨e', hno'⟩
  · exact .inl ⟨m', e', hl'⟩
  · exact .inr ⟨e', fun m hw => by
      obtain ⟨k, hk, hwk⟩ := hall m _ hw
      exact hno' k hk hwk⟩
variable (hin : ∀ j, j < x.l.length → InR (gC x j)) (hx : x.l.length ≤ 13107200)
include hin hx
theorem levels_rounds {d0 : FS Int} (K0 : Kn r a x 0 d0) : ∃ y, loopT (t_additivelaw34_levels_L3 x) bigN (d0, 0) = some y ∧ ((∃ d, y = .inl d ∧ Full r a x d) ∨ ∃ d, y = .inr d ∧ Full r a x d) := by
  refine loop_ok (body := t_additivelaw34_levels_L3 x) (fun s => ∃ n : Nat, s.2 = n ∧ n ≤ x.l.length ∧ Kn r a x n s.1 ∧ neg x.l.length s.1 + n ≤ x.l.length) (fun s => (x.l.length - s.2).toNat) (fun y => (∃ d, y = .inl d ∧ Full r a x d) ∨ ∃ d, y = .inr d ∧ Full r a x d) ?_ bigN _ ⟨0, rfl, by omega, K0, ?_⟩ (bigN_gt (by simp only; omega))
  · rintro ⟨d, c⟩ ⟨n, hc, hn, K, hneg⟩
    simp only at hc K hneg
    subst hc
    by_cases hlt : n < x.l.length
    · have c1 : ilt (n : Int) (flen x) = true := ilt_tt (by rw [flen_eq]; omega)
      obtain ⟨y, ey, R⟩ := round_ok hin (by omega) (n := n) (by omega) (d0 := d) (fun j hj => by
        rcases K.val j hj with ⟨m', e', hmn', hl'⟩ | ⟨e', hno'⟩ <;> omega) K.len
      obtain ⟨d', more⟩ := y
      cases more with
      | false =>
        right
        exact ⟨.inl d', by simp only [t_additivelaw34_levels_L3, c1, if_true, ey, bnot_f], .inl ⟨d', rfl, kn_done hm K R⟩⟩
      | true =>
        left
        refine ⟨(d', ((n + 1 : Nat) : Int)), by simp only [t_additivelaw34_levels_L3, c1, if_true, ey, bnot_t, Bool.false_eq_true, if_false, isucc (i := n) (by omega)], ⟨n + 1, rfl, by omega, kn_succ hm K R, ?_⟩, by simp only; omega⟩
        obtain ⟨j, hj, h1, h2⟩ := R.yes rfl
        simp only at h1 h2 ⊢
        have hle : neg x.l.length d' < neg x.l.length d := by
          unfold neg
          have e1 : ∀ j, j ∈ List.range x.l.length → (decide (gI d' j < 0) = true ↔ (decide (j < x.l.length) && decide (gI d' j < 0)) = true) := fun j hj => by simp [List.mem_range.1 hj]
          rw [List.countP_congr e1]
          refine cnt_lt _ _ (fun j h => ?_) _ ⟨j, hj, by simp; omega, by simp; intro _; omega⟩
          simp at h ⊢
          rcases R.val j h.1 with h3 | ⟨h3, h4, -⟩
          · simp only at h3; omega
          · omega
        omega
    · right
      have c1 : ilt (n : Int) (flen x) = false := ilt_ff (by rw [flen_eq]; omega)
      refine ⟨.inr d, by simp only [t_additivelaw34_levels_L3, c1, Bool.false_eq_true, if_false], .inr ⟨d, rfl, K.len, fun j hj => ?_⟩⟩
      rcases K.val j hj with ⟨m', e', hmn', hl'⟩ | ⟨e', hno'⟩
      · exact .inl ⟨m', e', hl'⟩
      · have h0 : neg x.l.length d = 0 := by omega
        unfold neg at h0
        have := List.countP_eq_zero.1 h0 j (List.mem_range.2 hj)
        simp at this
        omega
  · simp only
    unfold neg
    have := List.countP_le_length (p := fun j => decide (gI d0 j < 0)) (l := List.range x.l.length)
    rw [List.length_range] at this
    omega
end
end Go.Proofs.Ytchiiiahgmfofaa
