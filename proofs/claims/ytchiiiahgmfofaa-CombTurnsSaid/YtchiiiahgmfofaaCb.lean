/- comb: the straight way has neighboring cells, as many as required; in plain Lean. Conditions: none. -/
import Derived.Test.YtchiiiahgmfofaaCa
namespace Go.Proofs.Ytchiiiahgmfofaa
open Go Go.Vv Go.Proofs
set_option linter.unusedSimpArgs false
set_option linter.unusedVariables false
theorem Cell.ext' {a b : api_Cell} (h1 : a.X = b.X) (h2 : a.Y = b.Y) : a = b := by cases a; cases b; simp_all
/-- Two successive cells of the straight way from a to b. -/
def Lnk (a b p q : api_Cell) : Prop := InR p ∧ InR q ∧ (p.X - q.X).natAbs + (p.Y - q.Y).natAbs = 1 ∧ (p.X = b.X ∨ q.Y = a.Y)
theorem steps_link {a b : api_Cell} (hb : InR b) : ∀ (n : Nat) (c : api_Cell), InR c → n = dist c b → (c.X = b.X ∨ c.Y = a.Y) → ∀ (i : Nat) (p q : api_Cell), (c :: steps b n c)[i]? = some p → (c :: steps b n c)[i + 1]? = some q → Lnk a b p q
  | 0, c, hc, hn, hx, i, p, q, hp, hq => by simp [steps] at hq
  | n + 1, c, hc, hn, hx, i, p, q, hp, hq => by
    obtain ⟨n1, n2⟩ := nxt_ok hb hc (by omega)
    have hx' : (nxt b c).X = b.X ∨ (nxt b c).Y = a.Y := by
      unfold nxt
      by_cases c1 : c.X < b.X
      · rw [if_pos c1]; right; rcases hx with h | h; omega; exact h
      · rw [if_neg c1]
        by_cases c2 : b.X < c.X
        · rw [if_pos c2]; right; rcases hx with h | h; omega; exact h
        · rw [if_neg c2]; left; split <;> (simp only; omega)
    cases i with
    | zero =>
      simp [steps] at hp hq
      subst hp
      subst hq
      refine ⟨hc, n1, ?_, ?_⟩
      · unfold nxt; split
        · simp only; omega
        · split
          · simp only; omega
          · split <;> (simp only; omega)
      · rcases hx with h | h
        · exact .inl h
        · by_cases hcx : c.X = b.X
          · exact .inl hcx
          · right
            unfold nxt
            by_cases c1 : c.X < b.X
            · rw [if_pos c1]; exact h
            · rw [if_neg c1, if_pos (by omega)]; exact h
    | succ i => exact steps_link hb n (nxt b c) n1 (by omega) hx' i p q (by simpa [steps] using hp) (by simpa [steps] using hq)
theorem steps_last {b : api_Cell} (hb : InR b) : ∀ (n : Nat) (c : api_Cell), InR c → n = dist c b → (c :: steps b n c)[n]? = some b
  | 0, c, hc, hn => by
    unfold dist at hn
    simp only [steps, List.getElem?_cons_zero, Option.some.injEq]
    exact Cell.ext' (by omega) (by omega)
  | n + 1, c, hc, hn => by
    obtain ⟨n1, n2⟩ := nxt_ok hb hc (by omega)
    rw [List.getElem?_cons_succ]
    exact steps_last hb n (nxt b c) n1 (by omega)
theorem sq_one {x y : Int} (h : x.natAbs + y.natAbs = 1) : x * x + y * y = 1 := by
  have hx : x = 0 ∧ (y = 1 ∨ y = -1) ∨ y = 0 ∧ (x = 1 ∨ x = -1) := by omega
  rcases hx with ⟨rfl, rfl | rfl⟩ | ⟨rfl, rfl | rfl⟩ <;> decide
theorem sq_nn {x : Int} (h : x.natAbs ≤ 1) : 0 ≤ x * x := by
  have : x = 0 ∨ x = 1 ∨ x = -1 := by omega
  rcases this with h | h | h <;> rw [h] <;> decide
theorem step_one {p q : api_Cell} (hp : InR p) (hq : InR q) (h : (p.X - q.X).natAbs + (p.Y - q.Y).natAbs = 1) : u_additivelaw34_step p q = true := by
  unfold InR at hp hq
  have hs := sq_one h
  have e1 : isub .i64 p.X q.X = p.X - q.X := isub_eq (by omega) (by omega)
  have e2 : isub .i64 p.Y q.Y = p.Y - q.Y := isub_eq (by omega) (by omega)
  have b1 := sq_nn (x := p.X - q.X) (by omega)
  have b2 := sq_nn (x := p.Y - q.Y) (by omega)
  unfold u_additivelaw34_step
  rw [e1, e2, ieq_iff, imul_eq (by omega) (by omega), imul_eq (by omega) (by omega), iadd_eq (by omega) (by omega)]
  exact hs
theorem combLines_true (a b : api_Cell) : t_additivelaw34_CombLines a b = some true := by
  unfold t_additivelaw34_CombLines
  by_cases h : InR a ∧ InR b
  · obtain ⟨ha, hb⟩ := h
    rw [straight_ok ha hb]
    have hd := dist_le ha hb
    have hlen : (a :: steps b (dist a b) a).length = dist a b + 1 := by rw [List.length_cons, steps_len]
    have hll := steps_link (a := a) hb (dist a b) a ha rfl (.inr rfl)
    have hla := steps_last hb (dist a b) a ha rfl
    generalize hL : a :: steps b (dist a b) a = L at hlen hll hla
    have hfl : flen (.lst L : FS api_Cell) = (dist a b : Int) + 1 := by rw [flen_eq, FS.l_lst, hlen]; omega
    have hloop := loop_ok (body := t_additivelaw34_CombLines_L0 a b (.lst L)) (fun s => 1 ≤ s ∧ s ≤ (dist a b : Int) + 1) (fun s => ((dist a b : Int) + 1 - s).toNat) (fun r => r = .inr ())
      (fun s ⟨h0, h1⟩ => by
        by_cases c : s < (dist a b : Int) + 1
        · left
          refine ⟨s + 1, ?_, ⟨by omega, by omega⟩, by omega⟩
          have e1 : isub .i64 s 1 = s - 1 := isub_eq (by omega) (by omega)
          obtain ⟨q1, g1⟩ := fget_in (x := (.lst L : FS api_Cell)) (i := s - 1) (by omega) (by rw [FS.l_lst]; omega)
          obtain ⟨q2, g2⟩ := fget_in (x := (.lst L : FS api_Cell)) (i := s) (by omega) (by rw [FS.l_lst]; omega)
          simp only [FS.l_lst] at q1 g1 q2 g2
          have lk := hll (s - 1).toNat _ _ (List.getElem?_eq_getElem q1) (by
            have : (s - 1).toNat + 1 = s.toNat := by omega
            rw [this]
            exact List.getElem?_eq_getElem q2)
          have st := step_one lk.1 lk.2.1 lk.2.2.1
          have cnd : bor (bnot (u_additivelaw34_step L[(s - 1).toNat] L[s.toNat])) (band (ine (L[(s - 1).toNat]).X b.X) (ine (L[s.toNat]).Y a.Y)) = false := by
            rw [← Bool.not_eq_true, bor_iff, bnot_iff, band_iff, ine_iff, ine_iff]
            rintro (h | ⟨h1, h2⟩)
            · exact h st
            · rcases lk.2.2.2 with h | h
              · exact h1 h
              · exact h2 h
          simp only [t_additivelaw34_CombLines_L0, hfl, ilt_tt c, if_true, e1, g1, g2, cnd, Bool.false_eq_true, if_false, iadd_eq (a := s) (b := 1) (by omega) (by omega)]
        · right
          exact ⟨.inr (), by simp only [t_additivelaw34_CombLines_L0, hfl, ilt_ff c, Bool.false_eq_true, if_false], rfl⟩) bigN 1 ⟨by omega, by omega⟩ (bigN_gt (by omega))
    obtain ⟨r, e, rfl⟩ := hloop
    simp only [hfl, ieq_ff (a := (dist a b : Int) + 1) (b := 0) (by omega), Bool.false_eq_true, if_false, e]
    have g0 : fget (.lst L : FS api_Cell) 0 = some a := fget_int (by omega) (by rw [FS.l_lst, ← hL]; rfl)
    have s1 : isub .i64 ((dist a b : Int) + 1) 1 = (dist a b : Int) := by rw [isub_eq (by omega) (by omega)]; omega
    have g1 : fget (.lst L : FS api_Cell) (dist a b : Int) = some b := fget_nat (by rw [FS.l_lst]; exact hla)
    have c1 : band (ieq a.X a.X) (band (ieq a.Y a.Y) true) = true := by simp [band, ieq]
    have c2 : band (ieq b.X b.X) (band (ieq b.Y b.Y) true) = true := by simp [band, ieq]
    simp only [g0, s1, g1, c1, gOpt_t rfl rfl, Option.getD_some, c2]
    have e3 : iadd .i64 (iadd .i64 1 (imax (isub .i64 a.X b.X) (isub .i64 b.X a.X))) (imax (isub .i64 a.Y b.Y) (isub .i64 b.Y a.Y)) = (dist a b : Int) + 1 := by
      unfold InR at ha hb
      rw [isub_eq (a := a.X) (by omega) (by omega), isub_eq (a := b.X) (by omega) (by omega), isub_eq (a := a.Y) (by omega) (by omega), isub_eq (a := b.Y) (by omega) (by omega), imax_eq, imax_eq, iadd_eq (a := 1) (by omega) (by omega), iadd_eq (by omega) (by omega)]
      unfold dist
      omega
    rw [e3, ieq_tt rfl]
    rfl
  · rw [straight_no h]
    have : flen (FS.nil : FS api_Cell) = 0 := rfl
    simp only [this, ieq_tt rfl, if_true]
    have : (bor (bor (bor (bor (bor (bor (bor (ilt a.X (-4096)) (ige a.X 4096)) (ilt a.Y (-4096))) (ige a.Y 4096)) (ilt b.X (-4096))) (ige b.X 4096)) (ilt b.Y (-4096))) (ige b.Y 4096)) = true := by
      simp only [bor_iff, ilt_iff, ige_iff]
      unfold InR at h
      omega
    rw [this]
    rfl
end Go.Proofs.Ytchiiiahgmfofaa
