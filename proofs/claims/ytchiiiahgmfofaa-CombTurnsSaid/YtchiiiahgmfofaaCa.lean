/- comb: the straight way, in plain Lean. Conditions: none. -/
import Derived.Test.YtchiiiahgmfofaaTd
import Derived.Test.YtchiiiahgmfofaaPy
namespace Go.Proofs.Ytchiiiahgmfofaa
open Go Go.Vv Go.Proofs
set_option linter.unusedSimpArgs false
set_option linter.unusedVariables false
def InR (c : api_Cell) : Prop := -4096 ≤ c.X ∧ c.X < 4096 ∧ -4096 ≤ c.Y ∧ c.Y < 4096
theorem ok_iff (c : api_Cell) : u_comb_ok c = true ↔ InR c := by
  simp only [u_comb_ok, band_iff, ige_iff, ilt_iff, InR]; omega
theorem range_iff (c : api_Cell) : u_additiveref34_inRange c = true ↔ InR c := by
  simp only [u_additiveref34_inRange, band_iff, ige_iff, ilt_iff, InR]; omega
def dist (a b : api_Cell) : Nat := (a.X - b.X).natAbs + (a.Y - b.Y).natAbs
/-- The next cell of the straight way. -/
def nxt (b c : api_Cell) : api_Cell :=
  if c.X < b.X then ⟨c.X + 1, c.Y⟩ else if b.X < c.X then ⟨c.X - 1, c.Y⟩ else if c.Y < b.Y then ⟨c.X, c.Y + 1⟩ else ⟨c.X, c.Y - 1⟩
def steps (b : api_Cell) : Nat → api_Cell → List api_Cell
  | 0, _ => []
  | n + 1, c => nxt b c :: steps b n (nxt b c)
theorem steps_len (b : api_Cell) : ∀ (n : Nat) (c : api_Cell), (steps b n c).length = n
  | 0, _ => rfl
  | n + 1, c => by rw [steps, List.length_cons, steps_len b n]
theorem nxt_ok {b c : api_Cell} (hb : InR b) (hc : InR c) (h : 0 < dist c b) : InR (nxt b c) ∧ dist (nxt b c) b + 1 = dist c b := by
  unfold InR dist nxt at *
  split
  · exact ⟨by simp only; omega, by simp only; omega⟩
  · split
    · exact ⟨by simp only; omega, by simp only; omega⟩
    · split
      · exact ⟨by simp only; omega, by simp only; omega⟩
      · exact ⟨by simp only; omega, by simp only; omega⟩
theorem dist_le {a b : api_Cell} (ha : InR a) (hb : InR b) : dist a b ≤ 16384 := by
  unfold InR dist at *; omega
theorem straight_ok {a b : api_Cell} (ha : InR a) (hb : InR b) : t_comb_Straight a b = some (.lst (a :: steps b (dist a b) a)) := by
  have h := loop_ok (body := t_comb_Straight_L0 b) (fun s => InR s.1 ∧ s.2 ++ steps b (dist s.1 b) s.1 = a :: steps b (dist a b) a) (fun s => dist s.1 b) (fun r => r = a :: steps b (dist a b) a)
    (fun ⟨c, out⟩ ⟨hc, ho⟩ => by
      simp only at hc ho ⊢
      have hlen : out.length + dist c b = 1 + dist a b := by
        have := congrArg List.length ho
        simp only [List.length_append, steps_len, List.length_cons] at this
        omega
      have hd := dist_le ha hb
      have hf : fits 16 (olen out + 1) = true := fits_len (by omega) (by omega)
      by_cases h0 : dist c b = 0
      · right
        refine ⟨out, ?_, by rw [h0] at ho; simpa [steps] using ho⟩
        have e1 : c.X = b.X := by unfold dist at h0; omega
        have e2 : c.Y = b.Y := by unfold dist at h0; omega
        simp [t_comb_Straight_L0, e1, e2, ieq]
      · left
        obtain ⟨n1, n2⟩ := nxt_ok hb hc (by omega)
        refine ⟨(nxt b c, out ++ [nxt b c]), ?_, ⟨n1, ?_⟩, by show dist (nxt b c) b < dist c b; omega⟩
        · have ne : bnot (band (ieq c.X b.X) (band (ieq c.Y b.Y) true)) = true := by
            rw [bnot_iff, band_iff, band_iff, ieq_iff, ieq_iff]
            unfold dist at h0; omega
          unfold InR at hc hb
          simp only [t_comb_Straight_L0, ne, if_true, hf, osnoc_eq]
          unfold nxt
          by_cases c1 : c.X < b.X
          · simp only [ilt_tt c1, if_true, c1, iadd_eq (a := c.X) (b := 1) (by omega) (by omega)]
          · simp only [ilt_ff c1, if_false, c1, Bool.false_eq_true]
            by_cases c2 : b.X < c.X
            · simp only [igt_tt c2, if_true, c2, isub_eq (a := c.X) (b := 1) (by omega) (by omega)]
            · simp only [igt_ff c2, if_false, c2, Bool.false_eq_true]
              by_cases c3 : c.Y < b.Y
              · simp only [ilt_tt c3, if_true, c3, iadd_eq (a := c.Y) (b := 1) (by omega) (by omega)]
              · simp only [ilt_ff c3, if_false, c3, Bool.false_eq_true, isub_eq (a := c.Y) (b := 1) (by omega) (by omega)]
        · rw [← ho, ← n2, steps, List.append_assoc]; rfl) bigN (a, [a]) ⟨ha, rfl⟩ (bigN_gt (by have := dist_le ha hb; simp only; omega))
  obtain ⟨r, e, rfl⟩ := h
  have c0 : bor (bnot (u_comb_ok a)) (bnot (u_comb_ok b)) = false := by
    rw [← Bool.not_eq_true, bor_iff, bnot_iff, bnot_iff, ok_iff, ok_iff]; simp [ha, hb]
  unfold t_comb_Straight
  rw [c0, olit_eq, e]
  rfl
theorem straight_no {a b : api_Cell} (h : ¬ (InR a ∧ InR b)) : t_comb_Straight a b = some .nil := by
  have c0 : bor (bnot (u_comb_ok a)) (bnot (u_comb_ok b)) = true := by
    rw [bor_iff, bnot_iff, bnot_iff, ok_iff, ok_iff]
    by_cases ha : InR a
    · exact .inr fun hb => h ⟨ha, hb⟩
    · exact .inl ha
  unfold t_comb_Straight
  rw [c0]
  rfl
theorem toward_ok {n m : Int} (h0 : -4096 ≤ n) (h1 : n < 4096) : t_additiveref34_toward n m = some (if n < m then n + 1 else n - 1) := by
  unfold t_additiveref34_toward
  by_cases c : n < m
  · rw [ilt_tt c, if_pos rfl, if_pos c, iadd_eq (by omega) (by omega)]
  · rw [ilt_ff c, if_neg (by simp), if_neg c, isub_eq (by omega) (by omega)]
theorem rstraight_ok {a b : api_Cell} (ha : InR a) (hb : InR b) : t_additiveref34_Straight a b = some (.lst (a :: steps b (dist a b) a)) := by
  have hd := dist_le ha hb
  have hlen : ∀ {c : api_Cell} {out : List api_Cell}, out ++ steps b (dist c b) c = a :: steps b (dist a b) a → out.length + dist c b = 1 + dist a b := fun {c out} ho => by
    have := congrArg List.length ho
    simp only [List.length_append, steps_len, List.length_cons] at this
    omega
  have h := loop_ok (body := t_additiveref34_Straight_L0 b) (fun s => InR s.1 ∧ s.2 ++ steps b (dist s.1 b) s.1 = a :: steps b (dist a b) a) (fun s => (s.1.X - b.X).natAbs)
    (fun r => (InR r.1 ∧ r.2 ++ steps b (dist r.1 b) r.1 = a :: steps b (dist a b) a) ∧ r.1.X = b.X)
    (fun ⟨c, out⟩ ⟨hc, ho⟩ => by
      simp only at hc ho ⊢
      have hl := hlen ho
      have hf : fits 16 (olen out + 1) = true := fits_len (by omega) (by omega)
      by_cases h0 : c.X = b.X
      · right
        refine ⟨(c, out), ?_, ⟨hc, ho⟩, h0⟩
        simp [t_additiveref34_Straight_L0, h0, ine]
      · left
        have hp : 0 < dist c b := by unfold dist; omega
        obtain ⟨n1, n2⟩ := nxt_ok hb hc hp
        have hn : nxt b c = ⟨if c.X < b.X then c.X + 1 else c.X - 1, c.Y⟩ := by
          unfold nxt
          by_cases c1 : c.X < b.X
          · rw [if_pos c1, if_pos c1]
          · rw [if_neg c1, if_neg c1, if_pos (by omega)]
        refine ⟨(nxt b c, out ++ [nxt b c]), ?_, ⟨n1, ?_⟩, ?_⟩
        · have ne : ine c.X b.X = true := ine_iff.2 h0
          unfold InR at hc
          simp only [t_additiveref34_Straight_L0, ne, if_true, toward_ok hc.1 hc.2.1, hf, osnoc_eq, hn]
        · rw [← ho, ← n2, steps, List.append_assoc]; rfl
        · rw [hn]; simp only; split <;> omega) bigN (a, [a]) ⟨ha, rfl⟩ (bigN_gt (by simp only; unfold InR at ha hb; omega))
  obtain ⟨⟨c1, out1⟩, e, ⟨hc1, ho1⟩, hx⟩ := h
  simp only at hc1 ho1 hx
  have h2 := loop_ok (body := t_additiveref34_Straight_L1 b) (fun s => InR s.1 ∧ s.1.X = b.X ∧ s.2 ++ steps b (dist s.1 b) s.1 = a :: steps b (dist a b) a) (fun s => (s.1.Y - b.Y).natAbs)
    (fun r => r = a :: steps b (dist a b) a)
    (fun ⟨c, out⟩ ⟨hc, hx, ho⟩ => by
      simp only at hc hx ho ⊢
      have hl := hlen ho
      have hf : fits 16 (olen out + 1) = true := fits_len (by omega) (by omega)
      by_cases h0 : c.Y = b.Y
      · right
        refine ⟨out, ?_, ?_⟩
        · simp [t_additiveref34_Straight_L1, h0, ine]
        · have : dist c b = 0 := by unfold dist; omega
          rw [this] at ho; simpa [steps] using ho
      · left
        have hp : 0 < dist c b := by unfold dist; omega
        obtain ⟨n1, n2⟩ := nxt_ok hb hc hp
        have hn : nxt b c = ⟨c.X, if c.Y < b.Y then c.Y + 1 else c.Y - 1⟩ := by
          unfold nxt
          rw [if_neg (by omega), if_neg (by omega)]
          split <;> rfl
        refine ⟨(nxt b c, out ++ [nxt b c]), ?_, ⟨n1, ?_, ?_⟩, ?_⟩
        · have ne : ine c.Y b.Y = true := ine_iff.2 h0
          unfold InR at hc
          simp only [t_additiveref34_Straight_L1, ne, if_true, toward_ok hc.2.2.1 hc.2.2.2, hf, osnoc_eq, hn]
        · rw [hn]; exact hx
        · rw [← ho, ← n2, steps, List.append_assoc]; rfl
        · rw [hn]; simp only; split <;> omega) bigN (c1, out1) ⟨hc1, hx, ho1⟩ (bigN_gt (by simp only; unfold InR at hc1 hb; omega))
  obtain ⟨r, e2, rfl⟩ := h2
  have c0 : bor (bnot (u_additiveref34_inRange a)) (bnot (u_additiveref34_inRange b)) = false := by
    rw [← Bool.not_eq_true, bor_iff, bnot_iff, bnot_iff, range_iff, range_iff]; simp [ha, hb]
  unfold t_additiveref34_Straight
  rw [c0, if_neg (by simp), if_pos (fits_small (by omega) (by omega) (by omega)), osnoc_eq, List.nil_append, e]
  simp only
  rw [e2]
theorem rstraight_no {a b : api_Cell} (h : ¬ (InR a ∧ InR b)) : t_additiveref34_Straight a b = some .nil := by
  have c0 : bor (bnot (u_additiveref34_inRange a)) (bnot (u_additiveref34_inRange b)) = true := by
    rw [bor_iff, bnot_iff, bnot_iff, range_iff, range_iff]
    by_cases ha : InR a
    · exact .inr fun hb => h ⟨ha, hb⟩
    · exact .inl ha
  unfold t_additiveref34_Straight
  rw [c0]
  rfl
/-- Equal lists are found equal. -/
theorem cells_same (x y : FS api_Cell) (hxy : x.l = y.l) (hl : x.l.length ≤ 1000000) : t_additivelaw34_cells x y = some true := by
  have h := loop_ok (body := t_additivelaw34_cells_L0 x y) (fun s => 0 ≤ s ∧ s ≤ x.l.length) (fun s => ((x.l.length : Int) - s).toNat) (fun r => r = .inr ())
    (fun s ⟨h0, h1⟩ => by
      by_cases c : s < x.l.length
      · left
        obtain ⟨q, e⟩ := fget_in h0 c
        have e2 : fget y s = some x.l[s.toNat] := fget_int h0 (by rw [← hxy]; exact List.getElem?_eq_getElem q)
        refine ⟨s + 1, ?_, ⟨by omega, by omega⟩, by omega⟩
        simp [t_additivelaw34_cells_L0, flen_eq, ilt_tt c, e, e2, ieq, iadd_eq (a := s) (b := 1) (by omega) (by omega)]
      · right
        refine ⟨.inr (), ?_, rfl⟩
        simp [t_additivelaw34_cells_L0, flen_eq, ilt_ff c]) bigN 0 ⟨by omega, by omega⟩ (bigN_gt (by omega))
  obtain ⟨r, e, rfl⟩ := h
  unfold t_additivelaw34_cells
  have : ine (flen x) (flen y) = false := by rw [flen_eq, flen_eq, hxy]; simp [ine]
  rw [this, e]
  rfl
theorem combStraight_true (a b : api_Cell) : t_additivelaw34_CombStraight a b = some true := by
  unfold t_additivelaw34_CombStraight
  by_cases h : InR a ∧ InR b
  · rw [straight_ok h.1 h.2, rstraight_ok h.1 h.2]
    simp only
    rw [cells_same _ _ rfl (by have := dist_le h.1 h.2; simp only [FS.l_lst, List.length_cons, steps_len]; omega)]
    rfl
  · rw [straight_no h, rstraight_no h]
    simp only
    rw [cells_same _ _ rfl (by simp [FS.l])]
    rfl
end Go.Proofs.Ytchiiiahgmfofaa
