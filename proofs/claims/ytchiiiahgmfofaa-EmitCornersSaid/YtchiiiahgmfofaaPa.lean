/- emit: the corners of the program and those of the reference, in plain Lean. Conditions: none. -/
import Derived.Test.YtchiiiahgmfofaaTc
import Derived.Test.YtchiiiahgmfofaaPz
namespace Go.Proofs.Ytchiiiahgmfofaa
open Go Go.Vv Go.Proofs
set_option linter.unusedSimpArgs false
set_option linter.unusedVariables false
/-- The indices of the corners. -/
def cidx : List api_Cell → api_Cell → Nat → List Int
  | [], _, _ => []
  | [_], _, i => [(i : Int)]
  | c :: d :: r, a, i => if u_additiveref40_turns a c d = true then (i : Int) :: cidx (d :: r) c (i + 1) else cidx (d :: r) c (i + 1)
theorem dir_turns (a b c : api_Cell) : bnot (band (ieq ((u_emit_direction a b).X) ((u_emit_direction b c).X)) (band (ieq ((u_emit_direction a b).Y) ((u_emit_direction b c).Y)) true)) = u_additiveref40_turns a b c := by
  simp only [u_emit_direction, u_additiveref40_turns, ieq, ine, band, bor, bnot, bne, Bool.and_true, Bool.not_and]
/-- Where the indices of a rest lie. -/
theorem cidx_lt : ∀ (l : List api_Cell) (a : api_Cell) (i : Nat) (k : Int), k ∈ cidx l a i → (i : Int) ≤ k ∧ k < i + l.length
  | [], a, i, k, h => by cases h
  | [c], a, i, k, h => by
    simp only [cidx, List.mem_singleton] at h
    simp only [List.length_singleton]
    omega
  | c :: d :: r, a, i, k, h => by
    have ih := cidx_lt (d :: r) c (i + 1) k
    simp only [cidx] at h
    simp only [List.length_cons] at ih ⊢
    split at h
    · rcases List.mem_cons.1 h with h | h
      · omega
      · have := ih h; omega
    · have := ih h; omega
theorem cidx_len : ∀ (l : List api_Cell) (a : api_Cell) (i : Nat), (cidx l a i).length ≤ l.length
  | [], a, i => Nat.le_refl _
  | [c], a, i => Nat.le_refl _
  | c :: d :: r, a, i => by
    have ih := cidx_len (d :: r) c (i + 1)
    simp only [cidx]
    simp only [List.length_cons] at ih ⊢
    split
    · simp only [List.length_cons]; omega
    · omega
section
variable (x : FS api_Cell) (hL : x.l.length ≤ 1000000)
include hL
theorem turns_loop : ∀ (rest : List api_Cell) (i : Nat) (a : api_Cell) (out : List Int) (n : Nat), x.l.drop i = rest → out.length ≤ i → i ≤ x.l.length → rest.length < n →
    loopT (t_emit_turns_L0 x x (flen x)) n (a, osL out, (i : Int)) = some (osL (out ++ cidx rest a i))
  | [], i, a, out, n, hr, ho, hi, hn => by
    obtain ⟨m, rfl⟩ : ∃ m, n = m + 1 := ⟨n - 1, by omega⟩
    have hlen : x.l.length ≤ i := by
      have := congrArg List.length hr
      rw [List.length_drop] at this
      simp at this
      omega
    have c1 : ilt (i : Int) (flen x) = false := ilt_ff (by rw [flen_eq]; omega)
    refine loop_dn ?_
    cases out <;> simp [t_emit_turns_L0, osL, c1, cidx]
  | c :: rest, i, a, out, n, hr, ho, hi, hn => by
    obtain ⟨m, rfl⟩ : ∃ m, n = m + 1 := ⟨n - 1, by omega⟩
    obtain ⟨g1, g2, g3, g4⟩ := get_drop hr
    have c1 : ilt (i : Int) (flen x) = true := ilt_tt (by rw [flen_eq]; omega)
    have f1 := fget_nat g1
    have a1 : iadd .i64 (i : Int) 1 = ((i + 1 : Nat) : Int) := by rw [iadd_eq (by omega) (by omega)]; omega
    have s1 : isub .i64 (flen x) 1 = (x.l.length : Int) - 1 := by rw [flen_eq, isub_eq (by omega) (by omega)]
    have t1 : fits 8 (1 : Int) = true := fits_small (by omega) (by omega) (by omega)
    have t2 : ∀ l : List Int, l.length ≤ i → fits 8 (olen l + 1) = true := fun l hl => fits_small (by unfold olen; omega) (by unfold olen; omega) (by omega)
    cases rest with
    | nil =>
      have e1 : ieq (i : Int) (isub .i64 (flen x) 1) = true := ieq_tt (by rw [s1]; simp at g4; omega)
      have ih := turns_loop [] (i + 1) c (out ++ [(i : Int)]) m g2 (by simp; omega) (by omega) (by simp at hn ⊢; omega)
      rw [loop_nx (s' := (c, osL (out ++ [(i : Int)]), ((i + 1 : Nat) : Int))), ih]
      · simp [cidx]
      · cases out with
        | nil => simp [t_emit_turns_L0, osL, c1, f1, e1, gOpt, a1, t1, osnoc]
        | cons o r => simp [t_emit_turns_L0, osL, c1, f1, e1, gOpt, a1, t2 (o :: r) ho, osnoc]
    | cons d rest =>
      obtain ⟨q1, q2, q3, q4⟩ := get_drop g2
      have e1 : ieq (i : Int) (isub .i64 (flen x) 1) = false := ieq_ff (by rw [s1]; omega)
      have f2 : fget x ((i : Int) + 1) = some d := by
        have q := fget_nat q1
        simpa using q
      have dt := dir_turns a c d
      simp only [band_t'] at dt
      by_cases ht : u_additiveref40_turns a c d = true
      · have ih := turns_loop (d :: rest) (i + 1) c (out ++ [(i : Int)]) m g2 (by simp; omega) (by omega) (by simp at hn ⊢; omega)
        rw [loop_nx (s' := (c, osL (out ++ [(i : Int)]), ((i + 1 : Nat) : Int))), ih]
        · simp [cidx, ht]
        · cases out with
          | nil => simp [t_emit_turns_L0, osL, c1, f1, e1, gOpt, a1, f2, dt, ht, t1, osnoc]
          | cons o r => simp [t_emit_turns_L0, osL, c1, f1, e1, gOpt, a1, f2, dt, ht, t2 (o :: r) ho, osnoc]
      · have ih := turns_loop (d :: rest) (i + 1) c out m g2 (by omega) (by omega) (by simp at hn ⊢; omega)
        rw [Bool.not_eq_true] at ht
        rw [loop_nx (s' := (c, osL out, ((i + 1 : Nat) : Int))), ih]
        · simp [cidx, ht]
        · cases out with
          | nil => simp [t_emit_turns_L0, osL, c1, f1, e1, gOpt, a1, f2, dt, ht]
          | cons o r => simp [t_emit_turns_L0, osL, c1, f1, e1, gOpt, a1, f2, dt, ht]
theorem rcorners_loop : ∀ (rest : List api_Cell) (i : Nat) (a : api_Cell) (out : List Int) (n : Nat), x.l.drop i = rest → out.length ≤ i → i ≤ x.l.length → rest.length < n →
    loopT (t_additiveref40_corners_L0 x) n (osL out, a, (i : Int)) = some (osL (out ++ cidx rest a i))
  | [], i, a, out, n, hr, ho, hi, hn => by
    obtain ⟨m, rfl⟩ : ∃ m, n = m + 1 := ⟨n - 1, by omega⟩
    have hlen : x.l.length ≤ i := by
      have := congrArg List.length hr
      rw [List.length_drop] at this
      simp at this
      omega
    have c1 : ilt (i : Int) (flen x) = false := ilt_ff (by rw [flen_eq]; omega)
    refine loop_dn ?_
    cases out <;> simp [t_additiveref40_corners_L0, osL, c1, cidx]
  | c :: rest, i, a, out, n, hr, ho, hi, hn => by
    obtain ⟨m, rfl⟩ : ∃ m, n = m + 1 := ⟨n - 1, by omega⟩
    obtain ⟨g1, g2, g3, g4⟩ := get_drop hr
    have c1 : ilt (i : Int) (flen x) = true := ilt_tt (by rw [flen_eq]; omega)
    have f1 := fget_nat g1
    have a1 : iadd .i64 (i : Int) 1 = ((i + 1 : Nat) : Int) := by rw [iadd_eq (by omega) (by omega)]; omega
    have s1 : isub .i64 (flen x) 1 = (x.l.length : Int) - 1 := by rw [flen_eq, isub_eq (by omega) (by omega)]
    have t1 : fits 8 (1 : Int) = true := fits_small (by omega) (by omega) (by omega)
    have t2 : ∀ l : List Int, l.length ≤ i → fits 8 (olen l + 1) = true := fun l hl => fits_small (by unfold olen; omega) (by unfold olen; omega) (by omega)
    cases rest with
    | nil =>
      have e1 : ieq (i : Int) (isub .i64 (flen x) 1) = true := ieq_tt (by rw [s1]; simp at g4; omega)
      have ih := rcorners_loop [] (i + 1) c (out ++ [(i : Int)]) m g2 (by simp; omega) (by omega) (by simp at hn ⊢; omega)
      rw [loop_nx (s' := (osL (out ++ [(i : Int)]), c, ((i + 1 : Nat) : Int))), ih]
      · simp [cidx]
      · cases out with
        | nil => simp [t_additiveref40_corners_L0, osL, c1, f1, e1, gOpt, a1, t1, osnoc]
        | cons o r => simp [t_additiveref40_corners_L0, osL, c1, f1, e1, gOpt, a1, t2 (o :: r) ho, osnoc]
    | cons d rest =>
      obtain ⟨q1, q2, q3, q4⟩ := get_drop g2
      have e1 : ieq (i : Int) (isub .i64 (flen x) 1) = false := ieq_ff (by rw [s1]; omega)
      have f2 : fget x ((i : Int) + 1) = some d := by
        have q := fget_nat q1
        simpa using q
      by_cases ht : u_additiveref40_turns a c d = true
      · have ih := rcorners_loop (d :: rest) (i + 1) c (out ++ [(i : Int)]) m g2 (by simp; omega) (by omega) (by simp at hn ⊢; omega)
        rw [loop_nx (s' := (osL (out ++ [(i : Int)]), c, ((i + 1 : Nat) : Int))), ih]
        · simp [cidx, ht]
        · cases out with
          | nil => simp [t_additiveref40_corners_L0, osL, c1, f1, e1, gOpt, a1, f2, ht, t1, osnoc]
          | cons o r => simp [t_additiveref40_corners_L0, osL, c1, f1, e1, gOpt, a1, f2, ht, t2 (o :: r) ho, osnoc]
      · have ih := rcorners_loop (d :: rest) (i + 1) c out m g2 (by omega) (by omega) (by simp at hn ⊢; omega)
        rw [Bool.not_eq_true] at ht
        rw [loop_nx (s' := (osL out, c, ((i + 1 : Nat) : Int))), ih]
        · simp [cidx, ht]
        · cases out with
          | nil => simp [t_additiveref40_corners_L0, osL, c1, f1, e1, gOpt, a1, f2, ht]
          | cons o r => simp [t_additiveref40_corners_L0, osL, c1, f1, e1, gOpt, a1, f2, ht]
theorem turns_eq (a : api_Cell) : t_emit_turns x a = some (fsL (cidx x.l a 0)) := by
  have h := turns_loop x hL x.l 0 a [] bigN rfl (Nat.le_refl _) (Nat.zero_le _) (bigN_gt (by omega))
  simp only [List.nil_append] at h
  change loopT (t_emit_turns_L0 x x (flen x)) bigN (a, .nil, 0) = _ at h
  unfold t_emit_turns
  rw [h]
  cases cidx x.l a 0 <;> rfl
theorem rcorners_eq (a : api_Cell) : t_additiveref40_corners x a = some (fsL (cidx x.l a 0)) := by
  have h := rcorners_loop x hL x.l 0 a [] bigN rfl (Nat.le_refl _) (Nat.zero_le _) (bigN_gt (by omega))
  simp only [List.nil_append] at h
  change loopT (t_additiveref40_corners_L0 x) bigN (.nil, a, 0) = _ at h
  unfold t_additiveref40_corners
  rw [h]
  cases cidx x.l a 0 <;> rfl
end
end Go.Proofs.Ytchiiiahgmfofaa
