/- emit: both Corners give the same; the law. Conditions: none. -/
import Derived.Test.YtchiiiahgmfofaaPa
namespace Go.Proofs.Ytchiiiahgmfofaa
open Go Go.Vv Go.Proofs
set_option linter.unusedSimpArgs false
set_option linter.unusedVariables false
set_option linter.unusedSectionVars false
theorem onGrid_ok (c : api_Cell) : u_emit_onGrid c = u_additiveref40_ok c := rfl
def cellAt (x : FS api_Cell) (k : Int) : api_Cell := (x.l[k.toNat]?).getD ⟨0, 0⟩
theorem fget_at {x : FS api_Cell} {k : Int} (h0 : 0 ≤ k) (h1 : k < x.l.length) : fget x k = some (cellAt x k) := by
  have hk : k = ((k.toNat : Nat) : Int) := by omega
  have hlt : k.toNat < x.l.length := by omega
  have := fget_nat (x := x) (i := k.toNat) (v := x.l[k.toNat]) (List.getElem?_eq_getElem hlt)
  rw [← hk] at this
  rw [this]
  unfold cellAt
  rw [List.getElem?_eq_getElem hlt]
  rfl
section
variable (x : FS api_Cell) (hL : x.l.length ≤ 1000000)
include hL
theorem inside_loop : ∀ (rest : List api_Cell) (i : Nat) (n : Nat), x.l.drop i = rest → rest.length < n →
    loopT (t_emit_inside_L0 x (flen x)) n (i : Int) = some (if rest.all u_additiveref40_ok = true then .inr () else .inl false)
  | [], i, n, hr, hn => by
    obtain ⟨m, rfl⟩ : ∃ m, n = m + 1 := ⟨n - 1, by omega⟩
    have hlen : x.l.length ≤ i := by
      have := congrArg List.length hr
      rw [List.length_drop] at this
      simp at this
      omega
    have c1 : ilt (i : Int) (flen x) = false := ilt_ff (by rw [flen_eq]; omega)
    refine loop_dn ?_
    simp [t_emit_inside_L0, c1]
  | c :: rest, i, n, hr, hn => by
    obtain ⟨m, rfl⟩ : ∃ m, n = m + 1 := ⟨n - 1, by omega⟩
    obtain ⟨g1, g2, g3, g4⟩ := get_drop hr
    have c1 : ilt (i : Int) (flen x) = true := ilt_tt (by rw [flen_eq]; omega)
    have f1 := fget_nat g1
    have a1 : iadd .i64 (i : Int) 1 = ((i + 1 : Nat) : Int) := by rw [iadd_eq (by omega) (by omega)]; omega
    by_cases ht : u_additiveref40_ok c = true
    · have ih := inside_loop rest (i + 1) m g2 (by simp at hn ⊢; omega)
      rw [loop_nx (s' := ((i + 1 : Nat) : Int)), ih]
      · simp [ht]
      · simp [t_emit_inside_L0, c1, f1, onGrid_ok, ht, a1]
    · rw [Bool.not_eq_true] at ht
      refine loop_dn ?_
      simp [t_emit_inside_L0, c1, f1, onGrid_ok, ht]
theorem rinside_loop (a : api_Cell) : ∀ (rest : List api_Cell) (i : Nat) (n : Nat), x.l.drop i = rest → rest.length < n →
    loopT (t_additiveref40_Corners_L0 x a) n (i : Int) = some (if rest.all u_additiveref40_ok = true then .inr () else .inl .nil)
  | [], i, n, hr, hn => by
    obtain ⟨m, rfl⟩ : ∃ m, n = m + 1 := ⟨n - 1, by omega⟩
    have hlen : x.l.length ≤ i := by
      have := congrArg List.length hr
      rw [List.length_drop] at this
      simp at this
      omega
    have c1 : ilt (i : Int) (flen x) = false := ilt_ff (by rw [flen_eq]; omega)
    refine loop_dn ?_
    simp [t_additiveref40_Corners_L0, c1]
  | c :: rest, i, n, hr, hn => by
    obtain ⟨m, rfl⟩ : ∃ m, n = m + 1 := ⟨n - 1, by omega⟩
    obtain ⟨g1, g2, g3, g4⟩ := get_drop hr
    have c1 : ilt (i : Int) (flen x) = true := ilt_tt (by rw [flen_eq]; omega)
    have f1 := fget_nat g1
    have a1 : iadd .i64 (i : Int) 1 = ((i + 1 : Nat) : Int) := by rw [iadd_eq (by omega) (by omega)]; omega
    by_cases ht : u_additiveref40_ok c = true
    · have ih := rinside_loop a rest (i + 1) m g2 (by simp at hn ⊢; omega)
      rw [loop_nx (s' := ((i + 1 : Nat) : Int)), ih]
      · simp [ht]
      · simp [t_additiveref40_Corners_L0, c1, f1, ht, a1]
    · rw [Bool.not_eq_true] at ht
      refine loop_dn ?_
      simp [t_additiveref40_Corners_L0, c1, f1, ht]
theorem cells_loop (ks : FS Int) (hK : ks.l.length ≤ 1000000) : ∀ (rest : List Int) (i : Nat) (out : List api_Cell) (n : Nat), ks.l.drop i = rest → out.length = i → (∀ k ∈ rest, 0 ≤ k ∧ k < x.l.length) → rest.length < n →
    loopT (t_emit_Corners_L0 x ks (flen ks)) n (osL out, (i : Int)) = some (osL (out ++ rest.map (cellAt x)))
  | [], i, out, n, hr, ho, hk, hn => by
    obtain ⟨m, rfl⟩ : ∃ m, n = m + 1 := ⟨n - 1, by omega⟩
    have hlen : ks.l.length ≤ i := by
      have := congrArg List.length hr
      rw [List.length_drop] at this
      simp at this
      omega
    have c1 : ilt (i : Int) (flen ks) = false := ilt_ff (by rw [flen_eq]; omega)
    refine loop_dn ?_
    cases out <;> simp [t_emit_Corners_L0, osL, c1]
  | c :: rest, i, out, n, hr, ho, hk, hn => by
    obtain ⟨m, rfl⟩ : ∃ m, n = m + 1 := ⟨n - 1, by omega⟩
    obtain ⟨g1, g2, g3, g4⟩ := get_drop hr
    have c1 : ilt (i : Int) (flen ks) = true := ilt_tt (by rw [flen_eq]; omega)
    have f1 := fget_nat g1
    have hc := hk c (by simp)
    have f2 := fget_at hc.1 hc.2
    have a1 : iadd .i64 (i : Int) 1 = ((i + 1 : Nat) : Int) := by rw [iadd_eq (by omega) (by omega)]; omega
    have t1 : fits 16 (1 : Int) = true := fits_small (by omega) (by omega) (by omega)
    have t2 : ∀ l : List api_Cell, l.length = i → fits 16 (olen l + 1) = true := fun l hl => fits_small (by unfold olen; omega) (by unfold olen; omega) (by omega)
    have ih := cells_loop ks hK rest (i + 1) (out ++ [cellAt x c]) m g2 (by simp; omega) (fun k hm => hk k (by simp [hm])) (by simp at hn ⊢; omega)
    rw [loop_nx (s' := (osL (out ++ [cellAt x c]), ((i + 1 : Nat) : Int))), ih]
    · simp
    · cases out with
      | nil => simp [t_emit_Corners_L0, osL, c1, f1, f2, a1, t1, osnoc]
      | cons o r => simp [t_emit_Corners_L0, osL, c1, f1, f2, a1, t2 (o :: r) ho, osnoc]
theorem rcells_loop (ks : FS Int) (hK : ks.l.length ≤ 1000000) : ∀ (rest : List Int) (i : Nat) (out : List api_Cell) (n : Nat), ks.l.drop i = rest → out.length = i → (∀ k ∈ rest, 0 ≤ k ∧ k < x.l.length) → rest.length < n →
    loopT (t_additiveref40_Corners_L1 x ks) n (osL out, (i : Int)) = some (osL (out ++ rest.map (cellAt x)))
  | [], i, out, n, hr, ho, hk, hn => by
    obtain ⟨m, rfl⟩ : ∃ m, n = m + 1 := ⟨n - 1, by omega⟩
    have hlen : ks.l.length ≤ i := by
      have := congrArg List.length hr
      rw [List.length_drop] at this
      simp at this
      omega
    have c1 : ilt (i : Int) (flen ks) = false := ilt_ff (by rw [flen_eq]; omega)
    refine loop_dn ?_
    cases out <;> simp [t_additiveref40_Corners_L1, osL, c1]
  | c :: rest, i, out, n, hr, ho, hk, hn => by
    obtain ⟨m, rfl⟩ : ∃ m, n = m + 1 := ⟨n - 1, by omega⟩
    obtain ⟨g1, g2, g3, g4⟩ := get_drop hr
    have c1 : ilt (i : Int) (flen ks) = true := ilt_tt (by rw [flen_eq]; omega)
    have f1 := fget_nat g1
    have hc := hk c (by simp)
    have f2 := fget_at hc.1 hc.2
    have a1 : iadd .i64 (i : Int) 1 = ((i + 1 : Nat) : Int) := by rw [iadd_eq (by omega) (by omega)]; omega
    have t1 : fits 16 (1 : Int) = true := fits_small (by omega) (by omega) (by omega)
    have t2 : ∀ l : List api_Cell, l.length = i → fits 16 (olen l + 1) = true := fun l hl => fits_small (by unfold olen; omega) (by unfold olen; omega) (by omega)
    have ih := rcells_loop ks hK rest (i + 1) (out ++ [cellAt x c]) m g2 (by simp; omega) (fun k hm => hk k (by simp [hm])) (by simp at hn ⊢; omega)
    rw [loop_nx (s' := (osL (out ++ [cellAt x c]), ((i + 1 : Nat) : Int))), ih]
    · simp
    · cases out with
      | nil => simp [t_additiveref40_Corners_L1, osL, c1, f1, f2, a1, t1, osnoc]
      | cons o r => simp [t_additiveref40_Corners_L1, osL, c1, f1, f2, a1, t2 (o :: r) ho, osnoc]
theorem inside_eq : t_emit_inside x = some (x.l.all u_additiveref40_ok) := by
  have h := inside_loop x hL x.l 0 bigN rfl (bigN_gt (by omega))
  change loopT (t_emit_inside_L0 x (flen x)) bigN 0 = _ at h
  unfold t_emit_inside
  rw [h]
  by_cases c : x.l.all u_additiveref40_ok = true
  · rw [if_pos c, c]
  · rw [if_neg c]
    rw [Bool.not_eq_true] at c
    rw [c]
/-- The corners. -/
def cornersT (a : api_Cell) : FS api_Cell := if u_additiveref40_ok a = true ∧ x.l.all u_additiveref40_ok = true then fsL ((cidx x.l a 0).map (cellAt x)) else .nil
omit hL in
theorem cidx_in (a : api_Cell) : ∀ k ∈ cidx x.l a 0, 0 ≤ k ∧ k < x.l.length := fun k hk => by
  have := cidx_lt x.l a 0 k hk
  omega
theorem corners_eq (a : api_Cell) : t_emit_Corners x a = some (cornersT x a) := by
  have hi := inside_eq x hL
  have ht := turns_eq x hL a
  have hlen := cidx_len x.l a 0
  have hK : (fsL (cidx x.l a 0)).l.length ≤ 1000000 := by rw [fsL_l]; omega
  have h := cells_loop x hL (fsL (cidx x.l a 0)) hK (cidx x.l a 0) 0 [] bigN (by rw [fsL_l]; rfl) rfl (cidx_in x a) (bigN_gt (by omega))
  simp only [List.nil_append] at h
  change loopT (t_emit_Corners_L0 x (fsL (cidx x.l a 0)) (flen (fsL (cidx x.l a 0)))) bigN (.nil, 0) = _ at h
  unfold t_emit_Corners cornersT
  rw [onGrid_ok]
  by_cases ho : u_additiveref40_ok a = true
  · by_cases hc : x.l.all u_additiveref40_ok = true
    · rw [if_pos ⟨ho, hc⟩]
      simp only [ho, hi, hc, ht, h, gOpt, bnot_t, bnot_f, bor_f, if_true]
      cases (cidx x.l a 0).map (cellAt x) <;> simp [osL, fsL]
    · rw [if_neg (fun q => hc q.2)]
      rw [Bool.not_eq_true] at hc
      simp [ho, hi, hc, gOpt]
  · rw [if_neg (fun q => ho q.1)]
    rw [Bool.not_eq_true] at ho
    simp [ho, gOpt]
theorem rcorners_all (a : api_Cell) : t_additiveref40_Corners x a = some (cornersT x a) := by
  have hi := rinside_loop x hL a x.l 0 bigN rfl (bigN_gt (by omega))
  change loopT (t_additiveref40_Corners_L0 x a) bigN 0 = _ at hi
  have ht := rcorners_eq x hL a
  have hlen := cidx_len x.l a 0
  have hK : (fsL (cidx x.l a 0)).l.length ≤ 1000000 := by rw [fsL_l]; omega
  have h := rcells_loop x hL (fsL (cidx x.l a 0)) hK (cidx x.l a 0) 0 [] bigN (by rw [fsL_l]; rfl) rfl (cidx_in x a) (bigN_gt (by omega))
  simp only [List.nil_append] at h
  change loopT (t_additiveref40_Corners_L1 x (fsL (cidx x.l a 0))) bigN (.nil, 0) = _ at h
  unfold t_additiveref40_Corners
  by_cases ho : u_additiveref40_ok a = true
  · by_cases hc : x.l.all u_additiveref40_ok = true
    · rw [show cornersT x a = fsL ((cidx x.l a 0).map (cellAt x)) from if_pos ⟨ho, hc⟩]
      simp only [ho, hi, hc, ht, h, bnot_t, if_true, Bool.false_eq_true, if_false]
      cases (cidx x.l a 0).map (cellAt x) <;> simp [osL, fsL]
    · rw [show cornersT x a = .nil from if_neg (fun q => hc q.2)]
      simp [ho, hi, hc]
  · rw [show cornersT x a = .nil from if_neg (fun q => ho q.1)]
    rw [Bool.not_eq_true] at ho
    simp [ho]
/-- The same twice. -/
theorem same_loop : ∀ (rest : List api_Cell) (i : Nat) (n : Nat), x.l.drop i = rest → rest.length < n →
    loopT (t_additivelaw40_EmitCorners_L0 x x) n (i : Int) = some (.inr ())
  | [], i, n, hr, hn => by
    obtain ⟨m, rfl⟩ : ∃ m, n = m + 1 := ⟨n - 1, by omega⟩
    have hlen : x.l.length ≤ i := by
      have := congrArg List.length hr
      rw [List.length_drop] at this
      simp at this
      omega
    have c1 : ilt (i : Int) (flen x) = false := ilt_ff (by rw [flen_eq]; omega)
    refine loop_dn ?_
    simp [t_additivelaw40_EmitCorners_L0, c1]
  | c :: rest, i, n, hr, hn => by
    obtain ⟨m, rfl⟩ : ∃ m, n = m + 1 := ⟨n - 1, by omega⟩
    obtain ⟨g1, g2, g3, g4⟩ := get_drop hr
    have c1 : ilt (i : Int) (flen x) = true := ilt_tt (by rw [flen_eq]; omega)
    have f1 := fget_nat g1
    have a1 : iadd .i64 (i : Int) 1 = ((i + 1 : Nat) : Int) := by rw [iadd_eq (by omega) (by omega)]; omega
    have ih := same_loop rest (i + 1) m g2 (by simp at hn ⊢; omega)
    rw [loop_nx (s' := ((i + 1 : Nat) : Int)), ih]
    simp [t_additivelaw40_EmitCorners_L0, c1, f1, a1, ieq_tt rfl]
end
theorem cornersT_len (x : FS api_Cell) (a : api_Cell) : (cornersT x a).l.length ≤ x.l.length := by
  unfold cornersT
  split
  · rw [fsL_l, List.length_map]; exact cidx_len _ _ _
  · exact Nat.zero_le _
theorem same_eq (x : FS api_Cell) (hL : x.l.length ≤ 1000000) : loopT (t_additivelaw40_EmitCorners_L0 x x) bigN 0 = some (.inr ()) := same_loop x hL x.l 0 bigN rfl (bigN_gt (by omega))
theorem ine_ff (a : Int) : ine a a = false := by simp [ine]
theorem emitCorners_true (x : FS api_Cell) (a : api_Cell) : t_additivelaw40_EmitCorners x a = some true := by
  unfold t_additivelaw40_EmitCorners
  by_cases c : igt (flen x) 40 = true
  · rw [if_pos c]
    have hlt := igt_iff.1 c
    rw [flen_eq] at hlt
    obtain ⟨y, hy, hyl⟩ : ∃ y, fsl x 0 40 = some y ∧ y.l.length ≤ 40 := by
      cases x with
      | nil => exact absurd hlt (by show ¬ (40 : Int) < (0 : Nat); omega)
      | lst l =>
        have hlt' : (40 : Int) < (l.length : Int) := hlt
        refine ⟨.lst ((l.drop 0).take 40), ?_, ?_⟩
        · unfold fsl
          exact if_pos ⟨by omega, by omega, by omega⟩
        · show ((l.drop 0).take 40).length ≤ 40
          rw [List.length_take]
          exact Nat.min_le_left _ _
    have hY : y.l.length ≤ 1000000 := by omega
    have hz := cornersT_len y a
    simp only [hy, corners_eq y hY a, rcorners_all y hY a, ine_ff, same_eq (cornersT y a) (by omega)]
    rfl
  · rw [if_neg c]
    have hlt : ¬ (40 : Int) < flen x := fun h => c (igt_iff.2 h)
    rw [flen_eq] at hlt
    have hY : x.l.length ≤ 1000000 := by omega
    have hz := cornersT_len x a
    simp only [corners_eq x hY a, rcorners_all x hY a, ine_ff, same_eq (cornersT x a) (by omega)]
    rfl
end Go.Proofs.Ytchiiiahgmfofaa
