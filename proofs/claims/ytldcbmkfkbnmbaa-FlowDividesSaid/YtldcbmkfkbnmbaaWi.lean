/- flow: FlowExact. -/
import Derived.Test.YtldcbmkfkbnmbaaWg
namespace Go.Proofs.Ytldcbmkfkbnmbaa
open Go Go.Vv Go.Proofs
set_option linter.unusedSimpArgs false
set_option maxRecDepth 10000
set_option maxHeartbeats 4000000

theorem few_n (o : Oper) : nC (fewO o).cv ≤ 200 := by
  unfold fewO
  split
  · exact Nat.le_refl 200
  · omega
theorem few_all (l : List Oper) : ∀ o ∈ fewL l, nC o.cv ≤ 200 := by
  intro o ho
  simp only [fewL, List.mem_map] at ho
  obtain ⟨q, -, rfl⟩ := ho
  exact few_n q
theorem exact_facts (s : Nat → Int) (hv : val s = true) (c : Int) (h0 : 0 ≤ c) (h1 : c ≤ 1048576) :
    ∃ q V : Int, eV s c false = q ∧ IntKind.wrap .i64 (eV s c true + s 15) = q ∧ IntKind.wrap .i64 (q * s 12) = q * s 12 ∧ IntKind.wrap .i64 (V - s 12) = V - s 12 ∧
      IntKind.wrap .i64 (IntKind.wrap .i64 (IntKind.wrap .i64 (c * s 0) * s 0) * s 1) = V ∧ ¬ V < q * s 12 ∧ ¬ q * s 12 ≤ V - s 12 := by
  obtain ⟨e, p0, p1⟩ := vol_eq s hv c h0 h1
  obtain ⟨-, -, -, -, d1, d2, r1, r2⟩ := val_bounds s hv
  have hw : vol s c = IntKind.wrap .i64 (IntKind.wrap .i64 (IntKind.wrap .i64 (c * s 0) * s 0) * s 1) := by
    unfold vol
    rw [if_pos ⟨by simp [wi]; omega, hv⟩]
  generalize hV : c * s 0 * s 0 * s 1 = V at e p0 p1
  have hq : V.tdiv (s 12) = V / s 12 := Int.tdiv_eq_ediv_of_nonneg p0
  have k1 : V / s 12 * s 12 ≤ V := Int.ediv_mul_le V (by omega)
  have k2 : V < (V / s 12 + 1) * s 12 := Int.lt_ediv_add_one_mul_self V (by omega)
  have k3 : 0 ≤ V / s 12 := Int.ediv_nonneg p0 (by omega)
  rw [Int.add_mul, Int.one_mul] at k2
  have k4 : V / s 12 ≤ V / s 12 * s 12 := by
    have := Int.mul_le_mul_of_nonneg_left (show (1 : Int) ≤ s 12 by omega) k3
    omega
  have k5 : 0 ≤ V / s 12 * s 12 := by omega
  have a1 : IntKind.wrap .i64 (V / s 12) = V / s 12 := w64 _ (by omega) (by omega)
  refine ⟨V / s 12, V, ?_, ?_, w64 _ (by omega) (by omega), w64 _ (by omega) (by omega), by rw [← hw, e], by omega, by omega⟩
  · unfold eV
    rw [if_neg (by simp), e, hq, a1]
  · unfold eV
    rw [if_pos rfl, e, hq, a1, w64 (V / s 12 - s 15) (by omega) (by omega), w64 _ (by omega) (by omega)]
    omega
theorem stp_some {k n c : Int} {r : Bool} {c' : Int} {r' : Bool} (h : stp k n c r = .inr (c', r')) (h0 : 0 ≤ c) (h1 : c ≤ 1048576) (n0 : 0 ≤ n) (n1 : n ≤ 200) :
    0 ≤ c' ∧ c' ≤ 1048576 ∧ ((k = 3 ∧ c' = c + n ∧ r = false ∧ r' = false) ∨ (k = 4 ∧ c' = c ∧ r' = true) ∨ (k = 5 ∧ c' = c ∧ r' = false) ∨ (k ≠ 3 ∧ k ≠ 4 ∧ k ≠ 5 ∧ c' = c ∧ r' = r)) := by
  have hw : IntKind.wrap .i64 (c + n) = c + n := w64 _ (by omega) (by omega)
  unfold stp lim at h
  rw [hw] at h
  split at h
  · rename_i hk
    split at h
    · cases h
    · rename_i hr
      split at h
      · rename_i hk4
        split at h
        · cases h
        · cases h
          exact ⟨h0, by omega, .inr (.inl ⟨hk4, rfl, rfl⟩)⟩
      · rename_i hk4
        split at h
        · cases h
        · cases h
          exact ⟨by omega, by omega, .inl ⟨by omega, rfl, by simpa using hr, rfl⟩⟩
  · rename_i hk
    split at h
    · rename_i hk5
      split at h
      · split at h
        · cases h
        · cases h
          exact ⟨h0, by omega, .inr (.inr (.inl ⟨hk5, rfl, rfl⟩))⟩
      · cases h
    · rename_i hk5
      split at h
      · cases h
      · cases h
        exact ⟨h0, by omega, .inr (.inr (.inr ⟨by omega, by omega, hk5, rfl, rfl⟩))⟩
section
variable (s : Nat → Int) (p : Bool)
theorem ex_loop {L A : AV} {ops : List Oper} {l : List Int} (hL : IsL 6 L ops.length (cellsOf ops)) (hA : IsL 1 A l.length (ints l)) (hok : ∀ o ∈ ops, okOp o) (hn : ops.length ≤ 1000) (h200 : ∀ o ∈ ops, nC o.cv ≤ 200)
    (hv : val s = true) (hlen : l.length = ops.length) :
    ∀ (rest : List Oper) (m : List Int) (i : Nat) (c : Int) (r : Bool), ops.drop i = rest → l.drop i = m → i + rest.length = ops.length → amts s rest c r = .inr m → 0 ≤ c → c ≤ 1048576 →
    ∃ F', LK env true 0 [0, 3, 5, 7, 8, 9] [3] c6_L0 (some ⟨fr [(0, L), (3, .ptr 3 0 0), (5, A), (7, .int .i64 c), (8, .bool r), (9, .int .i64 i)], hl [(3, .box 0 (setC s p))]⟩) =
      some (.exit 0, ⟨F', hl [(3, .box 0 (setC s p))]⟩) ∧ F' 0 = L ∧ F' 5 = A
  | [], m, i, c, r, hr, hm, hi, ha, h0, h1 => by
    have hi' : i = ops.length := by simpa using hi
    have u0 : ∀ σ, EC env true 0 c6_L0 σ = EC env true 0 (.seq (.seq (.reg false c6_10) (.cond (.t 36) .skip (.exit 0))) (.seq (.blk 1 (.seq (.seq (.reg false c6_11) (.blk 2 (.seq (.reg false c6_12) (.cond (.t 44) (.reg false c6_13) (.seq (.reg false c6_14) (.cond (.t 54) (.reg false c6_15) (.seq (.reg false c6_16) (.cond (.t 56) (.reg false c6_17) .skip)))))))) (.seq (.reg false c6_18) (.seq (.seq (.reg false c6_19) (.cond (.t 62) (.reg false c6_20) .skip)) (.seq (.reg false c6_21) (.seq (.reg false c6_22) (.cond (.t 93) (.seq (.reg false c6_23) .ret) .skip))))))) (.reg false c6_24))) σ := fun _ => rfl
    rw [LK_step]
    simp +contextual [lf6, lc6, c6_0, c6_1, c6_2, c6_3, c6_4, c6_5, c6_6, c6_7, c6_8, c6_9, c6_10, c6_11, c6_12, c6_13, c6_14, c6_15, c6_16, c6_17, c6_18, c6_19, c6_20, c6_21, c6_22, c6_23, c6_24, c6_26, ↓u0, hL.len, hL.refs, hi']
  | o :: rest, m, i, c, r, hr, hm, hi, ha, h0, h1 => by
    have hi' : i < ops.length := by simp at hi; omega
    have c1 : (i : Int) < (ops.length : Int) := by omega
    have c2 : IntKind.wrap .i64 ((i : Int) + 1) = (i : Int) + 1 := by rw [w64] <;> omega
    have hr' : ops.drop (i + 1) = rest := by rw [← List.drop_drop, hr]; rfl
    have f1 := fun H => hL.iaddr H .i64 i hi'
    simp only [cells_drop, hr, cells_cons] at f1
    have hmem : o ∈ ops := List.mem_of_mem_drop (i := i) (by rw [hr]; exact List.mem_cons_self ..)
    obtain ⟨M, hM⟩ := hok o hmem
    have hn2 := h200 o hmem
    simp only [amts] at ha
    split at ha
    · cases ha
    rename_i c' r' hst
    split at ha
    · cases ha
    rename_i m' hm'
    cases ha
    obtain ⟨g0, g1, g2⟩ := stp_some hst h0 h1 (by omega) (by omega)
    have hmd : l.drop (i + 1) = m' := by rw [← List.drop_drop, hm]; rfl
    have f2 := fun H => hA.iaddr H .i64 i (by omega)
    simp only [Nat.mul_one, ints_drop, hm] at f2
    have f3 : ints (eV s c' r' :: m') = .int .i64 (eV s c' r') :: ints m' := rfl
    rw [f3] at f2
    obtain ⟨F', k1, k2, k3⟩ := ex_loop hL hA hok hn h200 hv hlen rest m' (i + 1) c' r' hr' hmd (by simp at hi; omega) hm' g0 g1
    obtain ⟨q, V, x1, x2, x3, x4, x5, x6, x7⟩ := exact_facts s hv c' g0 g1
    simp only [Int.natCast_add, Int.cast_ofNat_Int, Int.natCast_one] at k1
    have u0 : ∀ σ, EC env true 0 c6_L0 σ = EC env true 0 (.seq (.seq (.reg false c6_10) (.cond (.t 36) .skip (.exit 0))) (.seq (.blk 1 (.seq (.seq (.reg false c6_11) (.blk 2 (.seq (.reg false c6_12) (.cond (.t 44) (.reg false c6_13) (.seq (.reg false c6_14) (.cond (.t 54) (.reg false c6_15) (.seq (.reg false c6_16) (.cond (.t 56) (.reg false c6_17) .skip)))))))) (.seq (.reg false c6_18) (.seq (.seq (.reg false c6_19) (.cond (.t 62) (.reg false c6_20) .skip)) (.seq (.reg false c6_21) (.seq (.reg false c6_22) (.cond (.t 93) (.seq (.reg false c6_23) .ret) .skip))))))) (.reg false c6_24))) σ := fun _ => rfl
    rw [LK_step]
    rcases g2 with ⟨hk, e1, e2, e3⟩ | ⟨hk, e1, e2⟩ | ⟨hk, e1, e2⟩ | ⟨hk3, hk4, hk5, e1, e2⟩
    · have w1 : IntKind.wrap .i64 (c + (nC o.cv : Int)) = c' := by rw [e1]; exact w64 _ (by omega) (by omega)
      clear e1
      subst e2 e3
      simp +contextual [lf6, lc6, c6_0, c6_1, c6_2, c6_3, c6_4, c6_5, c6_6, c6_7, c6_8, c6_9, c6_10, c6_11, c6_12, c6_13, c6_14, c6_15, c6_16, c6_17, c6_18, c6_19, c6_20, c6_21, c6_22, c6_23, c6_24, c6_26, ↓u0, hL.len, hL.refs, hA.len, hA.refs, f1, f2, c1, c2, hM.len, hM.flat, setC_refs, x1, x2, x3, x4, x5, x6, x7, hk, w1]
      exact ⟨F', k1, k2, k3⟩
    · subst e1 e2
      simp +contextual [lf6, lc6, c6_0, c6_1, c6_2, c6_3, c6_4, c6_5, c6_6, c6_7, c6_8, c6_9, c6_10, c6_11, c6_12, c6_13, c6_14, c6_15, c6_16, c6_17, c6_18, c6_19, c6_20, c6_21, c6_22, c6_23, c6_24, c6_26, ↓u0, hL.len, hL.refs, hA.len, hA.refs, f1, f2, c1, c2, hM.len, hM.flat, setC_refs, x1, x2, x3, x4, x5, x6, x7, hk]
      exact ⟨F', k1, k2, k3⟩
    · subst e1 e2
      simp +contextual [lf6, lc6, c6_0, c6_1, c6_2, c6_3, c6_4, c6_5, c6_6, c6_7, c6_8, c6_9, c6_10, c6_11, c6_12, c6_13, c6_14, c6_15, c6_16, c6_17, c6_18, c6_19, c6_20, c6_21, c6_22, c6_23, c6_24, c6_26, ↓u0, hL.len, hL.refs, hA.len, hA.refs, f1, f2, c1, c2, hM.len, hM.flat, setC_refs, x1, x2, x3, x4, x5, x6, x7, hk]
      exact ⟨F', k1, k2, k3⟩
    · subst e1 e2
      cases r' with
      | true =>
        simp +contextual [lf6, lc6, c6_0, c6_1, c6_2, c6_3, c6_4, c6_5, c6_6, c6_7, c6_8, c6_9, c6_10, c6_11, c6_12, c6_13, c6_14, c6_15, c6_16, c6_17, c6_18, c6_19, c6_20, c6_21, c6_22, c6_23, c6_24, c6_26, ↓u0, hL.len, hL.refs, hA.len, hA.refs, f1, f2, c1, c2, hM.len, hM.flat, setC_refs, x1, x2, x3, x4, x5, x6, x7, hk3, hk4, hk5]
        exact ⟨F', k1, k2, k3⟩
      | false =>
        simp +contextual [lf6, lc6, c6_0, c6_1, c6_2, c6_3, c6_4, c6_5, c6_6, c6_7, c6_8, c6_9, c6_10, c6_11, c6_12, c6_13, c6_14, c6_15, c6_16, c6_17, c6_18, c6_19, c6_20, c6_21, c6_22, c6_23, c6_24, c6_26, ↓u0, hL.len, hL.refs, hA.len, hA.refs, f1, f2, c1, c2, hM.len, hM.flat, setC_refs, x1, x2, x3, x4, x5, x6, x7, hk3, hk4, hk5]
        exact ⟨F', k1, k2, k3⟩
theorem flowExact_ev {L : AV} {ops : List Oper} (hL : IsL 6 L ops.length (cellsOf ops)) (hok : ∀ o ∈ ops, okOp o) :
    FC env 6 [L, .agg (setC s p)] none = some (.bool true, fun _ => none) := by
  obtain ⟨L', h1, hL', hok', h40⟩ := few_ev hL hok
  have h2 := amounts_ev s p hL' hok' (by omega)
  have h200 := few_all ops
  have err : ∀ e : Int, e ≠ 0 → FC env 14 [L', .agg (setC s p)] none = some (.tup [.nils, .int .i64 e], fun _ => none) → FC env 6 [L, .agg (setC s p)] none = some (.bool true, fun _ => none) := by
    intro e he h2
    refine FC_pure (lf := lf6) rfl rfl rfl ?_
    simp only [lf6, lc6, c6_0, c6_1, c6_2, c6_3, c6_4, c6_5, c6_6, c6_7, c6_8, c6_9, c6_10, c6_11, c6_12, c6_13, c6_14, c6_15, c6_16, c6_17, c6_18, c6_19, c6_20, c6_21, c6_22, c6_23, c6_24, c6_26]
    simp +contextual (maxSteps := 4000000) [hL.snap, hL'.snap, h1, h2, he, awake_ev]
  by_cases hv : val s = true
  · rw [if_pos hv] at h2
    cases hX : amts s (fewL ops) 0 false with
    | inl e =>
      rw [hX] at h2
      refine err e ?_ h2
      have : ∀ (l : List Oper) (c : Int) (r : Bool), amts s l c r = .inl e → e ≠ 0 := by
        intro l
        induction l with
        | nil => intro c r h; cases h
        | cons o l ih =>
          intro c r h
          simp only [amts] at h
          split at h
          · rename_i e' he'
            cases h
            unfold stp lim at he'
            intro h0
            subst h0
            repeat' split at he'
            all_goals cases he'
          · split at h
            · rename_i e' he'
              cases h
              exact ih _ _ he'
            · cases h
      exact this _ _ _ hX
    | inr l =>
      rw [hX] at h2
      have hl := amts_len s _ 0 false l hX
      have hA : IsL 1 (.lst l.length (ints l)) l.length (ints l) := .inr ⟨rfl, by rw [ints_len, Nat.mul_one], ints_flat l⟩
      obtain ⟨F', g1, g2, g3⟩ := ex_loop s p hL' hA hok' (by omega) h200 hv hl (fewL ops) l 0 0 false rfl rfl (by omega) hX (by omega) (by omega)
      simp only [Int.natCast_zero, Int.cast_ofNat_Int] at g1
      simp only [amV] at h2
      rw [hl] at h2 g1 g3
      refine FC_pure (lf := lf6) rfl rfl rfl ?_
      simp only [lf6, lc6, c6_0, c6_1, c6_2, c6_3, c6_4, c6_5, c6_6, c6_7, c6_8, c6_9, c6_10, c6_11, c6_12, c6_13, c6_14, c6_15, c6_16, c6_17, c6_18, c6_19, c6_20, c6_21, c6_22, c6_23, c6_24, c6_26]
      simp +contextual (maxSteps := 4000000) [hL.snap, hL'.snap, h1, h2, hL'.len, hL'.refs, setC_refs, g1, g2, g3, awake_ev]
  · rw [if_neg hv] at h2
    exact err 1 (by omega) h2
end
end Go.Proofs.Ytldcbmkfkbnmbaa
