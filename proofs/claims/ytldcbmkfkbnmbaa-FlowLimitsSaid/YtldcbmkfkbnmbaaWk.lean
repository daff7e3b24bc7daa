/- flow: FlowLimits, the whole. -/
import Derived.Test.YtldcbmkfkbnmbaaWj
namespace Go.Proofs.Ytldcbmkfkbnmbaa
open Go Go.Vv Go.Proofs
set_option linter.unusedSimpArgs false
set_option maxRecDepth 10000
set_option maxHeartbeats 4000000
section
variable (s : Nat → Int) (p : Bool)
theorem lm_snapV (C N : Nat) : ∃ L' ns, snap (lmHeap s p C N) depth (lmV N) = some (L', ns) ∧ IsL 6 L' (List.replicate N (opL C)).length (cellsOf (List.replicate N (opL C))) := by
  have hok : ∀ o ∈ List.replicate N (opL C), okOp o := by
    intro o ho
    rw [(List.mem_replicate.1 ho).2]
    exact ⟨zCells C, .inr ⟨rfl, by show (zCells C).length = C * 2; rw [zCells, repeatL_len]; rfl, repeatL_flat _ rfl C⟩⟩
  have hf := cells_flat hok
  cases N with
  | zero => exact ⟨.nils, [], rfl, .inl ⟨rfl, rfl, rfl⟩⟩
  | succ n =>
    obtain ⟨ps, h1, h2⟩ := lm_snap s p C (n + 1) (n + 1)
    have ll := lmC_len C (n + 1)
    refine ⟨.lst (n + 1) (cellsOf (List.replicate (n + 1) (opL C))), 43 :: ps.flatMap (·.2), ?_, .inr ⟨by rw [List.length_replicate], by rw [cells_len, List.length_replicate], hf⟩⟩
    have e : snap (lmHeap s p C (n + 1)) depth (lmV (n + 1)) = snapO (lmHeap s p C (n + 1)) 7 (n + 1) 0 (n + 1) 43 (lmHeap s p C (n + 1) 43) := snapD_arr _ _ _ _ _
    have e2 : lmHeap s p C (n + 1) 43 = some (.arr (n + 1) 6 38 (lmC C (n + 1)) false) := rfl
    have ct : cut (lmC C (n + 1)) (0 * 6) ((n + 1) * 6) = lmC C (n + 1) := by
      rw [Nat.zero_mul]
      exact cut_all _ _ ll
    have nf : (lmC C (n + 1)).all AV.flat = false := by
      rw [lmC, List.all_append]
      simp [opA]
    rw [e, e2, snapO_arr, if_pos ⟨rfl, by rw [ll]; omega⟩, ct, nf, h1]
    simp only [Bool.false_eq_true, if_false, snapM_some, h2]
theorem flowLimits_ev (N C : Int) : FC env 5 [.agg (setC s p), .int .i64 N, .int .i64 C] none = some (.bool true, fun _ => none) := by
  by_cases b1 : N < 0
  · refine FC_pure (lf := lf5) rfl rfl rfl ?_
    simp only [lf5, lc5, c5_0, c5_1, c5_2, c5_3, c5_4, c5_5, c5_6, c5_7, c5_8, c5_10, c5_11, c5_12, c5_13]
    simp +contextual (maxSteps := 4000000) [b1, awake_ev]
  by_cases b2 : 300 < N
  · refine FC_pure (lf := lf5) rfl rfl rfl ?_
    simp only [lf5, lc5, c5_0, c5_1, c5_2, c5_3, c5_4, c5_5, c5_6, c5_7, c5_8, c5_10, c5_11, c5_12, c5_13]
    simp +contextual (maxSteps := 4000000) [b1, b2, awake_ev]
  by_cases b3 : C < 0
  · refine FC_pure (lf := lf5) rfl rfl rfl ?_
    simp only [lf5, lc5, c5_0, c5_1, c5_2, c5_3, c5_4, c5_5, c5_6, c5_7, c5_8, c5_10, c5_11, c5_12, c5_13]
    simp +contextual (maxSteps := 4000000) [b1, b2, b3, awake_ev]
  by_cases b4 : 8192 < C
  · refine FC_pure (lf := lf5) rfl rfl rfl ?_
    simp only [lf5, lc5, c5_0, c5_1, c5_2, c5_3, c5_4, c5_5, c5_6, c5_7, c5_8, c5_10, c5_11, c5_12, c5_13]
    simp +contextual (maxSteps := 4000000) [b1, b2, b3, b4, awake_ev]
  by_cases hv : val s = true
  case neg => refine FC_pure (lf := lf5) rfl rfl rfl ?_
              simp only [lf5, lc5, c5_0, c5_1, c5_2, c5_3, c5_4, c5_5, c5_6, c5_7, c5_8, c5_10, c5_11, c5_12, c5_13]
              simp +contextual (maxSteps := 4000000) [b1, b2, b3, b4, hv, rvalid_ev, awake_ev]
  obtain ⟨N, rfl⟩ := Int.eq_ofNat_of_zero_le (show 0 ≤ N by omega)
  obtain ⟨C, rfl⟩ := Int.eq_ofNat_of_zero_le (show 0 ≤ C by omega)
  obtain ⟨F', g1, g2, g3, g4, g5⟩ := lm_loop s p N C (by omega) (by omega) N 0 (by omega)
  obtain ⟨L', ns, sn, hL⟩ := lm_snapV s p C N
  have hok : ∀ o ∈ List.replicate N (opL C), okOp o := by
    intro o ho
    rw [(List.mem_replicate.1 ho).2]
    exact ⟨zCells C, .inr ⟨rfl, by show (zCells C).length = C * 2; rw [zCells, repeatL_len]; rfl, repeatL_flat _ rfl C⟩⟩
  have h2 := amounts_ev s p hL hok (by rw [List.length_replicate]; omega)
  have ha := lm_amts s C hv (by omega) N 0 (by omega) (by omega) (by omega)
  rw [if_pos hv] at h2
  change LK env true 0 [1, 2, 3, 7, 8, 9] [3, 33, 43] c5_L0 (some ⟨fr [(1, .int .i64 N), (2, .int .i64 C), (3, .ptr 3 0 0), (7, .arr 33 0 0 C), (8, .nils), (9, .int .i64 ((0 : Nat) : Int))], hl [(3, .box 0 (setC s p)), (33, .arr 0 2 46 (zCells C) false)]⟩) = _ at g1
  simp only [Int.natCast_zero, Int.cast_ofNat_Int] at g1
  have zc : repeatL [AV.int .i64 0, .int .i64 0] C = zCells C := rfl
  have hz : (zCells C).all AV.flat = true := repeatL_flat _ rfl C
  have q1 : (C : Int) * 16 ≤ 140737488355328 := by omega
  have q2 : (C : Int) ≤ 9223372036854775807 := by omega
  have fz : freezeAll (lmHeap s p C N) ns 3 = some (.box 0 (setC s p)) := by
    have : lmHeap s p C N 3 = some (.box 0 (setC s p)) := rfl
    unfold freezeAll
    split <;> rw [this] <;> rfl
  have h3 : lmHeap s p C N 3 = some (.box 0 (setC s p)) := rfl
  have p0 : 0 ≤ (N : Int) * C := Int.mul_nonneg (by omega) (by omega)
  have p1 : (N : Int) * C ≤ 300 * 8192 := Int.mul_le_mul (by omega) (by omega) (by omega) (by omega)
  have w1 : IntKind.wrap .i64 ((N : Int) * C) = (N : Int) * C := w64 _ (by omega) (by omega)
  rw [Int.zero_add] at ha
  by_cases hc : 1048576 < (N : Int) * C
  · rw [if_pos hc] at ha
    rw [ha] at h2
    simp only [amV] at h2
    refine FC_pure (lf := lf5) rfl rfl rfl ?_
    simp only [lf5, lc5, c5_0, c5_1, c5_2, c5_3, c5_4, c5_5, c5_6, c5_7, c5_8, c5_10, c5_11, c5_12, c5_13]
    simp +contextual (maxSteps := 4000000) [b1, b2, b3, b4, hv, rvalid_ev, awake_ev, zc, hz, q1, q2, room, setC_refs, g1, g2, g3, g4, g5, sn, h2, h3, fz, w1, hc]
  · rw [if_neg hc] at ha
    obtain ⟨l, hl, hm⟩ := ha
    rw [hl] at h2
    have hlen := amts_len s _ 0 false l hl
    rw [List.length_replicate] at hlen
    have hA : IsL 1 (.lst l.length (ints l)) l.length (ints l) := .inr ⟨rfl, by rw [ints_len, Nat.mul_one], ints_flat l⟩
    simp only [amV] at h2
    generalize AV.lst l.length (ints l) = A at h2 hA
    rw [hlen] at hA
    cases N with
    | zero =>
      have w0 : IntKind.wrap .i64 (0 : Int) = 0 := by decide
      rw [show ((0 : Nat) : Int) = 0 from rfl] at g1 g2
      refine FC_pure (lf := lf5) rfl rfl rfl ?_
      simp only [lf5, lc5, c5_0, c5_1, c5_2, c5_3, c5_4, c5_5, c5_6, c5_7, c5_8, c5_10, c5_11, c5_12, c5_13]
      simp +contextual (maxSteps := 4000000) [b1, b2, b3, b4, hv, rvalid_ev, awake_ev, zc, hz, q1, q2, room, setC_refs, g1, g2, g3, g4, g5, sn, h2, h3, fz, hA.len, w0]
    | succ K =>
      obtain ⟨m, hm⟩ := hm (by omega)
      have f2 := fun H => hA.iaddr H .i64 K (by omega)
      have hd : ints l = ints m ++ [.int .i64 (eV s (((K + 1 : Nat) : Int) * C) false)] := by rw [hm, ints_append]; rfl
      have hml : (ints m).length = K := by
        rw [ints_len]
        have := hlen
        rw [hm] at this
        simp at this
        exact this
      simp only [Nat.mul_one, hd] at f2
      simp only [List.drop_left' hml] at f2
      have w2 : IntKind.wrap .i64 (K : Int) = K := w64 _ (by omega) (by omega)
      have d0 : ¬ s 12 = 0 := by
        have := val_bounds s hv
        omega
      have ev : eV s (((K + 1 : Nat) : Int) * C) false = IntKind.wrap .i64 ((IntKind.wrap .i64 (IntKind.wrap .i64 (IntKind.wrap .i64 ((((K + 1 : Nat) : Int) * C) * s 0) * s 0) * s 1)).tdiv (s 12)) := by
        unfold eV vol
        rw [if_neg (by simp), if_pos ⟨by simp only [wi, Bool.and_eq_true, decide_eq_true_eq]; omega, hv⟩]
      rw [ev] at f2
      simp only [Int.natCast_add, Int.natCast_one] at *
      refine FC_pure (lf := lf5) rfl rfl rfl ?_
      simp only [lf5, lc5, c5_0, c5_1, c5_2, c5_3, c5_4, c5_5, c5_6, c5_7, c5_8, c5_10, c5_11, c5_12, c5_13]
      simp +contextual (maxSteps := 4000000) [b1, b2, b3, b4, hv, rvalid_ev, awake_ev, zc, hz, q1, q2, room, setC_refs, g1, g2, g3, g4, g5, sn, h2, h3, fz, hA.len, w1, w2, hc, f2, d0]
end
end Go.Proofs.Ytldcbmkfkbnmbaa
