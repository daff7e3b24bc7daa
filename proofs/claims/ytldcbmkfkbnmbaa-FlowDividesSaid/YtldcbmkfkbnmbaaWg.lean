/- flow: few; FlowAmounts. -/
import Derived.Test.YtldcbmkfkbnmbaaWf
import Derived.Test.YtldcbmkfkbnmbaaWd
namespace Go.Proofs.Ytldcbmkfkbnmbaa
open Go Go.Vv Go.Proofs
set_option linter.unusedSimpArgs false
set_option maxRecDepth 10000
set_option maxHeartbeats 4000000

theorem few_ev {L : AV} {ops : List Oper} (hL : IsL 6 L ops.length (cellsOf ops)) (hok : ∀ o ∈ ops, okOp o) :
    ∃ L', FC env 13 [L] none = some (L', fun _ => none) ∧ IsL 6 L' (fewL ops).length (cellsOf (fewL ops)) ∧ (∀ o ∈ fewL ops, okOp o) ∧ (fewL ops).length ≤ 40 := by
  obtain ⟨F', g1, g2⟩ := few_loop hL hok ops 0 [] rfl (by omega) rfl (by omega) (by simp)
  have hk : ∀ o ∈ fewL ops, okOp o := by
    intro o ho
    simp only [fewL, List.mem_map] at ho
    obtain ⟨q, hq, rfl⟩ := ho
    exact few_ok (hok q (List.mem_of_mem_take hq))
  have hlen : (fewL ops).length = (ops.take 40).length := by simp [fewL]
  have h40 : (fewL ops).length ≤ 40 := by simp [fewL]; omega
  simp only [fwSt, outV3, outH3, Nat.sub_zero, List.nil_append, Nat.zero_add, Int.natCast_zero, Int.cast_ofNat_Int] at g1 g2
  rw [← hlen] at g1 g2
  change LK env true 0 [0, 3, 4] [31] c13_L0 (some ⟨fr [(0, L), (3, .nils), (4, .int .i64 0)], hl []⟩) = some (.exit 0, ⟨F', hl (outH3 (fewL ops).length (fewL ops))⟩) at g1
  cases hm : (fewL ops).length with
  | zero =>
    rw [hm] at g1 g2
    simp only [outV3, outH3] at g1 g2
    refine ⟨.nils, ?_, .inl ⟨rfl, rfl, ?_⟩, hk, by omega⟩
    · refine FC_pure (lf := lf13) rfl rfl rfl ?_
      simp only [lf13, lc13, c13_0, c13_1, c13_2, c13_3, c13_4, c13_5, c13_6, c13_7, c13_8, c13_10]
      simp +contextual (maxSteps := 4000000) [hL.len, hL.refs, g1, g2]
    · rw [List.length_eq_zero_iff.1 hm]; rfl
  | succ k =>
    rw [hm] at g1 g2
    simp only [outV3, outH3] at g1 g2
    have e2 : (cellsOf (fewL ops)).length = (k + 1) * 6 := by rw [cells_len, hm]
    have hf := cells_flat hk
    refine ⟨.lst (k + 1) (cellsOf (fewL ops)), ?_, .inr ⟨rfl, e2, hf⟩, hk, by omega⟩
    refine FC_pure (lf := lf13) rfl rfl rfl ?_
    simp only [lf13, lc13, c13_0, c13_1, c13_2, c13_3, c13_4, c13_5, c13_6, c13_7, c13_8, c13_10]
    simp +contextual (maxSteps := 4000000) [hL.len, hL.refs, g1, g2]
    have sa := snap_arr (h := hl [(31, AObj.arr (k + 1) 6 38 (cellsOf (fewL ops)) false)]) (g := 31) (off := 0) (len := k + 1) 7 rfl (by rw [e2]; omega) hf
    have ct : cut (cellsOf (fewL ops)) (0 * 6) ((k + 1) * 6) = cellsOf (fewL ops) := by
      rw [Nat.zero_mul]
      exact cut_all _ _ e2
    rw [ct] at sa
    have sb : snap (hl [(31, AObj.arr (k + 1) 6 38 (cellsOf (fewL ops)) false)]) depth (.arr 31 (k + 1) 0 (k + 1)) = some (.lst (k + 1) (cellsOf (fewL ops)), [31]) := sa
    simp [sb]

theorem flowAmounts_ev (s : Nat → Int) (p : Bool) {L : AV} {ops : List Oper} (hL : IsL 6 L ops.length (cellsOf ops)) (hok : ∀ o ∈ ops, okOp o) :
    FC env 4 [L, .agg (setC s p)] none = some (.bool true, fun _ => none) := by
  obtain ⟨L', h1, hL', hok', h40⟩ := few_ev hL hok
  have h2 := amounts_ev s p hL' hok' (by omega)
  have h3 := ramounts_ev s p hL' hok' (by omega)
  cases hX : (if val s = true then amts s (fewL ops) 0 false else .inl 1) with
  | inl e =>
    rw [hX] at h2 h3
    have h4 := same_ev (a := .nils) (b := .nils) (l := []) (m := []) (.inl ⟨rfl, rfl, rfl⟩) (.inl ⟨rfl, rfl, rfl⟩) (by simp)
    simp only [amV, rmV] at h2 h3
    refine FC_pure (lf := lf4) rfl rfl rfl ?_
    simp only [lf4, lc4, c4_0, c4_1, c4_2, c4_3, c4_4]
    simp +contextual (maxSteps := 4000000) [hL.snap, hL'.snap, h1, h2, h3, h4, awake_ev]
  | inr l =>
    rw [hX] at h2 h3
    have hl : l.length = (fewL ops).length := by
      split at hX
      · exact amts_len s _ 0 false l hX
      · cases hX
    have i1 : IsL 1 (.lst l.length (ints l)) l.length (ints l) := .inr ⟨rfl, by rw [ints_len, Nat.mul_one], ints_flat l⟩
    by_cases hz : (fewL ops).length = 0
    · have i2 : IsL 1 .nils l.length (ints l) := .inl ⟨rfl, by omega, by rw [List.length_eq_zero_iff.1 (hl.trans hz)]; rfl⟩
      have h4 := same_ev i1 i2 (by omega)
      simp only [amV, rmV, hz, if_true] at h2 h3
      refine FC_pure (lf := lf4) rfl rfl rfl ?_
      simp only [lf4, lc4, c4_0, c4_1, c4_2, c4_3, c4_4]
      simp +contextual (maxSteps := 4000000) [hL.snap, hL'.snap, h1, h2, h3, h4, awake_ev]
    · have h4 := same_ev i1 i1 (by omega)
      have hz' : ¬ l.length = 0 := by omega
      simp only [amV, rmV, ← hl, if_neg hz'] at h2 h3
      refine FC_pure (lf := lf4) rfl rfl rfl ?_
      simp only [lf4, lc4, c4_0, c4_1, c4_2, c4_3, c4_4]
      simp +contextual (maxSteps := 4000000) [hL.snap, hL'.snap, h1, h2, h3, h4, awake_ev]
end Go.Proofs.Ytldcbmkfkbnmbaa
