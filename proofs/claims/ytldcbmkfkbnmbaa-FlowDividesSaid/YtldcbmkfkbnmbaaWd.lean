/- flow: that it computes at all; FlowValids. -/
import Derived.Test.YtldcbmkfkbnmbaaWc
import Derived.Test.YtldcbmkfkbnmbaaVq
namespace Go.Proofs.Ytldcbmkfkbnmbaa
open Go Go.Vv Go.Proofs
set_option linter.unusedSimpArgs false
set_option maxRecDepth 10000
set_option maxHeartbeats 4000000

def us : Nat → Int
  | 0 => 40
  | 1 => 20
  | 6 => 2
  | 12 => 1000
  | 13 => 10
  | 14 => 20
  | 15 => 5
  | 17 => 1
  | _ => 0
theorem usual_ev : FC env 20 [] none = some (.agg (setC us false), fun _ => none) := by
  refine FC_pure (lf := lf20) rfl rfl rfl ?_
  simp only [lf20, lc20, c20_0, c20_1]
  simp +contextual (maxSteps := 4000000) [setC, us]
theorem us_val : val us = true := by decide
def awOps : List Oper := [⟨3, 0, 0, 0, 0, .lst 2 [.int .i64 0, .int .i64 0, .int .i64 0, .int .i64 0]⟩, ⟨4, 0, 0, 0, 0, .nils⟩, ⟨5, 0, 0, 0, 0, .nils⟩, ⟨3, 0, 0, 0, 0, .lst 1 [.int .i64 0, .int .i64 0]⟩]
theorem awOps_ok : ∀ o ∈ awOps, okOp o := by
  intro o ho
  simp only [awOps, List.mem_cons, List.not_mem_nil, or_false] at ho
  rcases ho with rfl | rfl | rfl | rfl
  · exact ⟨_, .inr ⟨rfl, rfl, rfl⟩⟩
  · exact ⟨[], .inl ⟨rfl, rfl, rfl⟩⟩
  · exact ⟨[], .inl ⟨rfl, rfl, rfl⟩⟩
  · exact ⟨_, .inr ⟨rfl, rfl, rfl⟩⟩
theorem aw_amts : amts us awOps 0 false = .inr [64, 59, 64, 96] := by decide
theorem aw_vol : vol us 1 = 32000 := by decide
theorem awake_ev : FC env 12 [] none = some (.bool true, fun _ => none) := by
  have h1 := amounts_ev us false (L := .lst 4 (cellsOf awOps)) (ops := awOps) (.inr ⟨rfl, rfl, rfl⟩) awOps_ok (by decide)
  rw [us_val, if_pos rfl, aw_amts] at h1
  simp only [cellsOf, awOps, opC, List.flatMap_cons, List.flatMap_nil, List.append_nil, List.cons_append, List.nil_append, amV, List.length_cons, List.length_nil, ints, List.map_cons, List.map_nil] at h1
  have h2 := same_ev (a := .lst 4 (ints [64, 59, 64, 96])) (b := .lst 4 (ints [64, 59, 64, 96])) (l := [64, 59, 64, 96]) (m := [64, 59, 64, 96]) (.inr ⟨rfl, rfl, rfl⟩) (.inr ⟨rfl, rfl, rfl⟩) (by decide)
  simp only [ints, List.map_cons, List.map_nil] at h2
  refine FC_pure (lf := lf12) rfl rfl rfl ?_
  simp only [lf12, lc12, c12_0, c12_1, c12_2, c12_3]
  simp +contextual (maxSteps := 4000000) [usual_ev, h1, h2, valid_ev, us_val, volume_ev, aw_vol, snapD_arr, snap7_arr, snap7_int, snap7_nils, snapO_arr, snapM_some, freezeAll, AObj.freeze]
theorem flowValids_ev (s : Nat → Int) (p : Bool) (n : Int) : FC env 3 [.agg (setC s p), .int .i64 n] none = some (.bool true, fun _ => none) := by
  refine FC_pure (lf := lf3) rfl rfl rfl ?_
  simp only [lf3, lc3, c3_0, c3_1]
  simp +contextual (maxSteps := 4000000) [valid_ev, rvalid_ev, volume_ev, rvolume_ev, awake_ev]
end Go.Proofs.Ytldcbmkfkbnmbaa
