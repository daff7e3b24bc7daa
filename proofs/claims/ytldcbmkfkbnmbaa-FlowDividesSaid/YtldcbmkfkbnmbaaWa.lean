/- flow: what Valid, Volume and Floor answer, by running their code. -/
import Derived.Test.YtldcbmkfkbnmbaaCode
import Derived.Test.YtldcbmkfkbnmbaaVp
namespace Go.Proofs.Ytldcbmkfkbnmbaa
open Go Go.Vv Go.Proofs
set_option linter.unusedSimpArgs false
set_option maxRecDepth 10000
set_option maxHeartbeats 4000000

def wi (n lo hi : Int) : Bool := decide (lo ≤ n) && decide (n ≤ hi)
def ev2 (n lo hi : Int) : Bool := wi n lo hi && decide (n.tmod 2 = 0)
theorem within_ev (n lo hi : Int) : FC env 19 [.int .i64 n, .int .i64 lo, .int .i64 hi] none = some (.bool (wi n lo hi), fun _ => none) := by
  refine FC_pure (lf := lf19) rfl rfl rfl ?_
  simp only [lf19, lc19, c19_0, c19_1]
  simp +contextual (maxSteps := 4000000) [wi]
theorem in_ev (n lo hi : Int) : FC env 18 [.int .i64 n, .int .i64 lo, .int .i64 hi] none = some (.bool (wi n lo hi), fun _ => none) := by
  refine FC_pure (lf := lf18) rfl rfl rfl ?_
  simp only [lf18, lc18, c18_0, c18_1]
  simp +contextual (maxSteps := 4000000) [wi]
theorem even_ev (n lo hi : Int) : FC env 22 [.int .i64 n, .int .i64 lo, .int .i64 hi] none = some (.bool (ev2 n lo hi), fun _ => none) := by
  refine FC_pure (lf := lf22) rfl rfl rfl ?_
  simp only [lf22, lc22, c22_0, c22_1]
  simp +contextual (maxSteps := 4000000) [within_ev, ev2]

/-- Settings as cells. -/
def setC (s : Nat → Int) (p : Bool) : List AV := [.int .i64 (s 0), .int .i64 (s 1), .int .i64 (s 2), .int .i64 (s 3), .int .i64 (s 4), .int .i64 (s 5), .int .i64 (s 6), .bool p, .int .i64 (s 8), .int .i64 (s 9), .int .i64 (s 10), .int .i64 (s 11), .int .i64 (s 12), .int .i64 (s 13), .int .i64 (s 14), .int .i64 (s 15), .int .i64 (s 16), .int .i64 (s 17), .int .i64 (s 18), .int .i64 (s 19)]
section
variable (s : Nat → Int) (p : Bool)
@[simp] theorem setC_len : (setC s p).length = 20 := rfl
@[simp] theorem setC_flat : (setC s p).all AV.flat = true := rfl
@[simp] theorem setC_take : (setC s p).take 20 = setC s p := rfl
@[simp] theorem setC_0 : (setC s p)[0]? = some (.int .i64 (s 0)) := rfl
@[simp] theorem setC_1 : (setC s p)[1]? = some (.int .i64 (s 1)) := rfl
@[simp] theorem setC_2 : (setC s p)[2]? = some (.int .i64 (s 2)) := rfl
@[simp] theorem setC_3 : (setC s p)[3]? = some (.int .i64 (s 3)) := rfl
@[simp] theorem setC_4 : (setC s p)[4]? = some (.int .i64 (s 4)) := rfl
@[simp] theorem setC_5 : (setC s p)[5]? = some (.int .i64 (s 5)) := rfl
@[simp] theorem setC_6 : (setC s p)[6]? = some (.int .i64 (s 6)) := rfl
@[simp] theorem setC_8 : (setC s p)[8]? = some (.int .i64 (s 8)) := rfl
@[simp] theorem setC_9 : (setC s p)[9]? = some (.int .i64 (s 9)) := rfl
@[simp] theorem setC_10 : (setC s p)[10]? = some (.int .i64 (s 10)) := rfl
@[simp] theorem setC_11 : (setC s p)[11]? = some (.int .i64 (s 11)) := rfl
@[simp] theorem setC_12 : (setC s p)[12]? = some (.int .i64 (s 12)) := rfl
@[simp] theorem setC_13 : (setC s p)[13]? = some (.int .i64 (s 13)) := rfl
@[simp] theorem setC_14 : (setC s p)[14]? = some (.int .i64 (s 14)) := rfl
@[simp] theorem setC_15 : (setC s p)[15]? = some (.int .i64 (s 15)) := rfl
@[simp] theorem setC_16 : (setC s p)[16]? = some (.int .i64 (s 16)) := rfl
@[simp] theorem setC_17 : (setC s p)[17]? = some (.int .i64 (s 17)) := rfl
@[simp] theorem setC_18 : (setC s p)[18]? = some (.int .i64 (s 18)) := rfl
@[simp] theorem setC_19 : (setC s p)[19]? = some (.int .i64 (s 19)) := rfl
@[simp] theorem setC_mapM (h : Heap) : snap h depth (.agg (setC s p)) = some (.agg (setC s p), []) := rfl

def chk : List AV := [.bool (!ev2 (s 0) 32 1024 || !ev2 (s 1) 4 1024),
  .bool (!wi (s 2) 0 8 || !wi (s 3) 0 16 || !wi (s 4) 0 16),
  .bool (!wi (s 5) 0 3 || !wi (s 6) 1 64),
  .bool (!wi (s 8) 0 64 || !wi (s 9) 0 64 || !wi (s 10) 0 64 || !wi (s 11) 0 63),
  .bool (!wi (s 12) 1 1073741824 || !wi (s 15) 0 65536),
  .bool (!wi (s 13) 1 1048576 || !wi (s 14) 1 1048576 || !wi (s 16) 0 1048576 || !wi (s 17) 1 (s 13)),
  .bool (!wi (s 18) 0 400000 || !wi (s 19) 0 400000)]
def val : Bool := ev2 (s 0) 32 1024 && ev2 (s 1) 4 1024 && wi (s 2) 0 8 && wi (s 3) 0 16 && wi (s 4) 0 16 && wi (s 5) 0 3 && wi (s 6) 1 64 && wi (s 8) 0 64 && wi (s 9) 0 64 && wi (s 10) 0 64 && wi (s 11) 0 63 && wi (s 12) 1 1073741824 && wi (s 15) 0 65536 && wi (s 13) 1 1048576 && wi (s 14) 1 1048576 && wi (s 16) 0 1048576 && wi (s 17) 1 (s 13) && wi (s 18) 0 400000 && wi (s 19) 0 400000
theorem check_ev : FC env 17 [.agg (setC s p)] none = some (.agg (chk s), fun _ => none) := by
  refine FC_pure (lf := lf17) rfl rfl rfl ?_
  simp only [lf17, lc17, c17_0, c17_1]
  simp +contextual (maxSteps := 4000000) [setC, chk, within_ev, even_ev]
theorem valid_ev : FC env 8 [.agg (setC s p)] none = some (.bool (val s), fun _ => none) := by
  refine FC_pure (lf := lf8) rfl rfl rfl ?_
  simp only [lf8, lc8, c8_0, c8_1]
  simp +contextual (maxSteps := 4000000) [chk, check_ev, val]
  simp only [Bool.and_assoc]
theorem rvalid_ev : FC env 9 [.agg (setC s p)] none = some (.bool (val s), fun _ => none) := by
  refine FC_pure (lf := lf9) rfl rfl rfl ?_
  simp only [lf9, lc9, c9_0, c9_1, c9_2, c9_3, c9_4, c9_5, c9_6, c9_7, c9_8, c9_9]
  simp +contextual (maxSteps := 4000000) [setC, in_ev, val, ev2]
  ac_rfl
def vol (n : Int) : Int := if wi n 0 1048576 = true ∧ val s = true then IntKind.wrap .i64 (IntKind.wrap .i64 (IntKind.wrap .i64 (n * s 0) * s 0) * s 1) else 0
theorem volume_ev (n : Int) : FC env 10 [.int .i64 n, .agg (setC s p)] none = some (.int .i64 (vol s n), fun _ => none) := by
  refine FC_pure (lf := lf10) rfl rfl rfl ?_
  simp only [lf10, lc10, c10_0, c10_1, c10_2, c10_3]
  simp +contextual (maxSteps := 4000000) [vol, within_ev, valid_ev]
  cases wi n 0 1048576 <;> cases val s <;> simp
theorem rvolume_ev (n : Int) : FC env 11 [.int .i64 n, .agg (setC s p)] none = some (.int .i64 (vol s n), fun _ => none) := by
  refine FC_pure (lf := lf11) rfl rfl rfl ?_
  simp only [lf11, lc11, c11_0, c11_1, c11_2, c11_3]
  simp +contextual (maxSteps := 4000000) [vol, in_ev, rvalid_ev]
  cases wi n 0 1048576 <;> cases val s <;> simp
end
end Go.Proofs.Ytldcbmkfkbnmbaa
