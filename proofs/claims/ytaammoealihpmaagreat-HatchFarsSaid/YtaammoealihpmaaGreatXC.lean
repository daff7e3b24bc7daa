/- The typed texts of functions, and that they are right. Conditions: none. -/
import Derived.Test.YtaammoealihpmaaGreatXE
namespace Go.Proofs.YtaammoealihpmaaGreat
open Go Go.Vv Go.Dn Go.Dn.W
set_option linter.unusedVariables false
set_option maxRecDepth 100000
noncomputable def t_hatch_Pattern_L0 [W] (s : (HP (List (Int × (Bool × (List (Int × Int))))) (HP Int (HP Int (HP Int (HP (List (Int × (Bool × (List (Int × Int))))) Unit)))))) : Option (Nx (HP (List (Int × (Bool × (List (Int × Int))))) (HP Int (HP Int (HP Int (HP (List (Int × (Bool × (List (Int × Int))))) Unit))))) (HP (List (Int × (Bool × (List (Int × Int))))) (HP (List (Int × (Bool × (List (Int × Int))))) Unit))) :=
  br (cm .lss s.tl.tl.tl.hd s.tl.tl.hd) (ge s.hd s.tl.tl.tl.hd fun v6 =>
  none)
  (some (.out ⟨s.hd, ⟨s.tl.tl.tl.tl.hd, ()⟩⟩))
noncomputable def t_hatch_Pattern_L1 [W] (s : (HP (List (Int × (Bool × (List (Int × Int))))) (HP Int (HP Int (HP Int (HP (List (Int × (Bool × (List (Int × Int))))) Unit)))))) : Option (Nx (HP (List (Int × (Bool × (List (Int × Int))))) (HP Int (HP Int (HP Int (HP (List (Int × (Bool × (List (Int × Int))))) Unit))))) (HP (List (Int × (Bool × (List (Int × Int))))) (HP (List (Int × (Bool × (List (Int × Int))))) Unit))) :=
  br (cm .lss s.tl.tl.tl.hd s.tl.tl.hd) (ge s.hd s.tl.tl.tl.hd fun v12 =>
  none)
  (some (.out ⟨s.hd, ⟨s.tl.tl.tl.tl.hd, ()⟩⟩))
noncomputable def t_hatch_Pattern [W] (a : ((List (Int × (List (Int × Int)))) × (Int × (Int × Int)))) : Option (List (Int × (Bool × (List (Int × Int))))) :=
  call c_region_Valid (a.1 : (List (Int × (List (Int × Int))))) fun (v0 : Bool) =>
  br (nt v0) (some [])
  (call c_hatch_spaced (a.2.2.1 : Int) fun (v1 : Bool) =>
  br (nt v1) (some [])
  (br (cm .eql a.2.1 0) (gd (cm .neq 2 0) <|
  br (cm .eql (ar .rem .i64 a.2.2.2 2) 0) (call c_hatch_Rows ((a.1, (a.2.2.1, 0)) : ((List (Int × (List (Int × Int)))) × (Int × Int))) fun (v2 : (List (Int × (Bool × (List (Int × Int)))))) =>
  call c_track_Cover (v2 : (List (Int × (Bool × (List (Int × Int)))))) fun (v3 : (List (Int × (List (Int × Int))))) =>
  call c_hatch_beyond ((a.1, (v3, a.2.2.1)) : ((List (Int × (List (Int × Int)))) × ((List (Int × (List (Int × Int)))) × Int))) fun (v4 : (List (Int × (List (Int × Int))))) =>
  call c_hatch_Zigzag (v4 : (List (Int × (List (Int × Int))))) fun (v5 : (List (Int × (Bool × (List (Int × Int)))))) =>
  loop t_hatch_Pattern_L0 ⟨v5, ⟨4, ⟨(ln v5), ⟨0, ⟨v2, ()⟩⟩⟩⟩⟩ fun v7 =>
  gd (cm .eql (ln v7.hd) 0) <|
  some v7.tl.hd)
  (call c_hatch_Columns ((a.1, (a.2.2.1, 0)) : ((List (Int × (List (Int × Int)))) × (Int × Int))) fun (v8 : (List (Int × (Bool × (List (Int × Int)))))) =>
  call c_track_Cover (v8 : (List (Int × (Bool × (List (Int × Int)))))) fun (v9 : (List (Int × (List (Int × Int))))) =>
  call c_hatch_beyond ((a.1, (v9, a.2.2.1)) : ((List (Int × (List (Int × Int)))) × ((List (Int × (List (Int × Int)))) × Int))) fun (v10 : (List (Int × (List (Int × Int))))) =>
  call c_hatch_Zigzag (v10 : (List (Int × (List (Int × Int))))) fun (v11 : (List (Int × (Bool × (List (Int × Int)))))) =>
  loop t_hatch_Pattern_L1 ⟨v11, ⟨4, ⟨(ln v11), ⟨0, ⟨v8, ()⟩⟩⟩⟩⟩ fun v13 =>
  gd (cm .eql (ln v13.hd) 0) <|
  some v13.tl.hd))
  (br (cm .eql a.2.1 1) (none)
  (br (cm .eql a.2.1 2) (none)
  (br (cm .eql a.2.1 3) (none)
  (some []))))))
noncomputable def c_hatch_Pattern : Ctr := ⟨35, [(.ag, (.ls (.p I (.ls (.p I I))))), (.one, I), (.one, I), (.one, I)], [(false, (.ls (.p I (.p .bool (.ls (.p I I))))))], @t_hatch_Pattern wv⟩
theorem e_hatch_Pattern (w : W) (a) : fnD (dW w) (cxO (gam [(22, c_region_Valid), (23, c_hatch_spaced), (9, c_hatch_Rows), (18, c_track_Cover), (41, c_hatch_beyond), (14, c_hatch_Zigzag), (11, c_hatch_Columns)]) [] [58, 59, 60] [] []) 8 35 [(.ag, (.ls (.p I (.ls (.p I I))))), (.one, I), (.one, I), (.one, I)] [(false, (.ls (.p I (.p .bool (.ls (.p I I))))))] a = @t_hatch_Pattern w a := by kernel_rfl
theorem g_hatch_Pattern : Go.Dn.Good PG c_hatch_Pattern := good (gam [(22, c_region_Valid), (23, c_hatch_spaced), (9, c_hatch_Rows), (18, c_track_Cover), (41, c_hatch_beyond), (14, c_hatch_Zigzag), (11, c_hatch_Columns)]) [] [58, 59, 60] [] [] 8 (gam_cons g_region_Valid (gam_cons g_hatch_spaced (gam_cons g_hatch_Rows (gam_cons g_track_Cover (gam_cons g_hatch_beyond (gam_cons g_hatch_Zigzag (gam_cons g_hatch_Columns gam_nil))))))) so_nil (fnOK_of (by kernel_rfl)) rfl rfl (e_hatch_Pattern wv)
end Go.Proofs.YtaammoealihpmaaGreat
namespace Go.Proofs.YtaammoealihpmaaGreat
open Go Go.Vv Go.Dn Go.Dn.W
set_option linter.unusedVariables false
set_option maxRecDepth 100000
noncomputable def t_additivelaw29_awake [W] (a : Unit) : Option Bool :=
  call c_hatch_Zigzag (((0, ((0, 2) :: [])) :: ((1, ((0, 2) :: [])) :: [])) : (List (Int × (List (Int × Int))))) fun (v0 : (List (Int × (Bool × (List (Int × Int)))))) =>
  br (cm .eql (ln v0) 1) (ge v0 0 fun v1 =>
  br (cm .eql (ln v1.2.2) 4) (ge v0 0 fun v2 =>
  ge v2.2.2 2 fun v3 =>
  br (an (cm .eql v3.1 1) (cm .eql v3.2 1)) (ge v0 0 fun v4 =>
  br (cm .eql v4.1 3) (call c_hatch_Rows ((((0, ((0, 2) :: [])) :: ((1, ((0, 2) :: [])) :: [])), (1, 0)) : ((List (Int × (List (Int × Int)))) × (Int × Int))) fun (v5 : (List (Int × (Bool × (List (Int × Int)))))) =>
  br (cm .eql (ln v5) 2) (call c_hatch_Columns ((((0, ((0, 2) :: [])) :: ((1, ((0, 2) :: [])) :: [])), (2, 1)) : ((List (Int × (List (Int × Int)))) × (Int × Int))) fun (v6 : (List (Int × (Bool × (List (Int × Int)))))) =>
  br (cm .eql (ln v6) 1) (call c_hatch_Pattern ((((0, ((0, 2) :: [])) :: ((1, ((0, 2) :: [])) :: [])), (0, (2, 0))) : ((List (Int × (List (Int × Int)))) × (Int × (Int × Int)))) fun (v7 : (List (Int × (Bool × (List (Int × Int)))))) =>
  some (cm .eql (ln v7) 1))
  (some false))
  (some false))
  (some false))
  (some false))
  (some false))
  (some false)
noncomputable def c_additivelaw29_awake : Ctr := ⟨13, [], [(false, .bool)], @t_additivelaw29_awake wv⟩
theorem e_additivelaw29_awake (w : W) (a) : fnD (dW w) (cxO (gam [(14, c_hatch_Zigzag), (9, c_hatch_Rows), (11, c_hatch_Columns), (35, c_hatch_Pattern)]) [] [] [] []) 8 13 [] [(false, .bool)] a = @t_additivelaw29_awake w a := by kernel_rfl
theorem g_additivelaw29_awake : Go.Dn.Good PG c_additivelaw29_awake := good (gam [(14, c_hatch_Zigzag), (9, c_hatch_Rows), (11, c_hatch_Columns), (35, c_hatch_Pattern)]) [] [] [] [] 8 (gam_cons g_hatch_Zigzag (gam_cons g_hatch_Rows (gam_cons g_hatch_Columns (gam_cons g_hatch_Pattern gam_nil)))) so_nil (fnOK_of (by kernel_rfl)) rfl rfl (e_additivelaw29_awake wv)
noncomputable def t_additivelaw29_HatchLines [W] (a : ((List (Int × (List (Int × Int)))) × (Int × Int))) : Option Bool :=
  call c_additivelaw29_few (a.1 : (List (Int × (List (Int × Int))))) fun (v0 : (List (Int × (List (Int × Int))))) =>
  call c_hatch_Rows ((v0, (a.2.1, a.2.2)) : ((List (Int × (List (Int × Int)))) × (Int × Int))) fun (v1 : (List (Int × (Bool × (List (Int × Int)))))) =>
  call c_additiveref29_Rows ((v0, (a.2.1, a.2.2)) : ((List (Int × (List (Int × Int)))) × (Int × Int))) fun (v2 : (List (Int × (Bool × (List (Int × Int)))))) =>
  call c_additiveref23_SameAll ((v1, v2) : ((List (Int × (Bool × (List (Int × Int))))) × (List (Int × (Bool × (List (Int × Int))))))) fun (v3 : Bool) =>
  br v3 (call c_hatch_Columns ((v0, (a.2.1, a.2.2)) : ((List (Int × (List (Int × Int)))) × (Int × Int))) fun (v4 : (List (Int × (Bool × (List (Int × Int)))))) =>
  call c_additiveref29_Columns ((v0, (a.2.1, a.2.2)) : ((List (Int × (List (Int × Int)))) × (Int × Int))) fun (v5 : (List (Int × (Bool × (List (Int × Int)))))) =>
  call c_additiveref23_SameAll ((v4, v5) : ((List (Int × (Bool × (List (Int × Int))))) × (List (Int × (Bool × (List (Int × Int))))))) fun (v6 : Bool) =>
  br v6 (call c_additivelaw29_awake (() : Unit) fun (v7 : Bool) =>
  some v7)
  (some false))
  (some false)
noncomputable def c_additivelaw29_HatchLines : Ctr := ⟨3, [(.ag, (.ls (.p I (.ls (.p I I))))), (.one, I), (.one, I)], [(false, .bool)], @t_additivelaw29_HatchLines wv⟩
end Go.Proofs.YtaammoealihpmaaGreat

namespace Go.Proofs.YtaammoealihpmaaGreat
open Go Go.Vv Go.Dn Go.Dn.W
set_option linter.unusedVariables false
set_option maxRecDepth 100000
noncomputable def t_runs_Contains_L0 [W] (s : (HP (List (Int × Int)) (HP Int (HP Int (HP Int Unit))))) : Option (Nx (HP (List (Int × Int)) (HP Int (HP Int (HP Int Unit)))) ((HP Int Unit) ⊕ Unit)) :=
  br (cm .lss s.tl.tl.hd s.tl.hd) (ge s.hd s.tl.tl.hd fun v1 =>
  br (cm .leq v1.1 s.tl.tl.tl.hd) (br (cm .lss s.tl.tl.tl.hd v1.2) (some (.out (.inl ⟨s.tl.tl.hd, ()⟩)))
  (some (.go ⟨s.hd, ⟨s.tl.hd, ⟨(ar .add .i64 s.tl.tl.hd 1), ⟨s.tl.tl.tl.hd, ()⟩⟩⟩⟩)))
  (some (.go ⟨s.hd, ⟨s.tl.hd, ⟨(ar .add .i64 s.tl.tl.hd 1), ⟨s.tl.tl.tl.hd, ()⟩⟩⟩⟩)))
  (some (.out (.inr ())))
noncomputable def t_runs_Contains [W] (a : ((List (Int × Int)) × Int)) : Option Bool :=
  call c_runs_Valid (a.1 : (List (Int × Int))) fun (v0 : Bool) =>
  br (nt v0) (some false)
  (loop t_runs_Contains_L0 ⟨a.1, ⟨(ln a.1), ⟨0, ⟨a.2, ()⟩⟩⟩⟩ fun v2 =>
  match v2 with
  | .inl v3 => (some (cm .geq v3.hd 0))
  | .inr v4 => (some (cm .geq (-1) 0)))
noncomputable def c_runs_Contains : Ctr := ⟨45, [(.one, (.ls (.p I I))), (.one, I)], [(false, .bool)], @t_runs_Contains wv⟩
noncomputable def t_region_row_L0 [W] (s : (HP (List (Int × (List (Int × Int)))) (HP Int (HP Int (HP Int (HP Int (HP (List (Int × (List (Int × Int)))) Unit))))))) : Option (Nx (HP (List (Int × (List (Int × Int)))) (HP Int (HP Int (HP Int (HP Int (HP (List (Int × (List (Int × Int)))) Unit)))))) (HP (List (Int × (List (Int × Int)))) (HP Int (HP Int (HP Int (HP (List (Int × (List (Int × Int)))) Unit)))))) :=
  br (cm .lss s.tl.tl.tl.hd s.tl.tl.tl.tl.hd) (gd (cm .geq 1 0) <|
  ge s.hd (cv .i64 (sh .shr .u64 (cv .u64 (ar .add .i64 s.tl.tl.tl.hd s.tl.tl.tl.tl.hd)) 1)) fun v0 =>
  call c_cmp_Compare ((v0.1, s.tl.hd) : (Int × Int)) fun (v1 : Int) =>
  br (cm .lss v1 0) (some (.go ⟨s.hd, ⟨s.tl.hd, ⟨s.tl.tl.hd, ⟨(ar .add .i64 (cv .i64 (sh .shr .u64 (cv .u64 (ar .add .i64 s.tl.tl.tl.hd s.tl.tl.tl.tl.hd)) 1)) 1), ⟨s.tl.tl.tl.tl.hd, ⟨s.tl.tl.tl.tl.tl.hd, ()⟩⟩⟩⟩⟩⟩))
  (some (.go ⟨s.hd, ⟨s.tl.hd, ⟨s.tl.tl.hd, ⟨s.tl.tl.tl.hd, ⟨(cv .i64 (sh .shr .u64 (cv .u64 (ar .add .i64 s.tl.tl.tl.hd s.tl.tl.tl.tl.hd)) 1)), ⟨s.tl.tl.tl.tl.tl.hd, ()⟩⟩⟩⟩⟩⟩)))
  (some (.out ⟨s.hd, ⟨s.tl.hd, ⟨s.tl.tl.hd, ⟨s.tl.tl.tl.hd, ⟨s.tl.tl.tl.tl.tl.hd, ()⟩⟩⟩⟩⟩))
noncomputable def t_region_row [W] (a : ((List (Int × (List (Int × Int)))) × Int)) : Option (List (Int × Int)) :=
  loop t_region_row_L0 ⟨a.1, ⟨a.2, ⟨(ln a.1), ⟨0, ⟨(ln a.1), ⟨a.1, ()⟩⟩⟩⟩⟩⟩ fun v2 =>
  br (cm .lss v2.tl.tl.tl.hd v2.tl.tl.hd) (ge v2.hd v2.tl.tl.tl.hd fun v3 =>
  call c_cmp_Compare ((v3.1, v2.tl.hd) : (Int × Int)) fun (v4 : Int) =>
  br (nt (cm .eql v4 0)) (some [])
  (ge v2.tl.tl.tl.tl.hd v2.tl.tl.tl.hd fun v5 =>
  some v5.2))
  (some [])
noncomputable def c_region_row : Ctr := ⟨46, [(.ag, (.ls (.p I (.ls (.p I I))))), (.one, I)], [(false, (.ls (.p I I)))], @t_region_row wv⟩
noncomputable def t_region_Contains [W] (a : ((List (Int × (List (Int × Int)))) × (Int × Int))) : Option Bool :=
  call c_region_Valid (a.1 : (List (Int × (List (Int × Int))))) fun (v0 : Bool) =>
  br v0 (call c_region_row ((a.1, a.2.2) : ((List (Int × (List (Int × Int)))) × Int)) fun (v1 : (List (Int × Int))) =>
  call c_runs_Contains ((v1, a.2.1) : ((List (Int × Int)) × Int)) fun (v2 : Bool) =>
  some v2)
  (some false)
noncomputable def c_region_Contains : Ctr := ⟨20, [(.ag, (.ls (.p I (.ls (.p I I))))), (.ag, (.p I I))], [(false, .bool)], @t_region_Contains wv⟩
noncomputable def t_additivelaw29_HatchEvery [W] (a : ((List (Int × (List (Int × Int)))) × (Int × (Int × (Int × Int))))) : Option Bool :=
  call c_additivelaw29_few (a.1 : (List (Int × (List (Int × Int))))) fun (v0 : (List (Int × (List (Int × Int))))) =>
  call c_hatch_Rows ((v0, (a.2.1, a.2.2.1)) : ((List (Int × (List (Int × Int)))) × (Int × Int))) fun (v1 : (List (Int × (Bool × (List (Int × Int)))))) =>
  call c_track_Cover (v1 : (List (Int × (Bool × (List (Int × Int)))))) fun (v2 : (List (Int × (List (Int × Int))))) =>
  call c_hatch_Columns ((v0, (a.2.1, a.2.2.1)) : ((List (Int × (List (Int × Int)))) × (Int × Int))) fun (v3 : (List (Int × (Bool × (List (Int × Int)))))) =>
  call c_track_Cover (v3 : (List (Int × (Bool × (List (Int × Int)))))) fun (v4 : (List (Int × (List (Int × Int))))) =>
  call c_additiveref18_Valid (v0 : (List (Int × (List (Int × Int))))) fun (v5 : Bool) =>
  br (nt v5) (call c_additivelaw29_awake (() : Unit) fun (v6 : Bool) =>
  some v6)
  (br (cm .lss a.2.1 1) (call c_additivelaw29_awake (() : Unit) fun (v7 : Bool) =>
  some v7)
  (br (cm .gtr a.2.1 64) (call c_additivelaw29_awake (() : Unit) fun (v8 : Bool) =>
  some v8)
  (br (cm .lss a.2.2.2.1 (-4096)) (call c_additivelaw29_awake (() : Unit) fun (v9 : Bool) =>
  some v9)
  (br (cm .geq a.2.2.2.1 4096) (call c_additivelaw29_awake (() : Unit) fun (v10 : Bool) =>
  some v10)
  (br (cm .lss a.2.2.2.2 (-4096)) (call c_additivelaw29_awake (() : Unit) fun (v11 : Bool) =>
  some v11)
  (br (cm .geq a.2.2.2.2 4096) (call c_additivelaw29_awake (() : Unit) fun (v12 : Bool) =>
  some v12)
  (br (cm .lss a.2.2.1 (-1000000)) (call c_additivelaw29_awake (() : Unit) fun (v13 : Bool) =>
  some v13)
  (br (cm .gtr a.2.2.1 1000000) (call c_additivelaw29_awake (() : Unit) fun (v14 : Bool) =>
  some v14)
  (call c_region_Contains ((v0, (a.2.2.2.1, a.2.2.2.2)) : ((List (Int × (List (Int × Int)))) × (Int × Int))) fun (v15 : Bool) =>
  call c_region_Contains ((v2, (a.2.2.2.1, a.2.2.2.2)) : ((List (Int × (List (Int × Int)))) × (Int × Int))) fun (v16 : Bool) =>
  br v15 (gd (cm .neq a.2.1 0) <|
  br (be v16 (cm .eql (ar .rem .i64 (ar .sub .i64 a.2.2.2.2 a.2.2.1) a.2.1) 0)) (call c_region_Contains ((v4, (a.2.2.2.1, a.2.2.2.2)) : ((List (Int × (List (Int × Int)))) × (Int × Int))) fun (v17 : Bool) =>
  br v15 (gd (cm .neq a.2.1 0) <|
  br (be v17 (cm .eql (ar .rem .i64 (ar .sub .i64 a.2.2.2.1 a.2.2.1) a.2.1) 0)) (call c_additivelaw29_awake (() : Unit) fun (v18 : Bool) =>
  some v18)
  (some false))
  (br (be v17 false) (call c_additivelaw29_awake (() : Unit) fun (v19 : Bool) =>
  some v19)
  (some false)))
  (some false))
  (br (be v16 false) (call c_region_Contains ((v4, (a.2.2.2.1, a.2.2.2.2)) : ((List (Int × (List (Int × Int)))) × (Int × Int))) fun (v20 : Bool) =>
  br v15 (gd (cm .neq a.2.1 0) <|
  br (be v20 (cm .eql (ar .rem .i64 (ar .sub .i64 a.2.2.2.1 a.2.2.1) a.2.1) 0)) (call c_additivelaw29_awake (() : Unit) fun (v21 : Bool) =>
  some v21)
  (some false))
  (br (be v20 false) (call c_additivelaw29_awake (() : Unit) fun (v22 : Bool) =>
  some v22)
  (some false)))
  (some false)))))))))))
noncomputable def c_additivelaw29_HatchEvery : Ctr := ⟨6, [(.ag, (.ls (.p I (.ls (.p I I))))), (.one, I), (.one, I), (.ag, (.p I I))], [(false, .bool)], @t_additivelaw29_HatchEvery wv⟩
end Go.Proofs.YtaammoealihpmaaGreat
namespace Go.Proofs.YtaammoealihpmaaGreat
open Go Go.Vv Go.Dn Go.Dn.W
set_option linter.unusedVariables false
set_option maxRecDepth 100000
noncomputable def t_additiveref29_distance [W] (a : ((Int × Int) × (Int × Int))) : Option Int :=
  br (cm .lss (ar .sub .i64 a.1.1 a.2.1) 0) (br (cm .lss (ar .sub .i64 a.1.2 a.2.2) 0) (br (cm .gtr (ng .i64 (ar .sub .i64 a.1.1 a.2.1)) (ng .i64 (ar .sub .i64 a.1.2 a.2.2))) (some (ng .i64 (ar .sub .i64 a.1.1 a.2.1)))
  (some (ng .i64 (ar .sub .i64 a.1.2 a.2.2))))
  (br (cm .gtr (ng .i64 (ar .sub .i64 a.1.1 a.2.1)) (ar .sub .i64 a.1.2 a.2.2)) (some (ng .i64 (ar .sub .i64 a.1.1 a.2.1)))
  (some (ar .sub .i64 a.1.2 a.2.2))))
  (br (cm .lss (ar .sub .i64 a.1.2 a.2.2) 0) (br (cm .gtr (ar .sub .i64 a.1.1 a.2.1) (ng .i64 (ar .sub .i64 a.1.2 a.2.2))) (some (ar .sub .i64 a.1.1 a.2.1))
  (some (ng .i64 (ar .sub .i64 a.1.2 a.2.2))))
  (br (cm .gtr (ar .sub .i64 a.1.1 a.2.1) (ar .sub .i64 a.1.2 a.2.2)) (some (ar .sub .i64 a.1.1 a.2.1))
  (some (ar .sub .i64 a.1.2 a.2.2))))
noncomputable def c_additiveref29_distance : Ctr := ⟨67, [(.ag, (.p I I)), (.ag, (.p I I))], [(false, I)], @t_additiveref29_distance wv⟩
theorem e_additiveref29_distance (w : W) (a) : fnD (dW w) (cxO (gam []) [] [] [] []) 8 67 [(.ag, (.p I I)), (.ag, (.p I I))] [(false, I)] a = @t_additiveref29_distance w a := by kernel_rfl
theorem g_additiveref29_distance : Go.Dn.Good PG c_additiveref29_distance := good (gam []) [] [] [] [] 8 gam_nil so_nil (fnOK_of (by kernel_rfl)) rfl rfl (e_additiveref29_distance wv)
noncomputable def t_additiveref29_nearest_L0 [W] (s : (HP (List (Int × Int)) (HP Int (HP Int (HP Int (HP Int Unit)))))) : Option (Nx (HP (List (Int × Int)) (HP Int (HP Int (HP Int (HP Int Unit))))) (HP Int Unit)) :=
  br (cm .lss s.tl.tl.hd (ln s.hd)) (ge s.hd s.tl.tl.hd fun v2 =>
  call c_additiveref29_distance (((v2.1, v2.2), (s.tl.tl.tl.hd, s.tl.tl.tl.tl.hd)) : ((Int × Int) × (Int × Int))) fun (v3 : Int) =>
  br (cm .lss v3 s.tl.hd) (some (.go ⟨s.hd, ⟨v3, ⟨(ar .add .i64 s.tl.tl.hd 1), ⟨s.tl.tl.tl.hd, ⟨s.tl.tl.tl.tl.hd, ()⟩⟩⟩⟩⟩))
  (some (.go ⟨s.hd, ⟨s.tl.hd, ⟨(ar .add .i64 s.tl.tl.hd 1), ⟨s.tl.tl.tl.hd, ⟨s.tl.tl.tl.tl.hd, ()⟩⟩⟩⟩⟩)))
  (some (.out ⟨s.tl.hd, ()⟩))
noncomputable def t_additiveref29_nearest [W] (a : ((List (Int × Int)) × (Int × Int))) : Option Int :=
  ge a.1 0 fun v0 =>
  call c_additiveref29_distance (((v0.1, v0.2), (a.2.1, a.2.2)) : ((Int × Int) × (Int × Int))) fun (v1 : Int) =>
  loop t_additiveref29_nearest_L0 ⟨a.1, ⟨v1, ⟨1, ⟨a.2.1, ⟨a.2.2, ()⟩⟩⟩⟩⟩ fun v4 =>
  some v4.hd
noncomputable def c_additiveref29_nearest : Ctr := ⟨42, [(.one, (.ls (.p I I))), (.ag, (.p I I))], [(false, I)], @t_additiveref29_nearest wv⟩
theorem e_additiveref29_nearest (w : W) (a) : fnD (dW w) (cxO (gam [(67, c_additiveref29_distance)]) [] [] [] []) 8 42 [(.one, (.ls (.p I I))), (.ag, (.p I I))] [(false, I)] a = @t_additiveref29_nearest w a := by kernel_rfl
theorem g_additiveref29_nearest : Go.Dn.Good PG c_additiveref29_nearest := good (gam [(67, c_additiveref29_distance)]) [] [] [] [] 8 (gam_cons g_additiveref29_distance gam_nil) so_nil (fnOK_of (by kernel_rfl)) rfl rfl (e_additiveref29_nearest wv)
noncomputable def t_hatch_Far_L0 [W] (s : (HP Int (HP Int (HP (List (Int × (List (Int × Int)))) (HP (List (Int × (List (Int × Int)))) Unit))))) : Option (Nx (HP Int (HP Int (HP (List (Int × (List (Int × Int)))) (HP (List (Int × (List (Int × Int)))) Unit)))) (HP Int Unit)) :=
  br (cm .lss s.hd s.tl.hd) (gd (cm .neq 2 0) <|
  call c_hatch_beyond ((s.tl.tl.hd, (s.tl.tl.tl.hd, (ar .quo .i64 (ar .add .i64 s.hd s.tl.hd) 2))) : ((List (Int × (List (Int × Int)))) × ((List (Int × (List (Int × Int)))) × Int))) fun (v2 : (List (Int × (List (Int × Int))))) =>
  br (cm .eql (ln v2) 0) (some (.go ⟨s.hd, ⟨(ar .quo .i64 (ar .add .i64 s.hd s.tl.hd) 2), ⟨s.tl.tl.hd, ⟨s.tl.tl.tl.hd, ()⟩⟩⟩⟩))
  (some (.go ⟨(ar .add .i64 (ar .quo .i64 (ar .add .i64 s.hd s.tl.hd) 2) 1), ⟨s.tl.hd, ⟨s.tl.tl.hd, ⟨s.tl.tl.tl.hd, ()⟩⟩⟩⟩)))
  (some (.out ⟨s.hd, ()⟩))
noncomputable def t_hatch_Far [W] (a : ((List (Int × (List (Int × Int)))) × (List (Int × (List (Int × Int)))))) : Option Int :=
  call c_region_Valid (a.1 : (List (Int × (List (Int × Int))))) fun (v0 : Bool) =>
  br (nt v0) (some (-1))
  (call c_region_Valid (a.2 : (List (Int × (List (Int × Int))))) fun (v1 : Bool) =>
  br (nt v1) (some (-1))
  (br (cm .eql (ln a.1) 0) (some 0)
  (br (cm .eql (ln a.2) 0) (some (-1))
  (loop t_hatch_Far_L0 ⟨0, ⟨8192, ⟨a.1, ⟨a.2, ()⟩⟩⟩⟩ fun v3 =>
  some v3.hd))))
noncomputable def c_hatch_Far : Ctr := ⟨16, [(.ag, (.ls (.p I (.ls (.p I I))))), (.ag, (.ls (.p I (.ls (.p I I)))))], [(false, I)], @t_hatch_Far wv⟩
theorem e_hatch_Far (w : W) (a) : fnD (dW w) (cxO (gam [(41, c_hatch_beyond), (22, c_region_Valid)]) [] [] [] []) 8 16 [(.ag, (.ls (.p I (.ls (.p I I))))), (.ag, (.ls (.p I (.ls (.p I I)))))] [(false, I)] a = @t_hatch_Far w a := by kernel_rfl
theorem g_hatch_Far : Go.Dn.Good PG c_hatch_Far := good (gam [(41, c_hatch_beyond), (22, c_region_Valid)]) [] [] [] [] 8 (gam_cons g_hatch_beyond (gam_cons g_region_Valid gam_nil)) so_nil (fnOK_of (by kernel_rfl)) rfl rfl (e_hatch_Far wv)
noncomputable def t_additiveref29_Far_L0 [W] (s : (HP (List (Int × Int)) (HP (List (Int × Int)) (HP Int (HP Int Unit))))) : Option (Nx (HP (List (Int × Int)) (HP (List (Int × Int)) (HP Int (HP Int Unit)))) ((HP Int Unit) ⊕ (HP Int Unit))) :=
  br (cm .lss s.tl.tl.tl.hd (ln s.hd)) (br (cm .eql (ln s.tl.hd) 0) (some (.out (.inl ⟨(-1), ()⟩)))
  (ge s.hd s.tl.tl.tl.hd fun v4 =>
  call c_additiveref29_nearest ((s.tl.hd, (v4.1, v4.2)) : ((List (Int × Int)) × (Int × Int))) fun (v5 : Int) =>
  br (cm .gtr v5 s.tl.tl.hd) (some (.go ⟨s.hd, ⟨s.tl.hd, ⟨v5, ⟨(ar .add .i64 s.tl.tl.tl.hd 1), ()⟩⟩⟩⟩))
  (some (.go ⟨s.hd, ⟨s.tl.hd, ⟨s.tl.tl.hd, ⟨(ar .add .i64 s.tl.tl.tl.hd 1), ()⟩⟩⟩⟩))))
  (some (.out (.inr ⟨s.tl.tl.hd, ()⟩)))
noncomputable def t_additiveref29_Far [W] (a : ((List (Int × (List (Int × Int)))) × (List (Int × (List (Int × Int)))))) : Option Int :=
  call c_additiveref18_Valid (a.1 : (List (Int × (List (Int × Int))))) fun (v0 : Bool) =>
  br (nt v0) (some (-1))
  (call c_additiveref18_Valid (a.2 : (List (Int × (List (Int × Int))))) fun (v1 : Bool) =>
  br (nt v1) (some (-1))
  (call c_additiveref18_Cells (a.1 : (List (Int × (List (Int × Int))))) fun (v2 : (List (Int × Int))) =>
  call c_additiveref18_Cells (a.2 : (List (Int × (List (Int × Int))))) fun (v3 : (List (Int × Int))) =>
  loop t_additiveref29_Far_L0 ⟨v2, ⟨v3, ⟨0, ⟨0, ()⟩⟩⟩⟩ fun v6 =>
  match v6 with
  | .inl v7 => (some v7.hd)
  | .inr v8 => (some v8.hd)))
noncomputable def c_additiveref29_Far : Ctr := ⟨17, [(.ag, (.ls (.p I (.ls (.p I I))))), (.ag, (.ls (.p I (.ls (.p I I)))))], [(false, I)], @t_additiveref29_Far wv⟩
theorem e_additiveref29_Far (w : W) (a) : fnD (dW w) (cxO (gam [(42, c_additiveref29_nearest), (19, c_additiveref18_Valid), (27, c_additiveref18_Cells)]) [] [] [] []) 8 17 [(.ag, (.ls (.p I (.ls (.p I I))))), (.ag, (.ls (.p I (.ls (.p I I)))))] [(false, I)] a = @t_additiveref29_Far w a := by kernel_rfl
theorem g_additiveref29_Far : Go.Dn.Good PG c_additiveref29_Far := good (gam [(42, c_additiveref29_nearest), (19, c_additiveref18_Valid), (27, c_additiveref18_Cells)]) [] [] [] [] 8 (gam_cons g_additiveref29_nearest (gam_cons g_additiveref18_Valid (gam_cons g_additiveref18_Cells gam_nil))) so_nil (fnOK_of (by kernel_rfl)) rfl rfl (e_additiveref29_Far wv)
noncomputable def t_additivelaw29_HatchFars [W] (a : ((List (Int × (List (Int × Int)))) × (List (Int × (List (Int × Int)))))) : Option Bool :=
  call c_additivelaw29_few (a.1 : (List (Int × (List (Int × Int))))) fun (v0 : (List (Int × (List (Int × Int))))) =>
  call c_additivelaw29_few (a.2 : (List (Int × (List (Int × Int))))) fun (v1 : (List (Int × (List (Int × Int))))) =>
  call c_hatch_Far ((v0, v1) : ((List (Int × (List (Int × Int)))) × (List (Int × (List (Int × Int)))))) fun (v2 : Int) =>
  call c_additiveref29_Far ((v0, v1) : ((List (Int × (List (Int × Int)))) × (List (Int × (List (Int × Int)))))) fun (v3 : Int) =>
  br (cm .eql v2 v3) (call c_additivelaw29_awake (() : Unit) fun (v4 : Bool) =>
  some v4)
  (some false)
noncomputable def c_additivelaw29_HatchFars : Ctr := ⟨5, [(.ag, (.ls (.p I (.ls (.p I I))))), (.ag, (.ls (.p I (.ls (.p I I)))))], [(false, .bool)], @t_additivelaw29_HatchFars wv⟩
theorem e_additivelaw29_HatchFars (w : W) (a) : fnD (dW w) (cxO (gam [(7, c_additivelaw29_few), (16, c_hatch_Far), (17, c_additiveref29_Far), (13, c_additivelaw29_awake)]) [] [] [] []) 8 5 [(.ag, (.ls (.p I (.ls (.p I I))))), (.ag, (.ls (.p I (.ls (.p I I)))))] [(false, .bool)] a = @t_additivelaw29_HatchFars w a := by kernel_rfl
theorem g_additivelaw29_HatchFars : Go.Dn.Good PG c_additivelaw29_HatchFars := good (gam [(7, c_additivelaw29_few), (16, c_hatch_Far), (17, c_additiveref29_Far), (13, c_additivelaw29_awake)]) [] [] [] [] 8 (gam_cons g_additivelaw29_few (gam_cons g_hatch_Far (gam_cons g_additiveref29_Far (gam_cons g_additivelaw29_awake gam_nil)))) so_nil (fnOK_of (by kernel_rfl)) rfl rfl (e_additivelaw29_HatchFars wv)
end Go.Proofs.YtaammoealihpmaaGreat
