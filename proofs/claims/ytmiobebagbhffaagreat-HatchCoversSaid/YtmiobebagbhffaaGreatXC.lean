/- The typed texts of functions, and that they are right. Conditions: none. -/
import Derived.Test.YtmiobebagbhffaaGreatXE
namespace Go.Proofs.YtmiobebagbhffaaGreat
open Go Go.Vv Go.Dn Go.Dn.W
set_option linter.unusedVariables false
set_option maxRecDepth 100000
noncomputable def t_hatch_Pattern_L0 [W] (s : (HP (List (Int × (Bool × (List (Int × Int))))) (HP Int (HP Int (HP Int (HP (List (Int × (Bool × (List (Int × Int))))) Unit)))))) : Option (Nx (HP (List (Int × (Bool × (List (Int × Int))))) (HP Int (HP Int (HP Int (HP (List (Int × (Bool × (List (Int × Int))))) Unit))))) (HP (List (Int × (Bool × (List (Int × Int))))) (HP (List (Int × (Bool × (List (Int × Int))))) Unit))) :=
  br (cm .lss s.tl.tl.tl.hd s.tl.tl.hd) (ge s.hd s.tl.tl.tl.hd fun v6 =>
  none)
  (some (.out ⟨s.hd, ⟨s.tl.tl.tl.tl.hd, ()⟩⟩))
noncomputable def t_hatch_Pattern_L1 [W] (s : (HP (List (Int × (Bool × (List (Int × Int))))) (HP Int (HP Int (HP Int (HP (List (Int × (Bool × (List (Int × Int))))) Unit)))))) : Option (Nx (HP (List (Int × (Bool × (List (Int × Int))))) (HP Int (HP Int (HP Int (HP (List (Int × (Bool × (List (Int × Int))))) Unit))))) (HP (List (Int × (Bool × (List (Int × Int))))) (HP (List (Int × (Bool × (List (Int × Int))))) Unit))) :=
  br (cm .lss s.tl.tl.tl.hd s.tl.tl.hd) (ge s.hd s.tl.tl.tl.hd fun v12 =>
  none)
  (some (.out ⟨s.hd, ⟨s.tl.tl.tl.tl.hd, ()⟩⟩))
noncomputable def t_hatch_Pattern [W] (a : ((List (Int × (List (Int × Int)))) × (Int × (Int × Int)))) : Option (List (Int × (Bool × (List (Int × Int))))) :=
  call c_region_Valid (a.1 : (List (Int × (List (Int × Int))))) fun (v0 : Bool) =>
  br (nt v0) (some [])
  (call c_hatch_spaced (a.2.2.1 : Int) fun (v1 : Bool) =>
  br (nt v1) (some [])
  (br (cm .eql a.2.1 0) (gd (cm .neq 2 0) <|
  br (cm .eql (ar .rem .i64 a.2.2.2 2) 0) (call c_hatch_Rows ((a.1, (a.2.2.1, 0)) : ((List (Int × (List (Int × Int)))) × (Int × Int))) fun (v2 : (List (Int × (Bool × (List (Int × Int)))))) =>
  call c_track_Cover (v2 : (List (Int × (Bool × (List (Int × Int)))))) fun (v3 : (List (Int × (List (Int × Int))))) =>
  call c_hatch_beyond ((a.1, (v3, a.2.2.1)) : ((List (Int × (List (Int × Int)))) × ((List (Int × (List (Int × Int)))) × Int))) fun (v4 : (List (Int × (List (Int × Int))))) =>
  call c_hatch_Zigzag (v4 : (List (Int × (List (Int × Int))))) fun (v5 : (List (Int × (Bool × (List (Int × Int)))))) =>
  loop t_hatch_Pattern_L0 ⟨v5, ⟨4, ⟨(ln v5), ⟨0, ⟨v2, ()⟩⟩⟩⟩⟩ fun v7 =>
  gd (cm .eql (ln v7.hd) 0) <|
  some v7.tl.hd)
  (call c_hatch_Columns ((a.1, (a.2.2.1, 0)) : ((List (Int × (List (Int × Int)))) × (Int × Int))) fun (v8 : (List (Int × (Bool × (List (Int × Int)))))) =>
  call c_track_Cover (v8 : (List (Int × (Bool × (List (Int × Int)))))) fun (v9 : (List (Int × (List (Int × Int))))) =>
  call c_hatch_beyond ((a.1, (v9, a.2.2.1)) : ((List (Int × (List (Int × Int)))) × ((List (Int × (List (Int × Int)))) × Int))) fun (v10 : (List (Int × (List (Int × Int))))) =>
  call c_hatch_Zigzag (v10 : (List (Int × (List (Int × Int))))) fun (v11 : (List (Int × (Bool × (List (Int × Int)))))) =>
  loop t_hatch_Pattern_L1 ⟨v11, ⟨4, ⟨(ln v11), ⟨0, ⟨v8, ()⟩⟩⟩⟩⟩ fun v13 =>
  gd (cm .eql (ln v13.hd) 0) <|
  some v13.tl.hd))
  (br (cm .eql a.2.1 1) (none)
  (br (cm .eql a.2.1 2) (none)
  (br (cm .eql a.2.1 3) (none)
  (some []))))))
noncomputable def c_hatch_Pattern : Ctr := ⟨39, [(.ag, (.ls (.p I (.ls (.p I I))))), (.one, I), (.one, I), (.one, I)], [(false, (.ls (.p I (.p .bool (.ls (.p I I))))))], @t_hatch_Pattern wv⟩
theorem e_hatch_Pattern (w : W) (a) : fnD (dW w) (cxO (gam [(26, c_region_Valid), (27, c_hatch_spaced), (10, c_hatch_Rows), (23, c_track_Cover), (45, c_hatch_beyond), (15, c_hatch_Zigzag), (12, c_hatch_Columns)]) [] [63, 64, 65] [] []) 8 39 [(.ag, (.ls (.p I (.ls (.p I I))))), (.one, I), (.one, I), (.one, I)] [(false, (.ls (.p I (.p .bool (.ls (.p I I))))))] a = @t_hatch_Pattern w a := by kernel_rfl
theorem g_hatch_Pattern : Go.Dn.Good PG c_hatch_Pattern := good (gam [(26, c_region_Valid), (27, c_hatch_spaced), (10, c_hatch_Rows), (23, c_track_Cover), (45, c_hatch_beyond), (15, c_hatch_Zigzag), (12, c_hatch_Columns)]) [] [63, 64, 65] [] [] 8 (gam_cons g_region_Valid (gam_cons g_hatch_spaced (gam_cons g_hatch_Rows (gam_cons g_track_Cover (gam_cons g_hatch_beyond (gam_cons g_hatch_Zigzag (gam_cons g_hatch_Columns gam_nil))))))) so_nil (fnOK_of (by kernel_rfl)) rfl rfl (e_hatch_Pattern wv)
end Go.Proofs.YtmiobebagbhffaaGreat
namespace Go.Proofs.YtmiobebagbhffaaGreat
open Go Go.Vv Go.Dn Go.Dn.W
set_option linter.unusedVariables false
set_option maxRecDepth 100000
noncomputable def t_additivelaw29_awake [W] (a : Unit) : Option Bool :=
  call c_hatch_Zigzag (((0, ((0, 2) :: [])) :: ((1, ((0, 2) :: [])) :: [])) : (List (Int × (List (Int × Int))))) fun (v0 : (List (Int × (Bool × (List (Int × Int)))))) =>
  br (cm .eql (ln v0) 1) (ge v0 0 fun v1 =>
  br (cm .eql (ln v1.2.2) 4) (ge v0 0 fun v2 =>
  ge v2.2.2 2 fun v3 =>
  br (an (cm .eql v3.1 1) (cm .eql v3.2 1)) (ge v0 0 fun v4 =>
  br (cm .eql v4.1 3) (call c_hatch_Rows ((((0, ((0, 2) :: [])) :: ((1, ((0, 2) :: [])) :: [])), (1, 0)) : ((List (Int × (List (Int × Int)))) × (Int × Int))) fun (v5 : (List (Int × (Bool × (List (Int × Int)))))) =>
  br (cm .eql (ln v5) 2) (call c_hatch_Columns ((((0, ((0, 2) :: [])) :: ((1, ((0, 2) :: [])) :: [])), (2, 1)) : ((List (Int × (List (Int × Int)))) × (Int × Int))) fun (v6 : (List (Int × (Bool × (List (Int × Int)))))) =>
  br (cm .eql (ln v6) 1) (call c_hatch_Pattern ((((0, ((0, 2) :: [])) :: ((1, ((0, 2) :: [])) :: [])), (0, (2, 0))) : ((List (Int × (List (Int × Int)))) × (Int × (Int × Int)))) fun (v7 : (List (Int × (Bool × (List (Int × Int)))))) =>
  some (cm .eql (ln v7) 1))
  (some false))
  (some false))
  (some false))
  (some false))
  (some false))
  (some false)
noncomputable def c_additivelaw29_awake : Ctr := ⟨14, [], [(false, .bool)], @t_additivelaw29_awake wv⟩
theorem e_additivelaw29_awake (w : W) (a) : fnD (dW w) (cxO (gam [(15, c_hatch_Zigzag), (10, c_hatch_Rows), (12, c_hatch_Columns), (39, c_hatch_Pattern)]) [] [] [] []) 8 14 [] [(false, .bool)] a = @t_additivelaw29_awake w a := by kernel_rfl
theorem g_additivelaw29_awake : Go.Dn.Good PG c_additivelaw29_awake := good (gam [(15, c_hatch_Zigzag), (10, c_hatch_Rows), (12, c_hatch_Columns), (39, c_hatch_Pattern)]) [] [] [] [] 8 (gam_cons g_hatch_Zigzag (gam_cons g_hatch_Rows (gam_cons g_hatch_Columns (gam_cons g_hatch_Pattern gam_nil)))) so_nil (fnOK_of (by kernel_rfl)) rfl rfl (e_additivelaw29_awake wv)
noncomputable def t_additivelaw29_HatchLines [W] (a : ((List (Int × (List (Int × Int)))) × (Int × Int))) : Option Bool :=
  call c_additivelaw29_few (a.1 : (List (Int × (List (Int × Int))))) fun (v0 : (List (Int × (List (Int × Int))))) =>
  call c_hatch_Rows ((v0, (a.2.1, a.2.2)) : ((List (Int × (List (Int × Int)))) × (Int × Int))) fun (v1 : (List (Int × (Bool × (List (Int × Int)))))) =>
  call c_additiveref29_Rows ((v0, (a.2.1, a.2.2)) : ((List (Int × (List (Int × Int)))) × (Int × Int))) fun (v2 : (List (Int × (Bool × (List (Int × Int)))))) =>
  call c_additiveref23_SameAll ((v1, v2) : ((List (Int × (Bool × (List (Int × Int))))) × (List (Int × (Bool × (List (Int × Int))))))) fun (v3 : Bool) =>
  br v3 (call c_hatch_Columns ((v0, (a.2.1, a.2.2)) : ((List (Int × (List (Int × Int)))) × (Int × Int))) fun (v4 : (List (Int × (Bool × (List (Int × Int)))))) =>
  call c_additiveref29_Columns ((v0, (a.2.1, a.2.2)) : ((List (Int × (List (Int × Int)))) × (Int × Int))) fun (v5 : (List (Int × (Bool × (List (Int × Int)))))) =>
  call c_additiveref23_SameAll ((v4, v5) : ((List (Int × (Bool × (List (Int × Int))))) × (List (Int × (Bool × (List (Int × Int))))))) fun (v6 : Bool) =>
  br v6 (call c_additivelaw29_awake (() : Unit) fun (v7 : Bool) =>
  some v7)
  (some false))
  (some false)
noncomputable def c_additivelaw29_HatchLines : Ctr := ⟨3, [(.ag, (.ls (.p I (.ls (.p I I))))), (.one, I), (.one, I)], [(false, .bool)], @t_additivelaw29_HatchLines wv⟩
end Go.Proofs.YtmiobebagbhffaaGreat

namespace Go.Proofs.YtmiobebagbhffaaGreat
open Go Go.Vv Go.Dn Go.Dn.W
set_option linter.unusedVariables false
set_option maxRecDepth 100000
noncomputable def t_runs_Contains_L0 [W] (s : (HP (List (Int × Int)) (HP Int (HP Int (HP Int Unit))))) : Option (Nx (HP (List (Int × Int)) (HP Int (HP Int (HP Int Unit)))) ((HP Int Unit) ⊕ Unit)) :=
  br (cm .lss s.tl.tl.hd s.tl.hd) (ge s.hd s.tl.tl.hd fun v1 =>
  br (cm .leq v1.1 s.tl.tl.tl.hd) (br (cm .lss s.tl.tl.tl.hd v1.2) (some (.out (.inl ⟨s.tl.tl.hd, ()⟩)))
  (some (.go ⟨s.hd, ⟨s.tl.hd, ⟨(ar .add .i64 s.tl.tl.hd 1), ⟨s.tl.tl.tl.hd, ()⟩⟩⟩⟩)))
  (some (.go ⟨s.hd, ⟨s.tl.hd, ⟨(ar .add .i64 s.tl.tl.hd 1), ⟨s.tl.tl.tl.hd, ()⟩⟩⟩⟩)))
  (some (.out (.inr ())))
noncomputable def t_runs_Contains [W] (a : ((List (Int × Int)) × Int)) : Option Bool :=
  call c_runs_Valid (a.1 : (List (Int × Int))) fun (v0 : Bool) =>
  br (nt v0) (some false)
  (loop t_runs_Contains_L0 ⟨a.1, ⟨(ln a.1), ⟨0, ⟨a.2, ()⟩⟩⟩⟩ fun v2 =>
  match v2 with
  | .inl v3 => (some (cm .geq v3.hd 0))
  | .inr v4 => (some (cm .geq (-1) 0)))
noncomputable def c_runs_Contains : Ctr := ⟨50, [(.one, (.ls (.p I I))), (.one, I)], [(false, .bool)], @t_runs_Contains wv⟩
noncomputable def t_region_row_L0 [W] (s : (HP (List (Int × (List (Int × Int)))) (HP Int (HP Int (HP Int (HP Int (HP (List (Int × (List (Int × Int)))) Unit))))))) : Option (Nx (HP (List (Int × (List (Int × Int)))) (HP Int (HP Int (HP Int (HP Int (HP (List (Int × (List (Int × Int)))) Unit)))))) (HP (List (Int × (List (Int × Int)))) (HP Int (HP Int (HP Int (HP (List (Int × (List (Int × Int)))) Unit)))))) :=
  br (cm .lss s.tl.tl.tl.hd s.tl.tl.tl.tl.hd) (gd (cm .geq 1 0) <|
  ge s.hd (cv .i64 (sh .shr .u64 (cv .u64 (ar .add .i64 s.tl.tl.tl.hd s.tl.tl.tl.tl.hd)) 1)) fun v0 =>
  call c_cmp_Compare ((v0.1, s.tl.hd) : (Int × Int)) fun (v1 : Int) =>
  br (cm .lss v1 0) (some (.go ⟨s.hd, ⟨s.tl.hd, ⟨s.tl.tl.hd, ⟨(ar .add .i64 (cv .i64 (sh .shr .u64 (cv .u64 (ar .add .i64 s.tl.tl.tl.hd s.tl.tl.tl.tl.hd)) 1)) 1), ⟨s.tl.tl.tl.tl.hd, ⟨s.tl.tl.tl.tl.tl.hd, ()⟩⟩⟩⟩⟩⟩))
  (some (.go ⟨s.hd, ⟨s.tl.hd, ⟨s.tl.tl.hd, ⟨s.tl.tl.tl.hd, ⟨(cv .i64 (sh .shr .u64 (cv .u64 (ar .add .i64 s.tl.tl.tl.hd s.tl.tl.tl.tl.hd)) 1)), ⟨s.tl.tl.tl.tl.tl.hd, ()⟩⟩⟩⟩⟩⟩)))
  (some (.out ⟨s.hd, ⟨s.tl.hd, ⟨s.tl.tl.hd, ⟨s.tl.tl.tl.hd, ⟨s.tl.tl.tl.tl.tl.hd, ()⟩⟩⟩⟩⟩))
noncomputable def t_region_row [W] (a : ((List (Int × (List (Int × Int)))) × Int)) : Option (List (Int × Int)) :=
  loop t_region_row_L0 ⟨a.1, ⟨a.2, ⟨(ln a.1), ⟨0, ⟨(ln a.1), ⟨a.1, ()⟩⟩⟩⟩⟩⟩ fun v2 =>
  br (cm .lss v2.tl.tl.tl.hd v2.tl.tl.hd) (ge v2.hd v2.tl.tl.tl.hd fun v3 =>
  call c_cmp_Compare ((v3.1, v2.tl.hd) : (Int × Int)) fun (v4 : Int) =>
  br (nt (cm .eql v4 0)) (some [])
  (ge v2.tl.tl.tl.tl.hd v2.tl.tl.tl.hd fun v5 =>
  some v5.2))
  (some [])
noncomputable def c_region_row : Ctr := ⟨51, [(.ag, (.ls (.p I (.ls (.p I I))))), (.one, I)], [(false, (.ls (.p I I)))], @t_region_row wv⟩
noncomputable def t_region_Contains [W] (a : ((List (Int × (List (Int × Int)))) × (Int × Int))) : Option Bool :=
  call c_region_Valid (a.1 : (List (Int × (List (Int × Int))))) fun (v0 : Bool) =>
  br v0 (call c_region_row ((a.1, a.2.2) : ((List (Int × (List (Int × Int)))) × Int)) fun (v1 : (List (Int × Int))) =>
  call c_runs_Contains ((v1, a.2.1) : ((List (Int × Int)) × Int)) fun (v2 : Bool) =>
  some v2)
  (some false)
noncomputable def c_region_Contains : Ctr := ⟨24, [(.ag, (.ls (.p I (.ls (.p I I))))), (.ag, (.p I I))], [(false, .bool)], @t_region_Contains wv⟩
noncomputable def t_additivelaw29_HatchEvery [W] (a : ((List (Int × (List (Int × Int)))) × (Int × (Int × (Int × Int))))) : Option Bool :=
  call c_additivelaw29_few (a.1 : (List (Int × (List (Int × Int))))) fun (v0 : (List (Int × (List (Int × Int))))) =>
  call c_hatch_Rows ((v0, (a.2.1, a.2.2.1)) : ((List (Int × (List (Int × Int)))) × (Int × Int))) fun (v1 : (List (Int × (Bool × (List (Int × Int)))))) =>
  call c_track_Cover (v1 : (List (Int × (Bool × (List (Int × Int)))))) fun (v2 : (List (Int × (List (Int × Int))))) =>
  call c_hatch_Columns ((v0, (a.2.1, a.2.2.1)) : ((List (Int × (List (Int × Int)))) × (Int × Int))) fun (v3 : (List (Int × (Bool × (List (Int × Int)))))) =>
  call c_track_Cover (v3 : (List (Int × (Bool × (List (Int × Int)))))) fun (v4 : (List (Int × (List (Int × Int))))) =>
  call c_additiveref18_Valid (v0 : (List (Int × (List (Int × Int))))) fun (v5 : Bool) =>
  br (nt v5) (call c_additivelaw29_awake (() : Unit) fun (v6 : Bool) =>
  some v6)
  (br (cm .lss a.2.1 1) (call c_additivelaw29_awake (() : Unit) fun (v7 : Bool) =>
  some v7)
  (br (cm .gtr a.2.1 64) (call c_additivelaw29_awake (() : Unit) fun (v8 : Bool) =>
  some v8)
  (br (cm .lss a.2.2.2.1 (-4096)) (call c_additivelaw29_awake (() : Unit) fun (v9 : Bool) =>
  some v9)
  (br (cm .geq a.2.2.2.1 4096) (call c_additivelaw29_awake (() : Unit) fun (v10 : Bool) =>
  some v10)
  (br (cm .lss a.2.2.2.2 (-4096)) (call c_additivelaw29_awake (() : Unit) fun (v11 : Bool) =>
  some v11)
  (br (cm .geq a.2.2.2.2 4096) (call c_additivelaw29_awake (() : Unit) fun (v12 : Bool) =>
  some v12)
  (br (cm .lss a.2.2.1 (-1000000)) (call c_additivelaw29_awake (() : Unit) fun (v13 : Bool) =>
  some v13)
  (br (cm .gtr a.2.2.1 1000000) (call c_additivelaw29_awake (() : Unit) fun (v14 : Bool) =>
  some v14)
  (call c_region_Contains ((v0, (a.2.2.2.1, a.2.2.2.2)) : ((List (Int × (List (Int × Int)))) × (Int × Int))) fun (v15 : Bool) =>
  call c_region_Contains ((v2, (a.2.2.2.1, a.2.2.2.2)) : ((List (Int × (List (Int × Int)))) × (Int × Int))) fun (v16 : Bool) =>
  br v15 (gd (cm .neq a.2.1 0) <|
  br (be v16 (cm .eql (ar .rem .i64 (ar .sub .i64 a.2.2.2.2 a.2.2.1) a.2.1) 0)) (call c_region_Contains ((v4, (a.2.2.2.1, a.2.2.2.2)) : ((List (Int × (List (Int × Int)))) × (Int × Int))) fun (v17 : Bool) =>
  br v15 (gd (cm .neq a.2.1 0) <|
  br (be v17 (cm .eql (ar .rem .i64 (ar .sub .i64 a.2.2.2.1 a.2.2.1) a.2.1) 0)) (call c_additivelaw29_awake (() : Unit) fun (v18 : Bool) =>
  some v18)
  (some false))
  (br (be v17 false) (call c_additivelaw29_awake (() : Unit) fun (v19 : Bool) =>
  some v19)
  (some false)))
  (some false))
  (br (be v16 false) (call c_region_Contains ((v4, (a.2.2.2.1, a.2.2.2.2)) : ((List (Int × (List (Int × Int)))) × (Int × Int))) fun (v20 : Bool) =>
  br v15 (gd (cm .neq a.2.1 0) <|
  br (be v20 (cm .eql (ar .rem .i64 (ar .sub .i64 a.2.2.2.1 a.2.2.1) a.2.1) 0)) (call c_additivelaw29_awake (() : Unit) fun (v21 : Bool) =>
  some v21)
  (some false))
  (br (be v20 false) (call c_additivelaw29_awake (() : Unit) fun (v22 : Bool) =>
  some v22)
  (some false)))
  (some false)))))))))))
noncomputable def c_additivelaw29_HatchEvery : Ctr := ⟨7, [(.ag, (.ls (.p I (.ls (.p I I))))), (.one, I), (.one, I), (.ag, (.p I I))], [(false, .bool)], @t_additivelaw29_HatchEvery wv⟩
end Go.Proofs.YtmiobebagbhffaaGreat
namespace Go.Proofs.YtmiobebagbhffaaGreat
open Go Go.Vv Go.Dn Go.Dn.W
set_option linter.unusedVariables false
set_option maxRecDepth 100000
noncomputable def t_additiveref29_distance [W] (a : ((Int × Int) × (Int × Int))) : Option Int :=
  br (cm .lss (ar .sub .i64 a.1.1 a.2.1) 0) (br (cm .lss (ar .sub .i64 a.1.2 a.2.2) 0) (br (cm .gtr (ng .i64 (ar .sub .i64 a.1.1 a.2.1)) (ng .i64 (ar .sub .i64 a.1.2 a.2.2))) (some (ng .i64 (ar .sub .i64 a.1.1 a.2.1)))
  (some (ng .i64 (ar .sub .i64 a.1.2 a.2.2))))
  (br (cm .gtr (ng .i64 (ar .sub .i64 a.1.1 a.2.1)) (ar .sub .i64 a.1.2 a.2.2)) (some (ng .i64 (ar .sub .i64 a.1.1 a.2.1)))
  (some (ar .sub .i64 a.1.2 a.2.2))))
  (br (cm .lss (ar .sub .i64 a.1.2 a.2.2) 0) (br (cm .gtr (ar .sub .i64 a.1.1 a.2.1) (ng .i64 (ar .sub .i64 a.1.2 a.2.2))) (some (ar .sub .i64 a.1.1 a.2.1))
  (some (ng .i64 (ar .sub .i64 a.1.2 a.2.2))))
  (br (cm .gtr (ar .sub .i64 a.1.1 a.2.1) (ar .sub .i64 a.1.2 a.2.2)) (some (ar .sub .i64 a.1.1 a.2.1))
  (some (ar .sub .i64 a.1.2 a.2.2))))
noncomputable def c_additiveref29_distance : Ctr := ⟨72, [(.ag, (.p I I)), (.ag, (.p I I))], [(false, I)], @t_additiveref29_distance wv⟩
noncomputable def t_additiveref29_nearest_L0 [W] (s : (HP (List (Int × Int)) (HP Int (HP Int (HP Int (HP Int Unit)))))) : Option (Nx (HP (List (Int × Int)) (HP Int (HP Int (HP Int (HP Int Unit))))) (HP Int Unit)) :=
  br (cm .lss s.tl.tl.hd (ln s.hd)) (ge s.hd s.tl.tl.hd fun v2 =>
  call c_additiveref29_distance (((v2.1, v2.2), (s.tl.tl.tl.hd, s.tl.tl.tl.tl.hd)) : ((Int × Int) × (Int × Int))) fun (v3 : Int) =>
  br (cm .lss v3 s.tl.hd) (some (.go ⟨s.hd, ⟨v3, ⟨(ar .add .i64 s.tl.tl.hd 1), ⟨s.tl.tl.tl.hd, ⟨s.tl.tl.tl.tl.hd, ()⟩⟩⟩⟩⟩))
  (some (.go ⟨s.hd, ⟨s.tl.hd, ⟨(ar .add .i64 s.tl.tl.hd 1), ⟨s.tl.tl.tl.hd, ⟨s.tl.tl.tl.tl.hd, ()⟩⟩⟩⟩⟩)))
  (some (.out ⟨s.tl.hd, ()⟩))
noncomputable def t_additiveref29_nearest [W] (a : ((List (Int × Int)) × (Int × Int))) : Option Int :=
  ge a.1 0 fun v0 =>
  call c_additiveref29_distance (((v0.1, v0.2), (a.2.1, a.2.2)) : ((Int × Int) × (Int × Int))) fun (v1 : Int) =>
  loop t_additiveref29_nearest_L0 ⟨a.1, ⟨v1, ⟨1, ⟨a.2.1, ⟨a.2.2, ()⟩⟩⟩⟩⟩ fun v4 =>
  some v4.hd
noncomputable def c_additiveref29_nearest : Ctr := ⟨46, [(.one, (.ls (.p I I))), (.ag, (.p I I))], [(false, I)], @t_additiveref29_nearest wv⟩
noncomputable def t_hatch_Far_L0 [W] (s : (HP Int (HP Int (HP (List (Int × (List (Int × Int)))) (HP (List (Int × (List (Int × Int)))) Unit))))) : Option (Nx (HP Int (HP Int (HP (List (Int × (List (Int × Int)))) (HP (List (Int × (List (Int × Int)))) Unit)))) (HP Int Unit)) :=
  br (cm .lss s.hd s.tl.hd) (gd (cm .neq 2 0) <|
  call c_hatch_beyond ((s.tl.tl.hd, (s.tl.tl.tl.hd, (ar .quo .i64 (ar .add .i64 s.hd s.tl.hd) 2))) : ((List (Int × (List (Int × Int)))) × ((List (Int × (List (Int × Int)))) × Int))) fun (v2 : (List (Int × (List (Int × Int))))) =>
  br (cm .eql (ln v2) 0) (some (.go ⟨s.hd, ⟨(ar .quo .i64 (ar .add .i64 s.hd s.tl.hd) 2), ⟨s.tl.tl.hd, ⟨s.tl.tl.tl.hd, ()⟩⟩⟩⟩))
  (some (.go ⟨(ar .add .i64 (ar .quo .i64 (ar .add .i64 s.hd s.tl.hd) 2) 1), ⟨s.tl.hd, ⟨s.tl.tl.hd, ⟨s.tl.tl.tl.hd, ()⟩⟩⟩⟩)))
  (some (.out ⟨s.hd, ()⟩))
noncomputable def t_hatch_Far [W] (a : ((List (Int × (List (Int × Int)))) × (List (Int × (List (Int × Int)))))) : Option Int :=
  call c_region_Valid (a.1 : (List (Int × (List (Int × Int))))) fun (v0 : Bool) =>
  br (nt v0) (some (-1))
  (call c_region_Valid (a.2 : (List (Int × (List (Int × Int))))) fun (v1 : Bool) =>
  br (nt v1) (some (-1))
  (br (cm .eql (ln a.1) 0) (some 0)
  (br (cm .eql (ln a.2) 0) (some (-1))
  (loop t_hatch_Far_L0 ⟨0, ⟨8192, ⟨a.1, ⟨a.2, ()⟩⟩⟩⟩ fun v3 =>
  some v3.hd))))
noncomputable def c_hatch_Far : Ctr := ⟨17, [(.ag, (.ls (.p I (.ls (.p I I))))), (.ag, (.ls (.p I (.ls (.p I I)))))], [(false, I)], @t_hatch_Far wv⟩
noncomputable def t_additiveref29_Far_L0 [W] (s : (HP (List (Int × Int)) (HP (List (Int × Int)) (HP Int (HP Int Unit))))) : Option (Nx (HP (List (Int × Int)) (HP (List (Int × Int)) (HP Int (HP Int Unit)))) ((HP Int Unit) ⊕ (HP Int Unit))) :=
  br (cm .lss s.tl.tl.tl.hd (ln s.hd)) (br (cm .eql (ln s.tl.hd) 0) (some (.out (.inl ⟨(-1), ()⟩)))
  (ge s.hd s.tl.tl.tl.hd fun v4 =>
  call c_additiveref29_nearest ((s.tl.hd, (v4.1, v4.2)) : ((List (Int × Int)) × (Int × Int))) fun (v5 : Int) =>
  br (cm .gtr v5 s.tl.tl.hd) (some (.go ⟨s.hd, ⟨s.tl.hd, ⟨v5, ⟨(ar .add .i64 s.tl.tl.tl.hd 1), ()⟩⟩⟩⟩))
  (some (.go ⟨s.hd, ⟨s.tl.hd, ⟨s.tl.tl.hd, ⟨(ar .add .i64 s.tl.tl.tl.hd 1), ()⟩⟩⟩⟩))))
  (some (.out (.inr ⟨s.tl.tl.hd, ()⟩)))
noncomputable def t_additiveref29_Far [W] (a : ((List (Int × (List (Int × Int)))) × (List (Int × (List (Int × Int)))))) : Option Int :=
  call c_additiveref18_Valid (a.1 : (List (Int × (List (Int × Int))))) fun (v0 : Bool) =>
  br (nt v0) (some (-1))
  (call c_additiveref18_Valid (a.2 : (List (Int × (List (Int × Int))))) fun (v1 : Bool) =>
  br (nt v1) (some (-1))
  (call c_additiveref18_Cells (a.1 : (List (Int × (List (Int × Int))))) fun (v2 : (List (Int × Int))) =>
  call c_additiveref18_Cells (a.2 : (List (Int × (List (Int × Int))))) fun (v3 : (List (Int × Int))) =>
  loop t_additiveref29_Far_L0 ⟨v2, ⟨v3, ⟨0, ⟨0, ()⟩⟩⟩⟩ fun v6 =>
  match v6 with
  | .inl v7 => (some v7.hd)
  | .inr v8 => (some v8.hd)))
noncomputable def c_additiveref29_Far : Ctr := ⟨18, [(.ag, (.ls (.p I (.ls (.p I I))))), (.ag, (.ls (.p I (.ls (.p I I)))))], [(false, I)], @t_additiveref29_Far wv⟩
noncomputable def t_additivelaw29_HatchFars [W] (a : ((List (Int × (List (Int × Int)))) × (List (Int × (List (Int × Int)))))) : Option Bool :=
  call c_additivelaw29_few (a.1 : (List (Int × (List (Int × Int))))) fun (v0 : (List (Int × (List (Int × Int))))) =>
  call c_additivelaw29_few (a.2 : (List (Int × (List (Int × Int))))) fun (v1 : (List (Int × (List (Int × Int))))) =>
  call c_hatch_Far ((v0, v1) : ((List (Int × (List (Int × Int)))) × (List (Int × (List (Int × Int)))))) fun (v2 : Int) =>
  call c_additiveref29_Far ((v0, v1) : ((List (Int × (List (Int × Int)))) × (List (Int × (List (Int × Int)))))) fun (v3 : Int) =>
  br (cm .eql v2 v3) (call c_additivelaw29_awake (() : Unit) fun (v4 : Bool) =>
  some v4)
  (some false)
noncomputable def c_additivelaw29_HatchFars : Ctr := ⟨5, [(.ag, (.ls (.p I (.ls (.p I I))))), (.ag, (.ls (.p I (.ls (.p I I)))))], [(false, .bool)], @t_additivelaw29_HatchFars wv⟩
end Go.Proofs.YtmiobebagbhffaaGreat
namespace Go.Proofs.YtmiobebagbhffaaGreat
open Go Go.Vv Go.Dn Go.Dn.W
set_option linter.unusedVariables false
set_option maxRecDepth 100000
noncomputable def t_additiveref29_near [W] (a : ((Int × Int) × (Int × Int))) : Option Bool :=
  some (cm .eql (ar .add .i64 (ar .mul .i64 (ar .sub .i64 a.1.1 a.2.1) (ar .sub .i64 a.1.1 a.2.1)) (ar .mul .i64 (ar .sub .i64 a.1.2 a.2.2) (ar .sub .i64 a.1.2 a.2.2))) 1)
noncomputable def c_additiveref29_near : Ctr := ⟨90, [(.ag, (.p I I)), (.ag, (.p I I))], [(false, .bool)], @t_additiveref29_near wv⟩
noncomputable def t_additiveref29_zigzag_J2 [W] (s : (HP Int (HP (List (Int × Int)) (HP Int (HP (List (Int × (List (Int × Int)))) (HP (List (Int × (Bool × (List (Int × Int))))) Unit)))))) (v1 : (Int × Int)) : Option (HP Int (HP (List (Int × Int)) (HP Int (HP Int (HP (List (Int × (List (Int × Int)))) (HP (List (Int × (Bool × (List (Int × Int))))) Unit)))))) :=
  call c_additiveref29_mod ((v1.2, 2) : (Int × Int)) fun (v2 : Int) =>
  br (cm .eql v2 0) (ge s.tl.hd s.tl.tl.hd fun v3 =>
  call c_additiveref18_Contains ((s.tl.tl.tl.hd, ((ar .sub .i64 v3.1 1), v1.2)) : ((List (Int × (List (Int × Int)))) × (Int × Int))) fun (v4 : Bool) =>
  br (nt v4) (ge s.tl.hd s.tl.tl.hd fun v5 =>
  call c_additiveref29_run ((s.tl.tl.tl.hd, ((v5.1, v5.2), (1, 0))) : ((List (Int × (List (Int × Int)))) × ((Int × Int) × (Int × Int)))) fun (v6 : (List (Int × Int))) =>
  br (cm .gtr (ln s.tl.tl.tl.tl.hd) 0) (gd (ib (ar .sub .i64 (ln s.tl.tl.tl.tl.hd) 1) (ln s.tl.tl.tl.tl.hd)) <|
  ge s.tl.tl.tl.tl.hd (ar .sub .i64 (ln s.tl.tl.tl.tl.hd) 1) fun v7 =>
  ge v7.2.2 (ar .sub .i64 (ln v7.2.2) 1) fun v8 =>
  ge v6 0 fun v9 =>
  call c_additiveref29_near (((v8.1, v8.2), (v9.1, v9.2)) : ((Int × Int) × (Int × Int))) fun (v10 : Bool) =>
  br v10 (br (cm .leq (ar .add .i64 (ln v7.2.2) (ln v6)) 65536) (gd (le 0 (ar .sub .i64 (ln s.tl.tl.tl.tl.hd) 1)) <|
  gd (le (ar .sub .i64 (ln s.tl.tl.tl.tl.hd) 1) (ln s.tl.tl.tl.tl.hd)) <|
  gd (le 0 0) <|
  gd (le 0 (ar .sub .i64 (ln s.tl.tl.tl.tl.hd) 1)) <|
  gd (le (pl 0 (ar .sub .i64 (ln s.tl.tl.tl.tl.hd) 1)) (ln s.tl.tl.tl.tl.hd)) <|
  gd (ft 40 (pl 0 (ln (ct s.tl.tl.tl.tl.hd 0 (ar .sub .i64 (ln s.tl.tl.tl.tl.hd) 1))))) <|
  gd (ft 16 (pl 0 (ln v7.2.2))) <|
  gd (ft 16 (pl (ln v7.2.2) (ln v6))) <|
  gd (ft 40 (pl (ln (ct s.tl.tl.tl.tl.hd 0 (ar .sub .i64 (ln s.tl.tl.tl.tl.hd) 1))) 1)) <|
  some (⟨s.hd, ⟨s.tl.hd, ⟨s.tl.tl.hd, ⟨v1.2, ⟨s.tl.tl.tl.hd, ⟨(ap (ct s.tl.tl.tl.tl.hd 0 (ar .sub .i64 (ln s.tl.tl.tl.tl.hd) 1)) ((s.hd, (false, (ap v7.2.2 v6))) :: [])), ()⟩⟩⟩⟩⟩⟩))
  (gd (ft 40 (pl (ln s.tl.tl.tl.tl.hd) 1)) <|
  some (⟨s.hd, ⟨s.tl.hd, ⟨s.tl.tl.hd, ⟨v1.2, ⟨s.tl.tl.tl.hd, ⟨(ap s.tl.tl.tl.tl.hd ((s.hd, (false, v6)) :: [])), ()⟩⟩⟩⟩⟩⟩)))
  (gd (ft 40 (pl (ln s.tl.tl.tl.tl.hd) 1)) <|
  some (⟨s.hd, ⟨s.tl.hd, ⟨s.tl.tl.hd, ⟨v1.2, ⟨s.tl.tl.tl.hd, ⟨(ap s.tl.tl.tl.tl.hd ((s.hd, (false, v6)) :: [])), ()⟩⟩⟩⟩⟩⟩)))
  (gd (ft 40 (pl (ln s.tl.tl.tl.tl.hd) 1)) <|
  some (⟨s.hd, ⟨s.tl.hd, ⟨s.tl.tl.hd, ⟨v1.2, ⟨s.tl.tl.tl.hd, ⟨(ap s.tl.tl.tl.tl.hd ((s.hd, (false, v6)) :: [])), ()⟩⟩⟩⟩⟩⟩)))
  (some (⟨s.hd, ⟨s.tl.hd, ⟨s.tl.tl.hd, ⟨v1.2, ⟨s.tl.tl.tl.hd, ⟨s.tl.tl.tl.tl.hd, ()⟩⟩⟩⟩⟩⟩)))
  (some (⟨s.hd, ⟨s.tl.hd, ⟨s.tl.tl.hd, ⟨v1.2, ⟨s.tl.tl.tl.hd, ⟨s.tl.tl.tl.tl.hd, ()⟩⟩⟩⟩⟩⟩))
noncomputable def t_additiveref29_zigzag_L3 [W] (s : (HP Int (HP (List (Int × Int)) (HP Int (HP Int (HP Int (HP (List (Int × (List (Int × Int)))) (HP (List (Int × (Bool × (List (Int × Int))))) Unit)))))))) : Option (Nx (HP Int (HP (List (Int × Int)) (HP Int (HP Int (HP Int (HP (List (Int × (List (Int × Int)))) (HP (List (Int × (Bool × (List (Int × Int))))) Unit))))))) (HP Int (HP (List (Int × Int)) (HP Int (HP Int (HP Int (HP (List (Int × (List (Int × Int)))) (HP (List (Int × (Bool × (List (Int × Int))))) Unit)))))))) :=
  br (cm .lss (ar .add .i64 s.tl.tl.tl.tl.hd 1) (ln s.tl.hd)) (ge s.tl.hd (ar .add .i64 s.tl.tl.tl.tl.hd 1) fun v13 =>
  br (cm .eql v13.2 s.tl.tl.tl.hd) (some (.go ⟨s.hd, ⟨s.tl.hd, ⟨s.tl.tl.hd, ⟨s.tl.tl.tl.hd, ⟨(ar .add .i64 s.tl.tl.tl.tl.hd 1), ⟨s.tl.tl.tl.tl.tl.hd, ⟨s.tl.tl.tl.tl.tl.tl.hd, ()⟩⟩⟩⟩⟩⟩⟩))
  (some (.out ⟨s.hd, ⟨s.tl.hd, ⟨s.tl.tl.hd, ⟨s.tl.tl.tl.hd, ⟨s.tl.tl.tl.tl.hd, ⟨s.tl.tl.tl.tl.tl.hd, ⟨s.tl.tl.tl.tl.tl.tl.hd, ()⟩⟩⟩⟩⟩⟩⟩)))
  (some (.out ⟨s.hd, ⟨s.tl.hd, ⟨s.tl.tl.hd, ⟨s.tl.tl.tl.hd, ⟨s.tl.tl.tl.tl.hd, ⟨s.tl.tl.tl.tl.tl.hd, ⟨s.tl.tl.tl.tl.tl.tl.hd, ()⟩⟩⟩⟩⟩⟩⟩))
noncomputable def t_additiveref29_zigzag_J5 [W] (s : (HP Int (HP (List (Int × Int)) (HP Int (HP Int (HP Int (HP (List (Int × (List (Int × Int)))) (HP (List (Int × (Bool × (List (Int × Int))))) Unit)))))))) : Option (HP Int (HP (List (Int × Int)) (HP Int (HP Int (HP Int (HP (List (Int × (List (Int × Int)))) (HP (List (Int × (Bool × (List (Int × Int))))) Unit))))))) :=
  ge s.tl.hd s.tl.tl.tl.tl.hd fun v15 =>
  call c_additiveref18_Contains ((s.tl.tl.tl.tl.tl.hd, ((ar .add .i64 v15.1 1), s.tl.tl.tl.hd)) : ((List (Int × (List (Int × Int)))) × (Int × Int))) fun (v16 : Bool) =>
  br (nt v16) (ge s.tl.hd s.tl.tl.tl.tl.hd fun v17 =>
  call c_additiveref29_run ((s.tl.tl.tl.tl.tl.hd, ((v17.1, v17.2), ((-1), 0))) : ((List (Int × (List (Int × Int)))) × ((Int × Int) × (Int × Int)))) fun (v18 : (List (Int × Int))) =>
  br (cm .gtr (ln s.tl.tl.tl.tl.tl.tl.hd) 0) (gd (ib (ar .sub .i64 (ln s.tl.tl.tl.tl.tl.tl.hd) 1) (ln s.tl.tl.tl.tl.tl.tl.hd)) <|
  ge s.tl.tl.tl.tl.tl.tl.hd (ar .sub .i64 (ln s.tl.tl.tl.tl.tl.tl.hd) 1) fun v19 =>
  ge v19.2.2 (ar .sub .i64 (ln v19.2.2) 1) fun v20 =>
  ge v18 0 fun v21 =>
  call c_additiveref29_near (((v20.1, v20.2), (v21.1, v21.2)) : ((Int × Int) × (Int × Int))) fun (v22 : Bool) =>
  br v22 (br (cm .leq (ar .add .i64 (ln v19.2.2) (ln v18)) 65536) (gd (le 0 (ar .sub .i64 (ln s.tl.tl.tl.tl.tl.tl.hd) 1)) <|
  gd (le (ar .sub .i64 (ln s.tl.tl.tl.tl.tl.tl.hd) 1) (ln s.tl.tl.tl.tl.tl.tl.hd)) <|
  gd (le 0 0) <|
  gd (le 0 (ar .sub .i64 (ln s.tl.tl.tl.tl.tl.tl.hd) 1)) <|
  gd (le (pl 0 (ar .sub .i64 (ln s.tl.tl.tl.tl.tl.tl.hd) 1)) (ln s.tl.tl.tl.tl.tl.tl.hd)) <|
  gd (ft 40 (pl 0 (ln (ct s.tl.tl.tl.tl.tl.tl.hd 0 (ar .sub .i64 (ln s.tl.tl.tl.tl.tl.tl.hd) 1))))) <|
  gd (ft 16 (pl 0 (ln v19.2.2))) <|
  gd (ft 16 (pl (ln v19.2.2) (ln v18))) <|
  gd (ft 40 (pl (ln (ct s.tl.tl.tl.tl.tl.tl.hd 0 (ar .sub .i64 (ln s.tl.tl.tl.tl.tl.tl.hd) 1))) 1)) <|
  some (⟨s.hd, ⟨s.tl.hd, ⟨s.tl.tl.hd, ⟨s.tl.tl.tl.hd, ⟨s.tl.tl.tl.tl.hd, ⟨s.tl.tl.tl.tl.tl.hd, ⟨(ap (ct s.tl.tl.tl.tl.tl.tl.hd 0 (ar .sub .i64 (ln s.tl.tl.tl.tl.tl.tl.hd) 1)) ((s.hd, (false, (ap v19.2.2 v18))) :: [])), ()⟩⟩⟩⟩⟩⟩⟩))
  (gd (ft 40 (pl (ln s.tl.tl.tl.tl.tl.tl.hd) 1)) <|
  some (⟨s.hd, ⟨s.tl.hd, ⟨s.tl.tl.hd, ⟨s.tl.tl.tl.hd, ⟨s.tl.tl.tl.tl.hd, ⟨s.tl.tl.tl.tl.tl.hd, ⟨(ap s.tl.tl.tl.tl.tl.tl.hd ((s.hd, (false, v18)) :: [])), ()⟩⟩⟩⟩⟩⟩⟩)))
  (gd (ft 40 (pl (ln s.tl.tl.tl.tl.tl.tl.hd) 1)) <|
  some (⟨s.hd, ⟨s.tl.hd, ⟨s.tl.tl.hd, ⟨s.tl.tl.tl.hd, ⟨s.tl.tl.tl.tl.hd, ⟨s.tl.tl.tl.tl.tl.hd, ⟨(ap s.tl.tl.tl.tl.tl.tl.hd ((s.hd, (false, v18)) :: [])), ()⟩⟩⟩⟩⟩⟩⟩)))
  (gd (ft 40 (pl (ln s.tl.tl.tl.tl.tl.tl.hd) 1)) <|
  some (⟨s.hd, ⟨s.tl.hd, ⟨s.tl.tl.hd, ⟨s.tl.tl.tl.hd, ⟨s.tl.tl.tl.tl.hd, ⟨s.tl.tl.tl.tl.tl.hd, ⟨(ap s.tl.tl.tl.tl.tl.tl.hd ((s.hd, (false, v18)) :: [])), ()⟩⟩⟩⟩⟩⟩⟩)))
  (some (⟨s.hd, ⟨s.tl.hd, ⟨s.tl.tl.hd, ⟨s.tl.tl.tl.hd, ⟨s.tl.tl.tl.tl.hd, ⟨s.tl.tl.tl.tl.tl.hd, ⟨s.tl.tl.tl.tl.tl.tl.hd, ()⟩⟩⟩⟩⟩⟩⟩))
noncomputable def t_additiveref29_zigzag_L4 [W] (s : (HP Int (HP (List (Int × Int)) (HP Int (HP Int (HP Int (HP (List (Int × (List (Int × Int)))) (HP (List (Int × (Bool × (List (Int × Int))))) Unit)))))))) : Option (Nx (HP Int (HP (List (Int × Int)) (HP Int (HP Int (HP Int (HP (List (Int × (List (Int × Int)))) (HP (List (Int × (Bool × (List (Int × Int))))) Unit))))))) (HP Int (HP (List (Int × Int)) (HP Int (HP (List (Int × (List (Int × Int)))) (HP (List (Int × (Bool × (List (Int × Int))))) Unit)))))) :=
  br (cm .geq s.tl.tl.tl.tl.hd s.tl.tl.hd) (join (t_additiveref29_zigzag_J5 s) fun v23 =>
  some (.go ⟨v23.hd, ⟨v23.tl.hd, ⟨v23.tl.tl.hd, ⟨v23.tl.tl.tl.hd, ⟨(ar .sub .i64 v23.tl.tl.tl.tl.hd 1), ⟨v23.tl.tl.tl.tl.tl.hd, ⟨v23.tl.tl.tl.tl.tl.tl.hd, ()⟩⟩⟩⟩⟩⟩⟩))
  (some (.out ⟨s.hd, ⟨s.tl.hd, ⟨s.tl.tl.hd, ⟨s.tl.tl.tl.tl.tl.hd, ⟨s.tl.tl.tl.tl.tl.tl.hd, ()⟩⟩⟩⟩⟩))
noncomputable def t_additiveref29_zigzag_L6 [W] (s : (HP Int (HP (List (Int × Int)) (HP Int (HP Int (HP Int (HP (List (Int × (List (Int × Int)))) (HP (List (Int × (Bool × (List (Int × Int))))) Unit)))))))) : Option (Nx (HP Int (HP (List (Int × Int)) (HP Int (HP Int (HP Int (HP (List (Int × (List (Int × Int)))) (HP (List (Int × (Bool × (List (Int × Int))))) Unit))))))) (HP Int (HP (List (Int × Int)) (HP Int (HP Int (HP Int (HP (List (Int × (List (Int × Int)))) (HP (List (Int × (Bool × (List (Int × Int))))) Unit)))))))) :=
  br (cm .lss (ar .add .i64 s.tl.tl.tl.tl.hd 1) (ln s.tl.hd)) (ge s.tl.hd (ar .add .i64 s.tl.tl.tl.tl.hd 1) fun v26 =>
  br (cm .eql v26.2 s.tl.tl.tl.hd) (some (.go ⟨s.hd, ⟨s.tl.hd, ⟨s.tl.tl.hd, ⟨s.tl.tl.tl.hd, ⟨(ar .add .i64 s.tl.tl.tl.tl.hd 1), ⟨s.tl.tl.tl.tl.tl.hd, ⟨s.tl.tl.tl.tl.tl.tl.hd, ()⟩⟩⟩⟩⟩⟩⟩))
  (some (.out ⟨s.hd, ⟨s.tl.hd, ⟨s.tl.tl.hd, ⟨s.tl.tl.tl.hd, ⟨s.tl.tl.tl.tl.hd, ⟨s.tl.tl.tl.tl.tl.hd, ⟨s.tl.tl.tl.tl.tl.tl.hd, ()⟩⟩⟩⟩⟩⟩⟩)))
  (some (.out ⟨s.hd, ⟨s.tl.hd, ⟨s.tl.tl.hd, ⟨s.tl.tl.tl.hd, ⟨s.tl.tl.tl.tl.hd, ⟨s.tl.tl.tl.tl.tl.hd, ⟨s.tl.tl.tl.tl.tl.tl.hd, ()⟩⟩⟩⟩⟩⟩⟩))
noncomputable def t_additiveref29_zigzag_J8 [W] (s : (HP Int (HP (List (Int × Int)) (HP Int (HP Int (HP Int (HP (List (Int × (List (Int × Int)))) (HP (List (Int × (Bool × (List (Int × Int))))) Unit)))))))) : Option (HP Int (HP (List (Int × Int)) (HP Int (HP Int (HP Int (HP (List (Int × (List (Int × Int)))) (HP (List (Int × (Bool × (List (Int × Int))))) Unit))))))) :=
  ge s.tl.hd s.tl.tl.tl.tl.hd fun v28 =>
  call c_additiveref18_Contains ((s.tl.tl.tl.tl.tl.hd, ((ar .add .i64 v28.1 1), s.tl.tl.tl.hd)) : ((List (Int × (List (Int × Int)))) × (Int × Int))) fun (v29 : Bool) =>
  br (nt v29) (ge s.tl.hd s.tl.tl.tl.tl.hd fun v30 =>
  call c_additiveref29_run ((s.tl.tl.tl.tl.tl.hd, ((v30.1, v30.2), ((-1), 0))) : ((List (Int × (List (Int × Int)))) × ((Int × Int) × (Int × Int)))) fun (v31 : (List (Int × Int))) =>
  br (cm .gtr (ln s.tl.tl.tl.tl.tl.tl.hd) 0) (gd (ib (ar .sub .i64 (ln s.tl.tl.tl.tl.tl.tl.hd) 1) (ln s.tl.tl.tl.tl.tl.tl.hd)) <|
  ge s.tl.tl.tl.tl.tl.tl.hd (ar .sub .i64 (ln s.tl.tl.tl.tl.tl.tl.hd) 1) fun v32 =>
  ge v32.2.2 (ar .sub .i64 (ln v32.2.2) 1) fun v33 =>
  ge v31 0 fun v34 =>
  call c_additiveref29_near (((v33.1, v33.2), (v34.1, v34.2)) : ((Int × Int) × (Int × Int))) fun (v35 : Bool) =>
  br v35 (br (cm .leq (ar .add .i64 (ln v32.2.2) (ln v31)) 65536) (gd (le 0 (ar .sub .i64 (ln s.tl.tl.tl.tl.tl.tl.hd) 1)) <|
  gd (le (ar .sub .i64 (ln s.tl.tl.tl.tl.tl.tl.hd) 1) (ln s.tl.tl.tl.tl.tl.tl.hd)) <|
  gd (le 0 0) <|
  gd (le 0 (ar .sub .i64 (ln s.tl.tl.tl.tl.tl.tl.hd) 1)) <|
  gd (le (pl 0 (ar .sub .i64 (ln s.tl.tl.tl.tl.tl.tl.hd) 1)) (ln s.tl.tl.tl.tl.tl.tl.hd)) <|
  gd (ft 40 (pl 0 (ln (ct s.tl.tl.tl.tl.tl.tl.hd 0 (ar .sub .i64 (ln s.tl.tl.tl.tl.tl.tl.hd) 1))))) <|
  gd (ft 16 (pl 0 (ln v32.2.2))) <|
  gd (ft 16 (pl (ln v32.2.2) (ln v31))) <|
  gd (ft 40 (pl (ln (ct s.tl.tl.tl.tl.tl.tl.hd 0 (ar .sub .i64 (ln s.tl.tl.tl.tl.tl.tl.hd) 1))) 1)) <|
  some (⟨s.hd, ⟨s.tl.hd, ⟨s.tl.tl.hd, ⟨s.tl.tl.tl.hd, ⟨s.tl.tl.tl.tl.hd, ⟨s.tl.tl.tl.tl.tl.hd, ⟨(ap (ct s.tl.tl.tl.tl.tl.tl.hd 0 (ar .sub .i64 (ln s.tl.tl.tl.tl.tl.tl.hd) 1)) ((s.hd, (false, (ap v32.2.2 v31))) :: [])), ()⟩⟩⟩⟩⟩⟩⟩))
  (gd (ft 40 (pl (ln s.tl.tl.tl.tl.tl.tl.hd) 1)) <|
  some (⟨s.hd, ⟨s.tl.hd, ⟨s.tl.tl.hd, ⟨s.tl.tl.tl.hd, ⟨s.tl.tl.tl.tl.hd, ⟨s.tl.tl.tl.tl.tl.hd, ⟨(ap s.tl.tl.tl.tl.tl.tl.hd ((s.hd, (false, v31)) :: [])), ()⟩⟩⟩⟩⟩⟩⟩)))
  (gd (ft 40 (pl (ln s.tl.tl.tl.tl.tl.tl.hd) 1)) <|
  some (⟨s.hd, ⟨s.tl.hd, ⟨s.tl.tl.hd, ⟨s.tl.tl.tl.hd, ⟨s.tl.tl.tl.tl.hd, ⟨s.tl.tl.tl.tl.tl.hd, ⟨(ap s.tl.tl.tl.tl.tl.tl.hd ((s.hd, (false, v31)) :: [])), ()⟩⟩⟩⟩⟩⟩⟩)))
  (gd (ft 40 (pl (ln s.tl.tl.tl.tl.tl.tl.hd) 1)) <|
  some (⟨s.hd, ⟨s.tl.hd, ⟨s.tl.tl.hd, ⟨s.tl.tl.tl.hd, ⟨s.tl.tl.tl.tl.hd, ⟨s.tl.tl.tl.tl.tl.hd, ⟨(ap s.tl.tl.tl.tl.tl.tl.hd ((s.hd, (false, v31)) :: [])), ()⟩⟩⟩⟩⟩⟩⟩)))
  (some (⟨s.hd, ⟨s.tl.hd, ⟨s.tl.tl.hd, ⟨s.tl.tl.tl.hd, ⟨s.tl.tl.tl.tl.hd, ⟨s.tl.tl.tl.tl.tl.hd, ⟨s.tl.tl.tl.tl.tl.tl.hd, ()⟩⟩⟩⟩⟩⟩⟩))
noncomputable def t_additiveref29_zigzag_L7 [W] (s : (HP Int (HP (List (Int × Int)) (HP Int (HP Int (HP Int (HP (List (Int × (List (Int × Int)))) (HP (List (Int × (Bool × (List (Int × Int))))) Unit)))))))) : Option (Nx (HP Int (HP (List (Int × Int)) (HP Int (HP Int (HP Int (HP (List (Int × (List (Int × Int)))) (HP (List (Int × (Bool × (List (Int × Int))))) Unit))))))) (HP Int (HP (List (Int × Int)) (HP Int (HP (List (Int × (List (Int × Int)))) (HP (List (Int × (Bool × (List (Int × Int))))) Unit)))))) :=
  br (cm .geq s.tl.tl.tl.tl.hd s.tl.tl.hd) (join (t_additiveref29_zigzag_J8 s) fun v36 =>
  some (.go ⟨v36.hd, ⟨v36.tl.hd, ⟨v36.tl.tl.hd, ⟨v36.tl.tl.tl.hd, ⟨(ar .sub .i64 v36.tl.tl.tl.tl.hd 1), ⟨v36.tl.tl.tl.tl.tl.hd, ⟨v36.tl.tl.tl.tl.tl.tl.hd, ()⟩⟩⟩⟩⟩⟩⟩))
  (some (.out ⟨s.hd, ⟨s.tl.hd, ⟨s.tl.tl.hd, ⟨s.tl.tl.tl.tl.tl.hd, ⟨s.tl.tl.tl.tl.tl.tl.hd, ()⟩⟩⟩⟩⟩))
noncomputable def t_additiveref29_zigzag_J1 [W] (s : (HP Int (HP (List (Int × Int)) (HP Int (HP (List (Int × (List (Int × Int)))) (HP (List (Int × (Bool × (List (Int × Int))))) Unit)))))) : Option (HP Int (HP (List (Int × Int)) (HP Int (HP (List (Int × (List (Int × Int)))) (HP (List (Int × (Bool × (List (Int × Int))))) Unit))))) :=
  ge s.tl.hd s.tl.tl.hd fun v1 =>
  join (t_additiveref29_zigzag_J2 s v1) fun v11 =>
  call c_additiveref29_mod ((v11.tl.tl.tl.hd, 2) : (Int × Int)) fun (v12 : Int) =>
  br (cm .eql v12 1) (br (cm .eql v11.tl.tl.hd 0) (loop t_additiveref29_zigzag_L3 ⟨v11.hd, ⟨v11.tl.hd, ⟨v11.tl.tl.hd, ⟨v11.tl.tl.tl.hd, ⟨v11.tl.tl.hd, ⟨v11.tl.tl.tl.tl.hd, ⟨v11.tl.tl.tl.tl.tl.hd, ()⟩⟩⟩⟩⟩⟩⟩ fun v14 =>
  loop t_additiveref29_zigzag_L4 ⟨v14.hd, ⟨v14.tl.hd, ⟨v14.tl.tl.hd, ⟨v14.tl.tl.tl.hd, ⟨v14.tl.tl.tl.tl.hd, ⟨v14.tl.tl.tl.tl.tl.hd, ⟨v14.tl.tl.tl.tl.tl.tl.hd, ()⟩⟩⟩⟩⟩⟩⟩ fun v24 =>
  some (⟨v24.hd, ⟨v24.tl.hd, ⟨v24.tl.tl.hd, ⟨v24.tl.tl.tl.hd, ⟨v24.tl.tl.tl.tl.hd, ()⟩⟩⟩⟩⟩))
  (ge v11.tl.hd (ar .sub .i64 v11.tl.tl.hd 1) fun v25 =>
  br (cm .neq v25.2 v11.tl.tl.tl.hd) (loop t_additiveref29_zigzag_L6 ⟨v11.hd, ⟨v11.tl.hd, ⟨v11.tl.tl.hd, ⟨v11.tl.tl.tl.hd, ⟨v11.tl.tl.hd, ⟨v11.tl.tl.tl.tl.hd, ⟨v11.tl.tl.tl.tl.tl.hd, ()⟩⟩⟩⟩⟩⟩⟩ fun v27 =>
  loop t_additiveref29_zigzag_L7 ⟨v27.hd, ⟨v27.tl.hd, ⟨v27.tl.tl.hd, ⟨v27.tl.tl.tl.hd, ⟨v27.tl.tl.tl.tl.hd, ⟨v27.tl.tl.tl.tl.tl.hd, ⟨v27.tl.tl.tl.tl.tl.tl.hd, ()⟩⟩⟩⟩⟩⟩⟩ fun v37 =>
  some (⟨v37.hd, ⟨v37.tl.hd, ⟨v37.tl.tl.hd, ⟨v37.tl.tl.tl.hd, ⟨v37.tl.tl.tl.tl.hd, ()⟩⟩⟩⟩⟩))
  (some (⟨v11.hd, ⟨v11.tl.hd, ⟨v11.tl.tl.hd, ⟨v11.tl.tl.tl.tl.hd, ⟨v11.tl.tl.tl.tl.tl.hd, ()⟩⟩⟩⟩⟩))))
  (some (⟨v11.hd, ⟨v11.tl.hd, ⟨v11.tl.tl.hd, ⟨v11.tl.tl.tl.tl.hd, ⟨v11.tl.tl.tl.tl.tl.hd, ()⟩⟩⟩⟩⟩))
noncomputable def t_additiveref29_zigzag_L0 [W] (s : (HP Int (HP (List (Int × Int)) (HP Int (HP (List (Int × (List (Int × Int)))) (HP (List (Int × (Bool × (List (Int × Int))))) Unit)))))) : Option (Nx (HP Int (HP (List (Int × Int)) (HP Int (HP (List (Int × (List (Int × Int)))) (HP (List (Int × (Bool × (List (Int × Int))))) Unit))))) (HP (List (Int × (Bool × (List (Int × Int))))) Unit)) :=
  br (cm .lss s.tl.tl.hd (ln s.tl.hd)) (join (t_additiveref29_zigzag_J1 s) fun v38 =>
  some (.go ⟨v38.hd, ⟨v38.tl.hd, ⟨(ar .add .i64 v38.tl.tl.hd 1), ⟨v38.tl.tl.tl.hd, ⟨v38.tl.tl.tl.tl.hd, ()⟩⟩⟩⟩⟩))
  (some (.out ⟨s.tl.tl.tl.tl.hd, ()⟩))
noncomputable def t_additiveref29_zigzag [W] (a : ((List (Int × (List (Int × Int)))) × Int)) : Option (List (Int × (Bool × (List (Int × Int))))) :=
  call c_additiveref18_Cells (a.1 : (List (Int × (List (Int × Int))))) fun (v0 : (List (Int × Int))) =>
  loop t_additiveref29_zigzag_L0 ⟨a.2, ⟨v0, ⟨0, ⟨a.1, ⟨[], ()⟩⟩⟩⟩⟩ fun v39 =>
  some v39.hd
noncomputable def c_additiveref29_zigzag : Ctr := ⟨44, [(.ag, (.ls (.p I (.ls (.p I I))))), (.one, I)], [(false, (.ls (.p I (.p .bool (.ls (.p I I))))))], @t_additiveref29_zigzag wv⟩
noncomputable def t_additiveref29_Zigzag [W] (a : (List (Int × (List (Int × Int))))) : Option (List (Int × (Bool × (List (Int × Int))))) :=
  call c_additiveref18_Valid (a : (List (Int × (List (Int × Int))))) fun (v0 : Bool) =>
  br (nt v0) (some [])
  (call c_additiveref29_zigzag ((a, 3) : ((List (Int × (List (Int × Int)))) × Int)) fun (v1 : (List (Int × (Bool × (List (Int × Int)))))) =>
  some v1)
noncomputable def c_additiveref29_Zigzag : Ctr := ⟨16, [(.ag, (.ls (.p I (.ls (.p I I)))))], [(false, (.ls (.p I (.p .bool (.ls (.p I I))))))], @t_additiveref29_Zigzag wv⟩
noncomputable def t_additivelaw29_HatchZigzags [W] (a : (List (Int × (List (Int × Int))))) : Option Bool :=
  call c_additivelaw29_few (a : (List (Int × (List (Int × Int))))) fun (v0 : (List (Int × (List (Int × Int))))) =>
  call c_hatch_Zigzag (v0 : (List (Int × (List (Int × Int))))) fun (v1 : (List (Int × (Bool × (List (Int × Int)))))) =>
  call c_additiveref29_Zigzag (v0 : (List (Int × (List (Int × Int))))) fun (v2 : (List (Int × (Bool × (List (Int × Int)))))) =>
  call c_additiveref23_SameAll ((v1, v2) : ((List (Int × (Bool × (List (Int × Int))))) × (List (Int × (Bool × (List (Int × Int))))))) fun (v3 : Bool) =>
  br v3 (call c_additivelaw29_awake (() : Unit) fun (v4 : Bool) =>
  some v4)
  (some false)
noncomputable def c_additivelaw29_HatchZigzags : Ctr := ⟨4, [(.ag, (.ls (.p I (.ls (.p I I)))))], [(false, .bool)], @t_additivelaw29_HatchZigzags wv⟩
end Go.Proofs.YtmiobebagbhffaaGreat
namespace Go.Proofs.YtmiobebagbhffaaGreat
open Go Go.Vv Go.Dn Go.Dn.W
set_option linter.unusedVariables false
set_option maxRecDepth 100000
noncomputable def t_runs_Length_L0 [W] (s : (HP Int (HP (List (Int × Int)) (HP Int (HP Int Unit))))) : Option (Nx (HP Int (HP (List (Int × Int)) (HP Int (HP Int Unit)))) (HP Int Unit)) :=
  br (cm .lss s.tl.tl.tl.hd s.tl.tl.hd) (ge s.tl.hd s.tl.tl.tl.hd fun v1 =>
  some (.go ⟨(ar .add .i64 s.hd (ar .sub .i64 v1.2 v1.1)), ⟨s.tl.hd, ⟨s.tl.tl.hd, ⟨(ar .add .i64 s.tl.tl.tl.hd 1), ()⟩⟩⟩⟩))
  (some (.out ⟨s.hd, ()⟩))
noncomputable def t_runs_Length [W] (a : (List (Int × Int))) : Option Int :=
  call c_runs_Valid (a : (List (Int × Int))) fun (v0 : Bool) =>
  br (nt v0) (some 0)
  (loop t_runs_Length_L0 ⟨0, ⟨a, ⟨(ln a), ⟨0, ()⟩⟩⟩⟩ fun v2 =>
  some v2.hd)
noncomputable def c_runs_Length : Ctr := ⟨49, [(.one, (.ls (.p I I)))], [(false, I)], @t_runs_Length wv⟩
theorem e_runs_Length (w : W) (a) : fnD (dW w) (cxO (gam [(53, c_runs_Valid)]) [] [] [] []) 8 49 [(.one, (.ls (.p I I)))] [(false, I)] a = @t_runs_Length w a := by kernel_rfl
theorem g_runs_Length : Go.Dn.Good PG c_runs_Length := good (gam [(53, c_runs_Valid)]) [] [] [] [] 8 (gam_cons g_runs_Valid gam_nil) so_nil (fnOK_of (by kernel_rfl)) rfl rfl (e_runs_Length wv)
noncomputable def t_region_Count_L0 [W] (s : (HP Int (HP (List (Int × (List (Int × Int)))) (HP Int (HP Int Unit))))) : Option (Nx (HP Int (HP (List (Int × (List (Int × Int)))) (HP Int (HP Int Unit)))) (HP Int Unit)) :=
  br (cm .lss s.tl.tl.tl.hd s.tl.tl.hd) (ge s.tl.hd s.tl.tl.tl.hd fun v1 =>
  call c_runs_Length (v1.2 : (List (Int × Int))) fun (v2 : Int) =>
  some (.go ⟨(ar .add .i64 s.hd v2), ⟨s.tl.hd, ⟨s.tl.tl.hd, ⟨(ar .add .i64 s.tl.tl.tl.hd 1), ()⟩⟩⟩⟩))
  (some (.out ⟨s.hd, ()⟩))
noncomputable def t_region_Count [W] (a : (List (Int × (List (Int × Int))))) : Option Int :=
  call c_region_Valid (a : (List (Int × (List (Int × Int))))) fun (v0 : Bool) =>
  br (nt v0) (some 0)
  (loop t_region_Count_L0 ⟨0, ⟨a, ⟨(ln a), ⟨0, ()⟩⟩⟩⟩ fun v3 =>
  some v3.hd)
noncomputable def c_region_Count : Ctr := ⟨21, [(.ag, (.ls (.p I (.ls (.p I I)))))], [(false, I)], @t_region_Count wv⟩
theorem e_region_Count (w : W) (a) : fnD (dW w) (cxO (gam [(49, c_runs_Length), (26, c_region_Valid)]) [] [] [] []) 8 21 [(.ag, (.ls (.p I (.ls (.p I I)))))] [(false, I)] a = @t_region_Count w a := by kernel_rfl
theorem g_region_Count : Go.Dn.Good PG c_region_Count := good (gam [(49, c_runs_Length), (26, c_region_Valid)]) [] [] [] [] 8 (gam_cons g_runs_Length (gam_cons g_region_Valid gam_nil)) so_nil (fnOK_of (by kernel_rfl)) rfl rfl (e_region_Count wv)
noncomputable def t_additiveref18_Same_L1 [W] (s : (HP Int (HP Int (HP (List (Int × (List (Int × Int)))) (HP (List (Int × (List (Int × Int)))) (HP Int (HP (List (Int × Int)) (HP Int (HP (List (Int × Int)) Unit))))))))) : Option (Nx (HP Int (HP Int (HP (List (Int × (List (Int × Int)))) (HP (List (Int × (List (Int × Int)))) (HP Int (HP (List (Int × Int)) (HP Int (HP (List (Int × Int)) Unit)))))))) (Unit ⊕ (HP Int (HP (List (Int × (List (Int × Int)))) (HP (List (Int × (List (Int × Int)))) Unit))))) :=
  br (cm .lss s.tl.hd (ln s.tl.tl.tl.tl.tl.hd)) (ge s.tl.tl.tl.tl.tl.hd s.tl.hd fun v2 =>
  ge s.tl.tl.tl.tl.tl.tl.tl.hd s.tl.hd fun v3 =>
  br (nt (an (cm .eql v2.1 v3.1) (cm .eql v2.2 v3.2))) (some (.out (.inl ())))
  (some (.go ⟨s.hd, ⟨(ar .add .i64 s.tl.hd 1), ⟨s.tl.tl.hd, ⟨s.tl.tl.tl.hd, ⟨s.tl.tl.tl.tl.hd, ⟨s.tl.tl.tl.tl.tl.hd, ⟨s.tl.tl.tl.tl.tl.tl.hd, ⟨s.tl.tl.tl.tl.tl.tl.tl.hd, ()⟩⟩⟩⟩⟩⟩⟩⟩)))
  (some (.out (.inr ⟨s.hd, ⟨s.tl.tl.hd, ⟨s.tl.tl.tl.hd, ()⟩⟩⟩)))
noncomputable def t_additiveref18_Same_L0 [W] (s : (HP Int (HP (List (Int × (List (Int × Int)))) (HP (List (Int × (List (Int × Int)))) Unit)))) : Option (Nx (HP Int (HP (List (Int × (List (Int × Int)))) (HP (List (Int × (List (Int × Int)))) Unit))) (Unit ⊕ Unit)) :=
  br (cm .lss s.hd (ln s.tl.hd)) (ge s.tl.hd s.hd fun v0 =>
  ge s.tl.tl.hd s.hd fun v1 =>
  br (cm .neq v0.1 v1.1) (some (.out (.inl ())))
  (br (cm .neq (ln v0.2) (ln v1.2)) (some (.out (.inl ())))
  (loop t_additiveref18_Same_L1 ⟨s.hd, ⟨0, ⟨s.tl.hd, ⟨s.tl.tl.hd, ⟨v0.1, ⟨v0.2, ⟨v1.1, ⟨v1.2, ()⟩⟩⟩⟩⟩⟩⟩⟩ fun v4 =>
  match v4 with
  | .inl v5 => (some (.out (.inl ())))
  | .inr v6 => (some (.go ⟨(ar .add .i64 v6.hd 1), ⟨v6.tl.hd, ⟨v6.tl.tl.hd, ()⟩⟩⟩)))))
  (some (.out (.inr ())))
noncomputable def t_additiveref18_Same [W] (a : ((List (Int × (List (Int × Int)))) × (List (Int × (List (Int × Int)))))) : Option Bool :=
  br (cm .neq (ln a.1) (ln a.2)) (some false)
  (loop t_additiveref18_Same_L0 ⟨0, ⟨a.1, ⟨a.2, ()⟩⟩⟩ fun v7 =>
  match v7 with
  | .inl v8 => (some false)
  | .inr v9 => (some true))
noncomputable def c_additiveref18_Same : Ctr := ⟨22, [(.ag, (.ls (.p I (.ls (.p I I))))), (.ag, (.ls (.p I (.ls (.p I I)))))], [(false, .bool)], @t_additiveref18_Same wv⟩
theorem e_additiveref18_Same (w : W) (a) : fnD (dW w) (cxO (gam []) [] [] [] []) 8 22 [(.ag, (.ls (.p I (.ls (.p I I))))), (.ag, (.ls (.p I (.ls (.p I I)))))] [(false, .bool)] a = @t_additiveref18_Same w a := by kernel_rfl
theorem g_additiveref18_Same : Go.Dn.Good PG c_additiveref18_Same := good (gam []) [] [] [] [] 8 gam_nil so_nil (fnOK_of (by kernel_rfl)) rfl rfl (e_additiveref18_Same wv)
noncomputable def t_additivelaw29_cells_L0 [W] (s : (HP (List (Int × (Bool × (List (Int × Int))))) (HP Int (HP Int (HP Int Unit))))) : Option (Nx (HP (List (Int × (Bool × (List (Int × Int))))) (HP Int (HP Int (HP Int Unit)))) ((HP Int Unit) ⊕ (HP Int Unit))) :=
  br (cm .lss s.tl.tl.tl.hd (ln s.hd)) (ge s.hd s.tl.tl.tl.hd fun v0 =>
  ge s.hd s.tl.tl.tl.hd fun v1 =>
  call c_track_Valid ((v1.1, (v1.2.1, v1.2.2)) : (Int × (Bool × (List (Int × Int))))) fun (v2 : Bool) =>
  br (nt v2) (some (.out (.inl ⟨0, ()⟩)))
  (ge s.hd s.tl.tl.tl.hd fun v3 =>
  br (cm .neq v3.1 s.tl.hd) (some (.out (.inl ⟨0, ()⟩)))
  (some (.go ⟨s.hd, ⟨s.tl.hd, ⟨(ar .add .i64 s.tl.tl.hd (ln v0.2.2)), ⟨(ar .add .i64 s.tl.tl.tl.hd 1), ()⟩⟩⟩⟩))))
  (some (.out (.inr ⟨s.tl.tl.hd, ()⟩)))
noncomputable def t_additivelaw29_cells [W] (a : ((List (Int × (Bool × (List (Int × Int))))) × Int)) : Option (Int × Bool) :=
  loop t_additivelaw29_cells_L0 ⟨a.1, ⟨a.2, ⟨0, ⟨0, ()⟩⟩⟩⟩ fun v4 =>
  match v4 with
  | .inl v5 => (some (v5.hd, false))
  | .inr v6 => (some (v6.hd, true))
noncomputable def c_additivelaw29_cells : Ctr := ⟨20, [(.one, (.ls (.p I (.p .bool (.ls (.p I I)))))), (.one, I)], [(false, I), (false, .bool)], @t_additivelaw29_cells wv⟩
theorem e_additivelaw29_cells (w : W) (a) : fnD (dW w) (cxO (gam [(48, c_track_Valid)]) [] [] [] []) 8 20 [(.one, (.ls (.p I (.p .bool (.ls (.p I I)))))), (.one, I)] [(false, I), (false, .bool)] a = @t_additivelaw29_cells w a := by kernel_rfl
theorem g_additivelaw29_cells : Go.Dn.Good PG c_additivelaw29_cells := good (gam [(48, c_track_Valid)]) [] [] [] [] 8 (gam_cons g_track_Valid gam_nil) so_nil (fnOK_of (by kernel_rfl)) rfl rfl (e_additivelaw29_cells wv)
noncomputable def t_additivelaw29_HatchCovers [W] (a : ((List (Int × (List (Int × Int)))) × Int)) : Option Bool :=
  call c_additivelaw29_few (a.1 : (List (Int × (List (Int × Int))))) fun (v0 : (List (Int × (List (Int × Int))))) =>
  call c_hatch_Zigzag (v0 : (List (Int × (List (Int × Int))))) fun (v1 : (List (Int × (Bool × (List (Int × Int)))))) =>
  call c_hatch_Rows ((v0, (1, a.2)) : ((List (Int × (List (Int × Int)))) × (Int × Int))) fun (v2 : (List (Int × (Bool × (List (Int × Int)))))) =>
  call c_hatch_Columns ((v0, (1, a.2)) : ((List (Int × (List (Int × Int)))) × (Int × Int))) fun (v3 : (List (Int × (Bool × (List (Int × Int)))))) =>
  call c_additiveref18_Valid (v0 : (List (Int × (List (Int × Int))))) fun (v4 : Bool) =>
  br (nt v4) (br (cm .eql (ln v1) 0) (br (cm .eql (ln v2) 0) (br (cm .eql (ln v3) 0) (call c_additivelaw29_awake (() : Unit) fun (v5 : Bool) =>
  some v5)
  (some false))
  (some false))
  (some false))
  (call c_additivelaw29_cells ((v1, 3) : ((List (Int × (Bool × (List (Int × Int))))) × Int)) fun (v6 : (Int × Bool)) =>
  call c_additivelaw29_cells ((v2, 4) : ((List (Int × (Bool × (List (Int × Int))))) × Int)) fun (v7 : (Int × Bool)) =>
  call c_additivelaw29_cells ((v3, 4) : ((List (Int × (Bool × (List (Int × Int))))) × Int)) fun (v8 : (Int × Bool)) =>
  call c_region_Count (v0 : (List (Int × (List (Int × Int))))) fun (v9 : Int) =>
  br v6.2 (br v7.2 (br v8.2 (br (cm .eql v6.1 v9) (br (cm .eql v7.1 v9) (br (cm .eql v8.1 v9) (call c_track_Cover (v1 : (List (Int × (Bool × (List (Int × Int)))))) fun (v10 : (List (Int × (List (Int × Int))))) =>
  call c_additiveref18_Same ((v10, v0) : ((List (Int × (List (Int × Int)))) × (List (Int × (List (Int × Int)))))) fun (v11 : Bool) =>
  br v11 (call c_track_Cover (v2 : (List (Int × (Bool × (List (Int × Int)))))) fun (v12 : (List (Int × (List (Int × Int))))) =>
  call c_additiveref18_Same ((v12, v0) : ((List (Int × (List (Int × Int)))) × (List (Int × (List (Int × Int)))))) fun (v13 : Bool) =>
  br v13 (call c_track_Cover (v3 : (List (Int × (Bool × (List (Int × Int)))))) fun (v14 : (List (Int × (List (Int × Int))))) =>
  call c_additiveref18_Same ((v14, v0) : ((List (Int × (List (Int × Int)))) × (List (Int × (List (Int × Int)))))) fun (v15 : Bool) =>
  br v15 (call c_additivelaw29_awake (() : Unit) fun (v16 : Bool) =>
  some v16)
  (some false))
  (some false))
  (some false))
  (some false))
  (some false))
  (some false))
  (some false))
  (some false))
  (some false))
noncomputable def c_additivelaw29_HatchCovers : Ctr := ⟨6, [(.ag, (.ls (.p I (.ls (.p I I))))), (.one, I)], [(false, .bool)], @t_additivelaw29_HatchCovers wv⟩
theorem e_additivelaw29_HatchCovers (w : W) (a) : fnD (dW w) (cxO (gam [(8, c_additivelaw29_few), (15, c_hatch_Zigzag), (10, c_hatch_Rows), (12, c_hatch_Columns), (19, c_additiveref18_Valid), (14, c_additivelaw29_awake), (20, c_additivelaw29_cells), (21, c_region_Count), (23, c_track_Cover), (22, c_additiveref18_Same)]) [] [] [] []) 8 6 [(.ag, (.ls (.p I (.ls (.p I I))))), (.one, I)] [(false, .bool)] a = @t_additivelaw29_HatchCovers w a := by kernel_rfl
theorem g_additivelaw29_HatchCovers : Go.Dn.Good PG c_additivelaw29_HatchCovers := good (gam [(8, c_additivelaw29_few), (15, c_hatch_Zigzag), (10, c_hatch_Rows), (12, c_hatch_Columns), (19, c_additiveref18_Valid), (14, c_additivelaw29_awake), (20, c_additivelaw29_cells), (21, c_region_Count), (23, c_track_Cover), (22, c_additiveref18_Same)]) [] [] [] [] 8 (gam_cons g_additivelaw29_few (gam_cons g_hatch_Zigzag (gam_cons g_hatch_Rows (gam_cons g_hatch_Columns (gam_cons g_additiveref18_Valid (gam_cons g_additivelaw29_awake (gam_cons g_additivelaw29_cells (gam_cons g_region_Count (gam_cons g_track_Cover (gam_cons g_additiveref18_Same gam_nil)))))))))) so_nil (fnOK_of (by kernel_rfl)) rfl rfl (e_additivelaw29_HatchCovers wv)
end Go.Proofs.YtmiobebagbhffaaGreat
