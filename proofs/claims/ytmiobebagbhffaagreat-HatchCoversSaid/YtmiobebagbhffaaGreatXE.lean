/- The typed texts of functions, and that they are right. Conditions: none. -/
import Derived.Test.YtmiobebagbhffaaGreatXB
namespace Go.Proofs.YtmiobebagbhffaaGreat
open Go Go.Vv Go.Dn Go.Dn.W
set_option linter.unusedVariables false
set_option maxRecDepth 100000
noncomputable def t_hatch_near [W] (a : ((Int × Int) × (Int × Int))) : Option Bool :=
  some (cm .eql (ar .add .i64 (ar .mul .i64 (ar .sub .i64 a.1.1 a.2.1) (ar .sub .i64 a.1.1 a.2.1)) (ar .mul .i64 (ar .sub .i64 a.1.2 a.2.2) (ar .sub .i64 a.1.2 a.2.2))) 1)
noncomputable def c_hatch_near : Ctr := ⟨67, [(.ag, (.p I I)), (.ag, (.p I I))], [(false, .bool)], @t_hatch_near wv⟩
theorem e_hatch_near (w : W) (a) : fnD (dW w) (cxO (gam []) [] [] [] []) 8 67 [(.ag, (.p I I)), (.ag, (.p I I))] [(false, .bool)] a = @t_hatch_near w a := by kernel_rfl
theorem g_hatch_near : Go.Dn.Good PG c_hatch_near := good (gam []) [] [] [] [] 8 gam_nil so_nil (fnOK_of (by kernel_rfl)) rfl rfl (e_hatch_near wv)
noncomputable def t_hatch_Zigzag_L3 [W] (s : (HP Int (HP Int (HP (List (Int × (List (Int × Int)))) (HP Int (HP Int (HP (List (Int × Int)) (HP Int (HP Int (HP Int (HP Int (HP Int (HP (List (Int × Int)) (HP (List (Int × (Bool × (List (Int × Int))))) (HP (List (Int × Int)) (HP (List (Int × Int)) Unit)))))))))))))))) : Option (Nx (HP Int (HP Int (HP (List (Int × (List (Int × Int)))) (HP Int (HP Int (HP (List (Int × Int)) (HP Int (HP Int (HP Int (HP Int (HP Int (HP (List (Int × Int)) (HP (List (Int × (Bool × (List (Int × Int))))) (HP (List (Int × Int)) (HP (List (Int × Int)) Unit))))))))))))))) (HP (List (Int × (List (Int × Int)))) (HP Int (HP Int (HP (List (Int × Int)) (HP Int (HP Int (HP (List (Int × Int)) (HP Int (HP (List (Int × Int)) (HP (List (Int × (Bool × (List (Int × Int))))) (HP (List (Int × Int)) Unit)))))))))))) :=
  br (cm .lss s.tl.hd s.tl.tl.tl.tl.tl.tl.tl.tl.tl.hd) (gd (ft 16 (pl (ln s.tl.tl.tl.tl.tl.tl.tl.tl.tl.tl.tl.tl.tl.tl.hd) 1)) <|
  some (.go ⟨s.hd, ⟨(ar .add .i64 s.tl.hd 1), ⟨s.tl.tl.hd, ⟨s.tl.tl.tl.hd, ⟨s.tl.tl.tl.tl.hd, ⟨s.tl.tl.tl.tl.tl.hd, ⟨s.tl.tl.tl.tl.tl.tl.hd, ⟨s.tl.tl.tl.tl.tl.tl.tl.hd, ⟨s.tl.tl.tl.tl.tl.tl.tl.tl.hd, ⟨s.tl.tl.tl.tl.tl.tl.tl.tl.tl.hd, ⟨s.tl.tl.tl.tl.tl.tl.tl.tl.tl.tl.hd, ⟨s.tl.tl.tl.tl.tl.tl.tl.tl.tl.tl.tl.hd, ⟨s.tl.tl.tl.tl.tl.tl.tl.tl.tl.tl.tl.tl.hd, ⟨s.tl.tl.tl.tl.tl.tl.tl.tl.tl.tl.tl.tl.tl.hd, ⟨(ap s.tl.tl.tl.tl.tl.tl.tl.tl.tl.tl.tl.tl.tl.tl.hd ((s.tl.hd, s.hd) :: [])), ()⟩⟩⟩⟩⟩⟩⟩⟩⟩⟩⟩⟩⟩⟩⟩))
  (some (.out ⟨s.tl.tl.hd, ⟨s.tl.tl.tl.hd, ⟨s.tl.tl.tl.tl.hd, ⟨s.tl.tl.tl.tl.tl.hd, ⟨s.tl.tl.tl.tl.tl.tl.hd, ⟨s.tl.tl.tl.tl.tl.tl.tl.hd, ⟨s.tl.tl.tl.tl.tl.tl.tl.tl.tl.tl.tl.tl.tl.tl.hd, ⟨s.tl.tl.tl.tl.tl.tl.tl.tl.tl.tl.hd, ⟨s.tl.tl.tl.tl.tl.tl.tl.tl.tl.tl.tl.hd, ⟨s.tl.tl.tl.tl.tl.tl.tl.tl.tl.tl.tl.tl.hd, ⟨s.tl.tl.tl.tl.tl.tl.tl.tl.tl.tl.tl.tl.tl.hd, ()⟩⟩⟩⟩⟩⟩⟩⟩⟩⟩⟩))
noncomputable def t_hatch_Zigzag_J2 [W] (s : (HP (List (Int × (List (Int × Int)))) (HP Int (HP Int (HP (List (Int × Int)) (HP Int (HP Int (HP Int (HP (List (Int × Int)) (HP (List (Int × (Bool × (List (Int × Int))))) (HP (List (Int × Int)) Unit))))))))))) : Option (HP (List (Int × (List (Int × Int)))) (HP Int (HP Int (HP (List (Int × Int)) (HP Int (HP Int (HP Int (HP (List (Int × Int)) (HP (List (Int × (Bool × (List (Int × Int))))) (HP (List (Int × Int)) Unit)))))))))) :=
  ge s.tl.tl.tl.hd s.tl.tl.tl.tl.tl.hd fun v3 =>
  loop t_hatch_Zigzag_L3 ⟨s.tl.tl.tl.tl.tl.tl.hd, ⟨v3.1, ⟨s.hd, ⟨s.tl.hd, ⟨s.tl.tl.hd, ⟨s.tl.tl.tl.hd, ⟨s.tl.tl.tl.tl.hd, ⟨s.tl.tl.tl.tl.tl.hd, ⟨v3.1, ⟨v3.2, ⟨s.tl.tl.tl.tl.tl.tl.hd, ⟨s.tl.tl.tl.tl.tl.tl.tl.hd, ⟨s.tl.tl.tl.tl.tl.tl.tl.tl.hd, ⟨s.tl.tl.tl.tl.tl.tl.tl.tl.tl.hd, ⟨[], ()⟩⟩⟩⟩⟩⟩⟩⟩⟩⟩⟩⟩⟩⟩⟩ fun v4 =>
  br (cm .geq (ar .sub .i64 (ln v4.tl.tl.tl.tl.tl.tl.tl.tl.tl.hd) 1) 0) (gd (ib (ar .sub .i64 (ln v4.tl.tl.tl.tl.tl.tl.tl.tl.tl.hd) 1) (ln v4.tl.tl.tl.tl.tl.tl.tl.tl.tl.hd)) <|
  ge v4.tl.tl.tl.tl.tl.tl.tl.tl.tl.hd (ar .sub .i64 (ln v4.tl.tl.tl.tl.tl.tl.tl.tl.tl.hd) 1) fun v5 =>
  gd (cm .eql (pl (ar .sub .i64 (ln v4.tl.tl.tl.tl.tl.tl.tl.tl.tl.hd) 1) 1) (ln v4.tl.tl.tl.tl.tl.tl.tl.tl.tl.hd)) <|
  ge v4.tl.tl.tl.tl.tl.tl.tl.tl.tl.hd (ar .sub .i64 (ln v4.tl.tl.tl.tl.tl.tl.tl.tl.tl.hd) 1) fun v6 =>
  gd (cm .eql (pl (ar .sub .i64 (ln v4.tl.tl.tl.tl.tl.tl.tl.tl.tl.hd) 1) 1) (ln v4.tl.tl.tl.tl.tl.tl.tl.tl.tl.hd)) <|
  gd (ib (ar .sub .i64 (ln v4.tl.tl.tl.tl.tl.tl.tl.tl.tl.tl.hd) 1) (ln v4.tl.tl.tl.tl.tl.tl.tl.tl.tl.tl.hd)) <|
  ge v4.tl.tl.tl.tl.tl.tl.tl.tl.tl.tl.hd (ar .sub .i64 (ln v4.tl.tl.tl.tl.tl.tl.tl.tl.tl.tl.hd) 1) fun v7 =>
  gd (ib 0 (ln v4.tl.tl.tl.tl.tl.tl.hd)) <|
  ge v4.tl.tl.tl.tl.tl.tl.hd 0 fun v8 =>
  call c_hatch_near (((v7.1, v7.2), (v8.1, v8.2)) : ((Int × Int) × (Int × Int))) fun (v9 : Bool) =>
  br v9 (ge v4.tl.tl.tl.tl.tl.tl.tl.tl.tl.hd (ar .sub .i64 (ln v4.tl.tl.tl.tl.tl.tl.tl.tl.tl.hd) 1) fun v10 =>
  gd (cm .eql (pl (ar .sub .i64 (ln v4.tl.tl.tl.tl.tl.tl.tl.tl.tl.hd) 1) 1) (ln v4.tl.tl.tl.tl.tl.tl.tl.tl.tl.hd)) <|
  br (cm .leq (ar .add .i64 (ln v4.tl.tl.tl.tl.tl.tl.tl.tl.tl.tl.hd) (ln v4.tl.tl.tl.tl.tl.tl.hd)) 65536) (ge v4.tl.tl.tl.tl.tl.tl.tl.tl.tl.hd (ar .sub .i64 (ln v4.tl.tl.tl.tl.tl.tl.tl.tl.tl.hd) 1) fun v11 =>
  gd (cm .eql (pl (ar .sub .i64 (ln v4.tl.tl.tl.tl.tl.tl.tl.tl.tl.hd) 1) 1) (ln v4.tl.tl.tl.tl.tl.tl.tl.tl.tl.hd)) <|
  gd (ft 16 (pl (ln v4.tl.tl.tl.tl.tl.tl.tl.tl.tl.tl.hd) (ln v4.tl.tl.tl.tl.tl.tl.hd))) <|
  ge v4.tl.tl.tl.tl.tl.tl.tl.tl.tl.hd (ar .sub .i64 (ln v4.tl.tl.tl.tl.tl.tl.tl.tl.tl.hd) 1) fun v12 =>
  gd (cm .eql (pl (ar .sub .i64 (ln v4.tl.tl.tl.tl.tl.tl.tl.tl.tl.hd) 1) 1) (ln v4.tl.tl.tl.tl.tl.tl.tl.tl.tl.hd)) <|
  some (⟨v4.hd, ⟨v4.tl.hd, ⟨v4.tl.tl.hd, ⟨v4.tl.tl.tl.hd, ⟨v4.tl.tl.tl.tl.hd, ⟨v4.tl.tl.tl.tl.tl.hd, ⟨v4.tl.tl.tl.tl.tl.tl.tl.hd, ⟨v4.tl.tl.tl.tl.tl.tl.tl.tl.hd, ⟨(st v4.tl.tl.tl.tl.tl.tl.tl.tl.tl.hd (ar .sub .i64 (ln v4.tl.tl.tl.tl.tl.tl.tl.tl.tl.hd) 1) (v12.1, (v12.2.1, v12.2.2))), ⟨(ap v4.tl.tl.tl.tl.tl.tl.tl.tl.tl.tl.hd v4.tl.tl.tl.tl.tl.tl.hd), ()⟩⟩⟩⟩⟩⟩⟩⟩⟩⟩))
  (gd (ft 40 (pl (ln v4.tl.tl.tl.tl.tl.tl.tl.tl.tl.hd) 1)) <|
  some (⟨v4.hd, ⟨v4.tl.hd, ⟨v4.tl.tl.hd, ⟨v4.tl.tl.tl.hd, ⟨v4.tl.tl.tl.tl.hd, ⟨v4.tl.tl.tl.tl.tl.hd, ⟨v4.tl.tl.tl.tl.tl.tl.tl.hd, ⟨v4.tl.tl.tl.tl.tl.tl.tl.tl.hd, ⟨(ap (ml v4.tl.tl.tl.tl.tl.tl.tl.tl.tl.hd fun y => (y.1, (y.2.1, v4.tl.tl.tl.tl.tl.tl.tl.tl.tl.tl.hd))) ((3, (false, [])) :: [])), ⟨v4.tl.tl.tl.tl.tl.tl.hd, ()⟩⟩⟩⟩⟩⟩⟩⟩⟩⟩)))
  (gd (ft 40 (pl (ln v4.tl.tl.tl.tl.tl.tl.tl.tl.tl.hd) 1)) <|
  some (⟨v4.hd, ⟨v4.tl.hd, ⟨v4.tl.tl.hd, ⟨v4.tl.tl.tl.hd, ⟨v4.tl.tl.tl.tl.hd, ⟨v4.tl.tl.tl.tl.tl.hd, ⟨v4.tl.tl.tl.tl.tl.tl.tl.hd, ⟨v4.tl.tl.tl.tl.tl.tl.tl.tl.hd, ⟨(ap (ml v4.tl.tl.tl.tl.tl.tl.tl.tl.tl.hd fun y => (y.1, (y.2.1, v4.tl.tl.tl.tl.tl.tl.tl.tl.tl.tl.hd))) ((3, (false, [])) :: [])), ⟨v4.tl.tl.tl.tl.tl.tl.hd, ()⟩⟩⟩⟩⟩⟩⟩⟩⟩⟩)))
  (gd (ft 40 (pl (ln v4.tl.tl.tl.tl.tl.tl.tl.tl.tl.hd) 1)) <|
  some (⟨v4.hd, ⟨v4.tl.hd, ⟨v4.tl.tl.hd, ⟨v4.tl.tl.tl.hd, ⟨v4.tl.tl.tl.tl.hd, ⟨v4.tl.tl.tl.tl.tl.hd, ⟨v4.tl.tl.tl.tl.tl.tl.tl.hd, ⟨v4.tl.tl.tl.tl.tl.tl.tl.tl.hd, ⟨(ap (ml v4.tl.tl.tl.tl.tl.tl.tl.tl.tl.hd fun y => (y.1, (y.2.1, v4.tl.tl.tl.tl.tl.tl.tl.tl.tl.tl.hd))) ((3, (false, [])) :: [])), ⟨v4.tl.tl.tl.tl.tl.tl.hd, ()⟩⟩⟩⟩⟩⟩⟩⟩⟩⟩))
noncomputable def t_hatch_Zigzag_L1 [W] (s : (HP (List (Int × (List (Int × Int)))) (HP Int (HP Int (HP (List (Int × Int)) (HP Int (HP Int (HP Int (HP (List (Int × Int)) (HP (List (Int × (Bool × (List (Int × Int))))) (HP (List (Int × Int)) Unit))))))))))) : Option (Nx (HP (List (Int × (List (Int × Int)))) (HP Int (HP Int (HP (List (Int × Int)) (HP Int (HP Int (HP Int (HP (List (Int × Int)) (HP (List (Int × (Bool × (List (Int × Int))))) (HP (List (Int × Int)) Unit)))))))))) (HP (List (Int × (List (Int × Int)))) (HP Int (HP Int (HP (List (Int × (Bool × (List (Int × Int))))) (HP (List (Int × Int)) Unit)))))) :=
  br (cm .lss s.tl.tl.tl.tl.tl.hd s.tl.tl.tl.tl.hd) (join (t_hatch_Zigzag_J2 s) fun v13 =>
  some (.go ⟨v13.hd, ⟨v13.tl.hd, ⟨v13.tl.tl.hd, ⟨v13.tl.tl.tl.hd, ⟨v13.tl.tl.tl.tl.hd, ⟨(ar .add .i64 v13.tl.tl.tl.tl.tl.hd 1), ⟨v13.tl.tl.tl.tl.tl.tl.hd, ⟨v13.tl.tl.tl.tl.tl.tl.tl.hd, ⟨v13.tl.tl.tl.tl.tl.tl.tl.tl.hd, ⟨v13.tl.tl.tl.tl.tl.tl.tl.tl.tl.hd, ()⟩⟩⟩⟩⟩⟩⟩⟩⟩⟩))
  (some (.out ⟨s.hd, ⟨s.tl.hd, ⟨s.tl.tl.hd, ⟨s.tl.tl.tl.tl.tl.tl.tl.tl.hd, ⟨s.tl.tl.tl.tl.tl.tl.tl.tl.tl.hd, ()⟩⟩⟩⟩⟩))
noncomputable def t_hatch_Zigzag_L5 [W] (s : (HP Int (HP Int (HP Int (HP (List (Int × (List (Int × Int)))) (HP Int (HP Int (HP Int (HP Int (HP (List (Int × Int)) (HP Int (HP (List (Int × Int)) (HP (List (Int × (Bool × (List (Int × Int))))) (HP (List (Int × Int)) (HP (List (Int × Int)) Unit))))))))))))))) : Option (Nx (HP Int (HP Int (HP Int (HP (List (Int × (List (Int × Int)))) (HP Int (HP Int (HP Int (HP Int (HP (List (Int × Int)) (HP Int (HP (List (Int × Int)) (HP (List (Int × (Bool × (List (Int × Int))))) (HP (List (Int × Int)) (HP (List (Int × Int)) Unit)))))))))))))) (HP Int (HP (List (Int × (List (Int × Int)))) (HP Int (HP Int (HP (List (Int × Int)) (HP (List (Int × Int)) (HP Int (HP (List (Int × Int)) (HP (List (Int × (Bool × (List (Int × Int))))) (HP (List (Int × Int)) Unit))))))))))) :=
  br (cm .lss s.tl.hd s.tl.tl.tl.tl.tl.tl.tl.hd) (gd (ft 16 (pl (ln s.tl.tl.tl.tl.tl.tl.tl.tl.tl.tl.tl.tl.tl.hd) 1)) <|
  some (.go ⟨s.hd, ⟨(ar .add .i64 s.tl.hd 1), ⟨s.tl.tl.hd, ⟨s.tl.tl.tl.hd, ⟨s.tl.tl.tl.tl.hd, ⟨s.tl.tl.tl.tl.tl.hd, ⟨s.tl.tl.tl.tl.tl.tl.hd, ⟨s.tl.tl.tl.tl.tl.tl.tl.hd, ⟨s.tl.tl.tl.tl.tl.tl.tl.tl.hd, ⟨s.tl.tl.tl.tl.tl.tl.tl.tl.tl.hd, ⟨s.tl.tl.tl.tl.tl.tl.tl.tl.tl.tl.hd, ⟨s.tl.tl.tl.tl.tl.tl.tl.tl.tl.tl.tl.hd, ⟨s.tl.tl.tl.tl.tl.tl.tl.tl.tl.tl.tl.tl.hd, ⟨(ap s.tl.tl.tl.tl.tl.tl.tl.tl.tl.tl.tl.tl.tl.hd ((s.tl.hd, s.hd) :: [])), ()⟩⟩⟩⟩⟩⟩⟩⟩⟩⟩⟩⟩⟩⟩))
  (some (.out ⟨s.tl.tl.hd, ⟨s.tl.tl.tl.hd, ⟨s.tl.tl.tl.tl.hd, ⟨s.tl.tl.tl.tl.tl.hd, ⟨s.tl.tl.tl.tl.tl.tl.tl.tl.tl.tl.tl.tl.tl.hd, ⟨s.tl.tl.tl.tl.tl.tl.tl.tl.hd, ⟨s.tl.tl.tl.tl.tl.tl.tl.tl.tl.hd, ⟨s.tl.tl.tl.tl.tl.tl.tl.tl.tl.tl.hd, ⟨s.tl.tl.tl.tl.tl.tl.tl.tl.tl.tl.tl.hd, ⟨s.tl.tl.tl.tl.tl.tl.tl.tl.tl.tl.tl.tl.hd, ()⟩⟩⟩⟩⟩⟩⟩⟩⟩⟩))
noncomputable def t_hatch_Zigzag_L6 [W] (s : (HP Int (HP Int (HP Int (HP (List (Int × (List (Int × Int)))) (HP Int (HP Int (HP (List (Int × Int)) (HP (List (Int × Int)) (HP Int (HP (List (Int × Int)) (HP (List (Int × (Bool × (List (Int × Int))))) (HP (List (Int × Int)) Unit))))))))))))) : Option (Nx (HP Int (HP Int (HP Int (HP (List (Int × (List (Int × Int)))) (HP Int (HP Int (HP (List (Int × Int)) (HP (List (Int × Int)) (HP Int (HP (List (Int × Int)) (HP (List (Int × (Bool × (List (Int × Int))))) (HP (List (Int × Int)) Unit)))))))))))) (HP Int (HP (List (Int × (List (Int × Int)))) (HP Int (HP Int (HP (List (Int × Int)) (HP (List (Int × Int)) (HP Int (HP (List (Int × Int)) (HP (List (Int × (Bool × (List (Int × Int))))) (HP (List (Int × Int)) Unit))))))))))) :=
  br (cm .lss s.hd s.tl.hd) (gd (ib s.tl.hd (ln s.tl.tl.tl.tl.tl.tl.hd)) <|
  ge s.tl.tl.tl.tl.tl.tl.hd s.tl.hd fun v17 =>
  gd (ib s.hd (ln s.tl.tl.tl.tl.tl.tl.hd)) <|
  ge s.tl.tl.tl.tl.tl.tl.hd s.hd fun v18 =>
  gd (ib s.hd (ln s.tl.tl.tl.tl.tl.tl.hd)) <|
  ge s.tl.tl.tl.tl.tl.tl.hd s.hd fun v19 =>
  gd (ib s.tl.hd (ln (st s.tl.tl.tl.tl.tl.tl.hd s.hd (v17.1, v17.2)))) <|
  ge (st s.tl.tl.tl.tl.tl.tl.hd s.hd (v17.1, v17.2)) s.tl.hd fun v20 =>
  some (.go ⟨(ar .add .i64 s.hd 1), ⟨(ar .sub .i64 s.tl.hd 1), ⟨s.tl.tl.hd, ⟨s.tl.tl.tl.hd, ⟨s.tl.tl.tl.tl.hd, ⟨s.tl.tl.tl.tl.tl.hd, ⟨(st (st s.tl.tl.tl.tl.tl.tl.hd s.hd (v17.1, v17.2)) s.tl.hd (v18.1, v18.2)), ⟨s.tl.tl.tl.tl.tl.tl.tl.hd, ⟨s.tl.tl.tl.tl.tl.tl.tl.tl.hd, ⟨s.tl.tl.tl.tl.tl.tl.tl.tl.tl.hd, ⟨s.tl.tl.tl.tl.tl.tl.tl.tl.tl.tl.hd, ⟨s.tl.tl.tl.tl.tl.tl.tl.tl.tl.tl.tl.hd, ()⟩⟩⟩⟩⟩⟩⟩⟩⟩⟩⟩⟩))
  (some (.out ⟨s.tl.tl.hd, ⟨s.tl.tl.tl.hd, ⟨s.tl.tl.tl.tl.hd, ⟨s.tl.tl.tl.tl.tl.hd, ⟨s.tl.tl.tl.tl.tl.tl.hd, ⟨s.tl.tl.tl.tl.tl.tl.tl.hd, ⟨s.tl.tl.tl.tl.tl.tl.tl.tl.hd, ⟨s.tl.tl.tl.tl.tl.tl.tl.tl.tl.hd, ⟨s.tl.tl.tl.tl.tl.tl.tl.tl.tl.tl.hd, ⟨s.tl.tl.tl.tl.tl.tl.tl.tl.tl.tl.tl.hd, ()⟩⟩⟩⟩⟩⟩⟩⟩⟩⟩))
noncomputable def t_hatch_Zigzag_L4 [W] (s : (HP Int (HP (List (Int × (List (Int × Int)))) (HP Int (HP Int (HP (List (Int × Int)) (HP Int (HP (List (Int × Int)) (HP (List (Int × (Bool × (List (Int × Int))))) (HP (List (Int × Int)) Unit)))))))))) : Option (Nx (HP Int (HP (List (Int × (List (Int × Int)))) (HP Int (HP Int (HP (List (Int × Int)) (HP Int (HP (List (Int × Int)) (HP (List (Int × (Bool × (List (Int × Int))))) (HP (List (Int × Int)) Unit))))))))) (HP (List (Int × (List (Int × Int)))) (HP Int (HP Int (HP Int (HP (List (Int × Int)) (HP (List (Int × (Bool × (List (Int × Int))))) (HP (List (Int × Int)) Unit)))))))) :=
  br (cm .geq s.hd 0) (ge s.tl.tl.tl.tl.hd s.hd fun v15 =>
  loop t_hatch_Zigzag_L5 ⟨s.tl.tl.tl.tl.tl.hd, ⟨v15.1, ⟨s.hd, ⟨s.tl.hd, ⟨s.tl.tl.hd, ⟨s.tl.tl.tl.hd, ⟨v15.1, ⟨v15.2, ⟨s.tl.tl.tl.tl.hd, ⟨s.tl.tl.tl.tl.tl.hd, ⟨s.tl.tl.tl.tl.tl.tl.hd, ⟨s.tl.tl.tl.tl.tl.tl.tl.hd, ⟨s.tl.tl.tl.tl.tl.tl.tl.tl.hd, ⟨[], ()⟩⟩⟩⟩⟩⟩⟩⟩⟩⟩⟩⟩⟩⟩ fun v16 =>
  loop t_hatch_Zigzag_L6 ⟨0, ⟨(ar .sub .i64 (ln v16.tl.tl.tl.tl.hd) 1), ⟨v16.hd, ⟨v16.tl.hd, ⟨v16.tl.tl.hd, ⟨v16.tl.tl.tl.hd, ⟨v16.tl.tl.tl.tl.hd, ⟨v16.tl.tl.tl.tl.tl.hd, ⟨v16.tl.tl.tl.tl.tl.tl.hd, ⟨v16.tl.tl.tl.tl.tl.tl.tl.hd, ⟨v16.tl.tl.tl.tl.tl.tl.tl.tl.hd, ⟨v16.tl.tl.tl.tl.tl.tl.tl.tl.tl.hd, ()⟩⟩⟩⟩⟩⟩⟩⟩⟩⟩⟩⟩ fun v21 =>
  br (cm .geq (ar .sub .i64 (ln v21.tl.tl.tl.tl.tl.tl.tl.tl.hd) 1) 0) (gd (ib (ar .sub .i64 (ln v21.tl.tl.tl.tl.tl.tl.tl.tl.hd) 1) (ln v21.tl.tl.tl.tl.tl.tl.tl.tl.hd)) <|
  ge v21.tl.tl.tl.tl.tl.tl.tl.tl.hd (ar .sub .i64 (ln v21.tl.tl.tl.tl.tl.tl.tl.tl.hd) 1) fun v22 =>
  gd (cm .eql (pl (ar .sub .i64 (ln v21.tl.tl.tl.tl.tl.tl.tl.tl.hd) 1) 1) (ln v21.tl.tl.tl.tl.tl.tl.tl.tl.hd)) <|
  ge v21.tl.tl.tl.tl.tl.tl.tl.tl.hd (ar .sub .i64 (ln v21.tl.tl.tl.tl.tl.tl.tl.tl.hd) 1) fun v23 =>
  gd (cm .eql (pl (ar .sub .i64 (ln v21.tl.tl.tl.tl.tl.tl.tl.tl.hd) 1) 1) (ln v21.tl.tl.tl.tl.tl.tl.tl.tl.hd)) <|
  gd (ib (ar .sub .i64 (ln v21.tl.tl.tl.tl.tl.tl.tl.tl.tl.hd) 1) (ln v21.tl.tl.tl.tl.tl.tl.tl.tl.tl.hd)) <|
  ge v21.tl.tl.tl.tl.tl.tl.tl.tl.tl.hd (ar .sub .i64 (ln v21.tl.tl.tl.tl.tl.tl.tl.tl.tl.hd) 1) fun v24 =>
  gd (ib 0 (ln v21.tl.tl.tl.tl.hd)) <|
  ge v21.tl.tl.tl.tl.hd 0 fun v25 =>
  call c_hatch_near (((v24.1, v24.2), (v25.1, v25.2)) : ((Int × Int) × (Int × Int))) fun (v26 : Bool) =>
  br v26 (ge v21.tl.tl.tl.tl.tl.tl.tl.tl.hd (ar .sub .i64 (ln v21.tl.tl.tl.tl.tl.tl.tl.tl.hd) 1) fun v27 =>
  gd (cm .eql (pl (ar .sub .i64 (ln v21.tl.tl.tl.tl.tl.tl.tl.tl.hd) 1) 1) (ln v21.tl.tl.tl.tl.tl.tl.tl.tl.hd)) <|
  br (cm .leq (ar .add .i64 (ln v21.tl.tl.tl.tl.tl.tl.tl.tl.tl.hd) (ln v21.tl.tl.tl.tl.hd)) 65536) (ge v21.tl.tl.tl.tl.tl.tl.tl.tl.hd (ar .sub .i64 (ln v21.tl.tl.tl.tl.tl.tl.tl.tl.hd) 1) fun v28 =>
  gd (cm .eql (pl (ar .sub .i64 (ln v21.tl.tl.tl.tl.tl.tl.tl.tl.hd) 1) 1) (ln v21.tl.tl.tl.tl.tl.tl.tl.tl.hd)) <|
  gd (ft 16 (pl (ln v21.tl.tl.tl.tl.tl.tl.tl.tl.tl.hd) (ln v21.tl.tl.tl.tl.hd))) <|
  ge v21.tl.tl.tl.tl.tl.tl.tl.tl.hd (ar .sub .i64 (ln v21.tl.tl.tl.tl.tl.tl.tl.tl.hd) 1) fun v29 =>
  gd (cm .eql (pl (ar .sub .i64 (ln v21.tl.tl.tl.tl.tl.tl.tl.tl.hd) 1) 1) (ln v21.tl.tl.tl.tl.tl.tl.tl.tl.hd)) <|
  some (.go ⟨(ar .sub .i64 v21.hd 1), ⟨v21.tl.hd, ⟨v21.tl.tl.hd, ⟨v21.tl.tl.tl.hd, ⟨v21.tl.tl.tl.tl.tl.hd, ⟨v21.tl.tl.tl.tl.tl.tl.hd, ⟨v21.tl.tl.tl.tl.tl.tl.tl.hd, ⟨(st v21.tl.tl.tl.tl.tl.tl.tl.tl.hd (ar .sub .i64 (ln v21.tl.tl.tl.tl.tl.tl.tl.tl.hd) 1) (v29.1, (v29.2.1, v29.2.2))), ⟨(ap v21.tl.tl.tl.tl.tl.tl.tl.tl.tl.hd v21.tl.tl.tl.tl.hd), ()⟩⟩⟩⟩⟩⟩⟩⟩⟩))
  (gd (ft 40 (pl (ln v21.tl.tl.tl.tl.tl.tl.tl.tl.hd) 1)) <|
  some (.go ⟨(ar .sub .i64 v21.hd 1), ⟨v21.tl.hd, ⟨v21.tl.tl.hd, ⟨v21.tl.tl.tl.hd, ⟨v21.tl.tl.tl.tl.tl.hd, ⟨v21.tl.tl.tl.tl.tl.tl.hd, ⟨v21.tl.tl.tl.tl.tl.tl.tl.hd, ⟨(ap (ml v21.tl.tl.tl.tl.tl.tl.tl.tl.hd fun y => (y.1, (y.2.1, v21.tl.tl.tl.tl.tl.tl.tl.tl.tl.hd))) ((3, (false, [])) :: [])), ⟨v21.tl.tl.tl.tl.hd, ()⟩⟩⟩⟩⟩⟩⟩⟩⟩)))
  (gd (ft 40 (pl (ln v21.tl.tl.tl.tl.tl.tl.tl.tl.hd) 1)) <|
  some (.go ⟨(ar .sub .i64 v21.hd 1), ⟨v21.tl.hd, ⟨v21.tl.tl.hd, ⟨v21.tl.tl.tl.hd, ⟨v21.tl.tl.tl.tl.tl.hd, ⟨v21.tl.tl.tl.tl.tl.tl.hd, ⟨v21.tl.tl.tl.tl.tl.tl.tl.hd, ⟨(ap (ml v21.tl.tl.tl.tl.tl.tl.tl.tl.hd fun y => (y.1, (y.2.1, v21.tl.tl.tl.tl.tl.tl.tl.tl.tl.hd))) ((3, (false, [])) :: [])), ⟨v21.tl.tl.tl.tl.hd, ()⟩⟩⟩⟩⟩⟩⟩⟩⟩)))
  (gd (ft 40 (pl (ln v21.tl.tl.tl.tl.tl.tl.tl.tl.hd) 1)) <|
  some (.go ⟨(ar .sub .i64 v21.hd 1), ⟨v21.tl.hd, ⟨v21.tl.tl.hd, ⟨v21.tl.tl.tl.hd, ⟨v21.tl.tl.tl.tl.tl.hd, ⟨v21.tl.tl.tl.tl.tl.tl.hd, ⟨v21.tl.tl.tl.tl.tl.tl.tl.hd, ⟨(ap (ml v21.tl.tl.tl.tl.tl.tl.tl.tl.hd fun y => (y.1, (y.2.1, v21.tl.tl.tl.tl.tl.tl.tl.tl.tl.hd))) ((3, (false, [])) :: [])), ⟨v21.tl.tl.tl.tl.hd, ()⟩⟩⟩⟩⟩⟩⟩⟩⟩)))
  (some (.out ⟨s.tl.hd, ⟨s.tl.tl.hd, ⟨s.tl.tl.tl.hd, ⟨s.tl.tl.tl.tl.tl.hd, ⟨s.tl.tl.tl.tl.tl.tl.hd, ⟨s.tl.tl.tl.tl.tl.tl.tl.hd, ⟨s.tl.tl.tl.tl.tl.tl.tl.tl.hd, ()⟩⟩⟩⟩⟩⟩⟩))
noncomputable def t_hatch_Zigzag_L0 [W] (s : (HP (List (Int × (List (Int × Int)))) (HP Int (HP Int (HP (List (Int × (Bool × (List (Int × Int))))) (HP (List (Int × Int)) Unit)))))) : Option (Nx (HP (List (Int × (List (Int × Int)))) (HP Int (HP Int (HP (List (Int × (Bool × (List (Int × Int))))) (HP (List (Int × Int)) Unit))))) (HP (List (Int × (Bool × (List (Int × Int))))) (HP (List (Int × Int)) Unit))) :=
  br (cm .lss s.tl.tl.hd s.tl.hd) (ge s.hd s.tl.tl.hd fun v1 =>
  call c_hatch_rest ((v1.1, 2) : (Int × Int)) fun (v2 : Int) =>
  br (cm .eql v2 0) (loop t_hatch_Zigzag_L1 ⟨s.hd, ⟨s.tl.hd, ⟨s.tl.tl.hd, ⟨v1.2, ⟨(ln v1.2), ⟨0, ⟨v1.1, ⟨v1.2, ⟨s.tl.tl.tl.hd, ⟨s.tl.tl.tl.tl.hd, ()⟩⟩⟩⟩⟩⟩⟩⟩⟩⟩ fun v14 =>
  some (.go ⟨v14.hd, ⟨v14.tl.hd, ⟨(ar .add .i64 v14.tl.tl.hd 1), ⟨v14.tl.tl.tl.hd, ⟨v14.tl.tl.tl.tl.hd, ()⟩⟩⟩⟩⟩))
  (loop t_hatch_Zigzag_L4 ⟨(ar .sub .i64 (ln v1.2) 1), ⟨s.hd, ⟨s.tl.hd, ⟨s.tl.tl.hd, ⟨v1.2, ⟨v1.1, ⟨v1.2, ⟨s.tl.tl.tl.hd, ⟨s.tl.tl.tl.tl.hd, ()⟩⟩⟩⟩⟩⟩⟩⟩⟩ fun v30 =>
  some (.go ⟨v30.hd, ⟨v30.tl.hd, ⟨(ar .add .i64 v30.tl.tl.hd 1), ⟨v30.tl.tl.tl.tl.tl.hd, ⟨v30.tl.tl.tl.tl.tl.tl.hd, ()⟩⟩⟩⟩⟩)))
  (some (.out ⟨s.tl.tl.tl.hd, ⟨s.tl.tl.tl.tl.hd, ()⟩⟩))
noncomputable def t_hatch_Zigzag [W] (a : (List (Int × (List (Int × Int))))) : Option (List (Int × (Bool × (List (Int × Int))))) :=
  call c_region_Valid (a : (List (Int × (List (Int × Int))))) fun (v0 : Bool) =>
  br (nt v0) (some [])
  (loop t_hatch_Zigzag_L0 ⟨a, ⟨(ln a), ⟨0, ⟨[], ⟨[], ()⟩⟩⟩⟩⟩ fun v31 =>
  some (ml v31.hd fun y => (y.1, (y.2.1, v31.tl.hd))))
noncomputable def c_hatch_Zigzag : Ctr := ⟨15, [(.ag, (.ls (.p I (.ls (.p I I)))))], [(false, (.ls (.p I (.p .bool (.ls (.p I I))))))], @t_hatch_Zigzag wv⟩
theorem e_hatch_Zigzag (w : W) (a) : fnD (dW w) (cxO (gam [(67, c_hatch_near), (40, c_hatch_rest), (26, c_region_Valid)]) [0, 1, 2, 3, 4, 5, 6, 7, 8, 9, 10, 11, 12, 13, 14, 15, 16, 17, 18] [] [] [12]) 8 15 [(.ag, (.ls (.p I (.ls (.p I I)))))] [(false, (.ls (.p I (.p .bool (.ls (.p I I))))))] a = @t_hatch_Zigzag w a := by kernel_rfl
theorem g_hatch_Zigzag : Go.Dn.Good PG c_hatch_Zigzag := good (gam [(67, c_hatch_near), (40, c_hatch_rest), (26, c_region_Valid)]) [0, 1, 2, 3, 4, 5, 6, 7, 8, 9, 10, 11, 12, 13, 14, 15, 16, 17, 18] [] [] [12] 8 (gam_cons g_hatch_near (gam_cons g_hatch_rest (gam_cons g_region_Valid gam_nil))) so_nil (fnOK_of (by kernel_rfl)) rfl rfl (e_hatch_Zigzag wv)
noncomputable def t_track_onGrid [W] (a : (Int × Int)) : Option Bool :=
  br (cm .geq a.1 (-4096)) (br (cm .lss a.1 4096) (br (cm .geq a.2 (-4096)) (some (cm .lss a.2 4096))
  (some false))
  (some false))
  (some false)
noncomputable def c_track_onGrid : Ctr := ⟨73, [(.ag, (.p I I))], [(false, .bool)], @t_track_onGrid wv⟩
theorem e_track_onGrid (w : W) (a) : fnD (dW w) (cxO (gam []) [] [] [] []) 8 73 [(.ag, (.p I I))] [(false, .bool)] a = @t_track_onGrid w a := by kernel_rfl
theorem g_track_onGrid : Go.Dn.Good PG c_track_onGrid := good (gam []) [] [] [] [] 8 gam_nil so_nil (fnOK_of (by kernel_rfl)) rfl rfl (e_track_onGrid wv)
noncomputable def t_track_neighbors [W] (a : ((Int × Int) × (Int × Int))) : Option Bool :=
  some (cm .eql (ar .add .i64 (ar .mul .i64 (ar .sub .i64 a.1.1 a.2.1) (ar .sub .i64 a.1.1 a.2.1)) (ar .mul .i64 (ar .sub .i64 a.1.2 a.2.2) (ar .sub .i64 a.1.2 a.2.2))) 1)
noncomputable def c_track_neighbors : Ctr := ⟨74, [(.ag, (.p I I)), (.ag, (.p I I))], [(false, .bool)], @t_track_neighbors wv⟩
theorem e_track_neighbors (w : W) (a) : fnD (dW w) (cxO (gam []) [] [] [] []) 8 74 [(.ag, (.p I I)), (.ag, (.p I I))] [(false, .bool)] a = @t_track_neighbors w a := by kernel_rfl
theorem g_track_neighbors : Go.Dn.Good PG c_track_neighbors := good (gam []) [] [] [] [] 8 gam_nil so_nil (fnOK_of (by kernel_rfl)) rfl rfl (e_track_neighbors wv)
noncomputable def t_track_Valid_L0 [W] (s : (HP Int (HP (List (Int × Int)) (HP Int (HP Int (HP Int (HP Bool (HP (List (Int × Int)) Unit)))))))) : Option (Nx (HP Int (HP (List (Int × Int)) (HP Int (HP Int (HP Int (HP Bool (HP (List (Int × Int)) Unit))))))) (Unit ⊕ (HP Int (HP Int (HP Bool (HP (List (Int × Int)) Unit)))))) :=
  br (cm .lss s.tl.tl.tl.hd s.tl.tl.hd) (ge s.tl.hd s.tl.tl.tl.hd fun v0 =>
  call c_track_onGrid ((v0.1, v0.2) : (Int × Int)) fun (v1 : Bool) =>
  br (nt v1) (some (.out (.inl ())))
  (br (cm .gtr s.tl.tl.tl.hd 0) (ge s.tl.tl.tl.tl.tl.tl.hd (ar .sub .i64 s.tl.tl.tl.hd 1) fun v2 =>
  call c_track_neighbors (((v2.1, v2.2), (v0.1, v0.2)) : ((Int × Int) × (Int × Int))) fun (v3 : Bool) =>
  br (nt v3) (some (.out (.inl ())))
  (some (.go ⟨s.hd, ⟨s.tl.hd, ⟨s.tl.tl.hd, ⟨(ar .add .i64 s.tl.tl.tl.hd 1), ⟨s.tl.tl.tl.tl.hd, ⟨s.tl.tl.tl.tl.tl.hd, ⟨s.tl.tl.tl.tl.tl.tl.hd, ()⟩⟩⟩⟩⟩⟩⟩)))
  (some (.go ⟨s.hd, ⟨s.tl.hd, ⟨s.tl.tl.hd, ⟨(ar .add .i64 s.tl.tl.tl.hd 1), ⟨s.tl.tl.tl.tl.hd, ⟨s.tl.tl.tl.tl.tl.hd, ⟨s.tl.tl.tl.tl.tl.tl.hd, ()⟩⟩⟩⟩⟩⟩⟩))))
  (some (.out (.inr ⟨s.hd, ⟨s.tl.tl.tl.tl.hd, ⟨s.tl.tl.tl.tl.tl.hd, ⟨s.tl.tl.tl.tl.tl.tl.hd, ()⟩⟩⟩⟩)))
noncomputable def t_track_Valid [W] (a : (Int × (Bool × (List (Int × Int))))) : Option Bool :=
  br (cm .lss a.1 1) (some false)
  (br (cm .gtr a.1 7) (some false)
  (br (cm .lss (ln a.2.2) 1) (some false)
  (br (cm .gtr (ln a.2.2) 65536) (some false)
  (loop t_track_Valid_L0 ⟨(ln a.2.2), ⟨a.2.2, ⟨(ln a.2.2), ⟨0, ⟨a.1, ⟨a.2.1, ⟨a.2.2, ()⟩⟩⟩⟩⟩⟩⟩ fun v4 =>
  match v4 with
  | .inl v5 => (some false)
  | .inr v6 => (br (nt v6.tl.tl.hd) (some true)
  (br (cm .eql v6.hd 1) (some true)
  (ge v6.tl.tl.tl.hd (ar .sub .i64 v6.hd 1) fun v7 =>
  ge v6.tl.tl.tl.hd 0 fun v8 =>
  call c_track_neighbors (((v7.1, v7.2), (v8.1, v8.2)) : ((Int × Int) × (Int × Int))) fun (v9 : Bool) =>
  some v9)))))))
noncomputable def c_track_Valid : Ctr := ⟨48, [(.ag, (.p I (.p .bool (.ls (.p I I)))))], [(false, .bool)], @t_track_Valid wv⟩
theorem e_track_Valid (w : W) (a) : fnD (dW w) (cxO (gam [(73, c_track_onGrid), (74, c_track_neighbors)]) [] [] [] []) 8 48 [(.ag, (.p I (.p .bool (.ls (.p I I)))))] [(false, .bool)] a = @t_track_Valid w a := by kernel_rfl
theorem g_track_Valid : Go.Dn.Good PG c_track_Valid := good (gam [(73, c_track_onGrid), (74, c_track_neighbors)]) [] [] [] [] 8 (gam_cons g_track_onGrid (gam_cons g_track_neighbors gam_nil)) so_nil (fnOK_of (by kernel_rfl)) rfl rfl (e_track_Valid wv)
noncomputable def t_track_Cover_L0 [W] (s : (HP (List (Int × (Bool × (List (Int × Int))))) (HP Int (HP Int (HP (List (Int × Int)) Unit))))) : Option (Nx (HP (List (Int × (Bool × (List (Int × Int))))) (HP Int (HP Int (HP (List (Int × Int)) Unit)))) (HP (List (Int × Int)) Unit)) :=
  br (cm .lss s.tl.tl.hd s.tl.hd) (ge s.hd s.tl.tl.hd fun v0 =>
  call c_track_Valid ((v0.1, (v0.2.1, v0.2.2)) : (Int × (Bool × (List (Int × Int))))) fun (v1 : Bool) =>
  br v1 (gd (ft 16 (pl (ln s.tl.tl.tl.hd) (ln v0.2.2))) <|
  some (.go ⟨s.hd, ⟨s.tl.hd, ⟨(ar .add .i64 s.tl.tl.hd 1), ⟨(ap s.tl.tl.tl.hd v0.2.2), ()⟩⟩⟩⟩))
  (some (.go ⟨s.hd, ⟨s.tl.hd, ⟨(ar .add .i64 s.tl.tl.hd 1), ⟨s.tl.tl.tl.hd, ()⟩⟩⟩⟩)))
  (some (.out ⟨s.tl.tl.tl.hd, ()⟩))
noncomputable def t_track_Cover [W] (a : (List (Int × (Bool × (List (Int × Int)))))) : Option (List (Int × (List (Int × Int)))) :=
  loop t_track_Cover_L0 ⟨a, ⟨(ln a), ⟨0, ⟨[], ()⟩⟩⟩⟩ fun v2 =>
  call c_region_Of (v2.hd : (List (Int × Int))) fun (v3 : ((List (Int × (List (Int × Int)))) × Int)) =>
  some v3.1
noncomputable def c_track_Cover : Ctr := ⟨23, [(.one, (.ls (.p I (.p .bool (.ls (.p I I))))))], [(true, (.ls (.p I (.ls (.p I I)))))], @t_track_Cover wv⟩
theorem e_track_Cover (w : W) (a) : fnD (dW w) (cxO (gam [(48, c_track_Valid), (35, c_region_Of)]) [] [] [] []) 8 23 [(.one, (.ls (.p I (.p .bool (.ls (.p I I))))))] [(true, (.ls (.p I (.ls (.p I I)))))] a = @t_track_Cover w a := by kernel_rfl
theorem g_track_Cover : Go.Dn.Good PG c_track_Cover := good (gam [(48, c_track_Valid), (35, c_region_Of)]) [] [] [] [] 8 (gam_cons g_track_Valid (gam_cons g_region_Of gam_nil)) so_nil (fnOK_of (by kernel_rfl)) rfl rfl (e_track_Cover wv)
noncomputable def t_runs_join_L0 [W] (s : (HP (List (Int × Int)) (HP Int (HP Int (HP (List (Int × Int)) Unit))))) : Option (Nx (HP (List (Int × Int)) (HP Int (HP Int (HP (List (Int × Int)) Unit)))) (HP (List (Int × Int)) Unit)) :=
  br (cm .lss s.tl.tl.hd s.tl.hd) (ge s.hd s.tl.tl.hd fun v0 =>
  br (cm .geq (ar .sub .i64 (ln s.tl.tl.tl.hd) 1) 0) (gd (ib (ar .sub .i64 (ln s.tl.tl.tl.hd) 1) (ln s.tl.tl.tl.hd)) <|
  ge s.tl.tl.tl.hd (ar .sub .i64 (ln s.tl.tl.tl.hd) 1) fun v1 =>
  br (cm .leq v0.1 v1.2) (gd (ib (ar .sub .i64 (ln s.tl.tl.tl.hd) 1) (ln s.tl.tl.tl.hd)) <|
  ge s.tl.tl.tl.hd (ar .sub .i64 (ln s.tl.tl.tl.hd) 1) fun v2 =>
  gd (ib (ar .sub .i64 (ln s.tl.tl.tl.hd) 1) (ln s.tl.tl.tl.hd)) <|
  ge s.tl.tl.tl.hd (ar .sub .i64 (ln s.tl.tl.tl.hd) 1) fun v3 =>
  some (.go ⟨s.hd, ⟨s.tl.hd, ⟨(ar .add .i64 s.tl.tl.hd 1), ⟨(st s.tl.tl.tl.hd (ar .sub .i64 (ln s.tl.tl.tl.hd) 1) (v3.1, (mx v2.2 v0.2))), ()⟩⟩⟩⟩))
  (gd (ft 16 (pl (ln s.tl.tl.tl.hd) 1)) <|
  some (.go ⟨s.hd, ⟨s.tl.hd, ⟨(ar .add .i64 s.tl.tl.hd 1), ⟨(ap s.tl.tl.tl.hd ((v0.1, v0.2) :: [])), ()⟩⟩⟩⟩)))
  (gd (ft 16 (pl (ln s.tl.tl.tl.hd) 1)) <|
  some (.go ⟨s.hd, ⟨s.tl.hd, ⟨(ar .add .i64 s.tl.tl.hd 1), ⟨(ap s.tl.tl.tl.hd ((v0.1, v0.2) :: [])), ()⟩⟩⟩⟩)))
  (some (.out ⟨s.tl.tl.tl.hd, ()⟩))
noncomputable def t_runs_join [W] (a : (List (Int × Int))) : Option (List (Int × Int)) :=
  loop t_runs_join_L0 ⟨a, ⟨(ln a), ⟨0, ⟨[], ()⟩⟩⟩⟩ fun v4 =>
  some v4.hd
noncomputable def c_runs_join : Ctr := ⟨118, [(.one, (.ls (.p I I)))], [(false, (.ls (.p I I)))], @t_runs_join wv⟩
theorem e_runs_join (w : W) (a) : fnD (dW w) (cxO (gam []) [] [] [] []) 8 118 [(.one, (.ls (.p I I)))] [(false, (.ls (.p I I)))] a = @t_runs_join w a := by kernel_rfl
theorem g_runs_join : Go.Dn.Good PG c_runs_join := good (gam []) [] [] [] [] 8 gam_nil so_nil (fnOK_of (by kernel_rfl)) rfl rfl (e_runs_join wv)
noncomputable def t_runs_Norm_L0 [W] (s : (HP (List (Int × Int)) (HP Int (HP Int (HP (List (Int × Int)) Unit))))) : Option (Nx (HP (List (Int × Int)) (HP Int (HP Int (HP (List (Int × Int)) Unit)))) ((HP Int Unit) ⊕ (HP (List (Int × Int)) Unit))) :=
  br (cm .lss s.tl.tl.hd s.tl.hd) (ge s.hd s.tl.tl.hd fun v0 =>
  br (cm .leq v0.2 v0.1) (some (.go ⟨s.hd, ⟨s.tl.hd, ⟨(ar .add .i64 s.tl.tl.hd 1), ⟨s.tl.tl.tl.hd, ()⟩⟩⟩⟩))
  (call c_runs_fits ((v0.1, v0.2) : (Int × Int)) fun (v1 : Bool) =>
  br (nt v1) (some (.out (.inl ⟨8, ()⟩)))
  (gd (ft 16 (pl (ln s.tl.tl.tl.hd) 1)) <|
  some (.go ⟨s.hd, ⟨s.tl.hd, ⟨(ar .add .i64 s.tl.tl.hd 1), ⟨(ap s.tl.tl.tl.hd ((v0.1, v0.2) :: [])), ()⟩⟩⟩⟩))))
  (some (.out (.inr ⟨s.tl.tl.tl.hd, ()⟩)))
noncomputable def t_runs_Norm [W] (a : (List (Int × Int))) : Option ((List (Int × Int)) × Int) :=
  loop t_runs_Norm_L0 ⟨a, ⟨(ln a), ⟨0, ⟨[], ()⟩⟩⟩⟩ fun v2 =>
  match v2 with
  | .inl v3 => (some ([], v3.hd))
  | .inr v4 => (call c_s116_117 (v4.hd : (List (Int × Int))) fun (v5 : (List (Int × Int))) =>
  call c_runs_join (v5 : (List (Int × Int))) fun (v6 : (List (Int × Int))) =>
  some (v6, 0))
noncomputable def c_runs_Norm : Ctr := ⟨93, [(.one, (.ls (.p I I)))], [(false, (.ls (.p I I))), (false, I)], @t_runs_Norm wv⟩
theorem e_runs_Norm (w : W) (a) : fnD (dW w) (cxO (gam [(79, c_runs_fits), (118, c_runs_join)]) [] [] [s116_117] []) 8 93 [(.one, (.ls (.p I I)))] [(false, (.ls (.p I I))), (false, I)] a = @t_runs_Norm w a := by kernel_rfl
theorem g_runs_Norm : Go.Dn.Good PG c_runs_Norm := good (gam [(79, c_runs_fits), (118, c_runs_join)]) [] [] [s116_117] [] 8 (gam_cons g_runs_fits (gam_cons g_runs_join gam_nil)) (so_cons g_s116_117 so_nil) (fnOK_of (by kernel_rfl)) rfl rfl (e_runs_Norm wv)
noncomputable def t_hatch_spread_L1 [W] (s : (HP Int (HP Int (HP (List (Int × (List (Int × Int)))) (HP Int (HP Int (HP (List (Int × Int)) (HP Int (HP Int (HP (List (Int × Int)) Unit)))))))))) : Option (Nx (HP Int (HP Int (HP (List (Int × (List (Int × Int)))) (HP Int (HP Int (HP (List (Int × Int)) (HP Int (HP Int (HP (List (Int × Int)) Unit))))))))) (HP Int (HP Int (HP (List (Int × (List (Int × Int)))) (HP Int (HP Int (HP (List (Int × Int)) Unit))))))) :=
  br (cm .lss s.tl.tl.tl.tl.tl.tl.tl.hd s.tl.tl.tl.tl.tl.tl.hd) (ge s.tl.tl.tl.tl.tl.hd s.tl.tl.tl.tl.tl.tl.tl.hd fun v1 =>
  gd (ft 16 (pl (ln s.tl.tl.tl.tl.tl.tl.tl.tl.hd) 1)) <|
  some (.go ⟨s.hd, ⟨s.tl.hd, ⟨s.tl.tl.hd, ⟨s.tl.tl.tl.hd, ⟨s.tl.tl.tl.tl.hd, ⟨s.tl.tl.tl.tl.tl.hd, ⟨s.tl.tl.tl.tl.tl.tl.hd, ⟨(ar .add .i64 s.tl.tl.tl.tl.tl.tl.tl.hd 1), ⟨(ap s.tl.tl.tl.tl.tl.tl.tl.tl.hd (((mx (ar .sub .i64 v1.1 s.tl.hd) (-4096)), (mn (ar .add .i64 v1.2 s.tl.hd) 4096)) :: [])), ()⟩⟩⟩⟩⟩⟩⟩⟩⟩))
  (some (.out ⟨s.hd, ⟨s.tl.hd, ⟨s.tl.tl.hd, ⟨s.tl.tl.tl.hd, ⟨s.tl.tl.tl.tl.hd, ⟨s.tl.tl.tl.tl.tl.tl.tl.tl.hd, ()⟩⟩⟩⟩⟩⟩))
noncomputable def t_hatch_spread_L0 [W] (s : (HP Int (HP Int (HP (List (Int × (List (Int × Int)))) (HP Int (HP Int (HP (List (Int × Int)) Unit))))))) : Option (Nx (HP Int (HP Int (HP (List (Int × (List (Int × Int)))) (HP Int (HP Int (HP (List (Int × Int)) Unit)))))) (HP (List (Int × Int)) Unit)) :=
  br (cm .lss s.tl.tl.tl.tl.hd s.tl.tl.tl.hd) (ge s.tl.tl.hd s.tl.tl.tl.tl.hd fun v0 =>
  br (cm .lss v0.1 (ar .sub .i64 s.hd s.tl.hd)) (some (.go ⟨s.hd, ⟨s.tl.hd, ⟨s.tl.tl.hd, ⟨s.tl.tl.tl.hd, ⟨(ar .add .i64 s.tl.tl.tl.tl.hd 1), ⟨s.tl.tl.tl.tl.tl.hd, ()⟩⟩⟩⟩⟩⟩))
  (br (cm .gtr v0.1 (ar .add .i64 s.hd s.tl.hd)) (some (.go ⟨s.hd, ⟨s.tl.hd, ⟨s.tl.tl.hd, ⟨s.tl.tl.tl.hd, ⟨(ar .add .i64 s.tl.tl.tl.tl.hd 1), ⟨s.tl.tl.tl.tl.tl.hd, ()⟩⟩⟩⟩⟩⟩))
  (loop t_hatch_spread_L1 ⟨s.hd, ⟨s.tl.hd, ⟨s.tl.tl.hd, ⟨s.tl.tl.tl.hd, ⟨s.tl.tl.tl.tl.hd, ⟨v0.2, ⟨(ln v0.2), ⟨0, ⟨s.tl.tl.tl.tl.tl.hd, ()⟩⟩⟩⟩⟩⟩⟩⟩⟩ fun v2 =>
  some (.go ⟨v2.hd, ⟨v2.tl.hd, ⟨v2.tl.tl.hd, ⟨v2.tl.tl.tl.hd, ⟨(ar .add .i64 v2.tl.tl.tl.tl.hd 1), ⟨v2.tl.tl.tl.tl.tl.hd, ()⟩⟩⟩⟩⟩⟩))))
  (some (.out ⟨s.tl.tl.tl.tl.tl.hd, ()⟩))
noncomputable def t_hatch_spread [W] (a : ((List (Int × (List (Int × Int)))) × (Int × Int))) : Option (List (Int × Int)) :=
  loop t_hatch_spread_L0 ⟨a.2.1, ⟨a.2.2, ⟨a.1, ⟨(ln a.1), ⟨0, ⟨[], ()⟩⟩⟩⟩⟩⟩ fun v3 =>
  call c_runs_Norm (v3.hd : (List (Int × Int))) fun (v4 : ((List (Int × Int)) × Int)) =>
  some v4.1
noncomputable def c_hatch_spread : Ctr := ⟨71, [(.ag, (.ls (.p I (.ls (.p I I))))), (.one, I), (.one, I)], [(false, (.ls (.p I I)))], @t_hatch_spread wv⟩
theorem e_hatch_spread (w : W) (a) : fnD (dW w) (cxO (gam [(93, c_runs_Norm)]) [] [] [] []) 8 71 [(.ag, (.ls (.p I (.ls (.p I I))))), (.one, I), (.one, I)] [(false, (.ls (.p I I)))] a = @t_hatch_spread w a := by kernel_rfl
theorem g_hatch_spread : Go.Dn.Good PG c_hatch_spread := good (gam [(93, c_runs_Norm)]) [] [] [] [] 8 (gam_cons g_runs_Norm gam_nil) so_nil (fnOK_of (by kernel_rfl)) rfl rfl (e_hatch_spread wv)
noncomputable def t_runs_bounds_over [W] (a : ((List (Int × Int)) × Int)) : Option Bool :=
  some (cm .eql a.2 (ar .mul .i64 2 (ln a.1)))
noncomputable def c_runs_bounds_over : Ctr := ⟨112, [(.rp, (.p (.ls (.p I I)) I))], [(false, .bool)], @t_runs_bounds_over wv⟩
theorem e_runs_bounds_over (w : W) (a) : fnD (dW w) (cxO (gam []) [] [] [] []) 8 112 [(.rp, (.p (.ls (.p I I)) I))] [(false, .bool)] a = @t_runs_bounds_over w a := by kernel_rfl
theorem g_runs_bounds_over : Go.Dn.Good PG c_runs_bounds_over := good (gam []) [] [] [] [] 8 gam_nil so_nil (fnOK_of (by kernel_rfl)) rfl rfl (e_runs_bounds_over wv)
noncomputable def t_runs_bounds_inside [W] (a : ((List (Int × Int)) × Int)) : Option Bool :=
  gd (cm .neq 2 0) <|
  some (cm .eql (ar .rem .i64 a.2 2) 1)
noncomputable def c_runs_bounds_inside : Ctr := ⟨115, [(.rp, (.p (.ls (.p I I)) I))], [(false, .bool)], @t_runs_bounds_inside wv⟩
theorem e_runs_bounds_inside (w : W) (a) : fnD (dW w) (cxO (gam []) [] [] [] []) 8 115 [(.rp, (.p (.ls (.p I I)) I))] [(false, .bool)] a = @t_runs_bounds_inside w a := by kernel_rfl
theorem g_runs_bounds_inside : Go.Dn.Good PG c_runs_bounds_inside := good (gam []) [] [] [] [] 8 gam_nil so_nil (fnOK_of (by kernel_rfl)) rfl rfl (e_runs_bounds_inside wv)
noncomputable def t_runs_bounds_next [W] (a : ((List (Int × Int)) × Int)) : Option Int :=
  call c_runs_bounds_over (a : ((List (Int × Int)) × Int)) fun (v0 : Bool) =>
  br v0 (some 1048577)
  (call c_runs_bounds_inside (a : ((List (Int × Int)) × Int)) fun (v1 : Bool) =>
  br v1 (gd (cm .neq 2 0) <|
  ge a.1 (ar .quo .i64 a.2 2) fun v2 =>
  some v2.2)
  (gd (cm .neq 2 0) <|
  ge a.1 (ar .quo .i64 a.2 2) fun v3 =>
  some v3.1))
noncomputable def c_runs_bounds_next : Ctr := ⟨113, [(.rp, (.p (.ls (.p I I)) I))], [(false, I)], @t_runs_bounds_next wv⟩
theorem e_runs_bounds_next (w : W) (a) : fnD (dW w) (cxO (gam [(112, c_runs_bounds_over), (115, c_runs_bounds_inside)]) [] [] [] []) 8 113 [(.rp, (.p (.ls (.p I I)) I))] [(false, I)] a = @t_runs_bounds_next w a := by kernel_rfl
theorem g_runs_bounds_next : Go.Dn.Good PG c_runs_bounds_next := good (gam [(112, c_runs_bounds_over), (115, c_runs_bounds_inside)]) [] [] [] [] 8 (gam_cons g_runs_bounds_over (gam_cons g_runs_bounds_inside gam_nil)) so_nil (fnOK_of (by kernel_rfl)) rfl rfl (e_runs_bounds_next wv)
noncomputable def t_runs_Subtract_J1 [W] (s : (HP Bool (HP (List (Int × Int)) (HP Int (HP (List (Int × Int)) (HP Int (HP (List (Int × Int)) Unit))))))) : Option ((HP Bool (HP (List (Int × Int)) (HP Int (HP (List (Int × Int)) (HP Int (HP (List (Int × Int)) Unit)))))) ⊕ (HP (List (Int × Int)) Unit)) :=
  call c_runs_bounds_over ((s.tl.hd, s.tl.tl.hd) : ((List (Int × Int)) × Int)) fun (v2 : Bool) =>
  br (nt v2) (some ((.inl ⟨s.hd, ⟨s.tl.hd, ⟨s.tl.tl.hd, ⟨s.tl.tl.tl.hd, ⟨s.tl.tl.tl.tl.hd, ⟨s.tl.tl.tl.tl.tl.hd, ()⟩⟩⟩⟩⟩⟩)))
  (call c_runs_bounds_over ((s.tl.tl.tl.hd, s.tl.tl.tl.tl.hd) : ((List (Int × Int)) × Int)) fun (v3 : Bool) =>
  br (nt v3) (some ((.inl ⟨s.hd, ⟨s.tl.hd, ⟨s.tl.tl.hd, ⟨s.tl.tl.tl.hd, ⟨s.tl.tl.tl.tl.hd, ⟨s.tl.tl.tl.tl.tl.hd, ()⟩⟩⟩⟩⟩⟩)))
  (some ((.inr ⟨s.tl.tl.tl.tl.tl.hd, ()⟩))))
noncomputable def t_runs_Subtract_J2 [W] (v5 : (HP Bool (HP (List (Int × Int)) (HP Int (HP (List (Int × Int)) (HP Int (HP (List (Int × Int)) Unit))))))) (v6 : Int) (v7 : Int) : Option (HP Bool (HP Int (HP (List (Int × Int)) (HP Int (HP (List (Int × Int)) (HP Int (HP (List (Int × Int)) Unit))))))) :=
  call c_runs_bounds_next ((v5.tl.hd, v5.tl.tl.hd) : ((List (Int × Int)) × Int)) fun (v8 : Int) =>
  br (cm .eql v8 (mn v6 v7)) (some (⟨v5.hd, ⟨(mn v6 v7), ⟨v5.tl.hd, ⟨(ar .add .i64 v5.tl.tl.hd 1), ⟨v5.tl.tl.tl.hd, ⟨v5.tl.tl.tl.tl.hd, ⟨v5.tl.tl.tl.tl.tl.hd, ()⟩⟩⟩⟩⟩⟩⟩))
  (some (⟨v5.hd, ⟨(mn v6 v7), ⟨v5.tl.hd, ⟨v5.tl.tl.hd, ⟨v5.tl.tl.tl.hd, ⟨v5.tl.tl.tl.tl.hd, ⟨v5.tl.tl.tl.tl.tl.hd, ()⟩⟩⟩⟩⟩⟩⟩))
noncomputable def t_runs_Subtract_J3 [W] (v9 : (HP Bool (HP Int (HP (List (Int × Int)) (HP Int (HP (List (Int × Int)) (HP Int (HP (List (Int × Int)) Unit)))))))) : Option (HP Bool (HP Int (HP (List (Int × Int)) (HP Int (HP (List (Int × Int)) (HP Int (HP (List (Int × Int)) Unit))))))) :=
  call c_runs_bounds_next ((v9.tl.tl.tl.tl.hd, v9.tl.tl.tl.tl.tl.hd) : ((List (Int × Int)) × Int)) fun (v10 : Int) =>
  br (cm .eql v10 v9.tl.hd) (some (⟨v9.hd, ⟨v9.tl.hd, ⟨v9.tl.tl.hd, ⟨v9.tl.tl.tl.hd, ⟨v9.tl.tl.tl.tl.hd, ⟨(ar .add .i64 v9.tl.tl.tl.tl.tl.hd 1), ⟨v9.tl.tl.tl.tl.tl.tl.hd, ()⟩⟩⟩⟩⟩⟩⟩))
  (some (⟨v9.hd, ⟨v9.tl.hd, ⟨v9.tl.tl.hd, ⟨v9.tl.tl.tl.hd, ⟨v9.tl.tl.tl.tl.hd, ⟨v9.tl.tl.tl.tl.tl.hd, ⟨v9.tl.tl.tl.tl.tl.tl.hd, ()⟩⟩⟩⟩⟩⟩⟩))
noncomputable def t_runs_Subtract_J4 [W] (v11 : (HP Bool (HP Int (HP (List (Int × Int)) (HP Int (HP (List (Int × Int)) (HP Int (HP (List (Int × Int)) Unit)))))))) : Option (HP Bool (HP Int (HP Bool (HP (List (Int × Int)) (HP Int (HP (List (Int × Int)) (HP Int (HP (List (Int × Int)) Unit)))))))) :=
  call c_runs_bounds_inside ((v11.tl.tl.hd, v11.tl.tl.tl.hd) : ((List (Int × Int)) × Int)) fun (v12 : Bool) =>
  call c_runs_bounds_inside ((v11.tl.tl.tl.tl.hd, v11.tl.tl.tl.tl.tl.hd) : ((List (Int × Int)) × Int)) fun (v13 : Bool) =>
  br v12 (some (⟨v11.hd, ⟨v11.tl.hd, ⟨(nt v13), ⟨v11.tl.tl.hd, ⟨v11.tl.tl.tl.hd, ⟨v11.tl.tl.tl.tl.hd, ⟨v11.tl.tl.tl.tl.tl.hd, ⟨v11.tl.tl.tl.tl.tl.tl.hd, ()⟩⟩⟩⟩⟩⟩⟩⟩))
  (some (⟨v11.hd, ⟨v11.tl.hd, ⟨false, ⟨v11.tl.tl.hd, ⟨v11.tl.tl.tl.hd, ⟨v11.tl.tl.tl.tl.hd, ⟨v11.tl.tl.tl.tl.tl.hd, ⟨v11.tl.tl.tl.tl.tl.tl.hd, ()⟩⟩⟩⟩⟩⟩⟩⟩))
noncomputable def t_runs_Subtract_J5 [W] (v14 : (HP Bool (HP Int (HP Bool (HP (List (Int × Int)) (HP Int (HP (List (Int × Int)) (HP Int (HP (List (Int × Int)) Unit))))))))) : Option (HP Bool (HP (List (Int × Int)) (HP Int (HP (List (Int × Int)) (HP Int (HP (List (Int × Int)) Unit)))))) :=
  br v14.tl.tl.hd (br (nt v14.hd) (gd (ft 16 (pl (ln v14.tl.tl.tl.tl.tl.tl.tl.hd) 1)) <|
  some (⟨v14.tl.tl.hd, ⟨v14.tl.tl.tl.hd, ⟨v14.tl.tl.tl.tl.hd, ⟨v14.tl.tl.tl.tl.tl.hd, ⟨v14.tl.tl.tl.tl.tl.tl.hd, ⟨(ap v14.tl.tl.tl.tl.tl.tl.tl.hd ((v14.tl.hd, 0) :: [])), ()⟩⟩⟩⟩⟩⟩))
  (br (nt v14.tl.tl.hd) (br v14.hd (gd (ib (ar .sub .i64 (ln v14.tl.tl.tl.tl.tl.tl.tl.hd) 1) (ln v14.tl.tl.tl.tl.tl.tl.tl.hd)) <|
  ge v14.tl.tl.tl.tl.tl.tl.tl.hd (ar .sub .i64 (ln v14.tl.tl.tl.tl.tl.tl.tl.hd) 1) fun v15 =>
  some (⟨v14.tl.tl.hd, ⟨v14.tl.tl.tl.hd, ⟨v14.tl.tl.tl.tl.hd, ⟨v14.tl.tl.tl.tl.tl.hd, ⟨v14.tl.tl.tl.tl.tl.tl.hd, ⟨(st v14.tl.tl.tl.tl.tl.tl.tl.hd (ar .sub .i64 (ln v14.tl.tl.tl.tl.tl.tl.tl.hd) 1) (v15.1, v14.tl.hd)), ()⟩⟩⟩⟩⟩⟩))
  (some (⟨v14.tl.tl.hd, ⟨v14.tl.tl.tl.hd, ⟨v14.tl.tl.tl.tl.hd, ⟨v14.tl.tl.tl.tl.tl.hd, ⟨v14.tl.tl.tl.tl.tl.tl.hd, ⟨v14.tl.tl.tl.tl.tl.tl.tl.hd, ()⟩⟩⟩⟩⟩⟩)))
  (some (⟨v14.tl.tl.hd, ⟨v14.tl.tl.tl.hd, ⟨v14.tl.tl.tl.tl.hd, ⟨v14.tl.tl.tl.tl.tl.hd, ⟨v14.tl.tl.tl.tl.tl.tl.hd, ⟨v14.tl.tl.tl.tl.tl.tl.tl.hd, ()⟩⟩⟩⟩⟩⟩))))
  (br (nt v14.tl.tl.hd) (br v14.hd (gd (ib (ar .sub .i64 (ln v14.tl.tl.tl.tl.tl.tl.tl.hd) 1) (ln v14.tl.tl.tl.tl.tl.tl.tl.hd)) <|
  ge v14.tl.tl.tl.tl.tl.tl.tl.hd (ar .sub .i64 (ln v14.tl.tl.tl.tl.tl.tl.tl.hd) 1) fun v16 =>
  some (⟨v14.tl.tl.hd, ⟨v14.tl.tl.tl.hd, ⟨v14.tl.tl.tl.tl.hd, ⟨v14.tl.tl.tl.tl.tl.hd, ⟨v14.tl.tl.tl.tl.tl.tl.hd, ⟨(st v14.tl.tl.tl.tl.tl.tl.tl.hd (ar .sub .i64 (ln v14.tl.tl.tl.tl.tl.tl.tl.hd) 1) (v16.1, v14.tl.hd)), ()⟩⟩⟩⟩⟩⟩))
  (some (⟨v14.tl.tl.hd, ⟨v14.tl.tl.tl.hd, ⟨v14.tl.tl.tl.tl.hd, ⟨v14.tl.tl.tl.tl.tl.hd, ⟨v14.tl.tl.tl.tl.tl.tl.hd, ⟨v14.tl.tl.tl.tl.tl.tl.tl.hd, ()⟩⟩⟩⟩⟩⟩)))
  (some (⟨v14.tl.tl.hd, ⟨v14.tl.tl.tl.hd, ⟨v14.tl.tl.tl.tl.hd, ⟨v14.tl.tl.tl.tl.tl.hd, ⟨v14.tl.tl.tl.tl.tl.tl.hd, ⟨v14.tl.tl.tl.tl.tl.tl.tl.hd, ()⟩⟩⟩⟩⟩⟩)))
noncomputable def t_runs_Subtract_L0 [W] (s : (HP Bool (HP (List (Int × Int)) (HP Int (HP (List (Int × Int)) (HP Int (HP (List (Int × Int)) Unit))))))) : Option (Nx (HP Bool (HP (List (Int × Int)) (HP Int (HP (List (Int × Int)) (HP Int (HP (List (Int × Int)) Unit)))))) (HP (List (Int × Int)) Unit)) :=
  join (t_runs_Subtract_J1 s) fun v4 =>
  match v4 with
  | .inl v5 => (call c_runs_bounds_next ((v5.tl.hd, v5.tl.tl.hd) : ((List (Int × Int)) × Int)) fun (v6 : Int) =>
  call c_runs_bounds_next ((v5.tl.tl.tl.hd, v5.tl.tl.tl.tl.hd) : ((List (Int × Int)) × Int)) fun (v7 : Int) =>
  join (t_runs_Subtract_J2 v5 v6 v7) fun v9 =>
  join (t_runs_Subtract_J3 v9) fun v11 =>
  join (t_runs_Subtract_J4 v11) fun v14 =>
  join (t_runs_Subtract_J5 v14) fun v17 =>
  some (.go ⟨v17.hd, ⟨v17.tl.hd, ⟨v17.tl.tl.hd, ⟨v17.tl.tl.tl.hd, ⟨v17.tl.tl.tl.tl.hd, ⟨v17.tl.tl.tl.tl.tl.hd, ()⟩⟩⟩⟩⟩⟩))
  | .inr v18 => (some (.out ⟨v18.hd, ()⟩))
noncomputable def t_runs_Subtract [W] (a : ((List (Int × Int)) × (List (Int × Int)))) : Option (List (Int × Int)) :=
  call c_runs_Valid (a.1 : (List (Int × Int))) fun (v0 : Bool) =>
  br (nt v0) (some [])
  (call c_runs_Valid (a.2 : (List (Int × Int))) fun (v1 : Bool) =>
  br (nt v1) (some [])
  (loop t_runs_Subtract_L0 ⟨false, ⟨a.1, ⟨0, ⟨a.2, ⟨0, ⟨[], ()⟩⟩⟩⟩⟩⟩ fun v19 =>
  some v19.hd))
noncomputable def c_runs_Subtract : Ctr := ⟨70, [(.one, (.ls (.p I I))), (.one, (.ls (.p I I)))], [(false, (.ls (.p I I)))], @t_runs_Subtract wv⟩
theorem e_runs_Subtract (w : W) (a) : fnD (dW w) (cxO (gam [(112, c_runs_bounds_over), (113, c_runs_bounds_next), (115, c_runs_bounds_inside), (53, c_runs_Valid)]) [] [] [] [32768007, 32768009, 32768010, 32768011, 32768015]) 8 70 [(.one, (.ls (.p I I))), (.one, (.ls (.p I I)))] [(false, (.ls (.p I I)))] a = @t_runs_Subtract w a := by kernel_rfl
theorem g_runs_Subtract : Go.Dn.Good PG c_runs_Subtract := good (gam [(112, c_runs_bounds_over), (113, c_runs_bounds_next), (115, c_runs_bounds_inside), (53, c_runs_Valid)]) [] [] [] [32768007, 32768009, 32768010, 32768011, 32768015] 8 (gam_cons g_runs_bounds_over (gam_cons g_runs_bounds_next (gam_cons g_runs_bounds_inside (gam_cons g_runs_Valid gam_nil)))) so_nil (fnOK_of (by kernel_rfl)) rfl rfl (e_runs_Subtract wv)
noncomputable def t_hatch_beyond_L0 [W] (s : (HP Int (HP (List (Int × (List (Int × Int)))) (HP Int (HP Int (HP (List (Int × (List (Int × Int)))) (HP (List (Int × (List (Int × Int)))) Unit))))))) : Option (Nx (HP Int (HP (List (Int × (List (Int × Int)))) (HP Int (HP Int (HP (List (Int × (List (Int × Int)))) (HP (List (Int × (List (Int × Int)))) Unit)))))) (HP (List (Int × (List (Int × Int)))) Unit)) :=
  br (cm .lss s.tl.tl.tl.hd s.tl.tl.hd) (ge s.tl.hd s.tl.tl.tl.hd fun v0 =>
  call c_hatch_spread ((s.tl.tl.tl.tl.hd, (v0.1, s.hd)) : ((List (Int × (List (Int × Int)))) × (Int × Int))) fun (v1 : (List (Int × Int))) =>
  call c_runs_Subtract ((v0.2, v1) : ((List (Int × Int)) × (List (Int × Int)))) fun (v2 : (List (Int × Int))) =>
  br (cm .gtr (ln v2) 0) (gd (ft 32 (pl (ln s.tl.tl.tl.tl.tl.hd) 1)) <|
  some (.go ⟨s.hd, ⟨s.tl.hd, ⟨s.tl.tl.hd, ⟨(ar .add .i64 s.tl.tl.tl.hd 1), ⟨s.tl.tl.tl.tl.hd, ⟨(ap s.tl.tl.tl.tl.tl.hd ((v0.1, v2) :: [])), ()⟩⟩⟩⟩⟩⟩))
  (some (.go ⟨s.hd, ⟨s.tl.hd, ⟨s.tl.tl.hd, ⟨(ar .add .i64 s.tl.tl.tl.hd 1), ⟨s.tl.tl.tl.tl.hd, ⟨s.tl.tl.tl.tl.tl.hd, ()⟩⟩⟩⟩⟩⟩)))
  (some (.out ⟨s.tl.tl.tl.tl.tl.hd, ()⟩))
noncomputable def t_hatch_beyond [W] (a : ((List (Int × (List (Int × Int)))) × ((List (Int × (List (Int × Int)))) × Int))) : Option (List (Int × (List (Int × Int)))) :=
  loop t_hatch_beyond_L0 ⟨a.2.2, ⟨a.1, ⟨(ln a.1), ⟨0, ⟨a.2.1, ⟨[], ()⟩⟩⟩⟩⟩⟩ fun v3 =>
  some v3.hd
noncomputable def c_hatch_beyond : Ctr := ⟨45, [(.ag, (.ls (.p I (.ls (.p I I))))), (.ag, (.ls (.p I (.ls (.p I I))))), (.one, I)], [(true, (.ls (.p I (.ls (.p I I)))))], @t_hatch_beyond wv⟩
theorem e_hatch_beyond (w : W) (a) : fnD (dW w) (cxO (gam [(71, c_hatch_spread), (70, c_runs_Subtract)]) [] [] [] []) 8 45 [(.ag, (.ls (.p I (.ls (.p I I))))), (.ag, (.ls (.p I (.ls (.p I I))))), (.one, I)] [(true, (.ls (.p I (.ls (.p I I)))))] a = @t_hatch_beyond w a := by kernel_rfl
theorem g_hatch_beyond : Go.Dn.Good PG c_hatch_beyond := good (gam [(71, c_hatch_spread), (70, c_runs_Subtract)]) [] [] [] [] 8 (gam_cons g_hatch_spread (gam_cons g_runs_Subtract gam_nil)) so_nil (fnOK_of (by kernel_rfl)) rfl rfl (e_hatch_beyond wv)
end Go.Proofs.YtmiobebagbhffaaGreat
