/- The typed texts of functions, and that they are right. Conditions: none. -/
import Derived.Test.YtmfagdfkpjgeiaaXA
namespace Go.Proofs.Ytmfagdfkpjgeiaa
open Go Go.Vv Go.Dn Go.Dn.W
set_option linter.unusedVariables false
set_option maxRecDepth 100000
noncomputable def t_boundary_Trace_L2 [W] (a:(List (Int×(List (Int×Int))))) (s:(HP (List (Int×Int)) (HP Int (HP (List (Int×(List (Int×Int)))) (HP Int (HP Int (HP (List (Int×Int)) (HP Int (HP Int (HP (List (Int×(List (Int×Int)))) (HP Int (HP (List (Int×Int)) (HP Int (HP Int (HP (List ((Int×Int)×(List Int))) Unit))))))))))))))):Option (Nx (HP (List (Int×Int)) (HP Int (HP (List (Int×(List (Int×Int)))) (HP Int (HP Int (HP (List (Int×Int)) (HP Int (HP Int (HP (List (Int×(List (Int×Int)))) (HP Int (HP (List (Int×Int)) (HP Int (HP Int (HP (List ((Int×Int)×(List Int))) Unit)))))))))))))) (HP (List (Int×Int)) (HP (List (Int×(List (Int×Int)))) (HP Int (HP Int (HP (List (Int×Int)) (HP Int (HP Int (HP (List (Int×(List (Int×Int)))) (HP Int (HP (List (Int×Int)) (HP (List ((Int×Int)×(List Int))) Unit)))))))))))) :=
 br (cm .lss s.tl.hd s.tl.tl.tl.tl.tl.tl.tl.tl.tl.tl.tl.tl.hd) (gd (ft 8 (pl (ln (mg (a:=(.p I I)) (b:=(.ls I)) s.tl.tl.tl.tl.tl.tl.tl.tl.tl.tl.tl.tl.tl.hd (s.tl.hd,s.tl.tl.tl.tl.tl.tl.tl.tl.tl.hd) [])) 1)) <|
 some (.go ⟨s.hd,⟨(ar .add .i64 s.tl.hd 1),⟨s.tl.tl.hd,⟨s.tl.tl.tl.hd,⟨s.tl.tl.tl.tl.hd,⟨s.tl.tl.tl.tl.tl.hd,⟨s.tl.tl.tl.tl.tl.tl.hd,⟨s.tl.tl.tl.tl.tl.tl.tl.hd,⟨s.tl.tl.tl.tl.tl.tl.tl.tl.hd,⟨s.tl.tl.tl.tl.tl.tl.tl.tl.tl.hd,⟨s.tl.tl.tl.tl.tl.tl.tl.tl.tl.tl.hd,⟨s.tl.tl.tl.tl.tl.tl.tl.tl.tl.tl.tl.hd,⟨s.tl.tl.tl.tl.tl.tl.tl.tl.tl.tl.tl.tl.hd,⟨(ms (a:=(.p I I)) (b:=(.ls I)) s.tl.tl.tl.tl.tl.tl.tl.tl.tl.tl.tl.tl.tl.hd (s.tl.hd,s.tl.tl.tl.tl.tl.tl.tl.tl.tl.hd) (ap (mg (a:=(.p I I)) (b:=(.ls I)) s.tl.tl.tl.tl.tl.tl.tl.tl.tl.tl.tl.tl.tl.hd (s.tl.hd,s.tl.tl.tl.tl.tl.tl.tl.tl.tl.hd) []) ((0:Int)::[]))),()⟩⟩⟩⟩⟩⟩⟩⟩⟩⟩⟩⟩⟩⟩))
 (some (.out ⟨s.hd,⟨s.tl.tl.hd,⟨s.tl.tl.tl.hd,⟨s.tl.tl.tl.tl.hd,⟨s.tl.tl.tl.tl.tl.hd,⟨s.tl.tl.tl.tl.tl.tl.hd,⟨s.tl.tl.tl.tl.tl.tl.tl.hd,⟨s.tl.tl.tl.tl.tl.tl.tl.tl.hd,⟨s.tl.tl.tl.tl.tl.tl.tl.tl.tl.hd,⟨s.tl.tl.tl.tl.tl.tl.tl.tl.tl.tl.hd,⟨s.tl.tl.tl.tl.tl.tl.tl.tl.tl.tl.tl.tl.tl.hd,()⟩⟩⟩⟩⟩⟩⟩⟩⟩⟩⟩))
noncomputable def t_boundary_Trace_L1 [W] (a:(List (Int×(List (Int×Int))))) (s:(HP (List (Int×Int)) (HP (List (Int×(List (Int×Int)))) (HP Int (HP Int (HP (List (Int×Int)) (HP Int (HP Int (HP (List (Int×(List (Int×Int)))) (HP Int (HP (List (Int×Int)) (HP (List ((Int×Int)×(List Int))) Unit)))))))))))):Option (Nx (HP (List (Int×Int)) (HP (List (Int×(List (Int×Int)))) (HP Int (HP Int (HP (List (Int×Int)) (HP Int (HP Int (HP (List (Int×(List (Int×Int)))) (HP Int (HP (List (Int×Int)) (HP (List ((Int×Int)×(List Int))) Unit))))))))))) (HP (List (Int×Int)) (HP (List (Int×(List (Int×Int)))) (HP Int (HP Int (HP (List (Int×(List (Int×Int)))) (HP Int (HP (List (Int×Int)) (HP (List ((Int×Int)×(List Int))) Unit))))))))) :=
 br (cm .lss s.tl.tl.tl.tl.tl.tl.hd s.tl.tl.tl.tl.tl.hd) (ge s.tl.tl.tl.tl.hd s.tl.tl.tl.tl.tl.tl.hd fun v4 =>
 loop (t_boundary_Trace_L2 a) ⟨s.hd,⟨v4.1,⟨s.tl.hd,⟨s.tl.tl.hd,⟨s.tl.tl.tl.hd,⟨s.tl.tl.tl.tl.hd,⟨s.tl.tl.tl.tl.tl.hd,⟨s.tl.tl.tl.tl.tl.tl.hd,⟨s.tl.tl.tl.tl.tl.tl.tl.hd,⟨s.tl.tl.tl.tl.tl.tl.tl.tl.hd,⟨s.tl.tl.tl.tl.tl.tl.tl.tl.tl.hd,⟨v4.1,⟨v4.2,⟨s.tl.tl.tl.tl.tl.tl.tl.tl.tl.tl.hd,()⟩⟩⟩⟩⟩⟩⟩⟩⟩⟩⟩⟩⟩⟩ fun v5 =>
 some (.go ⟨v5.hd,⟨v5.tl.hd,⟨v5.tl.tl.hd,⟨v5.tl.tl.tl.hd,⟨v5.tl.tl.tl.tl.hd,⟨v5.tl.tl.tl.tl.tl.hd,⟨(ar .add .i64 v5.tl.tl.tl.tl.tl.tl.hd 1),⟨v5.tl.tl.tl.tl.tl.tl.tl.hd,⟨v5.tl.tl.tl.tl.tl.tl.tl.tl.hd,⟨v5.tl.tl.tl.tl.tl.tl.tl.tl.tl.hd,⟨v5.tl.tl.tl.tl.tl.tl.tl.tl.tl.tl.hd,()⟩⟩⟩⟩⟩⟩⟩⟩⟩⟩⟩))
 (some (.out ⟨s.hd,⟨s.tl.hd,⟨s.tl.tl.hd,⟨s.tl.tl.tl.hd,⟨s.tl.tl.tl.tl.tl.tl.tl.hd,⟨s.tl.tl.tl.tl.tl.tl.tl.tl.hd,⟨s.tl.tl.tl.tl.tl.tl.tl.tl.tl.hd,⟨s.tl.tl.tl.tl.tl.tl.tl.tl.tl.tl.hd,()⟩⟩⟩⟩⟩⟩⟩⟩))
noncomputable def t_boundary_Trace_L4 [W] (a:(List (Int×(List (Int×Int))))) (s:(HP Int (HP (List (Int×(List (Int×Int)))) (HP Int (HP Int (HP (List (Int×Int)) (HP Int (HP Int (HP (List (Int×(List (Int×Int)))) (HP Int (HP (List (Int×Int)) (HP Int (HP Int (HP (List ((Int×Int)×(List Int))) Unit)))))))))))))):Option (Nx (HP Int (HP (List (Int×(List (Int×Int)))) (HP Int (HP Int (HP (List (Int×Int)) (HP Int (HP Int (HP (List (Int×(List (Int×Int)))) (HP Int (HP (List (Int×Int)) (HP Int (HP Int (HP (List ((Int×Int)×(List Int))) Unit))))))))))))) (HP (List (Int×(List (Int×Int)))) (HP Int (HP Int (HP (List (Int×Int)) (HP Int (HP Int (HP (List (Int×(List (Int×Int)))) (HP Int (HP (List (Int×Int)) (HP (List ((Int×Int)×(List Int))) Unit))))))))))) :=
 br (cm .lss s.hd s.tl.tl.tl.tl.tl.tl.tl.tl.tl.tl.tl.hd) (gd (ft 8 (pl (ln (mg (a:=(.p I I)) (b:=(.ls I)) s.tl.tl.tl.tl.tl.tl.tl.tl.tl.tl.tl.tl.hd ((ar .add .i64 s.hd 1),(ar .add .i64 s.tl.tl.tl.tl.tl.tl.tl.tl.hd 1)) [])) 1)) <|
 some (.go ⟨(ar .add .i64 s.hd 1),⟨s.tl.hd,⟨s.tl.tl.hd,⟨s.tl.tl.tl.hd,⟨s.tl.tl.tl.tl.hd,⟨s.tl.tl.tl.tl.tl.hd,⟨s.tl.tl.tl.tl.tl.tl.hd,⟨s.tl.tl.tl.tl.tl.tl.tl.hd,⟨s.tl.tl.tl.tl.tl.tl.tl.tl.hd,⟨s.tl.tl.tl.tl.tl.tl.tl.tl.tl.hd,⟨s.tl.tl.tl.tl.tl.tl.tl.tl.tl.tl.hd,⟨s.tl.tl.tl.tl.tl.tl.tl.tl.tl.tl.tl.hd,⟨(ms (a:=(.p I I)) (b:=(.ls I)) s.tl.tl.tl.tl.tl.tl.tl.tl.tl.tl.tl.tl.hd ((ar .add .i64 s.hd 1),(ar .add .i64 s.tl.tl.tl.tl.tl.tl.tl.tl.hd 1)) (ap (mg (a:=(.p I I)) (b:=(.ls I)) s.tl.tl.tl.tl.tl.tl.tl.tl.tl.tl.tl.tl.hd ((ar .add .i64 s.hd 1),(ar .add .i64 s.tl.tl.tl.tl.tl.tl.tl.tl.hd 1)) []) ((2:Int)::[]))),()⟩⟩⟩⟩⟩⟩⟩⟩⟩⟩⟩⟩⟩))
 (some (.out ⟨s.tl.hd,⟨s.tl.tl.hd,⟨s.tl.tl.tl.hd,⟨s.tl.tl.tl.tl.hd,⟨s.tl.tl.tl.tl.tl.hd,⟨s.tl.tl.tl.tl.tl.tl.hd,⟨s.tl.tl.tl.tl.tl.tl.tl.hd,⟨s.tl.tl.tl.tl.tl.tl.tl.tl.hd,⟨s.tl.tl.tl.tl.tl.tl.tl.tl.tl.hd,⟨s.tl.tl.tl.tl.tl.tl.tl.tl.tl.tl.tl.tl.hd,()⟩⟩⟩⟩⟩⟩⟩⟩⟩⟩))
noncomputable def t_boundary_Trace_L3 [W] (a:(List (Int×(List (Int×Int))))) (s:(HP (List (Int×(List (Int×Int)))) (HP Int (HP Int (HP (List (Int×Int)) (HP Int (HP Int (HP (List (Int×(List (Int×Int)))) (HP Int (HP (List (Int×Int)) (HP (List ((Int×Int)×(List Int))) Unit))))))))))):Option (Nx (HP (List (Int×(List (Int×Int)))) (HP Int (HP Int (HP (List (Int×Int)) (HP Int (HP Int (HP (List (Int×(List (Int×Int)))) (HP Int (HP (List (Int×Int)) (HP (List ((Int×Int)×(List Int))) Unit)))))))))) (HP (List (Int×(List (Int×Int)))) (HP Int (HP Int (HP (List (Int×(List (Int×Int)))) (HP Int (HP (List (Int×Int)) (HP (List ((Int×Int)×(List Int))) Unit)))))))) :=
 br (cm .lss s.tl.tl.tl.tl.tl.hd s.tl.tl.tl.tl.hd) (ge s.tl.tl.tl.hd s.tl.tl.tl.tl.tl.hd fun v8 =>
 loop (t_boundary_Trace_L4 a) ⟨v8.1,⟨s.hd,⟨s.tl.hd,⟨s.tl.tl.hd,⟨s.tl.tl.tl.hd,⟨s.tl.tl.tl.tl.hd,⟨s.tl.tl.tl.tl.tl.hd,⟨s.tl.tl.tl.tl.tl.tl.hd,⟨s.tl.tl.tl.tl.tl.tl.tl.hd,⟨s.tl.tl.tl.tl.tl.tl.tl.tl.hd,⟨v8.1,⟨v8.2,⟨s.tl.tl.tl.tl.tl.tl.tl.tl.tl.hd,()⟩⟩⟩⟩⟩⟩⟩⟩⟩⟩⟩⟩⟩ fun v9 =>
 some (.go ⟨v9.hd,⟨v9.tl.hd,⟨v9.tl.tl.hd,⟨v9.tl.tl.tl.hd,⟨v9.tl.tl.tl.tl.hd,⟨(ar .add .i64 v9.tl.tl.tl.tl.tl.hd 1),⟨v9.tl.tl.tl.tl.tl.tl.hd,⟨v9.tl.tl.tl.tl.tl.tl.tl.hd,⟨v9.tl.tl.tl.tl.tl.tl.tl.tl.hd,⟨v9.tl.tl.tl.tl.tl.tl.tl.tl.tl.hd,()⟩⟩⟩⟩⟩⟩⟩⟩⟩⟩))
 (some (.out ⟨s.hd,⟨s.tl.hd,⟨s.tl.tl.hd,⟨s.tl.tl.tl.tl.tl.tl.hd,⟨s.tl.tl.tl.tl.tl.tl.tl.hd,⟨s.tl.tl.tl.tl.tl.tl.tl.tl.hd,⟨s.tl.tl.tl.tl.tl.tl.tl.tl.tl.hd,()⟩⟩⟩⟩⟩⟩⟩))
noncomputable def t_boundary_Trace_L5 [W] (a:(List (Int×(List (Int×Int))))) (s:(HP (List (Int×(List (Int×Int)))) (HP Int (HP Int (HP (List (Int×Int)) (HP Int (HP Int (HP (List (Int×(List (Int×Int)))) (HP Int (HP (List (Int×Int)) (HP (List ((Int×Int)×(List Int))) Unit))))))))))):Option (Nx (HP (List (Int×(List (Int×Int)))) (HP Int (HP Int (HP (List (Int×Int)) (HP Int (HP Int (HP (List (Int×(List (Int×Int)))) (HP Int (HP (List (Int×Int)) (HP (List ((Int×Int)×(List Int))) Unit)))))))))) (HP (List (Int×(List (Int×Int)))) (HP Int (HP Int (HP (List (Int×(List (Int×Int)))) (HP (List ((Int×Int)×(List Int))) Unit)))))) :=
 br (cm .lss s.tl.tl.tl.tl.tl.hd s.tl.tl.tl.tl.hd) (ge s.tl.tl.tl.hd s.tl.tl.tl.tl.tl.hd fun v11 =>
 gd (ft 8 (pl (ln (mg (a:=(.p I I)) (b:=(.ls I)) s.tl.tl.tl.tl.tl.tl.tl.tl.tl.hd (v11.2,s.tl.tl.tl.tl.tl.tl.tl.hd) [])) 1)) <|
 gd (ft 8 (pl (ln (mg (a:=(.p I I)) (b:=(.ls I)) (ms (a:=(.p I I)) (b:=(.ls I)) s.tl.tl.tl.tl.tl.tl.tl.tl.tl.hd (v11.2,s.tl.tl.tl.tl.tl.tl.tl.hd) (ap (mg (a:=(.p I I)) (b:=(.ls I)) s.tl.tl.tl.tl.tl.tl.tl.tl.tl.hd (v11.2,s.tl.tl.tl.tl.tl.tl.tl.hd) []) ((1:Int)::[]))) (v11.1,(ar .add .i64 s.tl.tl.tl.tl.tl.tl.tl.hd 1)) [])) 1)) <|
 some (.go ⟨s.hd,⟨s.tl.hd,⟨s.tl.tl.hd,⟨s.tl.tl.tl.hd,⟨s.tl.tl.tl.tl.hd,⟨(ar .add .i64 s.tl.tl.tl.tl.tl.hd 1),⟨s.tl.tl.tl.tl.tl.tl.hd,⟨s.tl.tl.tl.tl.tl.tl.tl.hd,⟨s.tl.tl.tl.tl.tl.tl.tl.tl.hd,⟨(ms (a:=(.p I I)) (b:=(.ls I)) (ms (a:=(.p I I)) (b:=(.ls I)) s.tl.tl.tl.tl.tl.tl.tl.tl.tl.hd (v11.2,s.tl.tl.tl.tl.tl.tl.tl.hd) (ap (mg (a:=(.p I I)) (b:=(.ls I)) s.tl.tl.tl.tl.tl.tl.tl.tl.tl.hd (v11.2,s.tl.tl.tl.tl.tl.tl.tl.hd) []) ((1:Int)::[]))) (v11.1,(ar .add .i64 s.tl.tl.tl.tl.tl.tl.tl.hd 1)) (ap (mg (a:=(.p I I)) (b:=(.ls I)) (ms (a:=(.p I I)) (b:=(.ls I)) s.tl.tl.tl.tl.tl.tl.tl.tl.tl.hd (v11.2,s.tl.tl.tl.tl.tl.tl.tl.hd) (ap (mg (a:=(.p I I)) (b:=(.ls I)) s.tl.tl.tl.tl.tl.tl.tl.tl.tl.hd (v11.2,s.tl.tl.tl.tl.tl.tl.tl.hd) []) ((1:Int)::[]))) (v11.1,(ar .add .i64 s.tl.tl.tl.tl.tl.tl.tl.hd 1)) []) ((3:Int)::[]))),()⟩⟩⟩⟩⟩⟩⟩⟩⟩⟩))
 (some (.out ⟨s.hd,⟨s.tl.hd,⟨s.tl.tl.hd,⟨s.tl.tl.tl.tl.tl.tl.hd,⟨s.tl.tl.tl.tl.tl.tl.tl.tl.tl.hd,()⟩⟩⟩⟩⟩))
noncomputable def t_boundary_Trace_L0 [W] (a:(List (Int×(List (Int×Int))))) (s:(HP (List (Int×(List (Int×Int)))) (HP Int (HP Int (HP (List (Int×(List (Int×Int)))) (HP (List ((Int×Int)×(List Int))) Unit)))))):Option (Nx (HP (List (Int×(List (Int×Int)))) (HP Int (HP Int (HP (List (Int×(List (Int×Int)))) (HP (List ((Int×Int)×(List Int))) Unit))))) (HP (List ((Int×Int)×(List Int))) Unit)) :=
 br (cm .lss s.tl.tl.hd s.tl.hd) (ge s.hd s.tl.tl.hd fun v1 =>
 call c_boundary_around ((s.tl.tl.tl.hd,s.tl.tl.hd):((List (Int×(List (Int×Int))))×Int)) fun (v2:((List (Int×Int))×(List (Int×Int)))) =>
 call c_runs_Subtract ((v1.2,v2.1):((List (Int×Int))×(List (Int×Int)))) fun (v3:(List (Int×Int))) =>
 loop (t_boundary_Trace_L1 a) ⟨v2.2,⟨s.hd,⟨s.tl.hd,⟨s.tl.tl.hd,⟨v3,⟨(ln v3),⟨0,⟨s.tl.tl.tl.hd,⟨v1.1,⟨v1.2,⟨s.tl.tl.tl.tl.hd,()⟩⟩⟩⟩⟩⟩⟩⟩⟩⟩⟩ fun v6 =>
 call c_runs_Subtract ((v6.tl.tl.tl.tl.tl.tl.hd,v6.hd):((List (Int×Int))×(List (Int×Int)))) fun (v7:(List (Int×Int))) =>
 loop (t_boundary_Trace_L3 a) ⟨v6.tl.hd,⟨v6.tl.tl.hd,⟨v6.tl.tl.tl.hd,⟨v7,⟨(ln v7),⟨0,⟨v6.tl.tl.tl.tl.hd,⟨v6.tl.tl.tl.tl.tl.hd,⟨v6.tl.tl.tl.tl.tl.tl.hd,⟨v6.tl.tl.tl.tl.tl.tl.tl.hd,()⟩⟩⟩⟩⟩⟩⟩⟩⟩⟩ fun v10 =>
 loop (t_boundary_Trace_L5 a) ⟨v10.hd,⟨v10.tl.hd,⟨v10.tl.tl.hd,⟨v10.tl.tl.tl.tl.tl.hd,⟨(ln v10.tl.tl.tl.tl.tl.hd),⟨0,⟨v10.tl.tl.tl.hd,⟨v10.tl.tl.tl.tl.hd,⟨v10.tl.tl.tl.tl.tl.hd,⟨v10.tl.tl.tl.tl.tl.tl.hd,()⟩⟩⟩⟩⟩⟩⟩⟩⟩⟩ fun v12 =>
 some (.go ⟨v12.hd,⟨v12.tl.hd,⟨(ar .add .i64 v12.tl.tl.hd 1),⟨v12.tl.tl.tl.hd,⟨v12.tl.tl.tl.tl.hd,()⟩⟩⟩⟩⟩))
 (some (.out ⟨s.tl.tl.tl.tl.hd,()⟩))
noncomputable def t_boundary_Trace_L8 [W] (a:(List (Int×(List (Int×Int))))) (s:(HP Int (HP Int (HP Int (HP Int (HP Int (HP Int (HP Int (HP (List ((Int×Int)×(List Int))) (HP Int (HP Int (HP Int (HP Int (HP (List (Int×Int)) (HP (List (List (Int×Int))) (HP (List (Int×Int)) Unit)))))))))))))))):Option (Nx (HP Int (HP Int (HP Int (HP Int (HP Int (HP Int (HP Int (HP (List ((Int×Int)×(List Int))) (HP Int (HP Int (HP Int (HP Int (HP (List (Int×Int)) (HP (List (List (Int×Int))) (HP (List (Int×Int)) Unit))))))))))))))) (HP Int (HP Int (HP Int (HP (List ((Int×Int)×(List Int))) (HP Int (HP Int (HP Int (HP Int (HP (List (Int×Int)) (HP (List (List (Int×Int))) (HP (List (Int×Int)) Unit)))))))))))) :=
 br (cm .lss s.tl.tl.tl.tl.hd 3) (br (cm .eql s.tl.tl.tl.tl.hd 0) (call c_slices_Containsboundary_heading_boundary_heading_ (((mg (a:=(.p I I)) (b:=(.ls I)) s.tl.tl.tl.tl.tl.tl.tl.hd (s.tl.tl.tl.tl.tl.tl.tl.tl.tl.tl.hd,s.tl.tl.tl.tl.tl.tl.tl.tl.tl.tl.tl.hd) []),s.tl.hd):((List Int)×Int)) fun (v22:Bool) =>
 br v22 (br (cm .neq s.tl.hd s.hd) (gd (ft 16 (pl (ln s.tl.tl.tl.tl.tl.tl.tl.tl.tl.tl.tl.tl.tl.tl.hd) 1)) <|
 some (.out ⟨s.tl.hd,⟨s.tl.tl.tl.tl.tl.hd,⟨s.tl.tl.tl.tl.tl.tl.hd,⟨s.tl.tl.tl.tl.tl.tl.tl.hd,⟨s.tl.tl.tl.tl.tl.tl.tl.tl.hd,⟨s.tl.tl.tl.tl.tl.tl.tl.tl.tl.hd,⟨s.tl.tl.tl.tl.tl.tl.tl.tl.tl.tl.hd,⟨s.tl.tl.tl.tl.tl.tl.tl.tl.tl.tl.tl.hd,⟨s.tl.tl.tl.tl.tl.tl.tl.tl.tl.tl.tl.tl.hd,⟨s.tl.tl.tl.tl.tl.tl.tl.tl.tl.tl.tl.tl.tl.hd,⟨(ap s.tl.tl.tl.tl.tl.tl.tl.tl.tl.tl.tl.tl.tl.tl.hd ((s.tl.tl.tl.tl.tl.tl.tl.tl.tl.tl.hd,s.tl.tl.tl.tl.tl.tl.tl.tl.tl.tl.tl.hd)::[])),()⟩⟩⟩⟩⟩⟩⟩⟩⟩⟩⟩))
 (some (.out ⟨s.tl.hd,⟨s.tl.tl.tl.tl.tl.hd,⟨s.tl.tl.tl.tl.tl.tl.hd,⟨s.tl.tl.tl.tl.tl.tl.tl.hd,⟨s.tl.tl.tl.tl.tl.tl.tl.tl.hd,⟨s.tl.tl.tl.tl.tl.tl.tl.tl.tl.hd,⟨s.tl.tl.tl.tl.tl.tl.tl.tl.tl.tl.hd,⟨s.tl.tl.tl.tl.tl.tl.tl.tl.tl.tl.tl.hd,⟨s.tl.tl.tl.tl.tl.tl.tl.tl.tl.tl.tl.tl.hd,⟨s.tl.tl.tl.tl.tl.tl.tl.tl.tl.tl.tl.tl.tl.hd,⟨s.tl.tl.tl.tl.tl.tl.tl.tl.tl.tl.tl.tl.tl.tl.hd,()⟩⟩⟩⟩⟩⟩⟩⟩⟩⟩⟩)))
 (some (.go ⟨s.hd,⟨s.tl.hd,⟨s.tl.tl.hd,⟨s.tl.tl.tl.hd,⟨(ar .add .i64 s.tl.tl.tl.tl.hd 1),⟨s.tl.tl.tl.tl.tl.hd,⟨s.tl.tl.tl.tl.tl.tl.hd,⟨s.tl.tl.tl.tl.tl.tl.tl.hd,⟨s.tl.tl.tl.tl.tl.tl.tl.tl.hd,⟨s.tl.tl.tl.tl.tl.tl.tl.tl.tl.hd,⟨s.tl.tl.tl.tl.tl.tl.tl.tl.tl.tl.hd,⟨s.tl.tl.tl.tl.tl.tl.tl.tl.tl.tl.tl.hd,⟨s.tl.tl.tl.tl.tl.tl.tl.tl.tl.tl.tl.tl.hd,⟨s.tl.tl.tl.tl.tl.tl.tl.tl.tl.tl.tl.tl.tl.hd,⟨s.tl.tl.tl.tl.tl.tl.tl.tl.tl.tl.tl.tl.tl.tl.hd,()⟩⟩⟩⟩⟩⟩⟩⟩⟩⟩⟩⟩⟩⟩⟩)))
 (br (cm .eql s.tl.tl.tl.tl.hd 1) (call c_slices_Containsboundary_heading_boundary_heading_ (((mg (a:=(.p I I)) (b:=(.ls I)) s.tl.tl.tl.tl.tl.tl.tl.hd (s.tl.tl.tl.tl.tl.tl.tl.tl.tl.tl.hd,s.tl.tl.tl.tl.tl.tl.tl.tl.tl.tl.tl.hd) []),s.tl.tl.hd):((List Int)×Int)) fun (v23:Bool) =>
 br v23 (br (cm .neq s.tl.tl.hd s.hd) (gd (ft 16 (pl (ln s.tl.tl.tl.tl.tl.tl.tl.tl.tl.tl.tl.tl.tl.tl.hd) 1)) <|
 some (.out ⟨s.tl.tl.hd,⟨s.tl.tl.tl.tl.tl.hd,⟨s.tl.tl.tl.tl.tl.tl.hd,⟨s.tl.tl.tl.tl.tl.tl.tl.hd,⟨s.tl.tl.tl.tl.tl.tl.tl.tl.hd,⟨s.tl.tl.tl.tl.tl.tl.tl.tl.tl.hd,⟨s.tl.tl.tl.tl.tl.tl.tl.tl.tl.tl.hd,⟨s.tl.tl.tl.tl.tl.tl.tl.tl.tl.tl.tl.hd,⟨s.tl.tl.tl.tl.tl.tl.tl.tl.tl.tl.tl.tl.hd,⟨s.tl.tl.tl.tl.tl.tl.tl.tl.tl.tl.tl.tl.tl.hd,⟨(ap s.tl.tl.tl.tl.tl.tl.tl.tl.tl.tl.tl.tl.tl.tl.hd ((s.tl.tl.tl.tl.tl.tl.tl.tl.tl.tl.hd,s.tl.tl.tl.tl.tl.tl.tl.tl.tl.tl.tl.hd)::[])),()⟩⟩⟩⟩⟩⟩⟩⟩⟩⟩⟩))
 (some (.out ⟨s.tl.tl.hd,⟨s.tl.tl.tl.tl.tl.hd,⟨s.tl.tl.tl.tl.tl.tl.hd,⟨s.tl.tl.tl.tl.tl.tl.tl.hd,⟨s.tl.tl.tl.tl.tl.tl.tl.tl.hd,⟨s.tl.tl.tl.tl.tl.tl.tl.tl.tl.hd,⟨s.tl.tl.tl.tl.tl.tl.tl.tl.tl.tl.hd,⟨s.tl.tl.tl.tl.tl.tl.tl.tl.tl.tl.tl.hd,⟨s.tl.tl.tl.tl.tl.tl.tl.tl.tl.tl.tl.tl.hd,⟨s.tl.tl.tl.tl.tl.tl.tl.tl.tl.tl.tl.tl.tl.hd,⟨s.tl.tl.tl.tl.tl.tl.tl.tl.tl.tl.tl.tl.tl.tl.hd,()⟩⟩⟩⟩⟩⟩⟩⟩⟩⟩⟩)))
 (some (.go ⟨s.hd,⟨s.tl.hd,⟨s.tl.tl.hd,⟨s.tl.tl.tl.hd,⟨(ar .add .i64 s.tl.tl.tl.tl.hd 1),⟨s.tl.tl.tl.tl.tl.hd,⟨s.tl.tl.tl.tl.tl.tl.hd,⟨s.tl.tl.tl.tl.tl.tl.tl.hd,⟨s.tl.tl.tl.tl.tl.tl.tl.tl.hd,⟨s.tl.tl.tl.tl.tl.tl.tl.tl.tl.hd,⟨s.tl.tl.tl.tl.tl.tl.tl.tl.tl.tl.hd,⟨s.tl.tl.tl.tl.tl.tl.tl.tl.tl.tl.tl.hd,⟨s.tl.tl.tl.tl.tl.tl.tl.tl.tl.tl.tl.tl.hd,⟨s.tl.tl.tl.tl.tl.tl.tl.tl.tl.tl.tl.tl.tl.hd,⟨s.tl.tl.tl.tl.tl.tl.tl.tl.tl.tl.tl.tl.tl.tl.hd,()⟩⟩⟩⟩⟩⟩⟩⟩⟩⟩⟩⟩⟩⟩⟩)))
 (br (cm .eql s.tl.tl.tl.tl.hd 2) (call c_slices_Containsboundary_heading_boundary_heading_ (((mg (a:=(.p I I)) (b:=(.ls I)) s.tl.tl.tl.tl.tl.tl.tl.hd (s.tl.tl.tl.tl.tl.tl.tl.tl.tl.tl.hd,s.tl.tl.tl.tl.tl.tl.tl.tl.tl.tl.tl.hd) []),s.tl.tl.tl.hd):((List Int)×Int)) fun (v24:Bool) =>
 br v24 (br (cm .neq s.tl.tl.tl.hd s.hd) (gd (ft 16 (pl (ln s.tl.tl.tl.tl.tl.tl.tl.tl.tl.tl.tl.tl.tl.tl.hd) 1)) <|
 some (.out ⟨s.tl.tl.tl.hd,⟨s.tl.tl.tl.tl.tl.hd,⟨s.tl.tl.tl.tl.tl.tl.hd,⟨s.tl.tl.tl.tl.tl.tl.tl.hd,⟨s.tl.tl.tl.tl.tl.tl.tl.tl.hd,⟨s.tl.tl.tl.tl.tl.tl.tl.tl.tl.hd,⟨s.tl.tl.tl.tl.tl.tl.tl.tl.tl.tl.hd,⟨s.tl.tl.tl.tl.tl.tl.tl.tl.tl.tl.tl.hd,⟨s.tl.tl.tl.tl.tl.tl.tl.tl.tl.tl.tl.tl.hd,⟨s.tl.tl.tl.tl.tl.tl.tl.tl.tl.tl.tl.tl.tl.hd,⟨(ap s.tl.tl.tl.tl.tl.tl.tl.tl.tl.tl.tl.tl.tl.tl.hd ((s.tl.tl.tl.tl.tl.tl.tl.tl.tl.tl.hd,s.tl.tl.tl.tl.tl.tl.tl.tl.tl.tl.tl.hd)::[])),()⟩⟩⟩⟩⟩⟩⟩⟩⟩⟩⟩))
 (some (.out ⟨s.tl.tl.tl.hd,⟨s.tl.tl.tl.tl.tl.hd,⟨s.tl.tl.tl.tl.tl.tl.hd,⟨s.tl.tl.tl.tl.tl.tl.tl.hd,⟨s.tl.tl.tl.tl.tl.tl.tl.tl.hd,⟨s.tl.tl.tl.tl.tl.tl.tl.tl.tl.hd,⟨s.tl.tl.tl.tl.tl.tl.tl.tl.tl.tl.hd,⟨s.tl.tl.tl.tl.tl.tl.tl.tl.tl.tl.tl.hd,⟨s.tl.tl.tl.tl.tl.tl.tl.tl.tl.tl.tl.tl.hd,⟨s.tl.tl.tl.tl.tl.tl.tl.tl.tl.tl.tl.tl.tl.hd,⟨s.tl.tl.tl.tl.tl.tl.tl.tl.tl.tl.tl.tl.tl.tl.hd,()⟩⟩⟩⟩⟩⟩⟩⟩⟩⟩⟩)))
 (some (.go ⟨s.hd,⟨s.tl.hd,⟨s.tl.tl.hd,⟨s.tl.tl.tl.hd,⟨(ar .add .i64 s.tl.tl.tl.tl.hd 1),⟨s.tl.tl.tl.tl.tl.hd,⟨s.tl.tl.tl.tl.tl.tl.hd,⟨s.tl.tl.tl.tl.tl.tl.tl.hd,⟨s.tl.tl.tl.tl.tl.tl.tl.tl.hd,⟨s.tl.tl.tl.tl.tl.tl.tl.tl.tl.hd,⟨s.tl.tl.tl.tl.tl.tl.tl.tl.tl.tl.hd,⟨s.tl.tl.tl.tl.tl.tl.tl.tl.tl.tl.tl.hd,⟨s.tl.tl.tl.tl.tl.tl.tl.tl.tl.tl.tl.tl.hd,⟨s.tl.tl.tl.tl.tl.tl.tl.tl.tl.tl.tl.tl.tl.hd,⟨s.tl.tl.tl.tl.tl.tl.tl.tl.tl.tl.tl.tl.tl.tl.hd,()⟩⟩⟩⟩⟩⟩⟩⟩⟩⟩⟩⟩⟩⟩⟩)))
 (none))))
 (some (.out ⟨s.hd,⟨s.tl.tl.tl.tl.tl.hd,⟨s.tl.tl.tl.tl.tl.tl.hd,⟨s.tl.tl.tl.tl.tl.tl.tl.hd,⟨s.tl.tl.tl.tl.tl.tl.tl.tl.hd,⟨s.tl.tl.tl.tl.tl.tl.tl.tl.tl.hd,⟨s.tl.tl.tl.tl.tl.tl.tl.tl.tl.tl.hd,⟨s.tl.tl.tl.tl.tl.tl.tl.tl.tl.tl.tl.hd,⟨s.tl.tl.tl.tl.tl.tl.tl.tl.tl.tl.tl.tl.hd,⟨s.tl.tl.tl.tl.tl.tl.tl.tl.tl.tl.tl.tl.tl.hd,⟨s.tl.tl.tl.tl.tl.tl.tl.tl.tl.tl.tl.tl.tl.tl.hd,()⟩⟩⟩⟩⟩⟩⟩⟩⟩⟩⟩))
noncomputable def t_boundary_Trace_L9 [W] (a:(List (Int×(List (Int×Int))))) (s:(HP Int (HP Int (HP Int (HP Int (HP Int (HP Int (HP Int (HP (List ((Int×Int)×(List Int))) (HP Int (HP Int (HP Int (HP Int (HP (List (Int×Int)) (HP (List (List (Int×Int))) (HP (List (Int×Int)) Unit)))))))))))))))):Option (Nx (HP Int (HP Int (HP Int (HP Int (HP Int (HP Int (HP Int (HP (List ((Int×Int)×(List Int))) (HP Int (HP Int (HP Int (HP Int (HP (List (Int×Int)) (HP (List (List (Int×Int))) (HP (List (Int×Int)) Unit))))))))))))))) (HP Int (HP Int (HP Int (HP (List ((Int×Int)×(List Int))) (HP Int (HP Int (HP Int (HP Int (HP (List (Int×Int)) (HP (List (List (Int×Int))) (HP (List (Int×Int)) Unit)))))))))))) :=
 br (cm .lss s.tl.tl.tl.tl.hd 3) (br (cm .eql s.tl.tl.tl.tl.hd 0) (call c_slices_Containsboundary_heading_boundary_heading_ (((mg (a:=(.p I I)) (b:=(.ls I)) s.tl.tl.tl.tl.tl.tl.tl.hd (s.tl.tl.tl.tl.tl.tl.tl.tl.tl.tl.hd,s.tl.tl.tl.tl.tl.tl.tl.tl.tl.tl.tl.hd) []),s.tl.hd):((List Int)×Int)) fun (v29:Bool) =>
 br v29 (br (cm .neq s.tl.hd s.hd) (gd (ft 16 (pl (ln s.tl.tl.tl.tl.tl.tl.tl.tl.tl.tl.tl.tl.tl.tl.hd) 1)) <|
 some (.out ⟨s.tl.hd,⟨s.tl.tl.tl.tl.tl.hd,⟨s.tl.tl.tl.tl.tl.tl.hd,⟨s.tl.tl.tl.tl.tl.tl.tl.hd,⟨s.tl.tl.tl.tl.tl.tl.tl.tl.hd,⟨s.tl.tl.tl.tl.tl.tl.tl.tl.tl.hd,⟨s.tl.tl.tl.tl.tl.tl.tl.tl.tl.tl.hd,⟨s.tl.tl.tl.tl.tl.tl.tl.tl.tl.tl.tl.hd,⟨s.tl.tl.tl.tl.tl.tl.tl.tl.tl.tl.tl.tl.hd,⟨s.tl.tl.tl.tl.tl.tl.tl.tl.tl.tl.tl.tl.tl.hd,⟨(ap s.tl.tl.tl.tl.tl.tl.tl.tl.tl.tl.tl.tl.tl.tl.hd ((s.tl.tl.tl.tl.tl.tl.tl.tl.tl.tl.hd,s.tl.tl.tl.tl.tl.tl.tl.tl.tl.tl.tl.hd)::[])),()⟩⟩⟩⟩⟩⟩⟩⟩⟩⟩⟩))
 (some (.out ⟨s.tl.hd,⟨s.tl.tl.tl.tl.tl.hd,⟨s.tl.tl.tl.tl.tl.tl.hd,⟨s.tl.tl.tl.tl.tl.tl.tl.hd,⟨s.tl.tl.tl.tl.tl.tl.tl.tl.hd,⟨s.tl.tl.tl.tl.tl.tl.tl.tl.tl.hd,⟨s.tl.tl.tl.tl.tl.tl.tl.tl.tl.tl.hd,⟨s.tl.tl.tl.tl.tl.tl.tl.tl.tl.tl.tl.hd,⟨s.tl.tl.tl.tl.tl.tl.tl.tl.tl.tl.tl.tl.hd,⟨s.tl.tl.tl.tl.tl.tl.tl.tl.tl.tl.tl.tl.tl.hd,⟨s.tl.tl.tl.tl.tl.tl.tl.tl.tl.tl.tl.tl.tl.tl.hd,()⟩⟩⟩⟩⟩⟩⟩⟩⟩⟩⟩)))
 (some (.go ⟨s.hd,⟨s.tl.hd,⟨s.tl.tl.hd,⟨s.tl.tl.tl.hd,⟨(ar .add .i64 s.tl.tl.tl.tl.hd 1),⟨s.tl.tl.tl.tl.tl.hd,⟨s.tl.tl.tl.tl.tl.tl.hd,⟨s.tl.tl.tl.tl.tl.tl.tl.hd,⟨s.tl.tl.tl.tl.tl.tl.tl.tl.hd,⟨s.tl.tl.tl.tl.tl.tl.tl.tl.tl.hd,⟨s.tl.tl.tl.tl.tl.tl.tl.tl.tl.tl.hd,⟨s.tl.tl.tl.tl.tl.tl.tl.tl.tl.tl.tl.hd,⟨s.tl.tl.tl.tl.tl.tl.tl.tl.tl.tl.tl.tl.hd,⟨s.tl.tl.tl.tl.tl.tl.tl.tl.tl.tl.tl.tl.tl.hd,⟨s.tl.tl.tl.tl.tl.tl.tl.tl.tl.tl.tl.tl.tl.tl.hd,()⟩⟩⟩⟩⟩⟩⟩⟩⟩⟩⟩⟩⟩⟩⟩)))
 (br (cm .eql s.tl.tl.tl.tl.hd 1) (call c_slices_Containsboundary_heading_boundary_heading_ (((mg (a:=(.p I I)) (b:=(.ls I)) s.tl.tl.tl.tl.tl.tl.tl.hd (s.tl.tl.tl.tl.tl.tl.tl.tl.tl.tl.hd,s.tl.tl.tl.tl.tl.tl.tl.tl.tl.tl.tl.hd) []),s.tl.tl.hd):((List Int)×Int)) fun (v30:Bool) =>
 br v30 (br (cm .neq s.tl.tl.hd s.hd) (gd (ft 16 (pl (ln s.tl.tl.tl.tl.tl.tl.tl.tl.tl.tl.tl.tl.tl.tl.hd) 1)) <|
 some (.out ⟨s.tl.tl.hd,⟨s.tl.tl.tl.tl.tl.hd,⟨s.tl.tl.tl.tl.tl.tl.hd,⟨s.tl.tl.tl.tl.tl.tl.tl.hd,⟨s.tl.tl.tl.tl.tl.tl.tl.tl.hd,⟨s.tl.tl.tl.tl.tl.tl.tl.tl.tl.hd,⟨s.tl.tl.tl.tl.tl.tl.tl.tl.tl.tl.hd,⟨s.tl.tl.tl.tl.tl.tl.tl.tl.tl.tl.tl.hd,⟨s.tl.tl.tl.tl.tl.tl.tl.tl.tl.tl.tl.tl.hd,⟨s.tl.tl.tl.tl.tl.tl.tl.tl.tl.tl.tl.tl.tl.hd,⟨(ap s.tl.tl.tl.tl.tl.tl.tl.tl.tl.tl.tl.tl.tl.tl.hd ((s.tl.tl.tl.tl.tl.tl.tl.tl.tl.tl.hd,s.tl.tl.tl.tl.tl.tl.tl.tl.tl.tl.tl.hd)::[])),()⟩⟩⟩⟩⟩⟩⟩⟩⟩⟩⟩))
 (some (.out ⟨s.tl.tl.hd,⟨s.tl.tl.tl.tl.tl.hd,⟨s.tl.tl.tl.tl.tl.tl.hd,⟨s.tl.tl.tl.tl.tl.tl.tl.hd,⟨s.tl.tl.tl.tl.tl.tl.tl.tl.hd,⟨s.tl.tl.tl.tl.tl.tl.tl.tl.tl.hd,⟨s.tl.tl.tl.tl.tl.tl.tl.tl.tl.tl.hd,⟨s.tl.tl.tl.tl.tl.tl.tl.tl.tl.tl.tl.hd,⟨s.tl.tl.tl.tl.tl.tl.tl.tl.tl.tl.tl.tl.hd,⟨s.tl.tl.tl.tl.tl.tl.tl.tl.tl.tl.tl.tl.tl.hd,⟨s.tl.tl.tl.tl.tl.tl.tl.tl.tl.tl.tl.tl.tl.tl.hd,()⟩⟩⟩⟩⟩⟩⟩⟩⟩⟩⟩)))
 (some (.go ⟨s.hd,⟨s.tl.hd,⟨s.tl.tl.hd,⟨s.tl.tl.tl.hd,⟨(ar .add .i64 s.tl.tl.tl.tl.hd 1),⟨s.tl.tl.tl.tl.tl.hd,⟨s.tl.tl.tl.tl.tl.tl.hd,⟨s.tl.tl.tl.tl.tl.tl.tl.hd,⟨s.tl.tl.tl.tl.tl.tl.tl.tl.hd,⟨s.tl.tl.tl.tl.tl.tl.tl.tl.tl.hd,⟨s.tl.tl.tl.tl.tl.tl.tl.tl.tl.tl.hd,⟨s.tl.tl.tl.tl.tl.tl.tl.tl.tl.tl.tl.hd,⟨s.tl.tl.tl.tl.tl.tl.tl.tl.tl.tl.tl.tl.hd,⟨s.tl.tl.tl.tl.tl.tl.tl.tl.tl.tl.tl.tl.tl.hd,⟨s.tl.tl.tl.tl.tl.tl.tl.tl.tl.tl.tl.tl.tl.tl.hd,()⟩⟩⟩⟩⟩⟩⟩⟩⟩⟩⟩⟩⟩⟩⟩)))
 (br (cm .eql s.tl.tl.tl.tl.hd 2) (call c_slices_Containsboundary_heading_boundary_heading_ (((mg (a:=(.p I I)) (b:=(.ls I)) s.tl.tl.tl.tl.tl.tl.tl.hd (s.tl.tl.tl.tl.tl.tl.tl.tl.tl.tl.hd,s.tl.tl.tl.tl.tl.tl.tl.tl.tl.tl.tl.hd) []),s.tl.tl.tl.hd):((List Int)×Int)) fun (v31:Bool) =>
 br v31 (br (cm .neq s.tl.tl.tl.hd s.hd) (gd (ft 16 (pl (ln s.tl.tl.tl.tl.tl.tl.tl.tl.tl.tl.tl.tl.tl.tl.hd) 1)) <|
 some (.out ⟨s.tl.tl.tl.hd,⟨s.tl.tl.tl.tl.tl.hd,⟨s.tl.tl.tl.tl.tl.tl.hd,⟨s.tl.tl.tl.tl.tl.tl.tl.hd,⟨s.tl.tl.tl.tl.tl.tl.tl.tl.hd,⟨s.tl.tl.tl.tl.tl.tl.tl.tl.tl.hd,⟨s.tl.tl.tl.tl.tl.tl.tl.tl.tl.tl.hd,⟨s.tl.tl.tl.tl.tl.tl.tl.tl.tl.tl.tl.hd,⟨s.tl.tl.tl.tl.tl.tl.tl.tl.tl.tl.tl.tl.hd,⟨s.tl.tl.tl.tl.tl.tl.tl.tl.tl.tl.tl.tl.tl.hd,⟨(ap s.tl.tl.tl.tl.tl.tl.tl.tl.tl.tl.tl.tl.tl.tl.hd ((s.tl.tl.tl.tl.tl.tl.tl.tl.tl.tl.hd,s.tl.tl.tl.tl.tl.tl.tl.tl.tl.tl.tl.hd)::[])),()⟩⟩⟩⟩⟩⟩⟩⟩⟩⟩⟩))
 (some (.out ⟨s.tl.tl.tl.hd,⟨s.tl.tl.tl.tl.tl.hd,⟨s.tl.tl.tl.tl.tl.tl.hd,⟨s.tl.tl.tl.tl.tl.tl.tl.hd,⟨s.tl.tl.tl.tl.tl.tl.tl.tl.hd,⟨s.tl.tl.tl.tl.tl.tl.tl.tl.tl.hd,⟨s.tl.tl.tl.tl.tl.tl.tl.tl.tl.tl.hd,⟨s.tl.tl.tl.tl.tl.tl.tl.tl.tl.tl.tl.hd,⟨s.tl.tl.tl.tl.tl.tl.tl.tl.tl.tl.tl.tl.hd,⟨s.tl.tl.tl.tl.tl.tl.tl.tl.tl.tl.tl.tl.tl.hd,⟨s.tl.tl.tl.tl.tl.tl.tl.tl.tl.tl.tl.tl.tl.tl.hd,()⟩⟩⟩⟩⟩⟩⟩⟩⟩⟩⟩)))
 (some (.go ⟨s.hd,⟨s.tl.hd,⟨s.tl.tl.hd,⟨s.tl.tl.tl.hd,⟨(ar .add .i64 s.tl.tl.tl.tl.hd 1),⟨s.tl.tl.tl.tl.tl.hd,⟨s.tl.tl.tl.tl.tl.tl.hd,⟨s.tl.tl.tl.tl.tl.tl.tl.hd,⟨s.tl.tl.tl.tl.tl.tl.tl.tl.hd,⟨s.tl.tl.tl.tl.tl.tl.tl.tl.tl.hd,⟨s.tl.tl.tl.tl.tl.tl.tl.tl.tl.tl.hd,⟨s.tl.tl.tl.tl.tl.tl.tl.tl.tl.tl.tl.hd,⟨s.tl.tl.tl.tl.tl.tl.tl.tl.tl.tl.tl.tl.hd,⟨s.tl.tl.tl.tl.tl.tl.tl.tl.tl.tl.tl.tl.tl.hd,⟨s.tl.tl.tl.tl.tl.tl.tl.tl.tl.tl.tl.tl.tl.tl.hd,()⟩⟩⟩⟩⟩⟩⟩⟩⟩⟩⟩⟩⟩⟩⟩)))
 (none))))
 (some (.out ⟨s.hd,⟨s.tl.tl.tl.tl.tl.hd,⟨s.tl.tl.tl.tl.tl.tl.hd,⟨s.tl.tl.tl.tl.tl.tl.tl.hd,⟨s.tl.tl.tl.tl.tl.tl.tl.tl.hd,⟨s.tl.tl.tl.tl.tl.tl.tl.tl.tl.hd,⟨s.tl.tl.tl.tl.tl.tl.tl.tl.tl.tl.hd,⟨s.tl.tl.tl.tl.tl.tl.tl.tl.tl.tl.tl.hd,⟨s.tl.tl.tl.tl.tl.tl.tl.tl.tl.tl.tl.tl.hd,⟨s.tl.tl.tl.tl.tl.tl.tl.tl.tl.tl.tl.tl.tl.hd,⟨s.tl.tl.tl.tl.tl.tl.tl.tl.tl.tl.tl.tl.tl.tl.hd,()⟩⟩⟩⟩⟩⟩⟩⟩⟩⟩⟩))
noncomputable def t_boundary_Trace_L7 [W] (a:(List (Int×(List (Int×Int))))) (s:(HP Int (HP Int (HP Int (HP (List ((Int×Int)×(List Int))) (HP Int (HP Int (HP Int (HP Int (HP (List (Int×Int)) (HP (List (List (Int×Int))) (HP (List (Int×Int)) Unit)))))))))))):Option (Nx (HP Int (HP Int (HP Int (HP (List ((Int×Int)×(List Int))) (HP Int (HP Int (HP Int (HP Int (HP (List (Int×Int)) (HP (List (List (Int×Int))) (HP (List (Int×Int)) Unit))))))))))) (HP Int (HP Int (HP (List ((Int×Int)×(List Int))) (HP (List (Int×Int)) (HP (List (List (Int×Int))) (HP (List (Int×Int)) Unit))))))) :=
 call c_slices_Indexboundary_heading_boundary_heading_ (((mg (a:=(.p I I)) (b:=(.ls I)) s.tl.tl.tl.hd (s.tl.tl.tl.tl.tl.tl.hd,s.tl.tl.tl.tl.tl.tl.tl.hd) []),s.hd):((List Int)×Int)) fun (v18:Int) =>
 br (cm .lss v18 0) (some (.out ⟨s.tl.hd,⟨s.tl.tl.hd,⟨s.tl.tl.tl.hd,⟨s.tl.tl.tl.tl.tl.tl.tl.tl.hd,⟨s.tl.tl.tl.tl.tl.tl.tl.tl.tl.hd,⟨s.tl.tl.tl.tl.tl.tl.tl.tl.tl.tl.hd,()⟩⟩⟩⟩⟩⟩))
 (br (cm .eql (ln (mg (a:=(.p I I)) (b:=(.ls I)) s.tl.tl.tl.hd (s.tl.tl.tl.tl.tl.tl.hd,s.tl.tl.tl.tl.tl.tl.tl.hd) [])) 1) (call c_boundary_heading_from ((s.hd,(s.tl.tl.tl.tl.tl.tl.hd,s.tl.tl.tl.tl.tl.tl.tl.hd)):(Int×(Int×Int))) fun (v19:(Int×Int)) =>
 br (an (cm .eql v19.1 s.tl.tl.tl.tl.hd) (cm .eql v19.2 s.tl.tl.tl.tl.tl.hd)) (some (.out ⟨s.tl.hd,⟨s.tl.tl.hd,⟨(md (a:=(.p I I)) (b:=(.ls I)) s.tl.tl.tl.hd (s.tl.tl.tl.tl.tl.tl.hd,s.tl.tl.tl.tl.tl.tl.tl.hd)),⟨s.tl.tl.tl.tl.tl.tl.tl.tl.hd,⟨s.tl.tl.tl.tl.tl.tl.tl.tl.tl.hd,⟨s.tl.tl.tl.tl.tl.tl.tl.tl.tl.tl.hd,()⟩⟩⟩⟩⟩⟩))
 (call c_boundary_heading_left (s.hd:Int) fun (v20:Int) =>
 call c_boundary_heading_right (s.hd:Int) fun (v21:Int) =>
 loop (t_boundary_Trace_L8 a) ⟨s.hd,⟨v20,⟨s.hd,⟨v21,⟨0,⟨s.tl.hd,⟨s.tl.tl.hd,⟨(md (a:=(.p I I)) (b:=(.ls I)) s.tl.tl.tl.hd (s.tl.tl.tl.tl.tl.tl.hd,s.tl.tl.tl.tl.tl.tl.tl.hd)),⟨s.tl.tl.tl.tl.hd,⟨s.tl.tl.tl.tl.tl.hd,⟨v19.1,⟨v19.2,⟨s.tl.tl.tl.tl.tl.tl.tl.tl.hd,⟨s.tl.tl.tl.tl.tl.tl.tl.tl.tl.hd,⟨s.tl.tl.tl.tl.tl.tl.tl.tl.tl.tl.hd,()⟩⟩⟩⟩⟩⟩⟩⟩⟩⟩⟩⟩⟩⟩⟩ fun v25 =>
 some (.go ⟨v25.hd,⟨v25.tl.hd,⟨v25.tl.tl.hd,⟨v25.tl.tl.tl.hd,⟨v25.tl.tl.tl.tl.hd,⟨v25.tl.tl.tl.tl.tl.hd,⟨v25.tl.tl.tl.tl.tl.tl.hd,⟨v25.tl.tl.tl.tl.tl.tl.tl.hd,⟨v25.tl.tl.tl.tl.tl.tl.tl.tl.hd,⟨v25.tl.tl.tl.tl.tl.tl.tl.tl.tl.hd,⟨v25.tl.tl.tl.tl.tl.tl.tl.tl.tl.tl.hd,()⟩⟩⟩⟩⟩⟩⟩⟩⟩⟩⟩)))
 (gd (ft 8 (ln (mg (a:=(.p I I)) (b:=(.ls I)) s.tl.tl.tl.hd (s.tl.tl.tl.tl.tl.tl.hd,s.tl.tl.tl.tl.tl.tl.tl.hd) []))) <|
 gd (an (ib v18 (ln (mg (a:=(.p I I)) (b:=(.ls I)) s.tl.tl.tl.hd (s.tl.tl.tl.tl.tl.tl.hd,s.tl.tl.tl.tl.tl.tl.tl.hd) []))) (an (le (pl v18 1) (ar .add .i64 v18 1)) (le (ar .add .i64 v18 1) (ln (mg (a:=(.p I I)) (b:=(.ls I)) s.tl.tl.tl.hd (s.tl.tl.tl.tl.tl.tl.hd,s.tl.tl.tl.tl.tl.tl.tl.hd) []))))) <|
 call c_boundary_heading_from ((s.hd,(s.tl.tl.tl.tl.tl.tl.hd,s.tl.tl.tl.tl.tl.tl.tl.hd)):(Int×(Int×Int))) fun (v26:(Int×Int)) =>
 br (an (cm .eql v26.1 s.tl.tl.tl.tl.hd) (cm .eql v26.2 s.tl.tl.tl.tl.tl.hd)) (some (.out ⟨s.tl.hd,⟨s.tl.tl.hd,⟨(ms (a:=(.p I I)) (b:=(.ls I)) s.tl.tl.tl.hd (s.tl.tl.tl.tl.tl.tl.hd,s.tl.tl.tl.tl.tl.tl.tl.hd) (ap (ct (mg (a:=(.p I I)) (b:=(.ls I)) s.tl.tl.tl.hd (s.tl.tl.tl.tl.tl.tl.hd,s.tl.tl.tl.tl.tl.tl.tl.hd) []) 0 v18) (ct (mg (a:=(.p I I)) (b:=(.ls I)) s.tl.tl.tl.hd (s.tl.tl.tl.tl.tl.tl.hd,s.tl.tl.tl.tl.tl.tl.tl.hd) []) (ar .add .i64 v18 1) (mi (ln (mg (a:=(.p I I)) (b:=(.ls I)) s.tl.tl.tl.hd (s.tl.tl.tl.tl.tl.tl.hd,s.tl.tl.tl.tl.tl.tl.tl.hd) [])) (ar .add .i64 v18 1))))),⟨s.tl.tl.tl.tl.tl.tl.tl.tl.hd,⟨s.tl.tl.tl.tl.tl.tl.tl.tl.tl.hd,⟨s.tl.tl.tl.tl.tl.tl.tl.tl.tl.tl.hd,()⟩⟩⟩⟩⟩⟩))
 (call c_boundary_heading_left (s.hd:Int) fun (v27:Int) =>
 call c_boundary_heading_right (s.hd:Int) fun (v28:Int) =>
 loop (t_boundary_Trace_L9 a) ⟨s.hd,⟨v27,⟨s.hd,⟨v28,⟨0,⟨s.tl.hd,⟨s.tl.tl.hd,⟨(ms (a:=(.p I I)) (b:=(.ls I)) s.tl.tl.tl.hd (s.tl.tl.tl.tl.tl.tl.hd,s.tl.tl.tl.tl.tl.tl.tl.hd) (ap (ct (mg (a:=(.p I I)) (b:=(.ls I)) s.tl.tl.tl.hd (s.tl.tl.tl.tl.tl.tl.hd,s.tl.tl.tl.tl.tl.tl.tl.hd) []) 0 v18) (ct (mg (a:=(.p I I)) (b:=(.ls I)) s.tl.tl.tl.hd (s.tl.tl.tl.tl.tl.tl.hd,s.tl.tl.tl.tl.tl.tl.tl.hd) []) (ar .add .i64 v18 1) (mi (ln (mg (a:=(.p I I)) (b:=(.ls I)) s.tl.tl.tl.hd (s.tl.tl.tl.tl.tl.tl.hd,s.tl.tl.tl.tl.tl.tl.tl.hd) [])) (ar .add .i64 v18 1))))),⟨s.tl.tl.tl.tl.hd,⟨s.tl.tl.tl.tl.tl.hd,⟨v26.1,⟨v26.2,⟨s.tl.tl.tl.tl.tl.tl.tl.tl.hd,⟨s.tl.tl.tl.tl.tl.tl.tl.tl.tl.hd,⟨s.tl.tl.tl.tl.tl.tl.tl.tl.tl.tl.hd,()⟩⟩⟩⟩⟩⟩⟩⟩⟩⟩⟩⟩⟩⟩⟩ fun v32 =>
 some (.go ⟨v32.hd,⟨v32.tl.hd,⟨v32.tl.tl.hd,⟨v32.tl.tl.tl.hd,⟨v32.tl.tl.tl.tl.hd,⟨v32.tl.tl.tl.tl.tl.hd,⟨v32.tl.tl.tl.tl.tl.tl.hd,⟨v32.tl.tl.tl.tl.tl.tl.tl.hd,⟨v32.tl.tl.tl.tl.tl.tl.tl.tl.hd,⟨v32.tl.tl.tl.tl.tl.tl.tl.tl.tl.hd,⟨v32.tl.tl.tl.tl.tl.tl.tl.tl.tl.tl.hd,()⟩⟩⟩⟩⟩⟩⟩⟩⟩⟩⟩))))
noncomputable def t_boundary_Trace_L6 [W] (a:(List (Int×(List (Int×Int))))) (s:(HP Int (HP Int (HP (List ((Int×Int)×(List Int))) (HP (List (Int×Int)) (HP (List (List (Int×Int))) Unit)))))):Option (Nx (HP Int (HP Int (HP (List ((Int×Int)×(List Int))) (HP (List (Int×Int)) (HP (List (List (Int×Int))) Unit))))) (HP (List (List (Int×Int))) Unit)) :=
 br (cm .lss s.tl.hd s.hd) (gd (ib s.tl.hd (ln s.tl.tl.tl.hd)) <|
 ge s.tl.tl.tl.hd s.tl.hd fun v16 =>
 br (cm .gtr (ln (mg (a:=(.p I I)) (b:=(.ls I)) s.tl.tl.hd (v16.1,v16.2) [])) 0) (ge (mg (a:=(.p I I)) (b:=(.ls I)) s.tl.tl.hd (v16.1,v16.2) []) 0 fun v17 =>
 loop (t_boundary_Trace_L7 a) ⟨v17,⟨s.hd,⟨s.tl.hd,⟨s.tl.tl.hd,⟨v16.1,⟨v16.2,⟨v16.1,⟨v16.2,⟨s.tl.tl.tl.hd,⟨s.tl.tl.tl.tl.hd,⟨((v16.1,v16.2)::[]),()⟩⟩⟩⟩⟩⟩⟩⟩⟩⟩⟩ fun v33 =>
 gd (ft 24 (pl (ln v33.tl.tl.tl.tl.hd) 1)) <|
 some (.go ⟨v33.hd,⟨(ar .add .i64 v33.tl.hd 1),⟨v33.tl.tl.hd,⟨v33.tl.tl.tl.hd,⟨(ap v33.tl.tl.tl.tl.hd (v33.tl.tl.tl.tl.tl.hd::[])),()⟩⟩⟩⟩⟩))
 (some (.go ⟨s.hd,⟨(ar .add .i64 s.tl.hd 1),⟨s.tl.tl.hd,⟨s.tl.tl.tl.hd,⟨s.tl.tl.tl.tl.hd,()⟩⟩⟩⟩⟩)))
 (some (.out ⟨s.tl.tl.tl.tl.hd,()⟩))
noncomputable def t_boundary_Trace [W] (a:(List (Int×(List (Int×Int))))):Option (List (List (Int×Int))) :=
 call c_region_Valid (a:(List (Int×(List (Int×Int))))) fun (v0:Bool) =>
 br (nt v0) (some [])
 (loop (t_boundary_Trace_L0 a) ⟨a,⟨(ln a),⟨0,⟨a,⟨[],()⟩⟩⟩⟩⟩ fun v13 =>
 gd (ft 16 (ln v13.hd)) <|
 mq (a:=(.p I I)) (b:=(.ls I)) v13.hd fun (v14:(List (Int×Int))) =>
 call c_s26_27 (v14:(List (Int×Int))) fun (v15:(List (Int×Int))) =>
 loop (t_boundary_Trace_L6 a) ⟨(ln v15),⟨0,⟨v13.hd,⟨v15,⟨[],()⟩⟩⟩⟩⟩ fun v34 =>
 some v34.hd)
noncomputable def c_boundary_Trace:Ctr:=⟨14,[(.ag,(.ls (.p I (.ls (.p I I)))))],[(false,(.ls (.ls (.p I I))))],@t_boundary_Trace wv⟩
theorem Jc8 (w:W) (a):fnD (dW w) (cxO (gam [(44,c_boundary_around),(45,c_runs_Subtract),(53,c_slices_Containsboundary_heading_boundary_heading_),(73,c_slices_Indexboundary_heading_boundary_heading_),(50,c_boundary_heading_from),(51,c_boundary_heading_left),(52,c_boundary_heading_right),(24,c_region_Valid)]) [] [] [s26_27] [] [(46,Jcq),(49,b_take_8_73)] [89]) 8 14 [(.ag,(.ls (.p I (.ls (.p I I)))))] [(false,(.ls (.ls (.p I I))))] a=@t_boundary_Trace w a:=by kernel_rfl
theorem Jdb:Go.Dn.Good PG c_boundary_Trace:=good (gam [(44,c_boundary_around),(45,c_runs_Subtract),(53,c_slices_Containsboundary_heading_boundary_heading_),(73,c_slices_Indexboundary_heading_boundary_heading_),(50,c_boundary_heading_from),(51,c_boundary_heading_left),(52,c_boundary_heading_right),(24,c_region_Valid)]) [] [] [s26_27] [] [(46,Jcq),(49,b_take_8_73)] [89] 8 (Jm Jcp (Jm Jei (Jm Kk (Jm Jr (Jm Zk (Jm Zx (Jm Y3 (Jm Yy Jz)))))))) (so_cons g_s26_27 Kg) (Js5 Jnz (Js5 Jj7 Ke)) (Jw (by kernel_rfl)) rfl rfl (Jc8 wv)
end Go.Proofs.Ytmfagdfkpjgeiaa
namespace Go.Proofs.Ytmfagdfkpjgeiaa
open Go Go.Vv Go.Dn Go.Dn.W
set_option linter.unusedVariables false
set_option maxRecDepth 100000
noncomputable def t_ringwalk_sign [W] (a:Int):Option Int :=
 br (cm .gtr a 0) (some 1)
 (br (cm .lss a 0) (some (-1))
 (some 0))
noncomputable def c_ringwalk_sign:Ctr:=⟨55,[(.one,I)],[(false,I)],@t_ringwalk_sign wv⟩
theorem Jeb (w:W) (a):fnD (dW w) (cxO (gam []) [] [] [] [] [] []) 8 55 [(.one,I)] [(false,I)] a=@t_ringwalk_sign w a:=by kernel_rfl
theorem Jes:Go.Dn.Good PG c_ringwalk_sign:=good (gam []) [] [] [] [] [] [] 8 Jz Kg Ke (Jw (by kernel_rfl)) rfl rfl (Jeb wv)
noncomputable def t_ringwalk_direction [W] (a:((Int×Int)×(Int×Int))):Option (Int×Int) :=
 call c_ringwalk_sign ((ar .sub .i64 a.2.1 a.1.1):Int) fun (v0:Int) =>
 call c_ringwalk_sign ((ar .sub .i64 a.2.2 a.1.2):Int) fun (v1:Int) =>
 some (v0,v1)
noncomputable def c_ringwalk_direction:Ctr:=⟨34,[(.ag,(.p I I)),(.ag,(.p I I))],[(true,(.p I I))],@t_ringwalk_direction wv⟩
theorem zy (w:W) (a):fnD (dW w) (cxO (gam [(55,c_ringwalk_sign)]) [] [] [] [] [] []) 8 34 [(.ag,(.p I I)),(.ag,(.p I I))] [(true,(.p I I))] a=@t_ringwalk_direction w a:=by kernel_rfl
theorem zu:Go.Dn.Good PG c_ringwalk_direction:=good (gam [(55,c_ringwalk_sign)]) [] [] [] [] [] [] 8 (Jm Jes Jz) Kg Ke (Jw (by kernel_rfl)) rfl rfl (zy wv)
noncomputable def t_ringwalk_left [W] (a:((Int×Int)×(Int×Int))):Option (Int×Int) :=
 br (an (cm .eql a.2.1 1) (cm .eql a.2.2 0)) (some (a.1.1,a.1.2))
 (br (an (cm .eql a.2.1 0) (cm .eql a.2.2 1)) (some ((ar .sub .i64 a.1.1 1),a.1.2))
 (br (an (cm .eql a.2.1 (-1)) (cm .eql a.2.2 0)) (some ((ar .sub .i64 a.1.1 1),(ar .sub .i64 a.1.2 1)))
 (some (a.1.1,(ar .sub .i64 a.1.2 1)))))
noncomputable def c_ringwalk_left:Ctr:=⟨36,[(.ag,(.p I I)),(.ag,(.p I I))],[(true,(.p I I))],@t_ringwalk_left wv⟩
theorem Jft (w:W) (a):fnD (dW w) (cxO (gam []) [] [] [] [] [] []) 8 36 [(.ag,(.p I I)),(.ag,(.p I I))] [(true,(.p I I))] a=@t_ringwalk_left w a:=by kernel_rfl
theorem Jdt:Go.Dn.Good PG c_ringwalk_left:=good (gam []) [] [] [] [] [] [] 8 Jz Kg Ke (Jw (by kernel_rfl)) rfl rfl (Jft wv)
noncomputable def t_ringwalk_walk_L1 [W] (s:(HP (List (Int×Int)) (HP Int (HP (List (Int×Int)) (HP Int (HP Int (HP Int (HP Int Unit)))))))):Option (Nx (HP (List (Int×Int)) (HP Int (HP (List (Int×Int)) (HP Int (HP Int (HP Int (HP Int Unit))))))) (HP (List (Int×Int)) (HP Int (HP (List (Int×Int)) (HP Int (HP Int (HP Int (HP Int Unit)))))))) :=
 gd (cm .neq (ln s.hd) 0) <|
 ge s.hd (ar .rem .i64 (ar .add .i64 s.tl.hd 1) (ln s.hd)) fun v4 =>
 br (nt (an (cm .eql s.tl.tl.tl.hd v4.1) (cm .eql s.tl.tl.tl.tl.hd v4.2))) (call c_ringwalk_left (((s.tl.tl.tl.hd,s.tl.tl.tl.tl.hd),(s.tl.tl.tl.tl.tl.hd,s.tl.tl.tl.tl.tl.tl.hd)):((Int×Int)×(Int×Int))) fun (v5:(Int×Int)) =>
 br (cm .gtr (ln s.tl.tl.hd) 0) (gd (ib (ar .sub .i64 (ln s.tl.tl.hd) 1) (ln s.tl.tl.hd)) <|
 ge s.tl.tl.hd (ar .sub .i64 (ln s.tl.tl.hd) 1) fun v6 =>
 br (an (cm .eql v6.1 v5.1) (cm .eql v6.2 v5.2)) (some (.go ⟨s.hd,⟨s.tl.hd,⟨s.tl.tl.hd,⟨(ar .add .i64 s.tl.tl.tl.hd s.tl.tl.tl.tl.tl.hd),⟨(ar .add .i64 s.tl.tl.tl.tl.hd s.tl.tl.tl.tl.tl.tl.hd),⟨s.tl.tl.tl.tl.tl.hd,⟨s.tl.tl.tl.tl.tl.tl.hd,()⟩⟩⟩⟩⟩⟩⟩))
 (gd (ft 16 (pl (ln s.tl.tl.hd) 1)) <|
 some (.go ⟨s.hd,⟨s.tl.hd,⟨(ap s.tl.tl.hd ((v5.1,v5.2)::[])),⟨(ar .add .i64 s.tl.tl.tl.hd s.tl.tl.tl.tl.tl.hd),⟨(ar .add .i64 s.tl.tl.tl.tl.hd s.tl.tl.tl.tl.tl.tl.hd),⟨s.tl.tl.tl.tl.tl.hd,⟨s.tl.tl.tl.tl.tl.tl.hd,()⟩⟩⟩⟩⟩⟩⟩)))
 (gd (ft 16 (pl (ln s.tl.tl.hd) 1)) <|
 some (.go ⟨s.hd,⟨s.tl.hd,⟨(ap s.tl.tl.hd ((v5.1,v5.2)::[])),⟨(ar .add .i64 s.tl.tl.tl.hd s.tl.tl.tl.tl.tl.hd),⟨(ar .add .i64 s.tl.tl.tl.tl.hd s.tl.tl.tl.tl.tl.tl.hd),⟨s.tl.tl.tl.tl.tl.hd,⟨s.tl.tl.tl.tl.tl.tl.hd,()⟩⟩⟩⟩⟩⟩⟩)))
 (some (.out ⟨s.hd,⟨s.tl.hd,⟨s.tl.tl.hd,⟨s.tl.tl.tl.hd,⟨s.tl.tl.tl.tl.hd,⟨s.tl.tl.tl.tl.tl.hd,⟨s.tl.tl.tl.tl.tl.tl.hd,()⟩⟩⟩⟩⟩⟩⟩))
noncomputable def t_ringwalk_walk_L0 [W] (s:(HP (List (Int×Int)) (HP Int (HP Int (HP Int (HP Int (HP Int (HP (List (Int×Int)) Unit)))))))):Option (Nx (HP (List (Int×Int)) (HP Int (HP Int (HP Int (HP Int (HP Int (HP (List (Int×Int)) Unit))))))) (HP (List (Int×Int)) Unit)) :=
 loop t_ringwalk_walk_L1 ⟨s.hd,⟨s.tl.hd,⟨s.tl.tl.tl.tl.tl.tl.hd,⟨s.tl.tl.hd,⟨s.tl.tl.tl.hd,⟨s.tl.tl.tl.tl.hd,⟨s.tl.tl.tl.tl.tl.hd,()⟩⟩⟩⟩⟩⟩⟩ fun v7 =>
 gd (cm .neq (ln v7.hd) 0) <|
 ge v7.hd (ar .rem .i64 (ar .add .i64 v7.tl.hd 1) (ln v7.hd)) fun v8 =>
 gd (cm .neq (ln v7.hd) 0) <|
 ge v7.hd (ar .rem .i64 (ar .add .i64 (ar .add .i64 v7.tl.hd 1) 1) (ln v7.hd)) fun v9 =>
 call c_ringwalk_direction (((v8.1,v8.2),(v9.1,v9.2)):((Int×Int)×(Int×Int))) fun (v10:(Int×Int)) =>
 br (cm .lss (ar .sub .i64 (ar .mul .i64 v7.tl.tl.tl.tl.tl.hd v10.2) (ar .mul .i64 v7.tl.tl.tl.tl.tl.tl.hd v10.1)) 0) (call c_ringwalk_left ((((ar .sub .i64 v7.tl.tl.tl.hd v7.tl.tl.tl.tl.tl.hd),(ar .sub .i64 v7.tl.tl.tl.tl.hd v7.tl.tl.tl.tl.tl.tl.hd)),(v7.tl.tl.tl.tl.tl.hd,v7.tl.tl.tl.tl.tl.tl.hd)):((Int×Int)×(Int×Int))) fun (v11:(Int×Int)) =>
 br (cm .gtr (ln v7.tl.tl.hd) 0) (gd (ib (ar .sub .i64 (ln v7.tl.tl.hd) 1) (ln v7.tl.tl.hd)) <|
 ge v7.tl.tl.hd (ar .sub .i64 (ln v7.tl.tl.hd) 1) fun v12 =>
 br (an (cm .eql v12.1 (ar .add .i64 v11.1 v7.tl.tl.tl.tl.tl.hd)) (cm .eql v12.2 (ar .add .i64 v11.2 v7.tl.tl.tl.tl.tl.tl.hd))) (br (cm .eql (ar .add .i64 v7.tl.hd 1) (ln v7.hd)) (some (.out ⟨v7.tl.tl.hd,()⟩))
 (some (.go ⟨v7.hd,⟨(ar .add .i64 v7.tl.hd 1),⟨v7.tl.tl.tl.hd,⟨v7.tl.tl.tl.tl.hd,⟨v10.1,⟨v10.2,⟨v7.tl.tl.hd,()⟩⟩⟩⟩⟩⟩⟩)))
 (gd (ft 16 (pl (ln v7.tl.tl.hd) 1)) <|
 br (cm .eql (ar .add .i64 v7.tl.hd 1) (ln v7.hd)) (some (.out ⟨(ap v7.tl.tl.hd (((ar .add .i64 v11.1 v7.tl.tl.tl.tl.tl.hd),(ar .add .i64 v11.2 v7.tl.tl.tl.tl.tl.tl.hd))::[])),()⟩))
 (some (.go ⟨v7.hd,⟨(ar .add .i64 v7.tl.hd 1),⟨v7.tl.tl.tl.hd,⟨v7.tl.tl.tl.tl.hd,⟨v10.1,⟨v10.2,⟨(ap v7.tl.tl.hd (((ar .add .i64 v11.1 v7.tl.tl.tl.tl.tl.hd),(ar .add .i64 v11.2 v7.tl.tl.tl.tl.tl.tl.hd))::[])),()⟩⟩⟩⟩⟩⟩⟩))))
 (gd (ft 16 (pl (ln v7.tl.tl.hd) 1)) <|
 br (cm .eql (ar .add .i64 v7.tl.hd 1) (ln v7.hd)) (some (.out ⟨(ap v7.tl.tl.hd (((ar .add .i64 v11.1 v7.tl.tl.tl.tl.tl.hd),(ar .add .i64 v11.2 v7.tl.tl.tl.tl.tl.tl.hd))::[])),()⟩))
 (some (.go ⟨v7.hd,⟨(ar .add .i64 v7.tl.hd 1),⟨v7.tl.tl.tl.hd,⟨v7.tl.tl.tl.tl.hd,⟨v10.1,⟨v10.2,⟨(ap v7.tl.tl.hd (((ar .add .i64 v11.1 v7.tl.tl.tl.tl.tl.hd),(ar .add .i64 v11.2 v7.tl.tl.tl.tl.tl.tl.hd))::[])),()⟩⟩⟩⟩⟩⟩⟩))))
 (br (cm .eql (ar .add .i64 v7.tl.hd 1) (ln v7.hd)) (some (.out ⟨v7.tl.tl.hd,()⟩))
 (some (.go ⟨v7.hd,⟨(ar .add .i64 v7.tl.hd 1),⟨v7.tl.tl.tl.hd,⟨v7.tl.tl.tl.tl.hd,⟨v10.1,⟨v10.2,⟨v7.tl.tl.hd,()⟩⟩⟩⟩⟩⟩⟩)))
noncomputable def t_ringwalk_walk [W] (a:(List (Int×Int))):Option (List (Int×Int)) :=
 ge a 0 fun v0 =>
 ge a 0 fun v1 =>
 ge a 1 fun v2 =>
 call c_ringwalk_direction (((v1.1,v1.2),(v2.1,v2.2)):((Int×Int)×(Int×Int))) fun (v3:(Int×Int)) =>
 loop t_ringwalk_walk_L0 ⟨a,⟨0,⟨v0.1,⟨v0.2,⟨v3.1,⟨v3.2,⟨[],()⟩⟩⟩⟩⟩⟩⟩ fun v13 =>
 br (cm .gtr (ln v13.hd) 1) (gd (ib 0 (ln v13.hd)) <|
 ge v13.hd 0 fun v14 =>
 gd (ib (ar .sub .i64 (ln v13.hd) 1) (ln v13.hd)) <|
 ge v13.hd (ar .sub .i64 (ln v13.hd) 1) fun v15 =>
 br (an (cm .eql v14.1 v15.1) (cm .eql v14.2 v15.2)) (gd (le 0 (ar .sub .i64 (ln v13.hd) 1)) <|
 gd (le (ar .sub .i64 (ln v13.hd) 1) (ln v13.hd)) <|
 gd (le 0 0) <|
 gd (le 0 (ar .sub .i64 (ln v13.hd) 1)) <|
 gd (le (pl 0 (ar .sub .i64 (ln v13.hd) 1)) (ln v13.hd)) <|
 some (ct v13.hd 0 (ar .sub .i64 (ln v13.hd) 1)))
 (some v13.hd))
 (some v13.hd)
noncomputable def c_ringwalk_walk:Ctr:=⟨18,[(.one,(.ls (.p I I)))],[(false,(.ls (.p I I)))],@t_ringwalk_walk wv⟩
theorem Jez (w:W) (a):fnD (dW w) (cxO (gam [(36,c_ringwalk_left),(34,c_ringwalk_direction)]) [] [] [] [] [] []) 8 18 [(.one,(.ls (.p I I)))] [(false,(.ls (.p I I)))] a=@t_ringwalk_walk w a:=by kernel_rfl
theorem Je1:Go.Dn.Good PG c_ringwalk_walk:=good (gam [(36,c_ringwalk_left),(34,c_ringwalk_direction)]) [] [] [] [] [] [] 8 (Jm Jdt (Jm zu Jz)) Kg Ke (Jw (by kernel_rfl)) rfl rfl (Jez wv)
noncomputable def t_ringwalk_Walk_L0 [W] (s:(HP (List (List (Int×Int))) (HP Int (HP Int (HP (List (Int×(Bool×(List (Int×Int))))) Unit))))):Option (Nx (HP (List (List (Int×Int))) (HP Int (HP Int (HP (List (Int×(Bool×(List (Int×Int))))) Unit)))) (HP (List (Int×(Bool×(List (Int×Int))))) Unit)) :=
 br (cm .lss s.tl.tl.hd s.tl.hd) (ge s.hd s.tl.tl.hd fun v1 =>
 call c_ringwalk_walk (v1:(List (Int×Int))) fun (v2:(List (Int×Int))) =>
 br (cm .leq (ln v2) 65536) (gd (ft 40 (pl (ln s.tl.tl.tl.hd) 1)) <|
 some (.go ⟨s.hd,⟨s.tl.hd,⟨(ar .add .i64 s.tl.tl.hd 1),⟨(ap s.tl.tl.tl.hd ((1,(true,v2))::[])),()⟩⟩⟩⟩))
 (some (.go ⟨s.hd,⟨s.tl.hd,⟨(ar .add .i64 s.tl.tl.hd 1),⟨s.tl.tl.tl.hd,()⟩⟩⟩⟩)))
 (some (.out ⟨s.tl.tl.tl.hd,()⟩))
noncomputable def t_ringwalk_Walk [W] (a:(List (Int×(List (Int×Int))))):Option (List (Int×(Bool×(List (Int×Int))))) :=
 call c_boundary_Trace (a:(List (Int×(List (Int×Int))))) fun (v0:(List (List (Int×Int)))) =>
 loop t_ringwalk_Walk_L0 ⟨v0,⟨(ln v0),⟨0,⟨[],()⟩⟩⟩⟩ fun v3 =>
 some v3.hd
noncomputable def c_ringwalk_Walk:Ctr:=⟨10,[(.ag,(.ls (.p I (.ls (.p I I)))))],[(false,(.ls (.p I (.p .bool (.ls (.p I I))))))],@t_ringwalk_Walk wv⟩
theorem Jd4 (w:W) (a):fnD (dW w) (cxO (gam [(18,c_ringwalk_walk),(14,c_boundary_Trace)]) [] [] [] [] [] []) 8 10 [(.ag,(.ls (.p I (.ls (.p I I)))))] [(false,(.ls (.p I (.p .bool (.ls (.p I I))))))] a=@t_ringwalk_Walk w a:=by kernel_rfl
theorem jl:Go.Dn.Good PG c_ringwalk_Walk:=good (gam [(18,c_ringwalk_walk),(14,c_boundary_Trace)]) [] [] [] [] [] [] 8 (Jm Je1 (Jm Jdb Jz)) Kg Ke (Jw (by kernel_rfl)) rfl rfl (Jd4 wv)
end Go.Proofs.Ytmfagdfkpjgeiaa
