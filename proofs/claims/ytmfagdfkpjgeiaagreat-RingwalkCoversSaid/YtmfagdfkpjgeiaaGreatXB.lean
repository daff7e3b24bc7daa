/- The typed texts of functions, and that they are right. Conditions: none. -/
import Derived.Test.YtmfagdfkpjgeiaaGreatXA
set_option linter.unusedVariables false
set_option linter.unusedSimpArgs false
set_option maxRecDepth 100000
namespace Go.Proofs.YtmfagdfkpjgeiaaGreat
open Go Go.Vv Go.Dn Go.Dn.W
noncomputable def Q5 [W] (a:(List (Int×(List (Int×Int))))) (s:(HP (List (Int×Int)) (HP Int (HP (List (Int×(List (Int×Int)))) (HP Int (HP Int (HP (List (Int×Int)) (HP Int (HP Int (HP (List (Int×(List (Int×Int)))) (HP Int (HP (List (Int×Int)) (HP Int (HP Int (HP (List ((Int×Int)×(List Int))) Unit))))))))))))))):Option (Nx (HP (List (Int×Int)) (HP Int (HP (List (Int×(List (Int×Int)))) (HP Int (HP Int (HP (List (Int×Int)) (HP Int (HP Int (HP (List (Int×(List (Int×Int)))) (HP Int (HP (List (Int×Int)) (HP Int (HP Int (HP (List ((Int×Int)×(List Int))) Unit)))))))))))))) (HP (List (Int×Int)) (HP (List (Int×(List (Int×Int)))) (HP Int (HP Int (HP (List (Int×Int)) (HP Int (HP Int (HP (List (Int×(List (Int×Int)))) (HP Int (HP (List (Int×Int)) (HP (List ((Int×Int)×(List Int))) Unit)))))))))))) :=
 br (cm .lss s.tl.hd s.tl.tl.tl.tl.tl.tl.tl.tl.tl.tl.tl.tl.hd) (gd (ft 8 (pl (ln (mg (a:=(.p I I)) (b:=(.ls I)) s.tl.tl.tl.tl.tl.tl.tl.tl.tl.tl.tl.tl.tl.hd (s.tl.hd,s.tl.tl.tl.tl.tl.tl.tl.tl.tl.hd) [])) 1)) <|
 some (.go ⟨s.hd,⟨(ar .add .i64 s.tl.hd 1),⟨s.tl.tl.hd,⟨s.tl.tl.tl.hd,⟨s.tl.tl.tl.tl.hd,⟨s.tl.tl.tl.tl.tl.hd,⟨s.tl.tl.tl.tl.tl.tl.hd,⟨s.tl.tl.tl.tl.tl.tl.tl.hd,⟨s.tl.tl.tl.tl.tl.tl.tl.tl.hd,⟨s.tl.tl.tl.tl.tl.tl.tl.tl.tl.hd,⟨s.tl.tl.tl.tl.tl.tl.tl.tl.tl.tl.hd,⟨s.tl.tl.tl.tl.tl.tl.tl.tl.tl.tl.tl.hd,⟨s.tl.tl.tl.tl.tl.tl.tl.tl.tl.tl.tl.tl.hd,⟨(ms (a:=(.p I I)) (b:=(.ls I)) s.tl.tl.tl.tl.tl.tl.tl.tl.tl.tl.tl.tl.tl.hd (s.tl.hd,s.tl.tl.tl.tl.tl.tl.tl.tl.tl.hd) (ap (mg (a:=(.p I I)) (b:=(.ls I)) s.tl.tl.tl.tl.tl.tl.tl.tl.tl.tl.tl.tl.tl.hd (s.tl.hd,s.tl.tl.tl.tl.tl.tl.tl.tl.tl.hd) []) ((0:Int)::[]))),()⟩⟩⟩⟩⟩⟩⟩⟩⟩⟩⟩⟩⟩⟩))
 (some (.out ⟨s.hd,⟨s.tl.tl.hd,⟨s.tl.tl.tl.hd,⟨s.tl.tl.tl.tl.hd,⟨s.tl.tl.tl.tl.tl.hd,⟨s.tl.tl.tl.tl.tl.tl.hd,⟨s.tl.tl.tl.tl.tl.tl.tl.hd,⟨s.tl.tl.tl.tl.tl.tl.tl.tl.hd,⟨s.tl.tl.tl.tl.tl.tl.tl.tl.tl.hd,⟨s.tl.tl.tl.tl.tl.tl.tl.tl.tl.tl.hd,⟨s.tl.tl.tl.tl.tl.tl.tl.tl.tl.tl.tl.tl.tl.hd,()⟩⟩⟩⟩⟩⟩⟩⟩⟩⟩⟩))
noncomputable def Q1 [W] (a:(List (Int×(List (Int×Int))))) (s:(HP (List (Int×Int)) (HP (List (Int×(List (Int×Int)))) (HP Int (HP Int (HP (List (Int×Int)) (HP Int (HP Int (HP (List (Int×(List (Int×Int)))) (HP Int (HP (List (Int×Int)) (HP (List ((Int×Int)×(List Int))) Unit)))))))))))):Option (Nx (HP (List (Int×Int)) (HP (List (Int×(List (Int×Int)))) (HP Int (HP Int (HP (List (Int×Int)) (HP Int (HP Int (HP (List (Int×(List (Int×Int)))) (HP Int (HP (List (Int×Int)) (HP (List ((Int×Int)×(List Int))) Unit))))))))))) (HP (List (Int×Int)) (HP (List (Int×(List (Int×Int)))) (HP Int (HP Int (HP (List (Int×(List (Int×Int)))) (HP Int (HP (List (Int×Int)) (HP (List ((Int×Int)×(List Int))) Unit))))))))) :=
 br (cm .lss s.tl.tl.tl.tl.tl.tl.hd s.tl.tl.tl.tl.tl.hd) (ge s.tl.tl.tl.tl.hd s.tl.tl.tl.tl.tl.tl.hd fun v4 =>
 loop (Q5 a) ⟨s.hd,⟨v4.1,⟨s.tl.hd,⟨s.tl.tl.hd,⟨s.tl.tl.tl.hd,⟨s.tl.tl.tl.tl.hd,⟨s.tl.tl.tl.tl.tl.hd,⟨s.tl.tl.tl.tl.tl.tl.hd,⟨s.tl.tl.tl.tl.tl.tl.tl.hd,⟨s.tl.tl.tl.tl.tl.tl.tl.tl.hd,⟨s.tl.tl.tl.tl.tl.tl.tl.tl.tl.hd,⟨v4.1,⟨v4.2,⟨s.tl.tl.tl.tl.tl.tl.tl.tl.tl.tl.hd,()⟩⟩⟩⟩⟩⟩⟩⟩⟩⟩⟩⟩⟩⟩ fun v5 =>
 some (.go ⟨v5.hd,⟨v5.tl.hd,⟨v5.tl.tl.hd,⟨v5.tl.tl.tl.hd,⟨v5.tl.tl.tl.tl.hd,⟨v5.tl.tl.tl.tl.tl.hd,⟨(ar .add .i64 v5.tl.tl.tl.tl.tl.tl.hd 1),⟨v5.tl.tl.tl.tl.tl.tl.tl.hd,⟨v5.tl.tl.tl.tl.tl.tl.tl.tl.hd,⟨v5.tl.tl.tl.tl.tl.tl.tl.tl.tl.hd,⟨v5.tl.tl.tl.tl.tl.tl.tl.tl.tl.tl.hd,()⟩⟩⟩⟩⟩⟩⟩⟩⟩⟩⟩))
 (some (.out ⟨s.hd,⟨s.tl.hd,⟨s.tl.tl.hd,⟨s.tl.tl.tl.hd,⟨s.tl.tl.tl.tl.tl.tl.tl.hd,⟨s.tl.tl.tl.tl.tl.tl.tl.tl.hd,⟨s.tl.tl.tl.tl.tl.tl.tl.tl.tl.hd,⟨s.tl.tl.tl.tl.tl.tl.tl.tl.tl.tl.hd,()⟩⟩⟩⟩⟩⟩⟩⟩))
noncomputable def Qw [W] (a:(List (Int×(List (Int×Int))))) (s:(HP Int (HP (List (Int×(List (Int×Int)))) (HP Int (HP Int (HP (List (Int×Int)) (HP Int (HP Int (HP (List (Int×(List (Int×Int)))) (HP Int (HP (List (Int×Int)) (HP Int (HP Int (HP (List ((Int×Int)×(List Int))) Unit)))))))))))))):Option (Nx (HP Int (HP (List (Int×(List (Int×Int)))) (HP Int (HP Int (HP (List (Int×Int)) (HP Int (HP Int (HP (List (Int×(List (Int×Int)))) (HP Int (HP (List (Int×Int)) (HP Int (HP Int (HP (List ((Int×Int)×(List Int))) Unit))))))))))))) (HP (List (Int×(List (Int×Int)))) (HP Int (HP Int (HP (List (Int×Int)) (HP Int (HP Int (HP (List (Int×(List (Int×Int)))) (HP Int (HP (List (Int×Int)) (HP (List ((Int×Int)×(List Int))) Unit))))))))))) :=
 br (cm .lss s.hd s.tl.tl.tl.tl.tl.tl.tl.tl.tl.tl.tl.hd) (gd (ft 8 (pl (ln (mg (a:=(.p I I)) (b:=(.ls I)) s.tl.tl.tl.tl.tl.tl.tl.tl.tl.tl.tl.tl.hd ((ar .add .i64 s.hd 1),(ar .add .i64 s.tl.tl.tl.tl.tl.tl.tl.tl.hd 1)) [])) 1)) <|
 some (.go ⟨(ar .add .i64 s.hd 1),⟨s.tl.hd,⟨s.tl.tl.hd,⟨s.tl.tl.tl.hd,⟨s.tl.tl.tl.tl.hd,⟨s.tl.tl.tl.tl.tl.hd,⟨s.tl.tl.tl.tl.tl.tl.hd,⟨s.tl.tl.tl.tl.tl.tl.tl.hd,⟨s.tl.tl.tl.tl.tl.tl.tl.tl.hd,⟨s.tl.tl.tl.tl.tl.tl.tl.tl.tl.hd,⟨s.tl.tl.tl.tl.tl.tl.tl.tl.tl.tl.hd,⟨s.tl.tl.tl.tl.tl.tl.tl.tl.tl.tl.tl.hd,⟨(ms (a:=(.p I I)) (b:=(.ls I)) s.tl.tl.tl.tl.tl.tl.tl.tl.tl.tl.tl.tl.hd ((ar .add .i64 s.hd 1),(ar .add .i64 s.tl.tl.tl.tl.tl.tl.tl.tl.hd 1)) (ap (mg (a:=(.p I I)) (b:=(.ls I)) s.tl.tl.tl.tl.tl.tl.tl.tl.tl.tl.tl.tl.hd ((ar .add .i64 s.hd 1),(ar .add .i64 s.tl.tl.tl.tl.tl.tl.tl.tl.hd 1)) []) ((2:Int)::[]))),()⟩⟩⟩⟩⟩⟩⟩⟩⟩⟩⟩⟩⟩))
 (some (.out ⟨s.tl.hd,⟨s.tl.tl.hd,⟨s.tl.tl.tl.hd,⟨s.tl.tl.tl.tl.hd,⟨s.tl.tl.tl.tl.tl.hd,⟨s.tl.tl.tl.tl.tl.tl.hd,⟨s.tl.tl.tl.tl.tl.tl.tl.hd,⟨s.tl.tl.tl.tl.tl.tl.tl.tl.hd,⟨s.tl.tl.tl.tl.tl.tl.tl.tl.tl.hd,⟨s.tl.tl.tl.tl.tl.tl.tl.tl.tl.tl.tl.tl.hd,()⟩⟩⟩⟩⟩⟩⟩⟩⟩⟩))
noncomputable def Qz [W] (a:(List (Int×(List (Int×Int))))) (s:(HP (List (Int×(List (Int×Int)))) (HP Int (HP Int (HP (List (Int×Int)) (HP Int (HP Int (HP (List (Int×(List (Int×Int)))) (HP Int (HP (List (Int×Int)) (HP (List ((Int×Int)×(List Int))) Unit))))))))))):Option (Nx (HP (List (Int×(List (Int×Int)))) (HP Int (HP Int (HP (List (Int×Int)) (HP Int (HP Int (HP (List (Int×(List (Int×Int)))) (HP Int (HP (List (Int×Int)) (HP (List ((Int×Int)×(List Int))) Unit)))))))))) (HP (List (Int×(List (Int×Int)))) (HP Int (HP Int (HP (List (Int×(List (Int×Int)))) (HP Int (HP (List (Int×Int)) (HP (List ((Int×Int)×(List Int))) Unit)))))))) :=
 br (cm .lss s.tl.tl.tl.tl.tl.hd s.tl.tl.tl.tl.hd) (ge s.tl.tl.tl.hd s.tl.tl.tl.tl.tl.hd fun v8 =>
 loop (Qw a) ⟨v8.1,⟨s.hd,⟨s.tl.hd,⟨s.tl.tl.hd,⟨s.tl.tl.tl.hd,⟨s.tl.tl.tl.tl.hd,⟨s.tl.tl.tl.tl.tl.hd,⟨s.tl.tl.tl.tl.tl.tl.hd,⟨s.tl.tl.tl.tl.tl.tl.tl.hd,⟨s.tl.tl.tl.tl.tl.tl.tl.tl.hd,⟨v8.1,⟨v8.2,⟨s.tl.tl.tl.tl.tl.tl.tl.tl.tl.hd,()⟩⟩⟩⟩⟩⟩⟩⟩⟩⟩⟩⟩⟩ fun v9 =>
 some (.go ⟨v9.hd,⟨v9.tl.hd,⟨v9.tl.tl.hd,⟨v9.tl.tl.tl.hd,⟨v9.tl.tl.tl.tl.hd,⟨(ar .add .i64 v9.tl.tl.tl.tl.tl.hd 1),⟨v9.tl.tl.tl.tl.tl.tl.hd,⟨v9.tl.tl.tl.tl.tl.tl.tl.hd,⟨v9.tl.tl.tl.tl.tl.tl.tl.tl.hd,⟨v9.tl.tl.tl.tl.tl.tl.tl.tl.tl.hd,()⟩⟩⟩⟩⟩⟩⟩⟩⟩⟩))
 (some (.out ⟨s.hd,⟨s.tl.hd,⟨s.tl.tl.hd,⟨s.tl.tl.tl.tl.tl.tl.hd,⟨s.tl.tl.tl.tl.tl.tl.tl.hd,⟨s.tl.tl.tl.tl.tl.tl.tl.tl.hd,⟨s.tl.tl.tl.tl.tl.tl.tl.tl.tl.hd,()⟩⟩⟩⟩⟩⟩⟩))
noncomputable def Q0 [W] (a:(List (Int×(List (Int×Int))))) (s:(HP (List (Int×(List (Int×Int)))) (HP Int (HP Int (HP (List (Int×Int)) (HP Int (HP Int (HP (List (Int×(List (Int×Int)))) (HP Int (HP (List (Int×Int)) (HP (List ((Int×Int)×(List Int))) Unit))))))))))):Option (Nx (HP (List (Int×(List (Int×Int)))) (HP Int (HP Int (HP (List (Int×Int)) (HP Int (HP Int (HP (List (Int×(List (Int×Int)))) (HP Int (HP (List (Int×Int)) (HP (List ((Int×Int)×(List Int))) Unit)))))))))) (HP (List (Int×(List (Int×Int)))) (HP Int (HP Int (HP (List (Int×(List (Int×Int)))) (HP (List ((Int×Int)×(List Int))) Unit)))))) :=
 br (cm .lss s.tl.tl.tl.tl.tl.hd s.tl.tl.tl.tl.hd) (ge s.tl.tl.tl.hd s.tl.tl.tl.tl.tl.hd fun v11 =>
 gd (ft 8 (pl (ln (mg (a:=(.p I I)) (b:=(.ls I)) s.tl.tl.tl.tl.tl.tl.tl.tl.tl.hd (v11.2,s.tl.tl.tl.tl.tl.tl.tl.hd) [])) 1)) <|
 gd (ft 8 (pl (ln (mg (a:=(.p I I)) (b:=(.ls I)) (ms (a:=(.p I I)) (b:=(.ls I)) s.tl.tl.tl.tl.tl.tl.tl.tl.tl.hd (v11.2,s.tl.tl.tl.tl.tl.tl.tl.hd) (ap (mg (a:=(.p I I)) (b:=(.ls I)) s.tl.tl.tl.tl.tl.tl.tl.tl.tl.hd (v11.2,s.tl.tl.tl.tl.tl.tl.tl.hd) []) ((1:Int)::[]))) (v11.1,(ar .add .i64 s.tl.tl.tl.tl.tl.tl.tl.hd 1)) [])) 1)) <|
 some (.go ⟨s.hd,⟨s.tl.hd,⟨s.tl.tl.hd,⟨s.tl.tl.tl.hd,⟨s.tl.tl.tl.tl.hd,⟨(ar .add .i64 s.tl.tl.tl.tl.tl.hd 1),⟨s.tl.tl.tl.tl.tl.tl.hd,⟨s.tl.tl.tl.tl.tl.tl.tl.hd,⟨s.tl.tl.tl.tl.tl.tl.tl.tl.hd,⟨(ms (a:=(.p I I)) (b:=(.ls I)) (ms (a:=(.p I I)) (b:=(.ls I)) s.tl.tl.tl.tl.tl.tl.tl.tl.tl.hd (v11.2,s.tl.tl.tl.tl.tl.tl.tl.hd) (ap (mg (a:=(.p I I)) (b:=(.ls I)) s.tl.tl.tl.tl.tl.tl.tl.tl.tl.hd (v11.2,s.tl.tl.tl.tl.tl.tl.tl.hd) []) ((1:Int)::[]))) (v11.1,(ar .add .i64 s.tl.tl.tl.tl.tl.tl.tl.hd 1)) (ap (mg (a:=(.p I I)) (b:=(.ls I)) (ms (a:=(.p I I)) (b:=(.ls I)) s.tl.tl.tl.tl.tl.tl.tl.tl.tl.hd (v11.2,s.tl.tl.tl.tl.tl.tl.tl.hd) (ap (mg (a:=(.p I I)) (b:=(.ls I)) s.tl.tl.tl.tl.tl.tl.tl.tl.tl.hd (v11.2,s.tl.tl.tl.tl.tl.tl.tl.hd) []) ((1:Int)::[]))) (v11.1,(ar .add .i64 s.tl.tl.tl.tl.tl.tl.tl.hd 1)) []) ((3:Int)::[]))),()⟩⟩⟩⟩⟩⟩⟩⟩⟩⟩))
 (some (.out ⟨s.hd,⟨s.tl.hd,⟨s.tl.tl.hd,⟨s.tl.tl.tl.tl.tl.tl.hd,⟨s.tl.tl.tl.tl.tl.tl.tl.tl.tl.hd,()⟩⟩⟩⟩⟩))
noncomputable def Qc [W] (a:(List (Int×(List (Int×Int))))) (s:(HP (List (Int×(List (Int×Int)))) (HP Int (HP Int (HP (List (Int×(List (Int×Int)))) (HP (List ((Int×Int)×(List Int))) Unit)))))):Option (Nx (HP (List (Int×(List (Int×Int)))) (HP Int (HP Int (HP (List (Int×(List (Int×Int)))) (HP (List ((Int×Int)×(List Int))) Unit))))) (HP (List ((Int×Int)×(List Int))) Unit)) :=
 br (cm .lss s.tl.tl.hd s.tl.hd) (ge s.hd s.tl.tl.hd fun v1 =>
 call Qv ((s.tl.tl.tl.hd,s.tl.tl.hd):((List (Int×(List (Int×Int))))×Int)) fun (v2:((List (Int×Int))×(List (Int×Int)))) =>
 call Kh ((v1.2,v2.1):((List (Int×Int))×(List (Int×Int)))) fun (v3:(List (Int×Int))) =>
 loop (Q1 a) ⟨v2.2,⟨s.hd,⟨s.tl.hd,⟨s.tl.tl.hd,⟨v3,⟨(ln v3),⟨0,⟨s.tl.tl.tl.hd,⟨v1.1,⟨v1.2,⟨s.tl.tl.tl.tl.hd,()⟩⟩⟩⟩⟩⟩⟩⟩⟩⟩⟩ fun v6 =>
 call Kh ((v6.tl.tl.tl.tl.tl.tl.hd,v6.hd):((List (Int×Int))×(List (Int×Int)))) fun (v7:(List (Int×Int))) =>
 loop (Qz a) ⟨v6.tl.hd,⟨v6.tl.tl.hd,⟨v6.tl.tl.tl.hd,⟨v7,⟨(ln v7),⟨0,⟨v6.tl.tl.tl.tl.hd,⟨v6.tl.tl.tl.tl.tl.hd,⟨v6.tl.tl.tl.tl.tl.tl.hd,⟨v6.tl.tl.tl.tl.tl.tl.tl.hd,()⟩⟩⟩⟩⟩⟩⟩⟩⟩⟩ fun v10 =>
 loop (Q0 a) ⟨v10.hd,⟨v10.tl.hd,⟨v10.tl.tl.hd,⟨v10.tl.tl.tl.tl.tl.hd,⟨(ln v10.tl.tl.tl.tl.tl.hd),⟨0,⟨v10.tl.tl.tl.hd,⟨v10.tl.tl.tl.tl.hd,⟨v10.tl.tl.tl.tl.tl.hd,⟨v10.tl.tl.tl.tl.tl.tl.hd,()⟩⟩⟩⟩⟩⟩⟩⟩⟩⟩ fun v12 =>
 some (.go ⟨v12.hd,⟨v12.tl.hd,⟨(ar .add .i64 v12.tl.tl.hd 1),⟨v12.tl.tl.tl.hd,⟨v12.tl.tl.tl.tl.hd,()⟩⟩⟩⟩⟩))
 (some (.out ⟨s.tl.tl.tl.tl.hd,()⟩))
noncomputable def Kk [W] (a:(List (Int×(List (Int×Int))))) (s:(HP Int (HP Int (HP Int (HP Int (HP Int (HP Int (HP Int (HP (List ((Int×Int)×(List Int))) (HP Int (HP Int (HP Int (HP Int (HP (List (Int×Int)) (HP (List (List (Int×Int))) (HP (List (Int×Int)) Unit)))))))))))))))):Option (Nx (HP Int (HP Int (HP Int (HP Int (HP Int (HP Int (HP Int (HP (List ((Int×Int)×(List Int))) (HP Int (HP Int (HP Int (HP Int (HP (List (Int×Int)) (HP (List (List (Int×Int))) (HP (List (Int×Int)) Unit))))))))))))))) (HP Int (HP Int (HP Int (HP (List ((Int×Int)×(List Int))) (HP Int (HP Int (HP Int (HP Int (HP (List (Int×Int)) (HP (List (List (Int×Int))) (HP (List (Int×Int)) Unit)))))))))))) :=
 br (cm .lss s.tl.tl.tl.tl.hd 3) (br (cm .eql s.tl.tl.tl.tl.hd 0) (call Jb (((mg (a:=(.p I I)) (b:=(.ls I)) s.tl.tl.tl.tl.tl.tl.tl.hd (s.tl.tl.tl.tl.tl.tl.tl.tl.tl.tl.hd,s.tl.tl.tl.tl.tl.tl.tl.tl.tl.tl.tl.hd) []),s.tl.hd):((List Int)×Int)) fun (v22:Bool) =>
 br v22 (br (cm .neq s.tl.hd s.hd) (gd (ft 16 (pl (ln s.tl.tl.tl.tl.tl.tl.tl.tl.tl.tl.tl.tl.tl.tl.hd) 1)) <|
 some (.out ⟨s.tl.hd,⟨s.tl.tl.tl.tl.tl.hd,⟨s.tl.tl.tl.tl.tl.tl.hd,⟨s.tl.tl.tl.tl.tl.tl.tl.hd,⟨s.tl.tl.tl.tl.tl.tl.tl.tl.hd,⟨s.tl.tl.tl.tl.tl.tl.tl.tl.tl.hd,⟨s.tl.tl.tl.tl.tl.tl.tl.tl.tl.tl.hd,⟨s.tl.tl.tl.tl.tl.tl.tl.tl.tl.tl.tl.hd,⟨s.tl.tl.tl.tl.tl.tl.tl.tl.tl.tl.tl.tl.hd,⟨s.tl.tl.tl.tl.tl.tl.tl.tl.tl.tl.tl.tl.tl.hd,⟨(ap s.tl.tl.tl.tl.tl.tl.tl.tl.tl.tl.tl.tl.tl.tl.hd ((s.tl.tl.tl.tl.tl.tl.tl.tl.tl.tl.hd,s.tl.tl.tl.tl.tl.tl.tl.tl.tl.tl.tl.hd)::[])),()⟩⟩⟩⟩⟩⟩⟩⟩⟩⟩⟩))
 (some (.out ⟨s.tl.hd,⟨s.tl.tl.tl.tl.tl.hd,⟨s.tl.tl.tl.tl.tl.tl.hd,⟨s.tl.tl.tl.tl.tl.tl.tl.hd,⟨s.tl.tl.tl.tl.tl.tl.tl.tl.hd,⟨s.tl.tl.tl.tl.tl.tl.tl.tl.tl.hd,⟨s.tl.tl.tl.tl.tl.tl.tl.tl.tl.tl.hd,⟨s.tl.tl.tl.tl.tl.tl.tl.tl.tl.tl.tl.hd,⟨s.tl.tl.tl.tl.tl.tl.tl.tl.tl.tl.tl.tl.hd,⟨s.tl.tl.tl.tl.tl.tl.tl.tl.tl.tl.tl.tl.tl.hd,⟨s.tl.tl.tl.tl.tl.tl.tl.tl.tl.tl.tl.tl.tl.tl.hd,()⟩⟩⟩⟩⟩⟩⟩⟩⟩⟩⟩)))
 (some (.go ⟨s.hd,⟨s.tl.hd,⟨s.tl.tl.hd,⟨s.tl.tl.tl.hd,⟨(ar .add .i64 s.tl.tl.tl.tl.hd 1),⟨s.tl.tl.tl.tl.tl.hd,⟨s.tl.tl.tl.tl.tl.tl.hd,⟨s.tl.tl.tl.tl.tl.tl.tl.hd,⟨s.tl.tl.tl.tl.tl.tl.tl.tl.hd,⟨s.tl.tl.tl.tl.tl.tl.tl.tl.tl.hd,⟨s.tl.tl.tl.tl.tl.tl.tl.tl.tl.tl.hd,⟨s.tl.tl.tl.tl.tl.tl.tl.tl.tl.tl.tl.hd,⟨s.tl.tl.tl.tl.tl.tl.tl.tl.tl.tl.tl.tl.hd,⟨s.tl.tl.tl.tl.tl.tl.tl.tl.tl.tl.tl.tl.tl.hd,⟨s.tl.tl.tl.tl.tl.tl.tl.tl.tl.tl.tl.tl.tl.tl.hd,()⟩⟩⟩⟩⟩⟩⟩⟩⟩⟩⟩⟩⟩⟩⟩)))
 (br (cm .eql s.tl.tl.tl.tl.hd 1) (call Jb (((mg (a:=(.p I I)) (b:=(.ls I)) s.tl.tl.tl.tl.tl.tl.tl.hd (s.tl.tl.tl.tl.tl.tl.tl.tl.tl.tl.hd,s.tl.tl.tl.tl.tl.tl.tl.tl.tl.tl.tl.hd) []),s.tl.tl.hd):((List Int)×Int)) fun (v23:Bool) =>
 br v23 (br (cm .neq s.tl.tl.hd s.hd) (gd (ft 16 (pl (ln s.tl.tl.tl.tl.tl.tl.tl.tl.tl.tl.tl.tl.tl.tl.hd) 1)) <|
 some (.out ⟨s.tl.tl.hd,⟨s.tl.tl.tl.tl.tl.hd,⟨s.tl.tl.tl.tl.tl.tl.hd,⟨s.tl.tl.tl.tl.tl.tl.tl.hd,⟨s.tl.tl.tl.tl.tl.tl.tl.tl.hd,⟨s.tl.tl.tl.tl.tl.tl.tl.tl.tl.hd,⟨s.tl.tl.tl.tl.tl.tl.tl.tl.tl.tl.hd,⟨s.tl.tl.tl.tl.tl.tl.tl.tl.tl.tl.tl.hd,⟨s.tl.tl.tl.tl.tl.tl.tl.tl.tl.tl.tl.tl.hd,⟨s.tl.tl.tl.tl.tl.tl.tl.tl.tl.tl.tl.tl.tl.hd,⟨(ap s.tl.tl.tl.tl.tl.tl.tl.tl.tl.tl.tl.tl.tl.tl.hd ((s.tl.tl.tl.tl.tl.tl.tl.tl.tl.tl.hd,s.tl.tl.tl.tl.tl.tl.tl.tl.tl.tl.tl.hd)::[])),()⟩⟩⟩⟩⟩⟩⟩⟩⟩⟩⟩))
 (some (.out ⟨s.tl.tl.hd,⟨s.tl.tl.tl.tl.tl.hd,⟨s.tl.tl.tl.tl.tl.tl.hd,⟨s.tl.tl.tl.tl.tl.tl.tl.hd,⟨s.tl.tl.tl.tl.tl.tl.tl.tl.hd,⟨s.tl.tl.tl.tl.tl.tl.tl.tl.tl.hd,⟨s.tl.tl.tl.tl.tl.tl.tl.tl.tl.tl.hd,⟨s.tl.tl.tl.tl.tl.tl.tl.tl.tl.tl.tl.hd,⟨s.tl.tl.tl.tl.tl.tl.tl.tl.tl.tl.tl.tl.hd,⟨s.tl.tl.tl.tl.tl.tl.tl.tl.tl.tl.tl.tl.tl.hd,⟨s.tl.tl.tl.tl.tl.tl.tl.tl.tl.tl.tl.tl.tl.tl.hd,()⟩⟩⟩⟩⟩⟩⟩⟩⟩⟩⟩)))
 (some (.go ⟨s.hd,⟨s.tl.hd,⟨s.tl.tl.hd,⟨s.tl.tl.tl.hd,⟨(ar .add .i64 s.tl.tl.tl.tl.hd 1),⟨s.tl.tl.tl.tl.tl.hd,⟨s.tl.tl.tl.tl.tl.tl.hd,⟨s.tl.tl.tl.tl.tl.tl.tl.hd,⟨s.tl.tl.tl.tl.tl.tl.tl.tl.hd,⟨s.tl.tl.tl.tl.tl.tl.tl.tl.tl.hd,⟨s.tl.tl.tl.tl.tl.tl.tl.tl.tl.tl.hd,⟨s.tl.tl.tl.tl.tl.tl.tl.tl.tl.tl.tl.hd,⟨s.tl.tl.tl.tl.tl.tl.tl.tl.tl.tl.tl.tl.hd,⟨s.tl.tl.tl.tl.tl.tl.tl.tl.tl.tl.tl.tl.tl.hd,⟨s.tl.tl.tl.tl.tl.tl.tl.tl.tl.tl.tl.tl.tl.tl.hd,()⟩⟩⟩⟩⟩⟩⟩⟩⟩⟩⟩⟩⟩⟩⟩)))
 (br (cm .eql s.tl.tl.tl.tl.hd 2) (call Jb (((mg (a:=(.p I I)) (b:=(.ls I)) s.tl.tl.tl.tl.tl.tl.tl.hd (s.tl.tl.tl.tl.tl.tl.tl.tl.tl.tl.hd,s.tl.tl.tl.tl.tl.tl.tl.tl.tl.tl.tl.hd) []),s.tl.tl.tl.hd):((List Int)×Int)) fun (v24:Bool) =>
 br v24 (br (cm .neq s.tl.tl.tl.hd s.hd) (gd (ft 16 (pl (ln s.tl.tl.tl.tl.tl.tl.tl.tl.tl.tl.tl.tl.tl.tl.hd) 1)) <|
 some (.out ⟨s.tl.tl.tl.hd,⟨s.tl.tl.tl.tl.tl.hd,⟨s.tl.tl.tl.tl.tl.tl.hd,⟨s.tl.tl.tl.tl.tl.tl.tl.hd,⟨s.tl.tl.tl.tl.tl.tl.tl.tl.hd,⟨s.tl.tl.tl.tl.tl.tl.tl.tl.tl.hd,⟨s.tl.tl.tl.tl.tl.tl.tl.tl.tl.tl.hd,⟨s.tl.tl.tl.tl.tl.tl.tl.tl.tl.tl.tl.hd,⟨s.tl.tl.tl.tl.tl.tl.tl.tl.tl.tl.tl.tl.hd,⟨s.tl.tl.tl.tl.tl.tl.tl.tl.tl.tl.tl.tl.tl.hd,⟨(ap s.tl.tl.tl.tl.tl.tl.tl.tl.tl.tl.tl.tl.tl.tl.hd ((s.tl.tl.tl.tl.tl.tl.tl.tl.tl.tl.hd,s.tl.tl.tl.tl.tl.tl.tl.tl.tl.tl.tl.hd)::[])),()⟩⟩⟩⟩⟩⟩⟩⟩⟩⟩⟩))
 (some (.out ⟨s.tl.tl.tl.hd,⟨s.tl.tl.tl.tl.tl.hd,⟨s.tl.tl.tl.tl.tl.tl.hd,⟨s.tl.tl.tl.tl.tl.tl.tl.hd,⟨s.tl.tl.tl.tl.tl.tl.tl.tl.hd,⟨s.tl.tl.tl.tl.tl.tl.tl.tl.tl.hd,⟨s.tl.tl.tl.tl.tl.tl.tl.tl.tl.tl.hd,⟨s.tl.tl.tl.tl.tl.tl.tl.tl.tl.tl.tl.hd,⟨s.tl.tl.tl.tl.tl.tl.tl.tl.tl.tl.tl.tl.hd,⟨s.tl.tl.tl.tl.tl.tl.tl.tl.tl.tl.tl.tl.tl.hd,⟨s.tl.tl.tl.tl.tl.tl.tl.tl.tl.tl.tl.tl.tl.tl.hd,()⟩⟩⟩⟩⟩⟩⟩⟩⟩⟩⟩)))
 (some (.go ⟨s.hd,⟨s.tl.hd,⟨s.tl.tl.hd,⟨s.tl.tl.tl.hd,⟨(ar .add .i64 s.tl.tl.tl.tl.hd 1),⟨s.tl.tl.tl.tl.tl.hd,⟨s.tl.tl.tl.tl.tl.tl.hd,⟨s.tl.tl.tl.tl.tl.tl.tl.hd,⟨s.tl.tl.tl.tl.tl.tl.tl.tl.hd,⟨s.tl.tl.tl.tl.tl.tl.tl.tl.tl.hd,⟨s.tl.tl.tl.tl.tl.tl.tl.tl.tl.tl.hd,⟨s.tl.tl.tl.tl.tl.tl.tl.tl.tl.tl.tl.hd,⟨s.tl.tl.tl.tl.tl.tl.tl.tl.tl.tl.tl.tl.hd,⟨s.tl.tl.tl.tl.tl.tl.tl.tl.tl.tl.tl.tl.tl.hd,⟨s.tl.tl.tl.tl.tl.tl.tl.tl.tl.tl.tl.tl.tl.tl.hd,()⟩⟩⟩⟩⟩⟩⟩⟩⟩⟩⟩⟩⟩⟩⟩)))
 (none))))
 (some (.out ⟨s.hd,⟨s.tl.tl.tl.tl.tl.hd,⟨s.tl.tl.tl.tl.tl.tl.hd,⟨s.tl.tl.tl.tl.tl.tl.tl.hd,⟨s.tl.tl.tl.tl.tl.tl.tl.tl.hd,⟨s.tl.tl.tl.tl.tl.tl.tl.tl.tl.hd,⟨s.tl.tl.tl.tl.tl.tl.tl.tl.tl.tl.hd,⟨s.tl.tl.tl.tl.tl.tl.tl.tl.tl.tl.tl.hd,⟨s.tl.tl.tl.tl.tl.tl.tl.tl.tl.tl.tl.tl.hd,⟨s.tl.tl.tl.tl.tl.tl.tl.tl.tl.tl.tl.tl.tl.hd,⟨s.tl.tl.tl.tl.tl.tl.tl.tl.tl.tl.tl.tl.tl.tl.hd,()⟩⟩⟩⟩⟩⟩⟩⟩⟩⟩⟩))
noncomputable def Jbd [W] (a:(List (Int×(List (Int×Int))))) (s:(HP Int (HP Int (HP Int (HP Int (HP Int (HP Int (HP Int (HP (List ((Int×Int)×(List Int))) (HP Int (HP Int (HP Int (HP Int (HP (List (Int×Int)) (HP (List (List (Int×Int))) (HP (List (Int×Int)) Unit)))))))))))))))):Option (Nx (HP Int (HP Int (HP Int (HP Int (HP Int (HP Int (HP Int (HP (List ((Int×Int)×(List Int))) (HP Int (HP Int (HP Int (HP Int (HP (List (Int×Int)) (HP (List (List (Int×Int))) (HP (List (Int×Int)) Unit))))))))))))))) (HP Int (HP Int (HP Int (HP (List ((Int×Int)×(List Int))) (HP Int (HP Int (HP Int (HP Int (HP (List (Int×Int)) (HP (List (List (Int×Int))) (HP (List (Int×Int)) Unit)))))))))))) :=
 br (cm .lss s.tl.tl.tl.tl.hd 3) (br (cm .eql s.tl.tl.tl.tl.hd 0) (call Jb (((mg (a:=(.p I I)) (b:=(.ls I)) s.tl.tl.tl.tl.tl.tl.tl.hd (s.tl.tl.tl.tl.tl.tl.tl.tl.tl.tl.hd,s.tl.tl.tl.tl.tl.tl.tl.tl.tl.tl.tl.hd) []),s.tl.hd):((List Int)×Int)) fun (v29:Bool) =>
 br v29 (br (cm .neq s.tl.hd s.hd) (gd (ft 16 (pl (ln s.tl.tl.tl.tl.tl.tl.tl.tl.tl.tl.tl.tl.tl.tl.hd) 1)) <|
 some (.out ⟨s.tl.hd,⟨s.tl.tl.tl.tl.tl.hd,⟨s.tl.tl.tl.tl.tl.tl.hd,⟨s.tl.tl.tl.tl.tl.tl.tl.hd,⟨s.tl.tl.tl.tl.tl.tl.tl.tl.hd,⟨s.tl.tl.tl.tl.tl.tl.tl.tl.tl.hd,⟨s.tl.tl.tl.tl.tl.tl.tl.tl.tl.tl.hd,⟨s.tl.tl.tl.tl.tl.tl.tl.tl.tl.tl.tl.hd,⟨s.tl.tl.tl.tl.tl.tl.tl.tl.tl.tl.tl.tl.hd,⟨s.tl.tl.tl.tl.tl.tl.tl.tl.tl.tl.tl.tl.tl.hd,⟨(ap s.tl.tl.tl.tl.tl.tl.tl.tl.tl.tl.tl.tl.tl.tl.hd ((s.tl.tl.tl.tl.tl.tl.tl.tl.tl.tl.hd,s.tl.tl.tl.tl.tl.tl.tl.tl.tl.tl.tl.hd)::[])),()⟩⟩⟩⟩⟩⟩⟩⟩⟩⟩⟩))
 (some (.out ⟨s.tl.hd,⟨s.tl.tl.tl.tl.tl.hd,⟨s.tl.tl.tl.tl.tl.tl.hd,⟨s.tl.tl.tl.tl.tl.tl.tl.hd,⟨s.tl.tl.tl.tl.tl.tl.tl.tl.hd,⟨s.tl.tl.tl.tl.tl.tl.tl.tl.tl.hd,⟨s.tl.tl.tl.tl.tl.tl.tl.tl.tl.tl.hd,⟨s.tl.tl.tl.tl.tl.tl.tl.tl.tl.tl.tl.hd,⟨s.tl.tl.tl.tl.tl.tl.tl.tl.tl.tl.tl.tl.hd,⟨s.tl.tl.tl.tl.tl.tl.tl.tl.tl.tl.tl.tl.tl.hd,⟨s.tl.tl.tl.tl.tl.tl.tl.tl.tl.tl.tl.tl.tl.tl.hd,()⟩⟩⟩⟩⟩⟩⟩⟩⟩⟩⟩)))
 (some (.go ⟨s.hd,⟨s.tl.hd,⟨s.tl.tl.hd,⟨s.tl.tl.tl.hd,⟨(ar .add .i64 s.tl.tl.tl.tl.hd 1),⟨s.tl.tl.tl.tl.tl.hd,⟨s.tl.tl.tl.tl.tl.tl.hd,⟨s.tl.tl.tl.tl.tl.tl.tl.hd,⟨s.tl.tl.tl.tl.tl.tl.tl.tl.hd,⟨s.tl.tl.tl.tl.tl.tl.tl.tl.tl.hd,⟨s.tl.tl.tl.tl.tl.tl.tl.tl.tl.tl.hd,⟨s.tl.tl.tl.tl.tl.tl.tl.tl.tl.tl.tl.hd,⟨s.tl.tl.tl.tl.tl.tl.tl.tl.tl.tl.tl.tl.hd,⟨s.tl.tl.tl.tl.tl.tl.tl.tl.tl.tl.tl.tl.tl.hd,⟨s.tl.tl.tl.tl.tl.tl.tl.tl.tl.tl.tl.tl.tl.tl.hd,()⟩⟩⟩⟩⟩⟩⟩⟩⟩⟩⟩⟩⟩⟩⟩)))
 (br (cm .eql s.tl.tl.tl.tl.hd 1) (call Jb (((mg (a:=(.p I I)) (b:=(.ls I)) s.tl.tl.tl.tl.tl.tl.tl.hd (s.tl.tl.tl.tl.tl.tl.tl.tl.tl.tl.hd,s.tl.tl.tl.tl.tl.tl.tl.tl.tl.tl.tl.hd) []),s.tl.tl.hd):((List Int)×Int)) fun (v30:Bool) =>
 br v30 (br (cm .neq s.tl.tl.hd s.hd) (gd (ft 16 (pl (ln s.tl.tl.tl.tl.tl.tl.tl.tl.tl.tl.tl.tl.tl.tl.hd) 1)) <|
 some (.out ⟨s.tl.tl.hd,⟨s.tl.tl.tl.tl.tl.hd,⟨s.tl.tl.tl.tl.tl.tl.hd,⟨s.tl.tl.tl.tl.tl.tl.tl.hd,⟨s.tl.tl.tl.tl.tl.tl.tl.tl.hd,⟨s.tl.tl.tl.tl.tl.tl.tl.tl.tl.hd,⟨s.tl.tl.tl.tl.tl.tl.tl.tl.tl.tl.hd,⟨s.tl.tl.tl.tl.tl.tl.tl.tl.tl.tl.tl.hd,⟨s.tl.tl.tl.tl.tl.tl.tl.tl.tl.tl.tl.tl.hd,⟨s.tl.tl.tl.tl.tl.tl.tl.tl.tl.tl.tl.tl.tl.hd,⟨(ap s.tl.tl.tl.tl.tl.tl.tl.tl.tl.tl.tl.tl.tl.tl.hd ((s.tl.tl.tl.tl.tl.tl.tl.tl.tl.tl.hd,s.tl.tl.tl.tl.tl.tl.tl.tl.tl.tl.tl.hd)::[])),()⟩⟩⟩⟩⟩⟩⟩⟩⟩⟩⟩))
 (some (.out ⟨s.tl.tl.hd,⟨s.tl.tl.tl.tl.tl.hd,⟨s.tl.tl.tl.tl.tl.tl.hd,⟨s.tl.tl.tl.tl.tl.tl.tl.hd,⟨s.tl.tl.tl.tl.tl.tl.tl.tl.hd,⟨s.tl.tl.tl.tl.tl.tl.tl.tl.tl.hd,⟨s.tl.tl.tl.tl.tl.tl.tl.tl.tl.tl.hd,⟨s.tl.tl.tl.tl.tl.tl.tl.tl.tl.tl.tl.hd,⟨s.tl.tl.tl.tl.tl.tl.tl.tl.tl.tl.tl.tl.hd,⟨s.tl.tl.tl.tl.tl.tl.tl.tl.tl.tl.tl.tl.tl.hd,⟨s.tl.tl.tl.tl.tl.tl.tl.tl.tl.tl.tl.tl.tl.tl.hd,()⟩⟩⟩⟩⟩⟩⟩⟩⟩⟩⟩)))
 (some (.go ⟨s.hd,⟨s.tl.hd,⟨s.tl.tl.hd,⟨s.tl.tl.tl.hd,⟨(ar .add .i64 s.tl.tl.tl.tl.hd 1),⟨s.tl.tl.tl.tl.tl.hd,⟨s.tl.tl.tl.tl.tl.tl.hd,⟨s.tl.tl.tl.tl.tl.tl.tl.hd,⟨s.tl.tl.tl.tl.tl.tl.tl.tl.hd,⟨s.tl.tl.tl.tl.tl.tl.tl.tl.tl.hd,⟨s.tl.tl.tl.tl.tl.tl.tl.tl.tl.tl.hd,⟨s.tl.tl.tl.tl.tl.tl.tl.tl.tl.tl.tl.hd,⟨s.tl.tl.tl.tl.tl.tl.tl.tl.tl.tl.tl.tl.hd,⟨s.tl.tl.tl.tl.tl.tl.tl.tl.tl.tl.tl.tl.tl.hd,⟨s.tl.tl.tl.tl.tl.tl.tl.tl.tl.tl.tl.tl.tl.tl.hd,()⟩⟩⟩⟩⟩⟩⟩⟩⟩⟩⟩⟩⟩⟩⟩)))
 (br (cm .eql s.tl.tl.tl.tl.hd 2) (call Jb (((mg (a:=(.p I I)) (b:=(.ls I)) s.tl.tl.tl.tl.tl.tl.tl.hd (s.tl.tl.tl.tl.tl.tl.tl.tl.tl.tl.hd,s.tl.tl.tl.tl.tl.tl.tl.tl.tl.tl.tl.hd) []),s.tl.tl.tl.hd):((List Int)×Int)) fun (v31:Bool) =>
 br v31 (br (cm .neq s.tl.tl.tl.hd s.hd) (gd (ft 16 (pl (ln s.tl.tl.tl.tl.tl.tl.tl.tl.tl.tl.tl.tl.tl.tl.hd) 1)) <|
 some (.out ⟨s.tl.tl.tl.hd,⟨s.tl.tl.tl.tl.tl.hd,⟨s.tl.tl.tl.tl.tl.tl.hd,⟨s.tl.tl.tl.tl.tl.tl.tl.hd,⟨s.tl.tl.tl.tl.tl.tl.tl.tl.hd,⟨s.tl.tl.tl.tl.tl.tl.tl.tl.tl.hd,⟨s.tl.tl.tl.tl.tl.tl.tl.tl.tl.tl.hd,⟨s.tl.tl.tl.tl.tl.tl.tl.tl.tl.tl.tl.hd,⟨s.tl.tl.tl.tl.tl.tl.tl.tl.tl.tl.tl.tl.hd,⟨s.tl.tl.tl.tl.tl.tl.tl.tl.tl.tl.tl.tl.tl.hd,⟨(ap s.tl.tl.tl.tl.tl.tl.tl.tl.tl.tl.tl.tl.tl.tl.hd ((s.tl.tl.tl.tl.tl.tl.tl.tl.tl.tl.hd,s.tl.tl.tl.tl.tl.tl.tl.tl.tl.tl.tl.hd)::[])),()⟩⟩⟩⟩⟩⟩⟩⟩⟩⟩⟩))
 (some (.out ⟨s.tl.tl.tl.hd,⟨s.tl.tl.tl.tl.tl.hd,⟨s.tl.tl.tl.tl.tl.tl.hd,⟨s.tl.tl.tl.tl.tl.tl.tl.hd,⟨s.tl.tl.tl.tl.tl.tl.tl.tl.hd,⟨s.tl.tl.tl.tl.tl.tl.tl.tl.tl.hd,⟨s.tl.tl.tl.tl.tl.tl.tl.tl.tl.tl.hd,⟨s.tl.tl.tl.tl.tl.tl.tl.tl.tl.tl.tl.hd,⟨s.tl.tl.tl.tl.tl.tl.tl.tl.tl.tl.tl.tl.hd,⟨s.tl.tl.tl.tl.tl.tl.tl.tl.tl.tl.tl.tl.tl.hd,⟨s.tl.tl.tl.tl.tl.tl.tl.tl.tl.tl.tl.tl.tl.tl.hd,()⟩⟩⟩⟩⟩⟩⟩⟩⟩⟩⟩)))
 (some (.go ⟨s.hd,⟨s.tl.hd,⟨s.tl.tl.hd,⟨s.tl.tl.tl.hd,⟨(ar .add .i64 s.tl.tl.tl.tl.hd 1),⟨s.tl.tl.tl.tl.tl.hd,⟨s.tl.tl.tl.tl.tl.tl.hd,⟨s.tl.tl.tl.tl.tl.tl.tl.hd,⟨s.tl.tl.tl.tl.tl.tl.tl.tl.hd,⟨s.tl.tl.tl.tl.tl.tl.tl.tl.tl.hd,⟨s.tl.tl.tl.tl.tl.tl.tl.tl.tl.tl.hd,⟨s.tl.tl.tl.tl.tl.tl.tl.tl.tl.tl.tl.hd,⟨s.tl.tl.tl.tl.tl.tl.tl.tl.tl.tl.tl.tl.hd,⟨s.tl.tl.tl.tl.tl.tl.tl.tl.tl.tl.tl.tl.tl.hd,⟨s.tl.tl.tl.tl.tl.tl.tl.tl.tl.tl.tl.tl.tl.tl.hd,()⟩⟩⟩⟩⟩⟩⟩⟩⟩⟩⟩⟩⟩⟩⟩)))
 (none))))
 (some (.out ⟨s.hd,⟨s.tl.tl.tl.tl.tl.hd,⟨s.tl.tl.tl.tl.tl.tl.hd,⟨s.tl.tl.tl.tl.tl.tl.tl.hd,⟨s.tl.tl.tl.tl.tl.tl.tl.tl.hd,⟨s.tl.tl.tl.tl.tl.tl.tl.tl.tl.hd,⟨s.tl.tl.tl.tl.tl.tl.tl.tl.tl.tl.hd,⟨s.tl.tl.tl.tl.tl.tl.tl.tl.tl.tl.tl.hd,⟨s.tl.tl.tl.tl.tl.tl.tl.tl.tl.tl.tl.tl.hd,⟨s.tl.tl.tl.tl.tl.tl.tl.tl.tl.tl.tl.tl.tl.hd,⟨s.tl.tl.tl.tl.tl.tl.tl.tl.tl.tl.tl.tl.tl.tl.hd,()⟩⟩⟩⟩⟩⟩⟩⟩⟩⟩⟩))
noncomputable def Kv [W] (a:(List (Int×(List (Int×Int))))) (s:(HP Int (HP Int (HP Int (HP (List ((Int×Int)×(List Int))) (HP Int (HP Int (HP Int (HP Int (HP (List (Int×Int)) (HP (List (List (Int×Int))) (HP (List (Int×Int)) Unit)))))))))))):Option (Nx (HP Int (HP Int (HP Int (HP (List ((Int×Int)×(List Int))) (HP Int (HP Int (HP Int (HP Int (HP (List (Int×Int)) (HP (List (List (Int×Int))) (HP (List (Int×Int)) Unit))))))))))) (HP Int (HP Int (HP (List ((Int×Int)×(List Int))) (HP (List (Int×Int)) (HP (List (List (Int×Int))) (HP (List (Int×Int)) Unit))))))) :=
 call Jd (((mg (a:=(.p I I)) (b:=(.ls I)) s.tl.tl.tl.hd (s.tl.tl.tl.tl.tl.tl.hd,s.tl.tl.tl.tl.tl.tl.tl.hd) []),s.hd):((List Int)×Int)) fun (v18:Int) =>
 br (cm .lss v18 0) (some (.out ⟨s.tl.hd,⟨s.tl.tl.hd,⟨s.tl.tl.tl.hd,⟨s.tl.tl.tl.tl.tl.tl.tl.tl.hd,⟨s.tl.tl.tl.tl.tl.tl.tl.tl.tl.hd,⟨s.tl.tl.tl.tl.tl.tl.tl.tl.tl.tl.hd,()⟩⟩⟩⟩⟩⟩))
 (br (cm .eql (ln (mg (a:=(.p I I)) (b:=(.ls I)) s.tl.tl.tl.hd (s.tl.tl.tl.tl.tl.tl.hd,s.tl.tl.tl.tl.tl.tl.tl.hd) [])) 1) (call J8 ((s.hd,(s.tl.tl.tl.tl.tl.tl.hd,s.tl.tl.tl.tl.tl.tl.tl.hd)):(Int×(Int×Int))) fun (v19:(Int×Int)) =>
 br (an (cm .eql v19.1 s.tl.tl.tl.tl.hd) (cm .eql v19.2 s.tl.tl.tl.tl.tl.hd)) (some (.out ⟨s.tl.hd,⟨s.tl.tl.hd,⟨(md (a:=(.p I I)) (b:=(.ls I)) s.tl.tl.tl.hd (s.tl.tl.tl.tl.tl.tl.hd,s.tl.tl.tl.tl.tl.tl.tl.hd)),⟨s.tl.tl.tl.tl.tl.tl.tl.tl.hd,⟨s.tl.tl.tl.tl.tl.tl.tl.tl.tl.hd,⟨s.tl.tl.tl.tl.tl.tl.tl.tl.tl.tl.hd,()⟩⟩⟩⟩⟩⟩))
 (call J5 (s.hd:Int) fun (v20:Int) =>
 call J1 (s.hd:Int) fun (v21:Int) =>
 loop (Kk a) ⟨s.hd,⟨v20,⟨s.hd,⟨v21,⟨0,⟨s.tl.hd,⟨s.tl.tl.hd,⟨(md (a:=(.p I I)) (b:=(.ls I)) s.tl.tl.tl.hd (s.tl.tl.tl.tl.tl.tl.hd,s.tl.tl.tl.tl.tl.tl.tl.hd)),⟨s.tl.tl.tl.tl.hd,⟨s.tl.tl.tl.tl.tl.hd,⟨v19.1,⟨v19.2,⟨s.tl.tl.tl.tl.tl.tl.tl.tl.hd,⟨s.tl.tl.tl.tl.tl.tl.tl.tl.tl.hd,⟨s.tl.tl.tl.tl.tl.tl.tl.tl.tl.tl.hd,()⟩⟩⟩⟩⟩⟩⟩⟩⟩⟩⟩⟩⟩⟩⟩ fun v25 =>
 some (.go ⟨v25.hd,⟨v25.tl.hd,⟨v25.tl.tl.hd,⟨v25.tl.tl.tl.hd,⟨v25.tl.tl.tl.tl.hd,⟨v25.tl.tl.tl.tl.tl.hd,⟨v25.tl.tl.tl.tl.tl.tl.hd,⟨v25.tl.tl.tl.tl.tl.tl.tl.hd,⟨v25.tl.tl.tl.tl.tl.tl.tl.tl.hd,⟨v25.tl.tl.tl.tl.tl.tl.tl.tl.tl.hd,⟨v25.tl.tl.tl.tl.tl.tl.tl.tl.tl.tl.hd,()⟩⟩⟩⟩⟩⟩⟩⟩⟩⟩⟩)))
 (gd (ft 8 (ln (mg (a:=(.p I I)) (b:=(.ls I)) s.tl.tl.tl.hd (s.tl.tl.tl.tl.tl.tl.hd,s.tl.tl.tl.tl.tl.tl.tl.hd) []))) <|
 gd (an (ib v18 (ln (mg (a:=(.p I I)) (b:=(.ls I)) s.tl.tl.tl.hd (s.tl.tl.tl.tl.tl.tl.hd,s.tl.tl.tl.tl.tl.tl.tl.hd) []))) (an (le (pl v18 1) (ar .add .i64 v18 1)) (le (ar .add .i64 v18 1) (ln (mg (a:=(.p I I)) (b:=(.ls I)) s.tl.tl.tl.hd (s.tl.tl.tl.tl.tl.tl.hd,s.tl.tl.tl.tl.tl.tl.tl.hd) []))))) <|
 call J8 ((s.hd,(s.tl.tl.tl.tl.tl.tl.hd,s.tl.tl.tl.tl.tl.tl.tl.hd)):(Int×(Int×Int))) fun (v26:(Int×Int)) =>
 br (an (cm .eql v26.1 s.tl.tl.tl.tl.hd) (cm .eql v26.2 s.tl.tl.tl.tl.tl.hd)) (some (.out ⟨s.tl.hd,⟨s.tl.tl.hd,⟨(ms (a:=(.p I I)) (b:=(.ls I)) s.tl.tl.tl.hd (s.tl.tl.tl.tl.tl.tl.hd,s.tl.tl.tl.tl.tl.tl.tl.hd) (ap (ct (mg (a:=(.p I I)) (b:=(.ls I)) s.tl.tl.tl.hd (s.tl.tl.tl.tl.tl.tl.hd,s.tl.tl.tl.tl.tl.tl.tl.hd) []) 0 v18) (ct (mg (a:=(.p I I)) (b:=(.ls I)) s.tl.tl.tl.hd (s.tl.tl.tl.tl.tl.tl.hd,s.tl.tl.tl.tl.tl.tl.tl.hd) []) (ar .add .i64 v18 1) (mi (ln (mg (a:=(.p I I)) (b:=(.ls I)) s.tl.tl.tl.hd (s.tl.tl.tl.tl.tl.tl.hd,s.tl.tl.tl.tl.tl.tl.tl.hd) [])) (ar .add .i64 v18 1))))),⟨s.tl.tl.tl.tl.tl.tl.tl.tl.hd,⟨s.tl.tl.tl.tl.tl.tl.tl.tl.tl.hd,⟨s.tl.tl.tl.tl.tl.tl.tl.tl.tl.tl.hd,()⟩⟩⟩⟩⟩⟩))
 (call J5 (s.hd:Int) fun (v27:Int) =>
 call J1 (s.hd:Int) fun (v28:Int) =>
 loop (Jbd a) ⟨s.hd,⟨v27,⟨s.hd,⟨v28,⟨0,⟨s.tl.hd,⟨s.tl.tl.hd,⟨(ms (a:=(.p I I)) (b:=(.ls I)) s.tl.tl.tl.hd (s.tl.tl.tl.tl.tl.tl.hd,s.tl.tl.tl.tl.tl.tl.tl.hd) (ap (ct (mg (a:=(.p I I)) (b:=(.ls I)) s.tl.tl.tl.hd (s.tl.tl.tl.tl.tl.tl.hd,s.tl.tl.tl.tl.tl.tl.tl.hd) []) 0 v18) (ct (mg (a:=(.p I I)) (b:=(.ls I)) s.tl.tl.tl.hd (s.tl.tl.tl.tl.tl.tl.hd,s.tl.tl.tl.tl.tl.tl.tl.hd) []) (ar .add .i64 v18 1) (mi (ln (mg (a:=(.p I I)) (b:=(.ls I)) s.tl.tl.tl.hd (s.tl.tl.tl.tl.tl.tl.hd,s.tl.tl.tl.tl.tl.tl.tl.hd) [])) (ar .add .i64 v18 1))))),⟨s.tl.tl.tl.tl.hd,⟨s.tl.tl.tl.tl.tl.hd,⟨v26.1,⟨v26.2,⟨s.tl.tl.tl.tl.tl.tl.tl.tl.hd,⟨s.tl.tl.tl.tl.tl.tl.tl.tl.tl.hd,⟨s.tl.tl.tl.tl.tl.tl.tl.tl.tl.tl.hd,()⟩⟩⟩⟩⟩⟩⟩⟩⟩⟩⟩⟩⟩⟩⟩ fun v32 =>
 some (.go ⟨v32.hd,⟨v32.tl.hd,⟨v32.tl.tl.hd,⟨v32.tl.tl.tl.hd,⟨v32.tl.tl.tl.tl.hd,⟨v32.tl.tl.tl.tl.tl.hd,⟨v32.tl.tl.tl.tl.tl.tl.hd,⟨v32.tl.tl.tl.tl.tl.tl.tl.hd,⟨v32.tl.tl.tl.tl.tl.tl.tl.tl.hd,⟨v32.tl.tl.tl.tl.tl.tl.tl.tl.tl.hd,⟨v32.tl.tl.tl.tl.tl.tl.tl.tl.tl.tl.hd,()⟩⟩⟩⟩⟩⟩⟩⟩⟩⟩⟩))))
noncomputable def Kw [W] (a:(List (Int×(List (Int×Int))))) (s:(HP Int (HP Int (HP (List ((Int×Int)×(List Int))) (HP (List (Int×Int)) (HP (List (List (Int×Int))) Unit)))))):Option (Nx (HP Int (HP Int (HP (List ((Int×Int)×(List Int))) (HP (List (Int×Int)) (HP (List (List (Int×Int))) Unit))))) (HP (List (List (Int×Int))) Unit)) :=
 br (cm .lss s.tl.hd s.hd) (gd (ib s.tl.hd (ln s.tl.tl.tl.hd)) <|
 ge s.tl.tl.tl.hd s.tl.hd fun v16 =>
 br (cm .gtr (ln (mg (a:=(.p I I)) (b:=(.ls I)) s.tl.tl.hd (v16.1,v16.2) [])) 0) (ge (mg (a:=(.p I I)) (b:=(.ls I)) s.tl.tl.hd (v16.1,v16.2) []) 0 fun v17 =>
 loop (Kv a) ⟨v17,⟨s.hd,⟨s.tl.hd,⟨s.tl.tl.hd,⟨v16.1,⟨v16.2,⟨v16.1,⟨v16.2,⟨s.tl.tl.tl.hd,⟨s.tl.tl.tl.tl.hd,⟨((v16.1,v16.2)::[]),()⟩⟩⟩⟩⟩⟩⟩⟩⟩⟩⟩ fun v33 =>
 gd (ft 24 (pl (ln v33.tl.tl.tl.tl.hd) 1)) <|
 some (.go ⟨v33.hd,⟨(ar .add .i64 v33.tl.hd 1),⟨v33.tl.tl.hd,⟨v33.tl.tl.tl.hd,⟨(ap v33.tl.tl.tl.tl.hd (v33.tl.tl.tl.tl.tl.hd::[])),()⟩⟩⟩⟩⟩))
 (some (.go ⟨s.hd,⟨(ar .add .i64 s.tl.hd 1),⟨s.tl.tl.hd,⟨s.tl.tl.tl.hd,⟨s.tl.tl.tl.tl.hd,()⟩⟩⟩⟩⟩)))
 (some (.out ⟨s.tl.tl.tl.tl.hd,()⟩))
noncomputable def Zj [W] (a:(List (Int×(List (Int×Int))))):Option (List (List (Int×Int))) :=
 call J2 (a:(List (Int×(List (Int×Int))))) fun (v0:Bool) =>
 br (nt v0) (some [])
 (loop (Qc a) ⟨a,⟨(ln a),⟨0,⟨a,⟨[],()⟩⟩⟩⟩⟩ fun v13 =>
 gd (ft 16 (ln v13.hd)) <|
 mq (a:=(.p I I)) (b:=(.ls I)) v13.hd fun (v14:(List (Int×Int))) =>
 call Jm7 (v14:(List (Int×Int))) fun (v15:(List (Int×Int))) =>
 loop (Kw a) ⟨(ln v15),⟨0,⟨v13.hd,⟨v15,⟨[],()⟩⟩⟩⟩⟩ fun v34 =>
 some v34.hd)
noncomputable def Xf:Ctr:=⟨70,[(.ag,(.ls (.p I (.ls (.p I I)))))],[(false,(.ls (.ls (.p I I))))],@Zj wv⟩
theorem Jif (w:W) (a):fnD (dW w) (cxO (gam [(169,Qv),(91,Kh),(176,Jb),(220,Jd),(173,J8),(174,J5),(175,J1),(23,J2)]) [] [] [Jis] [] [(170,Jff),(172,Jdo)] [167]) 8 70 [(.ag,(.ls (.p I (.ls (.p I I)))))] [(false,(.ls (.ls (.p I I))))] a=@Zj w a:=by kernel_rfl
theorem Jil:Go.Dn.Good PG Xf:=good (gam [(169,Qv),(91,Kh),(176,Jb),(220,Jd),(173,J8),(174,J5),(175,J1),(23,J2)]) [] [] [Jis] [] [(170,Jff),(172,Jdo)] [167] 8 (Jk Jhr (Jk Jd2 (Jk Qx (Jk J4 (Jk Jci (Jk Jcq (Jk Jb7 (Jk zo Jx)))))))) (Jt4 Jxq Kj) (Jk2 Jrz (Jk2 Jnt Kl)) (Jv (by kernel_rfl)) rfl rfl (Jif wv)
noncomputable def Zw [W] (a:Int):Option Int :=
 br (cm .gtr a 0) (some 1)
 (br (cm .lss a 0) (some (-1))
 (some 0))
noncomputable def Q7:Ctr:=⟨177,[(.one,I)],[(false,I)],@Zw wv⟩
theorem Jj1 (w:W) (a):fnD (dW w) (cxO (gam []) [] [] [] [] [] []) 8 177 [(.one,I)] [(false,I)] a=@Zw w a:=by kernel_rfl
theorem Jjc:Go.Dn.Good PG Q7:=good (gam []) [] [] [] [] [] [] 8 Jx Kj Kl (Jv (by kernel_rfl)) rfl rfl (Jj1 wv)
noncomputable def Xz [W] (a:((Int×Int)×(Int×Int))):Option (Int×Int) :=
 call Q7 ((ar .sub .i64 a.2.1 a.1.1):Int) fun (v0:Int) =>
 call Q7 ((ar .sub .i64 a.2.2 a.1.2):Int) fun (v1:Int) =>
 some (v0,v1)
noncomputable def Ko:Ctr:=⟨134,[(.ag,(.p I I)),(.ag,(.p I I))],[(true,(.p I I))],@Xz wv⟩
theorem Jer (w:W) (a):fnD (dW w) (cxO (gam [(177,Q7)]) [] [] [] [] [] []) 8 134 [(.ag,(.p I I)),(.ag,(.p I I))] [(true,(.p I I))] a=@Xz w a:=by kernel_rfl
theorem Jeu:Go.Dn.Good PG Ko:=good (gam [(177,Q7)]) [] [] [] [] [] [] 8 (Jk Jjc Jx) Kj Kl (Jv (by kernel_rfl)) rfl rfl (Jer wv)
noncomputable def Zy [W] (a:((Int×Int)×(Int×Int))):Option (Int×Int) :=
 br (an (cm .eql a.2.1 1) (cm .eql a.2.2 0)) (some (a.1.1,a.1.2))
 (br (an (cm .eql a.2.1 0) (cm .eql a.2.2 1)) (some ((ar .sub .i64 a.1.1 1),a.1.2))
 (br (an (cm .eql a.2.1 (-1)) (cm .eql a.2.2 0)) (some ((ar .sub .i64 a.1.1 1),(ar .sub .i64 a.1.2 1)))
 (some (a.1.1,(ar .sub .i64 a.1.2 1)))))
noncomputable def Q4:Ctr:=⟨136,[(.ag,(.p I I)),(.ag,(.p I I))],[(true,(.p I I))],@Zy wv⟩
theorem Jla (w:W) (a):fnD (dW w) (cxO (gam []) [] [] [] [] [] []) 8 136 [(.ag,(.p I I)),(.ag,(.p I I))] [(true,(.p I I))] a=@Zy w a:=by kernel_rfl
theorem Jji:Go.Dn.Good PG Q4:=good (gam []) [] [] [] [] [] [] 8 Jx Kj Kl (Jv (by kernel_rfl)) rfl rfl (Jla wv)
noncomputable def Xo [W] (s:(HP (List (Int×Int)) (HP Int (HP (List (Int×Int)) (HP Int (HP Int (HP Int (HP Int Unit)))))))):Option (Nx (HP (List (Int×Int)) (HP Int (HP (List (Int×Int)) (HP Int (HP Int (HP Int (HP Int Unit))))))) (HP (List (Int×Int)) (HP Int (HP (List (Int×Int)) (HP Int (HP Int (HP Int (HP Int Unit)))))))) :=
 gd (cm .neq (ln s.hd) 0) <|
 ge s.hd (ar .rem .i64 (ar .add .i64 s.tl.hd 1) (ln s.hd)) fun v4 =>
 br (nt (an (cm .eql s.tl.tl.tl.hd v4.1) (cm .eql s.tl.tl.tl.tl.hd v4.2))) (call Q4 (((s.tl.tl.tl.hd,s.tl.tl.tl.tl.hd),(s.tl.tl.tl.tl.tl.hd,s.tl.tl.tl.tl.tl.tl.hd)):((Int×Int)×(Int×Int))) fun (v5:(Int×Int)) =>
 br (cm .gtr (ln s.tl.tl.hd) 0) (gd (ib (ar .sub .i64 (ln s.tl.tl.hd) 1) (ln s.tl.tl.hd)) <|
 ge s.tl.tl.hd (ar .sub .i64 (ln s.tl.tl.hd) 1) fun v6 =>
 br (an (cm .eql v6.1 v5.1) (cm .eql v6.2 v5.2)) (some (.go ⟨s.hd,⟨s.tl.hd,⟨s.tl.tl.hd,⟨(ar .add .i64 s.tl.tl.tl.hd s.tl.tl.tl.tl.tl.hd),⟨(ar .add .i64 s.tl.tl.tl.tl.hd s.tl.tl.tl.tl.tl.tl.hd),⟨s.tl.tl.tl.tl.tl.hd,⟨s.tl.tl.tl.tl.tl.tl.hd,()⟩⟩⟩⟩⟩⟩⟩))
 (gd (ft 16 (pl (ln s.tl.tl.hd) 1)) <|
 some (.go ⟨s.hd,⟨s.tl.hd,⟨(ap s.tl.tl.hd ((v5.1,v5.2)::[])),⟨(ar .add .i64 s.tl.tl.tl.hd s.tl.tl.tl.tl.tl.hd),⟨(ar .add .i64 s.tl.tl.tl.tl.hd s.tl.tl.tl.tl.tl.tl.hd),⟨s.tl.tl.tl.tl.tl.hd,⟨s.tl.tl.tl.tl.tl.tl.hd,()⟩⟩⟩⟩⟩⟩⟩)))
 (gd (ft 16 (pl (ln s.tl.tl.hd) 1)) <|
 some (.go ⟨s.hd,⟨s.tl.hd,⟨(ap s.tl.tl.hd ((v5.1,v5.2)::[])),⟨(ar .add .i64 s.tl.tl.tl.hd s.tl.tl.tl.tl.tl.hd),⟨(ar .add .i64 s.tl.tl.tl.tl.hd s.tl.tl.tl.tl.tl.tl.hd),⟨s.tl.tl.tl.tl.tl.hd,⟨s.tl.tl.tl.tl.tl.tl.hd,()⟩⟩⟩⟩⟩⟩⟩)))
 (some (.out ⟨s.hd,⟨s.tl.hd,⟨s.tl.tl.hd,⟨s.tl.tl.tl.hd,⟨s.tl.tl.tl.tl.hd,⟨s.tl.tl.tl.tl.tl.hd,⟨s.tl.tl.tl.tl.tl.tl.hd,()⟩⟩⟩⟩⟩⟩⟩))
noncomputable def Ys [W] (s:(HP (List (Int×Int)) (HP Int (HP Int (HP Int (HP Int (HP Int (HP (List (Int×Int)) Unit)))))))):Option (Nx (HP (List (Int×Int)) (HP Int (HP Int (HP Int (HP Int (HP Int (HP (List (Int×Int)) Unit))))))) (HP (List (Int×Int)) Unit)) :=
 loop Xo ⟨s.hd,⟨s.tl.hd,⟨s.tl.tl.tl.tl.tl.tl.hd,⟨s.tl.tl.hd,⟨s.tl.tl.tl.hd,⟨s.tl.tl.tl.tl.hd,⟨s.tl.tl.tl.tl.tl.hd,()⟩⟩⟩⟩⟩⟩⟩ fun v7 =>
 gd (cm .neq (ln v7.hd) 0) <|
 ge v7.hd (ar .rem .i64 (ar .add .i64 v7.tl.hd 1) (ln v7.hd)) fun v8 =>
 gd (cm .neq (ln v7.hd) 0) <|
 ge v7.hd (ar .rem .i64 (ar .add .i64 (ar .add .i64 v7.tl.hd 1) 1) (ln v7.hd)) fun v9 =>
 call Ko (((v8.1,v8.2),(v9.1,v9.2)):((Int×Int)×(Int×Int))) fun (v10:(Int×Int)) =>
 br (cm .lss (ar .sub .i64 (ar .mul .i64 v7.tl.tl.tl.tl.tl.hd v10.2) (ar .mul .i64 v7.tl.tl.tl.tl.tl.tl.hd v10.1)) 0) (call Q4 ((((ar .sub .i64 v7.tl.tl.tl.hd v7.tl.tl.tl.tl.tl.hd),(ar .sub .i64 v7.tl.tl.tl.tl.hd v7.tl.tl.tl.tl.tl.tl.hd)),(v7.tl.tl.tl.tl.tl.hd,v7.tl.tl.tl.tl.tl.tl.hd)):((Int×Int)×(Int×Int))) fun (v11:(Int×Int)) =>
 br (cm .gtr (ln v7.tl.tl.hd) 0) (gd (ib (ar .sub .i64 (ln v7.tl.tl.hd) 1) (ln v7.tl.tl.hd)) <|
 ge v7.tl.tl.hd (ar .sub .i64 (ln v7.tl.tl.hd) 1) fun v12 =>
 br (an (cm .eql v12.1 (ar .add .i64 v11.1 v7.tl.tl.tl.tl.tl.hd)) (cm .eql v12.2 (ar .add .i64 v11.2 v7.tl.tl.tl.tl.tl.tl.hd))) (br (cm .eql (ar .add .i64 v7.tl.hd 1) (ln v7.hd)) (some (.out ⟨v7.tl.tl.hd,()⟩))
 (some (.go ⟨v7.hd,⟨(ar .add .i64 v7.tl.hd 1),⟨v7.tl.tl.tl.hd,⟨v7.tl.tl.tl.tl.hd,⟨v10.1,⟨v10.2,⟨v7.tl.tl.hd,()⟩⟩⟩⟩⟩⟩⟩)))
 (gd (ft 16 (pl (ln v7.tl.tl.hd) 1)) <|
 br (cm .eql (ar .add .i64 v7.tl.hd 1) (ln v7.hd)) (some (.out ⟨(ap v7.tl.tl.hd (((ar .add .i64 v11.1 v7.tl.tl.tl.tl.tl.hd),(ar .add .i64 v11.2 v7.tl.tl.tl.tl.tl.tl.hd))::[])),()⟩))
 (some (.go ⟨v7.hd,⟨(ar .add .i64 v7.tl.hd 1),⟨v7.tl.tl.tl.hd,⟨v7.tl.tl.tl.tl.hd,⟨v10.1,⟨v10.2,⟨(ap v7.tl.tl.hd (((ar .add .i64 v11.1 v7.tl.tl.tl.tl.tl.hd),(ar .add .i64 v11.2 v7.tl.tl.tl.tl.tl.tl.hd))::[])),()⟩⟩⟩⟩⟩⟩⟩))))
 (gd (ft 16 (pl (ln v7.tl.tl.hd) 1)) <|
 br (cm .eql (ar .add .i64 v7.tl.hd 1) (ln v7.hd)) (some (.out ⟨(ap v7.tl.tl.hd (((ar .add .i64 v11.1 v7.tl.tl.tl.tl.tl.hd),(ar .add .i64 v11.2 v7.tl.tl.tl.tl.tl.tl.hd))::[])),()⟩))
 (some (.go ⟨v7.hd,⟨(ar .add .i64 v7.tl.hd 1),⟨v7.tl.tl.tl.hd,⟨v7.tl.tl.tl.tl.hd,⟨v10.1,⟨v10.2,⟨(ap v7.tl.tl.hd (((ar .add .i64 v11.1 v7.tl.tl.tl.tl.tl.hd),(ar .add .i64 v11.2 v7.tl.tl.tl.tl.tl.tl.hd))::[])),()⟩⟩⟩⟩⟩⟩⟩))))
 (br (cm .eql (ar .add .i64 v7.tl.hd 1) (ln v7.hd)) (some (.out ⟨v7.tl.tl.hd,()⟩))
 (some (.go ⟨v7.hd,⟨(ar .add .i64 v7.tl.hd 1),⟨v7.tl.tl.tl.hd,⟨v7.tl.tl.tl.tl.hd,⟨v10.1,⟨v10.2,⟨v7.tl.tl.hd,()⟩⟩⟩⟩⟩⟩⟩)))
noncomputable def jk [W] (a:(List (Int×Int))):Option (List (Int×Int)) :=
 ge a 0 fun v0 =>
 ge a 0 fun v1 =>
 ge a 1 fun v2 =>
 call Ko (((v1.1,v1.2),(v2.1,v2.2)):((Int×Int)×(Int×Int))) fun (v3:(Int×Int)) =>
 loop Ys ⟨a,⟨0,⟨v0.1,⟨v0.2,⟨v3.1,⟨v3.2,⟨[],()⟩⟩⟩⟩⟩⟩⟩ fun v13 =>
 br (cm .gtr (ln v13.hd) 1) (gd (ib 0 (ln v13.hd)) <|
 ge v13.hd 0 fun v14 =>
 gd (ib (ar .sub .i64 (ln v13.hd) 1) (ln v13.hd)) <|
 ge v13.hd (ar .sub .i64 (ln v13.hd) 1) fun v15 =>
 br (an (cm .eql v14.1 v15.1) (cm .eql v14.2 v15.2)) (gd (le 0 (ar .sub .i64 (ln v13.hd) 1)) <|
 gd (le (ar .sub .i64 (ln v13.hd) 1) (ln v13.hd)) <|
 gd (le 0 0) <|
 gd (le 0 (ar .sub .i64 (ln v13.hd) 1)) <|
 gd (le (pl 0 (ar .sub .i64 (ln v13.hd) 1)) (ln v13.hd)) <|
 some (ct v13.hd 0 (ar .sub .i64 (ln v13.hd) 1)))
 (some v13.hd))
 (some v13.hd)
noncomputable def Yw:Ctr:=⟨71,[(.one,(.ls (.p I I)))],[(false,(.ls (.p I I)))],@jk wv⟩
theorem Jj7 (w:W) (a):fnD (dW w) (cxO (gam [(136,Q4),(134,Ko)]) [] [] [] [] [] []) 8 71 [(.one,(.ls (.p I I)))] [(false,(.ls (.p I I)))] a=@jk w a:=by kernel_rfl
theorem Jjs:Go.Dn.Good PG Yw:=good (gam [(136,Q4),(134,Ko)]) [] [] [] [] [] [] 8 (Jk Jji (Jk Jeu Jx)) Kj Kl (Jv (by kernel_rfl)) rfl rfl (Jj7 wv)
noncomputable def Xh [W] (s:(HP (List (List (Int×Int))) (HP Int (HP Int (HP (List (Int×(Bool×(List (Int×Int))))) Unit))))):Option (Nx (HP (List (List (Int×Int))) (HP Int (HP Int (HP (List (Int×(Bool×(List (Int×Int))))) Unit)))) (HP (List (Int×(Bool×(List (Int×Int))))) Unit)) :=
 br (cm .lss s.tl.tl.hd s.tl.hd) (ge s.hd s.tl.tl.hd fun v1 =>
 call Yw (v1:(List (Int×Int))) fun (v2:(List (Int×Int))) =>
 br (cm .leq (ln v2) 65536) (gd (ft 40 (pl (ln s.tl.tl.tl.hd) 1)) <|
 some (.go ⟨s.hd,⟨s.tl.hd,⟨(ar .add .i64 s.tl.tl.hd 1),⟨(ap s.tl.tl.tl.hd ((1,(true,v2))::[])),()⟩⟩⟩⟩))
 (some (.go ⟨s.hd,⟨s.tl.hd,⟨(ar .add .i64 s.tl.tl.hd 1),⟨s.tl.tl.tl.hd,()⟩⟩⟩⟩)))
 (some (.out ⟨s.tl.tl.tl.hd,()⟩))
noncomputable def Yy [W] (a:(List (Int×(List (Int×Int))))):Option (List (Int×(Bool×(List (Int×Int))))) :=
 call Xf (a:(List (Int×(List (Int×Int))))) fun (v0:(List (List (Int×Int)))) =>
 loop Xh ⟨v0,⟨(ln v0),⟨0,⟨[],()⟩⟩⟩⟩ fun v3 =>
 some v3.hd
noncomputable def Ku:Ctr:=⟨26,[(.ag,(.ls (.p I (.ls (.p I I)))))],[(false,(.ls (.p I (.p .bool (.ls (.p I I))))))],@Yy wv⟩
theorem Ji4 (w:W) (a):fnD (dW w) (cxO (gam [(71,Yw),(70,Xf)]) [] [] [] [] [] []) 8 26 [(.ag,(.ls (.p I (.ls (.p I I)))))] [(false,(.ls (.p I (.p .bool (.ls (.p I I))))))] a=@Yy w a:=by kernel_rfl
theorem Jdj:Go.Dn.Good PG Ku:=good (gam [(71,Yw),(70,Xf)]) [] [] [] [] [] [] 8 (Jk Jjs (Jk Jil Jx)) Kj Kl (Jv (by kernel_rfl)) rfl rfl (Ji4 wv)
noncomputable def K6 [W] (s:(HP (List (Int×Int)) (HP Int Unit))):Option (Nx (HP (List (Int×Int)) (HP Int Unit)) (Unit ⊕ (HP (List (Int×Int)) Unit))) :=
  br (cm .lss s.tl.hd (ln s.hd)) (ge s.hd s.tl.hd fun v0 =>
  br (cm .lss v0.1 (-4096)) (some (.out (.inl ())))
  (ge s.hd s.tl.hd fun v1 =>
  ge s.hd s.tl.hd fun v2 =>
  br (cm .geq v1.1 v2.2) (some (.out (.inl ())))
  (ge s.hd s.tl.hd fun v3 =>
  br (cm .gtr v3.2 4096) (some (.out (.inl ())))
  (br (cm .gtr s.tl.hd 0) (ge s.hd s.tl.hd fun v4 =>
  ge s.hd (ar .sub .i64 s.tl.hd 1) fun v5 =>
  br (cm .leq v4.1 v5.2) (some (.out (.inl ())))
  (some (.go ⟨s.hd,⟨(ar .add .i64 s.tl.hd 1),()⟩⟩)))
  (some (.go ⟨s.hd,⟨(ar .add .i64 s.tl.hd 1),()⟩⟩))))))
  (some (.out (.inr ⟨s.hd,()⟩)))
noncomputable def Xy [W] (a:(List (Int×Int))):Option Bool :=
  loop K6 ⟨a,⟨0,()⟩⟩ fun v6 =>
  match v6 with
  | .inl v7=>(some false)
  | .inr v8=>(some (cm .gtr (ln v8.hd) 0))
noncomputable def Kp:Ctr:=⟨61,[(.one,(.ls (.p I I)))],[(false,.bool)],@Xy wv⟩
theorem Jex (w:W) (a):fnD (dW w) (cxO (gam []) [] [] [] [] [] []) 8 61 [(.one,(.ls (.p I I)))] [(false,.bool)] a=@Xy w a:=by kernel_rfl
theorem Jey:Go.Dn.Good PG Kp:=good (gam []) [] [] [] [] [] [] 8 Jx Kj Kl (Jv (by kernel_rfl)) rfl rfl (Jex wv)
noncomputable def Kx [W] (s:(HP Int (HP (List (Int×(List (Int×Int)))) Unit))):Option (Nx (HP Int (HP (List (Int×(List (Int×Int)))) Unit)) (Unit ⊕ Unit)) :=
  br (cm .lss s.hd (ln s.tl.hd)) (ge s.tl.hd s.hd fun v0 =>
  br (cm .lss v0.1 (-4096)) (some (.out (.inl ())))
  (br (cm .geq v0.1 4096) (some (.out (.inl ())))
  (br (cm .gtr s.hd 0) (ge s.tl.hd (ar .sub .i64 s.hd 1) fun v1 =>
  br (cm .leq v0.1 v1.1) (some (.out (.inl ())))
  (ge s.tl.hd s.hd fun v2 =>
  call Kp (v2.2:(List (Int×Int))) fun (v3:Bool) =>
  br (nt v3) (some (.out (.inl ())))
  (some (.go ⟨(ar .add .i64 s.hd 1),⟨s.tl.hd,()⟩⟩))))
  (ge s.tl.hd s.hd fun v4 =>
  call Kp (v4.2:(List (Int×Int))) fun (v5:Bool) =>
  br (nt v5) (some (.out (.inl ())))
  (some (.go ⟨(ar .add .i64 s.hd 1),⟨s.tl.hd,()⟩⟩))))))
  (some (.out (.inr ())))
noncomputable def Xn [W] (a:(List (Int×(List (Int×Int))))):Option Bool :=
  loop Kx ⟨0,⟨a,()⟩⟩ fun v6 =>
  match v6 with
  | .inl v7=>(some false)
  | .inr v8=>(some true)
noncomputable def Km:Ctr:=⟨17,[(.ag,(.ls (.p I (.ls (.p I I)))))],[(false,.bool)],@Xn wv⟩
theorem Jd6 (w:W) (a):fnD (dW w) (cxO (gam [(61,Kp)]) [] [] [] [] [] []) 8 17 [(.ag,(.ls (.p I (.ls (.p I I)))))] [(false,.bool)] a=@Xn w a:=by kernel_rfl
theorem Jdi:Go.Dn.Good PG Km:=good (gam [(61,Kp)]) [] [] [] [] [] [] 8 (Jk Jey Jx) Kj Kl (Jv (by kernel_rfl)) rfl rfl (Jd6 wv)
noncomputable def Qj [W] (s:(HP Int (HP Int (HP Int (HP (List (Int×(List (Int×Int)))) Unit))))):Option (Nx (HP Int (HP Int (HP Int (HP (List (Int×(List (Int×Int)))) Unit)))) (HP Int (HP Int (HP (List (Int×(List (Int×Int)))) Unit)))) :=
  ge s.tl.tl.tl.hd s.tl.hd fun v1 =>
  br (cm .lss s.tl.tl.hd (ln v1.2)) (ge s.tl.tl.tl.hd s.tl.hd fun v2 =>
  ge v2.2 s.tl.tl.hd fun v3 =>
  ge s.tl.tl.tl.hd s.tl.hd fun v4 =>
  ge v4.2 s.tl.tl.hd fun v5 =>
  some (.go ⟨(ar .add .i64 s.hd (ar .sub .i64 v3.2 v5.1)),⟨s.tl.hd,⟨(ar .add .i64 s.tl.tl.hd 1),⟨s.tl.tl.tl.hd,()⟩⟩⟩⟩))
  (some (.out ⟨s.hd,⟨s.tl.hd,⟨s.tl.tl.tl.hd,()⟩⟩⟩))
noncomputable def Qg [W] (s:(HP Int (HP Int (HP (List (Int×(List (Int×Int)))) Unit)))):Option (Nx (HP Int (HP Int (HP (List (Int×(List (Int×Int)))) Unit))) (HP Int Unit)) :=
  br (cm .lss s.tl.hd (ln s.tl.tl.hd)) (loop Qj ⟨s.hd,⟨s.tl.hd,⟨0,⟨s.tl.tl.hd,()⟩⟩⟩⟩ fun v6 =>
  some (.go ⟨v6.hd,⟨(ar .add .i64 v6.tl.hd 1),⟨v6.tl.tl.hd,()⟩⟩⟩))
  (some (.out ⟨s.hd,()⟩))
noncomputable def Xs [W] (a:(List (Int×(List (Int×Int))))):Option Int :=
  call Km (a:(List (Int×(List (Int×Int))))) fun (v0:Bool) =>
  br (nt v0) (some 0)
  (loop Qg ⟨0,⟨0,⟨a,()⟩⟩⟩ fun v7 =>
  some v7.hd)
noncomputable def Ky:Ctr:=⟨66,[(.ag,(.ls (.p I (.ls (.p I I)))))],[(false,I)],@Xs wv⟩
theorem Jdm (w:W) (a):fnD (dW w) (cxO (gam [(17,Km)]) [] [] [] [] [] []) 8 66 [(.ag,(.ls (.p I (.ls (.p I I)))))] [(false,I)] a=@Xs w a:=by kernel_rfl
theorem Jdl:Go.Dn.Good PG Ky:=good (gam [(17,Km)]) [] [] [] [] [] [] 8 (Jk Jdi Jx) Kj Kl (Jv (by kernel_rfl)) rfl rfl (Jdm wv)
noncomputable def Qh [W] (s:(HP Int (HP (List (Int×(List (Int×Int)))) Unit))):Option (Nx (HP Int (HP (List (Int×(List (Int×Int)))) Unit)) (Unit ⊕ (HP (List (Int×(List (Int×Int)))) Unit))) :=
  br (cm .lss s.hd (ln s.tl.hd)) (ge s.tl.hd s.hd fun v0 =>
  br (cm .gtr (ln v0.2) 40) (some (.out (.inl ())))
  (some (.go ⟨(ar .add .i64 s.hd 1),⟨s.tl.hd,()⟩⟩)))
  (some (.out (.inr ⟨s.tl.hd,()⟩)))
noncomputable def Xq [W] (a:(List (Int×(List (Int×Int))))):Option Bool :=
  br (cm .gtr (ln a) 40) (some false)
  (loop Qh ⟨0,⟨a,()⟩⟩ fun v1 =>
  match v1 with
  | .inl v2=>(some false)
  | .inr v3=>(call Ky (v3.hd:(List (Int×(List (Int×Int))))) fun (v4:Int) =>
  some (cm .leq v4 600)))
noncomputable def Qd:Ctr:=⟨22,[(.ag,(.ls (.p I (.ls (.p I I)))))],[(false,.bool)],@Xq wv⟩
theorem Jdz (w:W) (a):fnD (dW w) (cxO (gam [(66,Ky)]) [] [] [] [] [] []) 8 22 [(.ag,(.ls (.p I (.ls (.p I I)))))] [(false,.bool)] a=@Xq w a:=by kernel_rfl
theorem Jdn:Go.Dn.Good PG Qd:=good (gam [(66,Ky)]) [] [] [] [] [] [] 8 (Jk Jdl Jx) Kj Kl (Jv (by kernel_rfl)) rfl rfl (Jdz wv)
noncomputable def Q8 [W] (s:(HP Int (HP Int (HP Int (HP Int (HP Int (HP (List (Int×(List (Int×Int)))) Unit))))))):Option (Nx (HP Int (HP Int (HP Int (HP Int (HP Int (HP (List (Int×(List (Int×Int)))) Unit)))))) (HP (List (Int×(List (Int×Int)))) Unit)) :=
  br (cm .lss s.tl.tl.tl.tl.hd s.tl.tl.tl.hd) (gd (ft 32 (pl (ln s.tl.tl.tl.tl.tl.hd) 1)) <|
  some (.go ⟨s.hd,⟨s.tl.hd,⟨s.tl.tl.hd,⟨s.tl.tl.tl.hd,⟨(ar .add .i64 s.tl.tl.tl.tl.hd 1),⟨(ap s.tl.tl.tl.tl.tl.hd (((ar .add .i64 s.tl.hd s.tl.tl.tl.tl.hd),((s.hd,(ar .add .i64 s.hd s.tl.tl.hd))::[]))::[])),()⟩⟩⟩⟩⟩⟩))
  (some (.out ⟨s.tl.tl.tl.tl.tl.hd,()⟩))
noncomputable def X5 [W] (a:(Int×(Int×(Int×Int)))):Option (List (Int×(List (Int×Int)))) :=
  loop Q8 ⟨a.1,⟨a.2.1,⟨a.2.2.1,⟨a.2.2.2,⟨0,⟨[],()⟩⟩⟩⟩⟩⟩ fun v0 =>
  some v0.hd
noncomputable def Q6:Ctr:=⟨69,[(.one,I),(.one,I),(.one,I),(.one,I)],[(true,(.ls (.p I (.ls (.p I I)))))],@X5 wv⟩
theorem Je2 (w:W) (a):fnD (dW w) (cxO (gam []) [] [] [] [] [] []) 8 69 [(.one,I),(.one,I),(.one,I),(.one,I)] [(true,(.ls (.p I (.ls (.p I I)))))] a=@X5 w a:=by kernel_rfl
theorem Jfd:Go.Dn.Good PG Q6:=good (gam []) [] [] [] [] [] [] 8 Jx Kj Kl (Jv (by kernel_rfl)) rfl rfl (Je2 wv)
noncomputable def Xp [W] (a:Unit):Option Bool :=
  call Q6 ((0,(0,(2,2))):(Int×(Int×(Int×Int)))) fun (v0:(List (Int×(List (Int×Int))))) =>
  call Ku (v0:(List (Int×(List (Int×Int))))) fun (v1:(List (Int×(Bool×(List (Int×Int)))))) =>
  br (cm .neq (ln v1) 1) (some false)
  (ge v1 0 fun v2 =>
  br (cm .neq (ln v2.2.2) 4) (some false)
  (ge v1 0 fun v3 =>
  ge v1 0 fun v4 =>
  br v4.2.1 (ge v1 0 fun v5 =>
  br (cm .eql v5.1 1) (ge v3.2.2 0 fun v6 =>
  br (an (cm .eql v6.1 0) (cm .eql v6.2 0)) (ge v3.2.2 1 fun v7 =>
  br (an (cm .eql v7.1 1) (cm .eql v7.2 0)) (ge v3.2.2 2 fun v8 =>
  br (an (cm .eql v8.1 1) (cm .eql v8.2 1)) (ge v3.2.2 3 fun v9 =>
  some (an (cm .eql v9.1 0) (cm .eql v9.2 1)))
  (some false))
  (some false))
  (some false))
  (some false))
  (some false)))
noncomputable def Ke:Ctr:=⟨24,[],[(false,.bool)],@Xp wv⟩
theorem Jd0 (w:W) (a):fnD (dW w) (cxO (gam [(69,Q6),(26,Ku)]) [] [] [] [] [] []) 8 24 [] [(false,.bool)] a=@Xp w a:=by kernel_rfl
theorem Jdw:Go.Dn.Good PG Ke:=good (gam [(69,Q6),(26,Ku)]) [] [] [] [] [] [] 8 (Jk Jfd (Jk Jdj Jx)) Kj Kl (Jv (by kernel_rfl)) rfl rfl (Jd0 wv)
noncomputable def Qu [W] (s:(HP Int (HP Int (HP (List (Int×(List (Int×Int)))) (HP (List (Int×(List (Int×Int)))) (HP Int (HP (List (Int×Int)) (HP Int (HP (List (Int×Int)) Unit))))))))):Option (Nx (HP Int (HP Int (HP (List (Int×(List (Int×Int)))) (HP (List (Int×(List (Int×Int)))) (HP Int (HP (List (Int×Int)) (HP Int (HP (List (Int×Int)) Unit)))))))) (Unit ⊕ (HP Int (HP (List (Int×(List (Int×Int)))) (HP (List (Int×(List (Int×Int)))) Unit))))) :=
  br (cm .lss s.tl.hd (ln s.tl.tl.tl.tl.tl.hd)) (ge s.tl.tl.tl.tl.tl.hd s.tl.hd fun v2 =>
  ge s.tl.tl.tl.tl.tl.tl.tl.hd s.tl.hd fun v3 =>
  br (nt (an (cm .eql v2.1 v3.1) (cm .eql v2.2 v3.2))) (some (.out (.inl ())))
  (some (.go ⟨s.hd,⟨(ar .add .i64 s.tl.hd 1),⟨s.tl.tl.hd,⟨s.tl.tl.tl.hd,⟨s.tl.tl.tl.tl.hd,⟨s.tl.tl.tl.tl.tl.hd,⟨s.tl.tl.tl.tl.tl.tl.hd,⟨s.tl.tl.tl.tl.tl.tl.tl.hd,()⟩⟩⟩⟩⟩⟩⟩⟩)))
  (some (.out (.inr ⟨s.hd,⟨s.tl.tl.hd,⟨s.tl.tl.tl.hd,()⟩⟩⟩)))
noncomputable def Qs [W] (s:(HP Int (HP (List (Int×(List (Int×Int)))) (HP (List (Int×(List (Int×Int)))) Unit)))):Option (Nx (HP Int (HP (List (Int×(List (Int×Int)))) (HP (List (Int×(List (Int×Int)))) Unit))) (Unit ⊕ Unit)) :=
  br (cm .lss s.hd (ln s.tl.hd)) (ge s.tl.hd s.hd fun v0 =>
  ge s.tl.tl.hd s.hd fun v1 =>
  br (cm .neq v0.1 v1.1) (some (.out (.inl ())))
  (br (cm .neq (ln v0.2) (ln v1.2)) (some (.out (.inl ())))
  (loop Qu ⟨s.hd,⟨0,⟨s.tl.hd,⟨s.tl.tl.hd,⟨v0.1,⟨v0.2,⟨v1.1,⟨v1.2,()⟩⟩⟩⟩⟩⟩⟩⟩ fun v4 =>
  match v4 with
  | .inl v5=>(some (.out (.inl ())))
  | .inr v6=>(some (.go ⟨(ar .add .i64 v6.hd 1),⟨v6.tl.hd,⟨v6.tl.tl.hd,()⟩⟩⟩)))))
  (some (.out (.inr ())))
noncomputable def X0 [W] (a:((List (Int×(List (Int×Int))))×(List (Int×(List (Int×Int)))))):Option Bool :=
  br (cm .neq (ln a.1) (ln a.2)) (some false)
  (loop Qs ⟨0,⟨a.1,⟨a.2,()⟩⟩⟩ fun v7 =>
  match v7 with
  | .inl v8=>(some false)
  | .inr v9=>(some true))
noncomputable def Qp:Ctr:=⟨25,[(.ag,(.ls (.p I (.ls (.p I I))))),(.ag,(.ls (.p I (.ls (.p I I)))))],[(false,.bool)],@X0 wv⟩
theorem Jes (w:W) (a):fnD (dW w) (cxO (gam []) [] [] [] [] [] []) 8 25 [(.ag,(.ls (.p I (.ls (.p I I))))),(.ag,(.ls (.p I (.ls (.p I I)))))] [(false,.bool)] a=@X0 w a:=by kernel_rfl
theorem Jew:Go.Dn.Good PG Qp:=good (gam []) [] [] [] [] [] [] 8 Jx Kj Kl (Jv (by kernel_rfl)) rfl rfl (Jes wv)
noncomputable def Jbb [W] (a:Int):Option Bool :=
  some (cm .neq a a)
noncomputable def Ja3:Ctr:=⟨168,[(.one,I)],[(false,.bool)],@Jbb wv⟩
theorem Jta (w:W) (a):fnD (dW w) (cxO (gam []) [] [] [] [] [] []) 8 168 [(.one,I)] [(false,.bool)] a=@Jbb w a:=by kernel_rfl
theorem Jtb:Go.Dn.Good PG Ja3:=good (gam []) [] [] [] [] [] [] 8 Jx Kj Kl (Jv (by kernel_rfl)) rfl rfl (Jta wv)
noncomputable def ji [W] (a:(Int×Int)):Option Int :=
  call Ja3 (a.1:Int) fun (v0:Bool) =>
  call Ja3 (a.2:Int) fun (v1:Bool) =>
  br v0 (br v1 (some 0)
  (some (-1)))
  (br v1 (some 1)
  (br (cm .lss a.1 a.2) (some (-1))
  (br (cm .gtr a.1 a.2) (some 1)
  (some 0))))
noncomputable def K5:Ctr:=⟨125,[(.one,I),(.one,I)],[(false,I)],@ji wv⟩
theorem Jpm (w:W) (a):fnD (dW w) (cxO (gam [(168,Ja3)]) [] [] [] [] [] []) 8 125 [(.one,I),(.one,I)] [(false,I)] a=@ji w a:=by kernel_rfl
theorem Jfx:Go.Dn.Good PG K5:=good (gam [(168,Ja3)]) [] [] [] [] [] [] 8 (Jk Jtb Jx) Kj Kl (Jv (by kernel_rfl)) rfl rfl (Jpm wv)
noncomputable def Jbc [W] (s:(HP Int (HP (List Int) (HP Int (HP Int Unit))))):Option (Nx (HP Int (HP (List Int) (HP Int (HP Int Unit)))) ((HP Int Unit) ⊕ (HP Int Unit))) :=
  br (cm .lss s.tl.tl.tl.hd s.tl.tl.hd) (ge s.tl.hd s.tl.tl.tl.hd fun v0 =>
  br (cm .neq v0 s.hd) (some (.out (.inl ⟨v0,()⟩)))
  (some (.go ⟨s.hd,⟨s.tl.hd,⟨s.tl.tl.hd,⟨(ar .add .i64 s.tl.tl.tl.hd 1),()⟩⟩⟩⟩)))
  (some (.out (.inr ⟨s.hd,()⟩)))
noncomputable def Jf5 [W] (a:(List Int)):Option Int :=
  loop Jbc ⟨0,⟨a,⟨(ln a),⟨0,()⟩⟩⟩⟩ fun v1 =>
  match v1 with
  | .inl v2=>(some v2.hd)
  | .inr v3=>(some v3.hd)
noncomputable def Jin:Ctr:=⟨128,[(.one,(.ls I))],[(false,I)],@Jf5 wv⟩
theorem e_cmp_Or (w:W) (a):fnD (dW w) (cxO (gam []) [] [] [] [] [] []) 8 128 [(.one,(.ls I))] [(false,I)] a=@Jf5 w a:=by kernel_rfl
theorem g_cmp_Or:Go.Dn.Good PG Jin:=good (gam []) [] [] [] [] [] [] 8 Jx Kj Kl (Jv (by kernel_rfl)) rfl rfl (e_cmp_Or wv)
noncomputable def Jam [W] (a:((Int×Int)×(Int×Int))):Option Int :=
  call K5 ((a.1.2,a.2.2):(Int×Int)) fun (v0:Int) =>
  call K5 ((a.1.1,a.2.1):(Int×Int)) fun (v1:Int) =>
  call Jin ((v0::(v1::[])):(List Int)) fun (v2:Int) =>
  some v2
noncomputable def Jn2:Ctr:=⟨127,[(.ag,(.p I I)),(.ag,(.p I I))],[(false,I)],@Jam wv⟩
theorem Jpn (w:W) (a):fnD (dW w) (cxO (gam [(125,K5),(128,Jin)]) [] [] [] [] [] []) 8 127 [(.ag,(.p I I)),(.ag,(.p I I))] [(false,I)] a=@Jam w a:=by kernel_rfl
theorem Jow:Go.Dn.Good PG Jn2:=good (gam [(125,K5),(128,Jin)]) [] [] [] [] [] [] 8 (Jk Jfx (Jk g_cmp_Or Jx)) Kj Kl (Jv (by kernel_rfl)) rfl rfl (Jpn wv)
end Go.Proofs.YtmfagdfkpjgeiaaGreat
namespace Go.Proofs.YtmfagdfkpjgeiaaGreat
open Go Go.Vv Go.Dn
def cmpI (a b:Int):Int:=if a<b then -1 else if a > b then 1 else 0
def orI (a b:Int):Int:=if a≠0 then a else b
theorem Jvb (a:Int):@Jbb wv a=some false:=by
 show some (icm .neq a a)=_
 simp [icm]
theorem Jno {α β:Type} (x:α) (k:α→Option β):Jay (some x) k=k x:=rfl
theorem Jgy (a b:Int):@ji wv (a,b)=some (cmpI a b):=by
 show Jay (@Jbb wv a) (fun v0=>Jay (@Jbb wv b) fun v1=>if v0=true then (if v1=true then some 0 else some (-1)) else if v1=true then some 1 else if icm .lss a b=true then some (-1) else if icm .gtr a b=true then some 1 else some 0)=_
 rw [Jvb,Jvb,Jno,Jno]
 simp only [icm,decide_eq_true_eq,Bool.false_eq_true,if_false,cmpI]
 split
 ·rfl
 ·split<;>rfl
theorem or_ok (a b:Int):@Jf5 wv [a,b]=some (orI a b):=by
 unfold Jf5
 show Jay (Xk (@Jbc wv) (18446744073709551613+1+1+1) ⟨0,⟨[a,b],⟨(2:Int),⟨0,()⟩⟩⟩⟩) _=_
 have e0:@Jbc wv ⟨0,⟨[a,b],⟨(2:Int),⟨0,()⟩⟩⟩⟩=if icm .neq a 0=true then some (.out (.inl ⟨a,()⟩)) else some (.go ⟨0,⟨[a,b],⟨(2:Int),⟨1,()⟩⟩⟩⟩):=rfl
 have e1:@Jbc wv ⟨0,⟨[a,b],⟨(2:Int),⟨1,()⟩⟩⟩⟩=if icm .neq b 0=true then some (.out (.inl ⟨b,()⟩)) else some (.go ⟨0,⟨[a,b],⟨(2:Int),⟨2,()⟩⟩⟩⟩):=rfl
 have e2:@Jbc wv ⟨0,⟨[a,b],⟨(2:Int),⟨2,()⟩⟩⟩⟩=some (.out (.inr ⟨0,()⟩)):=rfl
 by_cases ha:a=0
 ·subst ha
  by_cases hb:b=0
  ·subst hb
   rfl
  ·have hb':icm .neq b 0=true:=by simp [icm,hb]
   rw [if_neg (by simp [icm])] at e0
   rw [if_pos hb'] at e1
   simp only [Xk,e0,e1,orI]
   rfl
 ·have ha':icm .neq a 0=true:=by simp [icm,ha]
  rw [if_pos ha'] at e0
  simp only [Xk,e0,orI,if_pos ha]
  rfl
def cmpC (x y:Int×Int):Int:=orI (cmpI x.2 y.2) (cmpI x.1 y.1)
theorem of1_ok (x y:Int×Int):@Jam wv (x,y)=some (cmpC x y):=by
 show Jay (@ji wv (x.2,y.2)) (fun v0=>Jay (@ji wv (x.1,y.1)) fun v1=>Jay (@Jf5 wv [v0,v1]) fun v2=>some v2)=_
 rw [Jgy,Jgy,Jno,Jno,or_ok]
 rfl
theorem Jka (x y:Int×Int):cmpC x y<0↔x.2<y.2∨(x.2=y.2∧x.1<y.1):=by
 unfold cmpC orI cmpI
 constructor
 ·intro h
  split at h<;>(repeat' split at h)<;>omega
 ·intro h
  split<;>(repeat' split)<;>omega
end Go.Proofs.YtmfagdfkpjgeiaaGreat
