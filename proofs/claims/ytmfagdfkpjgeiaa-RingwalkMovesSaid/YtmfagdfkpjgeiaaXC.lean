/- The typed texts of functions, and that they are right. Conditions: none. -/
import Derived.Test.YtmfagdfkpjgeiaaXB
namespace Go.Proofs.Ytmfagdfkpjgeiaa
open Go Go.Vv Go.Dn Go.Dn.W
set_option linter.unusedVariables false
set_option maxRecDepth 100000
noncomputable def t_additiveref18_fine_L0 [W] (s:(HP (List (Int×Int)) (HP Int Unit))):Option (Nx (HP (List (Int×Int)) (HP Int Unit)) (Unit ⊕ (HP (List (Int×Int)) Unit))) :=
 br (cm .lss s.tl.hd (ln s.hd)) (ge s.hd s.tl.hd fun v0 =>
 br (cm .lss v0.1 (-4096)) (some (.out (.inl ())))
 (ge s.hd s.tl.hd fun v1 =>
 ge s.hd s.tl.hd fun v2 =>
 br (cm .geq v1.1 v2.2) (some (.out (.inl ())))
 (ge s.hd s.tl.hd fun v3 =>
 br (cm .gtr v3.2 4096) (some (.out (.inl ())))
 (br (cm .gtr s.tl.hd 0) (ge s.hd s.tl.hd fun v4 =>
 ge s.hd (ar .sub .i64 s.tl.hd 1) fun v5 =>
 br (cm .leq v4.1 v5.2) (some (.out (.inl ())))
 (some (.go ⟨s.hd,⟨(ar .add .i64 s.tl.hd 1),()⟩⟩)))
 (some (.go ⟨s.hd,⟨(ar .add .i64 s.tl.hd 1),()⟩⟩))))))
 (some (.out (.inr ⟨s.hd,()⟩)))
noncomputable def t_additiveref18_fine [W] (a:(List (Int×Int))):Option Bool :=
 loop t_additiveref18_fine_L0 ⟨a,⟨0,()⟩⟩ fun v6 =>
 match v6 with
 | .inl v7=>(some false)
 | .inr v8=>(some (cm .gtr (ln v8.hd) 0))
noncomputable def c_additiveref18_fine:Ctr:=⟨54,[(.one,(.ls (.p I I)))],[(false,.bool)],@t_additiveref18_fine wv⟩
theorem z7 (w:W) (a):fnD (dW w) (cxO (gam []) [] [] [] [] [] []) 8 54 [(.one,(.ls (.p I I)))] [(false,.bool)] a=@t_additiveref18_fine w a:=by kernel_rfl
theorem z8:Go.Dn.Good PG c_additiveref18_fine:=good (gam []) [] [] [] [] [] [] 8 Jz Kg Ke (Jw (by kernel_rfl)) rfl rfl (z7 wv)
noncomputable def t_additiveref18_Valid_L0 [W] (s:(HP Int (HP (List (Int×(List (Int×Int)))) Unit))):Option (Nx (HP Int (HP (List (Int×(List (Int×Int)))) Unit)) (Unit ⊕ Unit)) :=
 br (cm .lss s.hd (ln s.tl.hd)) (ge s.tl.hd s.hd fun v0 =>
 br (cm .lss v0.1 (-4096)) (some (.out (.inl ())))
 (br (cm .geq v0.1 4096) (some (.out (.inl ())))
 (br (cm .gtr s.hd 0) (ge s.tl.hd (ar .sub .i64 s.hd 1) fun v1 =>
 br (cm .leq v0.1 v1.1) (some (.out (.inl ())))
 (ge s.tl.hd s.hd fun v2 =>
 call c_additiveref18_fine (v2.2:(List (Int×Int))) fun (v3:Bool) =>
 br (nt v3) (some (.out (.inl ())))
 (some (.go ⟨(ar .add .i64 s.hd 1),⟨s.tl.hd,()⟩⟩))))
 (ge s.tl.hd s.hd fun v4 =>
 call c_additiveref18_fine (v4.2:(List (Int×Int))) fun (v5:Bool) =>
 br (nt v5) (some (.out (.inl ())))
 (some (.go ⟨(ar .add .i64 s.hd 1),⟨s.tl.hd,()⟩⟩))))))
 (some (.out (.inr ())))
noncomputable def t_additiveref18_Valid [W] (a:(List (Int×(List (Int×Int))))):Option Bool :=
 loop t_additiveref18_Valid_L0 ⟨0,⟨a,()⟩⟩ fun v6 =>
 match v6 with
 | .inl v7=>(some false)
 | .inr v8=>(some true)
noncomputable def c_additiveref18_Valid:Ctr:=⟨33,[(.ag,(.ls (.p I (.ls (.p I I)))))],[(false,.bool)],@t_additiveref18_Valid wv⟩
theorem jc (w:W) (a):fnD (dW w) (cxO (gam [(54,c_additiveref18_fine)]) [] [] [] [] [] []) 8 33 [(.ag,(.ls (.p I (.ls (.p I I)))))] [(false,.bool)] a=@t_additiveref18_Valid w a:=by kernel_rfl
theorem jv:Go.Dn.Good PG c_additiveref18_Valid:=good (gam [(54,c_additiveref18_fine)]) [] [] [] [] [] [] 8 (Jm z8 Jz) Kg Ke (Jw (by kernel_rfl)) rfl rfl (jc wv)
noncomputable def t_additiveref18_Cells_L2 [W] (s:(HP Int (HP Int (HP Int (HP (List (Int×(List (Int×Int)))) (HP (List (Int×Int)) Unit)))))):Option (Nx (HP Int (HP Int (HP Int (HP (List (Int×(List (Int×Int)))) (HP (List (Int×Int)) Unit))))) (HP Int (HP Int (HP (List (Int×(List (Int×Int)))) (HP (List (Int×Int)) Unit))))) :=
 ge s.tl.tl.tl.hd s.hd fun v4 =>
 ge v4.2 s.tl.hd fun v5 =>
 br (cm .lss s.tl.tl.hd v5.2) (ge s.tl.tl.tl.hd s.hd fun v6 =>
 gd (ft 16 (pl (ln s.tl.tl.tl.tl.hd) 1)) <|
 some (.go ⟨s.hd,⟨s.tl.hd,⟨(ar .add .i64 s.tl.tl.hd 1),⟨s.tl.tl.tl.hd,⟨(ap s.tl.tl.tl.tl.hd ((s.tl.tl.hd,v6.1)::[])),()⟩⟩⟩⟩⟩))
 (some (.out ⟨s.hd,⟨s.tl.hd,⟨s.tl.tl.tl.hd,⟨s.tl.tl.tl.tl.hd,()⟩⟩⟩⟩))
noncomputable def t_additiveref18_Cells_L1 [W] (s:(HP Int (HP Int (HP (List (Int×(List (Int×Int)))) (HP (List (Int×Int)) Unit))))):Option (Nx (HP Int (HP Int (HP (List (Int×(List (Int×Int)))) (HP (List (Int×Int)) Unit)))) (HP Int (HP (List (Int×(List (Int×Int)))) (HP (List (Int×Int)) Unit)))) :=
 ge s.tl.tl.hd s.hd fun v1 =>
 br (cm .lss s.tl.hd (ln v1.2)) (ge s.tl.tl.hd s.hd fun v2 =>
 ge v2.2 s.tl.hd fun v3 =>
 loop t_additiveref18_Cells_L2 ⟨s.hd,⟨s.tl.hd,⟨v3.1,⟨s.tl.tl.hd,⟨s.tl.tl.tl.hd,()⟩⟩⟩⟩⟩ fun v7 =>
 some (.go ⟨v7.hd,⟨(ar .add .i64 v7.tl.hd 1),⟨v7.tl.tl.hd,⟨v7.tl.tl.tl.hd,()⟩⟩⟩⟩))
 (some (.out ⟨s.hd,⟨s.tl.tl.hd,⟨s.tl.tl.tl.hd,()⟩⟩⟩))
noncomputable def t_additiveref18_Cells_L0 [W] (s:(HP Int (HP (List (Int×(List (Int×Int)))) (HP (List (Int×Int)) Unit)))):Option (Nx (HP Int (HP (List (Int×(List (Int×Int)))) (HP (List (Int×Int)) Unit))) (HP (List (Int×Int)) Unit)) :=
 br (cm .lss s.hd (ln s.tl.hd)) (loop t_additiveref18_Cells_L1 ⟨s.hd,⟨0,⟨s.tl.hd,⟨s.tl.tl.hd,()⟩⟩⟩⟩ fun v8 =>
 some (.go ⟨(ar .add .i64 v8.hd 1),⟨v8.tl.hd,⟨v8.tl.tl.hd,()⟩⟩⟩))
 (some (.out ⟨s.tl.tl.hd,()⟩))
noncomputable def t_additiveref18_Cells [W] (a:(List (Int×(List (Int×Int))))):Option (List (Int×Int)) :=
 call c_additiveref18_Valid (a:(List (Int×(List (Int×Int))))) fun (v0:Bool) =>
 br (nt v0) (some [])
 (loop t_additiveref18_Cells_L0 ⟨0,⟨a,⟨[],()⟩⟩⟩ fun v9 =>
 some v9.hd)
noncomputable def c_additiveref18_Cells:Ctr:=⟨56,[(.ag,(.ls (.p I (.ls (.p I I)))))],[(false,(.ls (.p I I)))],@t_additiveref18_Cells wv⟩
noncomputable def t_additiveref18_inside_L0 [W] (s:(HP (List (Int×Int)) (HP Int (HP Int Unit)))):Option (Nx (HP (List (Int×Int)) (HP Int (HP Int Unit))) (Unit ⊕ Unit)) :=
 br (cm .lss s.tl.tl.hd (ln s.hd)) (ge s.hd s.tl.tl.hd fun v0 =>
 br (cm .leq v0.1 s.tl.hd) (ge s.hd s.tl.tl.hd fun v1 =>
 br (cm .lss s.tl.hd v1.2) (some (.out (.inl ())))
 (some (.go ⟨s.hd,⟨s.tl.hd,⟨(ar .add .i64 s.tl.tl.hd 1),()⟩⟩⟩)))
 (some (.go ⟨s.hd,⟨s.tl.hd,⟨(ar .add .i64 s.tl.tl.hd 1),()⟩⟩⟩)))
 (some (.out (.inr ())))
noncomputable def t_additiveref18_inside [W] (a:((List (Int×Int))×Int)):Option Bool :=
 loop t_additiveref18_inside_L0 ⟨a.1,⟨a.2,⟨0,()⟩⟩⟩ fun v2 =>
 match v2 with
 | .inl v3=>(some true)
 | .inr v4=>(some false)
noncomputable def c_additiveref18_inside:Ctr:=⟨76,[(.one,(.ls (.p I I))),(.one,I)],[(false,.bool)],@t_additiveref18_inside wv⟩
noncomputable def t_additiveref18_Row_L0 [W] (s:(HP Int (HP Int (HP (List (Int×(List (Int×Int)))) Unit)))):Option (Nx (HP Int (HP Int (HP (List (Int×(List (Int×Int)))) Unit))) ((HP (List (Int×Int)) Unit) ⊕ Unit)) :=
 br (cm .lss s.tl.hd (ln s.tl.tl.hd)) (ge s.tl.tl.hd s.tl.hd fun v0 =>
 br (cm .eql v0.1 s.hd) (ge s.tl.tl.hd s.tl.hd fun v1 =>
 some (.out (.inl ⟨v1.2,()⟩)))
 (some (.go ⟨s.hd,⟨(ar .add .i64 s.tl.hd 1),⟨s.tl.tl.hd,()⟩⟩⟩)))
 (some (.out (.inr ())))
noncomputable def t_additiveref18_Row [W] (a:((List (Int×(List (Int×Int))))×Int)):Option (List (Int×Int)) :=
 loop t_additiveref18_Row_L0 ⟨a.2,⟨0,⟨a.1,()⟩⟩⟩ fun v2 =>
 match v2 with
 | .inl v3=>(some v3.hd)
 | .inr v4=>(some [])
noncomputable def c_additiveref18_Row:Ctr:=⟨77,[(.ag,(.ls (.p I (.ls (.p I I))))),(.one,I)],[(false,(.ls (.p I I)))],@t_additiveref18_Row wv⟩
noncomputable def t_additiveref18_Contains [W] (a:((List (Int×(List (Int×Int))))×(Int×Int))):Option Bool :=
 call c_additiveref18_Valid (a.1:(List (Int×(List (Int×Int))))) fun (v0:Bool) =>
 br v0 (call c_additiveref18_Row ((a.1,a.2.2):((List (Int×(List (Int×Int))))×Int)) fun (v1:(List (Int×Int))) =>
 call c_additiveref18_inside ((v1,a.2.1):((List (Int×Int))×Int)) fun (v2:Bool) =>
 some v2)
 (some false)
noncomputable def c_additiveref18_Contains:Ctr:=⟨57,[(.ag,(.ls (.p I (.ls (.p I I))))),(.ag,(.p I I))],[(false,.bool)],@t_additiveref18_Contains wv⟩
noncomputable def t_additiveref22_cracks_L0 [W] (s:(HP (List (Int×Int)) (HP Int (HP (List (Int×(List (Int×Int)))) (HP (List ((Int×Int)×(Int×Int))) Unit))))):Option (Nx (HP (List (Int×Int)) (HP Int (HP (List (Int×(List (Int×Int)))) (HP (List ((Int×Int)×(Int×Int))) Unit)))) (HP (List ((Int×Int)×(Int×Int))) Unit)) :=
 br (cm .lss s.tl.hd (ln s.hd)) (ge s.hd s.tl.hd fun v1 =>
 ge s.hd s.tl.hd fun v2 =>
 call c_additiveref18_Contains ((s.tl.tl.hd,(v1.1,(ar .sub .i64 v2.2 1))):((List (Int×(List (Int×Int))))×(Int×Int))) fun (v3:Bool) =>
 br (nt v3) (gd (ft 32 (pl (ln s.tl.tl.tl.hd) 1)) <|
 call c_additiveref18_Contains ((s.tl.tl.hd,((ar .add .i64 v1.1 1),v2.2)):((List (Int×(List (Int×Int))))×(Int×Int))) fun (v4:Bool) =>
 br (nt v4) (gd (ft 32 (pl (ln (ap s.tl.tl.tl.hd (((v1.1,v2.2),((ar .add .i64 v1.1 1),v2.2))::[]))) 1)) <|
 call c_additiveref18_Contains ((s.tl.tl.hd,(v1.1,(ar .add .i64 v2.2 1))):((List (Int×(List (Int×Int))))×(Int×Int))) fun (v5:Bool) =>
 br (nt v5) (gd (ft 32 (pl (ln (ap (ap s.tl.tl.tl.hd (((v1.1,v2.2),((ar .add .i64 v1.1 1),v2.2))::[])) ((((ar .add .i64 v1.1 1),v2.2),((ar .add .i64 v1.1 1),(ar .add .i64 v2.2 1)))::[]))) 1)) <|
 call c_additiveref18_Contains ((s.tl.tl.hd,((ar .sub .i64 v1.1 1),v2.2)):((List (Int×(List (Int×Int))))×(Int×Int))) fun (v6:Bool) =>
 br (nt v6) (gd (ft 32 (pl (ln (ap (ap (ap s.tl.tl.tl.hd (((v1.1,v2.2),((ar .add .i64 v1.1 1),v2.2))::[])) ((((ar .add .i64 v1.1 1),v2.2),((ar .add .i64 v1.1 1),(ar .add .i64 v2.2 1)))::[])) ((((ar .add .i64 v1.1 1),(ar .add .i64 v2.2 1)),(v1.1,(ar .add .i64 v2.2 1)))::[]))) 1)) <|
 some (.go ⟨s.hd,⟨(ar .add .i64 s.tl.hd 1),⟨s.tl.tl.hd,⟨(ap (ap (ap (ap s.tl.tl.tl.hd (((v1.1,v2.2),((ar .add .i64 v1.1 1),v2.2))::[])) ((((ar .add .i64 v1.1 1),v2.2),((ar .add .i64 v1.1 1),(ar .add .i64 v2.2 1)))::[])) ((((ar .add .i64 v1.1 1),(ar .add .i64 v2.2 1)),(v1.1,(ar .add .i64 v2.2 1)))::[])) (((v1.1,(ar .add .i64 v2.2 1)),(v1.1,v2.2))::[])),()⟩⟩⟩⟩))
 (some (.go ⟨s.hd,⟨(ar .add .i64 s.tl.hd 1),⟨s.tl.tl.hd,⟨(ap (ap (ap s.tl.tl.tl.hd (((v1.1,v2.2),((ar .add .i64 v1.1 1),v2.2))::[])) ((((ar .add .i64 v1.1 1),v2.2),((ar .add .i64 v1.1 1),(ar .add .i64 v2.2 1)))::[])) ((((ar .add .i64 v1.1 1),(ar .add .i64 v2.2 1)),(v1.1,(ar .add .i64 v2.2 1)))::[])),()⟩⟩⟩⟩)))
 (call c_additiveref18_Contains ((s.tl.tl.hd,((ar .sub .i64 v1.1 1),v2.2)):((List (Int×(List (Int×Int))))×(Int×Int))) fun (v7:Bool) =>
 br (nt v7) (gd (ft 32 (pl (ln (ap (ap s.tl.tl.tl.hd (((v1.1,v2.2),((ar .add .i64 v1.1 1),v2.2))::[])) ((((ar .add .i64 v1.1 1),v2.2),((ar .add .i64 v1.1 1),(ar .add .i64 v2.2 1)))::[]))) 1)) <|
 some (.go ⟨s.hd,⟨(ar .add .i64 s.tl.hd 1),⟨s.tl.tl.hd,⟨(ap (ap (ap s.tl.tl.tl.hd (((v1.1,v2.2),((ar .add .i64 v1.1 1),v2.2))::[])) ((((ar .add .i64 v1.1 1),v2.2),((ar .add .i64 v1.1 1),(ar .add .i64 v2.2 1)))::[])) (((v1.1,(ar .add .i64 v2.2 1)),(v1.1,v2.2))::[])),()⟩⟩⟩⟩))
 (some (.go ⟨s.hd,⟨(ar .add .i64 s.tl.hd 1),⟨s.tl.tl.hd,⟨(ap (ap s.tl.tl.tl.hd (((v1.1,v2.2),((ar .add .i64 v1.1 1),v2.2))::[])) ((((ar .add .i64 v1.1 1),v2.2),((ar .add .i64 v1.1 1),(ar .add .i64 v2.2 1)))::[])),()⟩⟩⟩⟩))))
 (call c_additiveref18_Contains ((s.tl.tl.hd,(v1.1,(ar .add .i64 v2.2 1))):((List (Int×(List (Int×Int))))×(Int×Int))) fun (v8:Bool) =>
 br (nt v8) (gd (ft 32 (pl (ln (ap s.tl.tl.tl.hd (((v1.1,v2.2),((ar .add .i64 v1.1 1),v2.2))::[]))) 1)) <|
 call c_additiveref18_Contains ((s.tl.tl.hd,((ar .sub .i64 v1.1 1),v2.2)):((List (Int×(List (Int×Int))))×(Int×Int))) fun (v9:Bool) =>
 br (nt v9) (gd (ft 32 (pl (ln (ap (ap s.tl.tl.tl.hd (((v1.1,v2.2),((ar .add .i64 v1.1 1),v2.2))::[])) ((((ar .add .i64 v1.1 1),(ar .add .i64 v2.2 1)),(v1.1,(ar .add .i64 v2.2 1)))::[]))) 1)) <|
 some (.go ⟨s.hd,⟨(ar .add .i64 s.tl.hd 1),⟨s.tl.tl.hd,⟨(ap (ap (ap s.tl.tl.tl.hd (((v1.1,v2.2),((ar .add .i64 v1.1 1),v2.2))::[])) ((((ar .add .i64 v1.1 1),(ar .add .i64 v2.2 1)),(v1.1,(ar .add .i64 v2.2 1)))::[])) (((v1.1,(ar .add .i64 v2.2 1)),(v1.1,v2.2))::[])),()⟩⟩⟩⟩))
 (some (.go ⟨s.hd,⟨(ar .add .i64 s.tl.hd 1),⟨s.tl.tl.hd,⟨(ap (ap s.tl.tl.tl.hd (((v1.1,v2.2),((ar .add .i64 v1.1 1),v2.2))::[])) ((((ar .add .i64 v1.1 1),(ar .add .i64 v2.2 1)),(v1.1,(ar .add .i64 v2.2 1)))::[])),()⟩⟩⟩⟩)))
 (call c_additiveref18_Contains ((s.tl.tl.hd,((ar .sub .i64 v1.1 1),v2.2)):((List (Int×(List (Int×Int))))×(Int×Int))) fun (v10:Bool) =>
 br (nt v10) (gd (ft 32 (pl (ln (ap s.tl.tl.tl.hd (((v1.1,v2.2),((ar .add .i64 v1.1 1),v2.2))::[]))) 1)) <|
 some (.go ⟨s.hd,⟨(ar .add .i64 s.tl.hd 1),⟨s.tl.tl.hd,⟨(ap (ap s.tl.tl.tl.hd (((v1.1,v2.2),((ar .add .i64 v1.1 1),v2.2))::[])) (((v1.1,(ar .add .i64 v2.2 1)),(v1.1,v2.2))::[])),()⟩⟩⟩⟩))
 (some (.go ⟨s.hd,⟨(ar .add .i64 s.tl.hd 1),⟨s.tl.tl.hd,⟨(ap s.tl.tl.tl.hd (((v1.1,v2.2),((ar .add .i64 v1.1 1),v2.2))::[])),()⟩⟩⟩⟩)))))
 (call c_additiveref18_Contains ((s.tl.tl.hd,((ar .add .i64 v1.1 1),v2.2)):((List (Int×(List (Int×Int))))×(Int×Int))) fun (v11:Bool) =>
 br (nt v11) (gd (ft 32 (pl (ln s.tl.tl.tl.hd) 1)) <|
 call c_additiveref18_Contains ((s.tl.tl.hd,(v1.1,(ar .add .i64 v2.2 1))):((List (Int×(List (Int×Int))))×(Int×Int))) fun (v12:Bool) =>
 br (nt v12) (gd (ft 32 (pl (ln (ap s.tl.tl.tl.hd ((((ar .add .i64 v1.1 1),v2.2),((ar .add .i64 v1.1 1),(ar .add .i64 v2.2 1)))::[]))) 1)) <|
 call c_additiveref18_Contains ((s.tl.tl.hd,((ar .sub .i64 v1.1 1),v2.2)):((List (Int×(List (Int×Int))))×(Int×Int))) fun (v13:Bool) =>
 br (nt v13) (gd (ft 32 (pl (ln (ap (ap s.tl.tl.tl.hd ((((ar .add .i64 v1.1 1),v2.2),((ar .add .i64 v1.1 1),(ar .add .i64 v2.2 1)))::[])) ((((ar .add .i64 v1.1 1),(ar .add .i64 v2.2 1)),(v1.1,(ar .add .i64 v2.2 1)))::[]))) 1)) <|
 some (.go ⟨s.hd,⟨(ar .add .i64 s.tl.hd 1),⟨s.tl.tl.hd,⟨(ap (ap (ap s.tl.tl.tl.hd ((((ar .add .i64 v1.1 1),v2.2),((ar .add .i64 v1.1 1),(ar .add .i64 v2.2 1)))::[])) ((((ar .add .i64 v1.1 1),(ar .add .i64 v2.2 1)),(v1.1,(ar .add .i64 v2.2 1)))::[])) (((v1.1,(ar .add .i64 v2.2 1)),(v1.1,v2.2))::[])),()⟩⟩⟩⟩))
 (some (.go ⟨s.hd,⟨(ar .add .i64 s.tl.hd 1),⟨s.tl.tl.hd,⟨(ap (ap s.tl.tl.tl.hd ((((ar .add .i64 v1.1 1),v2.2),((ar .add .i64 v1.1 1),(ar .add .i64 v2.2 1)))::[])) ((((ar .add .i64 v1.1 1),(ar .add .i64 v2.2 1)),(v1.1,(ar .add .i64 v2.2 1)))::[])),()⟩⟩⟩⟩)))
 (call c_additiveref18_Contains ((s.tl.tl.hd,((ar .sub .i64 v1.1 1),v2.2)):((List (Int×(List (Int×Int))))×(Int×Int))) fun (v14:Bool) =>
 br (nt v14) (gd (ft 32 (pl (ln (ap s.tl.tl.tl.hd ((((ar .add .i64 v1.1 1),v2.2),((ar .add .i64 v1.1 1),(ar .add .i64 v2.2 1)))::[]))) 1)) <|
 some (.go ⟨s.hd,⟨(ar .add .i64 s.tl.hd 1),⟨s.tl.tl.hd,⟨(ap (ap s.tl.tl.tl.hd ((((ar .add .i64 v1.1 1),v2.2),((ar .add .i64 v1.1 1),(ar .add .i64 v2.2 1)))::[])) (((v1.1,(ar .add .i64 v2.2 1)),(v1.1,v2.2))::[])),()⟩⟩⟩⟩))
 (some (.go ⟨s.hd,⟨(ar .add .i64 s.tl.hd 1),⟨s.tl.tl.hd,⟨(ap s.tl.tl.tl.hd ((((ar .add .i64 v1.1 1),v2.2),((ar .add .i64 v1.1 1),(ar .add .i64 v2.2 1)))::[])),()⟩⟩⟩⟩))))
 (call c_additiveref18_Contains ((s.tl.tl.hd,(v1.1,(ar .add .i64 v2.2 1))):((List (Int×(List (Int×Int))))×(Int×Int))) fun (v15:Bool) =>
 br (nt v15) (gd (ft 32 (pl (ln s.tl.tl.tl.hd) 1)) <|
 call c_additiveref18_Contains ((s.tl.tl.hd,((ar .sub .i64 v1.1 1),v2.2)):((List (Int×(List (Int×Int))))×(Int×Int))) fun (v16:Bool) =>
 br (nt v16) (gd (ft 32 (pl (ln (ap s.tl.tl.tl.hd ((((ar .add .i64 v1.1 1),(ar .add .i64 v2.2 1)),(v1.1,(ar .add .i64 v2.2 1)))::[]))) 1)) <|
 some (.go ⟨s.hd,⟨(ar .add .i64 s.tl.hd 1),⟨s.tl.tl.hd,⟨(ap (ap s.tl.tl.tl.hd ((((ar .add .i64 v1.1 1),(ar .add .i64 v2.2 1)),(v1.1,(ar .add .i64 v2.2 1)))::[])) (((v1.1,(ar .add .i64 v2.2 1)),(v1.1,v2.2))::[])),()⟩⟩⟩⟩))
 (some (.go ⟨s.hd,⟨(ar .add .i64 s.tl.hd 1),⟨s.tl.tl.hd,⟨(ap s.tl.tl.tl.hd ((((ar .add .i64 v1.1 1),(ar .add .i64 v2.2 1)),(v1.1,(ar .add .i64 v2.2 1)))::[])),()⟩⟩⟩⟩)))
 (call c_additiveref18_Contains ((s.tl.tl.hd,((ar .sub .i64 v1.1 1),v2.2)):((List (Int×(List (Int×Int))))×(Int×Int))) fun (v17:Bool) =>
 br (nt v17) (gd (ft 32 (pl (ln s.tl.tl.tl.hd) 1)) <|
 some (.go ⟨s.hd,⟨(ar .add .i64 s.tl.hd 1),⟨s.tl.tl.hd,⟨(ap s.tl.tl.tl.hd (((v1.1,(ar .add .i64 v2.2 1)),(v1.1,v2.2))::[])),()⟩⟩⟩⟩))
 (some (.go ⟨s.hd,⟨(ar .add .i64 s.tl.hd 1),⟨s.tl.tl.hd,⟨s.tl.tl.tl.hd,()⟩⟩⟩⟩))))))
 (some (.out ⟨s.tl.tl.tl.hd,()⟩))
noncomputable def t_additiveref22_cracks [W] (a:(List (Int×(List (Int×Int))))):Option (List ((Int×Int)×(Int×Int))) :=
 call c_additiveref18_Cells (a:(List (Int×(List (Int×Int))))) fun (v0:(List (Int×Int))) =>
 loop t_additiveref22_cracks_L0 ⟨v0,⟨0,⟨a,⟨[],()⟩⟩⟩⟩ fun v18 =>
 some v18.hd
noncomputable def c_additiveref22_cracks:Ctr:=⟨37,[(.ag,(.ls (.p I (.ls (.p I I)))))],[(false,(.ls (.p (.p I I) (.p I I))))],@t_additiveref22_cracks wv⟩
noncomputable def t_additiveref22_left [W] (a:(((Int×Int)×(Int×Int))×((Int×Int)×(Int×Int)))):Option Bool :=
 some (cm .gtr (ar .sub .i64 (ar .mul .i64 (ar .sub .i64 a.1.2.1 a.1.1.1) (ar .sub .i64 a.2.2.2 a.2.1.2)) (ar .mul .i64 (ar .sub .i64 a.1.2.2 a.1.1.2) (ar .sub .i64 a.2.2.1 a.2.1.1))) 0)
noncomputable def c_additiveref22_left:Ctr:=⟨58,[(.ag,(.p (.p I I) (.p I I))),(.ag,(.p (.p I I) (.p I I)))],[(false,.bool)],@t_additiveref22_left wv⟩
noncomputable def t_additiveref22_after_L0 [W] (s:(HP (List ((Int×Int)×(Int×Int))) (HP Int (HP Int (HP Int Unit))))):Option (Nx (HP (List ((Int×Int)×(Int×Int))) (HP Int (HP Int (HP Int Unit)))) (HP Int Unit)) :=
 br (cm .lss s.tl.tl.tl.hd (ln s.hd)) (ge s.hd s.tl.tl.tl.hd fun v0 =>
 ge s.hd s.tl.hd fun v1 =>
 br (an (cm .eql v0.1.1 v1.2.1) (cm .eql v0.1.2 v1.2.2)) (br (cm .lss s.tl.tl.hd 0) (some (.go ⟨s.hd,⟨s.tl.hd,⟨s.tl.tl.tl.hd,⟨(ar .add .i64 s.tl.tl.tl.hd 1),()⟩⟩⟩⟩))
 (ge s.hd s.tl.hd fun v2 =>
 ge s.hd s.tl.tl.tl.hd fun v3 =>
 call c_additiveref22_left ((((v2.1.1,v2.1.2),(v2.2.1,v2.2.2)),((v3.1.1,v3.1.2),(v3.2.1,v3.2.2))):(((Int×Int)×(Int×Int))×((Int×Int)×(Int×Int)))) fun (v4:Bool) =>
 br v4 (some (.go ⟨s.hd,⟨s.tl.hd,⟨s.tl.tl.tl.hd,⟨(ar .add .i64 s.tl.tl.tl.hd 1),()⟩⟩⟩⟩))
 (some (.go ⟨s.hd,⟨s.tl.hd,⟨s.tl.tl.hd,⟨(ar .add .i64 s.tl.tl.tl.hd 1),()⟩⟩⟩⟩))))
 (some (.go ⟨s.hd,⟨s.tl.hd,⟨s.tl.tl.hd,⟨(ar .add .i64 s.tl.tl.tl.hd 1),()⟩⟩⟩⟩)))
 (some (.out ⟨s.tl.tl.hd,()⟩))
noncomputable def t_additiveref22_after [W] (a:((List ((Int×Int)×(Int×Int)))×Int)):Option Int :=
 loop t_additiveref22_after_L0 ⟨a.1,⟨a.2,⟨(-1),⟨0,()⟩⟩⟩⟩ fun v5 =>
 some v5.hd
noncomputable def c_additiveref22_after:Ctr:=⟨38,[(.one,(.ls (.p (.p I I) (.p I I)))),(.one,I)],[(false,I)],@t_additiveref22_after wv⟩
noncomputable def t_additiveref22_lower [W] (a:((Int×Int)×(Int×Int))):Option Bool :=
 br (cm .neq a.1.2 a.2.2) (some (cm .lss a.1.2 a.2.2))
 (some (cm .lss a.1.1 a.2.1))
noncomputable def c_additiveref22_lower:Ctr:=⟨59,[(.ag,(.p I I)),(.ag,(.p I I))],[(false,.bool)],@t_additiveref22_lower wv⟩
noncomputable def t_additiveref22_insert_L0 [W] (s:(HP (List (List (Int×Int))) (HP Int (HP (List (Int×Int)) Unit)))):Option (Nx (HP (List (List (Int×Int))) (HP Int (HP (List (Int×Int)) Unit))) (HP (List (List (Int×Int))) (HP Int (HP (List (Int×Int)) Unit)))) :=
 br (cm .lss s.tl.hd (ln s.hd)) (ge s.hd s.tl.hd fun v0 =>
 ge v0 0 fun v1 =>
 ge s.tl.tl.hd 0 fun v2 =>
 call c_additiveref22_lower (((v1.1,v1.2),(v2.1,v2.2)):((Int×Int)×(Int×Int))) fun (v3:Bool) =>
 br v3 (some (.go ⟨s.hd,⟨(ar .add .i64 s.tl.hd 1),⟨s.tl.tl.hd,()⟩⟩⟩))
 (some (.out ⟨s.hd,⟨s.tl.hd,⟨s.tl.tl.hd,()⟩⟩⟩)))
 (some (.out ⟨s.hd,⟨s.tl.hd,⟨s.tl.tl.hd,()⟩⟩⟩))
noncomputable def t_additiveref22_insert [W] (a:((List (List (Int×Int)))×(List (Int×Int)))):Option (List (List (Int×Int))) :=
 loop t_additiveref22_insert_L0 ⟨a.1,⟨0,⟨a.2,()⟩⟩⟩ fun v4 =>
 gd (le 0 v4.tl.hd) <|
 gd (le v4.tl.hd (ln v4.hd)) <|
 gd (ft 24 (pl 0 (ln (ct v4.hd 0 v4.tl.hd)))) <|
 gd (ft 24 (pl (ln (ct v4.hd 0 v4.tl.hd)) 1)) <|
 gd (le 0 v4.tl.hd) <|
 gd (le v4.tl.hd (ln v4.hd)) <|
 gd (ft 24 (pl (ln (ap (ct v4.hd 0 v4.tl.hd) (v4.tl.tl.hd::[]))) (ln (ct v4.hd v4.tl.hd (mi (ln v4.hd) v4.tl.hd))))) <|
 some (ap (ap (ct v4.hd 0 v4.tl.hd) (v4.tl.tl.hd::[])) (ct v4.hd v4.tl.hd (mi (ln v4.hd) v4.tl.hd)))
noncomputable def c_additiveref22_insert:Ctr:=⟨39,[(.one,(.ls (.ls (.p I I)))),(.ag,(.ls (.p I I)))],[(false,(.ls (.ls (.p I I))))],@t_additiveref22_insert wv⟩
noncomputable def t_additiveref22_polygon_L0 [W] (s:(HP (List ((Int×Int)×(Int×Int))) (HP Int (HP Int (HP (List (Int×Int)) Unit))))):Option (Nx (HP (List ((Int×Int)×(Int×Int))) (HP Int (HP Int (HP (List (Int×Int)) Unit)))) (HP (List (Int×Int)) Unit)) :=
 br (cm .lss s.tl.tl.hd s.tl.hd) (gd (cm .neq s.tl.hd 0) <|
 ge s.hd (ar .rem .i64 (ar .sub .i64 (ar .add .i64 s.tl.tl.hd s.tl.hd) 1) s.tl.hd) fun v0 =>
 ge s.hd s.tl.tl.hd fun v1 =>
 ge s.hd s.tl.tl.hd fun v2 =>
 br (cm .neq (ar .sub .i64 v0.2.1 v0.1.1) (ar .sub .i64 v1.2.1 v2.1.1)) (ge s.hd s.tl.tl.hd fun v3 =>
 gd (ft 16 (pl (ln s.tl.tl.tl.hd) 1)) <|
 some (.go ⟨s.hd,⟨s.tl.hd,⟨(ar .add .i64 s.tl.tl.hd 1),⟨(ap s.tl.tl.tl.hd ((v3.1.1,v3.1.2)::[])),()⟩⟩⟩⟩))
 (ge s.hd s.tl.tl.hd fun v4 =>
 ge s.hd s.tl.tl.hd fun v5 =>
 br (cm .neq (ar .sub .i64 v0.2.2 v0.1.2) (ar .sub .i64 v4.2.2 v5.1.2)) (ge s.hd s.tl.tl.hd fun v6 =>
 gd (ft 16 (pl (ln s.tl.tl.tl.hd) 1)) <|
 some (.go ⟨s.hd,⟨s.tl.hd,⟨(ar .add .i64 s.tl.tl.hd 1),⟨(ap s.tl.tl.tl.hd ((v6.1.1,v6.1.2)::[])),()⟩⟩⟩⟩))
 (some (.go ⟨s.hd,⟨s.tl.hd,⟨(ar .add .i64 s.tl.tl.hd 1),⟨s.tl.tl.tl.hd,()⟩⟩⟩⟩))))
 (some (.out ⟨s.tl.tl.tl.hd,()⟩))
noncomputable def t_additiveref22_polygon_L1 [W] (s:(HP Int (HP Int (HP (List (Int×Int)) Unit)))):Option (Nx (HP Int (HP Int (HP (List (Int×Int)) Unit))) (HP Int (HP (List (Int×Int)) Unit))) :=
 br (cm .lss s.tl.hd (ln s.tl.tl.hd)) (gd (ib s.tl.hd (ln s.tl.tl.hd)) <|
 ge s.tl.tl.hd s.tl.hd fun v8 =>
 gd (ib s.hd (ln s.tl.tl.hd)) <|
 ge s.tl.tl.hd s.hd fun v9 =>
 call c_additiveref22_lower (((v8.1,v8.2),(v9.1,v9.2)):((Int×Int)×(Int×Int))) fun (v10:Bool) =>
 br v10 (some (.go ⟨s.tl.hd,⟨(ar .add .i64 s.tl.hd 1),⟨s.tl.tl.hd,()⟩⟩⟩))
 (some (.go ⟨s.hd,⟨(ar .add .i64 s.tl.hd 1),⟨s.tl.tl.hd,()⟩⟩⟩)))
 (some (.out ⟨s.hd,⟨s.tl.tl.hd,()⟩⟩))
noncomputable def t_additiveref22_polygon [W] (a:(List ((Int×Int)×(Int×Int)))):Option (List (Int×Int)) :=
 loop t_additiveref22_polygon_L0 ⟨a,⟨(ln a),⟨0,⟨[],()⟩⟩⟩⟩ fun v7 =>
 loop t_additiveref22_polygon_L1 ⟨0,⟨0,⟨v7.hd,()⟩⟩⟩ fun v11 =>
 gd (le 0 v11.hd) <|
 gd (le v11.hd (ln v11.tl.hd)) <|
 gd (le 0 v11.hd) <|
 gd (le 0 (mi (ln v11.tl.hd) v11.hd)) <|
 gd (le (pl v11.hd (mi (ln v11.tl.hd) v11.hd)) (ln v11.tl.hd)) <|
 gd (ft 16 (pl 0 (ln (ct v11.tl.hd v11.hd (mi (ln v11.tl.hd) v11.hd))))) <|
 gd (le 0 v11.hd) <|
 gd (le v11.hd (ln v11.tl.hd)) <|
 gd (le 0 0) <|
 gd (le 0 v11.hd) <|
 gd (le (pl 0 v11.hd) (ln v11.tl.hd)) <|
 gd (ft 16 (pl (ln (ct v11.tl.hd v11.hd (mi (ln v11.tl.hd) v11.hd))) (ln (ct v11.tl.hd 0 v11.hd)))) <|
 some (ap (ct v11.tl.hd v11.hd (mi (ln v11.tl.hd) v11.hd)) (ct v11.tl.hd 0 v11.hd))
noncomputable def c_additiveref22_polygon:Ctr:=⟨40,[(.one,(.ls (.p (.p I I) (.p I I))))],[(true,(.ls (.p I I)))],@t_additiveref22_polygon wv⟩
noncomputable def t_additiveref22_Trace_L1 [W] (s:(HP (List ((Int×Int)×(Int×Int))) (HP (List (List (Int×Int))) (HP Int (HP Int (HP (List Bool) (HP (List ((Int×Int)×(Int×Int))) Unit))))))):Option (Nx (HP (List ((Int×Int)×(Int×Int))) (HP (List (List (Int×Int))) (HP Int (HP Int (HP (List Bool) (HP (List ((Int×Int)×(Int×Int))) Unit)))))) (HP (List ((Int×Int)×(Int×Int))) (HP (List (List (Int×Int))) (HP Int (HP (List Bool) (HP (List ((Int×Int)×(Int×Int))) Unit)))))) :=
 gd (ib s.tl.tl.tl.hd (ln s.tl.tl.tl.tl.hd)) <|
 ge s.tl.tl.tl.tl.hd s.tl.tl.tl.hd fun v2 =>
 br (nt v2) (gd (ib s.tl.tl.tl.hd (ln s.tl.tl.tl.tl.hd)) <|
 ge s.tl.tl.tl.tl.hd s.tl.tl.tl.hd fun v3 =>
 ge s.hd s.tl.tl.tl.hd fun v4 =>
 gd (ft 32 (pl (ln s.tl.tl.tl.tl.tl.hd) 1)) <|
 call c_additiveref22_after ((s.hd,s.tl.tl.tl.hd):((List ((Int×Int)×(Int×Int)))×Int)) fun (v5:Int) =>
 some (.go ⟨s.hd,⟨s.tl.hd,⟨s.tl.tl.hd,⟨v5,⟨(st s.tl.tl.tl.tl.hd s.tl.tl.tl.hd true),⟨(ap s.tl.tl.tl.tl.tl.hd (((v4.1.1,v4.1.2),(v4.2.1,v4.2.2))::[])),()⟩⟩⟩⟩⟩⟩))
 (some (.out ⟨s.hd,⟨s.tl.hd,⟨s.tl.tl.hd,⟨s.tl.tl.tl.tl.hd,⟨s.tl.tl.tl.tl.tl.hd,()⟩⟩⟩⟩⟩))
noncomputable def t_additiveref22_Trace_L0 [W] (s:(HP (List ((Int×Int)×(Int×Int))) (HP (List (List (Int×Int))) (HP Int (HP (List Bool) Unit))))):Option (Nx (HP (List ((Int×Int)×(Int×Int))) (HP (List (List (Int×Int))) (HP Int (HP (List Bool) Unit)))) (HP (List (List (Int×Int))) Unit)) :=
 br (cm .lss s.tl.tl.hd (ln s.hd)) (loop t_additiveref22_Trace_L1 ⟨s.hd,⟨s.tl.hd,⟨s.tl.tl.hd,⟨s.tl.tl.hd,⟨s.tl.tl.tl.hd,⟨[],()⟩⟩⟩⟩⟩⟩ fun v6 =>
 br (cm .gtr (ln v6.tl.tl.tl.tl.hd) 0) (call c_additiveref22_polygon (v6.tl.tl.tl.tl.hd:(List ((Int×Int)×(Int×Int)))) fun (v7:(List (Int×Int))) =>
 call c_additiveref22_insert ((v6.tl.hd,v7):((List (List (Int×Int)))×(List (Int×Int)))) fun (v8:(List (List (Int×Int)))) =>
 some (.go ⟨v6.hd,⟨v8,⟨(ar .add .i64 v6.tl.tl.hd 1),⟨v6.tl.tl.tl.hd,()⟩⟩⟩⟩))
 (some (.go ⟨v6.hd,⟨v6.tl.hd,⟨(ar .add .i64 v6.tl.tl.hd 1),⟨v6.tl.tl.tl.hd,()⟩⟩⟩⟩)))
 (some (.out ⟨s.tl.hd,()⟩))
noncomputable def t_additiveref22_Trace [W] (a:(List (Int×(List (Int×Int))))):Option (List (List (Int×Int))) :=
 call c_additiveref18_Valid (a:(List (Int×(List (Int×Int))))) fun (v0:Bool) =>
 br (nt v0) (some [])
 (call c_additiveref22_cracks (a:(List (Int×(List (Int×Int))))) fun (v1:(List ((Int×Int)×(Int×Int)))) =>
 gd (le 0 (ln v1)) <|
 gd (ft 1 (ln v1)) <|
 loop t_additiveref22_Trace_L0 ⟨v1,⟨[],⟨0,⟨(rp false (ln v1)),()⟩⟩⟩⟩ fun v9 =>
 some v9.hd)
noncomputable def c_additiveref22_Trace:Ctr:=⟨19,[(.ag,(.ls (.p I (.ls (.p I I)))))],[(false,(.ls (.ls (.p I I))))],@t_additiveref22_Trace wv⟩
noncomputable def t_additiveref24_once_L0 [W] (s:(HP (List (Int×Int)) (HP Int (HP (List (Int×Int)) Unit)))):Option (Nx (HP (List (Int×Int)) (HP Int (HP (List (Int×Int)) Unit))) (HP (List (Int×Int)) Unit)) :=
 br (cm .lss s.tl.hd (ln s.hd)) (br (cm .eql (ln s.tl.tl.hd) 0) (ge s.hd s.tl.hd fun v0 =>
 gd (ft 16 (pl (ln s.tl.tl.hd) 1)) <|
 some (.go ⟨s.hd,⟨(ar .add .i64 s.tl.hd 1),⟨(ap s.tl.tl.hd ((v0.1,v0.2)::[])),()⟩⟩⟩))
 (gd (ib (ar .sub .i64 (ln s.tl.tl.hd) 1) (ln s.tl.tl.hd)) <|
 ge s.tl.tl.hd (ar .sub .i64 (ln s.tl.tl.hd) 1) fun v1 =>
 ge s.hd s.tl.hd fun v2 =>
 br (nt (an (cm .eql v1.1 v2.1) (cm .eql v1.2 v2.2))) (ge s.hd s.tl.hd fun v3 =>
 gd (ft 16 (pl (ln s.tl.tl.hd) 1)) <|
 some (.go ⟨s.hd,⟨(ar .add .i64 s.tl.hd 1),⟨(ap s.tl.tl.hd ((v3.1,v3.2)::[])),()⟩⟩⟩))
 (some (.go ⟨s.hd,⟨(ar .add .i64 s.tl.hd 1),⟨s.tl.tl.hd,()⟩⟩⟩))))
 (some (.out ⟨s.tl.tl.hd,()⟩))
noncomputable def t_additiveref24_once [W] (a:(List (Int×Int))):Option (List (Int×Int)) :=
 loop t_additiveref24_once_L0 ⟨a,⟨0,⟨[],()⟩⟩⟩ fun v4 =>
 br (cm .gtr (ln v4.hd) 1) (gd (ib 0 (ln v4.hd)) <|
 ge v4.hd 0 fun v5 =>
 gd (ib (ar .sub .i64 (ln v4.hd) 1) (ln v4.hd)) <|
 ge v4.hd (ar .sub .i64 (ln v4.hd) 1) fun v6 =>
 br (an (cm .eql v5.1 v6.1) (cm .eql v5.2 v6.2)) (gd (le 0 (ar .sub .i64 (ln v4.hd) 1)) <|
 gd (le (ar .sub .i64 (ln v4.hd) 1) (ln v4.hd)) <|
 gd (le 0 0) <|
 gd (le 0 (ar .sub .i64 (ln v4.hd) 1)) <|
 gd (le (pl 0 (ar .sub .i64 (ln v4.hd) 1)) (ln v4.hd)) <|
 some (ct v4.hd 0 (ar .sub .i64 (ln v4.hd) 1)))
 (some v4.hd))
 (some v4.hd)
noncomputable def c_additiveref24_once:Ctr:=⟨20,[(.one,(.ls (.p I I)))],[(false,(.ls (.p I I)))],@t_additiveref24_once wv⟩
noncomputable def t_additiveref24_way [W] (a:((Int×Int)×(Int×Int))):Option (Int×Int) :=
 br (cm .gtr a.2.1 a.1.1) (some (1,0))
 (br (cm .lss a.2.1 a.1.1) (some ((-1),0))
 (br (cm .gtr a.2.2 a.1.2) (some (0,1))
 (some (0,(-1)))))
noncomputable def c_additiveref24_way:Ctr:=⟨41,[(.ag,(.p I I)),(.ag,(.p I I))],[(true,(.p I I))],@t_additiveref24_way wv⟩
noncomputable def t_additiveref24_left [W] (a:((Int×Int)×(Int×Int))):Option (Int×Int) :=
 br (cm .gtr a.2.1 0) (some (a.1.1,a.1.2))
 (br (cm .gtr a.2.2 0) (some ((ar .sub .i64 a.1.1 1),a.1.2))
 (br (cm .lss a.2.1 0) (some ((ar .sub .i64 a.1.1 1),(ar .sub .i64 a.1.2 1)))
 (some (a.1.1,(ar .sub .i64 a.1.2 1)))))
noncomputable def c_additiveref24_left:Ctr:=⟨42,[(.ag,(.p I I)),(.ag,(.p I I))],[(true,(.p I I))],@t_additiveref24_left wv⟩
noncomputable def t_additiveref24_loop_L1 [W] (s:(HP (List (Int×Int)) (HP Int (HP (List (Int×Int)) (HP Int (HP Int (HP Int (HP Int (HP Int (HP Int (HP Int (HP Int (HP Int (HP Int Unit)))))))))))))):Option (Nx (HP (List (Int×Int)) (HP Int (HP (List (Int×Int)) (HP Int (HP Int (HP Int (HP Int (HP Int (HP Int (HP Int (HP Int (HP Int (HP Int Unit))))))))))))) (HP (List (Int×Int)) (HP Int (HP (List (Int×Int)) (HP Int (HP Int (HP Int (HP Int (HP Int (HP Int Unit)))))))))) :=
 br (nt (an (cm .eql s.tl.tl.tl.hd s.tl.tl.tl.tl.tl.hd) (cm .eql s.tl.tl.tl.tl.hd s.tl.tl.tl.tl.tl.tl.hd))) (call c_additiveref24_left (((s.tl.tl.tl.hd,s.tl.tl.tl.tl.hd),(s.tl.tl.tl.tl.tl.tl.tl.hd,s.tl.tl.tl.tl.tl.tl.tl.tl.hd)):((Int×Int)×(Int×Int))) fun (v5:(Int×Int)) =>
 gd (ft 16 (pl (ln s.tl.tl.hd) 1)) <|
 some (.go ⟨s.hd,⟨s.tl.hd,⟨(ap s.tl.tl.hd ((v5.1,v5.2)::[])),⟨(ar .add .i64 s.tl.tl.tl.hd s.tl.tl.tl.tl.tl.tl.tl.hd),⟨(ar .add .i64 s.tl.tl.tl.tl.hd s.tl.tl.tl.tl.tl.tl.tl.tl.hd),⟨s.tl.tl.tl.tl.tl.hd,⟨s.tl.tl.tl.tl.tl.tl.hd,⟨s.tl.tl.tl.tl.tl.tl.tl.hd,⟨s.tl.tl.tl.tl.tl.tl.tl.tl.hd,⟨s.tl.tl.tl.tl.tl.tl.tl.tl.tl.hd,⟨s.tl.tl.tl.tl.tl.tl.tl.tl.tl.tl.hd,⟨v5.1,⟨v5.2,()⟩⟩⟩⟩⟩⟩⟩⟩⟩⟩⟩⟩⟩))
 (some (.out ⟨s.hd,⟨s.tl.hd,⟨s.tl.tl.hd,⟨s.tl.tl.tl.tl.tl.tl.tl.hd,⟨s.tl.tl.tl.tl.tl.tl.tl.tl.hd,⟨s.tl.tl.tl.tl.tl.tl.tl.tl.tl.hd,⟨s.tl.tl.tl.tl.tl.tl.tl.tl.tl.tl.hd,⟨s.tl.tl.tl.tl.tl.tl.tl.tl.tl.tl.tl.hd,⟨s.tl.tl.tl.tl.tl.tl.tl.tl.tl.tl.tl.tl.hd,()⟩⟩⟩⟩⟩⟩⟩⟩⟩))
noncomputable def t_additiveref24_loop_L0 [W] (s:(HP (List (Int×Int)) (HP Int (HP (List (Int×Int)) Unit)))):Option (Nx (HP (List (Int×Int)) (HP Int (HP (List (Int×Int)) Unit))) (HP (List (Int×Int)) Unit)) :=
 br (cm .lss s.tl.hd (ln s.hd)) (ge s.hd s.tl.hd fun v0 =>
 gd (cm .neq (ln s.hd) 0) <|
 ge s.hd (ar .rem .i64 (ar .add .i64 s.tl.hd 1) (ln s.hd)) fun v1 =>
 gd (cm .neq (ln s.hd) 0) <|
 ge s.hd (ar .rem .i64 (ar .add .i64 s.tl.hd 2) (ln s.hd)) fun v2 =>
 call c_additiveref24_way (((v0.1,v0.2),(v1.1,v1.2)):((Int×Int)×(Int×Int))) fun (v3:(Int×Int)) =>
 call c_additiveref24_way (((v1.1,v1.2),(v2.1,v2.2)):((Int×Int)×(Int×Int))) fun (v4:(Int×Int)) =>
 loop t_additiveref24_loop_L1 ⟨s.hd,⟨s.tl.hd,⟨s.tl.tl.hd,⟨v0.1,⟨v0.2,⟨v1.1,⟨v1.2,⟨v3.1,⟨v3.2,⟨v4.1,⟨v4.2,⟨0,⟨0,()⟩⟩⟩⟩⟩⟩⟩⟩⟩⟩⟩⟩⟩ fun v6 =>
 br (cm .lss (ar .sub .i64 (ar .mul .i64 v6.tl.tl.tl.hd v6.tl.tl.tl.tl.tl.tl.hd) (ar .mul .i64 v6.tl.tl.tl.tl.hd v6.tl.tl.tl.tl.tl.hd)) 0) (gd (ft 16 (pl (ln v6.tl.tl.hd) 1)) <|
 some (.go ⟨v6.hd,⟨(ar .add .i64 v6.tl.hd 1),⟨(ap v6.tl.tl.hd (((ar .add .i64 v6.tl.tl.tl.tl.tl.tl.tl.hd v6.tl.tl.tl.hd),(ar .add .i64 v6.tl.tl.tl.tl.tl.tl.tl.tl.hd v6.tl.tl.tl.tl.hd))::[])),()⟩⟩⟩))
 (some (.go ⟨v6.hd,⟨(ar .add .i64 v6.tl.hd 1),⟨v6.tl.tl.hd,()⟩⟩⟩)))
 (some (.out ⟨s.tl.tl.hd,()⟩))
noncomputable def t_additiveref24_loop [W] (a:(List (Int×Int))):Option (List (Int×Int)) :=
 loop t_additiveref24_loop_L0 ⟨a,⟨0,⟨[],()⟩⟩⟩ fun v7 =>
 some v7.hd
noncomputable def c_additiveref24_loop:Ctr:=⟨21,[(.one,(.ls (.p I I)))],[(false,(.ls (.p I I)))],@t_additiveref24_loop wv⟩
noncomputable def t_additiveref24_Walk_L0 [W] (s:(HP (List (List (Int×Int))) (HP Int (HP (List (Int×(Bool×(List (Int×Int))))) Unit)))):Option (Nx (HP (List (List (Int×Int))) (HP Int (HP (List (Int×(Bool×(List (Int×Int))))) Unit))) (HP (List (Int×(Bool×(List (Int×Int))))) Unit)) :=
 br (cm .lss s.tl.hd (ln s.hd)) (ge s.hd s.tl.hd fun v1 =>
 call c_additiveref24_loop (v1:(List (Int×Int))) fun (v2:(List (Int×Int))) =>
 call c_additiveref24_once (v2:(List (Int×Int))) fun (v3:(List (Int×Int))) =>
 br (cm .leq (ln v3) 65536) (gd (ft 40 (pl (ln s.tl.tl.hd) 1)) <|
 some (.go ⟨s.hd,⟨(ar .add .i64 s.tl.hd 1),⟨(ap s.tl.tl.hd ((1,(true,v3))::[])),()⟩⟩⟩))
 (some (.go ⟨s.hd,⟨(ar .add .i64 s.tl.hd 1),⟨s.tl.tl.hd,()⟩⟩⟩)))
 (some (.out ⟨s.tl.tl.hd,()⟩))
noncomputable def t_additiveref24_Walk [W] (a:(List (Int×(List (Int×Int))))):Option (List (Int×(Bool×(List (Int×Int))))) :=
 call c_additiveref22_Trace (a:(List (Int×(List (Int×Int))))) fun (v0:(List (List (Int×Int)))) =>
 loop t_additiveref24_Walk_L0 ⟨v0,⟨0,⟨[],()⟩⟩⟩ fun v4 =>
 some v4.hd
noncomputable def c_additiveref24_Walk:Ctr:=⟨11,[(.ag,(.ls (.p I (.ls (.p I I)))))],[(false,(.ls (.p I (.p .bool (.ls (.p I I))))))],@t_additiveref24_Walk wv⟩
end Go.Proofs.Ytmfagdfkpjgeiaa
namespace Go.Proofs.Ytmfagdfkpjgeiaa
open Go Go.Vv Go.Dn Go.Dn.W
set_option linter.unusedVariables false
set_option maxRecDepth 100000
noncomputable def t_additiveref18_Count_L1 [W] (s:(HP Int (HP Int (HP Int (HP (List (Int×(List (Int×Int)))) Unit))))):Option (Nx (HP Int (HP Int (HP Int (HP (List (Int×(List (Int×Int)))) Unit)))) (HP Int (HP Int (HP (List (Int×(List (Int×Int)))) Unit)))) :=
 ge s.tl.tl.tl.hd s.tl.hd fun v1 =>
 br (cm .lss s.tl.tl.hd (ln v1.2)) (ge s.tl.tl.tl.hd s.tl.hd fun v2 =>
 ge v2.2 s.tl.tl.hd fun v3 =>
 ge s.tl.tl.tl.hd s.tl.hd fun v4 =>
 ge v4.2 s.tl.tl.hd fun v5 =>
 some (.go ⟨(ar .add .i64 s.hd (ar .sub .i64 v3.2 v5.1)),⟨s.tl.hd,⟨(ar .add .i64 s.tl.tl.hd 1),⟨s.tl.tl.tl.hd,()⟩⟩⟩⟩))
 (some (.out ⟨s.hd,⟨s.tl.hd,⟨s.tl.tl.tl.hd,()⟩⟩⟩))
noncomputable def t_additiveref18_Count_L0 [W] (s:(HP Int (HP Int (HP (List (Int×(List (Int×Int)))) Unit)))):Option (Nx (HP Int (HP Int (HP (List (Int×(List (Int×Int)))) Unit))) (HP Int Unit)) :=
 br (cm .lss s.tl.hd (ln s.tl.tl.hd)) (loop t_additiveref18_Count_L1 ⟨s.hd,⟨s.tl.hd,⟨0,⟨s.tl.tl.hd,()⟩⟩⟩⟩ fun v6 =>
 some (.go ⟨v6.hd,⟨(ar .add .i64 v6.tl.hd 1),⟨v6.tl.tl.hd,()⟩⟩⟩))
 (some (.out ⟨s.hd,()⟩))
noncomputable def t_additiveref18_Count [W] (a:(List (Int×(List (Int×Int))))):Option Int :=
 call c_additiveref18_Valid (a:(List (Int×(List (Int×Int))))) fun (v0:Bool) =>
 br (nt v0) (some 0)
 (loop t_additiveref18_Count_L0 ⟨0,⟨0,⟨a,()⟩⟩⟩ fun v7 =>
 some v7.hd)
noncomputable def c_additiveref18_Count:Ctr:=⟨16,[(.ag,(.ls (.p I (.ls (.p I I)))))],[(false,I)],@t_additiveref18_Count wv⟩
theorem je (w:W) (a):fnD (dW w) (cxO (gam [(33,c_additiveref18_Valid)]) [] [] [] [] [] []) 8 16 [(.ag,(.ls (.p I (.ls (.p I I)))))] [(false,I)] a=@t_additiveref18_Count w a:=by kernel_rfl
theorem jt:Go.Dn.Good PG c_additiveref18_Count:=good (gam [(33,c_additiveref18_Valid)]) [] [] [] [] [] [] 8 (Jm jv Jz) Kg Ke (Jw (by kernel_rfl)) rfl rfl (je wv)
noncomputable def t_additivelaw18_Small_L0 [W] (s:(HP Int (HP (List (Int×(List (Int×Int)))) Unit))):Option (Nx (HP Int (HP (List (Int×(List (Int×Int)))) Unit)) (Unit ⊕ (HP (List (Int×(List (Int×Int)))) Unit))) :=
 br (cm .lss s.hd (ln s.tl.hd)) (ge s.tl.hd s.hd fun v0 =>
 br (cm .gtr (ln v0.2) 40) (some (.out (.inl ())))
 (some (.go ⟨(ar .add .i64 s.hd 1),⟨s.tl.hd,()⟩⟩)))
 (some (.out (.inr ⟨s.tl.hd,()⟩)))
noncomputable def t_additivelaw18_Small [W] (a:(List (Int×(List (Int×Int))))):Option Bool :=
 br (cm .gtr (ln a) 40) (some false)
 (loop t_additivelaw18_Small_L0 ⟨0,⟨a,()⟩⟩ fun v1 =>
 match v1 with
 | .inl v2=>(some false)
 | .inr v3=>(call c_additiveref18_Count (v3.hd:(List (Int×(List (Int×Int))))) fun (v4:Int) =>
 some (cm .leq v4 600)))
noncomputable def c_additivelaw18_Small:Ctr:=⟨7,[(.ag,(.ls (.p I (.ls (.p I I)))))],[(false,.bool)],@t_additivelaw18_Small wv⟩
theorem jo (w:W) (a):fnD (dW w) (cxO (gam [(16,c_additiveref18_Count)]) [] [] [] [] [] []) 8 7 [(.ag,(.ls (.p I (.ls (.p I I)))))] [(false,.bool)] a=@t_additivelaw18_Small w a:=by kernel_rfl
theorem js:Go.Dn.Good PG c_additivelaw18_Small:=good (gam [(16,c_additiveref18_Count)]) [] [] [] [] [] [] 8 (Jm jt Jz) Kg Ke (Jw (by kernel_rfl)) rfl rfl (jo wv)
noncomputable def t_additivelaw24_box_L0 [W] (s:(HP Int (HP Int (HP Int (HP Int (HP Int (HP (List (Int×(List (Int×Int)))) Unit))))))):Option (Nx (HP Int (HP Int (HP Int (HP Int (HP Int (HP (List (Int×(List (Int×Int)))) Unit)))))) (HP (List (Int×(List (Int×Int)))) Unit)) :=
 br (cm .lss s.tl.tl.tl.tl.hd s.tl.tl.tl.hd) (gd (ft 32 (pl (ln s.tl.tl.tl.tl.tl.hd) 1)) <|
 some (.go ⟨s.hd,⟨s.tl.hd,⟨s.tl.tl.hd,⟨s.tl.tl.tl.hd,⟨(ar .add .i64 s.tl.tl.tl.tl.hd 1),⟨(ap s.tl.tl.tl.tl.tl.hd (((ar .add .i64 s.tl.hd s.tl.tl.tl.tl.hd),((s.hd,(ar .add .i64 s.hd s.tl.tl.hd))::[]))::[])),()⟩⟩⟩⟩⟩⟩))
 (some (.out ⟨s.tl.tl.tl.tl.tl.hd,()⟩))
noncomputable def t_additivelaw24_box [W] (a:(Int×(Int×(Int×Int)))):Option (List (Int×(List (Int×Int)))) :=
 loop t_additivelaw24_box_L0 ⟨a.1,⟨a.2.1,⟨a.2.2.1,⟨a.2.2.2,⟨0,⟨[],()⟩⟩⟩⟩⟩⟩ fun v0 =>
 some v0.hd
noncomputable def c_additivelaw24_box:Ctr:=⟨12,[(.one,I),(.one,I),(.one,I),(.one,I)],[(true,(.ls (.p I (.ls (.p I I)))))],@t_additivelaw24_box wv⟩
theorem Jaq (w:W) (a):fnD (dW w) (cxO (gam []) [] [] [] [] [] []) 8 12 [(.one,I),(.one,I),(.one,I),(.one,I)] [(true,(.ls (.p I (.ls (.p I I)))))] a=@t_additivelaw24_box w a:=by kernel_rfl
theorem Jav:Go.Dn.Good PG c_additivelaw24_box:=good (gam []) [] [] [] [] [] [] 8 Jz Kg Ke (Jw (by kernel_rfl)) rfl rfl (Jaq wv)
noncomputable def t_additivelaw24_awake [W] (a:Unit):Option Bool :=
 call c_additivelaw24_box ((0,(0,(2,2))):(Int×(Int×(Int×Int)))) fun (v0:(List (Int×(List (Int×Int))))) =>
 call c_ringwalk_Walk (v0:(List (Int×(List (Int×Int))))) fun (v1:(List (Int×(Bool×(List (Int×Int)))))) =>
 br (cm .neq (ln v1) 1) (some false)
 (ge v1 0 fun v2 =>
 br (cm .neq (ln v2.2.2) 4) (some false)
 (ge v1 0 fun v3 =>
 ge v1 0 fun v4 =>
 br v4.2.1 (ge v1 0 fun v5 =>
 br (cm .eql v5.1 1) (ge v3.2.2 0 fun v6 =>
 br (an (cm .eql v6.1 0) (cm .eql v6.2 0)) (ge v3.2.2 1 fun v7 =>
 br (an (cm .eql v7.1 1) (cm .eql v7.2 0)) (ge v3.2.2 2 fun v8 =>
 br (an (cm .eql v8.1 1) (cm .eql v8.2 1)) (ge v3.2.2 3 fun v9 =>
 some (an (cm .eql v9.1 0) (cm .eql v9.2 1)))
 (some false))
 (some false))
 (some false))
 (some false))
 (some false)))
noncomputable def c_additivelaw24_awake:Ctr:=⟨8,[],[(false,.bool)],@t_additivelaw24_awake wv⟩
theorem jd (w:W) (a):fnD (dW w) (cxO (gam [(12,c_additivelaw24_box),(10,c_ringwalk_Walk)]) [] [] [] [] [] []) 8 8 [] [(false,.bool)] a=@t_additivelaw24_awake w a:=by kernel_rfl
theorem jr:Go.Dn.Good PG c_additivelaw24_awake:=good (gam [(12,c_additivelaw24_box),(10,c_ringwalk_Walk)]) [] [] [] [] [] [] 8 (Jm Jav (Jm jl Jz)) Kg Ke (Jw (by kernel_rfl)) rfl rfl (jd wv)
noncomputable def t_additiveref23_Same_L0 [W] (s:(HP Int (HP Int (HP Int (HP Bool (HP (List (Int×Int)) (HP Int (HP Bool (HP (List (Int×Int)) Unit))))))))):Option (Nx (HP Int (HP Int (HP Int (HP Bool (HP (List (Int×Int)) (HP Int (HP Bool (HP (List (Int×Int)) Unit)))))))) (Unit ⊕ Unit)) :=
 br (cm .lss s.tl.hd s.hd) (ge s.tl.tl.tl.tl.hd s.tl.hd fun v0 =>
 ge s.tl.tl.tl.tl.tl.tl.tl.hd s.tl.hd fun v1 =>
 br (nt (an (cm .eql v0.1 v1.1) (cm .eql v0.2 v1.2))) (some (.out (.inl ())))
 (some (.go ⟨s.hd,⟨(ar .add .i64 s.tl.hd 1),⟨s.tl.tl.hd,⟨s.tl.tl.tl.hd,⟨s.tl.tl.tl.tl.hd,⟨s.tl.tl.tl.tl.tl.hd,⟨s.tl.tl.tl.tl.tl.tl.hd,⟨s.tl.tl.tl.tl.tl.tl.tl.hd,()⟩⟩⟩⟩⟩⟩⟩⟩)))
 (some (.out (.inr ())))
noncomputable def t_additiveref23_Same [W] (a:((Int×(Bool×(List (Int×Int))))×(Int×(Bool×(List (Int×Int)))))):Option Bool :=
 br (cm .neq a.1.1 a.2.1) (some false)
 (br (nt (be a.1.2.1 a.2.2.1)) (some false)
 (br (cm .neq (ln a.1.2.2) (ln a.2.2.2)) (some false)
 (loop t_additiveref23_Same_L0 ⟨(ln a.1.2.2),⟨0,⟨a.1.1,⟨a.1.2.1,⟨a.1.2.2,⟨a.2.1,⟨a.2.2.1,⟨a.2.2.2,()⟩⟩⟩⟩⟩⟩⟩⟩ fun v2 =>
 match v2 with
 | .inl v3=>(some false)
 | .inr v4=>(some true))))
noncomputable def c_additiveref23_Same:Ctr:=⟨17,[(.ag,(.p I (.p .bool (.ls (.p I I))))),(.ag,(.p I (.p .bool (.ls (.p I I)))))],[(false,.bool)],@t_additiveref23_Same wv⟩
noncomputable def t_additiveref23_SameAll_L0 [W] (s:(HP (List (Int×(Bool×(List (Int×Int))))) (HP (List (Int×(Bool×(List (Int×Int))))) (HP Int (HP Int Unit))))):Option (Nx (HP (List (Int×(Bool×(List (Int×Int))))) (HP (List (Int×(Bool×(List (Int×Int))))) (HP Int (HP Int Unit)))) (Unit ⊕ Unit)) :=
 br (cm .lss s.tl.tl.tl.hd s.tl.tl.hd) (ge s.hd s.tl.tl.tl.hd fun v0 =>
 ge s.tl.hd s.tl.tl.tl.hd fun v1 =>
 call c_additiveref23_Same (((v0.1,(v0.2.1,v0.2.2)),(v1.1,(v1.2.1,v1.2.2))):((Int×(Bool×(List (Int×Int))))×(Int×(Bool×(List (Int×Int)))))) fun (v2:Bool) =>
 br (nt v2) (some (.out (.inl ())))
 (some (.go ⟨s.hd,⟨s.tl.hd,⟨s.tl.tl.hd,⟨(ar .add .i64 s.tl.tl.tl.hd 1),()⟩⟩⟩⟩)))
 (some (.out (.inr ())))
noncomputable def t_additiveref23_SameAll [W] (a:((List (Int×(Bool×(List (Int×Int)))))×(List (Int×(Bool×(List (Int×Int))))))):Option Bool :=
 br (cm .neq (ln a.1) (ln a.2)) (some false)
 (loop t_additiveref23_SameAll_L0 ⟨a.1,⟨a.2,⟨(ln a.1),⟨0,()⟩⟩⟩⟩ fun v3 =>
 match v3 with
 | .inl v4=>(some false)
 | .inr v5=>(some true))
noncomputable def c_additiveref23_SameAll:Ctr:=⟨9,[(.one,(.ls (.p I (.p .bool (.ls (.p I I)))))),(.one,(.ls (.p I (.p .bool (.ls (.p I I))))))],[(false,.bool)],@t_additiveref23_SameAll wv⟩
noncomputable def t_additivelaw24_RingwalkWalks [W] (a:(List (Int×(List (Int×Int))))):Option Bool :=
 call c_additivelaw18_Small (a:(List (Int×(List (Int×Int))))) fun (v0:Bool) =>
 br (nt v0) (call c_additivelaw24_awake (():Unit) fun (v1:Bool) =>
 some v1)
 (call c_ringwalk_Walk (a:(List (Int×(List (Int×Int))))) fun (v2:(List (Int×(Bool×(List (Int×Int)))))) =>
 call c_additiveref24_Walk (a:(List (Int×(List (Int×Int))))) fun (v3:(List (Int×(Bool×(List (Int×Int)))))) =>
 call c_additiveref23_SameAll ((v2,v3):((List (Int×(Bool×(List (Int×Int)))))×(List (Int×(Bool×(List (Int×Int))))))) fun (v4:Bool) =>
 br v4 (call c_additivelaw24_awake (():Unit) fun (v5:Bool) =>
 some v5)
 (some false))
noncomputable def c_additivelaw24_RingwalkWalks:Ctr:=⟨3,[(.ag,(.ls (.p I (.ls (.p I I)))))],[(false,.bool)],@t_additivelaw24_RingwalkWalks wv⟩
noncomputable def t_additivelaw24_RingwalkBoxes [W] (a:(Int×(Int×(Int×Int)))):Option Bool :=
 gd (cm .neq 30 0) <|
 gd (cm .neq 30 0) <|
 br (cm .lss a.1 (-1000)) (call c_additivelaw24_awake (():Unit) fun (v0:Bool) =>
 some v0)
 (br (cm .gtr a.1 1000) (call c_additivelaw24_awake (():Unit) fun (v1:Bool) =>
 some v1)
 (br (cm .lss a.2.1 (-1000)) (call c_additivelaw24_awake (():Unit) fun (v2:Bool) =>
 some v2)
 (br (cm .gtr a.2.1 1000) (call c_additivelaw24_awake (():Unit) fun (v3:Bool) =>
 some v3)
 (br (cm .eql (ar .add .i64 1 (cv .i64 (ar .rem .u8 a.2.2.1 30))) 1) (call c_additivelaw24_box ((a.1,(a.2.1,((ar .add .i64 1 (cv .i64 (ar .rem .u8 a.2.2.1 30))),(ar .add .i64 1 (cv .i64 (ar .rem .u8 a.2.2.2 30)))))):(Int×(Int×(Int×Int)))) fun (v4:(List (Int×(List (Int×Int))))) =>
 call c_ringwalk_Walk (v4:(List (Int×(List (Int×Int))))) fun (v5:(List (Int×(Bool×(List (Int×Int)))))) =>
 br (cm .eql (ln v5) 1) (ge v5 0 fun v6 =>
 br (cm .eql (ln v6.2.2) (mx 1 (ar .mul .i64 2 (ar .sub .i64 (mx (ar .add .i64 1 (cv .i64 (ar .rem .u8 a.2.2.1 30))) (ar .add .i64 1 (cv .i64 (ar .rem .u8 a.2.2.2 30)))) 1)))) (ge v5 0 fun v7 =>
 ge v7.2.2 0 fun v8 =>
 br (an (cm .eql v8.1 a.1) (cm .eql v8.2 a.2.1)) (call c_additivelaw24_awake (():Unit) fun (v9:Bool) =>
 some v9)
 (some false))
 (some false))
 (some false))
 (br (cm .eql (ar .add .i64 1 (cv .i64 (ar .rem .u8 a.2.2.2 30))) 1) (call c_additivelaw24_box ((a.1,(a.2.1,((ar .add .i64 1 (cv .i64 (ar .rem .u8 a.2.2.1 30))),(ar .add .i64 1 (cv .i64 (ar .rem .u8 a.2.2.2 30)))))):(Int×(Int×(Int×Int)))) fun (v10:(List (Int×(List (Int×Int))))) =>
 call c_ringwalk_Walk (v10:(List (Int×(List (Int×Int))))) fun (v11:(List (Int×(Bool×(List (Int×Int)))))) =>
 br (cm .eql (ln v11) 1) (ge v11 0 fun v12 =>
 br (cm .eql (ln v12.2.2) (mx 1 (ar .mul .i64 2 (ar .sub .i64 (mx (ar .add .i64 1 (cv .i64 (ar .rem .u8 a.2.2.1 30))) (ar .add .i64 1 (cv .i64 (ar .rem .u8 a.2.2.2 30)))) 1)))) (ge v11 0 fun v13 =>
 ge v13.2.2 0 fun v14 =>
 br (an (cm .eql v14.1 a.1) (cm .eql v14.2 a.2.1)) (call c_additivelaw24_awake (():Unit) fun (v15:Bool) =>
 some v15)
 (some false))
 (some false))
 (some false))
 (call c_additivelaw24_box ((a.1,(a.2.1,((ar .add .i64 1 (cv .i64 (ar .rem .u8 a.2.2.1 30))),(ar .add .i64 1 (cv .i64 (ar .rem .u8 a.2.2.2 30)))))):(Int×(Int×(Int×Int)))) fun (v16:(List (Int×(List (Int×Int))))) =>
 call c_ringwalk_Walk (v16:(List (Int×(List (Int×Int))))) fun (v17:(List (Int×(Bool×(List (Int×Int)))))) =>
 br (cm .eql (ln v17) 1) (ge v17 0 fun v18 =>
 br (cm .eql (ln v18.2.2) (ar .sub .i64 (ar .mul .i64 2 (ar .add .i64 (ar .add .i64 1 (cv .i64 (ar .rem .u8 a.2.2.1 30))) (ar .add .i64 1 (cv .i64 (ar .rem .u8 a.2.2.2 30))))) 4)) (ge v17 0 fun v19 =>
 ge v19.2.2 0 fun v20 =>
 br (an (cm .eql v20.1 a.1) (cm .eql v20.2 a.2.1)) (call c_additivelaw24_awake (():Unit) fun (v21:Bool) =>
 some v21)
 (some false))
 (some false))
 (some false)))))))
noncomputable def c_additivelaw24_RingwalkBoxes:Ctr:=⟨4,[(.ag,(.p I (.p I (.p (.int .u8) (.int .u8)))))],[(false,.bool)],@t_additivelaw24_RingwalkBoxes wv⟩
end Go.Proofs.Ytmfagdfkpjgeiaa
namespace Go.Proofs.Ytmfagdfkpjgeiaa
open Go Go.Vv Go.Dn Go.Dn.W
set_option linter.unusedVariables false
set_option maxRecDepth 100000
noncomputable def t_track_onGrid [W] (a:(Int×Int)):Option Bool :=
 br (cm .geq a.1 (-4096)) (br (cm .lss a.1 4096) (br (cm .geq a.2 (-4096)) (some (cm .lss a.2 4096))
 (some false))
 (some false))
 (some false)
noncomputable def c_track_onGrid:Ctr:=⟨22,[(.ag,(.p I I))],[(false,.bool)],@t_track_onGrid wv⟩
noncomputable def t_track_neighbors [W] (a:((Int×Int)×(Int×Int))):Option Bool :=
 some (cm .eql (ar .add .i64 (ar .mul .i64 (ar .sub .i64 a.1.1 a.2.1) (ar .sub .i64 a.1.1 a.2.1)) (ar .mul .i64 (ar .sub .i64 a.1.2 a.2.2) (ar .sub .i64 a.1.2 a.2.2))) 1)
noncomputable def c_track_neighbors:Ctr:=⟨23,[(.ag,(.p I I)),(.ag,(.p I I))],[(false,.bool)],@t_track_neighbors wv⟩
noncomputable def t_track_Valid_L0 [W] (s:(HP Int (HP (List (Int×Int)) (HP Int (HP Int (HP Int (HP Bool (HP (List (Int×Int)) Unit)))))))):Option (Nx (HP Int (HP (List (Int×Int)) (HP Int (HP Int (HP Int (HP Bool (HP (List (Int×Int)) Unit))))))) (Unit ⊕ (HP Int (HP Int (HP Bool (HP (List (Int×Int)) Unit)))))) :=
 br (cm .lss s.tl.tl.tl.hd s.tl.tl.hd) (ge s.tl.hd s.tl.tl.tl.hd fun v0 =>
 call c_track_onGrid ((v0.1,v0.2):(Int×Int)) fun (v1:Bool) =>
 br (nt v1) (some (.out (.inl ())))
 (br (cm .gtr s.tl.tl.tl.hd 0) (ge s.tl.tl.tl.tl.tl.tl.hd (ar .sub .i64 s.tl.tl.tl.hd 1) fun v2 =>
 call c_track_neighbors (((v2.1,v2.2),(v0.1,v0.2)):((Int×Int)×(Int×Int))) fun (v3:Bool) =>
 br (nt v3) (some (.out (.inl ())))
 (some (.go ⟨s.hd,⟨s.tl.hd,⟨s.tl.tl.hd,⟨(ar .add .i64 s.tl.tl.tl.hd 1),⟨s.tl.tl.tl.tl.hd,⟨s.tl.tl.tl.tl.tl.hd,⟨s.tl.tl.tl.tl.tl.tl.hd,()⟩⟩⟩⟩⟩⟩⟩)))
 (some (.go ⟨s.hd,⟨s.tl.hd,⟨s.tl.tl.hd,⟨(ar .add .i64 s.tl.tl.tl.hd 1),⟨s.tl.tl.tl.tl.hd,⟨s.tl.tl.tl.tl.tl.hd,⟨s.tl.tl.tl.tl.tl.tl.hd,()⟩⟩⟩⟩⟩⟩⟩))))
 (some (.out (.inr ⟨s.hd,⟨s.tl.tl.tl.tl.hd,⟨s.tl.tl.tl.tl.tl.hd,⟨s.tl.tl.tl.tl.tl.tl.hd,()⟩⟩⟩⟩)))
noncomputable def t_track_Valid [W] (a:(Int×(Bool×(List (Int×Int))))):Option Bool :=
 br (cm .lss a.1 1) (some false)
 (br (cm .gtr a.1 7) (some false)
 (br (cm .lss (ln a.2.2) 1) (some false)
 (br (cm .gtr (ln a.2.2) 65536) (some false)
 (loop t_track_Valid_L0 ⟨(ln a.2.2),⟨a.2.2,⟨(ln a.2.2),⟨0,⟨a.1,⟨a.2.1,⟨a.2.2,()⟩⟩⟩⟩⟩⟩⟩ fun v4 =>
 match v4 with
 | .inl v5=>(some false)
 | .inr v6=>(br (nt v6.tl.tl.hd) (some true)
 (br (cm .eql v6.hd 1) (some true)
 (ge v6.tl.tl.tl.hd (ar .sub .i64 v6.hd 1) fun v7 =>
 ge v6.tl.tl.tl.hd 0 fun v8 =>
 call c_track_neighbors (((v7.1,v7.2),(v8.1,v8.2)):((Int×Int)×(Int×Int))) fun (v9:Bool) =>
 some v9)))))))
noncomputable def c_track_Valid:Ctr:=⟨13,[(.ag,(.p I (.p .bool (.ls (.p I I)))))],[(false,.bool)],@t_track_Valid wv⟩
noncomputable def t_additivelaw24_RingwalkTracks_L0 [W] (s:(HP (List (Int×(Bool×(List (Int×Int))))) (HP Int (HP (List (Int×(List (Int×Int)))) Unit)))):Option (Nx (HP (List (Int×(Bool×(List (Int×Int))))) (HP Int (HP (List (Int×(List (Int×Int)))) Unit))) (Unit ⊕ (HP (List (Int×(Bool×(List (Int×Int))))) (HP (List (Int×(List (Int×Int)))) Unit)))) :=
 br (cm .lss s.tl.hd (ln s.hd)) (ge s.hd s.tl.hd fun v3 =>
 call c_track_Valid ((v3.1,(v3.2.1,v3.2.2)):(Int×(Bool×(List (Int×Int))))) fun (v4:Bool) =>
 br (nt v4) (some (.out (.inl ())))
 (ge s.hd s.tl.hd fun v5 =>
 br (nt v5.2.1) (some (.out (.inl ())))
 (ge s.hd s.tl.hd fun v6 =>
 br (cm .neq v6.1 1) (some (.out (.inl ())))
 (some (.go ⟨s.hd,⟨(ar .add .i64 s.tl.hd 1),⟨s.tl.tl.hd,()⟩⟩⟩)))))
 (some (.out (.inr ⟨s.hd,⟨s.tl.tl.hd,()⟩⟩)))
noncomputable def t_additivelaw24_RingwalkTracks [W] (a:(List (Int×(List (Int×Int))))):Option Bool :=
 call c_additivelaw18_Small (a:(List (Int×(List (Int×Int))))) fun (v0:Bool) =>
 br (nt v0) (call c_additivelaw24_awake (():Unit) fun (v1:Bool) =>
 some v1)
 (call c_ringwalk_Walk (a:(List (Int×(List (Int×Int))))) fun (v2:(List (Int×(Bool×(List (Int×Int)))))) =>
 loop t_additivelaw24_RingwalkTracks_L0 ⟨v2,⟨0,⟨a,()⟩⟩⟩ fun v7 =>
 match v7 with
 | .inl v8=>(some false)
 | .inr v9=>(call c_boundary_Trace (v9.tl.hd:(List (Int×(List (Int×Int))))) fun (v10:(List (List (Int×Int)))) =>
 br (cm .eql (ln v9.hd) (ln v10)) (call c_additivelaw24_awake (():Unit) fun (v11:Bool) =>
 some v11)
 (some false)))
noncomputable def c_additivelaw24_RingwalkTracks:Ctr:=⟨5,[(.ag,(.ls (.p I (.ls (.p I I)))))],[(false,.bool)],@t_additivelaw24_RingwalkTracks wv⟩
end Go.Proofs.Ytmfagdfkpjgeiaa
namespace Go.Proofs.Ytmfagdfkpjgeiaa
open Go Go.Vv Go.Dn Go.Dn.W
set_option linter.unusedVariables false
set_option maxRecDepth 100000
noncomputable def t_region_Box_L0 [W] (s:(HP (List (Int×(List (Int×Int)))) (HP Int (HP Int (HP Int (HP Int (HP Int (HP Int (HP Int (HP Int (HP Int (HP Int Unit)))))))))))):Option (Nx (HP (List (Int×(List (Int×Int)))) (HP Int (HP Int (HP Int (HP Int (HP Int (HP Int (HP Int (HP Int (HP Int (HP Int Unit))))))))))) (HP Int (HP Int (HP Int (HP Int (HP Int (HP Int (HP Int (HP Int Unit))))))))) :=
 br (cm .lss s.tl.tl.hd s.tl.hd) (ge s.hd s.tl.tl.hd fun v3 =>
 ge v3.2 0 fun v4 =>
 ge v3.2 (ar .sub .i64 (ln v3.2) 1) fun v5 =>
 some (.go ⟨s.hd,⟨s.tl.hd,⟨(ar .add .i64 s.tl.tl.hd 1),⟨s.tl.tl.tl.hd,⟨s.tl.tl.tl.tl.hd,⟨s.tl.tl.tl.tl.tl.hd,⟨s.tl.tl.tl.tl.tl.tl.hd,⟨(mn s.tl.tl.tl.tl.tl.tl.tl.hd v4.1),⟨s.tl.tl.tl.tl.tl.tl.tl.tl.hd,⟨(mx s.tl.tl.tl.tl.tl.tl.tl.tl.tl.hd (ar .sub .i64 v5.2 1)),⟨s.tl.tl.tl.tl.tl.tl.tl.tl.tl.tl.hd,()⟩⟩⟩⟩⟩⟩⟩⟩⟩⟩⟩))
 (some (.out ⟨s.tl.tl.tl.hd,⟨s.tl.tl.tl.tl.hd,⟨s.tl.tl.tl.tl.tl.hd,⟨s.tl.tl.tl.tl.tl.tl.hd,⟨s.tl.tl.tl.tl.tl.tl.tl.hd,⟨s.tl.tl.tl.tl.tl.tl.tl.tl.hd,⟨s.tl.tl.tl.tl.tl.tl.tl.tl.tl.hd,⟨s.tl.tl.tl.tl.tl.tl.tl.tl.tl.tl.hd,()⟩⟩⟩⟩⟩⟩⟩⟩))
noncomputable def t_region_Box [W] (a:(List (Int×(List (Int×Int))))):Option ((Int×Int)×((Int×Int)×Bool)) :=
 call c_region_Valid (a:(List (Int×(List (Int×Int))))) fun (v0:Bool) =>
 br (nt v0) (some ((0,0),((0,0),false)))
 (br (cm .eql (ln a) 0) (some ((0,0),((0,0),false)))
 (ge a 0 fun v1 =>
 ge a (ar .sub .i64 (ln a) 1) fun v2 =>
 loop t_region_Box_L0 ⟨a,⟨(ln a),⟨0,⟨0,⟨0,⟨0,⟨0,⟨4096,⟨v1.1,⟨(-4096),⟨v2.1,()⟩⟩⟩⟩⟩⟩⟩⟩⟩⟩⟩ fun v6 =>
 some ((v6.tl.tl.tl.tl.hd,v6.tl.tl.tl.tl.tl.hd),((v6.tl.tl.tl.tl.tl.tl.hd,v6.tl.tl.tl.tl.tl.tl.tl.hd),true))))
noncomputable def c_region_Box:Ctr:=⟨29,[(.ag,(.ls (.p I (.ls (.p I I)))))],[(true,(.p I I)),(true,(.p I I)),(false,.bool)],@t_region_Box wv⟩
theorem Jkt (w:W) (a):fnD (dW w) (cxO (gam [(24,c_region_Valid)]) [] [] [] [] [] []) 8 29 [(.ag,(.ls (.p I (.ls (.p I I)))))] [(true,(.p I I)),(true,(.p I I)),(false,.bool)] a=@t_region_Box w a:=by kernel_rfl
theorem Jke:Go.Dn.Good PG c_region_Box:=good (gam [(24,c_region_Valid)]) [] [] [] [] [] [] 8 (Jm Yy Jz) Kg Ke (Jw (by kernel_rfl)) rfl rfl (Jkt wv)
noncomputable def t_region_near [W] (a:Int):Option Bool :=
 br (cm .geq a (-8192)) (some (cm .leq a 8192))
 (some false)
noncomputable def c_region_near:Ctr:=⟨30,[(.one,I)],[(false,.bool)],@t_region_near wv⟩
theorem Jji (w:W) (a):fnD (dW w) (cxO (gam []) [] [] [] [] [] []) 8 30 [(.one,I)] [(false,.bool)] a=@t_region_near w a:=by kernel_rfl
theorem Jht:Go.Dn.Good PG c_region_near:=good (gam []) [] [] [] [] [] [] 8 Jz Kg Ke (Jw (by kernel_rfl)) rfl rfl (Jji wv)
noncomputable def t_runs_Shift_L0 [W] (s:(HP Int (HP (List (Int×Int)) (HP Int (HP Int (HP (List (Int×Int)) Unit)))))):Option (Nx (HP Int (HP (List (Int×Int)) (HP Int (HP Int (HP (List (Int×Int)) Unit))))) (HP (List (Int×Int)) Unit)) :=
 br (cm .lss s.tl.tl.tl.hd s.tl.tl.hd) (ge s.tl.hd s.tl.tl.tl.hd fun v3 =>
 gd (ib s.tl.tl.tl.hd (ln s.tl.tl.tl.tl.hd)) <|
 ge s.tl.tl.tl.tl.hd s.tl.tl.tl.hd fun v4 =>
 some (.go ⟨s.hd,⟨s.tl.hd,⟨s.tl.tl.hd,⟨(ar .add .i64 s.tl.tl.tl.hd 1),⟨(st s.tl.tl.tl.tl.hd s.tl.tl.tl.hd ((ar .add .i64 v3.1 s.hd),(ar .add .i64 v3.2 s.hd))),()⟩⟩⟩⟩⟩))
 (some (.out ⟨s.tl.tl.tl.tl.hd,()⟩))
noncomputable def t_runs_Shift [W] (a:((List (Int×Int))×Int)):Option ((List (Int×Int))×Int) :=
 call c_runs_Valid (a.1:(List (Int×Int))) fun (v0:Bool) =>
 br (nt v0) (some ([],1))
 (br (cm .eql (ln a.1) 0) (some ([],0))
 (br (cm .lss a.2 (-2097152)) (some ([],8))
 (br (cm .gtr a.2 2097152) (some ([],8))
 (ge a.1 0 fun v1 =>
 br (cm .lss (ar .add .i64 v1.1 a.2) (-1048576)) (some ([],8))
 (ge a.1 (ar .sub .i64 (ln a.1) 1) fun v2 =>
 br (cm .gtr (ar .add .i64 v2.2 a.2) 1048576) (some ([],8))
 (gd (le 0 (ln a.1)) <|
 gd (ft 16 (ln a.1)) <|
 loop t_runs_Shift_L0 ⟨a.2,⟨a.1,⟨(ln a.1),⟨0,⟨(rp (0,0) (ln a.1)),()⟩⟩⟩⟩⟩ fun v5 =>
 some (v5.hd,0)))))))
noncomputable def c_runs_Shift:Ctr:=⟨32,[(.one,(.ls (.p I I))),(.one,I)],[(false,(.ls (.p I I))),(false,I)],@t_runs_Shift wv⟩
theorem Jkz (w:W) (a):fnD (dW w) (cxO (gam [(43,c_runs_Valid)]) [] [] [] [] [] []) 8 32 [(.one,(.ls (.p I I))),(.one,I)] [(false,(.ls (.p I I))),(false,I)] a=@t_runs_Shift w a:=by kernel_rfl
theorem Jjz:Go.Dn.Good PG c_runs_Shift:=good (gam [(43,c_runs_Valid)]) [] [] [] [] [] [] 8 (Jm jw Jz) Kg Ke (Jw (by kernel_rfl)) rfl rfl (Jkz wv)
noncomputable def t_region_Shift_L0 [W] (s:(HP Int (HP Int (HP (List (Int×(List (Int×Int)))) (HP Int (HP Int (HP (List (Int×(List (Int×Int)))) Unit))))))):Option (Nx (HP Int (HP Int (HP (List (Int×(List (Int×Int)))) (HP Int (HP Int (HP (List (Int×(List (Int×Int)))) Unit)))))) (HP (List (Int×(List (Int×Int)))) Unit)) :=
 br (cm .lss s.tl.tl.tl.tl.hd s.tl.tl.tl.hd) (ge s.tl.tl.hd s.tl.tl.tl.tl.hd fun v8 =>
 call c_runs_Shift ((v8.2,s.hd):((List (Int×Int))×Int)) fun (v9:((List (Int×Int))×Int)) =>
 gd (ft 32 (pl (ln s.tl.tl.tl.tl.tl.hd) 1)) <|
 some (.go ⟨s.hd,⟨s.tl.hd,⟨s.tl.tl.hd,⟨s.tl.tl.tl.hd,⟨(ar .add .i64 s.tl.tl.tl.tl.hd 1),⟨(ap s.tl.tl.tl.tl.tl.hd (((ar .add .i64 v8.1 s.tl.hd),v9.1)::[])),()⟩⟩⟩⟩⟩⟩))
 (some (.out ⟨s.tl.tl.tl.tl.tl.hd,()⟩))
noncomputable def t_region_Shift [W] (a:((List (Int×(List (Int×Int))))×(Int×Int))):Option ((List (Int×(List (Int×Int))))×Int) :=
 call c_region_Box (a.1:(List (Int×(List (Int×Int))))) fun (v0:((Int×Int)×((Int×Int)×Bool))) =>
 call c_region_Valid (a.1:(List (Int×(List (Int×Int))))) fun (v1:Bool) =>
 br (nt v1) (some ([],1))
 (br (nt v0.2.2) (some ([],0))
 (call c_region_near (a.2.1:Int) fun (v2:Bool) =>
 br (nt v2) (some ([],8))
 (call c_region_near (a.2.2:Int) fun (v3:Bool) =>
 br (nt v3) (some ([],8))
 (call c_region_ok ((ar .add .i64 v0.1.1 a.2.1):Int) fun (v4:Bool) =>
 br (nt v4) (some ([],8))
 (call c_region_ok ((ar .add .i64 v0.2.1.1 a.2.1):Int) fun (v5:Bool) =>
 br (nt v5) (some ([],8))
 (call c_region_ok ((ar .add .i64 v0.1.2 a.2.2):Int) fun (v6:Bool) =>
 br (nt v6) (some ([],8))
 (call c_region_ok ((ar .add .i64 v0.2.1.2 a.2.2):Int) fun (v7:Bool) =>
 br (nt v7) (some ([],8))
 (loop t_region_Shift_L0 ⟨a.2.1,⟨a.2.2,⟨a.1,⟨(ln a.1),⟨0,⟨[],()⟩⟩⟩⟩⟩⟩ fun v10 =>
 some (v10.hd,0)))))))))
noncomputable def c_region_Shift:Ctr:=⟨15,[(.ag,(.ls (.p I (.ls (.p I I))))),(.one,I),(.one,I)],[(true,(.ls (.p I (.ls (.p I I))))),(false,I)],@t_region_Shift wv⟩
theorem Jga (w:W) (a):fnD (dW w) (cxO (gam [(32,c_runs_Shift),(29,c_region_Box),(24,c_region_Valid),(30,c_region_near),(31,c_region_ok)]) [] [] [] [] [] []) 8 15 [(.ag,(.ls (.p I (.ls (.p I I))))),(.one,I),(.one,I)] [(true,(.ls (.p I (.ls (.p I I))))),(false,I)] a=@t_region_Shift w a:=by kernel_rfl
theorem Jf2:Go.Dn.Good PG c_region_Shift:=good (gam [(32,c_runs_Shift),(29,c_region_Box),(24,c_region_Valid),(30,c_region_near),(31,c_region_ok)]) [] [] [] [] [] [] 8 (Jm Jjz (Jm Jke (Jm Yy (Jm Jht (Jm Jep Jz))))) Kg Ke (Jw (by kernel_rfl)) rfl rfl (Jga wv)
noncomputable def t_additivelaw24_RingwalkMoves_L1 [W] (s:(HP Int (HP Int (HP (List (Int×(Bool×(List (Int×Int))))) (HP (List (Int×(Bool×(List (Int×Int))))) (HP Int (HP Int Unit))))))):Option (Nx (HP Int (HP Int (HP (List (Int×(Bool×(List (Int×Int))))) (HP (List (Int×(Bool×(List (Int×Int))))) (HP Int (HP Int Unit)))))) (Unit ⊕ (HP Int (HP Int (HP (List (Int×(Bool×(List (Int×Int))))) (HP (List (Int×(Bool×(List (Int×Int))))) (HP Int Unit))))))) :=
 ge s.tl.tl.hd s.tl.tl.tl.tl.hd fun v9 =>
 br (cm .lss s.tl.tl.tl.tl.tl.hd (ln v9.2.2)) (ge s.tl.tl.tl.hd s.tl.tl.tl.tl.hd fun v10 =>
 ge v10.2.2 s.tl.tl.tl.tl.tl.hd fun v11 =>
 ge s.tl.tl.hd s.tl.tl.tl.tl.hd fun v12 =>
 ge v12.2.2 s.tl.tl.tl.tl.tl.hd fun v13 =>
 ge s.tl.tl.hd s.tl.tl.tl.tl.hd fun v14 =>
 ge v14.2.2 s.tl.tl.tl.tl.tl.hd fun v15 =>
 br (nt (an (cm .eql v11.1 (ar .add .i64 v13.1 s.hd)) (cm .eql v11.2 (ar .add .i64 v15.2 s.tl.hd)))) (some (.out (.inl ())))
 (some (.go ⟨s.hd,⟨s.tl.hd,⟨s.tl.tl.hd,⟨s.tl.tl.tl.hd,⟨s.tl.tl.tl.tl.hd,⟨(ar .add .i64 s.tl.tl.tl.tl.tl.hd 1),()⟩⟩⟩⟩⟩⟩)))
 (some (.out (.inr ⟨s.hd,⟨s.tl.hd,⟨s.tl.tl.hd,⟨s.tl.tl.tl.hd,⟨s.tl.tl.tl.tl.hd,()⟩⟩⟩⟩⟩)))
noncomputable def t_additivelaw24_RingwalkMoves_L0 [W] (s:(HP Int (HP Int (HP (List (Int×(Bool×(List (Int×Int))))) (HP (List (Int×(Bool×(List (Int×Int))))) (HP Int Unit)))))):Option (Nx (HP Int (HP Int (HP (List (Int×(Bool×(List (Int×Int))))) (HP (List (Int×(Bool×(List (Int×Int))))) (HP Int Unit))))) (Unit ⊕ Unit)) :=
 br (cm .lss s.tl.tl.tl.tl.hd (ln s.tl.tl.hd)) (ge s.tl.tl.hd s.tl.tl.tl.tl.hd fun v7 =>
 ge s.tl.tl.tl.hd s.tl.tl.tl.tl.hd fun v8 =>
 br (cm .neq (ln v7.2.2) (ln v8.2.2)) (some (.out (.inl ())))
 (loop t_additivelaw24_RingwalkMoves_L1 ⟨s.hd,⟨s.tl.hd,⟨s.tl.tl.hd,⟨s.tl.tl.tl.hd,⟨s.tl.tl.tl.tl.hd,⟨0,()⟩⟩⟩⟩⟩⟩ fun v16 =>
 match v16 with
 | .inl v17=>(some (.out (.inl ())))
 | .inr v18=>(some (.go ⟨v18.hd,⟨v18.tl.hd,⟨v18.tl.tl.hd,⟨v18.tl.tl.tl.hd,⟨(ar .add .i64 v18.tl.tl.tl.tl.hd 1),()⟩⟩⟩⟩⟩))))
 (some (.out (.inr ())))
noncomputable def t_additivelaw24_RingwalkMoves [W] (a:((List (Int×(List (Int×Int))))×(Int×Int))):Option Bool :=
 call c_additivelaw18_Small (a.1:(List (Int×(List (Int×Int))))) fun (v0:Bool) =>
 br (nt v0) (call c_additivelaw24_awake (():Unit) fun (v1:Bool) =>
 some v1)
 (call c_region_Shift ((a.1,(a.2.1,a.2.2)):((List (Int×(List (Int×Int))))×(Int×Int))) fun (v2:((List (Int×(List (Int×Int))))×Int)) =>
 br (cm .neq v2.2 0) (call c_additivelaw24_awake (():Unit) fun (v3:Bool) =>
 some v3)
 (br (cm .eql (ln v2.1) 0) (call c_additivelaw24_awake (():Unit) fun (v4:Bool) =>
 some v4)
 (call c_ringwalk_Walk (a.1:(List (Int×(List (Int×Int))))) fun (v5:(List (Int×(Bool×(List (Int×Int)))))) =>
 call c_ringwalk_Walk (v2.1:(List (Int×(List (Int×Int))))) fun (v6:(List (Int×(Bool×(List (Int×Int)))))) =>
 br (cm .neq (ln v5) (ln v6)) (some false)
 (loop t_additivelaw24_RingwalkMoves_L0 ⟨a.2.1,⟨a.2.2,⟨v5,⟨v6,⟨0,()⟩⟩⟩⟩⟩ fun v19 =>
 match v19 with
 | .inl v20=>(some false)
 | .inr v21=>(call c_additivelaw24_awake (():Unit) fun (v22:Bool) =>
 some v22)))))
noncomputable def c_additivelaw24_RingwalkMoves:Ctr:=⟨6,[(.ag,(.ls (.p I (.ls (.p I I))))),(.one,I),(.one,I)],[(false,.bool)],@t_additivelaw24_RingwalkMoves wv⟩
theorem Xr (w:W) (a):fnD (dW w) (cxO (gam [(7,c_additivelaw18_Small),(8,c_additivelaw24_awake),(15,c_region_Shift),(10,c_ringwalk_Walk)]) [] [] [] [] [] []) 8 6 [(.ag,(.ls (.p I (.ls (.p I I))))),(.one,I),(.one,I)] [(false,.bool)] a=@t_additivelaw24_RingwalkMoves w a:=by kernel_rfl
theorem Xs:Go.Dn.Good PG c_additivelaw24_RingwalkMoves:=good (gam [(7,c_additivelaw18_Small),(8,c_additivelaw24_awake),(15,c_region_Shift),(10,c_ringwalk_Walk)]) [] [] [] [] [] [] 8 (Jm js (Jm jr (Jm Jf2 (Jm jl Jz)))) Kg Ke (Jw (by kernel_rfl)) rfl rfl (Xr wv)
end Go.Proofs.Ytmfagdfkpjgeiaa

