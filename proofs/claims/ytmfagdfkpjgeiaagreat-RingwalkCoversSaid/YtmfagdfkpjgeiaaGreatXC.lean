/- Cells are sorted by the library's sort. Conditions: none. -/
import Derived.Test.YtmfagdfkpjgeiaaGreatXB
import Derived.Test.YtmfagdfkpjgeiaaGreatFB
import Derived.Test.YtmfagdfkpjgeiaaGreatTT
set_option linter.unusedVariables false
set_option linter.unusedSimpArgs false
set_option maxRecDepth 100000
namespace Go.Proofs.YtmfagdfkpjgeiaaGreat
open Go Go.Vv Go.Dn
theorem swoC:Go.Sort.SWO (Go.Proofs.ltOf cmpC):=by
 refine ⟨fun x=>?_,fun x y z h1 h2=>?_,fun x y z h1 h2=>?_⟩
 ·simp only [Go.Proofs.ltOf,decide_eq_false_iff_not,Jka];omega
 ·simp only [Go.Proofs.ltOf,decide_eq_true_eq,Jka] at *;omega
 ·simp only [Go.Proofs.ltOf,decide_eq_false_iff_not,Jka] at *;omega
theorem totC (x y:Int×Int) (h1:Go.Proofs.ltOf cmpC x y=false) (h2:Go.Proofs.ltOf cmpC y x=false):x=y:=by
 simp only [Go.Proofs.ltOf,decide_eq_false_iff_not,Jka] at *
 obtain ⟨a,b⟩:=x
 obtain ⟨c,d⟩:=y
 simp only [Prod.mk.injEq] at *
 omega
noncomputable def Jpd:SCt:=⟨97,127,true,.p I I,fun l=>if List.length (α:=Int×Int) l<4611686018427387904 then some (Jaf (α:=Int×Int) (fun x y=>!(Go.Proofs.ltOf cmpC) y x) l) else none⟩
noncomputable def Jj5:Ctr:=Jpd.ctr
instance:Inhabited (Ty.p I I).T:=⟨((0:Int),(0:Int))⟩
theorem J0p:Jcr PG Jpd :=
 J1w (P:=PG) (ρ:=Tryz.sortL97_ren) (t:=.p I I) Tryz.sortL97 rfl (by decide) (fun w=>by kernel_rfl) (fun w=>by kernel_rfl) (g:=127) (fn:=@Jam wv) Jow cmpC of1_ok swoC totC (by decide) (Jv (by kernel_rfl))
end Go.Proofs.YtmfagdfkpjgeiaaGreat
namespace Go.Proofs.YtmfagdfkpjgeiaaGreat
open Go Go.Vv Go.Dn Go.Dn.W
noncomputable def Zb [W] (s:(HP (List (Int×Int)) (HP (List (Int×Int)) (HP Int (HP Int Unit))))):Option (Nx (HP (List (Int×Int)) (HP (List (Int×Int)) (HP Int (HP Int Unit)))) ((HP Int Unit) ⊕ (HP (List (Int×Int)) Unit))) :=
  br (cm .lss s.tl.tl.tl.hd s.tl.tl.hd) (ge s.tl.hd s.tl.tl.tl.hd fun v0 =>
  call Kq (v0.1:Int) fun (v1:Bool) =>
  br (nt v1) (some (.out (.inl ⟨8,()⟩)))
  (call Kq (v0.2:Int) fun (v2:Bool) =>
  br (nt v2) (some (.out (.inl ⟨8,()⟩)))
  (some (.go ⟨s.hd,⟨s.tl.hd,⟨s.tl.tl.hd,⟨(ar .add .i64 s.tl.tl.tl.hd 1),()⟩⟩⟩⟩))))
  (some (.out (.inr ⟨s.hd,()⟩)))
noncomputable def zk [W] (s:(HP Int (HP Int Unit))):Option (Nx (HP Int (HP Int Unit)) Unit) :=
  br (cm .lss s.tl.hd s.hd) (none)
  (some (.out ()))
noncomputable def Yh [W] (s:(HP Int (HP Int (HP (List (Int×Int)) (HP (List (Int×(List (Int×Int)))) (HP (List (Int×Int)) Unit)))))):Option (Nx (HP Int (HP Int (HP (List (Int×Int)) (HP (List (Int×(List (Int×Int)))) (HP (List (Int×Int)) Unit))))) (HP (List (Int×(List (Int×Int)))) (HP (List (Int×Int)) Unit))) :=
  br (cm .lss s.tl.hd s.hd) (gd (ib s.tl.hd (ln s.tl.tl.hd)) <|
  ge s.tl.tl.hd s.tl.hd fun v9 =>
  br (cm .eql (ln s.tl.tl.tl.hd) 0) (gd (ft 32 (pl (ln s.tl.tl.tl.hd) 1)) <|
  some (.go ⟨s.hd,⟨(ar .add .i64 s.tl.hd 1),⟨s.tl.tl.hd,⟨(ap (ml s.tl.tl.tl.hd fun y=>(y.1,s.tl.tl.tl.tl.hd)) ((v9.2,[])::[])),⟨((v9.1,(ar .add .i64 v9.1 1))::[]),()⟩⟩⟩⟩⟩))
  (gd (ib (ar .sub .i64 (ln s.tl.tl.tl.hd) 1) (ln s.tl.tl.tl.hd)) <|
  ge s.tl.tl.tl.hd (ar .sub .i64 (ln s.tl.tl.tl.hd) 1) fun v10 =>
  br (cm .neq v10.1 v9.2) (gd (ft 32 (pl (ln s.tl.tl.tl.hd) 1)) <|
  some (.go ⟨s.hd,⟨(ar .add .i64 s.tl.hd 1),⟨s.tl.tl.hd,⟨(ap (ml s.tl.tl.tl.hd fun y=>(y.1,s.tl.tl.tl.tl.hd)) ((v9.2,[])::[])),⟨((v9.1,(ar .add .i64 v9.1 1))::[]),()⟩⟩⟩⟩⟩))
  (gd (ib (ar .sub .i64 (ln s.tl.tl.tl.hd) 1) (ln s.tl.tl.tl.hd)) <|
  ge s.tl.tl.tl.hd (ar .sub .i64 (ln s.tl.tl.tl.hd) 1) fun v11 =>
  gd (cm .eql (pl (ar .sub .i64 (ln s.tl.tl.tl.hd) 1) 1) (ln s.tl.tl.tl.hd)) <|
  ge s.tl.tl.tl.hd (ar .sub .i64 (ln s.tl.tl.tl.hd) 1) fun v12 =>
  gd (cm .eql (pl (ar .sub .i64 (ln s.tl.tl.tl.hd) 1) 1) (ln s.tl.tl.tl.hd)) <|
  gd (ib (ar .sub .i64 (ln s.tl.tl.tl.tl.hd) 1) (ln s.tl.tl.tl.tl.hd)) <|
  ge s.tl.tl.tl.tl.hd (ar .sub .i64 (ln s.tl.tl.tl.tl.hd) 1) fun v13 =>
  br (cm .gtr v9.1 v13.2) (ge s.tl.tl.tl.hd (ar .sub .i64 (ln s.tl.tl.tl.hd) 1) fun v14 =>
  gd (cm .eql (pl (ar .sub .i64 (ln s.tl.tl.tl.hd) 1) 1) (ln s.tl.tl.tl.hd)) <|
  gd (ft 16 (pl (ln s.tl.tl.tl.tl.hd) 1)) <|
  ge s.tl.tl.tl.hd (ar .sub .i64 (ln s.tl.tl.tl.hd) 1) fun v15 =>
  gd (cm .eql (pl (ar .sub .i64 (ln s.tl.tl.tl.hd) 1) 1) (ln s.tl.tl.tl.hd)) <|
  some (.go ⟨s.hd,⟨(ar .add .i64 s.tl.hd 1),⟨s.tl.tl.hd,⟨(st s.tl.tl.tl.hd (ar .sub .i64 (ln s.tl.tl.tl.hd) 1) (v15.1,v15.2)),⟨(ap s.tl.tl.tl.tl.hd ((v9.1,(ar .add .i64 v9.1 1))::[])),()⟩⟩⟩⟩⟩))
  (ge s.tl.tl.tl.tl.hd (ar .sub .i64 (ln s.tl.tl.tl.tl.hd) 1) fun v16 =>
  ge s.tl.tl.tl.tl.hd (ar .sub .i64 (ln s.tl.tl.tl.tl.hd) 1) fun v17 =>
  some (.go ⟨s.hd,⟨(ar .add .i64 s.tl.hd 1),⟨s.tl.tl.hd,⟨s.tl.tl.tl.hd,⟨(st s.tl.tl.tl.tl.hd (ar .sub .i64 (ln s.tl.tl.tl.tl.hd) 1) (v17.1,(mx v16.2 (ar .add .i64 v9.1 1)))),()⟩⟩⟩⟩⟩)))))
  (some (.out ⟨s.tl.tl.tl.hd,⟨s.tl.tl.tl.tl.hd,()⟩⟩))
noncomputable def Ja2 [W] (a:(List (Int×Int))):Option ((List (Int×(List (Int×Int))))×Int) :=
  loop Zb ⟨a,⟨a,⟨(ln a),⟨0,()⟩⟩⟩⟩ fun v3 =>
  match v3 with
  | .inl v4=>(some ([],v4.hd))
  | .inr v5=>(nq (ln v5.hd) fun v6 =>
  br v6 (loop zk ⟨0,⟨0,()⟩⟩ fun v7 =>
  some ([],0))
  (gd (ft 16 (pl 0 (ln v5.hd))) <|
  call Jj5 (v5.hd:(List (Int×Int))) fun (v8:(List (Int×Int))) =>
  loop Yh ⟨(ln v8),⟨0,⟨v8,⟨[],⟨[],()⟩⟩⟩⟩⟩ fun v18 =>
  some ((ml v18.hd fun y=>(y.1,v18.tl.hd)),0)))
noncomputable def ze:Ctr:=⟨64,[(.one,(.ls (.p I I)))],[(true,(.ls (.p I (.ls (.p I I))))),(false,I)],@Ja2 wv⟩
theorem Jty (w:W) (a):fnD (dW w) (cxO (gam [(67,Kq)]) [11,12,13,14,15,16,17,18,19,20,21] [] [Jpd] [] [] []) 8 64 [(.one,(.ls (.p I I)))] [(true,(.ls (.p I (.ls (.p I I))))),(false,I)] a=@Ja2 w a:=by kernel_rfl
theorem Jsy:Go.Dn.Good PG ze:=good (gam [(67,Kq)]) [11,12,13,14,15,16,17,18,19,20,21] [] [Jpd] [] [] [] 8 (Jk Ji7 Jx) (Jt4 J0p Kj) Kl (Jv (by kernel_rfl)) rfl rfl (Jty wv)
noncomputable def zn [W] (a:(Int×Int)):Option Bool :=
  br (cm .geq a.1 (-4096)) (br (cm .lss a.1 4096) (br (cm .geq a.2 (-4096)) (some (cm .lss a.2 4096))
  (some false))
  (some false))
  (some false)
noncomputable def Yg:Ctr:=⟨88,[(.ag,(.p I I))],[(false,.bool)],@zn wv⟩
theorem Jlm (w:W) (a):fnD (dW w) (cxO (gam []) [] [] [] [] [] []) 8 88 [(.ag,(.p I I))] [(false,.bool)] a=@zn w a:=by kernel_rfl
theorem Jlk:Go.Dn.Good PG Yg:=good (gam []) [] [] [] [] [] [] 8 Jx Kj Kl (Jv (by kernel_rfl)) rfl rfl (Jlm wv)
noncomputable def Y5 [W] (a:((Int×Int)×(Int×Int))):Option Bool :=
  some (cm .eql (ar .add .i64 (ar .mul .i64 (ar .sub .i64 a.1.1 a.2.1) (ar .sub .i64 a.1.1 a.2.1)) (ar .mul .i64 (ar .sub .i64 a.1.2 a.2.2) (ar .sub .i64 a.1.2 a.2.2))) 1)
noncomputable def Qb:Ctr:=⟨89,[(.ag,(.p I I)),(.ag,(.p I I))],[(false,.bool)],@Y5 wv⟩
theorem Jho (w:W) (a):fnD (dW w) (cxO (gam []) [] [] [] [] [] []) 8 89 [(.ag,(.p I I)),(.ag,(.p I I))] [(false,.bool)] a=@Y5 w a:=by kernel_rfl
theorem Jg8:Go.Dn.Good PG Qb:=good (gam []) [] [] [] [] [] [] 8 Jx Kj Kl (Jv (by kernel_rfl)) rfl rfl (Jho wv)
noncomputable def X8 [W] (s:(HP Int (HP (List (Int×Int)) (HP Int (HP Int (HP Int (HP Bool (HP (List (Int×Int)) Unit)))))))):Option (Nx (HP Int (HP (List (Int×Int)) (HP Int (HP Int (HP Int (HP Bool (HP (List (Int×Int)) Unit))))))) (Unit ⊕ (HP Int (HP Int (HP Bool (HP (List (Int×Int)) Unit)))))) :=
  br (cm .lss s.tl.tl.tl.hd s.tl.tl.hd) (ge s.tl.hd s.tl.tl.tl.hd fun v0 =>
  call Yg ((v0.1,v0.2):(Int×Int)) fun (v1:Bool) =>
  br (nt v1) (some (.out (.inl ())))
  (br (cm .gtr s.tl.tl.tl.hd 0) (ge s.tl.tl.tl.tl.tl.tl.hd (ar .sub .i64 s.tl.tl.tl.hd 1) fun v2 =>
  call Qb (((v2.1,v2.2),(v0.1,v0.2)):((Int×Int)×(Int×Int))) fun (v3:Bool) =>
  br (nt v3) (some (.out (.inl ())))
  (some (.go ⟨s.hd,⟨s.tl.hd,⟨s.tl.tl.hd,⟨(ar .add .i64 s.tl.tl.tl.hd 1),⟨s.tl.tl.tl.tl.hd,⟨s.tl.tl.tl.tl.tl.hd,⟨s.tl.tl.tl.tl.tl.tl.hd,()⟩⟩⟩⟩⟩⟩⟩)))
  (some (.go ⟨s.hd,⟨s.tl.hd,⟨s.tl.tl.hd,⟨(ar .add .i64 s.tl.tl.tl.hd 1),⟨s.tl.tl.tl.tl.hd,⟨s.tl.tl.tl.tl.tl.hd,⟨s.tl.tl.tl.tl.tl.tl.hd,()⟩⟩⟩⟩⟩⟩⟩))))
  (some (.out (.inr ⟨s.hd,⟨s.tl.tl.tl.tl.hd,⟨s.tl.tl.tl.tl.tl.hd,⟨s.tl.tl.tl.tl.tl.tl.hd,()⟩⟩⟩⟩)))
noncomputable def Jat [W] (a:(Int×(Bool×(List (Int×Int))))):Option Bool :=
  br (cm .lss a.1 1) (some false)
  (br (cm .gtr a.1 7) (some false)
  (br (cm .lss (ln a.2.2) 1) (some false)
  (br (cm .gtr (ln a.2.2) 65536) (some false)
  (loop X8 ⟨(ln a.2.2),⟨a.2.2,⟨(ln a.2.2),⟨0,⟨a.1,⟨a.2.1,⟨a.2.2,()⟩⟩⟩⟩⟩⟩⟩ fun v4 =>
  match v4 with
  | .inl v5=>(some false)
  | .inr v6=>(br (nt v6.tl.tl.hd) (some true)
  (br (cm .eql v6.hd 1) (some true)
  (ge v6.tl.tl.tl.hd (ar .sub .i64 v6.hd 1) fun v7 =>
  ge v6.tl.tl.tl.hd 0 fun v8 =>
  call Qb (((v7.1,v7.2),(v8.1,v8.2)):((Int×Int)×(Int×Int))) fun (v9:Bool) =>
  some v9)))))))
noncomputable def Y3:Ctr:=⟨35,[(.ag,(.p I (.p .bool (.ls (.p I I)))))],[(false,.bool)],@Jat wv⟩
theorem Jpi (w:W) (a):fnD (dW w) (cxO (gam [(88,Yg),(89,Qb)]) [] [] [] [] [] []) 8 35 [(.ag,(.p I (.p .bool (.ls (.p I I)))))] [(false,.bool)] a=@Jat w a:=by kernel_rfl
theorem Joz:Go.Dn.Good PG Y3:=good (gam [(88,Yg),(89,Qb)]) [] [] [] [] [] [] 8 (Jk Jlk (Jk Jg8 Jx)) Kj Kl (Jv (by kernel_rfl)) rfl rfl (Jpi wv)
noncomputable def Zk [W] (s:(HP (List (Int×(Bool×(List (Int×Int))))) (HP Int (HP Int (HP (List (Int×Int)) Unit))))):Option (Nx (HP (List (Int×(Bool×(List (Int×Int))))) (HP Int (HP Int (HP (List (Int×Int)) Unit)))) (HP (List (Int×Int)) Unit)) :=
  br (cm .lss s.tl.tl.hd s.tl.hd) (ge s.hd s.tl.tl.hd fun v0 =>
  call Y3 ((v0.1,(v0.2.1,v0.2.2)):(Int×(Bool×(List (Int×Int))))) fun (v1:Bool) =>
  br v1 (gd (ft 16 (pl (ln s.tl.tl.tl.hd) (ln v0.2.2))) <|
  some (.go ⟨s.hd,⟨s.tl.hd,⟨(ar .add .i64 s.tl.tl.hd 1),⟨(ap s.tl.tl.tl.hd v0.2.2),()⟩⟩⟩⟩))
  (some (.go ⟨s.hd,⟨s.tl.hd,⟨(ar .add .i64 s.tl.tl.hd 1),⟨s.tl.tl.tl.hd,()⟩⟩⟩⟩)))
  (some (.out ⟨s.tl.tl.tl.hd,()⟩))
noncomputable def jo [W] (a:(List (Int×(Bool×(List (Int×Int)))))):Option (List (Int×(List (Int×Int)))) :=
  loop Zk ⟨a,⟨(ln a),⟨0,⟨[],()⟩⟩⟩⟩ fun v2 =>
  call ze (v2.hd:(List (Int×Int))) fun (v3:((List (Int×(List (Int×Int))))×Int)) =>
  some v3.1
noncomputable def Zx:Ctr:=⟨20,[(.one,(.ls (.p I (.p .bool (.ls (.p I I))))))],[(true,(.ls (.p I (.ls (.p I I)))))],@jo wv⟩
theorem Jom (w:W) (a):fnD (dW w) (cxO (gam [(35,Y3),(64,ze)]) [] [] [] [] [] []) 8 20 [(.one,(.ls (.p I (.p .bool (.ls (.p I I))))))] [(true,(.ls (.p I (.ls (.p I I)))))] a=@jo w a:=by kernel_rfl
theorem Jpt:Go.Dn.Good PG Zx:=good (gam [(35,Y3),(64,ze)]) [] [] [] [] [] [] 8 (Jk Joz (Jk Jsy Jx)) Kj Kl (Jv (by kernel_rfl)) rfl rfl (Jom wv)
end Go.Proofs.YtmfagdfkpjgeiaaGreat
namespace Go.Proofs.YtmfagdfkpjgeiaaGreat
open Go Go.Vv Go.Dn
noncomputable def Jw1:SCt:=⟨148,0,false,I,Jpw⟩
noncomputable def Juy:Ctr:=Jw1.ctr
theorem g_s148_0:Jcr PG Jw1:=Jxz (P:=PG) (ρ:=Tryz.sortI148_ren) Tryz.sortI148 (by decide) (Jv (by kernel_rfl))
noncomputable def Jm2:Ctr:=Go.Dn.cmpC 149
def Jdg:Bi:=compB 149 3
theorem Jo9:Je1 PG 149 Jdg :=
 J03 (P:=PG) (ρ:=Tryz.comp149_ren) Tryz.comp149 (Go.Proofs.EqlAt.intD _ _ .i64) (Go.Proofs.NeqAt.intD _ _ .i64) (fun w=>by kernel_rfl) (by kernel_rfl) (Jv (by kernel_rfl))
end Go.Proofs.YtmfagdfkpjgeiaaGreat
namespace Go.Proofs.YtmfagdfkpjgeiaaGreat
open Go Go.Vv Go.Dn Go.Dn.W
noncomputable def Jao [W] (a:((List (Int×(List (Int×Int))))×Int)):Option Bool :=
 br (cm .geq a.2 0) (br (cm .leq a.2 64) (call J2 (a.1:(List (Int×(List (Int×Int))))) fun (v0:Bool) =>
 some v0)
 (some false))
 (some false)
noncomputable def jp:Ctr:=⟨81,[(.ag,(.ls (.p I (.ls (.p I I))))),(.one,I)],[(false,.bool)],@Jao wv⟩
theorem Jpj (w:W) (a):fnD (dW w) (cxO (gam [(23,J2)]) [] [] [] [] [] []) 8 81 [(.ag,(.ls (.p I (.ls (.p I I))))),(.one,I)] [(false,.bool)] a=@Jao w a:=by kernel_rfl
theorem Jo6:Go.Dn.Good PG jp:=good (gam [(23,J2)]) [] [] [] [] [] [] 8 (Jk zo Jx) Kj Kl (Jv (by kernel_rfl)) rfl rfl (Jpj wv)
noncomputable def Q2 [W] (s:(HP Bool (HP (List (Int×Int)) (HP Int (HP (List (Int×Int)) (HP Int (HP (List (Int×Int)) Unit))))))):Option ((HP Bool (HP (List (Int×Int)) (HP Int (HP (List (Int×Int)) (HP Int (HP (List (Int×Int)) Unit)))))) ⊕ (HP (List (Int×Int)) Unit)) :=
 call Js ((s.tl.hd,s.tl.tl.hd):((List (Int×Int))×Int)) fun (v2:Bool) =>
 br (nt v2) (some ((.inl ⟨s.hd,⟨s.tl.hd,⟨s.tl.tl.hd,⟨s.tl.tl.tl.hd,⟨s.tl.tl.tl.tl.hd,⟨s.tl.tl.tl.tl.tl.hd,()⟩⟩⟩⟩⟩⟩)))
 (call Js ((s.tl.tl.tl.hd,s.tl.tl.tl.tl.hd):((List (Int×Int))×Int)) fun (v3:Bool) =>
 br (nt v3) (some ((.inl ⟨s.hd,⟨s.tl.hd,⟨s.tl.tl.hd,⟨s.tl.tl.tl.hd,⟨s.tl.tl.tl.tl.hd,⟨s.tl.tl.tl.tl.tl.hd,()⟩⟩⟩⟩⟩⟩)))
 (some ((.inr ⟨s.tl.tl.tl.tl.tl.hd,()⟩))))
noncomputable def Zq [W] (v5:(HP Bool (HP (List (Int×Int)) (HP Int (HP (List (Int×Int)) (HP Int (HP (List (Int×Int)) Unit))))))) (v6:Int) (v7:Int):Option (HP Bool (HP Int (HP (List (Int×Int)) (HP Int (HP (List (Int×Int)) (HP Int (HP (List (Int×Int)) Unit))))))) :=
 call Jq ((v5.tl.hd,v5.tl.tl.hd):((List (Int×Int))×Int)) fun (v8:Int) =>
 br (cm .eql v8 (mn v6 v7)) (some (⟨v5.hd,⟨(mn v6 v7),⟨v5.tl.hd,⟨(ar .add .i64 v5.tl.tl.hd 1),⟨v5.tl.tl.tl.hd,⟨v5.tl.tl.tl.tl.hd,⟨v5.tl.tl.tl.tl.tl.hd,()⟩⟩⟩⟩⟩⟩⟩))
 (some (⟨v5.hd,⟨(mn v6 v7),⟨v5.tl.hd,⟨v5.tl.tl.hd,⟨v5.tl.tl.tl.hd,⟨v5.tl.tl.tl.tl.hd,⟨v5.tl.tl.tl.tl.tl.hd,()⟩⟩⟩⟩⟩⟩⟩))
noncomputable def Zn [W] (v9:(HP Bool (HP Int (HP (List (Int×Int)) (HP Int (HP (List (Int×Int)) (HP Int (HP (List (Int×Int)) Unit)))))))):Option (HP Bool (HP Int (HP (List (Int×Int)) (HP Int (HP (List (Int×Int)) (HP Int (HP (List (Int×Int)) Unit))))))) :=
 call Jq ((v9.tl.tl.tl.tl.hd,v9.tl.tl.tl.tl.tl.hd):((List (Int×Int))×Int)) fun (v10:Int) =>
 br (cm .eql v10 v9.tl.hd) (some (⟨v9.hd,⟨v9.tl.hd,⟨v9.tl.tl.hd,⟨v9.tl.tl.tl.hd,⟨v9.tl.tl.tl.tl.hd,⟨(ar .add .i64 v9.tl.tl.tl.tl.tl.hd 1),⟨v9.tl.tl.tl.tl.tl.tl.hd,()⟩⟩⟩⟩⟩⟩⟩))
 (some (⟨v9.hd,⟨v9.tl.hd,⟨v9.tl.tl.hd,⟨v9.tl.tl.tl.hd,⟨v9.tl.tl.tl.tl.hd,⟨v9.tl.tl.tl.tl.tl.hd,⟨v9.tl.tl.tl.tl.tl.tl.hd,()⟩⟩⟩⟩⟩⟩⟩))
noncomputable def Zp [W] (v11:(HP Bool (HP Int (HP (List (Int×Int)) (HP Int (HP (List (Int×Int)) (HP Int (HP (List (Int×Int)) Unit)))))))):Option (HP Bool (HP Int (HP Bool (HP (List (Int×Int)) (HP Int (HP (List (Int×Int)) (HP Int (HP (List (Int×Int)) Unit)))))))) :=
 call Jm ((v11.tl.tl.hd,v11.tl.tl.tl.hd):((List (Int×Int))×Int)) fun (v12:Bool) =>
 call Jm ((v11.tl.tl.tl.tl.hd,v11.tl.tl.tl.tl.tl.hd):((List (Int×Int))×Int)) fun (v13:Bool) =>
 br v12 (some (⟨v11.hd,⟨v11.tl.hd,⟨v13,⟨v11.tl.tl.hd,⟨v11.tl.tl.tl.hd,⟨v11.tl.tl.tl.tl.hd,⟨v11.tl.tl.tl.tl.tl.hd,⟨v11.tl.tl.tl.tl.tl.tl.hd,()⟩⟩⟩⟩⟩⟩⟩⟩))
 (some (⟨v11.hd,⟨v11.tl.hd,⟨false,⟨v11.tl.tl.hd,⟨v11.tl.tl.tl.hd,⟨v11.tl.tl.tl.tl.hd,⟨v11.tl.tl.tl.tl.tl.hd,⟨v11.tl.tl.tl.tl.tl.tl.hd,()⟩⟩⟩⟩⟩⟩⟩⟩))
noncomputable def Zo [W] (v14:(HP Bool (HP Int (HP Bool (HP (List (Int×Int)) (HP Int (HP (List (Int×Int)) (HP Int (HP (List (Int×Int)) Unit))))))))):Option (HP Bool (HP (List (Int×Int)) (HP Int (HP (List (Int×Int)) (HP Int (HP (List (Int×Int)) Unit)))))) :=
 br v14.tl.tl.hd (br (nt v14.hd) (gd (ft 16 (pl (ln v14.tl.tl.tl.tl.tl.tl.tl.hd) 1)) <|
 some (⟨v14.tl.tl.hd,⟨v14.tl.tl.tl.hd,⟨v14.tl.tl.tl.tl.hd,⟨v14.tl.tl.tl.tl.tl.hd,⟨v14.tl.tl.tl.tl.tl.tl.hd,⟨(ap v14.tl.tl.tl.tl.tl.tl.tl.hd ((v14.tl.hd,0)::[])),()⟩⟩⟩⟩⟩⟩))
 (br (nt v14.tl.tl.hd) (br v14.hd (gd (ib (ar .sub .i64 (ln v14.tl.tl.tl.tl.tl.tl.tl.hd) 1) (ln v14.tl.tl.tl.tl.tl.tl.tl.hd)) <|
 ge v14.tl.tl.tl.tl.tl.tl.tl.hd (ar .sub .i64 (ln v14.tl.tl.tl.tl.tl.tl.tl.hd) 1) fun v15 =>
 some (⟨v14.tl.tl.hd,⟨v14.tl.tl.tl.hd,⟨v14.tl.tl.tl.tl.hd,⟨v14.tl.tl.tl.tl.tl.hd,⟨v14.tl.tl.tl.tl.tl.tl.hd,⟨(st v14.tl.tl.tl.tl.tl.tl.tl.hd (ar .sub .i64 (ln v14.tl.tl.tl.tl.tl.tl.tl.hd) 1) (v15.1,v14.tl.hd)),()⟩⟩⟩⟩⟩⟩))
 (some (⟨v14.tl.tl.hd,⟨v14.tl.tl.tl.hd,⟨v14.tl.tl.tl.tl.hd,⟨v14.tl.tl.tl.tl.tl.hd,⟨v14.tl.tl.tl.tl.tl.tl.hd,⟨v14.tl.tl.tl.tl.tl.tl.tl.hd,()⟩⟩⟩⟩⟩⟩)))
 (some (⟨v14.tl.tl.hd,⟨v14.tl.tl.tl.hd,⟨v14.tl.tl.tl.tl.hd,⟨v14.tl.tl.tl.tl.tl.hd,⟨v14.tl.tl.tl.tl.tl.tl.hd,⟨v14.tl.tl.tl.tl.tl.tl.tl.hd,()⟩⟩⟩⟩⟩⟩))))
 (br (nt v14.tl.tl.hd) (br v14.hd (gd (ib (ar .sub .i64 (ln v14.tl.tl.tl.tl.tl.tl.tl.hd) 1) (ln v14.tl.tl.tl.tl.tl.tl.tl.hd)) <|
 ge v14.tl.tl.tl.tl.tl.tl.tl.hd (ar .sub .i64 (ln v14.tl.tl.tl.tl.tl.tl.tl.hd) 1) fun v16 =>
 some (⟨v14.tl.tl.hd,⟨v14.tl.tl.tl.hd,⟨v14.tl.tl.tl.tl.hd,⟨v14.tl.tl.tl.tl.tl.hd,⟨v14.tl.tl.tl.tl.tl.tl.hd,⟨(st v14.tl.tl.tl.tl.tl.tl.tl.hd (ar .sub .i64 (ln v14.tl.tl.tl.tl.tl.tl.tl.hd) 1) (v16.1,v14.tl.hd)),()⟩⟩⟩⟩⟩⟩))
 (some (⟨v14.tl.tl.hd,⟨v14.tl.tl.tl.hd,⟨v14.tl.tl.tl.tl.hd,⟨v14.tl.tl.tl.tl.tl.hd,⟨v14.tl.tl.tl.tl.tl.tl.hd,⟨v14.tl.tl.tl.tl.tl.tl.tl.hd,()⟩⟩⟩⟩⟩⟩)))
 (some (⟨v14.tl.tl.hd,⟨v14.tl.tl.tl.hd,⟨v14.tl.tl.tl.tl.hd,⟨v14.tl.tl.tl.tl.tl.hd,⟨v14.tl.tl.tl.tl.tl.tl.hd,⟨v14.tl.tl.tl.tl.tl.tl.tl.hd,()⟩⟩⟩⟩⟩⟩)))
noncomputable def K9 [W] (s:(HP Bool (HP (List (Int×Int)) (HP Int (HP (List (Int×Int)) (HP Int (HP (List (Int×Int)) Unit))))))):Option (Nx (HP Bool (HP (List (Int×Int)) (HP Int (HP (List (Int×Int)) (HP Int (HP (List (Int×Int)) Unit)))))) (HP (List (Int×Int)) Unit)) :=
 join (Q2 s) fun v4 =>
 match v4 with
 | .inl v5=>(call Jq ((v5.tl.hd,v5.tl.tl.hd):((List (Int×Int))×Int)) fun (v6:Int) =>
 call Jq ((v5.tl.tl.tl.hd,v5.tl.tl.tl.tl.hd):((List (Int×Int))×Int)) fun (v7:Int) =>
 join (Zq v5 v6 v7) fun v9 =>
 join (Zn v9) fun v11 =>
 join (Zp v11) fun v14 =>
 join (Zo v14) fun v17 =>
 some (.go ⟨v17.hd,⟨v17.tl.hd,⟨v17.tl.tl.hd,⟨v17.tl.tl.tl.hd,⟨v17.tl.tl.tl.tl.hd,⟨v17.tl.tl.tl.tl.tl.hd,()⟩⟩⟩⟩⟩⟩))
 | .inr v18=>(some (.out ⟨v18.hd,()⟩))
noncomputable def Ye [W] (a:((List (Int×Int))×(List (Int×Int)))):Option (List (Int×Int)) :=
 call J7 (a.1:(List (Int×Int))) fun (v0:Bool) =>
 br (nt v0) (some [])
 (call J7 (a.2:(List (Int×Int))) fun (v1:Bool) =>
 br (nt v1) (some [])
 (loop K9 ⟨false,⟨a.1,⟨0,⟨a.2,⟨0,⟨[],()⟩⟩⟩⟩⟩⟩ fun v19 =>
 some v19.hd))
noncomputable def Yb:Ctr:=⟨82,[(.one,(.ls (.p I I))),(.one,(.ls (.p I I)))],[(false,(.ls (.p I I)))],@Ye wv⟩
theorem Jii (w:W) (a):fnD (dW w) (cxO (gam [(188,Js),(189,Jq),(191,Jm),(68,J7)]) [] [] [] [32768007,32768009,32768010,32768011,32768015] [] []) 8 82 [(.one,(.ls (.p I I))),(.one,(.ls (.p I I)))] [(false,(.ls (.p I I)))] a=@Ye w a:=by kernel_rfl
theorem Jig:Go.Dn.Good PG Yb:=good (gam [(188,Js),(189,Jq),(191,Jm),(68,J7)]) [] [] [] [32768007,32768009,32768010,32768011,32768015] [] [] 8 (Jk jt (Jk Jbt (Jk Za (Jk Jbp Jx)))) Kj Kl (Jv (by kernel_rfl)) rfl rfl (Jii wv)
noncomputable def Zg [W] (s:(HP Int (HP (List (Int×Int)) (HP Int (HP Int (HP (List (Int×Int)) Unit)))))):Option (Nx (HP Int (HP (List (Int×Int)) (HP Int (HP Int (HP (List (Int×Int)) Unit))))) (HP (List (Int×Int)) Unit)) :=
 br (cm .lss s.tl.tl.tl.hd s.tl.tl.hd) (ge s.tl.hd s.tl.tl.tl.hd fun v1 =>
 br (cm .lss (ar .add .i64 v1.1 s.hd) (ar .sub .i64 v1.2 s.hd)) (gd (ft 16 (pl (ln s.tl.tl.tl.tl.hd) 1)) <|
 some (.go ⟨s.hd,⟨s.tl.hd,⟨s.tl.tl.hd,⟨(ar .add .i64 s.tl.tl.tl.hd 1),⟨(ap s.tl.tl.tl.tl.hd (((ar .add .i64 v1.1 s.hd),(ar .sub .i64 v1.2 s.hd))::[])),()⟩⟩⟩⟩⟩))
 (some (.go ⟨s.hd,⟨s.tl.hd,⟨s.tl.tl.hd,⟨(ar .add .i64 s.tl.tl.tl.hd 1),⟨s.tl.tl.tl.tl.hd,()⟩⟩⟩⟩⟩)))
 (some (.out ⟨s.tl.tl.tl.tl.hd,()⟩))
noncomputable def Jap [W] (a:((List (Int×Int))×Int)):Option (List (Int×Int)) :=
 call J7 (a.1:(List (Int×Int))) fun (v0:Bool) =>
 br (nt v0) (some [])
 (br (cm .lss a.2 0) (some [])
 (br (cm .gtr a.2 1048576) (some [])
 (loop Zg ⟨a.2,⟨a.1,⟨(ln a.1),⟨0,⟨[],()⟩⟩⟩⟩⟩ fun v2 =>
 some v2.hd)))
noncomputable def ja:Ctr:=⟨83,[(.one,(.ls (.p I I))),(.one,I)],[(false,(.ls (.p I I)))],@Jap wv⟩
theorem Jo4 (w:W) (a):fnD (dW w) (cxO (gam [(68,J7)]) [] [] [] [] [] []) 8 83 [(.one,(.ls (.p I I))),(.one,I)] [(false,(.ls (.p I I)))] a=@Jap w a:=by kernel_rfl
theorem Jon:Go.Dn.Good PG ja:=good (gam [(68,J7)]) [] [] [] [] [] [] 8 (Jk Jbp Jx) Kj Kl (Jv (by kernel_rfl)) rfl rfl (Jo4 wv)
noncomputable def Yd [W] (a:((List (Int×(List (Int×Int))))×Int)) (s:(HP Int (HP (List (Int×(List (Int×Int)))) (HP Int (HP Int (HP (List (Int×(List (Int×Int)))) (HP (List (Int×(List (Int×Int)))) Unit))))))):Option (Nx (HP Int (HP (List (Int×(List (Int×Int)))) (HP Int (HP Int (HP (List (Int×(List (Int×Int)))) (HP (List (Int×(List (Int×Int)))) Unit)))))) (HP Int (HP (List (Int×(List (Int×Int)))) (HP (List (Int×(List (Int×Int)))) Unit)))) :=
 br (cm .lss s.tl.tl.tl.hd s.tl.tl.hd) (ge s.tl.hd s.tl.tl.tl.hd fun v1 =>
 call ja ((v1.2,s.hd):((List (Int×Int))×Int)) fun (v2:(List (Int×Int))) =>
 some (.go ⟨s.hd,⟨s.tl.hd,⟨s.tl.tl.hd,⟨(ar .add .i64 s.tl.tl.tl.hd 1),⟨s.tl.tl.tl.tl.hd,⟨(ms (a:=I) (b:=(.ls (.p I I))) s.tl.tl.tl.tl.tl.hd v1.1 v2),()⟩⟩⟩⟩⟩⟩))
 (some (.out ⟨s.hd,⟨s.tl.tl.tl.tl.hd,⟨s.tl.tl.tl.tl.tl.hd,()⟩⟩⟩))
noncomputable def X9 [W] (a:((List (Int×(List (Int×Int))))×Int)) (s:(HP Int (HP Int (HP (List (Int×Int)) (HP Int (HP Int (HP (List (Int×(List (Int×Int)))) (HP Int (HP Int (HP Int (HP (List (Int×Int)) (HP (List (Int×(List (Int×Int)))) (HP (List (Int×(List (Int×Int)))) Unit))))))))))))):Option (Nx (HP Int (HP Int (HP (List (Int×Int)) (HP Int (HP Int (HP (List (Int×(List (Int×Int)))) (HP Int (HP Int (HP Int (HP (List (Int×Int)) (HP (List (Int×(List (Int×Int)))) (HP (List (Int×(List (Int×Int)))) Unit)))))))))))) (HP (List (Int×Int)) (HP Int (HP (List (Int×(List (Int×Int)))) (HP Int (HP Int (HP Int (HP (List (Int×Int)) (HP (List (Int×(List (Int×Int)))) (HP (List (Int×(List (Int×Int)))) Unit)))))))))) :=
 br (cm .leq s.tl.tl.tl.hd (ar .add .i64 s.hd s.tl.hd)) (call Yb ((s.tl.tl.hd,(mg (a:=I) (b:=(.ls (.p I I))) s.tl.tl.tl.tl.tl.tl.tl.tl.tl.tl.hd s.tl.tl.tl.hd [])):((List (Int×Int))×(List (Int×Int)))) fun (v5:(List (Int×Int))) =>
 some (.go ⟨s.hd,⟨s.tl.hd,⟨v5,⟨(ar .add .i64 s.tl.tl.tl.hd 1),⟨s.tl.tl.tl.tl.hd,⟨s.tl.tl.tl.tl.tl.hd,⟨s.tl.tl.tl.tl.tl.tl.hd,⟨s.tl.tl.tl.tl.tl.tl.tl.hd,⟨s.tl.tl.tl.tl.tl.tl.tl.tl.hd,⟨s.tl.tl.tl.tl.tl.tl.tl.tl.tl.hd,⟨s.tl.tl.tl.tl.tl.tl.tl.tl.tl.tl.hd,⟨s.tl.tl.tl.tl.tl.tl.tl.tl.tl.tl.tl.hd,()⟩⟩⟩⟩⟩⟩⟩⟩⟩⟩⟩⟩))
 (some (.out ⟨s.tl.tl.hd,⟨s.tl.tl.tl.tl.hd,⟨s.tl.tl.tl.tl.tl.hd,⟨s.tl.tl.tl.tl.tl.tl.hd,⟨s.tl.tl.tl.tl.tl.tl.tl.hd,⟨s.tl.tl.tl.tl.tl.tl.tl.tl.hd,⟨s.tl.tl.tl.tl.tl.tl.tl.tl.tl.hd,⟨s.tl.tl.tl.tl.tl.tl.tl.tl.tl.tl.tl.hd,⟨s.tl.tl.tl.tl.tl.tl.tl.tl.tl.tl.hd,()⟩⟩⟩⟩⟩⟩⟩⟩⟩))
noncomputable def Yc [W] (a:((List (Int×(List (Int×Int))))×Int)) (s:(HP Int (HP (List (Int×(List (Int×Int)))) (HP Int (HP Int (HP (List (Int×(List (Int×Int)))) (HP (List (Int×(List (Int×Int)))) Unit))))))):Option (Nx (HP Int (HP (List (Int×(List (Int×Int)))) (HP Int (HP Int (HP (List (Int×(List (Int×Int)))) (HP (List (Int×(List (Int×Int)))) Unit)))))) (HP (List (Int×(List (Int×Int)))) Unit)) :=
 br (cm .lss s.tl.tl.tl.hd s.tl.tl.hd) (ge s.tl.hd s.tl.tl.tl.hd fun v4 =>
 loop (X9 a) ⟨v4.1,⟨s.hd,⟨(mg (a:=I) (b:=(.ls (.p I I))) s.tl.tl.tl.tl.hd (ar .sub .i64 v4.1 s.hd) []),⟨(ar .add .i64 (ar .sub .i64 v4.1 s.hd) 1),⟨s.hd,⟨s.tl.hd,⟨s.tl.tl.hd,⟨s.tl.tl.tl.hd,⟨v4.1,⟨v4.2,⟨s.tl.tl.tl.tl.hd,⟨s.tl.tl.tl.tl.tl.hd,()⟩⟩⟩⟩⟩⟩⟩⟩⟩⟩⟩⟩ fun v6 =>
 br (cm .gtr (ln v6.hd) 0) (gd (ft 16 (pl 0 (ln v6.hd))) <|
 gd (ft 32 (pl (ln v6.tl.tl.tl.tl.tl.tl.tl.hd) 1)) <|
 some (.go ⟨v6.tl.hd,⟨v6.tl.tl.hd,⟨v6.tl.tl.tl.hd,⟨(ar .add .i64 v6.tl.tl.tl.tl.hd 1),⟨v6.tl.tl.tl.tl.tl.tl.tl.tl.hd,⟨(ap v6.tl.tl.tl.tl.tl.tl.tl.hd ((v6.tl.tl.tl.tl.tl.hd,v6.hd)::[])),()⟩⟩⟩⟩⟩⟩))
 (some (.go ⟨v6.tl.hd,⟨v6.tl.tl.hd,⟨v6.tl.tl.tl.hd,⟨(ar .add .i64 v6.tl.tl.tl.tl.hd 1),⟨v6.tl.tl.tl.tl.tl.tl.tl.tl.hd,⟨v6.tl.tl.tl.tl.tl.tl.tl.hd,()⟩⟩⟩⟩⟩⟩)))
 (some (.out ⟨s.tl.tl.tl.tl.tl.hd,()⟩))
noncomputable def Jas [W] (a:((List (Int×(List (Int×Int))))×Int)):Option (List (Int×(List (Int×Int)))) :=
 call jp ((a.1,a.2):((List (Int×(List (Int×Int))))×Int)) fun (v0:Bool) =>
 br (nt v0) (some [])
 (loop (Yd a) ⟨a.2,⟨a.1,⟨(ln a.1),⟨0,⟨a.1,⟨[],()⟩⟩⟩⟩⟩⟩ fun v3 =>
 loop (Yc a) ⟨v3.hd,⟨v3.tl.hd,⟨(ln v3.tl.hd),⟨0,⟨v3.tl.tl.hd,⟨[],()⟩⟩⟩⟩⟩⟩ fun v7 =>
 some v7.hd)
noncomputable def jf:Ctr:=⟨33,[(.ag,(.ls (.p I (.ls (.p I I))))),(.one,I)],[(true,(.ls (.p I (.ls (.p I I)))))],@Jas wv⟩
theorem Jpo (w:W) (a):fnD (dW w) (cxO (gam [(83,ja),(81,jp)]) [] [] [] [] [(82,Yb.bi)] []) 8 33 [(.ag,(.ls (.p I (.ls (.p I I))))),(.one,I)] [(true,(.ls (.p I (.ls (.p I I)))))] a=@Jas w a:=by kernel_rfl
theorem Jnh:Go.Dn.Good PG jf:=good (gam [(83,ja),(81,jp)]) [] [] [] [] [(82,Yb.bi)] [] 8 (Jk Jon (Jk Jo6 Jx)) Kj (Jk2 (ctr_bi Jig rfl) Kl) (Jv (by kernel_rfl)) rfl rfl (Jpo wv)
noncomputable def Ja9 [W] (s:(HP (List (Int×(List (Int×Int)))) (HP Int (HP Int (HP Int (HP Int (HP (List (Int×(List (Int×Int)))) Unit))))))):Option (Nx (HP (List (Int×(List (Int×Int)))) (HP Int (HP Int (HP Int (HP Int (HP (List (Int×(List (Int×Int)))) Unit)))))) (HP (List (Int×(List (Int×Int)))) (HP Int (HP Int (HP Int (HP (List (Int×(List (Int×Int)))) Unit)))))) :=
 br (cm .lss s.tl.tl.tl.hd s.tl.tl.tl.tl.hd) (gd (cm .geq 1 0) <|
 ge s.hd (cv .i64 (sh .shr .u64 (cv .u64 (ar .add .i64 s.tl.tl.tl.hd s.tl.tl.tl.tl.hd)) 1)) fun v0 =>
 call K5 ((v0.1,s.tl.hd):(Int×Int)) fun (v1:Int) =>
 br (cm .lss v1 0) (some (.go ⟨s.hd,⟨s.tl.hd,⟨s.tl.tl.hd,⟨(ar .add .i64 (cv .i64 (sh .shr .u64 (cv .u64 (ar .add .i64 s.tl.tl.tl.hd s.tl.tl.tl.tl.hd)) 1)) 1),⟨s.tl.tl.tl.tl.hd,⟨s.tl.tl.tl.tl.tl.hd,()⟩⟩⟩⟩⟩⟩))
 (some (.go ⟨s.hd,⟨s.tl.hd,⟨s.tl.tl.hd,⟨s.tl.tl.tl.hd,⟨(cv .i64 (sh .shr .u64 (cv .u64 (ar .add .i64 s.tl.tl.tl.hd s.tl.tl.tl.tl.hd)) 1)),⟨s.tl.tl.tl.tl.tl.hd,()⟩⟩⟩⟩⟩⟩)))
 (some (.out ⟨s.hd,⟨s.tl.hd,⟨s.tl.tl.hd,⟨s.tl.tl.tl.hd,⟨s.tl.tl.tl.tl.tl.hd,()⟩⟩⟩⟩⟩))
noncomputable def Jbo [W] (a:((List (Int×(List (Int×Int))))×Int)):Option (List (Int×Int)) :=
 loop Ja9 ⟨a.1,⟨a.2,⟨(ln a.1),⟨0,⟨(ln a.1),⟨a.1,()⟩⟩⟩⟩⟩⟩ fun v2 =>
 br (cm .lss v2.tl.tl.tl.hd v2.tl.tl.hd) (ge v2.hd v2.tl.tl.tl.hd fun v3 =>
 call K5 ((v3.1,v2.tl.hd):(Int×Int)) fun (v4:Int) =>
 br (nt (cm .eql v4 0)) (some [])
 (ge v2.tl.tl.tl.tl.hd v2.tl.tl.tl.hd fun v5 =>
 some v5.2))
 (some [])
noncomputable def Yx:Ctr:=⟨63,[(.ag,(.ls (.p I (.ls (.p I I))))),(.one,I)],[(false,(.ls (.p I I)))],@Jbo wv⟩
theorem Jqz (w:W) (a):fnD (dW w) (cxO (gam [(125,K5)]) [] [] [] [] [] []) 8 63 [(.ag,(.ls (.p I (.ls (.p I I))))),(.one,I)] [(false,(.ls (.p I I)))] a=@Jbo w a:=by kernel_rfl
theorem Jqk:Go.Dn.Good PG Yx:=good (gam [(125,K5)]) [] [] [] [] [] [] 8 (Jk Jfx Jx) Kj Kl (Jv (by kernel_rfl)) rfl rfl (Jqz wv)
noncomputable def Ks [W] (a:(List (Int×Int))):Option (List (Int×Int)) :=
 nq (ln a) fun v0 =>
 br v0 (some [])
 (gd (ft 16 (pl 0 (ln a))) <|
 some a)
noncomputable def Kf:Ctr:=⟨150,[(.one,(.ls (.p I I)))],[(false,(.ls (.p I I)))],@Ks wv⟩
theorem Jaa (w:W) (a):fnD (dW w) (cxO (gam []) [] [] [] [] [] []) 8 150 [(.one,(.ls (.p I I)))] [(false,(.ls (.p I I)))] a=@Ks w a:=by kernel_rfl
theorem zx:Go.Dn.Good PG Kf:=good (gam []) [] [] [] [] [] [] 8 Jx Kj Kl (Jv (by kernel_rfl)) rfl rfl (Jaa wv)
noncomputable def K7 [W] (s:(HP (List (Int×(List (Int×Int)))) (HP (List (Int×(List (Int×Int)))) (HP Int (HP (List (Int×(List (Int×Int)))) (HP Int (HP Int (HP (List (Int×(List (Int×Int)))) (HP (List (Int×(List (Int×Int)))) (HP (List Int) Unit)))))))))):Option (Nx (HP (List (Int×(List (Int×Int)))) (HP (List (Int×(List (Int×Int)))) (HP Int (HP (List (Int×(List (Int×Int)))) (HP Int (HP Int (HP (List (Int×(List (Int×Int)))) (HP (List (Int×(List (Int×Int)))) (HP (List Int) Unit))))))))) (HP (List (Int×(List (Int×Int)))) (HP (List (Int×(List (Int×Int)))) (HP Int (HP (List (Int×(List (Int×Int)))) (HP (List (Int×(List (Int×Int)))) (HP (List Int) Unit))))))) :=
 br (cm .lss s.tl.tl.tl.tl.tl.hd s.tl.tl.tl.tl.hd) (ge s.tl.tl.tl.hd s.tl.tl.tl.tl.tl.hd fun v2 =>
 gd (ft 8 (pl (ln s.tl.tl.tl.tl.tl.tl.tl.tl.hd) 1)) <|
 some (.go ⟨s.hd,⟨s.tl.hd,⟨s.tl.tl.hd,⟨s.tl.tl.tl.hd,⟨s.tl.tl.tl.tl.hd,⟨(ar .add .i64 s.tl.tl.tl.tl.tl.hd 1),⟨s.tl.tl.tl.tl.tl.tl.hd,⟨s.tl.tl.tl.tl.tl.tl.tl.hd,⟨(ap s.tl.tl.tl.tl.tl.tl.tl.tl.hd (v2.1::[])),()⟩⟩⟩⟩⟩⟩⟩⟩⟩))
 (some (.out ⟨s.hd,⟨s.tl.hd,⟨s.tl.tl.hd,⟨s.tl.tl.tl.tl.tl.tl.hd,⟨s.tl.tl.tl.tl.tl.tl.tl.hd,⟨s.tl.tl.tl.tl.tl.tl.tl.tl.hd,()⟩⟩⟩⟩⟩⟩))
noncomputable def Jaj [W] (s:(HP (List (Int×(List (Int×Int)))) (HP (List (Int×(List (Int×Int)))) (HP Int (HP (List (Int×(List (Int×Int)))) (HP Int (HP Int (HP (List (Int×(List (Int×Int)))) (HP (List (Int×(List (Int×Int)))) (HP (List Int) Unit)))))))))):Option (Nx (HP (List (Int×(List (Int×Int)))) (HP (List (Int×(List (Int×Int)))) (HP Int (HP (List (Int×(List (Int×Int)))) (HP Int (HP Int (HP (List (Int×(List (Int×Int)))) (HP (List (Int×(List (Int×Int)))) (HP (List Int) Unit))))))))) (HP (List (Int×(List (Int×Int)))) (HP (List (Int×(List (Int×Int)))) (HP Int (HP (List (Int×(List (Int×Int)))) (HP (List (Int×(List (Int×Int)))) (HP (List Int) Unit))))))) :=
 br (cm .lss s.tl.tl.tl.tl.tl.hd s.tl.tl.tl.tl.hd) (ge s.tl.tl.tl.hd s.tl.tl.tl.tl.tl.hd fun v4 =>
 gd (ft 8 (pl (ln s.tl.tl.tl.tl.tl.tl.tl.tl.hd) 1)) <|
 some (.go ⟨s.hd,⟨s.tl.hd,⟨s.tl.tl.hd,⟨s.tl.tl.tl.hd,⟨s.tl.tl.tl.tl.hd,⟨(ar .add .i64 s.tl.tl.tl.tl.tl.hd 1),⟨s.tl.tl.tl.tl.tl.tl.hd,⟨s.tl.tl.tl.tl.tl.tl.tl.hd,⟨(ap s.tl.tl.tl.tl.tl.tl.tl.tl.hd (v4.1::[])),()⟩⟩⟩⟩⟩⟩⟩⟩⟩))
 (some (.out ⟨s.hd,⟨s.tl.hd,⟨s.tl.tl.hd,⟨s.tl.tl.tl.tl.tl.tl.hd,⟨s.tl.tl.tl.tl.tl.tl.tl.hd,⟨s.tl.tl.tl.tl.tl.tl.tl.tl.hd,()⟩⟩⟩⟩⟩⟩))
noncomputable def Kc [W] (s:(HP (List (Int×(List (Int×Int)))) (HP (List (Int×(List (Int×Int)))) (HP Int (HP (List (Int×(List (Int×Int)))) (HP (List (Int×(List (Int×Int)))) (HP (List Int) Unit))))))):Option (Nx (HP (List (Int×(List (Int×Int)))) (HP (List (Int×(List (Int×Int)))) (HP Int (HP (List (Int×(List (Int×Int)))) (HP (List (Int×(List (Int×Int)))) (HP (List Int) Unit)))))) (HP (List (Int×(List (Int×Int)))) (HP (List (Int×(List (Int×Int)))) (HP (List Int) Unit)))) :=
 br (cm .lss s.tl.tl.hd 2) (br (cm .eql s.tl.tl.hd 0) (loop K7 ⟨s.hd,⟨s.tl.hd,⟨s.tl.tl.hd,⟨s.hd,⟨(ln s.hd),⟨0,⟨s.tl.tl.tl.hd,⟨s.tl.tl.tl.tl.hd,⟨s.tl.tl.tl.tl.tl.hd,()⟩⟩⟩⟩⟩⟩⟩⟩⟩ fun v3 =>
 some (.go ⟨v3.hd,⟨v3.tl.hd,⟨(ar .add .i64 v3.tl.tl.hd 1),⟨v3.tl.tl.tl.hd,⟨v3.tl.tl.tl.tl.hd,⟨v3.tl.tl.tl.tl.tl.hd,()⟩⟩⟩⟩⟩⟩))
 (br (cm .eql s.tl.tl.hd 1) (loop Jaj ⟨s.hd,⟨s.tl.hd,⟨s.tl.tl.hd,⟨s.tl.hd,⟨(ln s.tl.hd),⟨0,⟨s.tl.tl.tl.hd,⟨s.tl.tl.tl.tl.hd,⟨s.tl.tl.tl.tl.tl.hd,()⟩⟩⟩⟩⟩⟩⟩⟩⟩ fun v5 =>
 some (.go ⟨v5.hd,⟨v5.tl.hd,⟨(ar .add .i64 v5.tl.tl.hd 1),⟨v5.tl.tl.tl.hd,⟨v5.tl.tl.tl.tl.hd,⟨v5.tl.tl.tl.tl.tl.hd,()⟩⟩⟩⟩⟩⟩))
 (none)))
 (some (.out ⟨s.tl.tl.tl.hd,⟨s.tl.tl.tl.tl.hd,⟨s.tl.tl.tl.tl.tl.hd,()⟩⟩⟩))
noncomputable def Qn [W] (s:(HP (List Int) (HP Int (HP Int (HP (List (Int×(List (Int×Int)))) (HP (List (Int×(List (Int×Int)))) (HP (List (Int×(List (Int×Int)))) Unit))))))):Option (Nx (HP (List Int) (HP Int (HP Int (HP (List (Int×(List (Int×Int)))) (HP (List (Int×(List (Int×Int)))) (HP (List (Int×(List (Int×Int)))) Unit)))))) (HP (List (Int×(List (Int×Int)))) Unit)) :=
 br (cm .lss s.tl.tl.hd s.tl.hd) (ge s.hd s.tl.tl.hd fun v9 =>
 call Yx ((s.tl.tl.tl.hd,v9):((List (Int×(List (Int×Int))))×Int)) fun (v10:(List (Int×Int))) =>
 call Yx ((s.tl.tl.tl.tl.hd,v9):((List (Int×(List (Int×Int))))×Int)) fun (v11:(List (Int×Int))) =>
 call Kh ((v10,v11):((List (Int×Int))×(List (Int×Int)))) fun (v12:(List (Int×Int))) =>
 br (cm .gtr (ln v12) 0) (call Kf (v12:(List (Int×Int))) fun (v13:(List (Int×Int))) =>
 gd (ft 32 (pl (ln s.tl.tl.tl.tl.tl.hd) 1)) <|
 some (.go ⟨s.hd,⟨s.tl.hd,⟨(ar .add .i64 s.tl.tl.hd 1),⟨s.tl.tl.tl.hd,⟨s.tl.tl.tl.tl.hd,⟨(ap s.tl.tl.tl.tl.tl.hd ((v9,v13)::[])),()⟩⟩⟩⟩⟩⟩))
 (some (.go ⟨s.hd,⟨s.tl.hd,⟨(ar .add .i64 s.tl.tl.hd 1),⟨s.tl.tl.tl.hd,⟨s.tl.tl.tl.tl.hd,⟨s.tl.tl.tl.tl.tl.hd,()⟩⟩⟩⟩⟩⟩)))
 (some (.out ⟨s.tl.tl.tl.tl.tl.hd,()⟩))
noncomputable def Y1 [W] (a:((List (Int×(List (Int×Int))))×(List (Int×(List (Int×Int)))))):Option (List (Int×(List (Int×Int)))) :=
 call J2 (a.1:(List (Int×(List (Int×Int))))) fun (v0:Bool) =>
 br (nt v0) (some [])
 (call J2 (a.2:(List (Int×(List (Int×Int))))) fun (v1:Bool) =>
 br (nt v1) (some [])
 (loop Kc ⟨a.1,⟨a.2,⟨0,⟨a.1,⟨a.2,⟨[],()⟩⟩⟩⟩⟩⟩ fun v6 =>
 call Juy (v6.tl.tl.hd:(List Int)) fun (v7:(List Int)) =>
 call Jm2 (v7:(List Int)) fun (v8:(List Int)) =>
 loop Qn ⟨v8,⟨(ln v8),⟨0,⟨v6.hd,⟨v6.tl.hd,⟨[],()⟩⟩⟩⟩⟩⟩ fun v14 =>
 some v14.hd))
noncomputable def X4:Ctr:=⟨36,[(.ag,(.ls (.p I (.ls (.p I I))))),(.ag,(.ls (.p I (.ls (.p I I)))))],[(true,(.ls (.p I (.ls (.p I I)))))],@Y1 wv⟩
theorem Jgz (w:W) (a):fnD (dW w) (cxO (gam [(63,Yx),(150,Kf),(23,J2)]) [] [] [Jw1] [] [(91,Kh.bi),(149,Jdg)] []) 8 36 [(.ag,(.ls (.p I (.ls (.p I I))))),(.ag,(.ls (.p I (.ls (.p I I)))))] [(true,(.ls (.p I (.ls (.p I I)))))] a=@Y1 w a:=by kernel_rfl
theorem Jhi:Go.Dn.Good PG X4:=good (gam [(63,Yx),(150,Kf),(23,J2)]) [] [] [Jw1] [] [(91,Kh.bi),(149,Jdg)] [] 8 (Jk Jqk (Jk zx (Jk zo Jx))) (Jt4 g_s148_0 Kj) (Jk2 (ctr_bi Jd2 rfl) (Jk2 Jo9 Kl)) (Jv (by kernel_rfl)) rfl rfl (Jgz wv)
noncomputable def Jbm [W] (a:(List (Int×(List (Int×Int))))):Option (List (Int×(List (Int×Int)))) :=
 call jf ((a,1):((List (Int×(List (Int×Int))))×Int)) fun (v0:(List (Int×(List (Int×Int))))) =>
 call X4 ((a,v0):((List (Int×(List (Int×Int))))×(List (Int×(List (Int×Int)))))) fun (v1:(List (Int×(List (Int×Int))))) =>
 some v1
noncomputable def zp:Ctr:=⟨27,[(.ag,(.ls (.p I (.ls (.p I I)))))],[(true,(.ls (.p I (.ls (.p I I)))))],@Jbm wv⟩
theorem Jr2 (w:W) (a):fnD (dW w) (cxO (gam [(33,jf),(36,X4)]) [] [] [] [] [] []) 8 27 [(.ag,(.ls (.p I (.ls (.p I I)))))] [(true,(.ls (.p I (.ls (.p I I)))))] a=@Jbm w a:=by kernel_rfl
theorem Jr6:Go.Dn.Good PG zp:=good (gam [(33,jf),(36,X4)]) [] [] [] [] [] [] 8 (Jk Jnh (Jk Jhi Jx)) Kj Kl (Jv (by kernel_rfl)) rfl rfl (Jr2 wv)
noncomputable def J0 [W] (a:(List (Int×(List (Int×Int))))):Option Bool :=
 call Qd (a:(List (Int×(List (Int×Int))))) fun (v0:Bool) =>
 br (nt v0) (call Ke (():Unit) fun (v1:Bool) =>
 some v1)
 (call J2 (a:(List (Int×(List (Int×Int))))) fun (v2:Bool) =>
 br (nt v2) (call Ke (():Unit) fun (v3:Bool) =>
 some v3)
 (call Ku (a:(List (Int×(List (Int×Int))))) fun (v4:(List (Int×(Bool×(List (Int×Int)))))) =>
 call Zx (v4:(List (Int×(Bool×(List (Int×Int)))))) fun (v5:(List (Int×(List (Int×Int))))) =>
 call zp (a:(List (Int×(List (Int×Int))))) fun (v6:(List (Int×(List (Int×Int))))) =>
 call Qp ((v5,v6):((List (Int×(List (Int×Int))))×(List (Int×(List (Int×Int)))))) fun (v7:Bool) =>
 br v7 (call Ke (():Unit) fun (v8:Bool) =>
 some v8)
 (some false)))
noncomputable def z8:Ctr:=⟨5,[(.ag,(.ls (.p I (.ls (.p I I)))))],[(false,.bool)],@J0 wv⟩
theorem Jac (w:W) (a):fnD (dW w) (cxO (gam [(22,Qd),(24,Ke),(23,J2),(26,Ku),(20,Zx),(27,zp),(25,Qp)]) [] [] [] [] [] []) 8 5 [(.ag,(.ls (.p I (.ls (.p I I)))))] [(false,.bool)] a=@J0 w a:=by kernel_rfl
theorem z7:Go.Dn.Good PG z8:=good (gam [(22,Qd),(24,Ke),(23,J2),(26,Ku),(20,Zx),(27,zp),(25,Qp)]) [] [] [] [] [] [] 8 (Jk Jdn (Jk Jdw (Jk zo (Jk Jdj (Jk Jpt (Jk Jr6 (Jk Jew Jx))))))) Kj Kl (Jv (by kernel_rfl)) rfl rfl (Jac wv)
noncomputable def Jb0 [W] (s:(HP (List (Int×Int)) (HP Int (HP Int Unit)))):Option (Nx (HP (List (Int×Int)) (HP Int (HP Int Unit))) (Unit ⊕ Unit)) :=
 br (cm .lss s.tl.tl.hd (ln s.hd)) (ge s.hd s.tl.tl.hd fun v0 =>
 br (cm .leq v0.1 s.tl.hd) (ge s.hd s.tl.tl.hd fun v1 =>
 br (cm .lss s.tl.hd v1.2) (some (.out (.inl ())))
 (some (.go ⟨s.hd,⟨s.tl.hd,⟨(ar .add .i64 s.tl.tl.hd 1),()⟩⟩⟩)))
 (some (.go ⟨s.hd,⟨s.tl.hd,⟨(ar .add .i64 s.tl.tl.hd 1),()⟩⟩⟩)))
 (some (.out (.inr ())))
noncomputable def Jde [W] (a:((List (Int×Int))×Int)):Option Bool :=
 loop Jb0 ⟨a.1,⟨a.2,⟨0,()⟩⟩⟩ fun v2 =>
 match v2 with
 | .inl v3=>(some true)
 | .inr v4=>(some false)
noncomputable def Jdf:Ctr:=⟨164,[(.one,(.ls (.p I I))),(.one,I)],[(false,.bool)],@Jde wv⟩
noncomputable def Jdd [W] (s:(HP Int (HP Int (HP (List (Int×(List (Int×Int)))) Unit)))):Option (Nx (HP Int (HP Int (HP (List (Int×(List (Int×Int)))) Unit))) ((HP (List (Int×Int)) Unit) ⊕ Unit)) :=
 br (cm .lss s.tl.hd (ln s.tl.tl.hd)) (ge s.tl.tl.hd s.tl.hd fun v0 =>
 br (cm .eql v0.1 s.hd) (ge s.tl.tl.hd s.tl.hd fun v1 =>
 some (.out (.inl ⟨v1.2,()⟩)))
 (some (.go ⟨s.hd,⟨(ar .add .i64 s.tl.hd 1),⟨s.tl.tl.hd,()⟩⟩⟩)))
 (some (.out (.inr ())))
noncomputable def Jft [W] (a:((List (Int×(List (Int×Int))))×Int)):Option (List (Int×Int)) :=
 loop Jdd ⟨a.2,⟨0,⟨a.1,()⟩⟩⟩ fun v2 =>
 match v2 with
 | .inl v3=>(some v3.hd)
 | .inr v4=>(some [])
noncomputable def Jfp:Ctr:=⟨165,[(.ag,(.ls (.p I (.ls (.p I I))))),(.one,I)],[(false,(.ls (.p I I)))],@Jft wv⟩
noncomputable def Jb5 [W] (a:((List (Int×(List (Int×Int))))×(Int×Int))):Option Bool :=
 call Km (a.1:(List (Int×(List (Int×Int))))) fun (v0:Bool) =>
 br v0 (call Jfp ((a.1,a.2.2):((List (Int×(List (Int×Int))))×Int)) fun (v1:(List (Int×Int))) =>
 call Jdf ((v1,a.2.1):((List (Int×Int))×Int)) fun (v2:Bool) =>
 some v2)
 (some false)
noncomputable def Jce:Ctr:=⟨116,[(.ag,(.ls (.p I (.ls (.p I I))))),(.ag,(.p I I))],[(false,.bool)],@Jb5 wv⟩
end Go.Proofs.YtmfagdfkpjgeiaaGreat
