/- Cells are sorted by the library's sort. Conditions: none. -/
import Derived.Test.YtmfagdfkpjgeiaaGreatXB
import Derived.Test.YtmfagdfkpjgeiaaGreatFB
import Derived.Test.YtmfagdfkpjgeiaaGreatTT
set_option linter.unusedVariables false
set_option linter.unusedSimpArgs false
set_option maxRecDepth 100000
namespace Go.Proofs.YtmfagdfkpjgeiaaGreat
open Go Go.Vv Go.Dn
theorem swoC:Go.Sort.SWO (Go.Proofs.ltOf cmpC):=by
 refine ⟨λx=>?_,λx y z d a=>?_,λx y z d a=>?_⟩
 ·simp only [Go.Proofs.ltOf,decide_eq_false_iff_not,Jjb];omega
 ·simp only [Go.Proofs.ltOf,decide_eq_true_eq,Jjb] at *;omega
 ·simp only [Go.Proofs.ltOf,decide_eq_false_iff_not,Jjb] at *;omega
theorem totC(x y:Int×Int)(f:Go.Proofs.ltOf cmpC x y=false)(e:Go.Proofs.ltOf cmpC y x=false):x=y:=by
 simp only [Go.Proofs.ltOf,decide_eq_false_iff_not,Jjb] at *
 obtain ⟨a,b⟩:=x;obtain ⟨c,d⟩:=y;simp only [Prod.mk.injEq] at *
 omega
noncomputable def Jnc:SCt:=⟨97,127,true,.p I I,λl=>if List.length (α:=Int×Int) l<4611686018427387904 then some (Ja0 (α:=Int×Int) (λx y=>!(Go.Proofs.ltOf cmpC) y x) l) else none⟩
noncomputable def Jjz:Ctr:=Jnc.ctr
instance:Inhabited (Ty.p I I).T:=⟨((0:Int),(0:Int))⟩
theorem Jzw:SGood PG Jnc:=
 J0p (P:=PG) (ρ:=Tryz.sortL97_ren) (t:=.p I I) Tryz.sortL97 rfl (by decide) (λw=>by kernel_rfl) (λw=>by kernel_rfl) (g:=127) (fn:=@z6 wv) Jno cmpC of1_ok swoC totC (by decide) (Jk (by kernel_rfl))
end Go.Proofs.YtmfagdfkpjgeiaaGreat
namespace Go.Proofs.YtmfagdfkpjgeiaaGreat
open Go Go.Vv Go.Dn Go.Dn.W
abbrev Vf:=List (Int×Int)
abbrev Vg:=List (Int×Vf)
abbrev Vh:=List (Int×(Bool×Vf))
abbrev Vi:=HP Vf Unit
abbrev Vl:=HP Int (HP Int (HP Vg (HP Int (HP Int (HP Vf (HP Int (HP Int (HP Vh (HP Int Vi)))))))))
abbrev Vm:=HP Int (HP Int Vi)
abbrev Vn:=HP Int (HP Int (HP Vg (HP Int (HP Vf (HP Vg Vi)))))
abbrev Vo:=HP Vg (HP Int (HP Int (HP Vf (HP Int (HP Int (HP Int (HP Vf Vi)))))))
abbrev Vq:=HP Int (HP Bool Vi)
abbrev Vr:=HP Int (HP Int (HP Int (HP Vg Unit)))
abbrev Vs:=HP Int (HP Vg (HP Int (HP Vf (HP Vf (HP Vg Unit)))))
abbrev Vt:=HP Int (HP Int (HP Int (HP Bool (HP Vf Vq))))
abbrev Vu:=HP Vh Unit
abbrev Vk:=HP Int (HP Int (HP Vg (HP Int (HP Int Vu))))
abbrev Vw:=HP Int (HP Vf (HP Int (HP Int Vq)))
abbrev Vx:=HP Int (HP Int (HP Vf (HP Vg Vi)))
abbrev Vy:=HP Int Unit
abbrev Vj:=HP Int Vy
abbrev Vz:=HP Int (HP Vg (HP Vg Unit))
abbrev U0:=HP Vf Vj
abbrev U1:=HP Vf Vm
abbrev Vp:=HP Int (HP Vg (HP Int (HP Int (HP Vf (HP Int (HP Int (HP Int U1)))))))
noncomputable def Zb[W](s:(HP Vf U0)):Option (Nx (HP Vf U0) (Vy⊕Vi)):=br (cm .lss s.j.j.j.e s.j.j.e) (ge s.j.e s.j.j.j.e λv0=>call Kd (v0.1:Int) λ(v1:Bool)=>br (nt v1) (some (.out (.inl ⟨8,()⟩))) (call Kd (v0.2:Int) λ(v2:Bool)=>br (nt v2) (some (.out (.inl ⟨8,()⟩))) (some (.go ⟨s.e,s.j.e,s.j.j.e,(ar .add .i64 s.j.j.j.e 1),()⟩)))) (some (.out (.inr ⟨s.e,()⟩)))
noncomputable def zd[W](s:Vj):Option (Nx Vj Unit):=br (cm .lss s.j.e s.e) (none) (some (.out ()))
noncomputable def X4[W](s:Vx):Option (Nx Vx (HP Vg Vi)):=br (cm .lss s.j.e s.e) (gd (ib s.j.e (ln s.j.j.e))<|ge s.j.j.e s.j.e λv9=>br (cm .eql (ln s.j.j.j.e) 0) (gd (ft 32 (pl (ln s.j.j.j.e) 1))<|some (.go ⟨s.e,(ar .add .i64 s.j.e 1),s.j.j.e,(ap (ml s.j.j.j.e λy=>(y.1,s.j.j.j.j.e)) ((v9.2,[])::[])),((v9.1,(ar .add .i64 v9.1 1))::[]),()⟩)) (gd (ib (ar .sub .i64 (ln s.j.j.j.e) 1) (ln s.j.j.j.e))<|ge s.j.j.j.e (ar .sub .i64 (ln s.j.j.j.e) 1) λv10=>br (cm .neq v10.1 v9.2) (gd (ft 32 (pl (ln s.j.j.j.e) 1))<|some (.go ⟨s.e,(ar .add .i64 s.j.e 1),s.j.j.e,(ap (ml s.j.j.j.e λy=>(y.1,s.j.j.j.j.e)) ((v9.2,[])::[])),((v9.1,(ar .add .i64 v9.1 1))::[]),()⟩)) (gd (ib (ar .sub .i64 (ln s.j.j.j.e) 1) (ln s.j.j.j.e))<|ge s.j.j.j.e (ar .sub .i64 (ln s.j.j.j.e) 1) λv11=>gd (cm .eql (pl (ar .sub .i64 (ln s.j.j.j.e) 1) 1) (ln s.j.j.j.e))<|ge s.j.j.j.e (ar .sub .i64 (ln s.j.j.j.e) 1) λv12=>gd (cm .eql (pl (ar .sub .i64 (ln s.j.j.j.e) 1) 1) (ln s.j.j.j.e))<|gd (ib (ar .sub .i64 (ln s.j.j.j.j.e) 1) (ln s.j.j.j.j.e))<|ge s.j.j.j.j.e (ar .sub .i64 (ln s.j.j.j.j.e) 1) λv13=>br (cm .gtr v9.1 v13.2) (ge s.j.j.j.e (ar .sub .i64 (ln s.j.j.j.e) 1) λv14=>gd (cm .eql (pl (ar .sub .i64 (ln s.j.j.j.e) 1) 1) (ln s.j.j.j.e))<|gd (ft 16 (pl (ln s.j.j.j.j.e) 1))<|ge s.j.j.j.e (ar .sub .i64 (ln s.j.j.j.e) 1) λv15=>gd (cm .eql (pl (ar .sub .i64 (ln s.j.j.j.e) 1) 1) (ln s.j.j.j.e))<|some (.go ⟨s.e,(ar .add .i64 s.j.e 1),s.j.j.e,(st s.j.j.j.e (ar .sub .i64 (ln s.j.j.j.e) 1) (v15.1,v15.2)),(ap s.j.j.j.j.e ((v9.1,(ar .add .i64 v9.1 1))::[])),()⟩)) (ge s.j.j.j.j.e (ar .sub .i64 (ln s.j.j.j.j.e) 1) λv16=>ge s.j.j.j.j.e (ar .sub .i64 (ln s.j.j.j.j.e) 1) λv17=>some (.go ⟨s.e,(ar .add .i64 s.j.e 1),s.j.j.e,s.j.j.j.e,(st s.j.j.j.j.e (ar .sub .i64 (ln s.j.j.j.j.e) 1) (v17.1,(mx v16.2 (ar .add .i64 v9.1 1)))),()⟩))))) (some (.out s.j.j.j))
noncomputable def Jak[W](a:Vf):Option (Vg×Int):=loop Zb ⟨a,a,(ln a),0,()⟩ λv3=>match v3 with|.inl v4=>(some ([],v4.e))|.inr v5=>(nq (ln v5.e) λe=>br e (loop zd ⟨0,0,()⟩ λf=>some ([],0)) (gd (ft 16 (pl 0 (ln v5.e)))<|call Jjz (v5.e:Vf) λ(d:Vf)=>loop X4 ⟨(ln d),0,d,[],[],()⟩ λv18=>some ((ml v18.e λy=>(y.1,v18.j.e)),0)))
noncomputable def Ku:Ctr:=⟨64,[(.one,(.ls (.p I I)))],[(true,(.ls (.p I (.ls (.p I I))))),(false,I)],@Jak wv⟩
theorem Jso(w:W)(a):fnD (dW w) (cxO (gam [(67,Kd)]) [11,12,13,14,15,16,17,18,19,20,21] [] [Jnc] [] [] []) 8 64 Ku.as Ku.rs a=@Jak w a:=by kernel_rfl
theorem Jca:V3 Ku:=good (gam [(67,Kd)]) [11,12,13,14,15,16,17,18,19,20,21] [] [Jnc] [] [] [] 8 (Jb Jjc Jl) (Jym Jzw J2) J3 (Jk (by kernel_rfl)) rfl rfl rfl (Jso wv)
noncomputable def zb[W](a:(Int×Int)):Option Bool:=br (cm .geq a.1 (-4096)) (br (cm .lss a.1 4096) (br (cm .geq a.2 (-4096)) (some (cm .lss a.2 4096)) (some false)) (some false)) (some false)
noncomputable def X3:Ctr:=⟨88,[(.ag,(.p I I))],[(false,.bool)],@zb wv⟩
theorem Jkx(w:W)(a):fnD (dW w) (V1 []) 8 88 X3.as X3.rs a=@zb w a:=by kernel_rfl
theorem Jkq:V3 X3:=V2 Jl (Jk (by kernel_rfl)) rfl rfl rfl (Jkx wv)
noncomputable def Yz[W](a:((Int×Int)×(Int×Int))):Option Bool:=some (cm .eql (ar .add .i64 (ar .mul .i64 (ar .sub .i64 a.1.1 a.2.1) (ar .sub .i64 a.1.1 a.2.1)) (ar .mul .i64 (ar .sub .i64 a.1.2 a.2.2) (ar .sub .i64 a.1.2 a.2.2))) 1)
noncomputable def K1:Ctr:=⟨89,[(.ag,(.p I I)),(.ag,(.p I I))],[(false,.bool)],@Yz wv⟩
theorem Jgf(w:W)(a):fnD (dW w) (V1 []) 8 89 K1.as K1.rs a=@Yz w a:=by kernel_rfl
theorem Jg9:V3 K1:=V2 Jl (Jk (by kernel_rfl)) rfl rfl rfl (Jgf wv)
noncomputable def X1[W](s:Vw):Option (Nx Vw (Unit⊕(HP Int Vq))):=br (cm .lss s.j.j.j.e s.j.j.e) (ge s.j.e s.j.j.j.e λv0=>call X3 ((v0.1,v0.2):(Int×Int)) λ(v1:Bool)=>br (nt v1) (some (.out (.inl ()))) (br (cm .gtr s.j.j.j.e 0) (ge s.j.j.j.j.j.j.e (ar .sub .i64 s.j.j.j.e 1) λv2=>call K1 (((v2.1,v2.2),(v0.1,v0.2)):((Int×Int)×(Int×Int))) λ(v3:Bool)=>br (nt v3) (some (.out (.inl ()))) (some (.go ⟨s.e,s.j.e,s.j.j.e,(ar .add .i64 s.j.j.j.e 1),s.j.j.j.j⟩))) (some (.go ⟨s.e,s.j.e,s.j.j.e,(ar .add .i64 s.j.j.j.e 1),s.j.j.j.j⟩)))) (some (.out (.inr ⟨s.e,s.j.j.j.j⟩)))
noncomputable def zx[W](a:(Int×(Bool×Vf))):Option Bool:=br (cm .lss a.1 1) (some false) (br (cm .gtr a.1 7) (some false) (br (cm .lss (ln a.2.2) 1) (some false) (br (cm .gtr (ln a.2.2) 65536) (some false) (loop X1 ⟨(ln a.2.2),a.2.2,(ln a.2.2),0,a.1,a.2.1,a.2.2,()⟩ λv4=>match v4 with|.inl v5=>(some false)|.inr d=>(br (nt d.j.j.e) (some true) (br (cm .eql d.e 1) (some true) (ge d.j.j.j.e (ar .sub .i64 d.e 1) λf=>ge d.j.j.j.e 0 λe=>call K1 (((f.1,f.2),(e.1,e.2)):((Int×Int)×(Int×Int))) λ(v9:Bool)=>some v9)))))))
noncomputable def Ql:Ctr:=⟨35,[(.ag,(.p I (.p .bool (.ls (.p I I)))))],[(false,.bool)],@zx wv⟩
theorem Jn6(w:W)(a):fnD (dW w) (V1 [(88,X3),(89,K1)]) 8 35 Ql.as Ql.rs a=@zx w a:=by kernel_rfl
theorem Jfy:V3 Ql:=V2 (Jb Jkq (Jb Jg9 Jl)) (Jk (by kernel_rfl)) rfl rfl rfl (Jn6 wv)
noncomputable def Zf[W](s:(HP Vh Vm)):Option (Nx (HP Vh Vm) Vi):=br (cm .lss s.j.j.e s.j.e) (ge s.e s.j.j.e λv0=>call Ql ((v0.1,(v0.2.1,v0.2.2)):(Int×(Bool×Vf))) λ(v1:Bool)=>br v1 (gd (ft 16 (pl (ln s.j.j.j.e) (ln v0.2.2)))<|some (.go ⟨s.e,s.j.e,(ar .add .i64 s.j.j.e 1),(ap s.j.j.j.e v0.2.2),()⟩)) (some (.go ⟨s.e,s.j.e,(ar .add .i64 s.j.j.e 1),s.j.j.j⟩))) (some (.out s.j.j.j))
noncomputable def Q5[W](a:Vh):Option Vg:=loop Zf ⟨a,(ln a),0,[],()⟩ λv2=>call Ku (v2.e:Vf) λ(v3:(Vg×Int))=>some v3.1
noncomputable def Yv:Ctr:=⟨20,[(.one,(.ls (.p I (.p .bool (.ls (.p I I))))))],[(true,(.ls (.p I (.ls (.p I I)))))],@Q5 wv⟩
theorem Jox(w:W)(a):fnD (dW w) (V1 [(35,Ql),(64,Ku)]) 8 20 Yv.as Yv.rs a=@Q5 w a:=by kernel_rfl
theorem Jbz:V3 Yv:=V2 (Jb Jfy (Jb Jca Jl)) (Jk (by kernel_rfl)) rfl rfl rfl (Jox wv)
end Go.Proofs.YtmfagdfkpjgeiaaGreat
namespace Go.Proofs.YtmfagdfkpjgeiaaGreat
open Go Go.Vv Go.Dn
end Go.Proofs.YtmfagdfkpjgeiaaGreat
namespace Go.Proofs.YtmfagdfkpjgeiaaGreat
open Go Go.Vv Go.Dn Go.Dn.W
noncomputable def Jas[W](s:(HP Vg (HP Int Vr))):Option (Nx (HP Vg (HP Int Vr)) (HP Vg Vr)):=br (cm .lss s.j.j.j.e s.j.j.j.j.e) (gd (cm .geq 1 0)<|ge s.e (cv .i64 (sh .shr .u64 (cv .u64 (ar .add .i64 s.j.j.j.e s.j.j.j.j.e)) 1)) λv0=>call Kv ((v0.1,s.j.e):(Int×Int)) λ(v1:Int)=>br (cm .lss v1 0) (some (.go ⟨s.e,s.j.e,s.j.j.e,(ar .add .i64 (cv .i64 (sh .shr .u64 (cv .u64 (ar .add .i64 s.j.j.j.e s.j.j.j.j.e)) 1)) 1),s.j.j.j.j⟩)) (some (.go ⟨s.e,s.j.e,s.j.j.e,s.j.j.j.e,(cv .i64 (sh .shr .u64 (cv .u64 (ar .add .i64 s.j.j.j.e s.j.j.j.j.e)) 1)),s.j.j.j.j.j⟩))) (some (.out ⟨s.e,s.j.e,s.j.j.e,s.j.j.j.e,s.j.j.j.j.j⟩))
noncomputable def Ja1[W](a:(Vg×Int)):Option Vf:=loop Jas ⟨a.1,a.2,(ln a.1),0,(ln a.1),a.1,()⟩ λv2=>br (cm .lss v2.j.j.j.e v2.j.j.e) (ge v2.e v2.j.j.j.e λv3=>call Kv ((v3.1,v2.j.e):(Int×Int)) λ(v4:Int)=>br (nt (cm .eql v4 0)) (some []) (ge v2.j.j.j.j.e v2.j.j.j.e λv5=>some v5.2)) (some [])
noncomputable def Zk:Ctr:=⟨63,[(.ag,(.ls (.p I (.ls (.p I I))))),(.one,I)],[(false,(.ls (.p I I)))],@Ja1 wv⟩
theorem Jqe(w:W)(a):fnD (dW w) (V1 [(125,Kv)]) 8 63 Zk.as Zk.rs a=@Ja1 w a:=by kernel_rfl
theorem Jqo:V3 Zk:=V2 (Jb Jfg Jl) (Jk (by kernel_rfl)) rfl rfl rfl (Jqe wv)
noncomputable def Qj[W](s:Vt):Option (Nx Vt (Unit⊕Unit)):=br (cm .lss s.j.e s.e) (ge s.j.j.j.j.e s.j.e λv0=>ge s.j.j.j.j.j.j.j.e s.j.e λv1=>br (nt (an (cm .eql v0.1 v1.1) (cm .eql v0.2 v1.2))) (some (.out (.inl ()))) (some (.go ⟨s.e,(ar .add .i64 s.j.e 1),s.j.j⟩))) (some (.out (.inr ())))
noncomputable def Xc[W](a:((Int×(Bool×Vf))×(Int×(Bool×Vf)))):Option Bool:=br (cm .neq a.1.1 a.2.1) (some false) (br (nt (be a.1.2.1 a.2.2.1)) (some false) (br (cm .neq (ln a.1.2.2) (ln a.2.2.2)) (some false) (loop Qj ⟨(ln a.1.2.2),0,a.1.1,a.1.2.1,a.1.2.2,a.2.1,a.2.2.1,a.2.2.2,()⟩ λv2=>match v2 with|.inl v3=>(some false)|.inr v4=>(some true))))
noncomputable def Ky:Ctr:=⟨43,[(.ag,(.p I (.p .bool (.ls (.p I I))))),(.ag,(.p I (.p .bool (.ls (.p I I)))))],[(false,.bool)],@Xc wv⟩
theorem Jd8(w:W)(a):fnD (dW w) (V1 []) 8 43 Ky.as Ky.rs a=@Xc w a:=by kernel_rfl
theorem Jeg:V3 Ky:=V2 Jl (Jk (by kernel_rfl)) rfl rfl rfl (Jd8 wv)
noncomputable def K0[W](s:(HP Vh (HP Vh Vj))):Option (Nx (HP Vh (HP Vh Vj)) (Unit⊕Unit)):=br (cm .lss s.j.j.j.e s.j.j.e) (ge s.e s.j.j.j.e λv0=>ge s.j.e s.j.j.j.e λv1=>call Ky (((v0.1,(v0.2.1,v0.2.2)),(v1.1,(v1.2.1,v1.2.2))):((Int×(Bool×Vf))×(Int×(Bool×Vf)))) λ(v2:Bool)=>br (nt v2) (some (.out (.inl ()))) (some (.go ⟨s.e,s.j.e,s.j.j.e,(ar .add .i64 s.j.j.j.e 1),()⟩))) (some (.out (.inr ())))
noncomputable def Qm[W](a:(Vh×Vh)):Option Bool:=br (cm .neq (ln a.1) (ln a.2)) (some false) (loop K0 ⟨a.1,a.2,(ln a.1),0,()⟩ λv3=>match v3 with|.inl v4=>(some false)|.inr v5=>(some true))
noncomputable def J9:Ctr:=⟨13,[(.one,(.ls (.p I (.p .bool (.ls (.p I I)))))),(.one,(.ls (.p I (.p .bool (.ls (.p I I))))))],[(false,.bool)],@Qm wv⟩
theorem Jbv(w:W)(a):fnD (dW w) (V1 [(43,Ky)]) 8 13 J9.as J9.rs a=@Qm w a:=by kernel_rfl
theorem Jbw:V3 J9:=V2 (Jb Jeg Jl) (Jk (by kernel_rfl)) rfl rfl rfl (Jbv wv)
noncomputable def Kf[W](s:Vn):Option (Nx Vn Vs):=br (cm .lss s.j.e (ln s.j.j.j.j.e)) (ge s.j.j.j.j.e s.j.e λv1=>br (cm .lss v1.1 v1.2) (br (cm .gtr v1.1 (-4097)) (br (cm .lss v1.2 4097) (br (cm .gtr (ar .sub .i64 v1.2 20) v1.1) (gd (ft 16 (pl (ln s.j.j.j.j.j.j.e) 1))<|some (.go ⟨s.e,(ar .add .i64 s.j.e 1),s.j.j.e,s.j.j.j.e,s.j.j.j.j.e,s.j.j.j.j.j.e,(ap s.j.j.j.j.j.j.e ((v1.1,(ar .add .i64 v1.1 20))::[])),()⟩)) (gd (ft 16 (pl (ln s.j.j.j.j.j.j.e) 1))<|some (.go ⟨s.e,(ar .add .i64 s.j.e 1),s.j.j.e,s.j.j.j.e,s.j.j.j.j.e,s.j.j.j.j.j.e,(ap s.j.j.j.j.j.j.e ((v1.1,v1.2)::[])),()⟩))) (gd (ft 16 (pl (ln s.j.j.j.j.j.j.e) 1))<|some (.go ⟨s.e,(ar .add .i64 s.j.e 1),s.j.j.e,s.j.j.j.e,s.j.j.j.j.e,s.j.j.j.j.j.e,(ap s.j.j.j.j.j.j.e ((v1.1,v1.2)::[])),()⟩))) (gd (ft 16 (pl (ln s.j.j.j.j.j.j.e) 1))<|some (.go ⟨s.e,(ar .add .i64 s.j.e 1),s.j.j.e,s.j.j.j.e,s.j.j.j.j.e,s.j.j.j.j.j.e,(ap s.j.j.j.j.j.j.e ((v1.1,v1.2)::[])),()⟩))) (gd (ft 16 (pl (ln s.j.j.j.j.j.j.e) 1))<|some (.go ⟨s.e,(ar .add .i64 s.j.e 1),s.j.j.e,s.j.j.j.e,s.j.j.j.j.e,s.j.j.j.j.j.e,(ap s.j.j.j.j.j.j.e ((v1.1,v1.2)::[])),()⟩))) (some (.out ⟨s.e,s.j.j.e,s.j.j.j.e,s.j.j.j.j.e,s.j.j.j.j.j.j.e,s.j.j.j.j.j.e,()⟩))
noncomputable def jf[W](s:Vn):Option (Nx Vn Vs):=br (cm .lss s.j.e (ln s.j.j.j.j.e)) (ge s.j.j.j.j.e s.j.e λv3=>br (cm .lss v3.1 v3.2) (br (cm .gtr v3.1 (-4097)) (br (cm .lss v3.2 4097) (br (cm .gtr (ar .sub .i64 v3.2 20) v3.1) (gd (ft 16 (pl (ln s.j.j.j.j.j.j.e) 1))<|some (.go ⟨s.e,(ar .add .i64 s.j.e 1),s.j.j.e,s.j.j.j.e,s.j.j.j.j.e,s.j.j.j.j.j.e,(ap s.j.j.j.j.j.j.e ((v3.1,(ar .add .i64 v3.1 20))::[])),()⟩)) (gd (ft 16 (pl (ln s.j.j.j.j.j.j.e) 1))<|some (.go ⟨s.e,(ar .add .i64 s.j.e 1),s.j.j.e,s.j.j.j.e,s.j.j.j.j.e,s.j.j.j.j.j.e,(ap s.j.j.j.j.j.j.e ((v3.1,v3.2)::[])),()⟩))) (gd (ft 16 (pl (ln s.j.j.j.j.j.j.e) 1))<|some (.go ⟨s.e,(ar .add .i64 s.j.e 1),s.j.j.e,s.j.j.j.e,s.j.j.j.j.e,s.j.j.j.j.j.e,(ap s.j.j.j.j.j.j.e ((v3.1,v3.2)::[])),()⟩))) (gd (ft 16 (pl (ln s.j.j.j.j.j.j.e) 1))<|some (.go ⟨s.e,(ar .add .i64 s.j.e 1),s.j.j.e,s.j.j.j.e,s.j.j.j.j.e,s.j.j.j.j.j.e,(ap s.j.j.j.j.j.j.e ((v3.1,v3.2)::[])),()⟩))) (gd (ft 16 (pl (ln s.j.j.j.j.j.j.e) 1))<|some (.go ⟨s.e,(ar .add .i64 s.j.e 1),s.j.j.e,s.j.j.j.e,s.j.j.j.j.e,s.j.j.j.j.j.e,(ap s.j.j.j.j.j.j.e ((v3.1,v3.2)::[])),()⟩))) (some (.out ⟨s.e,s.j.j.e,s.j.j.j.e,s.j.j.j.j.e,s.j.j.j.j.j.j.e,s.j.j.j.j.j.e,()⟩))
noncomputable def Qw[W](s:Vz):Option (Nx Vz (HP Vg Unit)):=br (cm .lss s.e (ln s.j.e)) (br (cm .lss s.e 12) (ge s.j.e s.e λv0=>br (cm .gtr (ln v0.2) 4) (gd (le 0 4)<|gd (le 4 (ln v0.2))<|loop Kf ⟨s.e,0,s.j.e,v0.1,(ct v0.2 0 4),s.j.j.e,[],()⟩ λv2=>gd (ft 32 (pl (ln v2.j.j.j.j.j.e) 1))<|some (.go ⟨(ar .add .i64 v2.e 1),v2.j.e,(ap v2.j.j.j.j.j.e ((v2.j.j.e,v2.j.j.j.j.e)::[])),()⟩)) (loop jf ⟨s.e,0,s.j.e,v0.1,v0.2,s.j.j.e,[],()⟩ λv4=>gd (ft 32 (pl (ln v4.j.j.j.j.j.e) 1))<|some (.go ⟨(ar .add .i64 v4.e 1),v4.j.e,(ap v4.j.j.j.j.j.e ((v4.j.j.e,v4.j.j.j.j.e)::[])),()⟩))) (some (.out s.j.j))) (some (.out s.j.j))
noncomputable def Xy[W](a:Vg):Option Vg:=loop Qw ⟨0,a,[],()⟩ λv5=>some v5.e
noncomputable def K5:Ctr:=⟨12,[(.ag,(.ls (.p I (.ls (.p I I)))))],[(true,(.ls (.p I (.ls (.p I I)))))],@Xy wv⟩
theorem Je5(w:W)(a):fnD (dW w) (V1 []) 8 12 K5.as K5.rs a=@Xy w a:=by kernel_rfl
theorem Jeq:V3 K5:=V2 Jl (Jk (by kernel_rfl)) rfl rfl rfl (Je5 wv)
noncomputable def jy[W](a:Int):Option Bool:=br (cm .geq a 1) (some (cm .leq a 64)) (some false)
noncomputable def Jr:Ctr:=⟨44,[(.one,I)],[(false,.bool)],@jy wv⟩
theorem Jk0(w:W)(a):fnD (dW w) (V1 []) 8 44 Jr.as Jr.rs a=@jy w a:=by kernel_rfl
theorem Y6:V3 Jr:=V2 Jl (Jk (by kernel_rfl)) rfl rfl rfl (Jk0 wv)
noncomputable def Ys[W](s:Vp):Option (Nx Vp Vo):=br (cm .lss s.e s.j.j.j.j.j.j.j.j.j.j.e) (gd (ft 16 (pl (ln s.j.j.j.j.j.j.j.j.j.j.j.e) 1))<|some (.go ⟨(ar .add .i64 s.e 1),s.j.e,s.j.j.e,s.j.j.j.e,s.j.j.j.j.e,s.j.j.j.j.j.e,s.j.j.j.j.j.j.e,s.j.j.j.j.j.j.j.e,s.j.j.j.j.j.j.j.j.e,s.j.j.j.j.j.j.j.j.j.e,s.j.j.j.j.j.j.j.j.j.j.e,(ap s.j.j.j.j.j.j.j.j.j.j.j.e ((s.e,s.j.j.j.j.j.j.j.e)::[])),()⟩)) (some (.out ⟨s.j.e,s.j.j.e,s.j.j.j.e,s.j.j.j.j.e,s.j.j.j.j.j.e,s.j.j.j.j.j.j.e,s.j.j.j.j.j.j.j.e,s.j.j.j.j.j.j.j.j.e,s.j.j.j.j.j.j.j.j.j.j.j⟩))
noncomputable def Yr[W](s:Vo):Option (Nx Vo (HP Vg Vm)):=br (cm .lss s.j.j.j.j.j.e s.j.j.j.j.e) (ge s.j.j.j.e s.j.j.j.j.j.e λv2=>loop Ys ⟨v2.1,s.e,s.j.e,s.j.j.e,s.j.j.j.e,s.j.j.j.j.e,s.j.j.j.j.j.e,s.j.j.j.j.j.j.e,s.j.j.j.j.j.j.j.e,v2.1,v2.2,s.j.j.j.j.j.j.j.j⟩ λv3=>some (.go ⟨v3.e,v3.j.e,v3.j.j.e,v3.j.j.j.e,v3.j.j.j.j.e,(ar .add .i64 v3.j.j.j.j.j.e 1),v3.j.j.j.j.j.j⟩)) (some (.out ⟨s.e,s.j.e,s.j.j.e,s.j.j.j.j.j.j.j.j⟩))
noncomputable def Yq[W](s:(HP Vg Vm)):Option (Nx (HP Vg Vm) Vi):=br (cm .lss s.j.j.e s.j.e) (ge s.e s.j.j.e λv1=>loop Yr ⟨s.e,s.j.e,s.j.j.e,v1.2,(ln v1.2),0,v1.1,v1.2,s.j.j.j⟩ λv4=>some (.go ⟨v4.e,v4.j.e,(ar .add .i64 v4.j.j.e 1),v4.j.j.j⟩)) (some (.out s.j.j.j))
noncomputable def jz[W](a:Vg):Option Vf:=call Jg (a:Vg) λ(v0:Bool)=>br (nt v0) (some []) (loop Yq ⟨a,(ln a),0,[],()⟩ λv5=>some v5.e)
noncomputable def Kg:Ctr:=⟨95,[(.ag,(.ls (.p I (.ls (.p I I)))))],[(false,(.ls (.p I I)))],@jz wv⟩
theorem Jkz(w:W)(a):fnD (dW w) (V1 [(23,Jg)]) 8 95 Kg.as Kg.rs a=@jz w a:=by kernel_rfl
theorem Jbi:V3 Kg:=V2 (Jb Kp Jl) (Jk (by kernel_rfl)) rfl rfl rfl (Jkz wv)
noncomputable def Ja2[W](a:(Int×Int)):Option Int:=gd (cm .neq a.2 0)<|gd (cm .neq a.2 0)<|some (ar .rem .i64 (ar .add .i64 (ar .rem .i64 a.1 a.2) a.2) a.2)
noncomputable def Jq:Ctr:=⟨96,[(.one,I),(.one,I)],[(false,I)],@Ja2 wv⟩
theorem Jqt(w:W)(a):fnD (dW w) (V1 []) 8 96 Jq.as Jq.rs a=@Ja2 w a:=by kernel_rfl
theorem Zm:V3 Jq:=V2 Jl (Jk (by kernel_rfl)) rfl rfl rfl (Jqt wv)
noncomputable def Jba[W](a:(Int×Int)):Option Int:=call Jq ((a.1,a.2):(Int×Int)) λ(v0:Int)=>gd (cm .neq a.2 0)<|some (ar .quo .i64 (ar .sub .i64 a.1 v0) a.2)
noncomputable def Yj:Ctr:=⟨99,[(.one,I),(.one,I)],[(false,I)],@Jba wv⟩
theorem Jpz(w:W)(a):fnD (dW w) (V1 [(96,Jq)]) 8 99 Yj.as Yj.rs a=@Jba w a:=by kernel_rfl
theorem Jpf:V3 Yj:=V2 (Jb Zm Jl) (Jk (by kernel_rfl)) rfl rfl rfl (Jpz wv)
noncomputable def Ks[W](a:((Int×Int)×((Int×Int)×Int))):Option Int:=call Yj (((ar .add .i64 a.1.1 a.1.2),a.2.2):(Int×Int)) λ(v0:Int)=>call Yj (((ar .add .i64 a.2.1.1 a.2.1.2),a.2.2):(Int×Int)) λ(v1:Int)=>br (cm .neq v0 v1) (some (ar .sub .i64 v0 v1)) (br (cm .neq a.1.1 a.2.1.1) (some (ar .sub .i64 a.1.1 a.2.1.1)) (some (ar .sub .i64 a.2.1.2 a.1.2)))
noncomputable def Jb2:Ctr:=⟨98,[(.ag,(.p I I)),(.ag,(.p I I)),(.rp,I)],[(false,I)],@Ks wv⟩
theorem Jbp(w:W)(a):fnD (dW w) (V1 [(99,Yj)]) 8 98 Jb2.as Jb2.rs a=@Ks w a:=by kernel_rfl
theorem Jbu:V3 Jb2:=V2 (Jb Jpf Jl) (Jk (by kernel_rfl)) rfl rfl rfl (Jbp wv)
noncomputable def Xf[W](a:((Vg×(Int×Int))×(Int×Int))):Option (Int×Int):=call Jq (((ar .add .i64 a.2.1 a.2.2),(ar .mul .i64 2 a.1.2.1)):(Int×Int)) λ(v0:Int)=>br (cm .eql v0 0) (some ((ar .add .i64 a.2.1 1),a.2.2)) (some (a.2.1,(ar .sub .i64 a.2.2 1)))
noncomputable def Kx:Ctr:=⟨100,[(.ag,(.p (.ls (.p I (.ls (.p I I)))) (.p I I))),(.ag,(.p I I))],[(true,(.p I I))],@Xf wv⟩
theorem Jec(w:W)(a):fnD (dW w) (V1 [(96,Jq)]) 8 100 Kx.as Kx.rs a=@Xf w a:=by kernel_rfl
theorem Jef:V3 Kx:=V2 (Jb Zm Jl) (Jk (by kernel_rfl)) rfl rfl rfl (Jec wv)
noncomputable def Jhc[W](a:(Int×(Int×Int))):Option Bool:=call Jq ((a.1,a.2.1):(Int×Int)) λ(v0:Int)=>call Jq ((a.2.2,a.2.1):(Int×Int)) λ(v1:Int)=>some (cm .eql v0 v1)
noncomputable def Qd:Ctr:=⟨119,[(.one,I),(.one,I),(.one,I)],[(false,.bool)],@Jhc wv⟩
theorem Jp1(w:W)(a):fnD (dW w) (V1 [(96,Jq)]) 8 119 Qd.as Qd.rs a=@Jhc w a:=by kernel_rfl
theorem Jbb:V3 Qd:=V2 (Jb Zm Jl) (Jk (by kernel_rfl)) rfl rfl rfl (Jp1 wv)
noncomputable def Jju[W](s:(HP Int (HP Int Vm))):Option (Nx (HP Int (HP Int Vm)) Vi):=br (cm .lss s.j.e s.j.j.j.e) (gd (ft 16 (pl (ln s.j.j.j.j.e) 1))<|some (.go ⟨s.e,(ar .add .i64 s.j.e 1),s.j.j.e,s.j.j.j.e,(ap s.j.j.j.j.e ((s.j.e,s.e)::[])),()⟩)) (some (.out s.j.j.j.j))
noncomputable def Jhi[W](a:(Int×(Int×Int))):Option Vf:=loop Jju ⟨a.1,a.2.1,a.2.1,a.2.2,[],()⟩ λv0=>some v0.e
noncomputable def Qc:Ctr:=⟨103,[(.one,I),(.ag,(.p I I))],[(false,(.ls (.p I I)))],@Jhi wv⟩
theorem Jqk(w:W)(a):fnD (dW w) (V1 []) 8 103 Qc.as Qc.rs a=@Jhi w a:=by kernel_rfl
theorem Jbd:V3 Qc:=V2 Jl (Jk (by kernel_rfl)) rfl rfl rfl (Jqk wv)
noncomputable def Jiy[W](s:Vl):Option (Nx Vl Vk):=br (cm .lss s.j.j.j.j.j.j.j.e s.j.j.j.j.j.j.e) (ge s.j.j.j.j.j.e s.j.j.j.j.j.j.j.e λv4=>call Qc ((s.j.j.j.j.j.j.j.j.j.e,(v4.1,v4.2)):(Int×(Int×Int))) λ(v5:Vf)=>gd (ft 40 (pl (ln s.j.j.j.j.j.j.j.j.e) 1))<|some (.go ⟨s.e,s.j.e,s.j.j.e,s.j.j.j.e,s.j.j.j.j.e,s.j.j.j.j.j.e,s.j.j.j.j.j.j.e,(ar .add .i64 s.j.j.j.j.j.j.j.e 1),(ap s.j.j.j.j.j.j.j.j.e ((4,(false,v5))::[])),s.j.j.j.j.j.j.j.j.j⟩)) (some (.out ⟨s.e,s.j.e,s.j.j.e,s.j.j.j.e,s.j.j.j.j.e,s.j.j.j.j.j.j.j.j.e,()⟩))
noncomputable def Jji[W](s:Vk):Option (Nx Vk Vu):=br (cm .lss s.j.j.j.j.e s.j.j.j.e) (ge s.j.j.e s.j.j.j.j.e λv2=>call Qd ((v2.1,(s.e,s.j.e)):(Int×(Int×Int))) λ(v3:Bool)=>br (nt v3) (some (.go ⟨s.e,s.j.e,s.j.j.e,s.j.j.j.e,(ar .add .i64 s.j.j.j.j.e 1),s.j.j.j.j.j⟩)) (loop Jiy ⟨s.e,s.j.e,s.j.j.e,s.j.j.j.e,s.j.j.j.j.e,v2.2,(ln v2.2),0,s.j.j.j.j.j.e,v2.1,v2.2,()⟩ λa=>some (.go ⟨a.e,a.j.e,a.j.j.e,a.j.j.j.e,(ar .add .i64 a.j.j.j.j.e 1),a.j.j.j.j.j⟩))) (some (.out s.j.j.j.j.j))
noncomputable def Ja5[W](a:(Vg×(Int×Int))):Option Vh:=call Jg (a.1:Vg) λ(v0:Bool)=>br (nt v0) (some []) (call Jr (a.2.1:Int) λ(v1:Bool)=>br (nt v1) (some []) (loop Jji ⟨a.2.1,a.2.2,a.1,(ln a.1),0,[],()⟩ λd=>some d.e))
noncomputable def zi:Ctr:=⟨59,[(.ag,(.ls (.p I (.ls (.p I I))))),(.one,I),(.one,I)],[(false,(.ls (.p I (.p .bool (.ls (.p I I))))))],@Ja5 wv⟩
noncomputable def Jcn:OCt:=⟨59,[(.ag,(.ls (.p I (.ls (.p I I))))),(.one,I),(.one,I)],39,(.p I (.p .bool (.ls (.p I I)))),@Ja5 wv⟩
theorem Jn4(w:W)(a):fnO (dW w) (V1 [(103,Qc),(119,Qd),(23,Jg),(44,Jr)]) 8 59 [(.ag,(.ls (.p I (.ls (.p I I))))),(.one,I),(.one,I)] (.p I (.p .bool (.ls (.p I I)))) 39 a=@Ja5 w a:=by kernel_rfl
theorem Jow:Jsg PG Jcn:=own (gam [(103,Qc),(119,Qd),(23,Jg),(44,Jr)]) [] [] [] [] [] [] 8 (Jb Jbd (Jb Jbb (Jb Kp (Jb Y6 Jl)))) J2 J3 (Jk (by kernel_rfl)) rfl (by decide) rfl (Jn4 wv)
theorem Jqy(w:W)(a):fnD (dW w) (V1 [(103,Qc),(119,Qd),(23,Jg),(44,Jr)]) 8 59 zi.as zi.rs a=@Ja5 w a:=by kernel_rfl
theorem Jp7:V3 zi:=V2 (Jb Jbd (Jb Jbb (Jb Kp (Jb Y6 Jl)))) (Jk (by kernel_rfl)) rfl rfl rfl (Jqy wv)
noncomputable def Jit[W](s:U1):Option (Nx U1 Vi):=br (cm .lss s.j.j.e s.j.e) (ge s.e s.j.j.e λv0=>gd (ib s.j.j.e (ln s.j.j.j.e))<|ge s.j.j.j.e s.j.j.e λv1=>some (.go ⟨s.e,s.j.e,(ar .add .i64 s.j.j.e 1),(st s.j.j.j.e s.j.j.e (v0.2,v0.1)),()⟩)) (some (.out s.j.j.j))
noncomputable def Jhh[W](a:Vf):Option Vf:=gd (le 0 (ln a))<|gd (ft 16 (ln a))<|loop Jit ⟨a,(ln a),0,(rp (0,0) (ln a)),()⟩ λv2=>some v2.e
noncomputable def Yn:Ctr:=⟨120,[(.one,(.ls (.p I I)))],[(false,(.ls (.p I I)))],@Jhh wv⟩
theorem Jp9(w:W)(a):fnD (dW w) (V1 []) 8 120 Yn.as Yn.rs a=@Jhh w a:=by kernel_rfl
theorem Jhd:V3 Yn:=V2 Jl (Jk (by kernel_rfl)) rfl rfl rfl (Jp9 wv)
noncomputable def Jft[W](s:Vj):Option (Nx Vj Unit):=br (cm .lss s.j.e s.e) (none) (some (.out ()))
noncomputable def Jfv[W](s:Vj):Option (Nx Vj Unit):=br (cm .lss s.j.e s.e) (none) (some (.out ()))
noncomputable def Jf1[W](s:Vl):Option (Nx Vl Vk):=br (cm .lss s.j.j.j.j.j.j.j.e s.j.j.j.j.j.j.e) (ge s.j.j.j.j.j.e s.j.j.j.j.j.j.j.e λv9=>call Qc ((s.j.j.j.j.j.j.j.j.j.e,(v9.1,v9.2)):(Int×(Int×Int))) λ(v10:Vf)=>gd (ft 40 (pl (ln s.j.j.j.j.j.j.j.j.e) 1))<|some (.go ⟨s.e,s.j.e,s.j.j.e,s.j.j.j.e,s.j.j.j.j.e,s.j.j.j.j.j.e,s.j.j.j.j.j.j.e,(ar .add .i64 s.j.j.j.j.j.j.j.e 1),(ap s.j.j.j.j.j.j.j.j.e ((4,(false,v10))::[])),s.j.j.j.j.j.j.j.j.j⟩)) (some (.out ⟨s.e,s.j.e,s.j.j.e,s.j.j.j.e,s.j.j.j.j.e,s.j.j.j.j.j.j.j.j.e,()⟩))
noncomputable def Jfh[W](s:Vk):Option (Nx Vk Vu):=br (cm .lss s.j.j.j.j.e s.j.j.j.e) (ge s.j.j.e s.j.j.j.j.e λa=>call Qd ((a.1,(s.e,s.j.e)):(Int×(Int×Int))) λ(d:Bool)=>br (nt d) (some (.go ⟨s.e,s.j.e,s.j.j.e,s.j.j.j.e,(ar .add .i64 s.j.j.j.j.e 1),s.j.j.j.j.j⟩)) (loop Jf1 ⟨s.e,s.j.e,s.j.j.e,s.j.j.j.e,s.j.j.j.j.e,a.2,(ln a.2),0,s.j.j.j.j.j.e,a.1,a.2,()⟩ λv11=>some (.go ⟨v11.e,v11.j.e,v11.j.j.e,v11.j.j.j.e,(ar .add .i64 v11.j.j.j.j.e 1),v11.j.j.j.j.j⟩))) (some (.out s.j.j.j.j.j))
noncomputable def Jfi[W](s:(HP Int (HP Int Vu))):Option (Nx (HP Int (HP Int Vu)) Vu):=br (cm .lss s.j.e s.e) (gd (ib s.j.e (ln s.j.j.e))<|ge s.j.j.e s.j.e λv13=>call Yn (v13.2.2:Vf) λ(v14:Vf)=>gd (ib s.j.e (ln s.j.j.e))<|ge s.j.j.e s.j.e λv15=>some (.go ⟨s.e,(ar .add .i64 s.j.e 1),(st s.j.j.e s.j.e (v15.1,(v15.2.1,v14))),()⟩)) (some (.out s.j.j))
noncomputable def Zv[W](a:(Vg×(Int×Int))):Option Vh:=call Kg (a.1:Vg) λ(v0:Vf)=>call Yn (v0:Vf) λ(v1:Vf)=>call Ku (v1:Vf) λ(v2:(Vg×Int))=>br (cm .neq v2.2 0) (some []) (call Jg (v2.1:Vg) λ(v3:Bool)=>br (nt v3) (loop Jft ⟨0,0,()⟩ λv4=>some []) (call Jr (a.2.1:Int) λ(v5:Bool)=>br (nt v5) (loop Jfv ⟨0,0,()⟩ λd=>some []) (loop Jfh ⟨a.2.1,a.2.2,v2.1,(ln v2.1),0,[],()⟩ λv12=>loop Jfi ⟨(ln v12.e),0,v12⟩ λv16=>some v16.e)))
noncomputable def Ym:Ctr:=⟨60,[(.ag,(.ls (.p I (.ls (.p I I))))),(.one,I),(.one,I)],[(false,(.ls (.p I (.p .bool (.ls (.p I I))))))],@Zv wv⟩
noncomputable def Jav:OCt:=⟨60,[(.ag,(.ls (.p I (.ls (.p I I))))),(.one,I),(.one,I)],39,(.p I (.p .bool (.ls (.p I I)))),@Zv wv⟩
theorem Jhp(w:W)(a):fnO (dW w) (V1 [(103,Qc),(119,Qd),(120,Yn),(95,Kg),(64,Ku),(23,Jg),(44,Jr)]) 8 60 [(.ag,(.ls (.p I (.ls (.p I I))))),(.one,I),(.one,I)] (.p I (.p .bool (.ls (.p I I)))) 39 a=@Zv w a:=by kernel_rfl
theorem Jhn:Jsg PG Jav:=own (gam [(103,Qc),(119,Qd),(120,Yn),(95,Kg),(64,Ku),(23,Jg),(44,Jr)]) [] [] [] [] [] [] 8 (Jb Jbd (Jb Jbb (Jb Jhd (Jb Jbi (Jb Jca (Jb Kp (Jb Y6 Jl))))))) J2 J3 (Jk (by kernel_rfl)) rfl (by decide) rfl (Jhp wv)
theorem Jjv(w:W)(a):fnD (dW w) (V1 [(103,Qc),(119,Qd),(120,Yn),(95,Kg),(64,Ku),(23,Jg),(44,Jr)]) 8 60 Ym.as Ym.rs a=@Zv w a:=by kernel_rfl
theorem Jj6:V3 Ym:=V2 (Jb Jbd (Jb Jbb (Jb Jhd (Jb Jbi (Jb Jca (Jb Kp (Jb Y6 Jl))))))) (Jk (by kernel_rfl)) rfl rfl rfl (Jjv wv)
noncomputable def Q2[W](s:(HP Vf (HP Int Vj))):Option (Nx (HP Vf (HP Int Vj)) (Vy⊕Unit)):=br (cm .lss s.j.j.e s.j.e) (ge s.e s.j.j.e λv1=>br (cm .leq v1.1 s.j.j.j.e) (br (cm .lss s.j.j.j.e v1.2) (some (.out (.inl ⟨s.j.j.e,()⟩))) (some (.go ⟨s.e,s.j.e,(ar .add .i64 s.j.j.e 1),s.j.j.j⟩))) (some (.go ⟨s.e,s.j.e,(ar .add .i64 s.j.j.e 1),s.j.j.j⟩))) (some (.out (.inr ())))
noncomputable def Zr[W](a:(Vf×Int)):Option Bool:=call Jy (a.1:Vf) λ(v0:Bool)=>br (nt v0) (some false) (loop Q2 ⟨a.1,(ln a.1),0,a.2,()⟩ λv2=>match v2 with|.inl v3=>(some (cm .geq v3.e 0))|.inr v4=>(some (cm .geq (-1) 0)))
noncomputable def Xl:Ctr:=⟨62,[(.one,(.ls (.p I I))),(.one,I)],[(false,.bool)],@Zr wv⟩
theorem Jip(w:W)(a):fnD (dW w) (V1 [(68,Jy)]) 8 62 Xl.as Xl.rs a=@Zr w a:=by kernel_rfl
theorem Jjd:V3 Xl:=V2 (Jb Jbc Jl) (Jk (by kernel_rfl)) rfl rfl rfl (Jip wv)
noncomputable def Yx[W](a:(Vg×(Int×Int))):Option Bool:=call Jg (a.1:Vg) λ(v0:Bool)=>br v0 (call Zk ((a.1,a.2.2):(Vg×Int)) λ(v1:Vf)=>call Xl ((v1,a.2.1):(Vf×Int)) λ(v2:Bool)=>some v2) (some false)
noncomputable def K4:Ctr:=⟨18,[(.ag,(.ls (.p I (.ls (.p I I))))),(.ag,(.p I I))],[(false,.bool)],@Yx wv⟩
theorem Jgl(w:W)(a):fnD (dW w) (V1 [(23,Jg),(63,Zk),(62,Xl)]) 8 18 K4.as K4.rs a=@Yx w a:=by kernel_rfl
theorem Jgu:V3 K4:=V2 (Jb Kp (Jb Jqo (Jb Jjd Jl))) (Jk (by kernel_rfl)) rfl rfl rfl (Jgl wv)
noncomputable def Zg[W](s:(HP Int U0)):Option (Nx (HP Int U0) Vy):=br (cm .lss s.j.j.j.e s.j.j.e) (ge s.j.e s.j.j.j.e λv1=>some (.go ⟨(ar .add .i64 s.e (ar .sub .i64 v1.2 v1.1)),s.j.e,s.j.j.e,(ar .add .i64 s.j.j.j.e 1),()⟩)) (some (.out ⟨s.e,()⟩))
noncomputable def zy[W](a:Vf):Option Int:=call Jy (a:Vf) λ(v0:Bool)=>br (nt v0) (some 0) (loop Zg ⟨0,a,(ln a),0,()⟩ λv2=>some v2.e)
noncomputable def Zy:Ctr:=⟨65,[(.one,(.ls (.p I I)))],[(false,I)],@zy wv⟩
theorem Jms(w:W)(a):fnD (dW w) (V1 [(68,Jy)]) 8 65 Zy.as Zy.rs a=@zy w a:=by kernel_rfl
theorem Jne:V3 Zy:=V2 (Jb Jbc Jl) (Jk (by kernel_rfl)) rfl rfl rfl (Jms wv)
noncomputable def Yy[W](s:(HP Int (HP Vg Vj))):Option (Nx (HP Int (HP Vg Vj)) Vy):=br (cm .lss s.j.j.j.e s.j.j.e) (ge s.j.e s.j.j.j.e λv1=>call Zy (v1.2:Vf) λ(v2:Int)=>some (.go ⟨(ar .add .i64 s.e v2),s.j.e,s.j.j.e,(ar .add .i64 s.j.j.j.e 1),()⟩)) (some (.out ⟨s.e,()⟩))
noncomputable def Y9[W](a:Vg):Option Int:=call Jg (a:Vg) λ(v0:Bool)=>br (nt v0) (some 0) (loop Yy ⟨0,a,(ln a),0,()⟩ λv3=>some v3.e)
noncomputable def X7:Ctr:=⟨21,[(.ag,(.ls (.p I (.ls (.p I I)))))],[(false,I)],@Y9 wv⟩
theorem Jk1(w:W)(a):fnD (dW w) (V1 [(65,Zy),(23,Jg)]) 8 21 X7.as X7.rs a=@Y9 w a:=by kernel_rfl
theorem Jky:V3 X7:=V2 (Jb Jne (Jb Kp Jl)) (Jk (by kernel_rfl)) rfl rfl rfl (Jk1 wv)
noncomputable def Xg[W](a:((Int×Int)×Int)):Option Int:=gd (cm .neq a.2 0)<|br (cm .lss (ar .rem .i64 (ar .add .i64 a.1.1 a.1.2) a.2) 0) (some (ar .add .i64 (ar .rem .i64 (ar .add .i64 a.1.1 a.1.2) a.2) a.2)) (some (ar .rem .i64 (ar .add .i64 a.1.1 a.1.2) a.2))
noncomputable def Jn:Ctr:=⟨19,[(.ag,(.p I I)),(.one,I)],[(false,I)],@Xg wv⟩
theorem Jea(w:W)(a):fnD (dW w) (V1 []) 8 19 Jn.as Jn.rs a=@Xg w a:=by kernel_rfl
theorem Jd7:V3 Jn:=V2 Jl (Jk (by kernel_rfl)) rfl rfl rfl (Jea wv)
noncomputable def zf[W](a:((Int×Int)×(Int×Int))):Option Bool:=some (cm .eql (ar .add .i64 (ar .mul .i64 (ar .sub .i64 a.1.1 a.2.1) (ar .sub .i64 a.1.1 a.2.1)) (ar .mul .i64 (ar .sub .i64 a.1.2 a.2.2) (ar .sub .i64 a.1.2 a.2.2))) 1)
noncomputable def Qo:Ctr:=⟨157,[(.ag,(.p I I)),(.ag,(.p I I))],[(false,.bool)],@zf wv⟩
theorem Jp0(w:W)(a):fnD (dW w) (V1 []) 8 157 Qo.as Qo.rs a=@zf w a:=by kernel_rfl
theorem Jhl:V3 Qo:=V2 Jl (Jk (by kernel_rfl)) rfl rfl rfl (Jp0 wv)
noncomputable def zw[W](a:((Int×Int)×(Int×Int))):Option Int:=some (ar .sub .i64 a.1.1 a.2.1)
noncomputable def Jm1:Ctr:=⟨209,[(.ag,(.p I I)),(.ag,(.p I I))],[(false,I)],@zw wv⟩
theorem Jm8(w:W)(a):fnD (dW w) (V1 []) 8 209 Jm1.as Jm1.rs a=@zw w a:=by kernel_rfl
theorem Jn9:V3 Jm1:=V2 Jl (Jk (by kernel_rfl)) rfl rfl rfl (Jm8 wv)
noncomputable def Zc[W](s:U1):Option (Nx U1 Vi):=br (cm .lss s.j.j.e s.j.e) (ge s.e s.j.j.e λv0=>br (cm .geq (ar .sub .i64 (ln s.j.j.j.e) 1) 0) (gd (ib (ar .sub .i64 (ln s.j.j.j.e) 1) (ln s.j.j.j.e))<|ge s.j.j.j.e (ar .sub .i64 (ln s.j.j.j.e) 1) λv1=>br (cm .leq v0.1 v1.2) (gd (ib (ar .sub .i64 (ln s.j.j.j.e) 1) (ln s.j.j.j.e))<|ge s.j.j.j.e (ar .sub .i64 (ln s.j.j.j.e) 1) λv2=>gd (ib (ar .sub .i64 (ln s.j.j.j.e) 1) (ln s.j.j.j.e))<|ge s.j.j.j.e (ar .sub .i64 (ln s.j.j.j.e) 1) λv3=>some (.go ⟨s.e,s.j.e,(ar .add .i64 s.j.j.e 1),(st s.j.j.j.e (ar .sub .i64 (ln s.j.j.j.e) 1) (v3.1,(mx v2.2 v0.2))),()⟩)) (gd (ft 16 (pl (ln s.j.j.j.e) 1))<|some (.go ⟨s.e,s.j.e,(ar .add .i64 s.j.j.e 1),(ap s.j.j.j.e ((v0.1,v0.2)::[])),()⟩))) (gd (ft 16 (pl (ln s.j.j.j.e) 1))<|some (.go ⟨s.e,s.j.e,(ar .add .i64 s.j.j.e 1),(ap s.j.j.j.e ((v0.1,v0.2)::[])),()⟩))) (some (.out s.j.j.j))
noncomputable def Jah[W](a:Vf):Option Vf:=loop Zc ⟨a,(ln a),0,[],()⟩ λv4=>some v4.e
noncomputable def jm:Ctr:=⟨210,[(.one,(.ls (.p I I)))],[(false,(.ls (.p I I)))],@Jah wv⟩
theorem Jst(w:W)(a):fnD (dW w) (V1 []) 8 210 jm.as jm.rs a=@Jah w a:=by kernel_rfl
theorem Jr9:V3 jm:=V2 Jl (Jk (by kernel_rfl)) rfl rfl rfl (Jst wv)
end Go.Proofs.YtmfagdfkpjgeiaaGreat
namespace Go.Proofs.YtmfagdfkpjgeiaaGreat
open Go Go.Vv Go.Dn
def cmpR(x y:Int×Int):Int:=IntKind.wrap .i64 (x.1 - y.1)
def okR(x:Int×Int):Bool:=decide (-4611686018427387904<x.1/\x.1<4611686018427387904)
theorem Jdf{x y:Int×Int}(hx:okR x=true)(a:okR y=true):cmpR x y<0↔x.1<y.1:=by
 simp only [okR,decide_eq_true_eq] at hx a;have:cmpR x y=x.1 - y.1:=by simp only [cmpR,IntKind.wrap,IntKind.bits,IntKind.signed];simp;omega
 rw [this];omega
theorem swoR:Go.Sort.SWO (Go.Proofs.ltOf λx y:{x:Int×Int // okR x=true}=>cmpR x.1 y.1):=by
 refine ⟨λx=>?_,λx y z d a=>?_,λx y z d a=>?_⟩
 ·simp only [Go.Proofs.ltOf,decide_eq_false_iff_not,Jdf x.2 x.2];omega
 ·simp only [Go.Proofs.ltOf,decide_eq_true_eq,Jdf x.2 y.2,Jdf y.2 z.2,Jdf x.2 z.2] at *;omega
 ·simp only [Go.Proofs.ltOf,decide_eq_false_iff_not,Jdf x.2 y.2,Jdf y.2 z.2,Jdf x.2 z.2] at *;omega
def eqR(x y:Int×Int):Bool:=x.1==y.1&&x.2==y.2
theorem eqR_eq(x y:Int×Int)(h:eqR x y=true):x=y:=by simp only [eqR,Bool.and_eq_true,beq_iff_eq] at h;exact Prod.ext h.1 h.2
def zR:{x:Int×Int // okR x=true}:=⟨(0,0),by decide⟩
noncomputable def Jh7:SCt:=⟨208,209,true,.p I I,Jgz (t:=.p I I) cmpR okR eqR zR⟩
noncomputable def Jg2:Ctr:=Jh7.ctr
theorem norm1_ok(x y:Int×Int):@zw wv (x,y)=some (cmpR x y):=rfl
theorem Jvd:SGood PG Jh7:=
 Jxd (P:=PG) (ρ:=Tryz.sortL208_ren) (t:=.p I I) Tryz.sortL208 rfl (λw=>by kernel_rfl) (λw=>by kernel_rfl) (g:=209) (fn:=@zw wv) Jn9 cmpR norm1_ok okR swoR eqR eqR_eq zR (by decide) (Jk (by kernel_rfl))
end Go.Proofs.YtmfagdfkpjgeiaaGreat
