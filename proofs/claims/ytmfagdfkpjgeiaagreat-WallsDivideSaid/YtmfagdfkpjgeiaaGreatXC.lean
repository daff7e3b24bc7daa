/- Cells are sorted by the library's sort. Conditions: none. -/
import Derived.Test.YtmfagdfkpjgeiaaGreatXB
import Derived.Test.YtmfagdfkpjgeiaaGreatFB
import Derived.Test.YtmfagdfkpjgeiaaGreatTT
set_option linter.unusedVariables false
set_option linter.unusedSimpArgs false
set_option maxRecDepth 100000
namespace Go.Proofs.YtmfagdfkpjgeiaaGreat
open Go Go.Vv Go.Dn
theorem swoC:Go.Sort.SWO (Go.Proofs.ltOf cmpC):=by
 refine ⟨λx=>?_,λx y z d a=>?_,λx y z d a=>?_⟩
 ·simp only [Go.Proofs.ltOf,decide_eq_false_iff_not,Jpb];omega
 ·simp only [Go.Proofs.ltOf,decide_eq_true_eq,Jpb] at *;omega
 ·simp only [Go.Proofs.ltOf,decide_eq_false_iff_not,Jpb] at *;omega
theorem totC(x y:Int×Int)(g:Go.Proofs.ltOf cmpC x y=false)(f:Go.Proofs.ltOf cmpC y x=false):x=y:=by
 simp only [Go.Proofs.ltOf,decide_eq_false_iff_not,Jpb] at *
 obtain ⟨a,b⟩:=x;obtain ⟨c,d⟩:=y;simp only [Prod.mk.injEq] at *
 omega
noncomputable def Jt6:SCt:=⟨97,127,true,.p I I,λl=>if List.length (α:=Int×Int) l<4611686018427387904 then some (Jcx (α:=Int×Int) (λx y=>!(Go.Proofs.ltOf cmpC) y x) l) else none⟩
noncomputable def Jqf:Ctr:=Jt6.ctr
instance:Inhabited (Ty.p I I).T:=⟨((0:Int),(0:Int))⟩
theorem J8d:Jf1 PG Jt6 :=
 J6r (P:=PG) (ρ:=Tryz.sortL97_ren) (t:=.p I I) Tryz.sortL97 rfl (by decide) (λw=>by kernel_rfl) (λw=>by kernel_rfl) (g:=127) (fn:=@Jc5 wv) Juh cmpC of1_ok swoC totC (by decide) (Jo (by kernel_rfl))
end Go.Proofs.YtmfagdfkpjgeiaaGreat
namespace Go.Proofs.YtmfagdfkpjgeiaaGreat
open Go Go.Vv Go.Dn Go.Dn.W
abbrev U2:=List (Int×Int)
abbrev U3:=List (Int×U2)
abbrev U8:=HP U2 Unit
abbrev U4:=HP U2 (HP Int (HP U2 (HP Int U8)))
abbrev Ub:=HP Int (HP Int Unit)
abbrev Uc:=HP Bool U4
abbrev Ue:=HP Int (HP Int (HP Bool U8))
abbrev Uf:=HP Bool (HP Int U4)
abbrev Ug:=HP Int (HP Int U8)
abbrev Ui:=List (Int×(Bool×U2))
abbrev Uk:=HP Int (HP Int (HP U2 (HP U3 U8)))
abbrev Ul:=List Int
abbrev U5:=HP Int (HP U3 (HP U3 (HP Ul Unit)))
abbrev U9:=HP U3 (HP U3 (HP Int (HP U3 (HP Int U5))))
abbrev Uh:=HP U3 (HP U3 U5)
abbrev Um:=HP Int (HP U2 (HP Int Ue))
abbrev Uo:=HP U2 Ub
abbrev Uq:=HP Bool (HP Int Uc)
abbrev Ur:=HP U3 Unit
abbrev U6:=HP Int (HP U3 (HP Int (HP Int (HP U3 Ur))))
abbrev U7:=HP Int (HP U3 (HP Int (HP Int (HP Int (HP U2 (HP U3 Ur))))))
abbrev Ua:=HP Int (HP Int Ur)
abbrev Ud:=HP Ul (HP Int (HP Int (HP U3 (HP U3 Ur))))
abbrev Uj:=HP Int (HP Int (HP U2 (HP Int U7)))
abbrev Un:=HP U3 (HP Int (HP Int Ua))
noncomputable def z7[W](s:(HP U2 Uo)):Option (Nx (HP U2 Uo) ((HP Int Unit)⊕U8)):=br (cm .lss s.j.j.j.e s.j.j.e) (ge s.j.e s.j.j.j.e λv0=>call K4 (v0.1:Int) λ(v1:Bool)=>br (nt v1) (some (.out (.inl ⟨8,()⟩))) (call K4 (v0.2:Int) λ(v2:Bool)=>br (nt v2) (some (.out (.inl ⟨8,()⟩))) (some (.go ⟨s.e,⟨s.j.e,⟨s.j.j.e,⟨(ar .add .i64 s.j.j.j.e 1),()⟩⟩⟩⟩)))) (some (.out (.inr ⟨s.e,()⟩)))
noncomputable def Jcd[W](s:Ub):Option (Nx Ub Unit):=br (cm .lss s.j.e s.e) (none) (some (.out ()))
noncomputable def ja[W](s:Uk):Option (Nx Uk (HP U3 U8)):=br (cm .lss s.j.e s.e) (gd (ib s.j.e (ln s.j.j.e))<|ge s.j.j.e s.j.e λv9=>br (cm .eql (ln s.j.j.j.e) 0) (gd (ft 32 (pl (ln s.j.j.j.e) 1))<|some (.go ⟨s.e,⟨(ar .add .i64 s.j.e 1),⟨s.j.j.e,⟨(ap (ml s.j.j.j.e λy=>(y.1,s.j.j.j.j.e)) ((v9.2,[])::[])),⟨((v9.1,(ar .add .i64 v9.1 1))::[]),()⟩⟩⟩⟩⟩)) (gd (ib (ar .sub .i64 (ln s.j.j.j.e) 1) (ln s.j.j.j.e))<|ge s.j.j.j.e (ar .sub .i64 (ln s.j.j.j.e) 1) λv10=>br (cm .neq v10.1 v9.2) (gd (ft 32 (pl (ln s.j.j.j.e) 1))<|some (.go ⟨s.e,⟨(ar .add .i64 s.j.e 1),⟨s.j.j.e,⟨(ap (ml s.j.j.j.e λy=>(y.1,s.j.j.j.j.e)) ((v9.2,[])::[])),⟨((v9.1,(ar .add .i64 v9.1 1))::[]),()⟩⟩⟩⟩⟩)) (gd (ib (ar .sub .i64 (ln s.j.j.j.e) 1) (ln s.j.j.j.e))<|ge s.j.j.j.e (ar .sub .i64 (ln s.j.j.j.e) 1) λv11=>gd (cm .eql (pl (ar .sub .i64 (ln s.j.j.j.e) 1) 1) (ln s.j.j.j.e))<|ge s.j.j.j.e (ar .sub .i64 (ln s.j.j.j.e) 1) λv12=>gd (cm .eql (pl (ar .sub .i64 (ln s.j.j.j.e) 1) 1) (ln s.j.j.j.e))<|gd (ib (ar .sub .i64 (ln s.j.j.j.j.e) 1) (ln s.j.j.j.j.e))<|ge s.j.j.j.j.e (ar .sub .i64 (ln s.j.j.j.j.e) 1) λv13=>br (cm .gtr v9.1 v13.2) (ge s.j.j.j.e (ar .sub .i64 (ln s.j.j.j.e) 1) λv14=>gd (cm .eql (pl (ar .sub .i64 (ln s.j.j.j.e) 1) 1) (ln s.j.j.j.e))<|gd (ft 16 (pl (ln s.j.j.j.j.e) 1))<|ge s.j.j.j.e (ar .sub .i64 (ln s.j.j.j.e) 1) λv15=>gd (cm .eql (pl (ar .sub .i64 (ln s.j.j.j.e) 1) 1) (ln s.j.j.j.e))<|some (.go ⟨s.e,⟨(ar .add .i64 s.j.e 1),⟨s.j.j.e,⟨(st s.j.j.j.e (ar .sub .i64 (ln s.j.j.j.e) 1) (v15.1,v15.2)),⟨(ap s.j.j.j.j.e ((v9.1,(ar .add .i64 v9.1 1))::[])),()⟩⟩⟩⟩⟩)) (ge s.j.j.j.j.e (ar .sub .i64 (ln s.j.j.j.j.e) 1) λv16=>ge s.j.j.j.j.e (ar .sub .i64 (ln s.j.j.j.j.e) 1) λv17=>some (.go ⟨s.e,⟨(ar .add .i64 s.j.e 1),⟨s.j.j.e,⟨s.j.j.j.e,⟨(st s.j.j.j.j.e (ar .sub .i64 (ln s.j.j.j.j.e) 1) (v17.1,(mx v16.2 (ar .add .i64 v9.1 1)))),()⟩⟩⟩⟩⟩))))) (some (.out s.j.j.j))
noncomputable def Jdk[W](a:U2):Option (U3×Int):=loop z7 ⟨a,⟨a,⟨(ln a),⟨0,()⟩⟩⟩⟩ λv3=>match v3 with|.inl v4=>(some ([],v4.e))|.inr v5=>(nq (ln v5.e) λf=>br f (loop Jcd ⟨0,⟨0,()⟩⟩ λg=>some ([],0)) (gd (ft 16 (pl 0 (ln v5.e)))<|call Jqf (v5.e:U2) λ(d:U2)=>loop ja ⟨(ln d),⟨0,⟨d,⟨[],⟨[],()⟩⟩⟩⟩⟩ λv18=>some ((ml v18.e λy=>(y.1,v18.j.e)),0)))
noncomputable def Jbv:Ctr:=⟨64,[(.one,(.ls (.p I I)))],[(true,(.ls (.p I (.ls (.p I I))))),(false,I)],@Jdk wv⟩
theorem Jzl(w:W)(a):fnD (dW w) (cxO (gam [(67,K4)]) [11,12,13,14,15,16,17,18,19,20,21] [] [Jt6] [] [] []) 8 64 Jbv.as Jbv.rs a=@Jdk w a:=by kernel_rfl
theorem Jz5:V3 Jbv:=good (gam [(67,K4)]) [11,12,13,14,15,16,17,18,19,20,21] [] [Jt6] [] [] [] 8 (Je Jo8 Jq) (Jts J8d J4) J6 (Jo (by kernel_rfl)) rfl rfl (Jzl wv)
noncomputable def Jb6[W](a:(Int×Int)):Option Bool:=br (cm .geq a.1 (-4096)) (br (cm .lss a.1 4096) (br (cm .geq a.2 (-4096)) (some (cm .lss a.2 4096)) (some false)) (some false)) (some false)
noncomputable def Zy:Ctr:=⟨88,[(.ag,(.p I I))],[(false,.bool)],@Jb6 wv⟩
theorem Jqz(w:W)(a):fnD (dW w) (V1 []) 8 88 Zy.as Zy.rs a=@Jb6 w a:=by kernel_rfl
theorem Jqw:V3 Zy:=V2 Jq (Jo (by kernel_rfl)) rfl rfl (Jqz wv)
noncomputable def ze[W](a:((Int×Int)×(Int×Int))):Option Bool:=some (cm .eql (ar .add .i64 (ar .mul .i64 (ar .sub .i64 a.1.1 a.2.1) (ar .sub .i64 a.1.1 a.2.1)) (ar .mul .i64 (ar .sub .i64 a.1.2 a.2.2) (ar .sub .i64 a.1.2 a.2.2))) 1)
noncomputable def Q5:Ctr:=⟨89,[(.ag,(.p I I)),(.ag,(.p I I))],[(false,.bool)],@ze wv⟩
theorem Jl6(w:W)(a):fnD (dW w) (V1 []) 8 89 Q5.as Q5.rs a=@ze w a:=by kernel_rfl
theorem Jl9:V3 Q5:=V2 Jq (Jo (by kernel_rfl)) rfl rfl (Jl6 wv)
noncomputable def Zp[W](s:Um):Option (Nx Um (Unit⊕Ue)):=br (cm .lss s.j.j.j.e s.j.j.e) (ge s.j.e s.j.j.j.e λv0=>call Zy ((v0.1,v0.2):(Int×Int)) λ(v1:Bool)=>br (nt v1) (some (.out (.inl ()))) (br (cm .gtr s.j.j.j.e 0) (ge s.j.j.j.j.j.j.e (ar .sub .i64 s.j.j.j.e 1) λv2=>call Q5 (((v2.1,v2.2),(v0.1,v0.2)):((Int×Int)×(Int×Int))) λ(v3:Bool)=>br (nt v3) (some (.out (.inl ()))) (some (.go ⟨s.e,⟨s.j.e,⟨s.j.j.e,⟨(ar .add .i64 s.j.j.j.e 1),s.j.j.j.j⟩⟩⟩⟩))) (some (.go ⟨s.e,⟨s.j.e,⟨s.j.j.e,⟨(ar .add .i64 s.j.j.j.e 1),s.j.j.j.j⟩⟩⟩⟩)))) (some (.out (.inr ⟨s.e,s.j.j.j.j⟩)))
noncomputable def Jc3[W](a:(Int×(Bool×U2))):Option Bool:=br (cm .lss a.1 1) (some false) (br (cm .gtr a.1 7) (some false) (br (cm .lss (ln a.2.2) 1) (some false) (br (cm .gtr (ln a.2.2) 65536) (some false) (loop Zp ⟨(ln a.2.2),⟨a.2.2,⟨(ln a.2.2),⟨0,⟨a.1,⟨a.2.1,⟨a.2.2,()⟩⟩⟩⟩⟩⟩⟩ λv4=>match v4 with|.inl v5=>(some false)|.inr d=>(br (nt d.j.j.e) (some true) (br (cm .eql d.e 1) (some true) (ge d.j.j.j.e (ar .sub .i64 d.e 1) λg=>ge d.j.j.j.e 0 λf=>call Q5 (((g.1,g.2),(f.1,f.2)):((Int×Int)×(Int×Int))) λ(v9:Bool)=>some v9)))))))
noncomputable def Qj:Ctr:=⟨35,[(.ag,(.p I (.p .bool (.ls (.p I I)))))],[(false,.bool)],@Jc3 wv⟩
theorem Jtj(w:W)(a):fnD (dW w) (V1 [(88,Zy),(89,Q5)]) 8 35 Qj.as Qj.rs a=@Jc3 w a:=by kernel_rfl
theorem Jf6:V3 Qj:=V2 (Je Jqw (Je Jl9 Jq)) (Jo (by kernel_rfl)) rfl rfl (Jtj wv)
noncomputable def Jaa[W](s:(HP Ui Ug)):Option (Nx (HP Ui Ug) U8):=br (cm .lss s.j.j.e s.j.e) (ge s.e s.j.j.e λv0=>call Qj ((v0.1,(v0.2.1,v0.2.2)):(Int×(Bool×U2))) λ(v1:Bool)=>br v1 (gd (ft 16 (pl (ln s.j.j.j.e) (ln v0.2.2)))<|some (.go ⟨s.e,⟨s.j.e,⟨(ar .add .i64 s.j.j.e 1),⟨(ap s.j.j.j.e v0.2.2),()⟩⟩⟩⟩)) (some (.go ⟨s.e,⟨s.j.e,⟨(ar .add .i64 s.j.j.e 1),s.j.j.j⟩⟩⟩))) (some (.out s.j.j.j))
noncomputable def zj[W](a:Ui):Option U3:=loop Jaa ⟨a,⟨(ln a),⟨0,⟨[],()⟩⟩⟩⟩ λv2=>call Jbv (v2.e:U2) λ(v3:(U3×Int))=>some v3.1
noncomputable def zg:Ctr:=⟨20,[(.one,(.ls (.p I (.p .bool (.ls (.p I I))))))],[(true,(.ls (.p I (.ls (.p I I)))))],@zj wv⟩
theorem Juq(w:W)(a):fnD (dW w) (V1 [(35,Qj),(64,Jbv)]) 8 20 zg.as zg.rs a=@zj w a:=by kernel_rfl
theorem Jul:V3 zg:=V2 (Je Jf6 (Je Jz5 Jq)) (Jo (by kernel_rfl)) rfl rfl (Juq wv)
end Go.Proofs.YtmfagdfkpjgeiaaGreat
namespace Go.Proofs.YtmfagdfkpjgeiaaGreat
open Go Go.Vv Go.Dn
noncomputable def Jrk:SCt:=⟨148,0,false,I,Jsn⟩
noncomputable def Jm9:Ctr:=Jrk.ctr
theorem J11:Jf1 PG Jrk:=J30 (P:=PG) (ρ:=Tryz.sortI148_ren) Tryz.sortI148 (by decide) (Jo (by kernel_rfl))
noncomputable def Jh6:Ctr:=Go.Dn.cmpC 149
def Jcf:Bi:=compB 149 3
theorem Jjz:Ji1 PG 149 Jcf :=
 J43 (P:=PG) (ρ:=Tryz.comp149_ren) Tryz.comp149 (Go.Proofs.EqlAt.intD _ _ .i64) (Go.Proofs.NeqAt.intD _ _ .i64) (λw=>by kernel_rfl) (by kernel_rfl) (Jo (by kernel_rfl))
end Go.Proofs.YtmfagdfkpjgeiaaGreat
namespace Go.Proofs.YtmfagdfkpjgeiaaGreat
open Go Go.Vv Go.Dn Go.Dn.W
noncomputable def Jc8[W](a:(U3×Int)):Option Bool:=br (cm .geq a.2 0) (br (cm .leq a.2 64) (call Jm (a.1:U3) λ(v0:Bool)=>some v0) (some false)) (some false)
noncomputable def Jbf:Ctr:=⟨81,[(.ag,(.ls (.p I (.ls (.p I I))))),(.one,I)],[(false,.bool)],@Jc8 wv⟩
theorem Jt5(w:W)(a):fnD (dW w) (V1 [(23,Jm)]) 8 81 Jbf.as Jbf.rs a=@Jc8 w a:=by kernel_rfl
theorem Jui:V3 Jbf:=V2 (Je Y7 Jq) (Jo (by kernel_rfl)) rfl rfl (Jt5 wv)
noncomputable def Yc[W](s:Uc):Option (Uc⊕U8):=call Jp ((s.j.e,s.j.j.e):(U2×Int)) λ(v2:Bool)=>br (nt v2) (some ((.inl s))) (call Jp ((s.j.j.j.e,s.j.j.j.j.e):(U2×Int)) λ(v3:Bool)=>br (nt v3) (some ((.inl s))) (some ((.inr s.j.j.j.j.j))))
noncomputable def Jan[W](v5:Uc)(d:Int)(a:Int):Option Uf:=call Jl ((v5.j.e,v5.j.j.e):(U2×Int)) λ(f:Int)=>br (cm .eql f (mn d a)) (some (⟨v5.e,⟨(mn d a),⟨v5.j.e,⟨(ar .add .i64 v5.j.j.e 1),v5.j.j.j⟩⟩⟩⟩)) (some (⟨v5.e,⟨(mn d a),v5.j⟩⟩))
noncomputable def Jak[W](v9:Uf):Option Uf:=call Jl ((v9.j.j.j.j.e,v9.j.j.j.j.j.e):(U2×Int)) λ(v10:Int)=>br (cm .eql v10 v9.j.e) (some (⟨v9.e,⟨v9.j.e,⟨v9.j.j.e,⟨v9.j.j.j.e,⟨v9.j.j.j.j.e,⟨(ar .add .i64 v9.j.j.j.j.j.e 1),v9.j.j.j.j.j.j⟩⟩⟩⟩⟩⟩)) (some (v9))
noncomputable def Jal[W](v11:Uf):Option Uq:=call Jn ((v11.j.j.e,v11.j.j.j.e):(U2×Int)) λ(v12:Bool)=>call Jn ((v11.j.j.j.j.e,v11.j.j.j.j.j.e):(U2×Int)) λ(v13:Bool)=>br v12 (some (⟨v11.e,⟨v11.j.e,⟨v13,v11.j.j⟩⟩⟩)) (some (⟨v11.e,⟨v11.j.e,⟨false,v11.j.j⟩⟩⟩))
noncomputable def Jap[W](v14:Uq):Option Uc:=br v14.j.j.e (br (nt v14.e) (gd (ft 16 (pl (ln v14.j.j.j.j.j.j.j.e) 1))<|some (⟨v14.j.j.e,⟨v14.j.j.j.e,⟨v14.j.j.j.j.e,⟨v14.j.j.j.j.j.e,⟨v14.j.j.j.j.j.j.e,⟨(ap v14.j.j.j.j.j.j.j.e ((v14.j.e,0)::[])),()⟩⟩⟩⟩⟩⟩)) (br (nt v14.j.j.e) (br v14.e (gd (ib (ar .sub .i64 (ln v14.j.j.j.j.j.j.j.e) 1) (ln v14.j.j.j.j.j.j.j.e))<|ge v14.j.j.j.j.j.j.j.e (ar .sub .i64 (ln v14.j.j.j.j.j.j.j.e) 1) λv15=>some (⟨v14.j.j.e,⟨v14.j.j.j.e,⟨v14.j.j.j.j.e,⟨v14.j.j.j.j.j.e,⟨v14.j.j.j.j.j.j.e,⟨(st v14.j.j.j.j.j.j.j.e (ar .sub .i64 (ln v14.j.j.j.j.j.j.j.e) 1) (v15.1,v14.j.e)),()⟩⟩⟩⟩⟩⟩)) (some (v14.j.j))) (some (v14.j.j)))) (br (nt v14.j.j.e) (br v14.e (gd (ib (ar .sub .i64 (ln v14.j.j.j.j.j.j.j.e) 1) (ln v14.j.j.j.j.j.j.j.e))<|ge v14.j.j.j.j.j.j.j.e (ar .sub .i64 (ln v14.j.j.j.j.j.j.j.e) 1) λv16=>some (⟨v14.j.j.e,⟨v14.j.j.j.e,⟨v14.j.j.j.j.e,⟨v14.j.j.j.j.j.e,⟨v14.j.j.j.j.j.j.e,⟨(st v14.j.j.j.j.j.j.j.e (ar .sub .i64 (ln v14.j.j.j.j.j.j.j.e) 1) (v16.1,v14.j.e)),()⟩⟩⟩⟩⟩⟩)) (some (v14.j.j))) (some (v14.j.j)))
noncomputable def Q8[W](s:Uc):Option (Nx Uc U8):=join (Yc s) λv4=>match v4 with|.inl v5=>(call Jl ((v5.j.e,v5.j.j.e):(U2×Int)) λ(d:Int)=>call Jl ((v5.j.j.j.e,v5.j.j.j.j.e):(U2×Int)) λ(a:Int)=>join (Jan v5 d a) λv9=>join (Jak v9) λv11=>join (Jal v11) λv14=>join (Jap v14) λv17=>some (.go v17))|.inr v18=>(some (.out ⟨v18.e,()⟩))
noncomputable def Zq[W](a:(U2×U2)):Option U2:=call Jr (a.1:U2) λ(v0:Bool)=>br (nt v0) (some []) (call Jr (a.2:U2) λ(v1:Bool)=>br (nt v1) (some []) (loop Q8 ⟨false,⟨a.1,⟨0,⟨a.2,⟨0,⟨[],()⟩⟩⟩⟩⟩⟩ λv19=>some v19.e))
noncomputable def Zr:Ctr:=⟨82,[(.one,(.ls (.p I I))),(.one,(.ls (.p I I)))],[(false,(.ls (.p I I)))],@Zq wv⟩
theorem Jm4(w:W)(a):fnD (dW w) (cxO (gam [(188,Jp),(189,Jl),(191,Jn),(68,Jr)]) [] [] [] [32768007,32768009,32768010,32768011,32768015] [] []) 8 82 Zr.as Zr.rs a=@Zq w a:=by kernel_rfl
theorem Jmv:V3 Zr:=good (gam [(188,Jp),(189,Jl),(191,Jn),(68,Jr)]) [] [] [] [32768007,32768009,32768010,32768011,32768015] [] [] 8 (Je js (Je Jbb (Je Za (Je Jas Jq)))) J4 J6 (Jo (by kernel_rfl)) rfl rfl (Jm4 wv)
noncomputable def Jaf[W](s:(HP Int (HP U2 Ug))):Option (Nx (HP Int (HP U2 Ug)) U8):=br (cm .lss s.j.j.j.e s.j.j.e) (ge s.j.e s.j.j.j.e λv1=>br (cm .lss (ar .add .i64 v1.1 s.e) (ar .sub .i64 v1.2 s.e)) (gd (ft 16 (pl (ln s.j.j.j.j.e) 1))<|some (.go ⟨s.e,⟨s.j.e,⟨s.j.j.e,⟨(ar .add .i64 s.j.j.j.e 1),⟨(ap s.j.j.j.j.e (((ar .add .i64 v1.1 s.e),(ar .sub .i64 v1.2 s.e))::[])),()⟩⟩⟩⟩⟩)) (some (.go ⟨s.e,⟨s.j.e,⟨s.j.j.e,⟨(ar .add .i64 s.j.j.j.e 1),s.j.j.j.j⟩⟩⟩⟩))) (some (.out s.j.j.j.j))
noncomputable def Jda[W](a:(U2×Int)):Option U2:=call Jr (a.1:U2) λ(v0:Bool)=>br (nt v0) (some []) (br (cm .lss a.2 0) (some []) (br (cm .gtr a.2 1048576) (some []) (loop Jaf ⟨a.2,⟨a.1,⟨(ln a.1),⟨0,⟨[],()⟩⟩⟩⟩⟩ λv2=>some v2.e)))
noncomputable def Jbe:Ctr:=⟨83,[(.one,(.ls (.p I I))),(.one,I)],[(false,(.ls (.p I I)))],@Jda wv⟩
theorem Juv(w:W)(a):fnD (dW w) (V1 [(68,Jr)]) 8 83 Jbe.as Jbe.rs a=@Jda w a:=by kernel_rfl
theorem Js3:V3 Jbe:=V2 (Je Jas Jq) (Jo (by kernel_rfl)) rfl rfl (Juv wv)
noncomputable def Zs[W](a:(U3×Int))(s:U6):Option (Nx U6 (HP Int (HP U3 Ur))):=br (cm .lss s.j.j.j.e s.j.j.e) (ge s.j.e s.j.j.j.e λv1=>call Jbe ((v1.2,s.e):(U2×Int)) λ(v2:U2)=>some (.go ⟨s.e,⟨s.j.e,⟨s.j.j.e,⟨(ar .add .i64 s.j.j.j.e 1),⟨s.j.j.j.j.e,⟨(ms (a:=I) (b:=(.ls (.p I I))) s.j.j.j.j.j.e v1.1 v2),()⟩⟩⟩⟩⟩⟩)) (some (.out ⟨s.e,s.j.j.j.j⟩))
noncomputable def Zt[W](a:(U3×Int))(s:Uj):Option (Nx Uj (HP U2 U7)):=br (cm .leq s.j.j.j.e (ar .add .i64 s.e s.j.e)) (call Zr ((s.j.j.e,(mg (a:=I) (b:=(.ls (.p I I))) s.j.j.j.j.j.j.j.j.j.j.e s.j.j.j.e [])):(U2×U2)) λ(v5:U2)=>some (.go ⟨s.e,⟨s.j.e,⟨v5,⟨(ar .add .i64 s.j.j.j.e 1),s.j.j.j.j⟩⟩⟩⟩)) (some (.out ⟨s.j.j.e,⟨s.j.j.j.j.e,⟨s.j.j.j.j.j.e,⟨s.j.j.j.j.j.j.e,⟨s.j.j.j.j.j.j.j.e,⟨s.j.j.j.j.j.j.j.j.e,⟨s.j.j.j.j.j.j.j.j.j.e,⟨s.j.j.j.j.j.j.j.j.j.j.j.e,⟨s.j.j.j.j.j.j.j.j.j.j.e,()⟩⟩⟩⟩⟩⟩⟩⟩⟩))
noncomputable def Zx[W](a:(U3×Int))(s:U6):Option (Nx U6 Ur):=br (cm .lss s.j.j.j.e s.j.j.e) (ge s.j.e s.j.j.j.e λv4=>loop (Zt a) ⟨v4.1,⟨s.e,⟨(mg (a:=I) (b:=(.ls (.p I I))) s.j.j.j.j.e (ar .sub .i64 v4.1 s.e) []),⟨(ar .add .i64 (ar .sub .i64 v4.1 s.e) 1),⟨s.e,⟨s.j.e,⟨s.j.j.e,⟨s.j.j.j.e,⟨v4.1,⟨v4.2,s.j.j.j.j⟩⟩⟩⟩⟩⟩⟩⟩⟩⟩ λd=>br (cm .gtr (ln d.e) 0) (gd (ft 16 (pl 0 (ln d.e)))<|gd (ft 32 (pl (ln d.j.j.j.j.j.j.j.e) 1))<|some (.go ⟨d.j.e,⟨d.j.j.e,⟨d.j.j.j.e,⟨(ar .add .i64 d.j.j.j.j.e 1),⟨d.j.j.j.j.j.j.j.j.e,⟨(ap d.j.j.j.j.j.j.j.e ((d.j.j.j.j.j.e,d.e)::[])),()⟩⟩⟩⟩⟩⟩)) (some (.go ⟨d.j.e,⟨d.j.j.e,⟨d.j.j.j.e,⟨(ar .add .i64 d.j.j.j.j.e 1),⟨d.j.j.j.j.j.j.j.j.e,⟨d.j.j.j.j.j.j.j.e,()⟩⟩⟩⟩⟩⟩))) (some (.out s.j.j.j.j.j))
noncomputable def zn[W](a:(U3×Int)):Option U3:=call Jbf ((a.1,a.2):(U3×Int)) λ(v0:Bool)=>br (nt v0) (some []) (loop (Zs a) ⟨a.2,⟨a.1,⟨(ln a.1),⟨0,⟨a.1,⟨[],()⟩⟩⟩⟩⟩⟩ λv3=>loop (Zx a) ⟨v3.e,⟨v3.j.e,⟨(ln v3.j.e),⟨0,⟨v3.j.j.e,⟨[],()⟩⟩⟩⟩⟩⟩ λd=>some d.e)
noncomputable def Jbh:Ctr:=⟨33,[(.ag,(.ls (.p I (.ls (.p I I))))),(.one,I)],[(true,(.ls (.p I (.ls (.p I I)))))],@zn wv⟩
theorem Jt9(w:W)(a):fnD (dW w) (cxO (gam [(83,Jbe),(81,Jbf)]) [] [] [] [] [(82,Zr.bi)] []) 8 33 Jbh.as Jbh.rs a=@zn w a:=by kernel_rfl
theorem Jsr:V3 Jbh:=good (gam [(83,Jbe),(81,Jbf)]) [] [] [] [] [(82,Zr.bi)] [] 8 (Je Js3 (Je Jui Jq)) J4 (Jjj (J6d Jmv rfl) J6) (Jo (by kernel_rfl)) rfl rfl (Jt9 wv)
noncomputable def Jdw[W](s:Un):Option (Nx Un (HP U3 (HP Int Ua))):=br (cm .lss s.j.j.j.e s.j.j.j.j.e) (gd (cm .geq 1 0)<|ge s.e (cv .i64 (sh .shr .u64 (cv .u64 (ar .add .i64 s.j.j.j.e s.j.j.j.j.e)) 1)) λv0=>call Qw ((v0.1,s.j.e):(Int×Int)) λ(v1:Int)=>br (cm .lss v1 0) (some (.go ⟨s.e,⟨s.j.e,⟨s.j.j.e,⟨(ar .add .i64 (cv .i64 (sh .shr .u64 (cv .u64 (ar .add .i64 s.j.j.j.e s.j.j.j.j.e)) 1)) 1),s.j.j.j.j⟩⟩⟩⟩)) (some (.go ⟨s.e,⟨s.j.e,⟨s.j.j.e,⟨s.j.j.j.e,⟨(cv .i64 (sh .shr .u64 (cv .u64 (ar .add .i64 s.j.j.j.e s.j.j.j.j.e)) 1)),s.j.j.j.j.j⟩⟩⟩⟩⟩))) (some (.out ⟨s.e,⟨s.j.e,⟨s.j.j.e,⟨s.j.j.j.e,s.j.j.j.j.j⟩⟩⟩⟩))
noncomputable def Jei[W](a:(U3×Int)):Option U2:=loop Jdw ⟨a.1,⟨a.2,⟨(ln a.1),⟨0,⟨(ln a.1),⟨a.1,()⟩⟩⟩⟩⟩⟩ λv2=>br (cm .lss v2.j.j.j.e v2.j.j.e) (ge v2.e v2.j.j.j.e λv3=>call Qw ((v3.1,v2.j.e):(Int×Int)) λ(v4:Int)=>br (nt (cm .eql v4 0)) (some []) (ge v2.j.j.j.j.e v2.j.j.j.e λv5=>some v5.2)) (some [])
noncomputable def Xk:Ctr:=⟨63,[(.ag,(.ls (.p I (.ls (.p I I))))),(.one,I)],[(false,(.ls (.p I I)))],@Jei wv⟩
theorem Jxe(w:W)(a):fnD (dW w) (V1 [(125,Qw)]) 8 63 Xk.as Xk.rs a=@Jei w a:=by kernel_rfl
theorem Jmp:V3 Xk:=V2 (Je Jjx Jq) (Jo (by kernel_rfl)) rfl rfl (Jxe wv)
noncomputable def Qi[W](a:U2):Option U2:=nq (ln a) λv0=>br v0 (some []) (gd (ft 16 (pl 0 (ln a)))<|some a)
noncomputable def Jt:Ctr:=⟨150,[(.one,(.ls (.p I I)))],[(false,(.ls (.p I I)))],@Qi wv⟩
theorem Jcr(w:W)(a):fnD (dW w) (V1 []) 8 150 Jt.as Jt.rs a=@Qi w a:=by kernel_rfl
theorem Zl:V3 Jt:=V2 Jq (Jo (by kernel_rfl)) rfl rfl (Jcr wv)
noncomputable def Q3[W](s:U9):Option (Nx U9 Uh):=br (cm .lss s.j.j.j.j.j.e s.j.j.j.j.e) (ge s.j.j.j.e s.j.j.j.j.j.e λv2=>gd (ft 8 (pl (ln s.j.j.j.j.j.j.j.j.e) 1))<|some (.go ⟨s.e,⟨s.j.e,⟨s.j.j.e,⟨s.j.j.j.e,⟨s.j.j.j.j.e,⟨(ar .add .i64 s.j.j.j.j.j.e 1),⟨s.j.j.j.j.j.j.e,⟨s.j.j.j.j.j.j.j.e,⟨(ap s.j.j.j.j.j.j.j.j.e (v2.1::[])),()⟩⟩⟩⟩⟩⟩⟩⟩⟩)) (some (.out ⟨s.e,⟨s.j.e,⟨s.j.j.e,s.j.j.j.j.j.j⟩⟩⟩))
noncomputable def Jcz[W](s:U9):Option (Nx U9 Uh):=br (cm .lss s.j.j.j.j.j.e s.j.j.j.j.e) (ge s.j.j.j.e s.j.j.j.j.j.e λv4=>gd (ft 8 (pl (ln s.j.j.j.j.j.j.j.j.e) 1))<|some (.go ⟨s.e,⟨s.j.e,⟨s.j.j.e,⟨s.j.j.j.e,⟨s.j.j.j.j.e,⟨(ar .add .i64 s.j.j.j.j.j.e 1),⟨s.j.j.j.j.j.j.e,⟨s.j.j.j.j.j.j.j.e,⟨(ap s.j.j.j.j.j.j.j.j.e (v4.1::[])),()⟩⟩⟩⟩⟩⟩⟩⟩⟩)) (some (.out ⟨s.e,⟨s.j.e,⟨s.j.j.e,s.j.j.j.j.j.j⟩⟩⟩))
noncomputable def Kv[W](s:Uh):Option (Nx Uh (HP U3 (HP U3 (HP Ul Unit)))):=br (cm .lss s.j.j.e 2) (br (cm .eql s.j.j.e 0) (loop Q3 ⟨s.e,⟨s.j.e,⟨s.j.j.e,⟨s.e,⟨(ln s.e),⟨0,s.j.j.j⟩⟩⟩⟩⟩⟩ λv3=>some (.go ⟨v3.e,⟨v3.j.e,⟨(ar .add .i64 v3.j.j.e 1),v3.j.j.j⟩⟩⟩)) (br (cm .eql s.j.j.e 1) (loop Jcz ⟨s.e,⟨s.j.e,⟨s.j.j.e,⟨s.j.e,⟨(ln s.j.e),⟨0,s.j.j.j⟩⟩⟩⟩⟩⟩ λv5=>some (.go ⟨v5.e,⟨v5.j.e,⟨(ar .add .i64 v5.j.j.e 1),v5.j.j.j⟩⟩⟩)) (none))) (some (.out s.j.j.j))
noncomputable def Xw[W](s:Ud):Option (Nx Ud Ur):=br (cm .lss s.j.j.e s.j.e) (ge s.e s.j.j.e λv9=>call Xk ((s.j.j.j.e,v9):(U3×Int)) λ(v10:U2)=>call Xk ((s.j.j.j.j.e,v9):(U3×Int)) λ(v11:U2)=>call K2 ((v10,v11):(U2×U2)) λ(v12:U2)=>br (cm .gtr (ln v12) 0) (call Jt (v12:U2) λ(v13:U2)=>gd (ft 32 (pl (ln s.j.j.j.j.j.e) 1))<|some (.go ⟨s.e,⟨s.j.e,⟨(ar .add .i64 s.j.j.e 1),⟨s.j.j.j.e,⟨s.j.j.j.j.e,⟨(ap s.j.j.j.j.j.e ((v9,v13)::[])),()⟩⟩⟩⟩⟩⟩)) (some (.go ⟨s.e,⟨s.j.e,⟨(ar .add .i64 s.j.j.e 1),s.j.j.j⟩⟩⟩))) (some (.out s.j.j.j.j.j))
noncomputable def Xa[W](a:(U3×U3)):Option U3:=call Jm (a.1:U3) λ(v0:Bool)=>br (nt v0) (some []) (call Jm (a.2:U3) λ(v1:Bool)=>br (nt v1) (some []) (loop Kv ⟨a.1,⟨a.2,⟨0,⟨a.1,⟨a.2,⟨[],()⟩⟩⟩⟩⟩⟩ λd=>call Jm9 (d.j.j.e:Ul) λ(g:Ul)=>call Jh6 (g:Ul) λ(f:Ul)=>loop Xw ⟨f,⟨(ln f),⟨0,⟨d.e,⟨d.j.e,⟨[],()⟩⟩⟩⟩⟩⟩ λv14=>some v14.e))
noncomputable def X8:Ctr:=⟨36,[(.ag,(.ls (.p I (.ls (.p I I))))),(.ag,(.ls (.p I (.ls (.p I I)))))],[(true,(.ls (.p I (.ls (.p I I)))))],@Xa wv⟩
theorem Jlz(w:W)(a):fnD (dW w) (cxO (gam [(63,Xk),(150,Jt),(23,Jm)]) [] [] [Jrk] [] [(91,K2.bi),(149,Jcf)] []) 8 36 X8.as X8.rs a=@Xa w a:=by kernel_rfl
theorem Jly:V3 X8:=good (gam [(63,Xk),(150,Jt),(23,Jm)]) [] [] [Jrk] [] [(91,K2.bi),(149,Jcf)] [] 8 (Je Jmp (Je Zl (Je Y7 Jq))) (Jts J11 J4) (Jjj (J6d Jhe rfl) (Jjj Jjz J6)) (Jo (by kernel_rfl)) rfl rfl (Jlz wv)
noncomputable def Jex[W](s:Uo):Option (Nx Uo (Unit⊕Unit)):=br (cm .lss s.j.j.e (ln s.e)) (ge s.e s.j.j.e λv0=>br (cm .leq v0.1 s.j.e) (ge s.e s.j.j.e λv1=>br (cm .lss s.j.e v1.2) (some (.out (.inl ()))) (some (.go ⟨s.e,⟨s.j.e,⟨(ar .add .i64 s.j.j.e 1),()⟩⟩⟩))) (some (.go ⟨s.e,⟨s.j.e,⟨(ar .add .i64 s.j.j.e 1),()⟩⟩⟩))) (some (.out (.inr ())))
noncomputable def Jg1[W](a:(U2×Int)):Option Bool:=loop Jex ⟨a.1,⟨a.2,⟨0,()⟩⟩⟩ λv2=>match v2 with|.inl v3=>(some true)|.inr v4=>(some false)
noncomputable def Jgw:Ctr:=⟨164,[(.one,(.ls (.p I I))),(.one,I)],[(false,.bool)],@Jg1 wv⟩
noncomputable def Jgu[W](s:Ua):Option (Nx Ua (U8⊕Unit)):=br (cm .lss s.j.e (ln s.j.j.e)) (ge s.j.j.e s.j.e λv0=>br (cm .eql v0.1 s.e) (ge s.j.j.e s.j.e λv1=>some (.out (.inl ⟨v1.2,()⟩))) (some (.go ⟨s.e,⟨(ar .add .i64 s.j.e 1),s.j.j⟩⟩))) (some (.out (.inr ())))
noncomputable def Ji9[W](a:(U3×Int)):Option U2:=loop Jgu ⟨a.2,⟨0,⟨a.1,()⟩⟩⟩ λv2=>match v2 with|.inl v3=>(some v3.e)|.inr v4=>(some [])
noncomputable def Jjf:Ctr:=⟨165,[(.ag,(.ls (.p I (.ls (.p I I))))),(.one,I)],[(false,(.ls (.p I I)))],@Ji9 wv⟩
noncomputable def Jfk[W](a:(U3×(Int×Int))):Option Bool:=call Ju (a.1:U3) λ(v0:Bool)=>br v0 (call Jjf ((a.1,a.2.2):(U3×Int)) λ(v1:U2)=>call Jgw ((v1,a.2.1):(U2×Int)) λ(v2:Bool)=>some v2) (some false)
noncomputable def Jfg:Ctr:=⟨116,[(.ag,(.ls (.p I (.ls (.p I I))))),(.ag,(.p I I))],[(false,.bool)],@Jfk wv⟩
end Go.Proofs.YtmfagdfkpjgeiaaGreat
