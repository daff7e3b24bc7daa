/- Cells are sorted by the library's sort. Conditions: none. -/
import Derived.Test.YtmfagdfkpjgeiaaGreatXB
import Derived.Test.YtmfagdfkpjgeiaaGreatFB
import Derived.Test.YtmfagdfkpjgeiaaGreatTT
set_option linter.unusedVariables false
set_option linter.unusedSimpArgs false
set_option maxRecDepth 100000
namespace Go.Proofs.YtmfagdfkpjgeiaaGreat
open Go Go.Vv Go.Dn
theorem swoC:Go.Sort.SWO (Go.Proofs.ltOf cmpC):=by
 refine ⟨λx=>?_,λx y z d a=>?_,λx y z d a=>?_⟩
 ·simp only [Go.Proofs.ltOf,decide_eq_false_iff_not,Jnq];omega
 ·simp only [Go.Proofs.ltOf,decide_eq_true_eq,Jnq] at *;omega
 ·simp only [Go.Proofs.ltOf,decide_eq_false_iff_not,Jnq] at *;omega
theorem totC(x y:Int×Int)(g:Go.Proofs.ltOf cmpC x y=false)(f:Go.Proofs.ltOf cmpC y x=false):x=y:=by
 simp only [Go.Proofs.ltOf,decide_eq_false_iff_not,Jnq] at *
 obtain ⟨a,b⟩:=x;obtain ⟨c,d⟩:=y;simp only [Prod.mk.injEq] at *
 omega
noncomputable def Jrs:SCt:=⟨97,127,true,.p I I,λl=>if List.length (α:=Int×Int) l<4611686018427387904 then some (Jbv (α:=Int×Int) (λx y=>!(Go.Proofs.ltOf cmpC) y x) l) else none⟩
noncomputable def Jml:Ctr:=Jrs.ctr
instance:Inhabited (Ty.p I I).T:=⟨((0:Int),(0:Int))⟩
theorem J33:Je9 PG Jrs:=
 J31 (P:=PG) (ρ:=Tryz.sortL97_ren) (t:=.p I I) Tryz.sortL97 rfl (by decide) (λw=>by kernel_rfl) (λw=>by kernel_rfl) (g:=127) (fn:=@Jb5 wv) Jrt cmpC of1_ok swoC totC (by decide) (Jr (by kernel_rfl))
end Go.Proofs.YtmfagdfkpjgeiaaGreat
namespace Go.Proofs.YtmfagdfkpjgeiaaGreat
open Go Go.Vv Go.Dn Go.Dn.W
abbrev U2:=List (Int×Int)
abbrev U3:=List (Int×U2)
abbrev U5:=HP Int (HP U3 (HP Int (HP Int (HP U3 (HP U3 Unit)))))
abbrev U6:=HP Int (HP U3 (HP Int (HP Int (HP Int (HP U2 (HP U3 (HP U3 Unit)))))))
abbrev U7:=HP U2 Unit
abbrev U4:=HP U2 (HP Int (HP U2 (HP Int U7)))
abbrev U8:=HP Int (HP Int (HP U3 Unit))
abbrev U9:=HP Int (HP Int Unit)
abbrev Ua:=HP Bool U4
abbrev Ub:=HP Int (HP Int (HP Bool U7))
abbrev Uc:=HP Bool (HP Int U4)
abbrev Ud:=HP Int (HP Int U7)
abbrev Ue:=List (Int×(Bool×U2))
abbrev Uf:=HP Int (HP Int (HP U2 (HP Int U6)))
abbrev Ug:=HP Int (HP Int (HP U2 (HP U3 U7)))
abbrev Uh:=HP Int (HP U2 (HP Int Ub))
abbrev Ui:=HP U3 (HP Int (HP Int U8))
abbrev Uj:=HP U2 U9
abbrev Uk:=HP Bool (HP Int Ua)
noncomputable def jr[W](s:(HP U2 Uj)):Option (Nx (HP U2 Uj) ((HP Int Unit)⊕U7)):=br (cm .lss s.j.j.j.e s.j.j.e) (ge s.j.e s.j.j.j.e λv0=>call J5 (v0.1:Int) λ(v1:Bool)=>br (nt v1) (some (.out (.inl ⟨8,()⟩))) (call J5 (v0.2:Int) λ(v2:Bool)=>br (nt v2) (some (.out (.inl ⟨8,()⟩))) (some (.go ⟨s.e,s.j.e,s.j.j.e,(ar .add .i64 s.j.j.j.e 1),()⟩)))) (some (.out (.inr ⟨s.e,()⟩)))
noncomputable def Ja7[W](s:U9):Option (Nx U9 Unit):=br (cm .lss s.j.e s.e) (none) (some (.out ()))
noncomputable def Zb[W](s:Ug):Option (Nx Ug (HP U3 U7)):=br (cm .lss s.j.e s.e) (gd (ib s.j.e (ln s.j.j.e))<|ge s.j.j.e s.j.e λv9=>br (cm .eql (ln s.j.j.j.e) 0) (gd (ft 32 (pl (ln s.j.j.j.e) 1))<|some (.go ⟨s.e,(ar .add .i64 s.j.e 1),s.j.j.e,(ap (ml s.j.j.j.e λy=>(y.1,s.j.j.j.j.e)) ((v9.2,[])::[])),((v9.1,(ar .add .i64 v9.1 1))::[]),()⟩)) (gd (ib (ar .sub .i64 (ln s.j.j.j.e) 1) (ln s.j.j.j.e))<|ge s.j.j.j.e (ar .sub .i64 (ln s.j.j.j.e) 1) λv10=>br (cm .neq v10.1 v9.2) (gd (ft 32 (pl (ln s.j.j.j.e) 1))<|some (.go ⟨s.e,(ar .add .i64 s.j.e 1),s.j.j.e,(ap (ml s.j.j.j.e λy=>(y.1,s.j.j.j.j.e)) ((v9.2,[])::[])),((v9.1,(ar .add .i64 v9.1 1))::[]),()⟩)) (gd (ib (ar .sub .i64 (ln s.j.j.j.e) 1) (ln s.j.j.j.e))<|ge s.j.j.j.e (ar .sub .i64 (ln s.j.j.j.e) 1) λv11=>gd (cm .eql (pl (ar .sub .i64 (ln s.j.j.j.e) 1) 1) (ln s.j.j.j.e))<|ge s.j.j.j.e (ar .sub .i64 (ln s.j.j.j.e) 1) λv12=>gd (cm .eql (pl (ar .sub .i64 (ln s.j.j.j.e) 1) 1) (ln s.j.j.j.e))<|gd (ib (ar .sub .i64 (ln s.j.j.j.j.e) 1) (ln s.j.j.j.j.e))<|ge s.j.j.j.j.e (ar .sub .i64 (ln s.j.j.j.j.e) 1) λv13=>br (cm .gtr v9.1 v13.2) (ge s.j.j.j.e (ar .sub .i64 (ln s.j.j.j.e) 1) λv14=>gd (cm .eql (pl (ar .sub .i64 (ln s.j.j.j.e) 1) 1) (ln s.j.j.j.e))<|gd (ft 16 (pl (ln s.j.j.j.j.e) 1))<|ge s.j.j.j.e (ar .sub .i64 (ln s.j.j.j.e) 1) λv15=>gd (cm .eql (pl (ar .sub .i64 (ln s.j.j.j.e) 1) 1) (ln s.j.j.j.e))<|some (.go ⟨s.e,(ar .add .i64 s.j.e 1),s.j.j.e,(st s.j.j.j.e (ar .sub .i64 (ln s.j.j.j.e) 1) (v15.1,v15.2)),(ap s.j.j.j.j.e ((v9.1,(ar .add .i64 v9.1 1))::[])),()⟩)) (ge s.j.j.j.j.e (ar .sub .i64 (ln s.j.j.j.j.e) 1) λv16=>ge s.j.j.j.j.e (ar .sub .i64 (ln s.j.j.j.j.e) 1) λv17=>some (.go ⟨s.e,(ar .add .i64 s.j.e 1),s.j.j.e,s.j.j.j.e,(st s.j.j.j.j.e (ar .sub .i64 (ln s.j.j.j.j.e) 1) (v17.1,(mx v16.2 (ar .add .i64 v9.1 1)))),()⟩))))) (some (.out s.j.j.j))
noncomputable def Jct[W](a:U2):Option (U3×Int):=loop jr ⟨a,a,(ln a),0,()⟩ λv3=>match v3 with|.inl v4=>(some ([],v4.e))|.inr v5=>(nq (ln v5.e) λf=>br f (loop Ja7 ⟨0,0,()⟩ λg=>some ([],0)) (gd (ft 16 (pl 0 (ln v5.e)))<|call Jml (v5.e:U2) λ(d:U2)=>loop Zb ⟨(ln d),0,d,[],[],()⟩ λv18=>some ((ml v18.e λy=>(y.1,v18.j.e)),0)))
noncomputable def Ja0:Ctr:=⟨64,[(.one,(.ls (.p I I)))],[(true,(.ls (.p I (.ls (.p I I))))),(false,I)],@Jct wv⟩
theorem Jw9(w:W)(a):fnD (dW w) (cxO (gam [(67,J5)]) [11,12,13,14,15,16,17,18,19,20,21] [] [Jrs] [] [] []) 8 64 Ja0.as Ja0.rs a=@Jct w a:=by kernel_rfl
theorem Jwf:V3 Ja0:=good (gam [(67,J5)]) [11,12,13,14,15,16,17,18,19,20,21] [] [Jrs] [] [] [] 8 (Je Jhw Ju) (Jw6 J33 Ka) Kb (Jr (by kernel_rfl)) rfl rfl (Jw9 wv)
noncomputable def Ja9[W](a:(Int×Int)):Option Bool:=br (cm .geq a.1 (-4096)) (br (cm .lss a.1 4096) (br (cm .geq a.2 (-4096)) (some (cm .lss a.2 4096)) (some false)) (some false)) (some false)
noncomputable def Y8:Ctr:=⟨88,[(.ag,(.p I I))],[(false,.bool)],@Ja9 wv⟩
theorem Jou(w:W)(a):fnD (dW w) (V1 []) 8 88 Y8.as Y8.rs a=@Ja9 w a:=by kernel_rfl
theorem Jos:V3 Y8:=V2 Ju (Jr (by kernel_rfl)) rfl rfl (Jou wv)
noncomputable def ja[W](a:((Int×Int)×(Int×Int))):Option Bool:=some (cm .eql (ar .add .i64 (ar .mul .i64 (ar .sub .i64 a.1.1 a.2.1) (ar .sub .i64 a.1.1 a.2.1)) (ar .mul .i64 (ar .sub .i64 a.1.2 a.2.2) (ar .sub .i64 a.1.2 a.2.2))) 1)
noncomputable def Qr:Ctr:=⟨89,[(.ag,(.p I I)),(.ag,(.p I I))],[(false,.bool)],@ja wv⟩
theorem Jkn(w:W)(a):fnD (dW w) (V1 []) 8 89 Qr.as Qr.rs a=@ja w a:=by kernel_rfl
theorem Jjv:V3 Qr:=V2 Ju (Jr (by kernel_rfl)) rfl rfl (Jkn wv)
noncomputable def Y3[W](s:Uh):Option (Nx Uh (Unit⊕Ub)):=br (cm .lss s.j.j.j.e s.j.j.e) (ge s.j.e s.j.j.j.e λv0=>call Y8 ((v0.1,v0.2):(Int×Int)) λ(v1:Bool)=>br (nt v1) (some (.out (.inl ()))) (br (cm .gtr s.j.j.j.e 0) (ge s.j.j.j.j.j.j.e (ar .sub .i64 s.j.j.j.e 1) λv2=>call Qr (((v2.1,v2.2),(v0.1,v0.2)):((Int×Int)×(Int×Int))) λ(v3:Bool)=>br (nt v3) (some (.out (.inl ()))) (some (.go ⟨s.e,s.j.e,s.j.j.e,(ar .add .i64 s.j.j.j.e 1),s.j.j.j.j⟩))) (some (.go ⟨s.e,s.j.e,s.j.j.e,(ar .add .i64 s.j.j.j.e 1),s.j.j.j.j⟩)))) (some (.out (.inr ⟨s.e,s.j.j.j.j⟩)))
noncomputable def Jb8[W](a:(Int×(Bool×U2))):Option Bool:=br (cm .lss a.1 1) (some false) (br (cm .gtr a.1 7) (some false) (br (cm .lss (ln a.2.2) 1) (some false) (br (cm .gtr (ln a.2.2) 65536) (some false) (loop Y3 ⟨(ln a.2.2),a.2.2,(ln a.2.2),0,a.1,a.2.1,a.2.2,()⟩ λv4=>match v4 with|.inl v5=>(some false)|.inr d=>(br (nt d.j.j.e) (some true) (br (cm .eql d.e 1) (some true) (ge d.j.j.j.e (ar .sub .i64 d.e 1) λg=>ge d.j.j.j.e 0 λf=>call Qr (((g.1,g.2),(f.1,f.2)):((Int×Int)×(Int×Int))) λ(v9:Bool)=>some v9)))))))
noncomputable def Xh:Ctr:=⟨35,[(.ag,(.p I (.p .bool (.ls (.p I I)))))],[(false,.bool)],@Jb8 wv⟩
theorem Jse(w:W)(a):fnD (dW w) (V1 [(88,Y8),(89,Qr)]) 8 35 Xh.as Xh.rs a=@Jb8 w a:=by kernel_rfl
theorem Jiy:V3 Xh:=V2 (Je Jos (Je Jjv Ju)) (Jr (by kernel_rfl)) rfl rfl (Jse wv)
noncomputable def jw[W](s:(HP Ue Ud)):Option (Nx (HP Ue Ud) U7):=br (cm .lss s.j.j.e s.j.e) (ge s.e s.j.j.e λv0=>call Xh ((v0.1,(v0.2.1,v0.2.2)):(Int×(Bool×U2))) λ(v1:Bool)=>br v1 (gd (ft 16 (pl (ln s.j.j.j.e) (ln v0.2.2)))<|some (.go ⟨s.e,s.j.e,(ar .add .i64 s.j.j.e 1),(ap s.j.j.j.e v0.2.2),()⟩)) (some (.go ⟨s.e,s.j.e,(ar .add .i64 s.j.j.e 1),s.j.j.j⟩))) (some (.out s.j.j.j))
noncomputable def Yv[W](a:Ue):Option U3:=loop jw ⟨a,(ln a),0,[],()⟩ λv2=>call Ja0 (v2.e:U2) λ(v3:(U3×Int))=>some v3.1
noncomputable def Xe:Ctr:=⟨20,[(.one,(.ls (.p I (.p .bool (.ls (.p I I))))))],[(true,(.ls (.p I (.ls (.p I I)))))],@Yv wv⟩
theorem Jr8(w:W)(a):fnD (dW w) (V1 [(35,Xh),(64,Ja0)]) 8 20 Xe.as Xe.rs a=@Yv w a:=by kernel_rfl
theorem Jri:V3 Xe:=V2 (Je Jiy (Je Jwf Ju)) (Jr (by kernel_rfl)) rfl rfl (Jr8 wv)
end Go.Proofs.YtmfagdfkpjgeiaaGreat
namespace Go.Proofs.YtmfagdfkpjgeiaaGreat
open Go Go.Vv Go.Dn
noncomputable def Jyu:SCt:=⟨148,0,false,I,Jrp⟩
noncomputable def Jzi:Ctr:=Jyu.ctr
theorem g_s148_0:Je9 PG Jyu:=J06 (P:=PG) (ρ:=Tryz.sortI148_ren) Tryz.sortI148 (by decide) (Jr (by kernel_rfl))
noncomputable def Jqo:Ctr:=Go.Dn.cmpC 149
def Jfy:Bi:=compB 149 3
theorem Jsu:Jhi PG 149 Jfy:=
 J56 (P:=PG) (ρ:=Tryz.comp149_ren) Tryz.comp149 (Go.Proofs.EqlAt.intD _ _ .i64) (Go.Proofs.NeqAt.intD _ _ .i64) (λw=>by kernel_rfl) (by kernel_rfl) (Jr (by kernel_rfl))
end Go.Proofs.YtmfagdfkpjgeiaaGreat
namespace Go.Proofs.YtmfagdfkpjgeiaaGreat
open Go Go.Vv Go.Dn Go.Dn.W
noncomputable def Jb0[W](a:(U3×Int)):Option Bool:=br (cm .geq a.2 0) (br (cm .leq a.2 64) (call Jn (a.1:U3) λ(v0:Bool)=>some v0) (some false)) (some false)
noncomputable def Jae:Ctr:=⟨81,[(.ag,(.ls (.p I (.ls (.p I I))))),(.one,I)],[(false,.bool)],@Jb0 wv⟩
theorem Jqx(w:W)(a):fnD (dW w) (V1 [(23,Jn)]) 8 81 Jae.as Jae.rs a=@Jb0 w a:=by kernel_rfl
theorem Jry:V3 Jae:=V2 (Je Yi Ju) (Jr (by kernel_rfl)) rfl rfl (Jqx wv)
noncomputable def Xt[W](s:Ua):Option (Ua⊕U7):=call Jo ((s.j.e,s.j.j.e):(U2×Int)) λ(v2:Bool)=>br (nt v2) (some ((.inl s))) (call Jo ((s.j.j.j.e,s.j.j.j.j.e):(U2×Int)) λ(v3:Bool)=>br (nt v3) (some ((.inl s))) (some ((.inr s.j.j.j.j.j))))
noncomputable def zd[W](v5:Ua)(d:Int)(a:Int):Option Uc:=call Jl ((v5.j.e,v5.j.j.e):(U2×Int)) λ(f:Int)=>br (cm .eql f (mn d a)) (some (⟨v5.e,(mn d a),v5.j.e,(ar .add .i64 v5.j.j.e 1),v5.j.j.j⟩)) (some (⟨v5.e,(mn d a),v5.j⟩))
noncomputable def zf[W](v9:Uc):Option Uc:=call Jl ((v9.j.j.j.j.e,v9.j.j.j.j.j.e):(U2×Int)) λ(v10:Int)=>br (cm .eql v10 v9.j.e) (some (⟨v9.e,v9.j.e,v9.j.j.e,v9.j.j.j.e,v9.j.j.j.j.e,(ar .add .i64 v9.j.j.j.j.j.e 1),v9.j.j.j.j.j.j⟩)) (some (v9))
noncomputable def ze[W](v11:Uc):Option Uk:=call Jm ((v11.j.j.e,v11.j.j.j.e):(U2×Int)) λ(v12:Bool)=>call Jm ((v11.j.j.j.j.e,v11.j.j.j.j.j.e):(U2×Int)) λ(v13:Bool)=>br v12 (some (⟨v11.e,v11.j.e,v13,v11.j.j⟩)) (some (⟨v11.e,v11.j.e,false,v11.j.j⟩))
noncomputable def za[W](v14:Uk):Option Ua:=br v14.j.j.e (br (nt v14.e) (gd (ft 16 (pl (ln v14.j.j.j.j.j.j.j.e) 1))<|some (⟨v14.j.j.e,v14.j.j.j.e,v14.j.j.j.j.e,v14.j.j.j.j.j.e,v14.j.j.j.j.j.j.e,(ap v14.j.j.j.j.j.j.j.e ((v14.j.e,0)::[])),()⟩)) (br (nt v14.j.j.e) (br v14.e (gd (ib (ar .sub .i64 (ln v14.j.j.j.j.j.j.j.e) 1) (ln v14.j.j.j.j.j.j.j.e))<|ge v14.j.j.j.j.j.j.j.e (ar .sub .i64 (ln v14.j.j.j.j.j.j.j.e) 1) λv15=>some (⟨v14.j.j.e,v14.j.j.j.e,v14.j.j.j.j.e,v14.j.j.j.j.j.e,v14.j.j.j.j.j.j.e,(st v14.j.j.j.j.j.j.j.e (ar .sub .i64 (ln v14.j.j.j.j.j.j.j.e) 1) (v15.1,v14.j.e)),()⟩)) (some (v14.j.j))) (some (v14.j.j)))) (br (nt v14.j.j.e) (br v14.e (gd (ib (ar .sub .i64 (ln v14.j.j.j.j.j.j.j.e) 1) (ln v14.j.j.j.j.j.j.j.e))<|ge v14.j.j.j.j.j.j.j.e (ar .sub .i64 (ln v14.j.j.j.j.j.j.j.e) 1) λv16=>some (⟨v14.j.j.e,v14.j.j.j.e,v14.j.j.j.j.e,v14.j.j.j.j.j.e,v14.j.j.j.j.j.j.e,(st v14.j.j.j.j.j.j.j.e (ar .sub .i64 (ln v14.j.j.j.j.j.j.j.e) 1) (v16.1,v14.j.e)),()⟩)) (some (v14.j.j))) (some (v14.j.j)))
noncomputable def Qv[W](s:Ua):Option (Nx Ua U7):=join (Xt s) λv4=>match v4 with|.inl v5=>(call Jl ((v5.j.e,v5.j.j.e):(U2×Int)) λ(d:Int)=>call Jl ((v5.j.j.j.e,v5.j.j.j.j.e):(U2×Int)) λ(a:Int)=>join (zd v5 d a) λv9=>join (zf v9) λv11=>join (ze v11) λv14=>join (za v14) λv17=>some (.go v17))|.inr v18=>(some (.out ⟨v18.e,()⟩))
noncomputable def Y2[W](a:(U2×U2)):Option U2:=call Jq (a.1:U2) λ(v0:Bool)=>br (nt v0) (some []) (call Jq (a.2:U2) λ(v1:Bool)=>br (nt v1) (some []) (loop Qv ⟨false,a.1,0,a.2,0,[],()⟩ λv19=>some v19.e))
noncomputable def Y5:Ctr:=⟨82,[(.one,(.ls (.p I I))),(.one,(.ls (.p I I)))],[(false,(.ls (.p I I)))],@Y2 wv⟩
theorem Jle(w:W)(a):fnD (dW w) (cxO (gam [(188,Jo),(189,Jl),(191,Jm),(68,Jq)]) [] [] [] [32768007,32768009,32768010,32768011,32768015] [] []) 8 82 Y5.as Y5.rs a=@Y2 w a:=by kernel_rfl
theorem Jlc:V3 Y5:=good (gam [(188,Jo),(189,Jl),(191,Jm),(68,Jq)]) [] [] [] [32768007,32768009,32768010,32768011,32768015] [] [] 8 (Je Zm (Je zt (Je Yk (Je zi Ju)))) Ka Kb (Jr (by kernel_rfl)) rfl rfl (Jle wv)
noncomputable def jx[W](s:(HP Int (HP U2 Ud))):Option (Nx (HP Int (HP U2 Ud)) U7):=br (cm .lss s.j.j.j.e s.j.j.e) (ge s.j.e s.j.j.j.e λv1=>br (cm .lss (ar .add .i64 v1.1 s.e) (ar .sub .i64 v1.2 s.e)) (gd (ft 16 (pl (ln s.j.j.j.j.e) 1))<|some (.go ⟨s.e,s.j.e,s.j.j.e,(ar .add .i64 s.j.j.j.e 1),(ap s.j.j.j.j.e (((ar .add .i64 v1.1 s.e),(ar .sub .i64 v1.2 s.e))::[])),()⟩)) (some (.go ⟨s.e,s.j.e,s.j.j.e,(ar .add .i64 s.j.j.j.e 1),s.j.j.j.j⟩))) (some (.out s.j.j.j.j))
noncomputable def Jb2[W](a:(U2×Int)):Option U2:=call Jq (a.1:U2) λ(v0:Bool)=>br (nt v0) (some []) (br (cm .lss a.2 0) (some []) (br (cm .gtr a.2 1048576) (some []) (loop jx ⟨a.2,a.1,(ln a.1),0,[],()⟩ λv2=>some v2.e)))
noncomputable def z7:Ctr:=⟨83,[(.one,(.ls (.p I I))),(.one,I)],[(false,(.ls (.p I I)))],@Jb2 wv⟩
theorem Jsn(w:W)(a):fnD (dW w) (V1 [(68,Jq)]) 8 83 z7.as z7.rs a=@Jb2 w a:=by kernel_rfl
theorem Jr7:V3 z7:=V2 (Je zi Ju) (Jr (by kernel_rfl)) rfl rfl (Jsn wv)
noncomputable def Y4[W](a:(U3×Int))(s:U5):Option (Nx U5 (HP Int (HP U3 (HP U3 Unit)))):=br (cm .lss s.j.j.j.e s.j.j.e) (ge s.j.e s.j.j.j.e λv1=>call z7 ((v1.2,s.e):(U2×Int)) λ(v2:U2)=>some (.go ⟨s.e,s.j.e,s.j.j.e,(ar .add .i64 s.j.j.j.e 1),s.j.j.j.j.e,(ms (a:=I) (b:=(.ls (.p I I))) s.j.j.j.j.j.e v1.1 v2),()⟩)) (some (.out ⟨s.e,s.j.j.j.j⟩))
noncomputable def Y7[W](a:(U3×Int))(s:Uf):Option (Nx Uf (HP U2 U6)):=br (cm .leq s.j.j.j.e (ar .add .i64 s.e s.j.e)) (call Y5 ((s.j.j.e,(mg (a:=I) (b:=(.ls (.p I I))) s.j.j.j.j.j.j.j.j.j.j.e s.j.j.j.e [])):(U2×U2)) λ(v5:U2)=>some (.go ⟨s.e,s.j.e,v5,(ar .add .i64 s.j.j.j.e 1),s.j.j.j.j⟩)) (some (.out ⟨s.j.j.e,s.j.j.j.j.e,s.j.j.j.j.j.e,s.j.j.j.j.j.j.e,s.j.j.j.j.j.j.j.e,s.j.j.j.j.j.j.j.j.e,s.j.j.j.j.j.j.j.j.j.e,s.j.j.j.j.j.j.j.j.j.j.j.e,s.j.j.j.j.j.j.j.j.j.j.e,()⟩))
noncomputable def Y6[W](a:(U3×Int))(s:U5):Option (Nx U5 (HP U3 Unit)):=br (cm .lss s.j.j.j.e s.j.j.e) (ge s.j.e s.j.j.j.e λv4=>loop (Y7 a) ⟨v4.1,s.e,(mg (a:=I) (b:=(.ls (.p I I))) s.j.j.j.j.e (ar .sub .i64 v4.1 s.e) []),(ar .add .i64 (ar .sub .i64 v4.1 s.e) 1),s.e,s.j.e,s.j.j.e,s.j.j.j.e,v4.1,v4.2,s.j.j.j.j⟩ λd=>br (cm .gtr (ln d.e) 0) (gd (ft 16 (pl 0 (ln d.e)))<|gd (ft 32 (pl (ln d.j.j.j.j.j.j.j.e) 1))<|some (.go ⟨d.j.e,d.j.j.e,d.j.j.j.e,(ar .add .i64 d.j.j.j.j.e 1),d.j.j.j.j.j.j.j.j.e,(ap d.j.j.j.j.j.j.j.e ((d.j.j.j.j.j.e,d.e)::[])),()⟩)) (some (.go ⟨d.j.e,d.j.j.e,d.j.j.j.e,(ar .add .i64 d.j.j.j.j.e 1),d.j.j.j.j.j.j.j.j.e,d.j.j.j.j.j.j.j.e,()⟩))) (some (.out s.j.j.j.j.j))
noncomputable def jc[W](a:(U3×Int)):Option U3:=call Jae ((a.1,a.2):(U3×Int)) λ(v0:Bool)=>br (nt v0) (some []) (loop (Y4 a) ⟨a.2,a.1,(ln a.1),0,a.1,[],()⟩ λv3=>loop (Y6 a) ⟨v3.e,v3.j.e,(ln v3.j.e),0,v3.j.j.e,[],()⟩ λd=>some d.e)
noncomputable def zo:Ctr:=⟨33,[(.ag,(.ls (.p I (.ls (.p I I))))),(.one,I)],[(true,(.ls (.p I (.ls (.p I I)))))],@jc wv⟩
theorem Js9(w:W)(a):fnD (dW w) (cxO (gam [(83,z7),(81,Jae)]) [] [] [] [] [(82,Y5.bi)] []) 8 33 zo.as zo.rs a=@jc w a:=by kernel_rfl
theorem Jrf:V3 zo:=good (gam [(83,z7),(81,Jae)]) [] [] [] [] [(82,Y5.bi)] [] 8 (Je Jr7 (Je Jry Ju)) Ka (Jnz (ctr_bi Jlc rfl) Kb) (Jr (by kernel_rfl)) rfl rfl (Js9 wv)
noncomputable def Jcf[W](s:Ui):Option (Nx Ui (HP U3 (HP Int U8))):=br (cm .lss s.j.j.j.e s.j.j.j.j.e) (gd (cm .geq 1 0)<|ge s.e (cv .i64 (sh .shr .u64 (cv .u64 (ar .add .i64 s.j.j.j.e s.j.j.j.j.e)) 1)) λv0=>call Ql ((v0.1,s.j.e):(Int×Int)) λ(v1:Int)=>br (cm .lss v1 0) (some (.go ⟨s.e,s.j.e,s.j.j.e,(ar .add .i64 (cv .i64 (sh .shr .u64 (cv .u64 (ar .add .i64 s.j.j.j.e s.j.j.j.j.e)) 1)) 1),s.j.j.j.j⟩)) (some (.go ⟨s.e,s.j.e,s.j.j.e,s.j.j.j.e,(cv .i64 (sh .shr .u64 (cv .u64 (ar .add .i64 s.j.j.j.e s.j.j.j.j.e)) 1)),s.j.j.j.j.j⟩))) (some (.out ⟨s.e,s.j.e,s.j.j.e,s.j.j.j.e,s.j.j.j.j.j⟩))
noncomputable def Jdh[W](a:(U3×Int)):Option U2:=loop Jcf ⟨a.1,a.2,(ln a.1),0,(ln a.1),a.1,()⟩ λv2=>br (cm .lss v2.j.j.j.e v2.j.j.e) (ge v2.e v2.j.j.j.e λv3=>call Ql ((v3.1,v2.j.e):(Int×Int)) λ(v4:Int)=>br (nt (cm .eql v4 0)) (some []) (ge v2.j.j.j.j.e v2.j.j.j.e λv5=>some v5.2)) (some [])
noncomputable def Zz:Ctr:=⟨63,[(.ag,(.ls (.p I (.ls (.p I I))))),(.one,I)],[(false,(.ls (.p I I)))],@Jdh wv⟩
theorem Ju0(w:W)(a):fnD (dW w) (V1 [(125,Ql)]) 8 63 Zz.as Zz.rs a=@Jdh w a:=by kernel_rfl
theorem Jtw:V3 Zz:=V2 (Je Jik Ju) (Jr (by kernel_rfl)) rfl rfl (Ju0 wv)
noncomputable def K9[W](a:U2):Option U2:=nq (ln a) λv0=>br v0 (some []) (gd (ft 16 (pl 0 (ln a)))<|some a)
noncomputable def Ks:Ctr:=⟨150,[(.one,(.ls (.p I I)))],[(false,(.ls (.p I I)))],@K9 wv⟩
theorem Jbl(w:W)(a):fnD (dW w) (V1 []) 8 150 Ks.as Ks.rs a=@K9 w a:=by kernel_rfl
theorem Jbq:V3 Ks:=V2 Ju (Jr (by kernel_rfl)) rfl rfl (Jbl wv)
noncomputable def Jdt[W](s:Uj):Option (Nx Uj (Unit⊕Unit)):=br (cm .lss s.j.j.e (ln s.e)) (ge s.e s.j.j.e λv0=>br (cm .leq v0.1 s.j.e) (ge s.e s.j.j.e λv1=>br (cm .lss s.j.e v1.2) (some (.out (.inl ()))) (some (.go ⟨s.e,s.j.e,(ar .add .i64 s.j.j.e 1),()⟩))) (some (.go ⟨s.e,s.j.e,(ar .add .i64 s.j.j.e 1),()⟩))) (some (.out (.inr ())))
noncomputable def Jfm[W](a:(U2×Int)):Option Bool:=loop Jdt ⟨a.1,a.2,0,()⟩ λv2=>match v2 with|.inl v3=>(some true)|.inr v4=>(some false)
noncomputable def Jfn:Ctr:=⟨164,[(.one,(.ls (.p I I))),(.one,I)],[(false,.bool)],@Jfm wv⟩
noncomputable def Jfr[W](s:U8):Option (Nx U8 (U7⊕Unit)):=br (cm .lss s.j.e (ln s.j.j.e)) (ge s.j.j.e s.j.e λv0=>br (cm .eql v0.1 s.e) (ge s.j.j.e s.j.e λv1=>some (.out (.inl ⟨v1.2,()⟩))) (some (.go ⟨s.e,(ar .add .i64 s.j.e 1),s.j.j⟩))) (some (.out (.inr ())))
noncomputable def Jh6[W](a:(U3×Int)):Option U2:=loop Jfr ⟨a.2,0,a.1,()⟩ λv2=>match v2 with|.inl v3=>(some v3.e)|.inr v4=>(some [])
noncomputable def Jh1:Ctr:=⟨165,[(.ag,(.ls (.p I (.ls (.p I I))))),(.one,I)],[(false,(.ls (.p I I)))],@Jh6 wv⟩
noncomputable def Jeb[W](a:(U3×(Int×Int))):Option Bool:=call Kr (a.1:U3) λ(v0:Bool)=>br v0 (call Jh1 ((a.1,a.2.2):(U3×Int)) λ(v1:U2)=>call Jfn ((v1,a.2.1):(U2×Int)) λ(v2:Bool)=>some v2) (some false)
noncomputable def Jd2:Ctr:=⟨116,[(.ag,(.ls (.p I (.ls (.p I I))))),(.ag,(.p I I))],[(false,.bool)],@Jeb wv⟩
end Go.Proofs.YtmfagdfkpjgeiaaGreat
