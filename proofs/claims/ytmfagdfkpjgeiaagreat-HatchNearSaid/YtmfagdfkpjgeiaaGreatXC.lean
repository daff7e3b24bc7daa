/- Cells are sorted by the library's sort. Conditions: none. -/
import Derived.Test.YtmfagdfkpjgeiaaGreatXB
import Derived.Test.YtmfagdfkpjgeiaaGreatFB
import Derived.Test.YtmfagdfkpjgeiaaGreatTT
open Option renaming some -> AC, none -> AD
open Bool renaming true -> AE, false -> AF
open _root_ renaming Int -> AI, List -> AG, Option -> AH, Bool -> AN
set_option linter.unusedVariables false
set_option linter.unusedSimpArgs false
set_option maxRecDepth 100000
namespace Go.Proofs.YtmfagdfkpjgeiaaGreat
open Go Go.Vv Go.Dn
theorem swoC:Go.Sort.SWO (Go.Proofs.ltOf GA):=by
 refine ⟨λx=>?_,λx y z d a=>?_,λx y z d a=>?_⟩
 .simp only [Go.Proofs.ltOf,decide_eq_false_iff_not,sF];omega
 .simp only [Go.Proofs.ltOf,decide_eq_true_eq,sF] at *;omega
 .simp only [Go.Proofs.ltOf,decide_eq_false_iff_not,sF] at *;omega
theorem totC(x y:AI×AI)(g:Go.Proofs.ltOf GA x y=AF)(f:Go.Proofs.ltOf GA y x=AF):x=y:=by
 simp only [Go.Proofs.ltOf,decide_eq_false_iff_not,sF] at *
 obtain ⟨a,b⟩:=x;obtain ⟨c,d⟩:=y;simp only [Prod.mk.injEq] at *
 omega
noncomputable def Jun:GK:=⟨97,127,AE,.p I I,λl=>if List.length (α:=AI×AI) l<4611686018427387904 then AC (Hy (α:=AI×AI) (λx y=>!(Go.Proofs.ltOf GA) y x) l) else AD⟩
noncomputable def Jpf:BQ:=Jun.ctr
instance:Inhabited (Ty.p I I).T:=⟨((0:AI),(0:AI))⟩
theorem J94:DI PG Jun:=
 J68 (P:=PG) (ρ:=Tryz.E5) (t:=.p I I) Tryz.Lx rfl (by decide) (λw=>by kernel_rfl) (λw=>by kernel_rfl) (g:=127) (fn:=@zQ wv) Jwq GA eu swoC totC (by decide) (Jn (by kernel_rfl))
end Go.Proofs.YtmfagdfkpjgeiaaGreat
namespace Go.Proofs.YtmfagdfkpjgeiaaGreat
open Go Go.Vv Go.Dn Go.Dn.W
abbrev Vz:=AG (AI×AI)
abbrev U0:=AG (AI×Vz)
abbrev U2:=AG (AI×(AN×Vz))
abbrev U4:=HP AI (HP AI (HP U2 (HP (AG ((AI×AI)×AN)) (HP AI (HP AN (HP Vz (HP (AG AN) Unit)))))))
abbrev U5:=HP Vz Unit
abbrev U1:=HP Vz (HP AI (HP Vz (HP AI U5)))
abbrev Ua:=HP AI (HP AI Unit)
abbrev Ub:=HP (AG AN) (HP Vz (HP AI (HP AI (HP AI (HP AN (HP Vz (HP U2 U5)))))))
abbrev Uc:=HP U2 (HP AI (HP AI (HP (AG ((AI×AI)×AN)) (HP U2 Unit))))
abbrev Ud:=HP AN U1
abbrev Uf:=HP AI (HP AI (HP AN U5))
abbrev Ug:=HP AN (HP AI U1)
abbrev Uh:=HP AI (HP AI U5)
abbrev Uj:=HP AN (HP U2 (HP AI (HP AI (HP Vz U4))))
abbrev Ul:=HP AI (HP AI (HP Vz (HP U0 U5)))
abbrev Um:=AG AI
abbrev U3:=HP AI (HP U0 (HP U0 (HP Um Unit)))
abbrev U8:=HP U0 (HP U0 (HP AI (HP U0 (HP AI U3))))
abbrev Ui:=HP U0 (HP U0 U3)
abbrev Un:=HP AI (HP Vz (HP AI Uf))
abbrev Uq:=HP Vz Ua
abbrev Ur:=HP AN (HP AI Ud)
abbrev Us:=HP U0 Unit
abbrev U6:=HP AI (HP U0 (HP AI (HP AI (HP U0 Us))))
abbrev U7:=HP AI (HP U0 (HP AI (HP AI (HP AI (HP Vz (HP U0 Us))))))
abbrev U9:=HP AI (HP AI Us)
abbrev Ue:=HP Um (HP AI (HP AI (HP U0 (HP U0 Us))))
abbrev Uk:=HP AI (HP AI (HP Vz (HP AI U7)))
abbrev Uo:=HP U0 (HP AI (HP AI U9))
noncomputable def vB[W](s:(HP Vz Uq)):AH (Nx (HP Vz Uq) ((HP AI Unit)⊕U5)):=br (cm .lss s.j.j.j.e s.j.j.e) (ge s.j.e s.j.j.j.e λv0=>call K9 (v0.1:AI) λ(v1:AN)=>br (nt v1) (AC (.out (.inl ⟨8,()⟩))) (call K9 (v0.2:AI) λ(v2:AN)=>br (nt v2) (AC (.out (.inl ⟨8,()⟩))) (AC (.go ⟨s.e,s.j.e,s.j.j.e,(ar .add .i64 s.j.j.j.e 1),()⟩)))) (AC (.out (.inr ⟨s.e,()⟩)))
noncomputable def Jcu[W](s:Ua):AH (Nx Ua Unit):=br (cm .lss s.j.e s.e) (AD) (AC (.out ()))
noncomputable def Zv[W](s:Ul):AH (Nx Ul (HP U0 U5)):=br (cm .lss s.j.e s.e) (gd (ib s.j.e (ln s.j.j.e))<|ge s.j.j.e s.j.e λv9=>br (cm .eql (ln s.j.j.j.e) 0) (gd (ft 32 (pl (ln s.j.j.j.e) 1))<|some (.go ⟨s.e,(ar .add .i64 s.j.e 1),s.j.j.e,(ap (ml s.j.j.j.e λy=>(y.1,s.j.j.j.j.e)) ((v9.2,[])::[])),((v9.1,(ar .add .i64 v9.1 1))::[]),()⟩)) (gd (ib (ar .sub .i64 (ln s.j.j.j.e) 1) (ln s.j.j.j.e))<|ge s.j.j.j.e (ar .sub .i64 (ln s.j.j.j.e) 1) λv10=>br (cm .neq v10.1 v9.2) (gd (ft 32 (pl (ln s.j.j.j.e) 1))<|some (.go ⟨s.e,(ar .add .i64 s.j.e 1),s.j.j.e,(ap (ml s.j.j.j.e λy=>(y.1,s.j.j.j.j.e)) ((v9.2,[])::[])),((v9.1,(ar .add .i64 v9.1 1))::[]),()⟩)) (gd (ib (ar .sub .i64 (ln s.j.j.j.e) 1) (ln s.j.j.j.e))<|ge s.j.j.j.e (ar .sub .i64 (ln s.j.j.j.e) 1) λv11=>gd (cm .eql (pl (ar .sub .i64 (ln s.j.j.j.e) 1) 1) (ln s.j.j.j.e))<|ge s.j.j.j.e (ar .sub .i64 (ln s.j.j.j.e) 1) λv12=>gd (cm .eql (pl (ar .sub .i64 (ln s.j.j.j.e) 1) 1) (ln s.j.j.j.e))<|gd (ib (ar .sub .i64 (ln s.j.j.j.j.e) 1) (ln s.j.j.j.j.e))<|ge s.j.j.j.j.e (ar .sub .i64 (ln s.j.j.j.j.e) 1) λv13=>br (cm .gtr v9.1 v13.2) (ge s.j.j.j.e (ar .sub .i64 (ln s.j.j.j.e) 1) λv14=>gd (cm .eql (pl (ar .sub .i64 (ln s.j.j.j.e) 1) 1) (ln s.j.j.j.e))<|gd (ft 16 (pl (ln s.j.j.j.j.e) 1))<|ge s.j.j.j.e (ar .sub .i64 (ln s.j.j.j.e) 1) λv15=>gd (cm .eql (pl (ar .sub .i64 (ln s.j.j.j.e) 1) 1) (ln s.j.j.j.e))<|some (.go ⟨s.e,(ar .add .i64 s.j.e 1),s.j.j.e,(st s.j.j.j.e (ar .sub .i64 (ln s.j.j.j.e) 1) (v15.1,v15.2)),(ap s.j.j.j.j.e ((v9.1,(ar .add .i64 v9.1 1))::[])),()⟩)) (ge s.j.j.j.j.e (ar .sub .i64 (ln s.j.j.j.j.e) 1) λv16=>ge s.j.j.j.j.e (ar .sub .i64 (ln s.j.j.j.j.e) 1) λv17=>AC (.go ⟨s.e,(ar .add .i64 s.j.e 1),s.j.j.e,s.j.j.j.e,(st s.j.j.j.j.e (ar .sub .i64 (ln s.j.j.j.j.e) 1) (v17.1,(mx v16.2 (ar .add .i64 v9.1 1)))),()⟩))))) (AC (.out s.j.j.j))
noncomputable def uZ[W](a:Vz):AH (U0×AI):=loop vB ⟨a,a,(ln a),0,()⟩ λv3=>match v3 with|.inl v4=>(AC ([],v4.e))|.inr v5=>(nq (ln v5.e) λf=>br f (loop Jcu ⟨0,0,()⟩ λg=>AC ([],0)) (gd (ft 16 (pl 0 (ln v5.e)))<|call Jpf (v5.e:Vz) λ(d:Vz)=>loop Zv ⟨(ln d),0,d,[],[],()⟩ λv18=>AC ((ml v18.e λy=>(y.1,v18.j.e)),0)))
noncomputable def Qw:BQ:=⟨64,[(.one,(.ls (.p I I)))],[(AE,(.ls (.p I (.ls (.p I I))))),(AF,I)],@uZ wv⟩
theorem Jzv(w:W)(a):Cv (dW w) (Im (Eh [(67,K9)]) [11,12,13,14,15,16,17,18,19,20,21] [] [Jun] [] [] []) 8 64 Qw.as Qw.rs a=@uZ w a:=by kernel_rfl
theorem yh:V3 Qw:=good (Eh [(67,K9)]) [11,12,13,14,15,16,17,18,19,20,21] [] [Jun] [] [] [] 8 (Jc Jph Jo) (wL J94 Jz) Jy (Jn (by kernel_rfl)) rfl rfl rfl rfl (Jzv wv)
noncomputable def Jcs[W](a:(AI×AI)):AH AN:=br (cm .geq a.1 (-4096)) (br (cm .lss a.1 4096) (br (cm .geq a.2 (-4096)) (AC (cm .lss a.2 4096)) (AC AF)) (AC AF)) (AC AF)
noncomputable def Zu:BQ:=⟨88,[(.ag,(.p I I))],[(AF,.bool)],@Jcs wv⟩
theorem Jrq(w:W)(a):Cv (dW w) (V1 []) 8 88 Zu.as Zu.rs a=@Jcs w a:=by kernel_rfl
theorem Jrn:V3 Zu:=V2 Jo (Jn (by kernel_rfl)) rfl rfl rfl rfl (Jrq wv)
noncomputable def zt[W](a:((AI×AI)×(AI×AI))):AH AN:=AC (cm .eql (ar .add .i64 (ar .mul .i64 (ar .sub .i64 a.1.1 a.2.1) (ar .sub .i64 a.1.1 a.2.1)) (ar .mul .i64 (ar .sub .i64 a.1.2 a.2.2) (ar .sub .i64 a.1.2 a.2.2))) 1)
noncomputable def Xd:BQ:=⟨89,[(.ag,(.p I I)),(.ag,(.p I I))],[(AF,.bool)],@zt wv⟩
theorem Jm2(w:W)(a):Cv (dW w) (V1 []) 8 89 Xd.as Xd.rs a=@zt w a:=by kernel_rfl
theorem Jme:V3 Xd:=V2 Jo (Jn (by kernel_rfl)) rfl rfl rfl rfl (Jm2 wv)
noncomputable def Zp[W](s:Un):AH (Nx Un (Unit⊕Uf)):=br (cm .lss s.j.j.j.e s.j.j.e) (ge s.j.e s.j.j.j.e λv0=>call Zu ((v0.1,v0.2):(AI×AI)) λ(v1:AN)=>br (nt v1) (AC (.out (.inl ()))) (br (cm .gtr s.j.j.j.e 0) (ge s.j.j.j.j.j.j.e (ar .sub .i64 s.j.j.j.e 1) λv2=>call Xd (((v2.1,v2.2),(v0.1,v0.2)):((AI×AI)×(AI×AI))) λ(v3:AN)=>br (nt v3) (AC (.out (.inl ()))) (AC (.go ⟨s.e,s.j.e,s.j.j.e,(ar .add .i64 s.j.j.j.e 1),s.j.j.j.j⟩))) (AC (.go ⟨s.e,s.j.e,s.j.j.e,(ar .add .i64 s.j.j.j.e 1),s.j.j.j.j⟩)))) (AC (.out (.inr ⟨s.e,s.j.j.j.j⟩)))
noncomputable def Jdi[W](a:(AI×(AN×Vz))):AH AN:=br (cm .lss a.1 1) (AC AF) (br (cm .gtr a.1 7) (AC AF) (br (cm .lss (ln a.2.2) 1) (AC AF) (br (cm .gtr (ln a.2.2) 65536) (AC AF) (loop Zp ⟨(ln a.2.2),a.2.2,(ln a.2.2),0,a.1,a.2.1,a.2.2,()⟩ λv4=>match v4 with|.inl v5=>(AC AF)|.inr d=>(br (nt d.j.j.e) (AC AE) (br (cm .eql d.e 1) (AC AE) (ge d.j.j.j.e (ar .sub .i64 d.e 1) λg=>ge d.j.j.j.e 0 λf=>call Xd (((g.1,g.2),(f.1,f.2)):((AI×AI)×(AI×AI))) λ(v9:AN)=>AC v9)))))))
noncomputable def Kv:BQ:=⟨35,[(.ag,(.p I (.p .bool (.ls (.p I I)))))],[(AF,.bool)],@Jdi wv⟩
theorem Jvh(w:W)(a):Cv (dW w) (V1 [(88,Zu),(89,Xd)]) 8 35 Kv.as Kv.rs a=@Jdi w a:=by kernel_rfl
theorem zU:V3 Kv:=V2 (Jc Jrn (Jc Jme Jo)) (Jn (by kernel_rfl)) rfl rfl rfl rfl (Jvh wv)
noncomputable def Jam[W](s:(HP U2 Uh)):AH (Nx (HP U2 Uh) U5):=br (cm .lss s.j.j.e s.j.e) (ge s.e s.j.j.e λv0=>call Kv ((v0.1,(v0.2.1,v0.2.2)):(AI×(AN×Vz))) λ(v1:AN)=>br v1 (gd (ft 16 (pl (ln s.j.j.j.e) (ln v0.2.2)))<|some (.go ⟨s.e,s.j.e,(ar .add .i64 s.j.j.e 1),(ap s.j.j.j.e v0.2.2),()⟩)) (AC (.go ⟨s.e,s.j.e,(ar .add .i64 s.j.j.e 1),s.j.j.j⟩))) (AC (.out s.j.j.j))
noncomputable def Yp[W](a:U2):AH U0:=loop Jam ⟨a,(ln a),0,[],()⟩ λv2=>call Qw (v2.e:Vz) λ(v3:(U0×AI))=>AC v3.1
noncomputable def zm:BQ:=⟨20,[(.one,(.ls (.p I (.p .bool (.ls (.p I I))))))],[(AE,(.ls (.p I (.ls (.p I I)))))],@Yp wv⟩
theorem Juq(w:W)(a):Cv (dW w) (V1 [(35,Kv),(64,Qw)]) 8 20 zm.as zm.rs a=@Yp w a:=by kernel_rfl
theorem Jgu:V3 zm:=V2 (Jc zU (Jc yh Jo)) (Jn (by kernel_rfl)) rfl rfl rfl rfl (Juq wv)
end Go.Proofs.YtmfagdfkpjgeiaaGreat
namespace Go.Proofs.YtmfagdfkpjgeiaaGreat
open Go Go.Vv Go.Dn
noncomputable def J2z:GK:=⟨148,0,AF,I,YX⟩
noncomputable def J10:BQ:=J2z.ctr
theorem QV:DI PG J2z:=J52 (P:=PG) (ρ:=Tryz.Fz) Tryz.N9 (by decide) (Jn (by kernel_rfl))
noncomputable def Jsr:BQ:=Go.Dn.GA 149
def Jii:Bi:=Rw 149 3
theorem Jv0:Mw PG 149 Jii:=
 Kbg (P:=PG) (ρ:=Tryz.Hf) Tryz.XH (Go.Proofs.EqlAt.intD _ _ .i64) (Go.Proofs.NeqAt.intD _ _ .i64) (λw=>by kernel_rfl) (by kernel_rfl) (Jn (by kernel_rfl))
end Go.Proofs.YtmfagdfkpjgeiaaGreat
namespace Go.Proofs.YtmfagdfkpjgeiaaGreat
open Go Go.Vv Go.Dn Go.Dn.W
noncomputable def zZ[W](a:(U0×AI)):AH AN:=br (cm .geq a.2 0) (br (cm .leq a.2 64) (call Je (a.1:U0) λ(v0:AN)=>AC v0) (AC AF)) (AC AF)
noncomputable def kI:BQ:=⟨81,[(.ag,(.ls (.p I (.ls (.p I I))))),(.one,I)],[(AF,.bool)],@zZ wv⟩
theorem Jut(w:W)(a):Cv (dW w) (V1 [(23,Je)]) 8 81 kI.as kI.rs a=@zZ w a:=by kernel_rfl
theorem Jva:V3 kI:=V2 (Jc Ks Jo) (Jn (by kernel_rfl)) rfl rfl rfl rfl (Jut wv)
noncomputable def X0[W](s:Ud):AH (Ud⊕U5):=call J0 ((s.j.e,s.j.j.e):(Vz×AI)) λ(v2:AN)=>br (nt v2) (AC ((.inl s))) (call J0 ((s.j.j.j.e,s.j.j.j.j.e):(Vz×AI)) λ(v3:AN)=>br (nt v3) (AC ((.inl s))) (AC ((.inr s.j.j.j.j.j))))
noncomputable def Ja3[W](v5:Ud)(d:AI)(a:AI):AH Ug:=call Ju ((v5.j.e,v5.j.j.e):(Vz×AI)) λ(f:AI)=>br (cm .eql f (mn d a)) (AC (⟨v5.e,(mn d a),v5.j.e,(ar .add .i64 v5.j.j.e 1),v5.j.j.j⟩)) (AC (⟨v5.e,(mn d a),v5.j⟩))
noncomputable def Ja1[W](v9:Ug):AH Ug:=call Ju ((v9.j.j.j.j.e,v9.j.j.j.j.j.e):(Vz×AI)) λ(v10:AI)=>br (cm .eql v10 v9.j.e) (AC (⟨v9.e,v9.j.e,v9.j.j.e,v9.j.j.j.e,v9.j.j.j.j.e,(ar .add .i64 v9.j.j.j.j.j.e 1),v9.j.j.j.j.j.j⟩)) (AC (v9))
noncomputable def Jaw[W](v11:Ug):AH Ur:=call Js ((v11.j.j.e,v11.j.j.j.e):(Vz×AI)) λ(v12:AN)=>call Js ((v11.j.j.j.j.e,v11.j.j.j.j.j.e):(Vz×AI)) λ(v13:AN)=>br v12 (AC (⟨v11.e,v11.j.e,v13,v11.j.j⟩)) (AC (⟨v11.e,v11.j.e,AF,v11.j.j⟩))
noncomputable def Ja0[W](v14:Ur):AH Ud:=br v14.j.j.e (br (nt v14.e) (gd (ft 16 (pl (ln v14.j.j.j.j.j.j.j.e) 1))<|some (⟨v14.j.j.e,v14.j.j.j.e,v14.j.j.j.j.e,v14.j.j.j.j.j.e,v14.j.j.j.j.j.j.e,(ap v14.j.j.j.j.j.j.j.e ((v14.j.e,0)::[])),()⟩)) (br (nt v14.j.j.e) (br v14.e (gd (ib (ar .sub .i64 (ln v14.j.j.j.j.j.j.j.e) 1) (ln v14.j.j.j.j.j.j.j.e))<|ge v14.j.j.j.j.j.j.j.e (ar .sub .i64 (ln v14.j.j.j.j.j.j.j.e) 1) λv15=>AC (⟨v14.j.j.e,v14.j.j.j.e,v14.j.j.j.j.e,v14.j.j.j.j.j.e,v14.j.j.j.j.j.j.e,(st v14.j.j.j.j.j.j.j.e (ar .sub .i64 (ln v14.j.j.j.j.j.j.j.e) 1) (v15.1,v14.j.e)),()⟩)) (AC (v14.j.j))) (AC (v14.j.j)))) (br (nt v14.j.j.e) (br v14.e (gd (ib (ar .sub .i64 (ln v14.j.j.j.j.j.j.j.e) 1) (ln v14.j.j.j.j.j.j.j.e))<|ge v14.j.j.j.j.j.j.j.e (ar .sub .i64 (ln v14.j.j.j.j.j.j.j.e) 1) λv16=>AC (⟨v14.j.j.e,v14.j.j.j.e,v14.j.j.j.j.e,v14.j.j.j.j.j.e,v14.j.j.j.j.j.j.e,(st v14.j.j.j.j.j.j.j.e (ar .sub .i64 (ln v14.j.j.j.j.j.j.j.e) 1) (v16.1,v14.j.e)),()⟩)) (AC (v14.j.j))) (AC (v14.j.j)))
noncomputable def Q7[W](s:Ud):AH (Nx Ud U5):=join (X0 s) λv4=>match v4 with|.inl v5=>(call Ju ((v5.j.e,v5.j.j.e):(Vz×AI)) λ(d:AI)=>call Ju ((v5.j.j.j.e,v5.j.j.j.j.e):(Vz×AI)) λ(a:AI)=>join (Ja3 v5 d a) λv9=>join (Ja1 v9) λv11=>join (Jaw v11) λv14=>join (Ja0 v14) λv17=>AC (.go v17))|.inr v18=>(AC (.out ⟨v18.e,()⟩))
noncomputable def Zn[W](a:(Vz×Vz)):AH Vz:=call J7 (a.1:Vz) λ(v0:AN)=>br (nt v0) (AC []) (call J7 (a.2:Vz) λ(v1:AN)=>br (nt v1) (AC []) (loop Q7 ⟨AF,a.1,0,a.2,0,[],()⟩ λv19=>AC v19.e))
noncomputable def Zo:BQ:=⟨82,[(.one,(.ls (.p I I))),(.one,(.ls (.p I I)))],[(AF,(.ls (.p I I)))],@Zn wv⟩
theorem Jn3(w:W)(a):Cv (dW w) (Im (Eh [(188,J0),(189,Ju),(191,Js),(68,J7)]) [] [] [] [32768007,32768009,32768010,32768011,32768015] [] []) 8 82 Zo.as Zo.rs a=@Zn w a:=by kernel_rfl
theorem Jn2:V3 Zo:=good (Eh [(188,J0),(189,Ju),(191,Js),(68,J7)]) [] [] [] [32768007,32768009,32768010,32768011,32768015] [] [] 8 (Jc Jbb (Jc Jew (Jc z6 (Jc ug Jo)))) Jz Jy (Jn (by kernel_rfl)) rfl rfl rfl rfl (Jn3 wv)
noncomputable def Jao[W](s:(HP AI (HP Vz Uh))):AH (Nx (HP AI (HP Vz Uh)) U5):=br (cm .lss s.j.j.j.e s.j.j.e) (ge s.j.e s.j.j.j.e λv1=>br (cm .lss (ar .add .i64 v1.1 s.e) (ar .sub .i64 v1.2 s.e)) (gd (ft 16 (pl (ln s.j.j.j.j.e) 1))<|some (.go ⟨s.e,s.j.e,s.j.j.e,(ar .add .i64 s.j.j.j.e 1),(ap s.j.j.j.j.e (((ar .add .i64 v1.1 s.e),(ar .sub .i64 v1.2 s.e))::[])),()⟩)) (AC (.go ⟨s.e,s.j.e,s.j.j.e,(ar .add .i64 s.j.j.j.e 1),s.j.j.j.j⟩))) (AC (.out s.j.j.j.j))
noncomputable def zW[W](a:(Vz×AI)):AH Vz:=call J7 (a.1:Vz) λ(v0:AN)=>br (nt v0) (AC []) (br (cm .lss a.2 0) (AC []) (br (cm .gtr a.2 1048576) (AC []) (loop Jao ⟨a.2,a.1,(ln a.1),0,[],()⟩ λv2=>AC v2.e)))
noncomputable def kH:BQ:=⟨83,[(.one,(.ls (.p I I))),(.one,I)],[(AF,(.ls (.p I I)))],@zW wv⟩
theorem Jvj(w:W)(a):Cv (dW w) (V1 [(68,J7)]) 8 83 kH.as kH.rs a=@zW w a:=by kernel_rfl
theorem Jwm:V3 kH:=V2 (Jc ug Jo) (Jn (by kernel_rfl)) rfl rfl rfl rfl (Jvj wv)
noncomputable def Zm[W](a:(U0×AI))(s:U6):AH (Nx U6 (HP AI (HP U0 Us))):=br (cm .lss s.j.j.j.e s.j.j.e) (ge s.j.e s.j.j.j.e λv1=>call kH ((v1.2,s.e):(Vz×AI)) λ(v2:Vz)=>AC (.go ⟨s.e,s.j.e,s.j.j.e,(ar .add .i64 s.j.j.j.e 1),s.j.j.j.j.e,(ms (a:=I) (b:=(.ls (.p I I))) s.j.j.j.j.j.e v1.1 v2),()⟩)) (AC (.out ⟨s.e,s.j.j.j.j⟩))
noncomputable def Zl[W](a:(U0×AI))(s:Uk):AH (Nx Uk (HP Vz U7)):=br (cm .leq s.j.j.j.e (ar .add .i64 s.e s.j.e)) (call Zo ((s.j.j.e,(mg (a:=I) (b:=(.ls (.p I I))) s.j.j.j.j.j.j.j.j.j.j.e s.j.j.j.e [])):(Vz×Vz)) λ(v5:Vz)=>AC (.go ⟨s.e,s.j.e,v5,(ar .add .i64 s.j.j.j.e 1),s.j.j.j.j⟩)) (AC (.out ⟨s.j.j.e,s.j.j.j.j.e,s.j.j.j.j.j.e,s.j.j.j.j.j.j.e,s.j.j.j.j.j.j.j.e,s.j.j.j.j.j.j.j.j.e,s.j.j.j.j.j.j.j.j.j.e,s.j.j.j.j.j.j.j.j.j.j.j.e,s.j.j.j.j.j.j.j.j.j.j.e,()⟩))
noncomputable def Zr[W](a:(U0×AI))(s:U6):AH (Nx U6 Us):=br (cm .lss s.j.j.j.e s.j.j.e) (ge s.j.e s.j.j.j.e λv4=>loop (Zl a) ⟨v4.1,s.e,(mg (a:=I) (b:=(.ls (.p I I))) s.j.j.j.j.e (ar .sub .i64 v4.1 s.e) []),(ar .add .i64 (ar .sub .i64 v4.1 s.e) 1),s.e,s.j.e,s.j.j.e,s.j.j.j.e,v4.1,v4.2,s.j.j.j.j⟩ λd=>br (cm .gtr (ln d.e) 0) (gd (ft 16 (pl 0 (ln d.e)))<|gd (ft 32 (pl (ln d.j.j.j.j.j.j.j.e) 1))<|some (.go ⟨d.j.e,d.j.j.e,d.j.j.j.e,(ar .add .i64 d.j.j.j.j.e 1),d.j.j.j.j.j.j.j.j.e,(ap d.j.j.j.j.j.j.j.e ((d.j.j.j.j.j.e,d.e)::[])),()⟩)) (AC (.go ⟨d.j.e,d.j.j.e,d.j.j.j.e,(ar .add .i64 d.j.j.j.j.e 1),d.j.j.j.j.j.j.j.j.e,d.j.j.j.j.j.j.j.e,()⟩))) (AC (.out s.j.j.j.j.j))
noncomputable def uy[W](a:(U0×AI)):AH U0:=call kI ((a.1,a.2):(U0×AI)) λ(v0:AN)=>br (nt v0) (AC []) (loop (Zm a) ⟨a.2,a.1,(ln a.1),0,a.1,[],()⟩ λv3=>loop (Zr a) ⟨v3.e,v3.j.e,(ln v3.j.e),0,v3.j.j.e,[],()⟩ λd=>AC d.e)
noncomputable def zw:BQ:=⟨33,[(.ag,(.ls (.p I (.ls (.p I I))))),(.one,I)],[(AE,(.ls (.p I (.ls (.p I I)))))],@uy wv⟩
theorem Jvi(w:W)(a):Cv (dW w) (Im (Eh [(83,kH),(81,kI)]) [] [] [] [] [(82,Zo.bi)] []) 8 33 zw.as zw.rs a=@uy w a:=by kernel_rfl
theorem Jwr:V3 zw:=good (Eh [(83,kH),(81,kI)]) [] [] [] [] [(82,Zo.bi)] [] 8 (Jc Jwm (Jc Jva Jo)) Jz (Lm (Rq Jn2 rfl) Jy) (Jn (by kernel_rfl)) rfl rfl rfl rfl (Jvi wv)
noncomputable def Jeh[W](s:Uo):AH (Nx Uo (HP U0 (HP AI U9))):=br (cm .lss s.j.j.j.e s.j.j.j.j.e) (gd (cm .geq 1 0)<|ge s.e (cv .i64 (sh .shr .u64 (cv .u64 (ar .add .i64 s.j.j.j.e s.j.j.j.j.e)) 1)) λv0=>call Qv ((v0.1,s.j.e):(AI×AI)) λ(v1:AI)=>br (cm .lss v1 0) (AC (.go ⟨s.e,s.j.e,s.j.j.e,(ar .add .i64 (cv .i64 (sh .shr .u64 (cv .u64 (ar .add .i64 s.j.j.j.e s.j.j.j.j.e)) 1)) 1),s.j.j.j.j⟩)) (AC (.go ⟨s.e,s.j.e,s.j.j.e,s.j.j.j.e,(cv .i64 (sh .shr .u64 (cv .u64 (ar .add .i64 s.j.j.j.e s.j.j.j.j.e)) 1)),s.j.j.j.j.j⟩))) (AC (.out ⟨s.e,s.j.e,s.j.j.e,s.j.j.j.e,s.j.j.j.j.j⟩))
noncomputable def zL[W](a:(U0×AI)):AH Vz:=loop Jeh ⟨a.1,a.2,(ln a.1),0,(ln a.1),a.1,()⟩ λv2=>br (cm .lss v2.j.j.j.e v2.j.j.e) (ge v2.e v2.j.j.j.e λv3=>call Qv ((v3.1,v2.j.e):(AI×AI)) λ(v4:AI)=>br (nt (cm .eql v4 0)) (AC []) (ge v2.j.j.j.j.e v2.j.j.j.e λv5=>AC v5.2)) (AC [])
noncomputable def j7:BQ:=⟨63,[(.ag,(.ls (.p I (.ls (.p I I))))),(.one,I)],[(AF,(.ls (.p I I)))],@zL wv⟩
theorem Jww(w:W)(a):Cv (dW w) (V1 [(125,Qv)]) 8 63 j7.as j7.rs a=@zL w a:=by kernel_rfl
theorem Jy0:V3 j7:=V2 (Jc Jlv Jo) (Jn (by kernel_rfl)) rfl rfl rfl rfl (Jww wv)
noncomputable def Qa[W](a:Vz):AH Vz:=nq (ln a) λv0=>br v0 (AC []) (gd (ft 16 (pl 0 (ln a)))<|some a)
noncomputable def Ku:BQ:=⟨150,[(.one,(.ls (.p I I)))],[(AF,(.ls (.p I I)))],@Qa wv⟩
theorem Jc2(w:W)(a):Cv (dW w) (V1 []) 8 150 Ku.as Ku.rs a=@Qa w a:=by kernel_rfl
theorem Jcw:V3 Ku:=V2 Jo (Jn (by kernel_rfl)) rfl rfl rfl rfl (Jc2 wv)
noncomputable def Q0[W](s:U8):AH (Nx U8 Ui):=br (cm .lss s.j.j.j.j.j.e s.j.j.j.j.e) (ge s.j.j.j.e s.j.j.j.j.j.e λv2=>gd (ft 8 (pl (ln s.j.j.j.j.j.j.j.j.e) 1))<|some (.go ⟨s.e,s.j.e,s.j.j.e,s.j.j.j.e,s.j.j.j.j.e,(ar .add .i64 s.j.j.j.j.j.e 1),s.j.j.j.j.j.j.e,s.j.j.j.j.j.j.j.e,(ap s.j.j.j.j.j.j.j.j.e (v2.1::[])),()⟩)) (AC (.out ⟨s.e,s.j.e,s.j.j.e,s.j.j.j.j.j.j⟩))
noncomputable def Jdh[W](s:U8):AH (Nx U8 Ui):=br (cm .lss s.j.j.j.j.j.e s.j.j.j.j.e) (ge s.j.j.j.e s.j.j.j.j.j.e λv4=>gd (ft 8 (pl (ln s.j.j.j.j.j.j.j.j.e) 1))<|some (.go ⟨s.e,s.j.e,s.j.j.e,s.j.j.j.e,s.j.j.j.j.e,(ar .add .i64 s.j.j.j.j.j.e 1),s.j.j.j.j.j.j.e,s.j.j.j.j.j.j.j.e,(ap s.j.j.j.j.j.j.j.j.e (v4.1::[])),()⟩)) (AC (.out ⟨s.e,s.j.e,s.j.j.e,s.j.j.j.j.j.j⟩))
noncomputable def Kr[W](s:Ui):AH (Nx Ui (HP U0 (HP U0 (HP Um Unit)))):=br (cm .lss s.j.j.e 2) (br (cm .eql s.j.j.e 0) (loop Q0 ⟨s.e,s.j.e,s.j.j.e,s.e,(ln s.e),0,s.j.j.j⟩ λv3=>AC (.go ⟨v3.e,v3.j.e,(ar .add .i64 v3.j.j.e 1),v3.j.j.j⟩)) (br (cm .eql s.j.j.e 1) (loop Jdh ⟨s.e,s.j.e,s.j.j.e,s.j.e,(ln s.j.e),0,s.j.j.j⟩ λv5=>AC (.go ⟨v5.e,v5.j.e,(ar .add .i64 v5.j.j.e 1),v5.j.j.j⟩)) (AD))) (AC (.out s.j.j.j))
noncomputable def Xn[W](s:Ue):AH (Nx Ue Us):=br (cm .lss s.j.j.e s.j.e) (ge s.e s.j.j.e λv9=>call j7 ((s.j.j.j.e,v9):(U0×AI)) λ(v10:Vz)=>call j7 ((s.j.j.j.j.e,v9):(U0×AI)) λ(v11:Vz)=>call J4 ((v10,v11):(Vz×Vz)) λ(v12:Vz)=>br (cm .gtr (ln v12) 0) (call Ku (v12:Vz) λ(v13:Vz)=>gd (ft 32 (pl (ln s.j.j.j.j.j.e) 1))<|some (.go ⟨s.e,s.j.e,(ar .add .i64 s.j.j.e 1),s.j.j.j.e,s.j.j.j.j.e,(ap s.j.j.j.j.j.e ((v9,v13)::[])),()⟩)) (AC (.go ⟨s.e,s.j.e,(ar .add .i64 s.j.j.e 1),s.j.j.j⟩))) (AC (.out s.j.j.j.j.j))
noncomputable def Y4[W](a:(U0×U0)):AH U0:=call Je (a.1:U0) λ(v0:AN)=>br (nt v0) (AC []) (call Je (a.2:U0) λ(v1:AN)=>br (nt v1) (AC []) (loop Kr ⟨a.1,a.2,0,a.1,a.2,[],()⟩ λd=>call J10 (d.j.j.e:Um) λ(g:Um)=>call Jsr (g:Um) λ(f:Um)=>loop Xn ⟨f,(ln f),0,d.e,d.j.e,[],()⟩ λv14=>AC v14.e))
noncomputable def Xu:BQ:=⟨36,[(.ag,(.ls (.p I (.ls (.p I I))))),(.ag,(.ls (.p I (.ls (.p I I)))))],[(AE,(.ls (.p I (.ls (.p I I)))))],@Y4 wv⟩
theorem Jl8(w:W)(a):Cv (dW w) (Im (Eh [(63,j7),(150,Ku),(23,Je)]) [] [] [J2z] [] [(91,J4.bi),(149,Jii)] []) 8 36 Xu.as Xu.rs a=@Y4 w a:=by kernel_rfl
theorem Jmu:V3 Xu:=good (Eh [(63,j7),(150,Ku),(23,Je)]) [] [] [J2z] [] [(91,J4.bi),(149,Jii)] [] 8 (Jc Jy0 (Jc Jcw (Jc Ks Jo))) (wL QV Jz) (Lm (Rq Jdv rfl) (Lm Jv0 Jy)) (Jn (by kernel_rfl)) rfl rfl rfl rfl (Jl8 wv)
noncomputable def Jfl[W](s:Uq):AH (Nx Uq (Unit⊕Unit)):=br (cm .lss s.j.j.e (ln s.e)) (ge s.e s.j.j.e λv0=>br (cm .leq v0.1 s.j.e) (ge s.e s.j.j.e λv1=>br (cm .lss s.j.e v1.2) (AC (.out (.inl ()))) (AC (.go ⟨s.e,s.j.e,(ar .add .i64 s.j.j.e 1),()⟩))) (AC (.go ⟨s.e,s.j.e,(ar .add .i64 s.j.j.e 1),()⟩))) (AC (.out (.inr ())))
noncomputable def Jhi[W](a:(Vz×AI)):AH AN:=loop Jfl ⟨a.1,a.2,0,()⟩ λv2=>match v2 with|.inl v3=>(AC AE)|.inr v4=>(AC AF)
noncomputable def Jhj:BQ:=⟨164,[(.one,(.ls (.p I I))),(.one,I)],[(AF,.bool)],@Jhi wv⟩
noncomputable def Jhf[W](s:U9):AH (Nx U9 (U5⊕Unit)):=br (cm .lss s.j.e (ln s.j.j.e)) (ge s.j.j.e s.j.e λv0=>br (cm .eql v0.1 s.e) (ge s.j.j.e s.j.e λv1=>AC (.out (.inl ⟨v1.2,()⟩))) (AC (.go ⟨s.e,(ar .add .i64 s.j.e 1),s.j.j⟩))) (AC (.out (.inr ())))
noncomputable def Jj2[W](a:(U0×AI)):AH Vz:=loop Jhf ⟨a.2,0,a.1,()⟩ λv2=>match v2 with|.inl v3=>(AC v3.e)|.inr v4=>(AC [])
noncomputable def Jki:BQ:=⟨165,[(.ag,(.ls (.p I (.ls (.p I I))))),(.one,I)],[(AF,(.ls (.p I I)))],@Jj2 wv⟩
noncomputable def Jfu[W](a:(U0×(AI×AI))):AH AN:=call K2 (a.1:U0) λ(v0:AN)=>br v0 (call Jki ((a.1,a.2.2):(U0×AI)) λ(v1:Vz)=>call Jhj ((v1,a.2.1):(Vz×AI)) λ(v2:AN)=>AC v2) (AC AF)
noncomputable def Jf6:BQ:=⟨116,[(.ag,(.ls (.p I (.ls (.p I I))))),(.ag,(.p I I))],[(AF,.bool)],@Jfu wv⟩
noncomputable def zo[W](s:Ub):AH (Nx Ub (HP U2 U5)):=br (cm .lss s.j.j.j.e s.j.j.e) (ge s.j.e s.j.j.j.e λv0=>ge s.e s.j.j.j.e λv1=>br (nt v1) (AC (.go ⟨s.e,s.j.e,s.j.j.e,(ar .add .i64 s.j.j.j.e 1),s.j.j.j.j⟩)) (br (cm .eql s.j.j.j.e 0) (gd (ft 40 (pl (ln s.j.j.j.j.j.j.j.e) 1))<|gd (ib (ar .sub .i64 (ln (ap (ml s.j.j.j.j.j.j.j.e λy=>(y.1,(y.2.1,s.j.j.j.j.j.j.j.j.e))) ((s.j.j.j.j.e,(AF,[]))::[]))) 1) (ln (ap (ml s.j.j.j.j.j.j.j.e λy=>(y.1,(y.2.1,s.j.j.j.j.j.j.j.j.e))) ((s.j.j.j.j.e,(AF,[]))::[]))))<|ge (ap (ml s.j.j.j.j.j.j.j.e λy=>(y.1,(y.2.1,s.j.j.j.j.j.j.j.j.e))) ((s.j.j.j.j.e,(AF,[]))::[])) (ar .sub .i64 (ln (ap (ml s.j.j.j.j.j.j.j.e λy=>(y.1,(y.2.1,s.j.j.j.j.j.j.j.j.e))) ((s.j.j.j.j.e,(AF,[]))::[]))) 1) λv2=>gd (cm .eql (pl (ar .sub .i64 (ln (ap (ml s.j.j.j.j.j.j.j.e λy=>(y.1,(y.2.1,s.j.j.j.j.j.j.j.j.e))) ((s.j.j.j.j.e,(AF,[]))::[]))) 1) 1) (ln (ap (ml s.j.j.j.j.j.j.j.e λy=>(y.1,(y.2.1,s.j.j.j.j.j.j.j.j.e))) ((s.j.j.j.j.e,(AF,[]))::[]))))<|gd (ft 16 1)<|ge (ap (ml s.j.j.j.j.j.j.j.e λy=>(y.1,(y.2.1,s.j.j.j.j.j.j.j.j.e))) ((s.j.j.j.j.e,(AF,[]))::[])) (ar .sub .i64 (ln (ap (ml s.j.j.j.j.j.j.j.e λy=>(y.1,(y.2.1,s.j.j.j.j.j.j.j.j.e))) ((s.j.j.j.j.e,(AF,[]))::[]))) 1) λv3=>gd (cm .eql (pl (ar .sub .i64 (ln (ap (ml s.j.j.j.j.j.j.j.e λy=>(y.1,(y.2.1,s.j.j.j.j.j.j.j.j.e))) ((s.j.j.j.j.e,(AF,[]))::[]))) 1) 1) (ln (ap (ml s.j.j.j.j.j.j.j.e λy=>(y.1,(y.2.1,s.j.j.j.j.j.j.j.j.e))) ((s.j.j.j.j.e,(AF,[]))::[]))))<|some (.go ⟨s.e,s.j.e,s.j.j.e,(ar .add .i64 s.j.j.j.e 1),s.j.j.j.j.e,s.j.j.j.j.j.e,s.j.j.j.j.j.j.e,(st (ap (ml s.j.j.j.j.j.j.j.e λy=>(y.1,(y.2.1,s.j.j.j.j.j.j.j.j.e))) ((s.j.j.j.j.e,(AF,[]))::[])) (ar .sub .i64 (ln (ap (ml s.j.j.j.j.j.j.j.e λy=>(y.1,(y.2.1,s.j.j.j.j.j.j.j.j.e))) ((s.j.j.j.j.e,(AF,[]))::[]))) 1) (v3.1,(v3.2.1,v3.2.2))),((v0.1,v0.2)::[]),()⟩)) (ge s.e (ar .sub .i64 s.j.j.j.e 1) λv4=>br (nt v4) (gd (ft 40 (pl (ln s.j.j.j.j.j.j.j.e) 1))<|gd (ib (ar .sub .i64 (ln (ap (ml s.j.j.j.j.j.j.j.e λy=>(y.1,(y.2.1,s.j.j.j.j.j.j.j.j.e))) ((s.j.j.j.j.e,(AF,[]))::[]))) 1) (ln (ap (ml s.j.j.j.j.j.j.j.e λy=>(y.1,(y.2.1,s.j.j.j.j.j.j.j.j.e))) ((s.j.j.j.j.e,(AF,[]))::[]))))<|ge (ap (ml s.j.j.j.j.j.j.j.e λy=>(y.1,(y.2.1,s.j.j.j.j.j.j.j.j.e))) ((s.j.j.j.j.e,(AF,[]))::[])) (ar .sub .i64 (ln (ap (ml s.j.j.j.j.j.j.j.e λy=>(y.1,(y.2.1,s.j.j.j.j.j.j.j.j.e))) ((s.j.j.j.j.e,(AF,[]))::[]))) 1) λv5=>gd (cm .eql (pl (ar .sub .i64 (ln (ap (ml s.j.j.j.j.j.j.j.e λy=>(y.1,(y.2.1,s.j.j.j.j.j.j.j.j.e))) ((s.j.j.j.j.e,(AF,[]))::[]))) 1) 1) (ln (ap (ml s.j.j.j.j.j.j.j.e λy=>(y.1,(y.2.1,s.j.j.j.j.j.j.j.j.e))) ((s.j.j.j.j.e,(AF,[]))::[]))))<|gd (ft 16 1)<|ge (ap (ml s.j.j.j.j.j.j.j.e λy=>(y.1,(y.2.1,s.j.j.j.j.j.j.j.j.e))) ((s.j.j.j.j.e,(AF,[]))::[])) (ar .sub .i64 (ln (ap (ml s.j.j.j.j.j.j.j.e λy=>(y.1,(y.2.1,s.j.j.j.j.j.j.j.j.e))) ((s.j.j.j.j.e,(AF,[]))::[]))) 1) λd=>gd (cm .eql (pl (ar .sub .i64 (ln (ap (ml s.j.j.j.j.j.j.j.e λy=>(y.1,(y.2.1,s.j.j.j.j.j.j.j.j.e))) ((s.j.j.j.j.e,(AF,[]))::[]))) 1) 1) (ln (ap (ml s.j.j.j.j.j.j.j.e λy=>(y.1,(y.2.1,s.j.j.j.j.j.j.j.j.e))) ((s.j.j.j.j.e,(AF,[]))::[]))))<|some (.go ⟨s.e,s.j.e,s.j.j.e,(ar .add .i64 s.j.j.j.e 1),s.j.j.j.j.e,s.j.j.j.j.j.e,s.j.j.j.j.j.j.e,(st (ap (ml s.j.j.j.j.j.j.j.e λy=>(y.1,(y.2.1,s.j.j.j.j.j.j.j.j.e))) ((s.j.j.j.j.e,(AF,[]))::[])) (ar .sub .i64 (ln (ap (ml s.j.j.j.j.j.j.j.e λy=>(y.1,(y.2.1,s.j.j.j.j.j.j.j.j.e))) ((s.j.j.j.j.e,(AF,[]))::[]))) 1) (d.1,(d.2.1,d.2.2))),((v0.1,v0.2)::[]),()⟩)) (gd (ib (ar .sub .i64 (ln s.j.j.j.j.j.j.j.e) 1) (ln s.j.j.j.j.j.j.j.e))<|ge s.j.j.j.j.j.j.j.e (ar .sub .i64 (ln s.j.j.j.j.j.j.j.e) 1) λf=>gd (cm .eql (pl (ar .sub .i64 (ln s.j.j.j.j.j.j.j.e) 1) 1) (ln s.j.j.j.j.j.j.j.e))<|gd (ft 16 (pl (ln s.j.j.j.j.j.j.j.j.e) 1))<|ge s.j.j.j.j.j.j.j.e (ar .sub .i64 (ln s.j.j.j.j.j.j.j.e) 1) λa=>gd (cm .eql (pl (ar .sub .i64 (ln s.j.j.j.j.j.j.j.e) 1) 1) (ln s.j.j.j.j.j.j.j.e))<|some (.go ⟨s.e,s.j.e,s.j.j.e,(ar .add .i64 s.j.j.j.e 1),s.j.j.j.j.e,s.j.j.j.j.j.e,s.j.j.j.j.j.j.e,(st s.j.j.j.j.j.j.j.e (ar .sub .i64 (ln s.j.j.j.j.j.j.j.e) 1) (a.1,(a.2.1,a.2.2))),(ap s.j.j.j.j.j.j.j.j.e ((v0.1,v0.2)::[])),()⟩))))) (AC (.out s.j.j.j.j.j.j.j))
noncomputable def Jco[W](a:((AI×(AN×Vz))×(AG AN))):AH U2:=loop zo ⟨a.2,a.1.2.2,(ln a.1.2.2),0,a.1.1,a.1.2.1,a.1.2.2,[],[],()⟩ λv9=>AC (ml v9.e λy=>(y.1,(y.2.1,v9.j.e)))
noncomputable def kK:BQ:=⟨137,[(.ag,(.p I (.p .bool (.ls (.p I I))))),(.one,(.ls .bool))],[(AF,(.ls (.p I (.p .bool (.ls (.p I I))))))],@Jco wv⟩
theorem Jr3(w:W)(a):Cv (dW w) (Im (Eh []) [0,1,2,3,4,5,6,7,8,9,10] [] [] [] [] []) 8 137 kK.as kK.rs a=@Jco w a:=by kernel_rfl
theorem Jr6:V3 kK:=good (Eh []) [0,1,2,3,4,5,6,7,8,9,10] [] [] [] [] [] 8 Jo Jz Jy (Jn (by kernel_rfl)) rfl rfl rfl rfl (Jr3 wv)
noncomputable def jz[W](a:U2)(s:Uj):AH (Nx Uj (HP AN (HP U2 U4))):=br (cm .lss s.j.j.j.j.j.j.e s.j.j.j.j.j.e) (ge s.j.j.j.j.e s.j.j.j.j.j.j.e λv2=>gd (ib s.j.j.j.j.j.j.e (ln s.j.j.j.j.j.j.j.j.j.j.j.j.e))<|ge s.j.j.j.j.j.j.j.j.j.j.j.j.e s.j.j.j.j.j.j.e λv3=>br s.e (gd (ib s.j.j.j.j.j.j.e (ln (st s.j.j.j.j.j.j.j.j.j.j.j.j.e s.j.j.j.j.j.j.e (nt (mg (a:=(.p I I)) (b:=.bool) s.j.j.j.j.j.j.j.j.e (v2.1,v2.2) AF)))))<|ge (st s.j.j.j.j.j.j.j.j.j.j.j.j.e s.j.j.j.j.j.j.e (nt (mg (a:=(.p I I)) (b:=.bool) s.j.j.j.j.j.j.j.j.e (v2.1,v2.2) AF))) s.j.j.j.j.j.j.e λv4=>AC (.go ⟨v4,s.j.e,s.j.j.e,s.j.j.j.e,s.j.j.j.j.e,s.j.j.j.j.j.e,(ar .add .i64 s.j.j.j.j.j.j.e 1),s.j.j.j.j.j.j.j.e,(ms (a:=(.p I I)) (b:=.bool) s.j.j.j.j.j.j.j.j.e (v2.1,v2.2) AE),s.j.j.j.j.j.j.j.j.j.e,s.j.j.j.j.j.j.j.j.j.j.e,s.j.j.j.j.j.j.j.j.j.j.j.e,(st s.j.j.j.j.j.j.j.j.j.j.j.j.e s.j.j.j.j.j.j.e (nt (mg (a:=(.p I I)) (b:=.bool) s.j.j.j.j.j.j.j.j.e (v2.1,v2.2) AF))),()⟩)) (AC (.go ⟨AF,s.j.e,s.j.j.e,s.j.j.j.e,s.j.j.j.j.e,s.j.j.j.j.j.e,(ar .add .i64 s.j.j.j.j.j.j.e 1),s.j.j.j.j.j.j.j.e,(ms (a:=(.p I I)) (b:=.bool) s.j.j.j.j.j.j.j.j.e (v2.1,v2.2) AE),s.j.j.j.j.j.j.j.j.j.e,s.j.j.j.j.j.j.j.j.j.j.e,s.j.j.j.j.j.j.j.j.j.j.j.e,(st s.j.j.j.j.j.j.j.j.j.j.j.j.e s.j.j.j.j.j.j.e (nt (mg (a:=(.p I I)) (b:=.bool) s.j.j.j.j.j.j.j.j.e (v2.1,v2.2) AF))),()⟩))) (AC (.out ⟨s.e,s.j.e,s.j.j.e,s.j.j.j.e,s.j.j.j.j.j.j.j⟩))
noncomputable def Jbi[W](a:U2)(s:Uc):AH (Nx Uc (HP U2 Unit)):=br (cm .lss s.j.j.e s.j.e) (ge s.e s.j.j.e λv0=>call Kv ((v0.1,(v0.2.1,v0.2.2)):(AI×(AN×Vz))) λ(v1:AN)=>br (nt v1) (AC (.go ⟨s.e,s.j.e,(ar .add .i64 s.j.j.e 1),s.j.j.j⟩)) (gd (le 0 (ln v0.2.2))<|gd (ft 1 (ln v0.2.2))<|loop (jz a) ⟨AE,s.e,s.j.e,s.j.j.e,v0.2.2,(ln v0.2.2),0,s.j.j.j.j.e,s.j.j.j.e,v0.1,v0.2.1,v0.2.2,(rp AF (ln v0.2.2)),()⟩ λv5=>br v5.e (gd (ft 16 (pl 0 (ln v5.j.j.j.j.j.j.j.j.e)))<|gd (ft 40 (pl (ln v5.j.j.j.j.e) 1))<|some (.go ⟨v5.j.e,v5.j.j.e,(ar .add .i64 v5.j.j.j.e 1),v5.j.j.j.j.j.e,(ap v5.j.j.j.j.e ((v5.j.j.j.j.j.j.e,(v5.j.j.j.j.j.j.j.e,v5.j.j.j.j.j.j.j.j.e))::[])),()⟩)) (call kK (((v5.j.j.j.j.j.j.e,(v5.j.j.j.j.j.j.j.e,v5.j.j.j.j.j.j.j.j.e)),v5.j.j.j.j.j.j.j.j.j.e):((AI×(AN×Vz))×(AG AN))) λ(d:U2)=>gd (ft 40 (pl (ln v5.j.j.j.j.e) (ln d)))<|some (.go ⟨v5.j.e,v5.j.j.e,(ar .add .i64 v5.j.j.j.e 1),v5.j.j.j.j.j.e,(ap v5.j.j.j.j.e d),()⟩)))) (AC (.out s.j.j.j.j))
noncomputable def jx[W](a:U2):AH U2:=loop (Jbi a) ⟨a,(ln a),0,[],[],()⟩ λd=>AC d.e
noncomputable def zD:BQ:=⟨74,[(.one,(.ls (.p I (.p .bool (.ls (.p I I))))))],[(AF,(.ls (.p I (.p .bool (.ls (.p I I))))))],@jx wv⟩
noncomputable def uo:KP:=⟨74,[(.one,(.ls (.p I (.p .bool (.ls (.p I I))))))],39,(.p I (.p .bool (.ls (.p I I)))),@jx wv⟩
theorem Ju1(w:W)(a):M9 (dW w) (V1 [(35,Kv),(137,kK)]) 8 74 [(.one,(.ls (.p I (.p .bool (.ls (.p I I))))))] (.p I (.p .bool (.ls (.p I I)))) 39 a=@jx w a:=by kernel_rfl
theorem Jlq:Mq PG uo:=own (Eh [(35,Kv),(137,kK)]) [] [] [] [] [] [] 8 (Jc zU (Jc Jr6 Jo)) Jz Jy (Jn (by kernel_rfl)) rfl (by decide) rfl (Ju1 wv)
end Go.Proofs.YtmfagdfkpjgeiaaGreat
