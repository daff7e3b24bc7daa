/- Cells are sorted by the library's sort. Conditions: none. -/
import Derived.Test.YtmfagdfkpjgeiaaGreatXB
import Derived.Test.YtmfagdfkpjgeiaaGreatFB
import Derived.Test.YtmfagdfkpjgeiaaGreatTT
set_option linter.unusedVariables false
set_option linter.unusedSimpArgs false
set_option maxRecDepth 100000
namespace Go.Proofs.YtmfagdfkpjgeiaaGreat
open Go Go.Vv Go.Dn
instance:Inhabited (Ty.p I I).T:=⟨((0:Int),(0:Int))⟩
end Go.Proofs.YtmfagdfkpjgeiaaGreat
namespace Go.Proofs.YtmfagdfkpjgeiaaGreat
open Go Go.Vv Go.Dn Go.Dn.W
abbrev U1:=List (Int×Int)
abbrev U2:=List (Int×U1)
abbrev U3:=List ((Int×Int)×(Int×Int))
abbrev U5:=HP U1 Unit
abbrev U6:=List (Int×(Bool×U1))
abbrev U7:=HP Int (HP U2 (HP Int (HP Int (HP U2 (HP U2 Unit)))))
abbrev U8:=HP Int (HP Int Unit)
abbrev U9:=HP Int (HP U2 (HP Int (HP Int (HP Int (HP U1 (HP U2 (HP U2 Unit)))))))
abbrev Ua:=HP Int (HP U2 U5)
abbrev Ub:=HP Int (HP Int (HP U2 Unit))
abbrev Uc:=HP Int U5
abbrev Ud:=List U1
abbrev Ue:=HP U1 (HP Int (HP U1 (HP Int (HP Int (HP Int (HP Int (HP Int (HP Int (HP Int (HP Int U8))))))))))
abbrev Uf:=HP Int (HP Bool U5)
abbrev Ug:=HP Int (HP (List Bool) (HP U3 Unit))
abbrev Uj:=HP Int (HP Int (HP Int (HP Bool (HP U1 Uf))))
abbrev Uk:=HP U3 (HP Ud (HP Int (HP (List Bool) Unit)))
abbrev Ul:=HP Int Uc
abbrev Um:=HP Int (HP U1 (HP Int (HP Int Uf)))
abbrev Un:=HP Int (HP Int (HP U1 (HP Int U9)))
abbrev Uo:=HP U1 (HP Int (HP U2 (HP U3 Unit)))
abbrev Uq:=HP Int Ua
abbrev Ur:=HP Ud (HP Int (HP U6 Unit))
abbrev Us:=HP U2 (HP Int (HP Int Ub))
abbrev Ut:=HP U3 (HP Ud (HP Int Ug))
abbrev Uu:=HP U1 Uc
abbrev U4:=HP U1 (HP Int Uu)
abbrev Uh:=HP Bool U4
abbrev Ui:=HP Bool (HP Int U4)
abbrev Uv:=HP Bool (HP Int Uh)
noncomputable def xS[W](a:(Int×Int)):Option Bool:=br (cm .geq a.1 (-4096)) (br (cm .lss a.1 4096) (br (cm .geq a.2 (-4096)) (some (cm .lss a.2 4096)) (some false)) (some false)) (some false)
noncomputable def jC:BS:=⟨88,[(.ag,(.p I I))],[(false,.bool)],@xS wv⟩
theorem Jtd(w:W)(a):CY (dW w) (V1 []) 8 88 jC.as jC.rs a=@xS w a:=by kernel_rfl
theorem Jth:V3 jC:=V2 Jo (Jm (by kernel_rfl)) rfl rfl (Jtd wv)
noncomputable def yE[W](a:((Int×Int)×(Int×Int))):Option Bool:=some (cm .eql (ar .add .i64 (ar .mul .i64 (ar .sub .i64 a.1.1 a.2.1) (ar .sub .i64 a.1.1 a.2.1)) (ar .mul .i64 (ar .sub .i64 a.1.2 a.2.2) (ar .sub .i64 a.1.2 a.2.2))) 1)
noncomputable def Xz:BS:=⟨89,[(.ag,(.p I I)),(.ag,(.p I I))],[(false,.bool)],@yE wv⟩
theorem Jn9(w:W)(a):CY (dW w) (V1 []) 8 89 Xz.as Xz.rs a=@yE w a:=by kernel_rfl
theorem Jn8:V3 Xz:=V2 Jo (Jm (by kernel_rfl)) rfl rfl (Jn9 wv)
noncomputable def rz[W](s:Um):Option (Nx Um (Unit⊕(HP Int Uf))):=br (cm .lss s.j.j.j.e s.j.j.e) (ge s.j.e s.j.j.j.e λv0=>call jC ((v0.1,v0.2):(Int×Int)) λ(v1:Bool)=>br (nt v1) (some (.out (.inl ()))) (br (cm .gtr s.j.j.j.e 0) (ge s.j.j.j.j.j.j.e (ar .sub .i64 s.j.j.j.e 1) λv2=>call Xz (((v2.1,v2.2),(v0.1,v0.2)):((Int×Int)×(Int×Int))) λ(v3:Bool)=>br (nt v3) (some (.out (.inl ()))) (some (.go ⟨s.e,s.j.e,s.j.j.e,(ar .add .i64 s.j.j.j.e 1),s.j.j.j.j⟩))) (some (.go ⟨s.e,s.j.e,s.j.j.e,(ar .add .i64 s.j.j.j.e 1),s.j.j.j.j⟩)))) (some (.out (.inr ⟨s.e,s.j.j.j.j⟩)))
noncomputable def xL[W](a:(Int×(Bool×U1))):Option Bool:=br (cm .lss a.1 1) (some false) (br (cm .gtr a.1 7) (some false) (br (cm .lss (ln a.2.2) 1) (some false) (br (cm .gtr (ln a.2.2) 65536) (some false) (loop rz ⟨(ln a.2.2),a.2.2,(ln a.2.2),0,a.1,a.2.1,a.2.2,()⟩ λv4=>match v4 with|.inl v5=>(some false)|.inr d=>(br (nt d.j.j.e) (some true) (br (cm .eql d.e 1) (some true) (ge d.j.j.j.e (ar .sub .i64 d.e 1) λg=>ge d.j.j.j.e 0 λf=>call Xz (((g.1,g.2),(f.1,f.2)):((Int×Int)×(Int×Int))) λ(v9:Bool)=>some v9)))))))
noncomputable def jB:BS:=⟨35,[(.ag,(.p I (.p .bool (.ls (.p I I)))))],[(false,.bool)],@xL wv⟩
theorem Jvf(w:W)(a):CY (dW w) (V1 [(88,jC),(89,Xz)]) 8 35 jB.as jB.rs a=@xL w a:=by kernel_rfl
theorem Jwu:V3 jB:=V2 (Jc Jth (Jc Jn8 Jo)) (Jm (by kernel_rfl)) rfl rfl (Jvf wv)
end Go.Proofs.YtmfagdfkpjgeiaaGreat
namespace Go.Proofs.YtmfagdfkpjgeiaaGreat
open Go Go.Vv Go.Dn
noncomputable def yQ:GL:=⟨148,0,false,I,XQ⟩
noncomputable def J3f:BS:=yQ.ctr
theorem RF:KQ PG yQ:=J5w (P:=PG) (ρ:=Tryz.Fa) Tryz.OE (by decide) (Jm (by kernel_rfl))
noncomputable def Jtr:BS:=Go.Dn.Ws 149
def Jkh:Bi:=R5 149 3
theorem Jvz:TY PG 149 Jkh:=
 Kah (P:=PG) (ρ:=Tryz.GK) Tryz.Wp (Go.Proofs.EqlAt.intD _ _ .i64) (Go.Proofs.NeqAt.intD _ _ .i64) (λw=>by kernel_rfl) (by kernel_rfl) (Jm (by kernel_rfl))
end Go.Proofs.YtmfagdfkpjgeiaaGreat
namespace Go.Proofs.YtmfagdfkpjgeiaaGreat
open Go Go.Vv Go.Dn Go.Dn.W
noncomputable def xI[W](a:(U2×Int)):Option Bool:=br (cm .geq a.2 0) (br (cm .leq a.2 64) (call J9 (a.1:U2) λ(v0:Bool)=>some v0) (some false)) (some false)
noncomputable def jA:BS:=⟨81,[(.ag,(.ls (.p I (.ls (.p I I))))),(.one,I)],[(false,.bool)],@xI wv⟩
theorem Jwy(w:W)(a):CY (dW w) (V1 [(23,J9)]) 8 81 jA.as jA.rs a=@xI w a:=by kernel_rfl
theorem Jww:V3 jA:=V2 (Jc xQ Jo) (Jm (by kernel_rfl)) rfl rfl (Jwy wv)
noncomputable def Zp[W](s:Uh):Option (Uh⊕U5):=call Js ((s.j.e,s.j.j.e):(U1×Int)) λ(v2:Bool)=>br (nt v2) (some ((.inl s))) (call Js ((s.j.j.j.e,s.j.j.j.j.e):(U1×Int)) λ(v3:Bool)=>br (nt v3) (some ((.inl s))) (some ((.inr s.j.j.j.j.j))))
noncomputable def Jcr[W](v5:Uh)(d:Int)(a:Int):Option Ui:=call Jp ((v5.j.e,v5.j.j.e):(U1×Int)) λ(f:Int)=>br (cm .eql f (mn d a)) (some (⟨v5.e,(mn d a),v5.j.e,(ar .add .i64 v5.j.j.e 1),v5.j.j.j⟩)) (some (⟨v5.e,(mn d a),v5.j⟩))
noncomputable def Jco[W](v9:Ui):Option Ui:=call Jp ((v9.j.j.j.j.e,v9.j.j.j.j.j.e):(U1×Int)) λ(v10:Int)=>br (cm .eql v10 v9.j.e) (some (⟨v9.e,v9.j.e,v9.j.j.e,v9.j.j.j.e,v9.j.j.j.j.e,(ar .add .i64 v9.j.j.j.j.j.e 1),v9.j.j.j.j.j.j⟩)) (some (v9))
noncomputable def Jcp[W](v11:Ui):Option Uv:=call Jq ((v11.j.j.e,v11.j.j.j.e):(U1×Int)) λ(v12:Bool)=>call Jq ((v11.j.j.j.j.e,v11.j.j.j.j.j.e):(U1×Int)) λ(v13:Bool)=>br v12 (some (⟨v11.e,v11.j.e,v13,v11.j.j⟩)) (some (⟨v11.e,v11.j.e,false,v11.j.j⟩))
noncomputable def Jcn[W](v14:Uv):Option Uh:=br v14.j.j.e (br (nt v14.e) (gd (ft 16 (pl (ln v14.j.j.j.j.j.j.j.e) 1))<|some (⟨v14.j.j.e,v14.j.j.j.e,v14.j.j.j.j.e,v14.j.j.j.j.j.e,v14.j.j.j.j.j.j.e,(ap v14.j.j.j.j.j.j.j.e ((v14.j.e,0)::[])),()⟩)) (br (nt v14.j.j.e) (br v14.e (gd (ib (ar .sub .i64 (ln v14.j.j.j.j.j.j.j.e) 1) (ln v14.j.j.j.j.j.j.j.e))<|ge v14.j.j.j.j.j.j.j.e (ar .sub .i64 (ln v14.j.j.j.j.j.j.j.e) 1) λv15=>some (⟨v14.j.j.e,v14.j.j.j.e,v14.j.j.j.j.e,v14.j.j.j.j.j.e,v14.j.j.j.j.j.j.e,(st v14.j.j.j.j.j.j.j.e (ar .sub .i64 (ln v14.j.j.j.j.j.j.j.e) 1) (v15.1,v14.j.e)),()⟩)) (some (v14.j.j))) (some (v14.j.j)))) (br (nt v14.j.j.e) (br v14.e (gd (ib (ar .sub .i64 (ln v14.j.j.j.j.j.j.j.e) 1) (ln v14.j.j.j.j.j.j.j.e))<|ge v14.j.j.j.j.j.j.j.e (ar .sub .i64 (ln v14.j.j.j.j.j.j.j.e) 1) λv16=>some (⟨v14.j.j.e,v14.j.j.j.e,v14.j.j.j.j.e,v14.j.j.j.j.j.e,v14.j.j.j.j.j.j.e,(st v14.j.j.j.j.j.j.j.e (ar .sub .i64 (ln v14.j.j.j.j.j.j.j.e) 1) (v16.1,v14.j.e)),()⟩)) (some (v14.j.j))) (some (v14.j.j)))
noncomputable def Xy[W](s:Uh):Option (Nx Uh U5):=join (Zp s) λv4=>match v4 with|.inl v5=>(call Jp ((v5.j.e,v5.j.j.e):(U1×Int)) λ(d:Int)=>call Jp ((v5.j.j.j.e,v5.j.j.j.j.e):(U1×Int)) λ(a:Int)=>join (Jcr v5 d a) λv9=>join (Jco v9) λv11=>join (Jcp v11) λv14=>join (Jcn v14) λv17=>some (.go v17))|.inr v18=>(some (.out ⟨v18.e,()⟩))
noncomputable def sF[W](a:(U1×U1)):Option U1:=call J0 (a.1:U1) λ(v0:Bool)=>br (nt v0) (some []) (call J0 (a.2:U1) λ(v1:Bool)=>br (nt v1) (some []) (loop Xy ⟨false,a.1,0,a.2,0,[],()⟩ λv19=>some v19.e))
noncomputable def jD:BS:=⟨82,[(.one,(.ls (.p I I))),(.one,(.ls (.p I I)))],[(false,(.ls (.p I I)))],@sF wv⟩
theorem Jpn(w:W)(a):CY (dW w) (KX (F9 [(188,Js),(189,Jp),(191,Jq),(68,J0)]) [] [] [] [32768007,32768009,32768010,32768011,32768015] [] []) 8 82 jD.as jD.rs a=@sF w a:=by kernel_rfl
theorem Jpp:V3 jD:=good (F9 [(188,Js),(189,Jp),(191,Jq),(68,J0)]) [] [] [] [32768007,32768009,32768010,32768011,32768015] [] [] 8 (Jc yH (Jc Jdb (Jc zn (Jc rU Jo)))) Jv Jw (Jm (by kernel_rfl)) rfl rfl (Jpn wv)
noncomputable def xV[W](s:(HP Int (HP U1 Ul))):Option (Nx (HP Int (HP U1 Ul)) U5):=br (cm .lss s.j.j.j.e s.j.j.e) (ge s.j.e s.j.j.j.e λv1=>br (cm .lss (ar .add .i64 v1.1 s.e) (ar .sub .i64 v1.2 s.e)) (gd (ft 16 (pl (ln s.j.j.j.j.e) 1))<|some (.go ⟨s.e,s.j.e,s.j.j.e,(ar .add .i64 s.j.j.j.e 1),(ap s.j.j.j.j.e (((ar .add .i64 v1.1 s.e),(ar .sub .i64 v1.2 s.e))::[])),()⟩)) (some (.go ⟨s.e,s.j.e,s.j.j.e,(ar .add .i64 s.j.j.j.e 1),s.j.j.j.j⟩))) (some (.out s.j.j.j.j))
noncomputable def xK[W](a:(U1×Int)):Option U1:=call J0 (a.1:U1) λ(v0:Bool)=>br (nt v0) (some []) (br (cm .lss a.2 0) (some []) (br (cm .gtr a.2 1048576) (some []) (loop xV ⟨a.2,a.1,(ln a.1),0,[],()⟩ λv2=>some v2.e)))
noncomputable def iy:BS:=⟨83,[(.one,(.ls (.p I I))),(.one,I)],[(false,(.ls (.p I I)))],@xK wv⟩
theorem Jvg(w:W)(a):CY (dW w) (V1 [(68,J0)]) 8 83 iy.as iy.rs a=@xK w a:=by kernel_rfl
theorem Jwt:V3 iy:=V2 (Jc rU Jo) (Jm (by kernel_rfl)) rfl rfl (Jvg wv)
noncomputable def sG[W](a:(U2×Int))(s:U7):Option (Nx U7 (HP Int (HP U2 (HP U2 Unit)))):=br (cm .lss s.j.j.j.e s.j.j.e) (ge s.j.e s.j.j.j.e λv1=>call iy ((v1.2,s.e):(U1×Int)) λ(v2:U1)=>some (.go ⟨s.e,s.j.e,s.j.j.e,(ar .add .i64 s.j.j.j.e 1),s.j.j.j.j.e,(ms (a:=I) (b:=(.ls (.p I I))) s.j.j.j.j.j.e v1.1 v2),()⟩)) (some (.out ⟨s.e,s.j.j.j.j⟩))
noncomputable def sD[W](a:(U2×Int))(s:Un):Option (Nx Un (HP U1 U9)):=br (cm .leq s.j.j.j.e (ar .add .i64 s.e s.j.e)) (call jD ((s.j.j.e,(mg (a:=I) (b:=(.ls (.p I I))) s.j.j.j.j.j.j.j.j.j.j.e s.j.j.j.e [])):(U1×U1)) λ(v5:U1)=>some (.go ⟨s.e,s.j.e,v5,(ar .add .i64 s.j.j.j.e 1),s.j.j.j.j⟩)) (some (.out ⟨s.j.j.e,s.j.j.j.j.e,s.j.j.j.j.j.e,s.j.j.j.j.j.j.e,s.j.j.j.j.j.j.j.e,s.j.j.j.j.j.j.j.j.e,s.j.j.j.j.j.j.j.j.j.e,s.j.j.j.j.j.j.j.j.j.j.j.e,s.j.j.j.j.j.j.j.j.j.j.e,()⟩))
noncomputable def sH[W](a:(U2×Int))(s:U7):Option (Nx U7 (HP U2 Unit)):=br (cm .lss s.j.j.j.e s.j.j.e) (ge s.j.e s.j.j.j.e λv4=>loop (sD a) ⟨v4.1,s.e,(mg (a:=I) (b:=(.ls (.p I I))) s.j.j.j.j.e (ar .sub .i64 v4.1 s.e) []),(ar .add .i64 (ar .sub .i64 v4.1 s.e) 1),s.e,s.j.e,s.j.j.e,s.j.j.j.e,v4.1,v4.2,s.j.j.j.j⟩ λd=>br (cm .gtr (ln d.e) 0) (gd (ft 16 (pl 0 (ln d.e)))<|gd (ft 32 (pl (ln d.j.j.j.j.j.j.j.e) 1))<|some (.go ⟨d.j.e,d.j.j.e,d.j.j.j.e,(ar .add .i64 d.j.j.j.j.e 1),d.j.j.j.j.j.j.j.j.e,(ap d.j.j.j.j.j.j.j.e ((d.j.j.j.j.j.e,d.e)::[])),()⟩)) (some (.go ⟨d.j.e,d.j.j.e,d.j.j.j.e,(ar .add .i64 d.j.j.j.j.e 1),d.j.j.j.j.j.j.j.j.e,d.j.j.j.j.j.j.j.e,()⟩))) (some (.out s.j.j.j.j.j))
noncomputable def lq[W](a:(U2×Int)):Option U2:=call jA ((a.1,a.2):(U2×Int)) λ(v0:Bool)=>br (nt v0) (some []) (loop (sG a) ⟨a.2,a.1,(ln a.1),0,a.1,[],()⟩ λv3=>loop (sH a) ⟨v3.e,v3.j.e,(ln v3.j.e),0,v3.j.j.e,[],()⟩ λd=>some d.e)
noncomputable def lY:BS:=⟨33,[(.ag,(.ls (.p I (.ls (.p I I))))),(.one,I)],[(true,(.ls (.p I (.ls (.p I I)))))],@lq wv⟩
theorem Jv5(w:W)(a):CY (dW w) (KX (F9 [(83,iy),(81,jA)]) [] [] [] [] [(82,jD.bi)] []) 8 33 lY.as lY.rs a=@lq w a:=by kernel_rfl
theorem Jwj:V3 lY:=good (F9 [(83,iy),(81,jA)]) [] [] [] [] [(82,jD.bi)] [] 8 (Jc Jwt (Jc Jww Jo)) Jv (qL (Rz Jpp rfl) Jw) (Jm (by kernel_rfl)) rfl rfl (Jv5 wv)
noncomputable def Jfd[W](s:Us):Option (Nx Us (HP U2 (HP Int Ub))):=br (cm .lss s.j.j.j.e s.j.j.j.j.e) (gd (cm .geq 1 0)<|ge s.e (cv .i64 (sh .shr .u64 (cv .u64 (ar .add .i64 s.j.j.j.e s.j.j.j.j.e)) 1)) λv0=>call bE ((v0.1,s.j.e):(Int×Int)) λ(v1:Int)=>br (cm .lss v1 0) (some (.go ⟨s.e,s.j.e,s.j.j.e,(ar .add .i64 (cv .i64 (sh .shr .u64 (cv .u64 (ar .add .i64 s.j.j.j.e s.j.j.j.j.e)) 1)) 1),s.j.j.j.j⟩)) (some (.go ⟨s.e,s.j.e,s.j.j.e,s.j.j.j.e,(cv .i64 (sh .shr .u64 (cv .u64 (ar .add .i64 s.j.j.j.e s.j.j.j.j.e)) 1)),s.j.j.j.j.j⟩))) (some (.out ⟨s.e,s.j.e,s.j.j.e,s.j.j.j.e,s.j.j.j.j.j⟩))
noncomputable def xD[W](a:(U2×Int)):Option U1:=loop Jfd ⟨a.1,a.2,(ln a.1),0,(ln a.1),a.1,()⟩ λv2=>br (cm .lss v2.j.j.j.e v2.j.j.e) (ge v2.e v2.j.j.j.e λv3=>call bE ((v3.1,v2.j.e):(Int×Int)) λ(v4:Int)=>br (nt (cm .eql v4 0)) (some []) (ge v2.j.j.j.j.e v2.j.j.j.e λv5=>some v5.2)) (some [])
noncomputable def YR:BS:=⟨63,[(.ag,(.ls (.p I (.ls (.p I I))))),(.one,I)],[(false,(.ls (.p I I)))],@xD wv⟩
theorem Jzj(w:W)(a):CY (dW w) (V1 [(125,bE)]) 8 63 YR.as YR.rs a=@xD w a:=by kernel_rfl
theorem Jz3:V3 YR:=V2 (Jc Jwq Jo) (Jm (by kernel_rfl)) rfl rfl (Jzj wv)
noncomputable def Qr[W](a:U1):Option U1:=nq (ln a) λv0=>br v0 (some []) (gd (ft 16 (pl 0 (ln a)))<|some a)
noncomputable def K1:BS:=⟨150,[(.one,(.ls (.p I I)))],[(false,(.ls (.p I I)))],@Qr wv⟩
theorem Jeg(w:W)(a):CY (dW w) (V1 []) 8 150 K1.as K1.rs a=@Qr w a:=by kernel_rfl
theorem Jeh:V3 K1:=V2 Jo (Jm (by kernel_rfl)) rfl rfl (Jeg wv)
noncomputable def Ya[W](s:(HP U1 U8)):Option (Nx (HP U1 U8) (Unit⊕Unit)):=br (cm .lss s.j.j.e (ln s.e)) (ge s.e s.j.j.e λv0=>br (cm .leq v0.1 s.j.e) (ge s.e s.j.j.e λv1=>br (cm .lss s.j.e v1.2) (some (.out (.inl ()))) (some (.go ⟨s.e,s.j.e,(ar .add .i64 s.j.j.e 1),()⟩))) (some (.go ⟨s.e,s.j.e,(ar .add .i64 s.j.j.e 1),()⟩))) (some (.out (.inr ())))
noncomputable def Xu[W](a:(U1×Int)):Option Bool:=loop Ya ⟨a.1,a.2,0,()⟩ λv2=>match v2 with|.inl v3=>(some true)|.inr v4=>(some false)
noncomputable def Jz:BS:=⟨164,[(.one,(.ls (.p I I))),(.one,I)],[(false,.bool)],@Xu wv⟩
theorem Ji1(w:W)(a):CY (dW w) (V1 []) 8 164 Jz.as Jz.rs a=@Xu w a:=by kernel_rfl
theorem Jdp:V3 Jz:=V2 Jo (Jm (by kernel_rfl)) rfl rfl (Ji1 wv)
noncomputable def jm[W](s:Ub):Option (Nx Ub (U5⊕Unit)):=br (cm .lss s.j.e (ln s.j.j.e)) (ge s.j.j.e s.j.e λv0=>br (cm .eql v0.1 s.e) (ge s.j.j.e s.j.e λv1=>some (.out (.inl ⟨v1.2,()⟩))) (some (.go ⟨s.e,(ar .add .i64 s.j.e 1),s.j.j⟩))) (some (.out (.inr ())))
noncomputable def yG[W](a:(U2×Int)):Option U1:=loop jm ⟨a.2,0,a.1,()⟩ λv2=>match v2 with|.inl v3=>(some v3.e)|.inr v4=>(some [])
noncomputable def X1:BS:=⟨165,[(.ag,(.ls (.p I (.ls (.p I I))))),(.one,I)],[(false,(.ls (.p I I)))],@yG wv⟩
theorem Jmu(w:W)(a):CY (dW w) (V1 []) 8 165 X1.as X1.rs a=@yG w a:=by kernel_rfl
theorem Jl8:V3 X1:=V2 Jo (Jm (by kernel_rfl)) rfl rfl (Jmu wv)
noncomputable def Yl[W](a:(U2×(Int×Int))):Option Bool:=call Jd (a.1:U2) λ(v0:Bool)=>br v0 (call X1 ((a.1,a.2.2):(U2×Int)) λ(v1:U1)=>call Jz ((v1,a.2.1):(U1×Int)) λ(v2:Bool)=>some v2) (some false)
noncomputable def Jg:BS:=⟨116,[(.ag,(.ls (.p I (.ls (.p I I))))),(.ag,(.p I I))],[(false,.bool)],@Yl wv⟩
theorem Jg0(w:W)(a):CY (dW w) (V1 [(17,Jd),(165,X1),(164,Jz)]) 8 116 Jg.as Jg.rs a=@Yl w a:=by kernel_rfl
theorem Jg4:V3 Jg:=V2 (Jc K9 (Jc Jl8 (Jc Jdp Jo))) (Jm (by kernel_rfl)) rfl rfl (Jg0 wv)
noncomputable def Ys[W](s:(HP Int Uq)):Option (Nx (HP Int Uq) Uq):=ge s.j.j.j.e s.e λv4=>ge v4.2 s.j.e λv5=>br (cm .lss s.j.j.e v5.2) (ge s.j.j.j.e s.e λa=>gd (ft 16 (pl (ln s.j.j.j.j.e) 1))<|some (.go ⟨s.e,s.j.e,(ar .add .i64 s.j.j.e 1),s.j.j.j.e,(ap s.j.j.j.j.e ((s.j.j.e,a.1)::[])),()⟩)) (some (.out ⟨s.e,s.j.e,s.j.j.j⟩))
noncomputable def Yz[W](s:Uq):Option (Nx Uq Ua):=ge s.j.j.e s.e λv1=>br (cm .lss s.j.e (ln v1.2)) (ge s.j.j.e s.e λv2=>ge v2.2 s.j.e λv3=>loop Ys ⟨s.e,s.j.e,v3.1,s.j.j⟩ λa=>some (.go ⟨a.e,(ar .add .i64 a.j.e 1),a.j.j⟩)) (some (.out ⟨s.e,s.j.j⟩))
noncomputable def Yr[W](s:Ua):Option (Nx Ua U5):=br (cm .lss s.e (ln s.j.e)) (loop Yz ⟨s.e,0,s.j⟩ λa=>some (.go ⟨(ar .add .i64 a.e 1),a.j⟩)) (some (.out s.j.j))
noncomputable def jz[W](a:U2):Option U1:=call Jd (a:U2) λ(v0:Bool)=>br (nt v0) (some []) (loop Yr ⟨0,a,[],()⟩ λv9=>some v9.e)
noncomputable def Q9:BS:=⟨54,[(.ag,(.ls (.p I (.ls (.p I I)))))],[(false,(.ls (.p I I)))],@jz wv⟩
theorem Jkl(w:W)(a):CY (dW w) (V1 [(17,Jd)]) 8 54 Q9.as Q9.rs a=@jz w a:=by kernel_rfl
theorem Jjs:V3 Q9:=V2 (Jc K9 Jo) (Jm (by kernel_rfl)) rfl rfl (Jkl wv)
noncomputable def Qu[W](s:Uo):Option (Nx Uo (HP U3 Unit)):=br (cm .lss s.j.e (ln s.e)) (ge s.e s.j.e λv1=>ge s.e s.j.e λv2=>call Jg ((s.j.j.e,(v1.1,(ar .sub .i64 v2.2 1))):(U2×(Int×Int))) λ(v3:Bool)=>br (nt v3) (gd (ft 32 (pl (ln s.j.j.j.e) 1))<|call Jg ((s.j.j.e,((ar .add .i64 v1.1 1),v2.2)):(U2×(Int×Int))) λ(v4:Bool)=>br (nt v4) (gd (ft 32 (pl (ln (ap s.j.j.j.e (((v1.1,v2.2),((ar .add .i64 v1.1 1),v2.2))::[]))) 1))<|call Jg ((s.j.j.e,(v1.1,(ar .add .i64 v2.2 1))):(U2×(Int×Int))) λ(v5:Bool)=>br (nt v5) (gd (ft 32 (pl (ln (ap (ap s.j.j.j.e (((v1.1,v2.2),((ar .add .i64 v1.1 1),v2.2))::[])) ((((ar .add .i64 v1.1 1),v2.2),((ar .add .i64 v1.1 1),(ar .add .i64 v2.2 1)))::[]))) 1))<|call Jg ((s.j.j.e,((ar .sub .i64 v1.1 1),v2.2)):(U2×(Int×Int))) λ(f:Bool)=>br (nt f) (gd (ft 32 (pl (ln (ap (ap (ap s.j.j.j.e (((v1.1,v2.2),((ar .add .i64 v1.1 1),v2.2))::[])) ((((ar .add .i64 v1.1 1),v2.2),((ar .add .i64 v1.1 1),(ar .add .i64 v2.2 1)))::[])) ((((ar .add .i64 v1.1 1),(ar .add .i64 v2.2 1)),(v1.1,(ar .add .i64 v2.2 1)))::[]))) 1))<|some (.go ⟨s.e,(ar .add .i64 s.j.e 1),s.j.j.e,(ap (ap (ap (ap s.j.j.j.e (((v1.1,v2.2),((ar .add .i64 v1.1 1),v2.2))::[])) ((((ar .add .i64 v1.1 1),v2.2),((ar .add .i64 v1.1 1),(ar .add .i64 v2.2 1)))::[])) ((((ar .add .i64 v1.1 1),(ar .add .i64 v2.2 1)),(v1.1,(ar .add .i64 v2.2 1)))::[])) (((v1.1,(ar .add .i64 v2.2 1)),(v1.1,v2.2))::[])),()⟩)) (some (.go ⟨s.e,(ar .add .i64 s.j.e 1),s.j.j.e,(ap (ap (ap s.j.j.j.e (((v1.1,v2.2),((ar .add .i64 v1.1 1),v2.2))::[])) ((((ar .add .i64 v1.1 1),v2.2),((ar .add .i64 v1.1 1),(ar .add .i64 v2.2 1)))::[])) ((((ar .add .i64 v1.1 1),(ar .add .i64 v2.2 1)),(v1.1,(ar .add .i64 v2.2 1)))::[])),()⟩))) (call Jg ((s.j.j.e,((ar .sub .i64 v1.1 1),v2.2)):(U2×(Int×Int))) λ(d:Bool)=>br (nt d) (gd (ft 32 (pl (ln (ap (ap s.j.j.j.e (((v1.1,v2.2),((ar .add .i64 v1.1 1),v2.2))::[])) ((((ar .add .i64 v1.1 1),v2.2),((ar .add .i64 v1.1 1),(ar .add .i64 v2.2 1)))::[]))) 1))<|some (.go ⟨s.e,(ar .add .i64 s.j.e 1),s.j.j.e,(ap (ap (ap s.j.j.j.e (((v1.1,v2.2),((ar .add .i64 v1.1 1),v2.2))::[])) ((((ar .add .i64 v1.1 1),v2.2),((ar .add .i64 v1.1 1),(ar .add .i64 v2.2 1)))::[])) (((v1.1,(ar .add .i64 v2.2 1)),(v1.1,v2.2))::[])),()⟩)) (some (.go ⟨s.e,(ar .add .i64 s.j.e 1),s.j.j.e,(ap (ap s.j.j.j.e (((v1.1,v2.2),((ar .add .i64 v1.1 1),v2.2))::[])) ((((ar .add .i64 v1.1 1),v2.2),((ar .add .i64 v1.1 1),(ar .add .i64 v2.2 1)))::[])),()⟩)))) (call Jg ((s.j.j.e,(v1.1,(ar .add .i64 v2.2 1))):(U2×(Int×Int))) λ(a:Bool)=>br (nt a) (gd (ft 32 (pl (ln (ap s.j.j.j.e (((v1.1,v2.2),((ar .add .i64 v1.1 1),v2.2))::[]))) 1))<|call Jg ((s.j.j.e,((ar .sub .i64 v1.1 1),v2.2)):(U2×(Int×Int))) λ(v9:Bool)=>br (nt v9) (gd (ft 32 (pl (ln (ap (ap s.j.j.j.e (((v1.1,v2.2),((ar .add .i64 v1.1 1),v2.2))::[])) ((((ar .add .i64 v1.1 1),(ar .add .i64 v2.2 1)),(v1.1,(ar .add .i64 v2.2 1)))::[]))) 1))<|some (.go ⟨s.e,(ar .add .i64 s.j.e 1),s.j.j.e,(ap (ap (ap s.j.j.j.e (((v1.1,v2.2),((ar .add .i64 v1.1 1),v2.2))::[])) ((((ar .add .i64 v1.1 1),(ar .add .i64 v2.2 1)),(v1.1,(ar .add .i64 v2.2 1)))::[])) (((v1.1,(ar .add .i64 v2.2 1)),(v1.1,v2.2))::[])),()⟩)) (some (.go ⟨s.e,(ar .add .i64 s.j.e 1),s.j.j.e,(ap (ap s.j.j.j.e (((v1.1,v2.2),((ar .add .i64 v1.1 1),v2.2))::[])) ((((ar .add .i64 v1.1 1),(ar .add .i64 v2.2 1)),(v1.1,(ar .add .i64 v2.2 1)))::[])),()⟩))) (call Jg ((s.j.j.e,((ar .sub .i64 v1.1 1),v2.2)):(U2×(Int×Int))) λ(v10:Bool)=>br (nt v10) (gd (ft 32 (pl (ln (ap s.j.j.j.e (((v1.1,v2.2),((ar .add .i64 v1.1 1),v2.2))::[]))) 1))<|some (.go ⟨s.e,(ar .add .i64 s.j.e 1),s.j.j.e,(ap (ap s.j.j.j.e (((v1.1,v2.2),((ar .add .i64 v1.1 1),v2.2))::[])) (((v1.1,(ar .add .i64 v2.2 1)),(v1.1,v2.2))::[])),()⟩)) (some (.go ⟨s.e,(ar .add .i64 s.j.e 1),s.j.j.e,(ap s.j.j.j.e (((v1.1,v2.2),((ar .add .i64 v1.1 1),v2.2))::[])),()⟩))))) (call Jg ((s.j.j.e,((ar .add .i64 v1.1 1),v2.2)):(U2×(Int×Int))) λ(v11:Bool)=>br (nt v11) (gd (ft 32 (pl (ln s.j.j.j.e) 1))<|call Jg ((s.j.j.e,(v1.1,(ar .add .i64 v2.2 1))):(U2×(Int×Int))) λ(v12:Bool)=>br (nt v12) (gd (ft 32 (pl (ln (ap s.j.j.j.e ((((ar .add .i64 v1.1 1),v2.2),((ar .add .i64 v1.1 1),(ar .add .i64 v2.2 1)))::[]))) 1))<|call Jg ((s.j.j.e,((ar .sub .i64 v1.1 1),v2.2)):(U2×(Int×Int))) λ(v13:Bool)=>br (nt v13) (gd (ft 32 (pl (ln (ap (ap s.j.j.j.e ((((ar .add .i64 v1.1 1),v2.2),((ar .add .i64 v1.1 1),(ar .add .i64 v2.2 1)))::[])) ((((ar .add .i64 v1.1 1),(ar .add .i64 v2.2 1)),(v1.1,(ar .add .i64 v2.2 1)))::[]))) 1))<|some (.go ⟨s.e,(ar .add .i64 s.j.e 1),s.j.j.e,(ap (ap (ap s.j.j.j.e ((((ar .add .i64 v1.1 1),v2.2),((ar .add .i64 v1.1 1),(ar .add .i64 v2.2 1)))::[])) ((((ar .add .i64 v1.1 1),(ar .add .i64 v2.2 1)),(v1.1,(ar .add .i64 v2.2 1)))::[])) (((v1.1,(ar .add .i64 v2.2 1)),(v1.1,v2.2))::[])),()⟩)) (some (.go ⟨s.e,(ar .add .i64 s.j.e 1),s.j.j.e,(ap (ap s.j.j.j.e ((((ar .add .i64 v1.1 1),v2.2),((ar .add .i64 v1.1 1),(ar .add .i64 v2.2 1)))::[])) ((((ar .add .i64 v1.1 1),(ar .add .i64 v2.2 1)),(v1.1,(ar .add .i64 v2.2 1)))::[])),()⟩))) (call Jg ((s.j.j.e,((ar .sub .i64 v1.1 1),v2.2)):(U2×(Int×Int))) λ(v14:Bool)=>br (nt v14) (gd (ft 32 (pl (ln (ap s.j.j.j.e ((((ar .add .i64 v1.1 1),v2.2),((ar .add .i64 v1.1 1),(ar .add .i64 v2.2 1)))::[]))) 1))<|some (.go ⟨s.e,(ar .add .i64 s.j.e 1),s.j.j.e,(ap (ap s.j.j.j.e ((((ar .add .i64 v1.1 1),v2.2),((ar .add .i64 v1.1 1),(ar .add .i64 v2.2 1)))::[])) (((v1.1,(ar .add .i64 v2.2 1)),(v1.1,v2.2))::[])),()⟩)) (some (.go ⟨s.e,(ar .add .i64 s.j.e 1),s.j.j.e,(ap s.j.j.j.e ((((ar .add .i64 v1.1 1),v2.2),((ar .add .i64 v1.1 1),(ar .add .i64 v2.2 1)))::[])),()⟩)))) (call Jg ((s.j.j.e,(v1.1,(ar .add .i64 v2.2 1))):(U2×(Int×Int))) λ(v15:Bool)=>br (nt v15) (gd (ft 32 (pl (ln s.j.j.j.e) 1))<|call Jg ((s.j.j.e,((ar .sub .i64 v1.1 1),v2.2)):(U2×(Int×Int))) λ(v16:Bool)=>br (nt v16) (gd (ft 32 (pl (ln (ap s.j.j.j.e ((((ar .add .i64 v1.1 1),(ar .add .i64 v2.2 1)),(v1.1,(ar .add .i64 v2.2 1)))::[]))) 1))<|some (.go ⟨s.e,(ar .add .i64 s.j.e 1),s.j.j.e,(ap (ap s.j.j.j.e ((((ar .add .i64 v1.1 1),(ar .add .i64 v2.2 1)),(v1.1,(ar .add .i64 v2.2 1)))::[])) (((v1.1,(ar .add .i64 v2.2 1)),(v1.1,v2.2))::[])),()⟩)) (some (.go ⟨s.e,(ar .add .i64 s.j.e 1),s.j.j.e,(ap s.j.j.j.e ((((ar .add .i64 v1.1 1),(ar .add .i64 v2.2 1)),(v1.1,(ar .add .i64 v2.2 1)))::[])),()⟩))) (call Jg ((s.j.j.e,((ar .sub .i64 v1.1 1),v2.2)):(U2×(Int×Int))) λ(v17:Bool)=>br (nt v17) (gd (ft 32 (pl (ln s.j.j.j.e) 1))<|some (.go ⟨s.e,(ar .add .i64 s.j.e 1),s.j.j.e,(ap s.j.j.j.e (((v1.1,(ar .add .i64 v2.2 1)),(v1.1,v2.2))::[])),()⟩)) (some (.go ⟨s.e,(ar .add .i64 s.j.e 1),s.j.j⟩)))))) (some (.out s.j.j.j))
noncomputable def jk[W](a:U2):Option U3:=call Q9 (a:U2) λ(v0:U1)=>loop Qu ⟨v0,0,a,[],()⟩ λv18=>some v18.e
noncomputable def Qs:BS:=⟨178,[(.ag,(.ls (.p I (.ls (.p I I)))))],[(false,(.ls (.p (.p I I) (.p I I))))],@jk wv⟩
theorem Ji4(w:W)(a):CY (dW w) (V1 [(116,Jg),(54,Q9)]) 8 178 Qs.as Qs.rs a=@jk w a:=by kernel_rfl
theorem Jix:V3 Qs:=V2 (Jc Jg4 (Jc Jjs Jo)) (Jm (by kernel_rfl)) rfl rfl (Ji4 wv)
noncomputable def Xj[W](a:(((Int×Int)×(Int×Int))×((Int×Int)×(Int×Int)))):Option Bool:=some (cm .gtr (ar .sub .i64 (ar .mul .i64 (ar .sub .i64 a.1.2.1 a.1.1.1) (ar .sub .i64 a.2.2.2 a.2.1.2)) (ar .mul .i64 (ar .sub .i64 a.1.2.2 a.1.1.2) (ar .sub .i64 a.2.2.1 a.2.1.1))) 0)
noncomputable def Xn:BS:=⟨223,[(.ag,(.p (.p I I) (.p I I))),(.ag,(.p (.p I I) (.p I I)))],[(false,.bool)],@Xj wv⟩
theorem Jlf(w:W)(a):CY (dW w) (V1 []) 8 223 Xn.as Xn.rs a=@Xj w a:=by kernel_rfl
theorem Jln:V3 Xn:=V2 Jo (Jm (by kernel_rfl)) rfl rfl (Jlf wv)
noncomputable def K0[W](s:(HP U3 (HP Int U8))):Option (Nx (HP U3 (HP Int U8)) (HP Int Unit)):=br (cm .lss s.j.j.j.e (ln s.e)) (ge s.e s.j.j.j.e λv0=>ge s.e s.j.e λv1=>br (an (cm .eql v0.1.1 v1.2.1) (cm .eql v0.1.2 v1.2.2)) (br (cm .lss s.j.j.e 0) (some (.go ⟨s.e,s.j.e,s.j.j.j.e,(ar .add .i64 s.j.j.j.e 1),()⟩)) (ge s.e s.j.e λv2=>ge s.e s.j.j.j.e λv3=>call Xn ((((v2.1.1,v2.1.2),(v2.2.1,v2.2.2)),((v3.1.1,v3.1.2),(v3.2.1,v3.2.2))):(((Int×Int)×(Int×Int))×((Int×Int)×(Int×Int)))) λ(v4:Bool)=>br v4 (some (.go ⟨s.e,s.j.e,s.j.j.j.e,(ar .add .i64 s.j.j.j.e 1),()⟩)) (some (.go ⟨s.e,s.j.e,s.j.j.e,(ar .add .i64 s.j.j.j.e 1),()⟩)))) (some (.go ⟨s.e,s.j.e,s.j.j.e,(ar .add .i64 s.j.j.j.e 1),()⟩))) (some (.out ⟨s.j.j.e,()⟩))
noncomputable def Jbs[W](a:(U3×Int)):Option Int:=loop K0 ⟨a.1,a.2,(-1),0,()⟩ λv5=>some v5.e
noncomputable def Q4:BS:=⟨179,[(.one,(.ls (.p (.p I I) (.p I I)))),(.one,I)],[(false,I)],@Jbs wv⟩
theorem Jjk(w:W)(a):CY (dW w) (V1 [(223,Xn)]) 8 179 Q4.as Q4.rs a=@Jbs w a:=by kernel_rfl
theorem Jjp:V3 Q4:=V2 (Jc Jln Jo) (Jm (by kernel_rfl)) rfl rfl (Jjk wv)
noncomputable def jr[W](a:((Int×Int)×(Int×Int))):Option Bool:=br (cm .neq a.1.2 a.2.2) (some (cm .lss a.1.2 a.2.2)) (some (cm .lss a.1.1 a.2.1))
noncomputable def Kq:BS:=⟨224,[(.ag,(.p I I)),(.ag,(.p I I))],[(false,.bool)],@jr wv⟩
theorem Jj1(w:W)(a):CY (dW w) (V1 []) 8 224 Kq.as Kq.rs a=@jr w a:=by kernel_rfl
theorem Jeq:V3 Kq:=V2 Jo (Jm (by kernel_rfl)) rfl rfl (Jj1 wv)
noncomputable def Qt[W](s:(HP Ud Uc)):Option (Nx (HP Ud Uc) (HP Ud Uc)):=br (cm .lss s.j.e (ln s.e)) (ge s.e s.j.e λv0=>ge v0 0 λv1=>ge s.j.j.e 0 λv2=>call Kq (((v1.1,v1.2),(v2.1,v2.2)):((Int×Int)×(Int×Int))) λ(v3:Bool)=>br v3 (some (.go ⟨s.e,(ar .add .i64 s.j.e 1),s.j.j⟩)) (some (.out s))) (some (.out s))
noncomputable def Jax[W](a:(Ud×U1)):Option Ud:=loop Qt ⟨a.1,0,a.2,()⟩ λv4=>gd (le 0 v4.j.e)<|gd (le v4.j.e (ln v4.e))<|gd (ft 24 (pl 0 (ln (ct v4.e 0 v4.j.e))))<|gd (ft 24 (pl (ln (ct v4.e 0 v4.j.e)) 1))<|gd (le 0 v4.j.e)<|gd (le v4.j.e (ln v4.e))<|gd (ft 24 (pl (ln (ap (ct v4.e 0 v4.j.e) (v4.j.j.e::[]))) (ln (ct v4.e v4.j.e (mi (ln v4.e) v4.j.e)))))<|some (ap (ap (ct v4.e 0 v4.j.e) (v4.j.j.e::[])) (ct v4.e v4.j.e (mi (ln v4.e) v4.j.e)))
noncomputable def Xw:BS:=⟨180,[(.one,(.ls (.ls (.p I I)))),(.ag,(.ls (.p I I)))],[(false,(.ls (.ls (.p I I))))],@Jax wv⟩
theorem Jiw(w:W)(a):CY (dW w) (V1 [(224,Kq)]) 8 180 Xw.as Xw.rs a=@Jax w a:=by kernel_rfl
theorem Jiq:V3 Xw:=V2 (Jc Jeq Jo) (Jm (by kernel_rfl)) rfl rfl (Jiw wv)
noncomputable def Ql[W](s:(HP U3 Ul)):Option (Nx (HP U3 Ul) U5):=br (cm .lss s.j.j.e s.j.e) (gd (cm .neq s.j.e 0)<|ge s.e (ar .rem .i64 (ar .sub .i64 (ar .add .i64 s.j.j.e s.j.e) 1) s.j.e) λv0=>ge s.e s.j.j.e λv1=>ge s.e s.j.j.e λv2=>br (cm .neq (ar .sub .i64 v0.2.1 v0.1.1) (ar .sub .i64 v1.2.1 v2.1.1)) (ge s.e s.j.j.e λv3=>gd (ft 16 (pl (ln s.j.j.j.e) 1))<|some (.go ⟨s.e,s.j.e,(ar .add .i64 s.j.j.e 1),(ap s.j.j.j.e ((v3.1.1,v3.1.2)::[])),()⟩)) (ge s.e s.j.j.e λv4=>ge s.e s.j.j.e λv5=>br (cm .neq (ar .sub .i64 v0.2.2 v0.1.2) (ar .sub .i64 v4.2.2 v5.1.2)) (ge s.e s.j.j.e λa=>gd (ft 16 (pl (ln s.j.j.j.e) 1))<|some (.go ⟨s.e,s.j.e,(ar .add .i64 s.j.j.e 1),(ap s.j.j.j.e ((a.1.1,a.1.2)::[])),()⟩)) (some (.go ⟨s.e,s.j.e,(ar .add .i64 s.j.j.e 1),s.j.j.j⟩)))) (some (.out s.j.j.j))
noncomputable def K3[W](s:Ul):Option (Nx Ul Uc):=br (cm .lss s.j.e (ln s.j.j.e)) (gd (ib s.j.e (ln s.j.j.e))<|ge s.j.j.e s.j.e λa=>gd (ib s.e (ln s.j.j.e))<|ge s.j.j.e s.e λv9=>call Kq (((a.1,a.2),(v9.1,v9.2)):((Int×Int)×(Int×Int))) λ(v10:Bool)=>br v10 (some (.go ⟨s.j.e,(ar .add .i64 s.j.e 1),s.j.j⟩)) (some (.go ⟨s.e,(ar .add .i64 s.j.e 1),s.j.j⟩))) (some (.out ⟨s.e,s.j.j⟩))
noncomputable def Zj[W](a:U3):Option U1:=loop Ql ⟨a,(ln a),0,[],()⟩ λd=>loop K3 ⟨0,0,d⟩ λv11=>gd (le 0 v11.e)<|gd (le v11.e (ln v11.j.e))<|gd (le 0 v11.e)<|gd (le 0 (mi (ln v11.j.e) v11.e))<|gd (le (pl v11.e (mi (ln v11.j.e) v11.e)) (ln v11.j.e))<|gd (ft 16 (pl 0 (ln (ct v11.j.e v11.e (mi (ln v11.j.e) v11.e)))))<|gd (le 0 v11.e)<|gd (le v11.e (ln v11.j.e))<|gd (le 0 0)<|gd (le 0 v11.e)<|gd (le (pl 0 v11.e) (ln v11.j.e))<|gd (ft 16 (pl (ln (ct v11.j.e v11.e (mi (ln v11.j.e) v11.e))) (ln (ct v11.j.e 0 v11.e))))<|some (ap (ct v11.j.e v11.e (mi (ln v11.j.e) v11.e)) (ct v11.j.e 0 v11.e))
noncomputable def Xd:BS:=⟨181,[(.one,(.ls (.p (.p I I) (.p I I))))],[(true,(.ls (.p I I)))],@Zj wv⟩
theorem Jhn(w:W)(a):CY (dW w) (V1 [(224,Kq)]) 8 181 Xd.as Xd.rs a=@Zj w a:=by kernel_rfl
theorem Jhd:V3 Xd:=V2 (Jc Jeq Jo) (Jm (by kernel_rfl)) rfl rfl (Jhn wv)
noncomputable def Kf[W](s:Ut):Option (Nx Ut (HP U3 (HP Ud Ug))):=gd (ib s.j.j.j.e (ln s.j.j.j.j.e))<|ge s.j.j.j.j.e s.j.j.j.e λv2=>br (nt v2) (gd (ib s.j.j.j.e (ln s.j.j.j.j.e))<|ge s.j.j.j.j.e s.j.j.j.e λv3=>ge s.e s.j.j.j.e λv4=>gd (ft 32 (pl (ln s.j.j.j.j.j.e) 1))<|call Q4 ((s.e,s.j.j.j.e):(U3×Int)) λ(v5:Int)=>some (.go ⟨s.e,s.j.e,s.j.j.e,v5,(st s.j.j.j.j.e s.j.j.j.e true),(ap s.j.j.j.j.j.e (((v4.1.1,v4.1.2),(v4.2.1,v4.2.2))::[])),()⟩)) (some (.out ⟨s.e,s.j.e,s.j.j.e,s.j.j.j.j⟩))
noncomputable def K6[W](s:Uk):Option (Nx Uk (HP Ud Unit)):=br (cm .lss s.j.j.e (ln s.e)) (loop Kf ⟨s.e,s.j.e,s.j.j.e,s.j.j.e,s.j.j.j.e,[],()⟩ λa=>br (cm .gtr (ln a.j.j.j.j.e) 0) (call Xd (a.j.j.j.j.e:U3) λ(f:U1)=>call Xw ((a.j.e,f):(Ud×U1)) λ(d:Ud)=>some (.go ⟨a.e,d,(ar .add .i64 a.j.j.e 1),a.j.j.j.e,()⟩)) (some (.go ⟨a.e,a.j.e,(ar .add .i64 a.j.j.e 1),a.j.j.j.e,()⟩))) (some (.out ⟨s.j.e,()⟩))
noncomputable def j7[W](a:U2):Option Ud:=call Jd (a:U2) λ(v0:Bool)=>br (nt v0) (some []) (call Qs (a:U2) λ(v1:U3)=>gd (le 0 (ln v1))<|gd (ft 1 (ln v1))<|loop K6 ⟨v1,[],0,(rp false (ln v1)),()⟩ λv9=>some v9.e)
noncomputable def Q6:BS:=⟨138,[(.ag,(.ls (.p I (.ls (.p I I)))))],[(false,(.ls (.ls (.p I I))))],@j7 wv⟩
theorem Jkb(w:W)(a):CY (dW w) (V1 [(179,Q4),(181,Xd),(180,Xw),(17,Jd),(178,Qs)]) 8 138 Q6.as Q6.rs a=@j7 w a:=by kernel_rfl
theorem Jjw:V3 Q6:=V2 (Jc Jjp (Jc Jhd (Jc Jiq (Jc K9 (Jc Jix Jo))))) (Jm (by kernel_rfl)) rfl rfl (Jkb wv)
noncomputable def Zl[W](s:Uu):Option (Nx Uu U5):=br (cm .lss s.j.e (ln s.e)) (br (cm .eql (ln s.j.j.e) 0) (ge s.e s.j.e λv0=>gd (ft 16 (pl (ln s.j.j.e) 1))<|some (.go ⟨s.e,(ar .add .i64 s.j.e 1),(ap s.j.j.e ((v0.1,v0.2)::[])),()⟩)) (gd (ib (ar .sub .i64 (ln s.j.j.e) 1) (ln s.j.j.e))<|ge s.j.j.e (ar .sub .i64 (ln s.j.j.e) 1) λv1=>ge s.e s.j.e λv2=>br (nt (an (cm .eql v1.1 v2.1) (cm .eql v1.2 v2.2))) (ge s.e s.j.e λv3=>gd (ft 16 (pl (ln s.j.j.e) 1))<|some (.go ⟨s.e,(ar .add .i64 s.j.e 1),(ap s.j.j.e ((v3.1,v3.2)::[])),()⟩)) (some (.go ⟨s.e,(ar .add .i64 s.j.e 1),s.j.j⟩)))) (some (.out s.j.j))
noncomputable def zu[W](a:U1):Option U1:=loop Zl ⟨a,0,[],()⟩ λv4=>br (cm .gtr (ln v4.e) 1) (gd (ib 0 (ln v4.e))<|ge v4.e 0 λv5=>gd (ib (ar .sub .i64 (ln v4.e) 1) (ln v4.e))<|ge v4.e (ar .sub .i64 (ln v4.e) 1) λd=>br (an (cm .eql v5.1 d.1) (cm .eql v5.2 d.2)) (gd (le 0 (ar .sub .i64 (ln v4.e) 1))<|gd (le (ar .sub .i64 (ln v4.e) 1) (ln v4.e))<|gd (le 0 0)<|gd (le 0 (ar .sub .i64 (ln v4.e) 1))<|gd (le (pl 0 (ar .sub .i64 (ln v4.e) 1)) (ln v4.e))<|some (ct v4.e 0 (ar .sub .i64 (ln v4.e) 1))) (some v4.e)) (some v4.e)
noncomputable def Y1:BS:=⟨139,[(.one,(.ls (.p I I)))],[(false,(.ls (.p I I)))],@zu wv⟩
theorem Jlw(w:W)(a):CY (dW w) (V1 []) 8 139 Y1.as Y1.rs a=@zu w a:=by kernel_rfl
theorem Jlh:V3 Y1:=V2 Jo (Jm (by kernel_rfl)) rfl rfl (Jlw wv)
noncomputable def yF[W](a:((Int×Int)×(Int×Int))):Option (Int×Int):=br (cm .gtr a.2.1 a.1.1) (some (1,0)) (br (cm .lss a.2.1 a.1.1) (some ((-1),0)) (br (cm .gtr a.2.2 a.1.2) (some (0,1)) (some (0,(-1)))))
noncomputable def Qy:BS:=⟨182,[(.ag,(.p I I)),(.ag,(.p I I))],[(true,(.p I I))],@yF wv⟩
theorem Jmm(w:W)(a):CY (dW w) (V1 []) 8 182 Qy.as Qy.rs a=@yF w a:=by kernel_rfl
theorem Jmr:V3 Qy:=V2 Jo (Jm (by kernel_rfl)) rfl rfl (Jmm wv)
noncomputable def zq[W](a:((Int×Int)×(Int×Int))):Option (Int×Int):=br (cm .gtr a.2.1 0) (some (a.1.1,a.1.2)) (br (cm .gtr a.2.2 0) (some ((ar .sub .i64 a.1.1 1),a.1.2)) (br (cm .lss a.2.1 0) (some ((ar .sub .i64 a.1.1 1),(ar .sub .i64 a.1.2 1))) (some (a.1.1,(ar .sub .i64 a.1.2 1)))))
noncomputable def Y4:BS:=⟨183,[(.ag,(.p I I)),(.ag,(.p I I))],[(true,(.p I I))],@zq wv⟩
theorem Jly(w:W)(a):CY (dW w) (V1 []) 8 183 Y4.as Y4.rs a=@zq w a:=by kernel_rfl
theorem Jlo:V3 Y4:=V2 Jo (Jm (by kernel_rfl)) rfl rfl (Jly wv)
noncomputable def Xc[W](s:Ue):Option (Nx Ue (HP U1 (HP Int (HP U1 (HP Int (HP Int (HP Int (HP Int U8)))))))):=br (nt (an (cm .eql s.j.j.j.e s.j.j.j.j.j.e) (cm .eql s.j.j.j.j.e s.j.j.j.j.j.j.e))) (call Y4 (((s.j.j.j.e,s.j.j.j.j.e),(s.j.j.j.j.j.j.j.e,s.j.j.j.j.j.j.j.j.e)):((Int×Int)×(Int×Int))) λ(v5:(Int×Int))=>gd (ft 16 (pl (ln s.j.j.e) 1))<|some (.go ⟨s.e,s.j.e,(ap s.j.j.e ((v5.1,v5.2)::[])),(ar .add .i64 s.j.j.j.e s.j.j.j.j.j.j.j.e),(ar .add .i64 s.j.j.j.j.e s.j.j.j.j.j.j.j.j.e),s.j.j.j.j.j.e,s.j.j.j.j.j.j.e,s.j.j.j.j.j.j.j.e,s.j.j.j.j.j.j.j.j.e,s.j.j.j.j.j.j.j.j.j.e,s.j.j.j.j.j.j.j.j.j.j.e,v5.1,v5.2,()⟩)) (some (.out ⟨s.e,s.j.e,s.j.j.e,s.j.j.j.j.j.j.j⟩))
noncomputable def Zk[W](s:Uu):Option (Nx Uu U5):=br (cm .lss s.j.e (ln s.e)) (ge s.e s.j.e λv0=>gd (cm .neq (ln s.e) 0)<|ge s.e (ar .rem .i64 (ar .add .i64 s.j.e 1) (ln s.e)) λv1=>gd (cm .neq (ln s.e) 0)<|ge s.e (ar .rem .i64 (ar .add .i64 s.j.e 2) (ln s.e)) λv2=>call Qy (((v0.1,v0.2),(v1.1,v1.2)):((Int×Int)×(Int×Int))) λ(v3:(Int×Int))=>call Qy (((v1.1,v1.2),(v2.1,v2.2)):((Int×Int)×(Int×Int))) λ(v4:(Int×Int))=>loop Xc ⟨s.e,s.j.e,s.j.j.e,v0.1,v0.2,v1.1,v1.2,v3.1,v3.2,v4.1,v4.2,0,0,()⟩ λa=>br (cm .lss (ar .sub .i64 (ar .mul .i64 a.j.j.j.e a.j.j.j.j.j.j.e) (ar .mul .i64 a.j.j.j.j.e a.j.j.j.j.j.e)) 0) (gd (ft 16 (pl (ln a.j.j.e) 1))<|some (.go ⟨a.e,(ar .add .i64 a.j.e 1),(ap a.j.j.e (((ar .add .i64 a.j.j.j.j.j.j.j.e a.j.j.j.e),(ar .add .i64 a.j.j.j.j.j.j.j.j.e a.j.j.j.j.e))::[])),()⟩)) (some (.go ⟨a.e,(ar .add .i64 a.j.e 1),a.j.j.e,()⟩))) (some (.out s.j.j))
noncomputable def Jb5[W](a:U1):Option U1:=loop Zk ⟨a,0,[],()⟩ λd=>some d.e
noncomputable def Y2:BS:=⟨140,[(.one,(.ls (.p I I)))],[(false,(.ls (.p I I)))],@Jb5 wv⟩
theorem Jk7(w:W)(a):CY (dW w) (V1 [(183,Y4),(182,Qy)]) 8 140 Y2.as Y2.rs a=@Jb5 w a:=by kernel_rfl
theorem Jlu:V3 Y2:=V2 (Jc Jlo (Jc Jmr Jo)) (Jm (by kernel_rfl)) rfl rfl (Jk7 wv)
noncomputable def Xi[W](s:Ur):Option (Nx Ur (HP U6 Unit)):=br (cm .lss s.j.e (ln s.e)) (ge s.e s.j.e λv1=>call Y2 (v1:U1) λ(v2:U1)=>call Y1 (v2:U1) λ(v3:U1)=>br (cm .leq (ln v3) 65536) (gd (ft 40 (pl (ln s.j.j.e) 1))<|some (.go ⟨s.e,(ar .add .i64 s.j.e 1),(ap s.j.j.e ((1,(true,v3))::[])),()⟩)) (some (.go ⟨s.e,(ar .add .i64 s.j.e 1),s.j.j⟩))) (some (.out s.j.j))
noncomputable def z6[W](a:U2):Option U6:=call Q6 (a:U2) λ(v0:Ud)=>loop Xi ⟨v0,0,[],()⟩ λv4=>some v4.e
noncomputable def Y5:BS:=⟨75,[(.ag,(.ls (.p I (.ls (.p I I)))))],[(false,(.ls (.p I (.p .bool (.ls (.p I I))))))],@z6 wv⟩
theorem Jld(w:W)(a):CY (dW w) (V1 [(140,Y2),(139,Y1),(138,Q6)]) 8 75 Y5.as Y5.rs a=@z6 w a:=by kernel_rfl
theorem Jlc:V3 Y5:=V2 (Jc Jlu (Jc Jlh (Jc Jjw Jo))) (Jm (by kernel_rfl)) rfl rfl (Jld wv)
noncomputable def Zf[W](s:Uj):Option (Nx Uj (Unit⊕Unit)):=br (cm .lss s.j.e s.e) (ge s.j.j.j.j.e s.j.e λv0=>ge s.j.j.j.j.j.j.j.e s.j.e λv1=>br (nt (an (cm .eql v0.1 v1.1) (cm .eql v0.2 v1.2))) (some (.out (.inl ()))) (some (.go ⟨s.e,(ar .add .i64 s.j.e 1),s.j.j⟩))) (some (.out (.inr ())))
noncomputable def zt[W](a:((Int×(Bool×U1))×(Int×(Bool×U1)))):Option Bool:=br (cm .neq a.1.1 a.2.1) (some false) (br (nt (be a.1.2.1 a.2.2.1)) (some false) (br (cm .neq (ln a.1.2.2) (ln a.2.2.2)) (some false) (loop Zf ⟨(ln a.1.2.2),0,a.1.1,a.1.2.1,a.1.2.2,a.2.1,a.2.2.1,a.2.2.2,()⟩ λv2=>match v2 with|.inl v3=>(some false)|.inr v4=>(some true))))
noncomputable def Xm:BS:=⟨43,[(.ag,(.p I (.p .bool (.ls (.p I I))))),(.ag,(.p I (.p .bool (.ls (.p I I)))))],[(false,.bool)],@zt wv⟩
theorem Jlq(w:W)(a):CY (dW w) (V1 []) 8 43 Xm.as Xm.rs a=@zt w a:=by kernel_rfl
theorem Jlt:V3 Xm:=V2 Jo (Jm (by kernel_rfl)) rfl rfl (Jlq wv)
noncomputable def Xq[W](s:(HP U6 (HP U6 U8))):Option (Nx (HP U6 (HP U6 U8)) (Unit⊕Unit)):=br (cm .lss s.j.j.j.e s.j.j.e) (ge s.e s.j.j.j.e λv0=>ge s.j.e s.j.j.j.e λv1=>call Xm (((v0.1,(v0.2.1,v0.2.2)),(v1.1,(v1.2.1,v1.2.2))):((Int×(Bool×U1))×(Int×(Bool×U1)))) λ(v2:Bool)=>br (nt v2) (some (.out (.inl ()))) (some (.go ⟨s.e,s.j.e,s.j.j.e,(ar .add .i64 s.j.j.j.e 1),()⟩))) (some (.out (.inr ())))
noncomputable def Zd[W](a:(U6×U6)):Option Bool:=br (cm .neq (ln a.1) (ln a.2)) (some false) (loop Xq ⟨a.1,a.2,(ln a.1),0,()⟩ λv3=>match v3 with|.inl v4=>(some false)|.inr v5=>(some true))
noncomputable def Qh:BS:=⟨13,[(.one,(.ls (.p I (.p .bool (.ls (.p I I)))))),(.one,(.ls (.p I (.p .bool (.ls (.p I I))))))],[(false,.bool)],@Zd wv⟩
theorem Jh2(w:W)(a):CY (dW w) (V1 [(43,Xm)]) 8 13 Qh.as Qh.rs a=@Zd w a:=by kernel_rfl
theorem Jhl:V3 Qh:=V2 (Jc Jlt Jo) (Jm (by kernel_rfl)) rfl rfl (Jh2 wv)
end Go.Proofs.YtmfagdfkpjgeiaaGreat
