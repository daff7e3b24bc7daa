/- Cells are sorted by the library's sort. Conditions: none. -/
import Derived.Test.YtmfagdfkpjgeiaaGreatXB
import Derived.Test.YtmfagdfkpjgeiaaGreatFB
import Derived.Test.YtmfagdfkpjgeiaaGreatTT
set_option linter.unusedVariables false
set_option linter.unusedSimpArgs false
set_option maxRecDepth 100000
namespace Go.Proofs.YtmfagdfkpjgeiaaGreat
open Go Go.Vv Go.Dn
instance:Inhabited (Ty.p I I).T:=⟨((0:Int),(0:Int))⟩
end Go.Proofs.YtmfagdfkpjgeiaaGreat
namespace Go.Proofs.YtmfagdfkpjgeiaaGreat
open Go Go.Vv Go.Dn Go.Dn.W
abbrev U1:=List (Int×Int)
abbrev U2:=List (Int×U1)
abbrev U4:=HP Int (HP U2 (HP Int (HP Int (HP U2 (HP U2 Unit)))))
abbrev U5:=HP Int (HP U2 (HP Int (HP Int (HP Int (HP U1 (HP U2 (HP U2 Unit)))))))
abbrev U7:=HP Int (HP Int (HP U2 Unit))
abbrev U8:=List (Int×(Bool×U1))
abbrev Ua:=HP Int (HP Int Unit)
abbrev Uc:=HP U1 Unit
abbrev U3:=HP U1 (HP Int (HP U1 (HP Int Uc)))
abbrev U6:=HP Int (HP Bool Uc)
abbrev U9:=HP Bool U3
abbrev Ub:=HP Bool (HP Int U3)
abbrev Ud:=HP Int (HP Int (HP Int (HP Bool (HP U1 U6))))
abbrev Ue:=HP Int (HP U1 (HP Int (HP Int U6)))
abbrev Uf:=HP Int (HP U1 (HP Int (HP Int Uc)))
abbrev Ug:=HP Int (HP Int (HP U1 (HP Int U5)))
abbrev Uh:=HP U2 (HP Int (HP Int U7))
abbrev Ui:=HP Bool (HP Int U9)
noncomputable def Jan[W](a:(Int×Int)):Option Bool:=br (cm .geq a.1 (-4096)) (br (cm .lss a.1 4096) (br (cm .geq a.2 (-4096)) (some (cm .lss a.2 4096)) (some false)) (some false)) (some false)
noncomputable def Yx:Ctr:=⟨88,[(.ag,(.p I I))],[(false,.bool)],@Jan wv⟩
theorem Jnk(w:W)(a):fnD (dW w) (V1 []) 8 88 Yx.as Yx.rs a=@Jan w a:=by kernel_rfl
theorem Jnq:V3 Yx:=V2 Jw (Jv (by kernel_rfl)) rfl rfl (Jnk wv)
noncomputable def Zr[W](a:((Int×Int)×(Int×Int))):Option Bool:=some (cm .eql (ar .add .i64 (ar .mul .i64 (ar .sub .i64 a.1.1 a.2.1) (ar .sub .i64 a.1.1 a.2.1)) (ar .mul .i64 (ar .sub .i64 a.1.2 a.2.2) (ar .sub .i64 a.1.2 a.2.2))) 1)
noncomputable def Qh:Ctr:=⟨89,[(.ag,(.p I I)),(.ag,(.p I I))],[(false,.bool)],@Zr wv⟩
theorem Jib(w:W)(a):fnD (dW w) (V1 []) 8 89 Qh.as Qh.rs a=@Zr w a:=by kernel_rfl
theorem Jic:V3 Qh:=V2 Jw (Jv (by kernel_rfl)) rfl rfl (Jib wv)
noncomputable def Yp[W](s:Ue):Option (Nx Ue (Unit⊕(HP Int U6))):=br (cm .lss s.j.j.j.e s.j.j.e) (ge s.j.e s.j.j.j.e λv0=>call Yx ((v0.1,v0.2):(Int×Int)) λ(v1:Bool)=>br (nt v1) (some (.out (.inl ()))) (br (cm .gtr s.j.j.j.e 0) (ge s.j.j.j.j.j.j.e (ar .sub .i64 s.j.j.j.e 1) λv2=>call Qh (((v2.1,v2.2),(v0.1,v0.2)):((Int×Int)×(Int×Int))) λ(v3:Bool)=>br (nt v3) (some (.out (.inl ()))) (some (.go ⟨s.e,s.j.e,s.j.j.e,(ar .add .i64 s.j.j.j.e 1),s.j.j.j.j⟩))) (some (.go ⟨s.e,s.j.e,s.j.j.e,(ar .add .i64 s.j.j.j.e 1),s.j.j.j.j⟩)))) (some (.out (.inr ⟨s.e,s.j.j.j.j⟩)))
noncomputable def Jbf[W](a:(Int×(Bool×U1))):Option Bool:=br (cm .lss a.1 1) (some false) (br (cm .gtr a.1 7) (some false) (br (cm .lss (ln a.2.2) 1) (some false) (br (cm .gtr (ln a.2.2) 65536) (some false) (loop Yp ⟨(ln a.2.2),a.2.2,(ln a.2.2),0,a.1,a.2.1,a.2.2,()⟩ λv4=>match v4 with|.inl v5=>(some false)|.inr d=>(br (nt d.j.j.e) (some true) (br (cm .eql d.e 1) (some true) (ge d.j.j.j.e (ar .sub .i64 d.e 1) λg=>ge d.j.j.j.e 0 λf=>call Qh (((g.1,g.2),(f.1,f.2)):((Int×Int)×(Int×Int))) λ(v9:Bool)=>some v9)))))))
noncomputable def Zq:Ctr:=⟨35,[(.ag,(.p I (.p .bool (.ls (.p I I)))))],[(false,.bool)],@Jbf wv⟩
theorem Jp9(w:W)(a):fnD (dW w) (V1 [(88,Yx),(89,Qh)]) 8 35 Zq.as Zq.rs a=@Jbf w a:=by kernel_rfl
theorem Jqw:V3 Zq:=V2 (Jk Jnq (Jk Jic Jw)) (Jv (by kernel_rfl)) rfl rfl (Jp9 wv)
end Go.Proofs.YtmfagdfkpjgeiaaGreat
namespace Go.Proofs.YtmfagdfkpjgeiaaGreat
open Go Go.Vv Go.Dn
noncomputable def Jym:SCt:=⟨148,0,false,I,Jqo⟩
noncomputable def Jxu:Ctr:=Jym.ctr
theorem g_s148_0:Jfe PG Jym:=Jyy (P:=PG) (ρ:=Tryz.sortI148_ren) Tryz.sortI148 (by decide) (Jv (by kernel_rfl))
noncomputable def Jou:Ctr:=Go.Dn.cmpC 149
def Jew:Bi:=compB 149 3
theorem Jrn:Jgf PG 149 Jew:=
 J2f (P:=PG) (ρ:=Tryz.comp149_ren) Tryz.comp149 (Go.Proofs.EqlAt.intD _ _ .i64) (Go.Proofs.NeqAt.intD _ _ .i64) (λw=>by kernel_rfl) (by kernel_rfl) (Jv (by kernel_rfl))
end Go.Proofs.YtmfagdfkpjgeiaaGreat
namespace Go.Proofs.YtmfagdfkpjgeiaaGreat
open Go Go.Vv Go.Dn Go.Dn.W
noncomputable def Jbj[W](a:(U2×Int)):Option Bool:=br (cm .geq a.2 0) (br (cm .leq a.2 64) (call Js (a.1:U2) λ(v0:Bool)=>some v0) (some false)) (some false)
noncomputable def za:Ctr:=⟨81,[(.ag,(.ls (.p I (.ls (.p I I))))),(.one,I)],[(false,.bool)],@Jbj wv⟩
theorem Jrq(w:W)(a):fnD (dW w) (V1 [(23,Js)]) 8 81 za.as za.rs a=@Jbj w a:=by kernel_rfl
theorem Jpe:V3 za:=V2 (Jk jb Jw) (Jv (by kernel_rfl)) rfl rfl (Jrq wv)
noncomputable def Xm[W](s:U9):Option (U9⊕Uc):=call Jn ((s.j.e,s.j.j.e):(U1×Int)) λ(v2:Bool)=>br (nt v2) (some ((.inl s))) (call Jn ((s.j.j.j.e,s.j.j.j.j.e):(U1×Int)) λ(v3:Bool)=>br (nt v3) (some ((.inl s))) (some ((.inr s.j.j.j.j.j))))
noncomputable def jv[W](v5:U9)(d:Int)(a:Int):Option Ub:=call Jl ((v5.j.e,v5.j.j.e):(U1×Int)) λ(f:Int)=>br (cm .eql f (mn d a)) (some (⟨v5.e,(mn d a),v5.j.e,(ar .add .i64 v5.j.j.e 1),v5.j.j.j⟩)) (some (⟨v5.e,(mn d a),v5.j⟩))
noncomputable def jr[W](v9:Ub):Option Ub:=call Jl ((v9.j.j.j.j.e,v9.j.j.j.j.j.e):(U1×Int)) λ(v10:Int)=>br (cm .eql v10 v9.j.e) (some (⟨v9.e,v9.j.e,v9.j.j.e,v9.j.j.j.e,v9.j.j.j.j.e,(ar .add .i64 v9.j.j.j.j.j.e 1),v9.j.j.j.j.j.j⟩)) (some (v9))
noncomputable def js[W](v11:Ub):Option Ui:=call Jm ((v11.j.j.e,v11.j.j.j.e):(U1×Int)) λ(v12:Bool)=>call Jm ((v11.j.j.j.j.e,v11.j.j.j.j.j.e):(U1×Int)) λ(v13:Bool)=>br v12 (some (⟨v11.e,v11.j.e,v13,v11.j.j⟩)) (some (⟨v11.e,v11.j.e,false,v11.j.j⟩))
noncomputable def ju[W](v14:Ui):Option U9:=br v14.j.j.e (br (nt v14.e) (gd (ft 16 (pl (ln v14.j.j.j.j.j.j.j.e) 1))<|some (⟨v14.j.j.e,v14.j.j.j.e,v14.j.j.j.j.e,v14.j.j.j.j.j.e,v14.j.j.j.j.j.j.e,(ap v14.j.j.j.j.j.j.j.e ((v14.j.e,0)::[])),()⟩)) (br (nt v14.j.j.e) (br v14.e (gd (ib (ar .sub .i64 (ln v14.j.j.j.j.j.j.j.e) 1) (ln v14.j.j.j.j.j.j.j.e))<|ge v14.j.j.j.j.j.j.j.e (ar .sub .i64 (ln v14.j.j.j.j.j.j.j.e) 1) λv15=>some (⟨v14.j.j.e,v14.j.j.j.e,v14.j.j.j.j.e,v14.j.j.j.j.j.e,v14.j.j.j.j.j.j.e,(st v14.j.j.j.j.j.j.j.e (ar .sub .i64 (ln v14.j.j.j.j.j.j.j.e) 1) (v15.1,v14.j.e)),()⟩)) (some (v14.j.j))) (some (v14.j.j)))) (br (nt v14.j.j.e) (br v14.e (gd (ib (ar .sub .i64 (ln v14.j.j.j.j.j.j.j.e) 1) (ln v14.j.j.j.j.j.j.j.e))<|ge v14.j.j.j.j.j.j.j.e (ar .sub .i64 (ln v14.j.j.j.j.j.j.j.e) 1) λv16=>some (⟨v14.j.j.e,v14.j.j.j.e,v14.j.j.j.j.e,v14.j.j.j.j.j.e,v14.j.j.j.j.j.j.e,(st v14.j.j.j.j.j.j.j.e (ar .sub .i64 (ln v14.j.j.j.j.j.j.j.e) 1) (v16.1,v14.j.e)),()⟩)) (some (v14.j.j))) (some (v14.j.j)))
noncomputable def Qg[W](s:U9):Option (Nx U9 Uc):=join (Xm s) λv4=>match v4 with|.inl v5=>(call Jl ((v5.j.e,v5.j.j.e):(U1×Int)) λ(d:Int)=>call Jl ((v5.j.j.j.e,v5.j.j.j.j.e):(U1×Int)) λ(a:Int)=>join (jv v5 d a) λv9=>join (jr v9) λv11=>join (js v11) λv14=>join (ju v14) λv17=>some (.go v17))|.inr v18=>(some (.out ⟨v18.e,()⟩))
noncomputable def Yt[W](a:(U1×U1)):Option U1:=call Jr (a.1:U1) λ(v0:Bool)=>br (nt v0) (some []) (call Jr (a.2:U1) λ(v1:Bool)=>br (nt v1) (some []) (loop Qg ⟨false,a.1,0,a.2,0,[],()⟩ λv19=>some v19.e))
noncomputable def Ys:Ctr:=⟨82,[(.one,(.ls (.p I I))),(.one,(.ls (.p I I)))],[(false,(.ls (.p I I)))],@Yt wv⟩
theorem Jjt(w:W)(a):fnD (dW w) (cxO (gam [(188,Jn),(189,Jl),(191,Jm),(68,Jr)]) [] [] [] [32768007,32768009,32768010,32768011,32768015] [] []) 8 82 Ys.as Ys.rs a=@Yt w a:=by kernel_rfl
theorem Jj3:V3 Ys:=good (gam [(188,Jn),(189,Jl),(191,Jm),(68,Jr)]) [] [] [] [32768007,32768009,32768010,32768011,32768015] [] [] 8 (Jk Y5 (Jk j9 (Jk Yd (Jk Ja0 Jw)))) Kj Kk (Jv (by kernel_rfl)) rfl rfl (Jjt wv)
noncomputable def jm[W](s:Uf):Option (Nx Uf Uc):=br (cm .lss s.j.j.j.e s.j.j.e) (ge s.j.e s.j.j.j.e λv1=>br (cm .lss (ar .add .i64 v1.1 s.e) (ar .sub .i64 v1.2 s.e)) (gd (ft 16 (pl (ln s.j.j.j.j.e) 1))<|some (.go ⟨s.e,s.j.e,s.j.j.e,(ar .add .i64 s.j.j.j.e 1),(ap s.j.j.j.j.e (((ar .add .i64 v1.1 s.e),(ar .sub .i64 v1.2 s.e))::[])),()⟩)) (some (.go ⟨s.e,s.j.e,s.j.j.e,(ar .add .i64 s.j.j.j.e 1),s.j.j.j.j⟩))) (some (.out s.j.j.j.j))
noncomputable def Jbe[W](a:(U1×Int)):Option U1:=call Jr (a.1:U1) λ(v0:Bool)=>br (nt v0) (some []) (br (cm .lss a.2 0) (some []) (br (cm .gtr a.2 1048576) (some []) (loop jm ⟨a.2,a.1,(ln a.1),0,[],()⟩ λv2=>some v2.e)))
noncomputable def zt:Ctr:=⟨83,[(.one,(.ls (.p I I))),(.one,I)],[(false,(.ls (.p I I)))],@Jbe wv⟩
theorem Jq0(w:W)(a):fnD (dW w) (V1 [(68,Jr)]) 8 83 zt.as zt.rs a=@Jbe w a:=by kernel_rfl
theorem Jqj:V3 zt:=V2 (Jk Ja0 Jw) (Jv (by kernel_rfl)) rfl rfl (Jq0 wv)
noncomputable def Yv[W](a:(U2×Int))(s:U4):Option (Nx U4 (HP Int (HP U2 (HP U2 Unit)))):=br (cm .lss s.j.j.j.e s.j.j.e) (ge s.j.e s.j.j.j.e λv1=>call zt ((v1.2,s.e):(U1×Int)) λ(v2:U1)=>some (.go ⟨s.e,s.j.e,s.j.j.e,(ar .add .i64 s.j.j.j.e 1),s.j.j.j.j.e,(ms (a:=I) (b:=(.ls (.p I I))) s.j.j.j.j.j.e v1.1 v2),()⟩)) (some (.out ⟨s.e,s.j.j.j.j⟩))
noncomputable def Yq[W](a:(U2×Int))(s:Ug):Option (Nx Ug (HP U1 U5)):=br (cm .leq s.j.j.j.e (ar .add .i64 s.e s.j.e)) (call Ys ((s.j.j.e,(mg (a:=I) (b:=(.ls (.p I I))) s.j.j.j.j.j.j.j.j.j.j.e s.j.j.j.e [])):(U1×U1)) λ(v5:U1)=>some (.go ⟨s.e,s.j.e,v5,(ar .add .i64 s.j.j.j.e 1),s.j.j.j.j⟩)) (some (.out ⟨s.j.j.e,s.j.j.j.j.e,s.j.j.j.j.j.e,s.j.j.j.j.j.j.e,s.j.j.j.j.j.j.j.e,s.j.j.j.j.j.j.j.j.e,s.j.j.j.j.j.j.j.j.j.e,s.j.j.j.j.j.j.j.j.j.j.j.e,s.j.j.j.j.j.j.j.j.j.j.e,()⟩))
noncomputable def Yr[W](a:(U2×Int))(s:U4):Option (Nx U4 (HP U2 Unit)):=br (cm .lss s.j.j.j.e s.j.j.e) (ge s.j.e s.j.j.j.e λv4=>loop (Yq a) ⟨v4.1,s.e,(mg (a:=I) (b:=(.ls (.p I I))) s.j.j.j.j.e (ar .sub .i64 v4.1 s.e) []),(ar .add .i64 (ar .sub .i64 v4.1 s.e) 1),s.e,s.j.e,s.j.j.e,s.j.j.j.e,v4.1,v4.2,s.j.j.j.j⟩ λd=>br (cm .gtr (ln d.e) 0) (gd (ft 16 (pl 0 (ln d.e)))<|gd (ft 32 (pl (ln d.j.j.j.j.j.j.j.e) 1))<|some (.go ⟨d.j.e,d.j.j.e,d.j.j.j.e,(ar .add .i64 d.j.j.j.j.e 1),d.j.j.j.j.j.j.j.j.e,(ap d.j.j.j.j.j.j.j.e ((d.j.j.j.j.j.e,d.e)::[])),()⟩)) (some (.go ⟨d.j.e,d.j.j.e,d.j.j.j.e,(ar .add .i64 d.j.j.j.j.e 1),d.j.j.j.j.j.j.j.j.e,d.j.j.j.j.j.j.j.e,()⟩))) (some (.out s.j.j.j.j.j))
noncomputable def Zo[W](a:(U2×Int)):Option U2:=call za ((a.1,a.2):(U2×Int)) λ(v0:Bool)=>br (nt v0) (some []) (loop (Yv a) ⟨a.2,a.1,(ln a.1),0,a.1,[],()⟩ λv3=>loop (Yr a) ⟨v3.e,v3.j.e,(ln v3.j.e),0,v3.j.j.e,[],()⟩ λd=>some d.e)
noncomputable def j6:Ctr:=⟨33,[(.ag,(.ls (.p I (.ls (.p I I))))),(.one,I)],[(true,(.ls (.p I (.ls (.p I I)))))],@Zo wv⟩
theorem Jqh(w:W)(a):fnD (dW w) (cxO (gam [(83,zt),(81,za)]) [] [] [] [] [(82,Ys.bi)] []) 8 33 j6.as j6.rs a=@Zo w a:=by kernel_rfl
theorem Jpr:V3 j6:=good (gam [(83,zt),(81,za)]) [] [] [] [] [(82,Ys.bi)] [] 8 (Jk Jqj (Jk Jpe Jw)) Kj (Jls (ctr_bi Jj3 rfl) Kk) (Jv (by kernel_rfl)) rfl rfl (Jqh wv)
noncomputable def Jbr[W](s:Uh):Option (Nx Uh (HP U2 (HP Int U7))):=br (cm .lss s.j.j.j.e s.j.j.j.j.e) (gd (cm .geq 1 0)<|ge s.e (cv .i64 (sh .shr .u64 (cv .u64 (ar .add .i64 s.j.j.j.e s.j.j.j.j.e)) 1)) λv0=>call Yn ((v0.1,s.j.e):(Int×Int)) λ(v1:Int)=>br (cm .lss v1 0) (some (.go ⟨s.e,s.j.e,s.j.j.e,(ar .add .i64 (cv .i64 (sh .shr .u64 (cv .u64 (ar .add .i64 s.j.j.j.e s.j.j.j.j.e)) 1)) 1),s.j.j.j.j⟩)) (some (.go ⟨s.e,s.j.e,s.j.j.e,s.j.j.j.e,(cv .i64 (sh .shr .u64 (cv .u64 (ar .add .i64 s.j.j.j.e s.j.j.j.j.e)) 1)),s.j.j.j.j.j⟩))) (some (.out ⟨s.e,s.j.e,s.j.j.e,s.j.j.j.e,s.j.j.j.j.j⟩))
noncomputable def Jck[W](a:(U2×Int)):Option U1:=loop Jbr ⟨a.1,a.2,(ln a.1),0,(ln a.1),a.1,()⟩ λv2=>br (cm .lss v2.j.j.j.e v2.j.j.e) (ge v2.e v2.j.j.j.e λv3=>call Yn ((v3.1,v2.j.e):(Int×Int)) λ(v4:Int)=>br (nt (cm .eql v4 0)) (some []) (ge v2.j.j.j.j.e v2.j.j.j.e λv5=>some v5.2)) (some [])
noncomputable def Zf:Ctr:=⟨63,[(.ag,(.ls (.p I (.ls (.p I I))))),(.one,I)],[(false,(.ls (.p I I)))],@Jck wv⟩
theorem Juf(w:W)(a):fnD (dW w) (V1 [(125,Yn)]) 8 63 Zf.as Zf.rs a=@Jck w a:=by kernel_rfl
theorem Jui:V3 Zf:=V2 (Jk Jrh Jw) (Jv (by kernel_rfl)) rfl rfl (Juf wv)
noncomputable def Kz[W](a:U1):Option U1:=nq (ln a) λv0=>br v0 (some []) (gd (ft 16 (pl 0 (ln a)))<|some a)
noncomputable def Ki:Ctr:=⟨150,[(.one,(.ls (.p I I)))],[(false,(.ls (.p I I)))],@Kz wv⟩
theorem Ja3(w:W)(a):fnD (dW w) (V1 []) 8 150 Ki.as Ki.rs a=@Kz w a:=by kernel_rfl
theorem Jaz:V3 Ki:=V2 Jw (Jv (by kernel_rfl)) rfl rfl (Ja3 wv)
noncomputable def Jcv[W](s:(HP U1 Ua)):Option (Nx (HP U1 Ua) (Unit⊕Unit)):=br (cm .lss s.j.j.e (ln s.e)) (ge s.e s.j.j.e λv0=>br (cm .leq v0.1 s.j.e) (ge s.e s.j.j.e λv1=>br (cm .lss s.j.e v1.2) (some (.out (.inl ()))) (some (.go ⟨s.e,s.j.e,(ar .add .i64 s.j.j.e 1),()⟩))) (some (.go ⟨s.e,s.j.e,(ar .add .i64 s.j.j.e 1),()⟩))) (some (.out (.inr ())))
noncomputable def Jel[W](a:(U1×Int)):Option Bool:=loop Jcv ⟨a.1,a.2,0,()⟩ λv2=>match v2 with|.inl v3=>(some true)|.inr v4=>(some false)
noncomputable def Jek:Ctr:=⟨164,[(.one,(.ls (.p I I))),(.one,I)],[(false,.bool)],@Jel wv⟩
noncomputable def Jej[W](s:U7):Option (Nx U7 (Uc⊕Unit)):=br (cm .lss s.j.e (ln s.j.j.e)) (ge s.j.j.e s.j.e λv0=>br (cm .eql v0.1 s.e) (ge s.j.j.e s.j.e λv1=>some (.out (.inl ⟨v1.2,()⟩))) (some (.go ⟨s.e,(ar .add .i64 s.j.e 1),s.j.j⟩))) (some (.out (.inr ())))
noncomputable def Jgs[W](a:(U2×Int)):Option U1:=loop Jej ⟨a.2,0,a.1,()⟩ λv2=>match v2 with|.inl v3=>(some v3.e)|.inr v4=>(some [])
noncomputable def Jg6:Ctr:=⟨165,[(.ag,(.ls (.p I (.ls (.p I I))))),(.one,I)],[(false,(.ls (.p I I)))],@Jgs wv⟩
noncomputable def Jdc[W](a:(U2×(Int×Int))):Option Bool:=call Km (a.1:U2) λ(v0:Bool)=>br v0 (call Jg6 ((a.1,a.2.2):(U2×Int)) λ(v1:U1)=>call Jek ((v1,a.2.1):(U1×Int)) λ(v2:Bool)=>some v2) (some false)
noncomputable def Jde:Ctr:=⟨116,[(.ag,(.ls (.p I (.ls (.p I I))))),(.ag,(.p I I))],[(false,.bool)],@Jdc wv⟩
noncomputable def Q1[W](s:Ud):Option (Nx Ud (Unit⊕Unit)):=br (cm .lss s.j.e s.e) (ge s.j.j.j.j.e s.j.e λv0=>ge s.j.j.j.j.j.j.j.e s.j.e λv1=>br (nt (an (cm .eql v0.1 v1.1) (cm .eql v0.2 v1.2))) (some (.out (.inl ()))) (some (.go ⟨s.e,(ar .add .i64 s.j.e 1),s.j.j⟩))) (some (.out (.inr ())))
noncomputable def X9[W](a:((Int×(Bool×U1))×(Int×(Bool×U1)))):Option Bool:=br (cm .neq a.1.1 a.2.1) (some false) (br (nt (be a.1.2.1 a.2.2.1)) (some false) (br (cm .neq (ln a.1.2.2) (ln a.2.2.2)) (some false) (loop Q1 ⟨(ln a.1.2.2),0,a.1.1,a.1.2.1,a.1.2.2,a.2.1,a.2.2.1,a.2.2.2,()⟩ λv2=>match v2 with|.inl v3=>(some false)|.inr v4=>(some true))))
noncomputable def Qa:Ctr:=⟨43,[(.ag,(.p I (.p .bool (.ls (.p I I))))),(.ag,(.p I (.p .bool (.ls (.p I I)))))],[(false,.bool)],@X9 wv⟩
theorem Jf9(w:W)(a):fnD (dW w) (V1 []) 8 43 Qa.as Qa.rs a=@X9 w a:=by kernel_rfl
theorem Jgc:V3 Qa:=V2 Jw (Jv (by kernel_rfl)) rfl rfl (Jf9 wv)
noncomputable def Qd[W](s:(HP U8 (HP U8 Ua))):Option (Nx (HP U8 (HP U8 Ua)) (Unit⊕Unit)):=br (cm .lss s.j.j.j.e s.j.j.e) (ge s.e s.j.j.j.e λv0=>ge s.j.e s.j.j.j.e λv1=>call Qa (((v0.1,(v0.2.1,v0.2.2)),(v1.1,(v1.2.1,v1.2.2))):((Int×(Bool×U1))×(Int×(Bool×U1)))) λ(v2:Bool)=>br (nt v2) (some (.out (.inl ()))) (some (.go ⟨s.e,s.j.e,s.j.j.e,(ar .add .i64 s.j.j.j.e 1),()⟩))) (some (.out (.inr ())))
noncomputable def Q0[W](a:(U8×U8)):Option Bool:=br (cm .neq (ln a.1) (ln a.2)) (some false) (loop Qd ⟨a.1,a.2,(ln a.1),0,()⟩ λv3=>match v3 with|.inl v4=>(some false)|.inr v5=>(some true))
noncomputable def Kw:Ctr:=⟨13,[(.one,(.ls (.p I (.p .bool (.ls (.p I I)))))),(.one,(.ls (.p I (.p .bool (.ls (.p I I))))))],[(false,.bool)],@Q0 wv⟩
theorem Jee(w:W)(a):fnD (dW w) (V1 [(43,Qa)]) 8 13 Kw.as Kw.rs a=@Q0 w a:=by kernel_rfl
theorem Jd2:V3 Kw:=V2 (Jk Jgc Jw) (Jv (by kernel_rfl)) rfl rfl (Jee wv)
end Go.Proofs.YtmfagdfkpjgeiaaGreat
