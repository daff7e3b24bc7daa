/- Cells are sorted by the library's sort. Conditions: none. -/
import Derived.Test.YtmfagdfkpjgeiaaGreatXB
import Derived.Test.YtmfagdfkpjgeiaaGreatFB
import Derived.Test.YtmfagdfkpjgeiaaGreatTT
set_option linter.unusedVariables false
set_option linter.unusedSimpArgs false
set_option maxRecDepth 100000
namespace Go.Proofs.YtmfagdfkpjgeiaaGreat
open Go Go.Vv Go.Dn
instance:Inhabited (Ty.p I I).T:=⟨((0:Int),(0:Int))⟩
end Go.Proofs.YtmfagdfkpjgeiaaGreat
namespace Go.Proofs.YtmfagdfkpjgeiaaGreat
open Go Go.Vv Go.Dn Go.Dn.W
abbrev U1:=List (Int×Int)
abbrev U2:=List (Int×U1)
abbrev U4:=HP Int (HP U2 (HP Int (HP Int (HP U2 (HP U2 Unit)))))
abbrev U5:=HP Int (HP U2 (HP Int (HP Int (HP Int (HP U1 (HP U2 (HP U2 Unit)))))))
abbrev U7:=HP Int (HP Int (HP U2 Unit))
abbrev U8:=List (Int×(Bool×U1))
abbrev Ua:=HP Int (HP Int Unit)
abbrev Uc:=HP U1 Unit
abbrev U3:=HP U1 (HP Int (HP U1 (HP Int Uc)))
abbrev U6:=HP Int (HP Bool Uc)
abbrev U9:=HP Bool U3
abbrev Ub:=HP Bool (HP Int U3)
abbrev Ud:=HP Int (HP Int (HP Int (HP Bool (HP U1 U6))))
abbrev Ue:=HP Int (HP U1 (HP Int (HP Int U6)))
abbrev Uf:=HP Int (HP U1 (HP Int (HP Int Uc)))
abbrev Ug:=HP Int (HP Int (HP U1 (HP Int U5)))
abbrev Uh:=HP U2 (HP Int (HP Int U7))
abbrev Ui:=HP Bool (HP Int U9)
noncomputable def Jau[W](a:(Int×Int)):Option Bool:=br (cm .geq a.1 (-4096)) (br (cm .lss a.1 4096) (br (cm .geq a.2 (-4096)) (some (cm .lss a.2 4096)) (some false)) (some false)) (some false)
noncomputable def Yz:Ctr:=⟨88,[(.ag,(.p I I))],[(false,.bool)],@Jau wv⟩
theorem Jnv(w:W)(a):fnD (dW w) (V1 []) 8 88 Yz.as Yz.rs a=@Jau w a:=by kernel_rfl
theorem Jn9:V3 Yz:=V2 Jx (Ju (by kernel_rfl)) rfl rfl (Jnv wv)
noncomputable def Zr[W](a:((Int×Int)×(Int×Int))):Option Bool:=some (cm .eql (ar .add .i64 (ar .mul .i64 (ar .sub .i64 a.1.1 a.2.1) (ar .sub .i64 a.1.1 a.2.1)) (ar .mul .i64 (ar .sub .i64 a.1.2 a.2.2) (ar .sub .i64 a.1.2 a.2.2))) 1)
noncomputable def Qj:Ctr:=⟨89,[(.ag,(.p I I)),(.ag,(.p I I))],[(false,.bool)],@Zr wv⟩
theorem Jix(w:W)(a):fnD (dW w) (V1 []) 8 89 Qj.as Qj.rs a=@Zr w a:=by kernel_rfl
theorem Ji2:V3 Qj:=V2 Jx (Ju (by kernel_rfl)) rfl rfl (Jix wv)
noncomputable def Yw[W](s:Ue):Option (Nx Ue (Unit⊕(HP Int U6))):=br (cm .lss s.j.j.j.e s.j.j.e) (ge s.j.e s.j.j.j.e λv0=>call Yz ((v0.1,v0.2):(Int×Int)) λ(v1:Bool)=>br (nt v1) (some (.out (.inl ()))) (br (cm .gtr s.j.j.j.e 0) (ge s.j.j.j.j.j.j.e (ar .sub .i64 s.j.j.j.e 1) λv2=>call Qj (((v2.1,v2.2),(v0.1,v0.2)):((Int×Int)×(Int×Int))) λ(v3:Bool)=>br (nt v3) (some (.out (.inl ()))) (some (.go ⟨s.e,⟨s.j.e,⟨s.j.j.e,⟨(ar .add .i64 s.j.j.j.e 1),s.j.j.j.j⟩⟩⟩⟩))) (some (.go ⟨s.e,⟨s.j.e,⟨s.j.j.e,⟨(ar .add .i64 s.j.j.j.e 1),s.j.j.j.j⟩⟩⟩⟩)))) (some (.out (.inr ⟨s.e,s.j.j.j.j⟩)))
noncomputable def Jbr[W](a:(Int×(Bool×U1))):Option Bool:=br (cm .lss a.1 1) (some false) (br (cm .gtr a.1 7) (some false) (br (cm .lss (ln a.2.2) 1) (some false) (br (cm .gtr (ln a.2.2) 65536) (some false) (loop Yw ⟨(ln a.2.2),⟨a.2.2,⟨(ln a.2.2),⟨0,⟨a.1,⟨a.2.1,⟨a.2.2,()⟩⟩⟩⟩⟩⟩⟩ λv4=>match v4 with|.inl v5=>(some false)|.inr d=>(br (nt d.j.j.e) (some true) (br (cm .eql d.e 1) (some true) (ge d.j.j.j.e (ar .sub .i64 d.e 1) λg=>ge d.j.j.j.e 0 λf=>call Qj (((g.1,g.2),(f.1,f.2)):((Int×Int)×(Int×Int))) λ(v9:Bool)=>some v9)))))))
noncomputable def Zy:Ctr:=⟨35,[(.ag,(.p I (.p .bool (.ls (.p I I)))))],[(false,.bool)],@Jbr wv⟩
theorem Jpy(w:W)(a):fnD (dW w) (V1 [(88,Yz),(89,Qj)]) 8 35 Zy.as Zy.rs a=@Jbr w a:=by kernel_rfl
theorem Jqr:V3 Zy:=V2 (Jj Jn9 (Jj Ji2 Jx)) (Ju (by kernel_rfl)) rfl rfl (Jpy wv)
end Go.Proofs.YtmfagdfkpjgeiaaGreat
namespace Go.Proofs.YtmfagdfkpjgeiaaGreat
open Go Go.Vv Go.Dn
noncomputable def Jxa:SCt:=⟨148,0,false,I,Jr4⟩
noncomputable def Jye:Ctr:=Jxa.ctr
theorem g_s148_0:Jfh PG Jxa:=J0c (P:=PG) (ρ:=Tryz.sortI148_ren) Tryz.sortI148 (by decide) (Ju (by kernel_rfl))
noncomputable def Joi:Ctr:=Go.Dn.cmpC 149
def Je8:Bi:=compB 149 3
theorem Jp8:Jgu PG 149 Je8 :=
 J2t (P:=PG) (ρ:=Tryz.comp149_ren) Tryz.comp149 (Go.Proofs.EqlAt.intD _ _ .i64) (Go.Proofs.NeqAt.intD _ _ .i64) (λw=>by kernel_rfl) (by kernel_rfl) (Ju (by kernel_rfl))
end Go.Proofs.YtmfagdfkpjgeiaaGreat
namespace Go.Proofs.YtmfagdfkpjgeiaaGreat
open Go Go.Vv Go.Dn Go.Dn.W
noncomputable def Jbo[W](a:(U2×Int)):Option Bool:=br (cm .geq a.2 0) (br (cm .leq a.2 64) (call Jp (a.1:U2) λ(v0:Bool)=>some v0) (some false)) (some false)
noncomputable def zj:Ctr:=⟨81,[(.ag,(.ls (.p I (.ls (.p I I))))),(.one,I)],[(false,.bool)],@Jbo wv⟩
theorem Jqv(w:W)(a):fnD (dW w) (V1 [(23,Jp)]) 8 81 zj.as zj.rs a=@Jbo w a:=by kernel_rfl
theorem Jsg:V3 zj:=V2 (Jj je Jx) (Ju (by kernel_rfl)) rfl rfl (Jqv wv)
noncomputable def Xr[W](s:U9):Option (U9⊕Uc):=call Jn ((s.j.e,s.j.j.e):(U1×Int)) λ(v2:Bool)=>br (nt v2) (some ((.inl s))) (call Jn ((s.j.j.j.e,s.j.j.j.j.e):(U1×Int)) λ(v3:Bool)=>br (nt v3) (some ((.inl s))) (some ((.inr s.j.j.j.j.j))))
noncomputable def jw[W](v5:U9)(d:Int)(a:Int):Option Ub:=call Jl ((v5.j.e,v5.j.j.e):(U1×Int)) λ(f:Int)=>br (cm .eql f (mn d a)) (some (⟨v5.e,⟨(mn d a),⟨v5.j.e,⟨(ar .add .i64 v5.j.j.e 1),v5.j.j.j⟩⟩⟩⟩)) (some (⟨v5.e,⟨(mn d a),v5.j⟩⟩))
noncomputable def jx[W](v9:Ub):Option Ub:=call Jl ((v9.j.j.j.j.e,v9.j.j.j.j.j.e):(U1×Int)) λ(v10:Int)=>br (cm .eql v10 v9.j.e) (some (⟨v9.e,⟨v9.j.e,⟨v9.j.j.e,⟨v9.j.j.j.e,⟨v9.j.j.j.j.e,⟨(ar .add .i64 v9.j.j.j.j.j.e 1),v9.j.j.j.j.j.j⟩⟩⟩⟩⟩⟩)) (some (v9))
noncomputable def jv[W](v11:Ub):Option Ui:=call Jm ((v11.j.j.e,v11.j.j.j.e):(U1×Int)) λ(v12:Bool)=>call Jm ((v11.j.j.j.j.e,v11.j.j.j.j.j.e):(U1×Int)) λ(v13:Bool)=>br v12 (some (⟨v11.e,⟨v11.j.e,⟨v13,v11.j.j⟩⟩⟩)) (some (⟨v11.e,⟨v11.j.e,⟨false,v11.j.j⟩⟩⟩))
noncomputable def jz[W](v14:Ui):Option U9:=br v14.j.j.e (br (nt v14.e) (gd (ft 16 (pl (ln v14.j.j.j.j.j.j.j.e) 1))<|some (⟨v14.j.j.e,⟨v14.j.j.j.e,⟨v14.j.j.j.j.e,⟨v14.j.j.j.j.j.e,⟨v14.j.j.j.j.j.j.e,⟨(ap v14.j.j.j.j.j.j.j.e ((v14.j.e,0)::[])),()⟩⟩⟩⟩⟩⟩)) (br (nt v14.j.j.e) (br v14.e (gd (ib (ar .sub .i64 (ln v14.j.j.j.j.j.j.j.e) 1) (ln v14.j.j.j.j.j.j.j.e))<|ge v14.j.j.j.j.j.j.j.e (ar .sub .i64 (ln v14.j.j.j.j.j.j.j.e) 1) λv15=>some (⟨v14.j.j.e,⟨v14.j.j.j.e,⟨v14.j.j.j.j.e,⟨v14.j.j.j.j.j.e,⟨v14.j.j.j.j.j.j.e,⟨(st v14.j.j.j.j.j.j.j.e (ar .sub .i64 (ln v14.j.j.j.j.j.j.j.e) 1) (v15.1,v14.j.e)),()⟩⟩⟩⟩⟩⟩)) (some (v14.j.j))) (some (v14.j.j)))) (br (nt v14.j.j.e) (br v14.e (gd (ib (ar .sub .i64 (ln v14.j.j.j.j.j.j.j.e) 1) (ln v14.j.j.j.j.j.j.j.e))<|ge v14.j.j.j.j.j.j.j.e (ar .sub .i64 (ln v14.j.j.j.j.j.j.j.e) 1) λv16=>some (⟨v14.j.j.e,⟨v14.j.j.j.e,⟨v14.j.j.j.j.e,⟨v14.j.j.j.j.j.e,⟨v14.j.j.j.j.j.j.e,⟨(st v14.j.j.j.j.j.j.j.e (ar .sub .i64 (ln v14.j.j.j.j.j.j.j.e) 1) (v16.1,v14.j.e)),()⟩⟩⟩⟩⟩⟩)) (some (v14.j.j))) (some (v14.j.j)))
noncomputable def Qi[W](s:U9):Option (Nx U9 Uc):=join (Xr s) λv4=>match v4 with|.inl v5=>(call Jl ((v5.j.e,v5.j.j.e):(U1×Int)) λ(d:Int)=>call Jl ((v5.j.j.j.e,v5.j.j.j.j.e):(U1×Int)) λ(a:Int)=>join (jw v5 d a) λv9=>join (jx v9) λv11=>join (jv v11) λv14=>join (jz v14) λv17=>some (.go v17))|.inr v18=>(some (.out ⟨v18.e,()⟩))
noncomputable def Ys[W](a:(U1×U1)):Option U1:=call Js (a.1:U1) λ(v0:Bool)=>br (nt v0) (some []) (call Js (a.2:U1) λ(v1:Bool)=>br (nt v1) (some []) (loop Qi ⟨false,⟨a.1,⟨0,⟨a.2,⟨0,⟨[],()⟩⟩⟩⟩⟩⟩ λv19=>some v19.e))
noncomputable def Yv:Ctr:=⟨82,[(.one,(.ls (.p I I))),(.one,(.ls (.p I I)))],[(false,(.ls (.p I I)))],@Ys wv⟩
theorem Jkh(w:W)(a):fnD (dW w) (cxO (gam [(188,Jn),(189,Jl),(191,Jm),(68,Js)]) [] [] [] [32768007,32768009,32768010,32768011,32768015] [] []) 8 82 Yv.as Yv.rs a=@Ys w a:=by kernel_rfl
theorem Jkl:V3 Yv:=good (gam [(188,Jn),(189,Jl),(191,Jm),(68,Js)]) [] [] [] [32768007,32768009,32768010,32768011,32768015] [] [] 8 (Jj Zb (Jj zm (Jj Yg (Jj Ja7 Jx)))) Ki Kh (Ju (by kernel_rfl)) rfl rfl (Jkh wv)
noncomputable def jp[W](s:Uf):Option (Nx Uf Uc):=br (cm .lss s.j.j.j.e s.j.j.e) (ge s.j.e s.j.j.j.e λv1=>br (cm .lss (ar .add .i64 v1.1 s.e) (ar .sub .i64 v1.2 s.e)) (gd (ft 16 (pl (ln s.j.j.j.j.e) 1))<|some (.go ⟨s.e,⟨s.j.e,⟨s.j.j.e,⟨(ar .add .i64 s.j.j.j.e 1),⟨(ap s.j.j.j.j.e (((ar .add .i64 v1.1 s.e),(ar .sub .i64 v1.2 s.e))::[])),()⟩⟩⟩⟩⟩)) (some (.go ⟨s.e,⟨s.j.e,⟨s.j.j.e,⟨(ar .add .i64 s.j.j.j.e 1),s.j.j.j.j⟩⟩⟩⟩))) (some (.out s.j.j.j.j))
noncomputable def Jbq[W](a:(U1×Int)):Option U1:=call Js (a.1:U1) λ(v0:Bool)=>br (nt v0) (some []) (br (cm .lss a.2 0) (some []) (br (cm .gtr a.2 1048576) (some []) (loop jp ⟨a.2,⟨a.1,⟨(ln a.1),⟨0,⟨[],()⟩⟩⟩⟩⟩ λv2=>some v2.e)))
noncomputable def zq:Ctr:=⟨83,[(.one,(.ls (.p I I))),(.one,I)],[(false,(.ls (.p I I)))],@Jbq wv⟩
theorem Jp6(w:W)(a):fnD (dW w) (V1 [(68,Js)]) 8 83 zq.as zq.rs a=@Jbq w a:=by kernel_rfl
theorem Jrz:V3 zq:=V2 (Jj Ja7 Jx) (Ju (by kernel_rfl)) rfl rfl (Jp6 wv)
noncomputable def Yy[W](a:(U2×Int))(s:U4):Option (Nx U4 (HP Int (HP U2 (HP U2 Unit)))):=br (cm .lss s.j.j.j.e s.j.j.e) (ge s.j.e s.j.j.j.e λv1=>call zq ((v1.2,s.e):(U1×Int)) λ(v2:U1)=>some (.go ⟨s.e,⟨s.j.e,⟨s.j.j.e,⟨(ar .add .i64 s.j.j.j.e 1),⟨s.j.j.j.j.e,⟨(ms (a:=I) (b:=(.ls (.p I I))) s.j.j.j.j.j.e v1.1 v2),()⟩⟩⟩⟩⟩⟩)) (some (.out ⟨s.e,s.j.j.j.j⟩))
noncomputable def Yx[W](a:(U2×Int))(s:Ug):Option (Nx Ug (HP U1 U5)):=br (cm .leq s.j.j.j.e (ar .add .i64 s.e s.j.e)) (call Yv ((s.j.j.e,(mg (a:=I) (b:=(.ls (.p I I))) s.j.j.j.j.j.j.j.j.j.j.e s.j.j.j.e [])):(U1×U1)) λ(v5:U1)=>some (.go ⟨s.e,⟨s.j.e,⟨v5,⟨(ar .add .i64 s.j.j.j.e 1),s.j.j.j.j⟩⟩⟩⟩)) (some (.out ⟨s.j.j.e,⟨s.j.j.j.j.e,⟨s.j.j.j.j.j.e,⟨s.j.j.j.j.j.j.e,⟨s.j.j.j.j.j.j.j.e,⟨s.j.j.j.j.j.j.j.j.e,⟨s.j.j.j.j.j.j.j.j.j.e,⟨s.j.j.j.j.j.j.j.j.j.j.j.e,⟨s.j.j.j.j.j.j.j.j.j.j.e,()⟩⟩⟩⟩⟩⟩⟩⟩⟩))
noncomputable def Yt[W](a:(U2×Int))(s:U4):Option (Nx U4 (HP U2 Unit)):=br (cm .lss s.j.j.j.e s.j.j.e) (ge s.j.e s.j.j.j.e λv4=>loop (Yx a) ⟨v4.1,⟨s.e,⟨(mg (a:=I) (b:=(.ls (.p I I))) s.j.j.j.j.e (ar .sub .i64 v4.1 s.e) []),⟨(ar .add .i64 (ar .sub .i64 v4.1 s.e) 1),⟨s.e,⟨s.j.e,⟨s.j.j.e,⟨s.j.j.j.e,⟨v4.1,⟨v4.2,s.j.j.j.j⟩⟩⟩⟩⟩⟩⟩⟩⟩⟩ λd=>br (cm .gtr (ln d.e) 0) (gd (ft 16 (pl 0 (ln d.e)))<|gd (ft 32 (pl (ln d.j.j.j.j.j.j.j.e) 1))<|some (.go ⟨d.j.e,⟨d.j.j.e,⟨d.j.j.j.e,⟨(ar .add .i64 d.j.j.j.j.e 1),⟨d.j.j.j.j.j.j.j.j.e,⟨(ap d.j.j.j.j.j.j.j.e ((d.j.j.j.j.j.e,d.e)::[])),()⟩⟩⟩⟩⟩⟩)) (some (.go ⟨d.j.e,⟨d.j.j.e,⟨d.j.j.j.e,⟨(ar .add .i64 d.j.j.j.j.e 1),⟨d.j.j.j.j.j.j.j.j.e,⟨d.j.j.j.j.j.j.j.e,()⟩⟩⟩⟩⟩⟩))) (some (.out s.j.j.j.j.j))
noncomputable def Zq[W](a:(U2×Int)):Option U2:=call zj ((a.1,a.2):(U2×Int)) λ(v0:Bool)=>br (nt v0) (some []) (loop (Yy a) ⟨a.2,⟨a.1,⟨(ln a.1),⟨0,⟨a.1,⟨[],()⟩⟩⟩⟩⟩⟩ λv3=>loop (Yt a) ⟨v3.e,⟨v3.j.e,⟨(ln v3.j.e),⟨0,⟨v3.j.j.e,⟨[],()⟩⟩⟩⟩⟩⟩ λd=>some d.e)
noncomputable def Qn:Ctr:=⟨33,[(.ag,(.ls (.p I (.ls (.p I I))))),(.one,I)],[(true,(.ls (.p I (.ls (.p I I)))))],@Zq wv⟩
theorem Jqo(w:W)(a):fnD (dW w) (cxO (gam [(83,zq),(81,zj)]) [] [] [] [] [(82,Yv.bi)] []) 8 33 Qn.as Qn.rs a=@Zq w a:=by kernel_rfl
theorem Jil:V3 Qn:=good (gam [(83,zq),(81,zj)]) [] [] [] [] [(82,Yv.bi)] [] 8 (Jj Jrz (Jj Jsg Jx)) Ki (Jl6 (ctr_bi Jkl rfl) Kh) (Ju (by kernel_rfl)) rfl rfl (Jqo wv)
noncomputable def Jb1[W](s:Uh):Option (Nx Uh (HP U2 (HP Int U7))):=br (cm .lss s.j.j.j.e s.j.j.j.j.e) (gd (cm .geq 1 0)<|ge s.e (cv .i64 (sh .shr .u64 (cv .u64 (ar .add .i64 s.j.j.j.e s.j.j.j.j.e)) 1)) λv0=>call Yr ((v0.1,s.j.e):(Int×Int)) λ(v1:Int)=>br (cm .lss v1 0) (some (.go ⟨s.e,⟨s.j.e,⟨s.j.j.e,⟨(ar .add .i64 (cv .i64 (sh .shr .u64 (cv .u64 (ar .add .i64 s.j.j.j.e s.j.j.j.j.e)) 1)) 1),s.j.j.j.j⟩⟩⟩⟩)) (some (.go ⟨s.e,⟨s.j.e,⟨s.j.j.e,⟨s.j.j.j.e,⟨(cv .i64 (sh .shr .u64 (cv .u64 (ar .add .i64 s.j.j.j.e s.j.j.j.j.e)) 1)),s.j.j.j.j.j⟩⟩⟩⟩⟩))) (some (.out ⟨s.e,⟨s.j.e,⟨s.j.j.e,⟨s.j.j.j.e,s.j.j.j.j.j⟩⟩⟩⟩))
noncomputable def Jct[W](a:(U2×Int)):Option U1:=loop Jb1 ⟨a.1,⟨a.2,⟨(ln a.1),⟨0,⟨(ln a.1),⟨a.1,()⟩⟩⟩⟩⟩⟩ λv2=>br (cm .lss v2.j.j.j.e v2.j.j.e) (ge v2.e v2.j.j.j.e λv3=>call Yr ((v3.1,v2.j.e):(Int×Int)) λ(v4:Int)=>br (nt (cm .eql v4 0)) (some []) (ge v2.j.j.j.j.e v2.j.j.j.e λv5=>some v5.2)) (some [])
noncomputable def Zn:Ctr:=⟨63,[(.ag,(.ls (.p I (.ls (.p I I))))),(.one,I)],[(false,(.ls (.p I I)))],@Jct wv⟩
theorem Jts(w:W)(a):fnD (dW w) (V1 [(125,Yr)]) 8 63 Zn.as Zn.rs a=@Jct w a:=by kernel_rfl
theorem Juo:V3 Zn:=V2 (Jj Jrr Jx) (Ju (by kernel_rfl)) rfl rfl (Jts wv)
noncomputable def K2[W](a:U1):Option U1:=nq (ln a) λv0=>br v0 (some []) (gd (ft 16 (pl 0 (ln a)))<|some a)
noncomputable def Ko:Ctr:=⟨150,[(.one,(.ls (.p I I)))],[(false,(.ls (.p I I)))],@K2 wv⟩
theorem Jbb(w:W)(a):fnD (dW w) (V1 []) 8 150 Ko.as Ko.rs a=@K2 w a:=by kernel_rfl
theorem Jba:V3 Ko:=V2 Jx (Ju (by kernel_rfl)) rfl rfl (Jbb wv)
noncomputable def Jc0[W](s:(HP U1 Ua)):Option (Nx (HP U1 Ua) (Unit⊕Unit)):=br (cm .lss s.j.j.e (ln s.e)) (ge s.e s.j.j.e λv0=>br (cm .leq v0.1 s.j.e) (ge s.e s.j.j.e λv1=>br (cm .lss s.j.e v1.2) (some (.out (.inl ()))) (some (.go ⟨s.e,⟨s.j.e,⟨(ar .add .i64 s.j.j.e 1),()⟩⟩⟩))) (some (.go ⟨s.e,⟨s.j.e,⟨(ar .add .i64 s.j.j.e 1),()⟩⟩⟩))) (some (.out (.inr ())))
noncomputable def Je2[W](a:(U1×Int)):Option Bool:=loop Jc0 ⟨a.1,⟨a.2,⟨0,()⟩⟩⟩ λv2=>match v2 with|.inl v3=>(some true)|.inr v4=>(some false)
noncomputable def Je6:Ctr:=⟨164,[(.one,(.ls (.p I I))),(.one,I)],[(false,.bool)],@Je2 wv⟩
noncomputable def Je4[W](s:U7):Option (Nx U7 (Uc⊕Unit)):=br (cm .lss s.j.e (ln s.j.j.e)) (ge s.j.j.e s.j.e λv0=>br (cm .eql v0.1 s.e) (ge s.j.j.e s.j.e λv1=>some (.out (.inl ⟨v1.2,()⟩))) (some (.go ⟨s.e,⟨(ar .add .i64 s.j.e 1),s.j.j⟩⟩))) (some (.out (.inr ())))
noncomputable def Jhh[W](a:(U2×Int)):Option U1:=loop Je4 ⟨a.2,⟨0,⟨a.1,()⟩⟩⟩ λv2=>match v2 with|.inl v3=>(some v3.e)|.inr v4=>(some [])
noncomputable def Jhg:Ctr:=⟨165,[(.ag,(.ls (.p I (.ls (.p I I))))),(.one,I)],[(false,(.ls (.p I I)))],@Jhh wv⟩
noncomputable def Jdj[W](a:(U2×(Int×Int))):Option Bool:=call Kl (a.1:U2) λ(v0:Bool)=>br v0 (call Jhg ((a.1,a.2.2):(U2×Int)) λ(v1:U1)=>call Je6 ((v1,a.2.1):(U1×Int)) λ(v2:Bool)=>some v2) (some false)
noncomputable def Jdp:Ctr:=⟨116,[(.ag,(.ls (.p I (.ls (.p I I))))),(.ag,(.p I I))],[(false,.bool)],@Jdj wv⟩
noncomputable def Q6[W](s:Ud):Option (Nx Ud (Unit⊕Unit)):=br (cm .lss s.j.e s.e) (ge s.j.j.j.j.e s.j.e λv0=>ge s.j.j.j.j.j.j.j.e s.j.e λv1=>br (nt (an (cm .eql v0.1 v1.1) (cm .eql v0.2 v1.2))) (some (.out (.inl ()))) (some (.go ⟨s.e,⟨(ar .add .i64 s.j.e 1),s.j.j⟩⟩))) (some (.out (.inr ())))
noncomputable def Ye[W](a:((Int×(Bool×U1))×(Int×(Bool×U1)))):Option Bool:=br (cm .neq a.1.1 a.2.1) (some false) (br (nt (be a.1.2.1 a.2.2.1)) (some false) (br (cm .neq (ln a.1.2.2) (ln a.2.2.2)) (some false) (loop Q6 ⟨(ln a.1.2.2),⟨0,⟨a.1.1,⟨a.1.2.1,⟨a.1.2.2,⟨a.2.1,⟨a.2.2.1,⟨a.2.2.2,()⟩⟩⟩⟩⟩⟩⟩⟩ λv2=>match v2 with|.inl v3=>(some false)|.inr v4=>(some true))))
noncomputable def Qf:Ctr:=⟨43,[(.ag,(.p I (.p .bool (.ls (.p I I))))),(.ag,(.p I (.p .bool (.ls (.p I I)))))],[(false,.bool)],@Ye wv⟩
theorem Jgs(w:W)(a):fnD (dW w) (V1 []) 8 43 Qf.as Qf.rs a=@Ye w a:=by kernel_rfl
theorem Jgr:V3 Qf:=V2 Jx (Ju (by kernel_rfl)) rfl rfl (Jgs wv)
noncomputable def Qh[W](s:(HP U8 (HP U8 Ua))):Option (Nx (HP U8 (HP U8 Ua)) (Unit⊕Unit)):=br (cm .lss s.j.j.j.e s.j.j.e) (ge s.e s.j.j.j.e λv0=>ge s.j.e s.j.j.j.e λv1=>call Qf (((v0.1,(v0.2.1,v0.2.2)),(v1.1,(v1.2.1,v1.2.2))):((Int×(Bool×U1))×(Int×(Bool×U1)))) λ(v2:Bool)=>br (nt v2) (some (.out (.inl ()))) (some (.go ⟨s.e,⟨s.j.e,⟨s.j.j.e,⟨(ar .add .i64 s.j.j.j.e 1),()⟩⟩⟩⟩))) (some (.out (.inr ())))
noncomputable def Q9[W](a:(U8×U8)):Option Bool:=br (cm .neq (ln a.1) (ln a.2)) (some false) (loop Qh ⟨a.1,⟨a.2,⟨(ln a.1),⟨0,()⟩⟩⟩⟩ λv3=>match v3 with|.inl v4=>(some false)|.inr v5=>(some true))
noncomputable def Kz:Ctr:=⟨13,[(.one,(.ls (.p I (.p .bool (.ls (.p I I)))))),(.one,(.ls (.p I (.p .bool (.ls (.p I I))))))],[(false,.bool)],@Q9 wv⟩
theorem Jem(w:W)(a):fnD (dW w) (V1 [(43,Qf)]) 8 13 Kz.as Kz.rs a=@Q9 w a:=by kernel_rfl
theorem Jd5:V3 Kz:=V2 (Jj Jgr Jx) (Ju (by kernel_rfl)) rfl rfl (Jem wv)
end Go.Proofs.YtmfagdfkpjgeiaaGreat
