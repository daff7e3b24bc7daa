/- The typed texts of functions, and that they are right. Conditions: none. -/
import Derived.Test.YtmfagdfkpjgeiaaGreatXC
import Derived.Test.YtmfagdfkpjgeiaaGreatFB
import Derived.Test.YtmfagdfkpjgeiaaGreatTT
import Derived.Test.YtmfagdfkpjgeiaaGreatFD
import Derived.Test.YtmfagdfkpjgeiaaGreatFC
open Option renaming some -> AC, none -> AD
open Bool renaming true -> AE, false -> AF
open _root_ renaming List -> AG, Option -> AH, Int -> AI, Bool -> AN, Nat -> AM, if_pos -> AS, decide_eq_true -> AW, decide_eq_false -> B0, if_neg -> AR
set_option linter.unusedVariables false
set_option linter.unusedSimpArgs false
set_option maxRecDepth 100000
open Int renaming mul_le_mul_of_nonneg_right → Aa, le_ediv_iff_mul_le → Ac, ediv_lt_of_lt_mul → Ae, emod_emod_of_dvd → Ag
open List renaming getElem?_eq_getElem → Ab
open Nat renaming le_refl → Ad
open Classical renaming not_forall → Af
namespace Go.Proofs.YtmfagdfkpjgeiaaGreat
open Go Go.Vv Go.Dn Go.Dn.W
abbrev Ut:=AG (AI×AI)
abbrev Uu:=AG (AI×(AN×Ut))
abbrev Uv:=AG (AI×Ut)
abbrev Uw:=HP Ut Unit
abbrev Uy:=HP AI (HP AI Uw)
abbrev Uz:=HP AI (HP Ut (HP Uu Uw))
abbrev Ga:=HP AI (HP AI (HP Uv (HP AI (HP AI (HP Ut (HP AI (HP AI (HP Uu (HP AI Uw)))))))))
abbrev Gd:=HP Uv (HP AI (HP AI (HP Ut (HP AI (HP AI Uz)))))
abbrev Ge:=HP AI (HP AI (HP Uv (HP AI (HP Ut (HP Uv Uw)))))
abbrev Gf:=HP AI (HP Uv (HP AI (HP AI (HP Ut (HP Ut Uz)))))
abbrev Gg:=HP Uv (HP AI (HP AI (HP Ut (HP AI (HP AI (HP AI (HP Ut Uw)))))))
abbrev Gi:=HP AI (HP Uv (HP Uv Unit))
abbrev Gj:=HP AI (HP AI (HP Uv (HP AI (HP AI (HP Ut (HP AI (HP AI (HP AI (HP AI (HP AI (HP Ut (HP Uu (HP Ut Uw)))))))))))))
abbrev Gk:=HP AI (HP AI (HP AI (HP Uv (HP AI (HP AI (HP AI (HP AI (HP Ut (HP AI (HP Ut (HP Uu (HP Ut Uw))))))))))))
abbrev Gl:=HP Uu Unit
abbrev G0:=HP AI (HP AI (HP Uv (HP AI (HP AI Gl))))
abbrev Gb:=HP Uv (HP AI (HP AI (HP Uv Gl)))
abbrev Gn:=HP Uv (HP AI (HP AI (HP Uu Uw)))
abbrev Gp:=HP AI (HP Uv (HP AI (HP Ut (HP Ut (HP Uv Unit)))))
abbrev Gr:=HP AI Unit
abbrev Gc:=HP AI Gr
abbrev Gs:=HP AI (HP AI (HP Ut Uz))
abbrev Gt:=HP AI (HP AI (HP Uv Uy))
abbrev Gu:=HP Ut (HP AI (HP AI (HP Uv (HP AI Uy))))
abbrev Gv:=HP Ut Uy
abbrev Gm:=HP AI (HP Uv (HP AI (HP AI (HP Ut (HP AI (HP AI (HP AI Gv)))))))
abbrev Gq:=HP AI (HP AI (HP Uv (HP AI (HP AI Gv))))
abbrev Gw:=HP AI (HP AI (HP AI (HP Uu Gb)))
abbrev Gx:=HP AI (HP AI (HP Uv (HP AI Uz)))
abbrev Gy:=HP Uu Gl
abbrev Ux:=HP AI (HP AI (HP AI Gy))
abbrev Gz:=HP AI (HP Uv (HP AI Gi))
noncomputable def Qc[W](s:Ge):AH (Nx Ge Gp):=br (cm .lss s.j.e (ln s.j.j.j.j.e)) (ge s.j.j.j.j.e s.j.e λv1=>br (cm .lss v1.1 v1.2) (br (cm .gtr v1.1 (-4097)) (br (cm .lss v1.2 4097) (br (cm .gtr (ar .sub .i64 v1.2 20) v1.1) (gd (ft 16 (pl (ln s.j.j.j.j.j.j.e) 1))<|some (.go ⟨s.e,(ar .add .i64 s.j.e 1),s.j.j.e,s.j.j.j.e,s.j.j.j.j.e,s.j.j.j.j.j.e,(ap s.j.j.j.j.j.j.e ((v1.1,(ar .add .i64 v1.1 20))::[])),()⟩)) (gd (ft 16 (pl (ln s.j.j.j.j.j.j.e) 1))<|some (.go ⟨s.e,(ar .add .i64 s.j.e 1),s.j.j.e,s.j.j.j.e,s.j.j.j.j.e,s.j.j.j.j.j.e,(ap s.j.j.j.j.j.j.e ((v1.1,v1.2)::[])),()⟩))) (gd (ft 16 (pl (ln s.j.j.j.j.j.j.e) 1))<|some (.go ⟨s.e,(ar .add .i64 s.j.e 1),s.j.j.e,s.j.j.j.e,s.j.j.j.j.e,s.j.j.j.j.j.e,(ap s.j.j.j.j.j.j.e ((v1.1,v1.2)::[])),()⟩))) (gd (ft 16 (pl (ln s.j.j.j.j.j.j.e) 1))<|some (.go ⟨s.e,(ar .add .i64 s.j.e 1),s.j.j.e,s.j.j.j.e,s.j.j.j.j.e,s.j.j.j.j.j.e,(ap s.j.j.j.j.j.j.e ((v1.1,v1.2)::[])),()⟩))) (gd (ft 16 (pl (ln s.j.j.j.j.j.j.e) 1))<|some (.go ⟨s.e,(ar .add .i64 s.j.e 1),s.j.j.e,s.j.j.j.e,s.j.j.j.j.e,s.j.j.j.j.j.e,(ap s.j.j.j.j.j.j.e ((v1.1,v1.2)::[])),()⟩))) (AC (.out ⟨s.e,s.j.j.e,s.j.j.j.e,s.j.j.j.j.e,s.j.j.j.j.j.j.e,s.j.j.j.j.j.e,()⟩))
noncomputable def Jb5[W](s:Ge):AH (Nx Ge Gp):=br (cm .lss s.j.e (ln s.j.j.j.j.e)) (ge s.j.j.j.j.e s.j.e λv3=>br (cm .lss v3.1 v3.2) (br (cm .gtr v3.1 (-4097)) (br (cm .lss v3.2 4097) (br (cm .gtr (ar .sub .i64 v3.2 20) v3.1) (gd (ft 16 (pl (ln s.j.j.j.j.j.j.e) 1))<|some (.go ⟨s.e,(ar .add .i64 s.j.e 1),s.j.j.e,s.j.j.j.e,s.j.j.j.j.e,s.j.j.j.j.j.e,(ap s.j.j.j.j.j.j.e ((v3.1,(ar .add .i64 v3.1 20))::[])),()⟩)) (gd (ft 16 (pl (ln s.j.j.j.j.j.j.e) 1))<|some (.go ⟨s.e,(ar .add .i64 s.j.e 1),s.j.j.e,s.j.j.j.e,s.j.j.j.j.e,s.j.j.j.j.j.e,(ap s.j.j.j.j.j.j.e ((v3.1,v3.2)::[])),()⟩))) (gd (ft 16 (pl (ln s.j.j.j.j.j.j.e) 1))<|some (.go ⟨s.e,(ar .add .i64 s.j.e 1),s.j.j.e,s.j.j.j.e,s.j.j.j.j.e,s.j.j.j.j.j.e,(ap s.j.j.j.j.j.j.e ((v3.1,v3.2)::[])),()⟩))) (gd (ft 16 (pl (ln s.j.j.j.j.j.j.e) 1))<|some (.go ⟨s.e,(ar .add .i64 s.j.e 1),s.j.j.e,s.j.j.j.e,s.j.j.j.j.e,s.j.j.j.j.j.e,(ap s.j.j.j.j.j.j.e ((v3.1,v3.2)::[])),()⟩))) (gd (ft 16 (pl (ln s.j.j.j.j.j.j.e) 1))<|some (.go ⟨s.e,(ar .add .i64 s.j.e 1),s.j.j.e,s.j.j.j.e,s.j.j.j.j.e,s.j.j.j.j.j.e,(ap s.j.j.j.j.j.j.e ((v3.1,v3.2)::[])),()⟩))) (AC (.out ⟨s.e,s.j.j.e,s.j.j.j.e,s.j.j.j.j.e,s.j.j.j.j.j.j.e,s.j.j.j.j.j.e,()⟩))
noncomputable def X9[W](s:Gi):AH (Nx Gi (HP Uv Unit)):=br (cm .lss s.e (ln s.j.e)) (br (cm .lss s.e 12) (ge s.j.e s.e λv0=>br (cm .gtr (ln v0.2) 4) (gd (le 0 4)<|gd (le 4 (ln v0.2))<|loop Qc ⟨s.e,0,s.j.e,v0.1,(ct v0.2 0 4),s.j.j.e,[],()⟩ λv2=>gd (ft 32 (pl (ln v2.j.j.j.j.j.e) 1))<|some (.go ⟨(ar .add .i64 v2.e 1),v2.j.e,(ap v2.j.j.j.j.j.e ((v2.j.j.e,v2.j.j.j.j.e)::[])),()⟩)) (loop Jb5 ⟨s.e,0,s.j.e,v0.1,v0.2,s.j.j.e,[],()⟩ λv4=>gd (ft 32 (pl (ln v4.j.j.j.j.j.e) 1))<|some (.go ⟨(ar .add .i64 v4.e 1),v4.j.e,(ap v4.j.j.j.j.j.e ((v4.j.j.e,v4.j.j.j.j.e)::[])),()⟩))) (AC (.out s.j.j))) (AC (.out s.j.j))
noncomputable def Zk[W](a:Uv):AH Uv:=loop X9 ⟨0,a,[],()⟩ λv5=>AC v5.e
noncomputable def Xa:BQ:=⟨12,[(.ag,(.ls (.p I (.ls (.p I I)))))],[(AE,(.ls (.p I (.ls (.p I I)))))],@Zk wv⟩
theorem Jj4(w:W)(a):Cv (dW w) (V1 []) 8 12 Xa.as Xa.rs a=@Zk w a:=by kernel_rfl
theorem Jjx:V3 Xa:=V2 Jo (Jn (by kernel_rfl)) rfl rfl rfl rfl (Jj4 wv)
noncomputable def Jcq[W](a:AI):AH AN:=br (cm .geq a 1) (AC (cm .leq a 64)) (AC AF)
noncomputable def Kf:BQ:=⟨44,[(.one,I)],[(AF,.bool)],@Jcq wv⟩
theorem Jrs(w:W)(a):Cv (dW w) (V1 []) 8 44 Kf.as Kf.rs a=@Jcq w a:=by kernel_rfl
theorem vC:V3 Kf:=V2 Jo (Jn (by kernel_rfl)) rfl rfl rfl rfl (Jrs wv)
noncomputable def zq[W](s:Gm):AH (Nx Gm Gg):=br (cm .lss s.e s.j.j.j.j.j.j.j.j.j.j.e) (gd (ft 16 (pl (ln s.j.j.j.j.j.j.j.j.j.j.j.e) 1))<|some (.go ⟨(ar .add .i64 s.e 1),s.j.e,s.j.j.e,s.j.j.j.e,s.j.j.j.j.e,s.j.j.j.j.j.e,s.j.j.j.j.j.j.e,s.j.j.j.j.j.j.j.e,s.j.j.j.j.j.j.j.j.e,s.j.j.j.j.j.j.j.j.j.e,s.j.j.j.j.j.j.j.j.j.j.e,(ap s.j.j.j.j.j.j.j.j.j.j.j.e ((s.e,s.j.j.j.j.j.j.j.e)::[])),()⟩)) (AC (.out ⟨s.j.e,s.j.j.e,s.j.j.j.e,s.j.j.j.j.e,s.j.j.j.j.j.e,s.j.j.j.j.j.j.e,s.j.j.j.j.j.j.j.e,s.j.j.j.j.j.j.j.j.e,s.j.j.j.j.j.j.j.j.j.j.j⟩))
noncomputable def zx[W](s:Gg):AH (Nx Gg (HP Uv Uy)):=br (cm .lss s.j.j.j.j.j.e s.j.j.j.j.e) (ge s.j.j.j.e s.j.j.j.j.j.e λv2=>loop zq ⟨v2.1,s.e,s.j.e,s.j.j.e,s.j.j.j.e,s.j.j.j.j.e,s.j.j.j.j.j.e,s.j.j.j.j.j.j.e,s.j.j.j.j.j.j.j.e,v2.1,v2.2,s.j.j.j.j.j.j.j.j⟩ λv3=>AC (.go ⟨v3.e,v3.j.e,v3.j.j.e,v3.j.j.j.e,v3.j.j.j.j.e,(ar .add .i64 v3.j.j.j.j.j.e 1),v3.j.j.j.j.j.j⟩)) (AC (.out ⟨s.e,s.j.e,s.j.j.e,s.j.j.j.j.j.j.j.j⟩))
noncomputable def zn[W](s:(HP Uv Uy)):AH (Nx (HP Uv Uy) Uw):=br (cm .lss s.j.j.e s.j.e) (ge s.e s.j.j.e λv1=>loop zx ⟨s.e,s.j.e,s.j.j.e,v1.2,(ln v1.2),0,v1.1,v1.2,s.j.j.j⟩ λv4=>AC (.go ⟨v4.e,v4.j.e,(ar .add .i64 v4.j.j.e 1),v4.j.j.j⟩)) (AC (.out s.j.j.j))
noncomputable def Jcj[W](a:Uv):AH Ut:=call Je (a:Uv) λ(v0:AN)=>br (nt v0) (AC []) (loop zn ⟨a,(ln a),0,[],()⟩ λv5=>AC v5.e)
noncomputable def Qe:BQ:=⟨95,[(.ag,(.ls (.p I (.ls (.p I I)))))],[(AF,(.ls (.p I I)))],@Jcj wv⟩
theorem Jrl(w:W)(a):Cv (dW w) (V1 [(23,Je)]) 8 95 Qe.as Qe.rs a=@Jcj w a:=by kernel_rfl
theorem Jfk:V3 Qe:=V2 (Jc Ks Jo) (Jn (by kernel_rfl)) rfl rfl rfl rfl (Jrl wv)
noncomputable def zK[W](a:(AI×AI)):AH AI:=gd (cm .neq a.2 0)<|gd (cm .neq a.2 0)<|some (ar .rem .i64 (ar .add .i64 (ar .rem .i64 a.1 a.2) a.2) a.2)
noncomputable def Kb:BQ:=⟨96,[(.one,I),(.one,I)],[(AF,I)],@zK wv⟩
theorem Jyx(w:W)(a):Cv (dW w) (V1 []) 8 96 Kb.as Kb.rs a=@zK w a:=by kernel_rfl
theorem ny:V3 Kb:=V2 Jo (Jn (by kernel_rfl)) rfl rfl rfl rfl (Jyx wv)
noncomputable def zI[W](a:(AI×AI)):AH AI:=call Kb ((a.1,a.2):(AI×AI)) λ(v0:AI)=>gd (cm .neq a.2 0)<|some (ar .quo .i64 (ar .sub .i64 a.1 v0) a.2)
noncomputable def jl:BQ:=⟨99,[(.one,I),(.one,I)],[(AF,I)],@zI wv⟩
theorem Jze(w:W)(a):Cv (dW w) (V1 [(96,Kb)]) 8 99 jl.as jl.rs a=@zI w a:=by kernel_rfl
theorem Jya:V3 jl:=V2 (Jc ny Jo) (Jn (by kernel_rfl)) rfl rfl rfl rfl (Jze wv)
noncomputable def Qx[W](a:((AI×AI)×((AI×AI)×AI))):AH AI:=call jl (((ar .add .i64 a.1.1 a.1.2),a.2.2):(AI×AI)) λ(v0:AI)=>call jl (((ar .add .i64 a.2.1.1 a.2.1.2),a.2.2):(AI×AI)) λ(v1:AI)=>br (cm .neq v0 v1) (AC (ar .sub .i64 v0 v1)) (br (cm .neq a.1.1 a.2.1.1) (AC (ar .sub .i64 a.1.1 a.2.1.1)) (AC (ar .sub .i64 a.2.1.2 a.1.2)))
noncomputable def Jgn:BQ:=⟨98,[(.ag,(.p I I)),(.ag,(.p I I)),(.rp,I)],[(AF,I)],@Qx wv⟩
theorem Jgg(w:W)(a):Cv (dW w) (V1 [(99,jl)]) 8 98 Jgn.as Jgn.rs a=@Qx w a:=by kernel_rfl
theorem Jgm:V3 Jgn:=V2 (Jc Jya Jo) (Jn (by kernel_rfl)) rfl rfl rfl rfl (Jgg wv)
noncomputable def Y0[W](a:((Uv×(AI×AI))×(AI×AI))):AH (AI×AI):=call Kb (((ar .add .i64 a.2.1 a.2.2),(ar .mul .i64 2 a.1.2.1)):(AI×AI)) λ(v0:AI)=>br (cm .eql v0 0) (AC ((ar .add .i64 a.2.1 1),a.2.2)) (AC (a.2.1,(ar .sub .i64 a.2.2 1)))
noncomputable def Q1:BQ:=⟨100,[(.ag,(.p (.ls (.p I (.ls (.p I I)))) (.p I I))),(.ag,(.p I I))],[(AE,(.p I I))],@Y0 wv⟩
theorem Jjg(w:W)(a):Cv (dW w) (V1 [(96,Kb)]) 8 100 Q1.as Q1.rs a=@Y0 w a:=by kernel_rfl
theorem Jjf:V3 Q1:=V2 (Jc ny Jo) (Jn (by kernel_rfl)) rfl rfl rfl rfl (Jjg wv)
noncomputable def zM[W](a:(AI×(AI×AI))):AH AN:=call Kb ((a.1,a.2.1):(AI×AI)) λ(v0:AI)=>call Kb ((a.2.2,a.2.1):(AI×AI)) λ(v1:AI)=>AC (cm .eql v0 v1)
noncomputable def Qp:BQ:=⟨119,[(.one,I),(.one,I),(.one,I)],[(AF,.bool)],@zM wv⟩
theorem Jxe(w:W)(a):Cv (dW w) (V1 [(96,Kb)]) 8 119 Qp.as Qp.rs a=@zM w a:=by kernel_rfl
theorem zP:V3 Qp:=V2 (Jc ny Jo) (Jn (by kernel_rfl)) rfl rfl rfl rfl (Jxe wv)
noncomputable def Jbs[W](s:(HP AI (HP AI Uy))):AH (Nx (HP AI (HP AI Uy)) Uw):=br (cm .lss s.j.e s.j.j.j.e) (gd (ft 16 (pl (ln s.j.j.j.j.e) 1))<|some (.go ⟨s.e,(ar .add .i64 s.j.e 1),s.j.j.e,s.j.j.j.e,(ap s.j.j.j.j.e ((s.j.e,s.e)::[])),()⟩)) (AC (.out s.j.j.j.j))
noncomputable def zF[W](a:(AI×(AI×AI))):AH Ut:=loop Jbs ⟨a.1,a.2.1,a.2.1,a.2.2,[],()⟩ λv0=>AC v0.e
noncomputable def Ql:BQ:=⟨103,[(.one,I),(.ag,(.p I I))],[(AF,(.ls (.p I I)))],@zF wv⟩
theorem Jxr(w:W)(a):Cv (dW w) (V1 []) 8 103 Ql.as Ql.rs a=@zF w a:=by kernel_rfl
theorem zG:V3 Ql:=V2 Jo (Jn (by kernel_rfl)) rfl rfl rfl rfl (Jxr wv)
noncomputable def Jby[W](s:Ga):AH (Nx Ga G0):=br (cm .lss s.j.j.j.j.j.j.j.e s.j.j.j.j.j.j.e) (ge s.j.j.j.j.j.e s.j.j.j.j.j.j.j.e λv4=>call Ql ((s.j.j.j.j.j.j.j.j.j.e,(v4.1,v4.2)):(AI×(AI×AI))) λ(v5:Ut)=>gd (ft 40 (pl (ln s.j.j.j.j.j.j.j.j.e) 1))<|some (.go ⟨s.e,s.j.e,s.j.j.e,s.j.j.j.e,s.j.j.j.j.e,s.j.j.j.j.j.e,s.j.j.j.j.j.j.e,(ar .add .i64 s.j.j.j.j.j.j.j.e 1),(ap s.j.j.j.j.j.j.j.j.e ((4,(AF,v5))::[])),s.j.j.j.j.j.j.j.j.j⟩)) (AC (.out ⟨s.e,s.j.e,s.j.j.e,s.j.j.j.e,s.j.j.j.j.e,s.j.j.j.j.j.j.j.j.e,()⟩))
noncomputable def jo[W](s:G0):AH (Nx G0 Gl):=br (cm .lss s.j.j.j.j.e s.j.j.j.e) (ge s.j.j.e s.j.j.j.j.e λv2=>call Qp ((v2.1,(s.e,s.j.e)):(AI×(AI×AI))) λ(v3:AN)=>br (nt v3) (AC (.go ⟨s.e,s.j.e,s.j.j.e,s.j.j.j.e,(ar .add .i64 s.j.j.j.j.e 1),s.j.j.j.j.j⟩)) (loop Jby ⟨s.e,s.j.e,s.j.j.e,s.j.j.j.e,s.j.j.j.j.e,v2.2,(ln v2.2),0,s.j.j.j.j.j.e,v2.1,v2.2,()⟩ λa=>AC (.go ⟨a.e,a.j.e,a.j.j.e,a.j.j.j.e,(ar .add .i64 a.j.j.j.j.e 1),a.j.j.j.j.j⟩))) (AC (.out s.j.j.j.j.j))
noncomputable def Ys[W](a:(Uv×(AI×AI))):AH Uu:=call Je (a.1:Uv) λ(v0:AN)=>br (nt v0) (AC []) (call Kf (a.2.1:AI) λ(v1:AN)=>br (nt v1) (AC []) (loop jo ⟨a.2.1,a.2.2,a.1,(ln a.1),0,[],()⟩ λd=>AC d.e))
noncomputable def jr:BQ:=⟨59,[(.ag,(.ls (.p I (.ls (.p I I))))),(.one,I),(.one,I)],[(AF,(.ls (.p I (.p .bool (.ls (.p I I))))))],@Ys wv⟩
noncomputable def Jio:KP:=⟨59,[(.ag,(.ls (.p I (.ls (.p I I))))),(.one,I),(.one,I)],39,(.p I (.p .bool (.ls (.p I I)))),@Ys wv⟩
theorem Jv3(w:W)(a):M9 (dW w) (V1 [(103,Ql),(119,Qp),(23,Je),(44,Kf)]) 8 59 [(.ag,(.ls (.p I (.ls (.p I I))))),(.one,I),(.one,I)] (.p I (.p .bool (.ls (.p I I)))) 39 a=@Ys w a:=by kernel_rfl
theorem Jlk:Mq PG Jio:=own (Eh [(103,Ql),(119,Qp),(23,Je),(44,Kf)]) [] [] [] [] [] [] 8 (Jc zG (Jc zP (Jc Ks (Jc vC Jo)))) Jz Jy (Jn (by kernel_rfl)) rfl (by decide) rfl (Jv3 wv)
theorem Jxa(w:W)(a):Cv (dW w) (V1 [(103,Ql),(119,Qp),(23,Je),(44,Kf)]) 8 59 jr.as jr.rs a=@Ys w a:=by kernel_rfl
theorem Jhz:V3 jr:=V2 (Jc zG (Jc zP (Jc Ks (Jc vC Jo)))) (Jn (by kernel_rfl)) rfl rfl rfl rfl (Jxa wv)
noncomputable def Jbn[W](s:Gv):AH (Nx Gv Uw):=br (cm .lss s.j.j.e s.j.e) (ge s.e s.j.j.e λv0=>gd (ib s.j.j.e (ln s.j.j.j.e))<|ge s.j.j.j.e s.j.j.e λv1=>AC (.go ⟨s.e,s.j.e,(ar .add .i64 s.j.j.e 1),(st s.j.j.j.e s.j.j.e (v0.2,v0.1)),()⟩)) (AC (.out s.j.j.j))
noncomputable def zJ[W](a:Ut):AH Ut:=gd (le 0 (ln a))<|gd (ft 16 (ln a))<|loop Jbn ⟨a,(ln a),0,(rp (0,0) (ln a)),()⟩ λv2=>AC v2.e
noncomputable def Yr:BQ:=⟨120,[(.one,(.ls (.p I I)))],[(AF,(.ls (.p I I)))],@zJ wv⟩
theorem Jx4(w:W)(a):Cv (dW w) (V1 []) 8 120 Yr.as Yr.rs a=@zJ w a:=by kernel_rfl
theorem Jnv:V3 Yr:=V2 Jo (Jn (by kernel_rfl)) rfl rfl rfl rfl (Jx4 wv)
noncomputable def Je4[W](s:Gc):AH (Nx Gc Unit):=br (cm .lss s.j.e s.e) (AD) (AC (.out ()))
noncomputable def Jex[W](s:Gc):AH (Nx Gc Unit):=br (cm .lss s.j.e s.e) (AD) (AC (.out ()))
noncomputable def Jla[W](s:Ga):AH (Nx Ga G0):=br (cm .lss s.j.j.j.j.j.j.j.e s.j.j.j.j.j.j.e) (ge s.j.j.j.j.j.e s.j.j.j.j.j.j.j.e λv9=>call Ql ((s.j.j.j.j.j.j.j.j.j.e,(v9.1,v9.2)):(AI×(AI×AI))) λ(v10:Ut)=>gd (ft 40 (pl (ln s.j.j.j.j.j.j.j.j.e) 1))<|some (.go ⟨s.e,s.j.e,s.j.j.e,s.j.j.j.e,s.j.j.j.j.e,s.j.j.j.j.j.e,s.j.j.j.j.j.j.e,(ar .add .i64 s.j.j.j.j.j.j.j.e 1),(ap s.j.j.j.j.j.j.j.j.e ((4,(AF,v10))::[])),s.j.j.j.j.j.j.j.j.j⟩)) (AC (.out ⟨s.e,s.j.e,s.j.j.e,s.j.j.j.e,s.j.j.j.j.e,s.j.j.j.j.j.j.j.j.e,()⟩))
noncomputable def Jbx[W](s:G0):AH (Nx G0 Gl):=br (cm .lss s.j.j.j.j.e s.j.j.j.e) (ge s.j.j.e s.j.j.j.j.e λa=>call Qp ((a.1,(s.e,s.j.e)):(AI×(AI×AI))) λ(d:AN)=>br (nt d) (AC (.go ⟨s.e,s.j.e,s.j.j.e,s.j.j.j.e,(ar .add .i64 s.j.j.j.j.e 1),s.j.j.j.j.j⟩)) (loop Jla ⟨s.e,s.j.e,s.j.j.e,s.j.j.j.e,s.j.j.j.j.e,a.2,(ln a.2),0,s.j.j.j.j.j.e,a.1,a.2,()⟩ λv11=>AC (.go ⟨v11.e,v11.j.e,v11.j.j.e,v11.j.j.j.e,(ar .add .i64 v11.j.j.j.j.e 1),v11.j.j.j.j.j⟩))) (AC (.out s.j.j.j.j.j))
noncomputable def Yt[W](s:(HP AI (HP AI Gl))):AH (Nx (HP AI (HP AI Gl)) Gl):=br (cm .lss s.j.e s.e) (gd (ib s.j.e (ln s.j.j.e))<|ge s.j.j.e s.j.e λv13=>call Yr (v13.2.2:Ut) λ(v14:Ut)=>gd (ib s.j.e (ln s.j.j.e))<|ge s.j.j.e s.j.e λv15=>AC (.go ⟨s.e,(ar .add .i64 s.j.e 1),(st s.j.j.e s.j.e (v15.1,(v15.2.1,v14))),()⟩)) (AC (.out s.j.j))
noncomputable def Xw[W](a:(Uv×(AI×AI))):AH Uu:=call Qe (a.1:Uv) λ(v0:Ut)=>call Yr (v0:Ut) λ(v1:Ut)=>call Qw (v1:Ut) λ(v2:(Uv×AI))=>br (cm .neq v2.2 0) (AC []) (call Je (v2.1:Uv) λ(v3:AN)=>br (nt v3) (loop Je4 ⟨0,0,()⟩ λv4=>AC []) (call Kf (a.2.1:AI) λ(v5:AN)=>br (nt v5) (loop Jex ⟨0,0,()⟩ λd=>AC []) (loop Jbx ⟨a.2.1,a.2.2,v2.1,(ln v2.1),0,[],()⟩ λv12=>loop Yt ⟨(ln v12.e),0,v12⟩ λv16=>AC v16.e)))
noncomputable def Qd:BQ:=⟨60,[(.ag,(.ls (.p I (.ls (.p I I))))),(.one,I),(.one,I)],[(AF,(.ls (.p I (.p .bool (.ls (.p I I))))))],@Xw wv⟩
noncomputable def Jd3:KP:=⟨60,[(.ag,(.ls (.p I (.ls (.p I I))))),(.one,I),(.one,I)],39,(.p I (.p .bool (.ls (.p I I)))),@Xw wv⟩
theorem Jn0(w:W)(a):M9 (dW w) (V1 [(103,Ql),(119,Qp),(120,Yr),(95,Qe),(64,Qw),(23,Je),(44,Kf)]) 8 60 [(.ag,(.ls (.p I (.ls (.p I I))))),(.one,I),(.one,I)] (.p I (.p .bool (.ls (.p I I)))) 39 a=@Xw w a:=by kernel_rfl
theorem Jny:Mq PG Jd3:=own (Eh [(103,Ql),(119,Qp),(120,Yr),(95,Qe),(64,Qw),(23,Je),(44,Kf)]) [] [] [] [] [] [] 8 (Jc zG (Jc zP (Jc Jnv (Jc Jfk (Jc yh (Jc Ks (Jc vC Jo))))))) Jz Jy (Jn (by kernel_rfl)) rfl (by decide) rfl (Jn0 wv)
theorem Jpo(w:W)(a):Cv (dW w) (V1 [(103,Ql),(119,Qp),(120,Yr),(95,Qe),(64,Qw),(23,Je),(44,Kf)]) 8 60 Qd.as Qd.rs a=@Xw w a:=by kernel_rfl
theorem Jho:V3 Qd:=V2 (Jc zG (Jc zP (Jc Jnv (Jc Jfk (Jc yh (Jc Ks (Jc vC Jo))))))) (Jn (by kernel_rfl)) rfl rfl rfl rfl (Jpo wv)
noncomputable def Jaq[W](s:(HP AI (HP Ut Gc))):AH (Nx (HP AI (HP Ut Gc)) Gr):=br (cm .lss s.j.j.j.e s.j.j.e) (ge s.j.e s.j.j.j.e λv1=>AC (.go ⟨(ar .add .i64 s.e (ar .sub .i64 v1.2 v1.1)),s.j.e,s.j.j.e,(ar .add .i64 s.j.j.j.e 1),()⟩)) (AC (.out ⟨s.e,()⟩))
noncomputable def zY[W](a:Ut):AH AI:=call J7 (a:Ut) λ(v0:AN)=>br (nt v0) (AC 0) (loop Jaq ⟨0,a,(ln a),0,()⟩ λv2=>AC v2.e)
noncomputable def nk:BQ:=⟨65,[(.one,(.ls (.p I I)))],[(AF,I)],@zY wv⟩
theorem Jvx(w:W)(a):Cv (dW w) (V1 [(68,J7)]) 8 65 nk.as nk.rs a=@zY w a:=by kernel_rfl
theorem Jt1:V3 nk:=V2 (Jc ug Jo) (Jn (by kernel_rfl)) rfl rfl rfl rfl (Jvx wv)
noncomputable def zg[W](s:(HP AI (HP Uv Gc))):AH (Nx (HP AI (HP Uv Gc)) Gr):=br (cm .lss s.j.j.j.e s.j.j.e) (ge s.j.e s.j.j.j.e λv1=>call nk (v1.2:Ut) λ(v2:AI)=>AC (.go ⟨(ar .add .i64 s.e v2),s.j.e,s.j.j.e,(ar .add .i64 s.j.j.j.e 1),()⟩)) (AC (.out ⟨s.e,()⟩))
noncomputable def vD[W](a:Uv):AH AI:=call Je (a:Uv) λ(v0:AN)=>br (nt v0) (AC 0) (loop zg ⟨0,a,(ln a),0,()⟩ λv3=>AC v3.e)
noncomputable def Zz:BQ:=⟨21,[(.ag,(.ls (.p I (.ls (.p I I)))))],[(AF,I)],@vD wv⟩
theorem Jrp(w:W)(a):Cv (dW w) (V1 [(65,nk),(23,Je)]) 8 21 Zz.as Zz.rs a=@vD w a:=by kernel_rfl
theorem Jrt:V3 Zz:=V2 (Jc Jt1 (Jc Ks Jo)) (Jn (by kernel_rfl)) rfl rfl rfl rfl (Jrp wv)
noncomputable def uh[W](a:((AI×AI)×(AI×AI))):AH AN:=AC (cm .eql (ar .add .i64 (ar .mul .i64 (ar .sub .i64 a.1.1 a.2.1) (ar .sub .i64 a.1.1 a.2.1)) (ar .mul .i64 (ar .sub .i64 a.1.2 a.2.2) (ar .sub .i64 a.1.2 a.2.2))) 1)
noncomputable def Xs:BQ:=⟨157,[(.ag,(.p I I)),(.ag,(.p I I))],[(AF,.bool)],@uh wv⟩
theorem Jy1(w:W)(a):Cv (dW w) (V1 []) 8 157 Xs.as Xs.rs a=@uh w a:=by kernel_rfl
theorem Jns:V3 Xs:=V2 Jo (Jn (by kernel_rfl)) rfl rfl rfl rfl (Jy1 wv)
noncomputable def zX[W](a:((AI×AI)×(AI×AI))):AH AI:=AC (ar .sub .i64 a.1.1 a.2.1)
noncomputable def Jt6:BQ:=⟨209,[(.ag,(.p I I)),(.ag,(.p I I))],[(AF,I)],@zX wv⟩
theorem Jvb(w:W)(a):Cv (dW w) (V1 []) 8 209 Jt6.as Jt6.rs a=@zX w a:=by kernel_rfl
theorem Jul:V3 Jt6:=V2 Jo (Jn (by kernel_rfl)) rfl rfl rfl rfl (Jvb wv)
noncomputable def uz[W](s:Gv):AH (Nx Gv Uw):=br (cm .lss s.j.j.e s.j.e) (ge s.e s.j.j.e λv0=>br (cm .geq (ar .sub .i64 (ln s.j.j.j.e) 1) 0) (gd (ib (ar .sub .i64 (ln s.j.j.j.e) 1) (ln s.j.j.j.e))<|ge s.j.j.j.e (ar .sub .i64 (ln s.j.j.j.e) 1) λv1=>br (cm .leq v0.1 v1.2) (gd (ib (ar .sub .i64 (ln s.j.j.j.e) 1) (ln s.j.j.j.e))<|ge s.j.j.j.e (ar .sub .i64 (ln s.j.j.j.e) 1) λv2=>gd (ib (ar .sub .i64 (ln s.j.j.j.e) 1) (ln s.j.j.j.e))<|ge s.j.j.j.e (ar .sub .i64 (ln s.j.j.j.e) 1) λv3=>AC (.go ⟨s.e,s.j.e,(ar .add .i64 s.j.j.e 1),(st s.j.j.j.e (ar .sub .i64 (ln s.j.j.j.e) 1) (v3.1,(mx v2.2 v0.2))),()⟩)) (gd (ft 16 (pl (ln s.j.j.j.e) 1))<|some (.go ⟨s.e,s.j.e,(ar .add .i64 s.j.j.e 1),(ap s.j.j.j.e ((v0.1,v0.2)::[])),()⟩))) (gd (ft 16 (pl (ln s.j.j.j.e) 1))<|some (.go ⟨s.e,s.j.e,(ar .add .i64 s.j.j.e 1),(ap s.j.j.j.e ((v0.1,v0.2)::[])),()⟩))) (AC (.out s.j.j.j))
noncomputable def uQ[W](a:Ut):AH Ut:=loop uz ⟨a,(ln a),0,[],()⟩ λv4=>AC v4.e
noncomputable def cK:BQ:=⟨210,[(.one,(.ls (.p I I)))],[(AF,(.ls (.p I I)))],@uQ wv⟩
theorem J0y(w:W)(a):Cv (dW w) (V1 []) 8 210 cK.as cK.rs a=@uQ w a:=by kernel_rfl
theorem J1d:V3 cK:=V2 Jo (Jn (by kernel_rfl)) rfl rfl rfl rfl (J0y wv)
end Go.Proofs.YtmfagdfkpjgeiaaGreat
namespace Go.Proofs.YtmfagdfkpjgeiaaGreat
open Go Go.Vv Go.Dn
def Lc(x y:AI×AI):AI:=IntKind.wrap .i64 (x.1 - y.1)
def aB(x:AI×AI):AN:=decide (-4611686018427387904<x.1/\x.1<4611686018427387904)
theorem bS{x y:AI×AI}(hx:aB x=AE)(a:aB y=AE):Lc x y<0↔x.1<y.1:=by
 simp only [aB,decide_eq_true_eq] at hx a;have:Lc x y=x.1 - y.1:=by simp only [Lc,IntKind.wrap,IntKind.bits,IntKind.signed];simp;omega
 rw [this];omega
theorem pF:Go.Sort.SWO (Go.Proofs.ltOf λx y:{x:AI×AI // aB x=AE}=>Lc x.1 y.1):=by
 refine ⟨λx=>?_,λx y z d a=>?_,λx y z d a=>?_⟩
 .simp only [Go.Proofs.ltOf,decide_eq_false_iff_not,bS x.2 x.2];omega
 .simp only [Go.Proofs.ltOf,decide_eq_true_eq,bS x.2 y.2,bS y.2 z.2,bS x.2 z.2] at *;omega
 .simp only [Go.Proofs.ltOf,decide_eq_false_iff_not,bS x.2 y.2,bS y.2 z.2,bS x.2 z.2] at *;omega
def qV(x y:AI×AI):AN:=x.1==y.1&&x.2==y.2
theorem gZ(x y:AI×AI)(h:qV x y=AE):x=y:=by simp only [qV,Bool.and_eq_true,beq_iff_eq] at h;exact Prod.ext h.1 h.2
def zR:{x:AI×AI // aB x=AE}:=⟨(0,0),by decide⟩
noncomputable def xD:GK:=⟨208,209,AE,.p I I,bV (t:=.p I I) Lc aB qV zR⟩
noncomputable def Jmi:BQ:=xD.ctr
theorem O8(x y:AI×AI):@zX wv (x,y)=AC (Lc x y):=rfl
theorem J53:DI PG xD:=
 Jxu (P:=PG) (ρ:=Tryz.Fw) (t:=.p I I) Tryz.Nz rfl (λw=>by kernel_rfl) (λw=>by kernel_rfl) (g:=209) (fn:=@zX wv) Jul Lc O8 aB pF qV gZ zR (by decide) (Jn (by kernel_rfl))
end Go.Proofs.YtmfagdfkpjgeiaaGreat
namespace Go.Dn
open Go Go.Vv Go.Dn.W
section words
variable {α β:Type}
theorem ET(c:AN)(x y:AH α):@W.br wv α c x y=if c=AE then x else y:=rfl
theorem w_gd(c:AN)(x:AH α):@W.gd wv α c x=if c=AE then x else AD:=rfl
theorem w_ge(l:AG β)(i:AI)(k:β->AH α):@W.ge wv α β l i k=Hz (Fb l i) k:=rfl
theorem dJ(c:BQ)(a:c.aT.T)(k:c.rT.T->AH α):@W.call wv α c a k=Hz (c.fn a) k:=rfl
theorem dH{A B:Type}(b:A->AH (Nx A B))(a:A)(k:B->AH α):@W.loop wv A B α b a k=Hz (Qm b CK a) k:=rfl
theorem dI{B:Type}(x:AH B)(k:B->AH α):@W.join wv B α x k=Hz x k:=rfl
theorem HV{B:Type}{x:AH B}{k:B->AH α}{e:B}(h:x=AC e):@W.join wv B α x k=k e:=by rw [dI,h];rfl
theorem AZ(l:AG α):@W.ln wv α l=(l.length:AI):=rfl
theorem BZ(a b:AI):@W.pl wv a b=a+b:=rfl
theorem w_ib(i n:AI):@W.ib wv i n=decide (0<=i/\i<n):=rfl
theorem Tp(a b:AI):@W.le wv a b=decide (a<=b):=rfl
theorem w_ft(b:AM)(n:AI):@W.ft wv b n=decide (n * b<=room/\n<=9223372036854775807):=rfl
theorem DL(l m:AG α):@W.ap wv α l m=l++m:=rfl
theorem oo(l:AG α)(a n:AI):@W.ct wv α l a n=(l.drop a.toNat).take n.toNat:=rfl
theorem FM(l:AG α)(i:AI)(x:α):@W.st wv α l i x=l.set i.toNat x:=rfl
theorem og(x:α)(n:AI):@W.rp wv α x n=List.replicate n.toNat x:=rfl
theorem Nc(l:AG α)(f:α->α):@W.ml wv α l f=Qf l f:=rfl
theorem dG(a b:AI):@W.mx wv a b=if b > a then b else a:=rfl
theorem om(a b:AI):@W.mn wv a b=if b<a then b else a:=rfl
theorem BO(a:AN):@W.nt wv a=!a:=rfl
theorem Nf(a b:AN):@W.an wv a b=(a&&b):=rfl
theorem oh(n:AI)(k:AN->AH α):@W.nq wv α n k=VU n k:=rfl
theorem J6(a b:AI):@W.ar wv .add .i64 a b=IntKind.wrap .i64 (a+b):=rfl
theorem Yc(a b:AI):@W.ar wv .sub .i64 a b=IntKind.wrap .i64 (a - b):=rfl
theorem vI(a b:AI):@W.ar wv .mul .i64 a b=IntKind.wrap .i64 (a * b):=rfl
theorem Nb(a b:AI):@W.ar wv .quo .i64 a b=IntKind.wrap .i64 (a.tdiv b):=rfl
theorem oO(a b:AI):@W.ar wv .rem .i64 a b=a.tmod b:=rfl
theorem Q3(a b:AI):@W.cm wv .eql a b=(a==b):=rfl
theorem TN(a b:AI):@W.cm wv .neq a b=(a != b):=rfl
theorem Sj(a b:AI):@W.cm wv .lss a b=decide (a<b):=rfl
theorem KY(a b:AI):@W.cm wv .leq a b=decide (a<=b):=rfl
theorem jm(a b:AI):@W.cm wv .gtr a b=decide (a > b):=rfl
theorem MR(a b:AI):@W.cm wv .geq a b=decide (a>=b):=rfl
theorem wr{n:AI}(h:-9223372036854775808<=n)(a:n<=9223372036854775807):IntKind.wrap .i64 n=n:=by rw [IntKind.wrap_i64,Int.emod_eq_of_lt]<;>omega
theorem fg{l:AG α}{i:AM}{x:α}(h:l[i]?=AC x):Fb l (i:AI)=AC x:=by unfold Fb;rw [AS (by omega),Int.toNat_natCast,h]
theorem TI{l:AG α}{i:AI}(j:AM){x:α}(e:i=j)(h:l[j]?=AC x):Fb l i=AC x:=by subst e;exact fg h
theorem lG{l:AG α}{x:α}(h:l[0]?=AC x):Fb l 0=AC x:=fg h
theorem BH{l:AG β}{i:AI}{k:β->AH α}{x:β}(h:Fb l i=AC x):@W.ge wv α β l i k=k x:=by rw [w_ge,h];rfl
theorem BM{c:BQ}{a:c.aT.T}{k:c.rT.T->AH α}{r:c.rT.T}(h:c.fn a=AC r):@W.call wv α c a k=k r:=by rw [dJ,h];rfl
theorem BN{A B:Type}{b:A->AH (Nx A B)}{a:A}{k:B->AH α}{e:B}(h:Qm b CK a=AC e):@W.loop wv A B α b a k=k e:=by rw [dH,h];rfl
theorem BF{c:AN}{x y:AH α}(h:c=AE):@W.br wv α c x y=x:=by rw [ET,AS h]
theorem BA{c:AN}{x y:AH α}(h:c=AF):@W.br wv α c x y=y:=by rw [ET,h];rfl
theorem Cy{c:AN}{x:AH α}(h:c=AE):@W.gd wv α c x=x:=by rw [w_gd,AS h]
theorem Ky{a b:AI}{x y:AH α}(h:a<b):@W.br wv α (@W.cm wv .lss a b) x y=x:=BF (by rw [Sj];exact AW h)
theorem J2{a b:AI}{x y:AH α}(h:¬a<b):@W.br wv α (@W.cm wv .lss a b) x y=y:=BA (by rw [Sj];exact B0 h)
theorem aN{b:AM}{n:AI}{x:AH α}(h:n * b<=room/\n<=9223372036854775807):@W.gd wv α (@W.ft wv b n) x=x:=Cy (by rw [w_ft];exact AW h)
theorem Fj{i n:AI}{x:AH α}(h:0<=i/\i<n):@W.gd wv α (@W.ib wv i n) x=x:=Cy (by rw [w_ib];exact AW h)
end words
section loops
variable {A B:Type} {b:A->AH (Nx A B)}
theorem J00{n:AM}{s s':A}(h:b s=AC (.go s')):Qm b (n+1) s=Qm b n s':=by simp only [Qm,h]
theorem ZO{n:AM}{s:A}{e:B}(h:b s=AC (.out e)):Qm b (n+1) s=AC e:=by simp only [Qm,h]
theorem J4i(st:AM->A){e:B}:∀(k i N M:AM),N=i+k->k<M->(∀j,i<=j->j<N->b (st j)=AC (.go (st (j+1))))->b (st N)=AC (.out e)->Qm b M (st i)=AC e
 | 0,i,N,M+1,hN,hM,d,a=>by subst hN;exact ZO a
 | k+1,i,N,M+1,hN,hM,d,a=>by rw [J00 (d i (Ad _) (by omega))];exact J4i st k (i+1) N M (by omega) (by omega) (λj f=>d j (by omega)) a
theorem Kc(st:AM->A)(N:AM){e:B}(hN:N<1000000000000)(f:∀i,i<N->b (st i)=AC (.go (st (i+1))))(d:b (st N)=AC (.out e)):Qm b CK (st 0)=AC e:=
 J4i st N 0 N CK (by omega) (by unfold CK;omega) (λj _ a=>f j a) d
open Classical in
theorem sW(st:AM->A)(N:AM)(hN:N<1000000000000)(good:AM->Prop){bad fin:B}
  (m:∀i,i<N->(∀j,j<i->good j)->(good i->b (st i)=AC (.go (st (i+1))))/\(¬good i->b (st i)=AC (.out bad))) (v:(∀i,i<N->good i)->b (st N)=AC (.out fin)) :
  Qm b CK (st 0)=AC (if ∀i,i<N->good i then fin else bad):=by
 by_cases d:∀i,i<N->good i
 .rw [AS d];exact Kc st N hN (λi hi=>(m i hi λj f=>d j (by omega)).1 (d i hi)) (v d)
 .rw [AR d];have:∃i,i<N/\¬good i/\∀j,j<i->good j:=by
   simp only [Af] at d;obtain ⟨i,hi,l⟩:=d
   induction i using Nat.strongRecOn with
   | _ i r=>
    by_cases h:∀j,j<i->good j
    .exact ⟨i,hi,l,h⟩
    .simp only [Af] at h;obtain ⟨j,f,g⟩:=h;exact r j f (by omega) g
  obtain ⟨i,hi,l,a⟩:=this;exact Kc st i (by omega) (λj f=>(m j (by omega) λk w=>a k (by omega)).1 (a j f)) ((m i hi a).2 l)
theorem jh(I:AM->A->Prop)(Q:B->Prop)(N:AM)(hN:N<1000000000000){s0:A}(r:I 0 s0)(m:∀i s,i<N->I i s->∃s',b s=AC (.go s')/\I (i+1) s')(l:∀s,I N s->∃e,b s=AC (.out e)/\Q e) :
  ∃e,Qm b CK s0=AC e/\Q e:=by
 have key:∀(k i M:AM) (s:A),i+k=N->k<M->I i s->∃e,Qm b M s=AC e/\Q e:=by
  intro k
  induction k with
  | zero=>
   intro i M s hi hM hs;have:i=N:=by omega
   subst this;obtain ⟨e,g,d⟩:=l s hs;cases M with
   | zero=>omega
   | succ M=>exact ⟨e,ZO g,d⟩
  | succ k h=>
   intro i M s hi hM hs;obtain ⟨s',a,f⟩:=m i s (by omega) hs;cases M with
   | zero=>omega
   | succ M=>
    obtain ⟨e,g,d⟩:=h (i+1) M s' (by omega) (by omega) f;exact ⟨e,(J00 a).trans g,d⟩
 exact key N 0 CK s0 (by omega) (by unfold CK;omega) r
theorem Po{α:Type}(l:AG α)(hl:l.length<1000000000000)(st:AM->A)(p:α->Prop)(out:AM->α->B)(nf:B)
  (r:∀i x,i<l.length->l[i]?=AC x->(p x->b (st i)=AC (.out (out i x)))/\(¬p x->b (st i)=AC (.go (st (i+1))))) (E:b (st l.length)=AC (.out nf)) :
  ∃e,Qm b CK (st 0)=AC e/\((e=nf/\∀x∈l,¬p x)\/∃i x,l[i]?=AC x/\p x/\e=out i x):=by
 by_cases w:∃i,i<l.length/\∃x,l[i]?=AC x/\p x
 .have:∃i,i<l.length/\(∃x,l[i]?=AC x/\p x)/\∀j,j<i->∀x,l[j]?=AC x->¬p x:=by
   obtain ⟨i,hi,hx⟩:=w
   induction i using Nat.strongRecOn with
   | _ i y=>
    by_cases h:∃j,j<i/\∃x,l[j]?=AC x/\p x
    .obtain ⟨j,a,g⟩:=h;exact y j a (by omega) g
    .exact ⟨i,hi,hx,λj a x f d=>h ⟨j,a,x,f,d⟩⟩
  obtain ⟨i,hi,⟨x,hx,d⟩,m⟩:=this;exact ⟨_,Kc st i (by omega) (λj a=>(r j l[j] (by omega) (Ab _)).2 (m j a _ (Ab _))) ((r i x hi hx).1 d),.inr ⟨i,x,hx,d,rfl⟩⟩
 .have v:∀i x,l[i]?=AC x->¬p x:=λi x hx d=>w ⟨i,(List.getElem?_eq_some_iff.1 hx).1,x,hx,d⟩;exact ⟨nf,Kc st l.length hl (λj a=>(r j l[j] a (Ab _)).2 (v j _ (Ab _))) E,.inl ⟨rfl,λx hx=>by obtain ⟨i,hi⟩:=List.mem_iff_getElem?.1 hx;exact v i x hi⟩⟩
theorem tV(I:A->Prop)(Q:B->Prop)(m:A->AM)(h:∀s,I s->(∃s',b s=AC (.go s')/\I s'/\m s'<m s)\/∃e,b s=AC (.out e)/\Q e){s0:A}(v:I s0)(w:m s0<1000000000000):∃e,Qm b CK s0=AC e/\Q e:=by
 have key:∀(n M:AM) (s:A),m s<=n->n<M->I s->∃e,Qm b M s=AC e/\Q e:=by
  intro n
  induction n with
  | zero=>
   intro M s hs hM hi;cases M with
   | zero=>omega
   | succ M=>
    rcases h s hi with ⟨s',_,_,r⟩|⟨e,d,a⟩
    .omega
    .exact ⟨e,ZO d,a⟩
  | succ n f=>
   intro M s hs hM hi;cases M with
   | zero=>omega
   | succ M=>
    rcases h s hi with ⟨s',d,a,r⟩|⟨e,d,a⟩
    .obtain ⟨e,l,g⟩:=f M s' (by omega) (by omega) a;exact ⟨e,(J00 d).trans l,g⟩
    .exact ⟨e,ZO d,a⟩
 exact key (m s0) CK s0 (Ad _) (by unfold CK;omega) v
end loops
section lists
variable {α β:Type}
theorem Ki{l:AG α}{i:AM}{x:α}(h:l[i]?=AC x):l.take (i+1)=l.take i++[x]:=by rw [List.take_add_one,h];rfl
theorem ZP{f:α->AG β}{l:AG α}{i:AM}{x:α}(h:l[i]?=AC x):(l.take (i+1)).flatMap f=(l.take i).flatMap f++f x:=by rw [Ki h,List.flatMap_append,List.flatMap_cons,List.flatMap_nil,List.append_nil]
theorem Q9{f:α->β}{l:AG α}{i:AM}{x:α}(h:l[i]?=AC x):(l.take (i+1)).map f=(l.take i).map f++[f x]:=by rw [Ki h,List.map_append];rfl
def rng(a:AI)(n:AM):AG AI:=(List.range n).map λi:AM=>a+(i:AI)
theorem OP(a:AI)(n:AM):rng a (n+1)=rng a n++[a+(n:AI)]:=by simp [rng,List.range_succ]
theorem sD(a:AI)(n:AM):(rng a n).length=n:=by simp [rng]
theorem J6l{a x:AI}{n:AM}:x∈rng a n↔a<=x/\x<a+n:=by
 simp only [rng,List.mem_map,List.mem_range];constructor
 .rintro ⟨i,hi,rfl⟩;omega
 .intro h;exact ⟨(x - a).toNat,by omega,by omega⟩
theorem OQ(a:AI)(n:AM):rng a (n+1)=a::rng (a+1) n:=by
 simp only [rng,List.range_succ_eq_map,List.map_cons,List.map_map]
 congr 1
 .simp
 .apply List.map_congr_left;intro i _;simp only [Function.comp];omega
theorem eD(a:AI)(n:AM):(rng a n).Pairwise (·<·):=by
 induction n generalizing a with
 | zero=>exact .nil
 | succ n d=>
  rw [OQ];refine List.pairwise_cons.2 ⟨λx hx=>?_,d _⟩;have:=J6l.1 hx;omega
theorem Jj8{f:α->AG β}{l:AG α}{n:AM}(h:∀x∈l,(f x).length<=n):(l.flatMap f).length<=l.length * n:=by
 induction l with
 | nil=>simp
 | cons x l a=>
  have:=h x (List.mem_cons_self ..);have:=a λy d=>h y (List.mem_cons_of_mem _ d);simp only [List.flatMap_cons,List.length_append,List.length_cons,Nat.add_mul];omega
theorem Qi(f:α->α)(x:α):∀l:AG α,Qf (l++[x]) f=l++[f x]
 | []=>rfl
 | [y]=>rfl
 | y::z::l=>by show y::Qf (z::(l++[x])) f=_;rw [show z::(l++[x])=(z::l)++[x] from rfl,Qi f x (z::l)];rfl
theorem jN(l:AG α)(x y:α):(l++[x]).set l.length y=l++[y]:=by rw [List.set_append_right _ _ (Ad _),Nat.sub_self];rfl
theorem ZN(l:AG α)(x:α):(l++[x])[l.length]?=AC x:=by rw [List.getElem?_append_right (Ad _),Nat.sub_self];rfl
end lists
end Go.Dn
namespace Go.Proofs.YtmfagdfkpjgeiaaGreat
open Go Go.Vv Go.Dn Go.Dn.W
theorem J6g(n:AI){b:AI}(d:0<b):(n.tmod b=n % b\/n.tmod b=n % b - b)/\0<=n % b/\n % b<b/\-b<n.tmod b/\n.tmod b<b:=by
 have m:=Int.lt_tmod_of_pos n d;have l:=Int.tmod_lt_of_pos n d;have h:=Int.emod_nonneg n (show b≠0 by omega);have g:=Int.emod_lt_of_pos n d;have f:=Int.tmod_eq_emod (a:=n) (b:=b);refine ⟨?_,h,g,m,l⟩;split at f
 .left;omega
 .right;rw [f];omega
theorem VB(n b:AI)(g:1<=b)(f:b<=1000000):@zK wv (n,b)=AC (n % b):=by
 obtain ⟨d,l,h,a3,a4⟩:=J6g n (b:=b) (by omega);unfold zK;dsimp only;have a:@W.cm wv .neq b 0=AE:=by rw [TN];simp;omega
 rw [Cy a,Cy a,oO,oO,J6,wr (by omega) (by omega),Int.tmod_eq_emod_of_nonneg (by omega),Int.add_emod_right]
 congr 1
 rcases d with e|e
 .rw [e,Ag _ (Int.dvd_refl b)]
 .rw [e,<-Int.add_emod_right,Int.sub_add_cancel,Ag _ (Int.dvd_refl b)]
theorem lU{α:Type}{n b:AI}(d:1<=b)(a:b<=1000000)(k:AI->AH α):@W.call wv α Kb ((n,b):AI×AI) k=k (n % b):=BM (c:=Kb) (VB n b d a)
theorem Wz(n b:AI)(a:1<=b)(g:b<=1000000)(r:-10000000<=n/\n<=10000000):@zI wv (n,b)=AC (n / b):=by
 have e:=Int.emod_add_mul_ediv n b;have m:=Int.emod_nonneg n (show b≠0 by omega);have l:=Int.emod_lt_of_pos n (show 0<b by omega);have f:(n - n % b).tdiv b=n / b:=by rw [show n - n % b=b * (n / b) by omega];exact Int.mul_tdiv_cancel_left _ (by omega)
 have h:-20000000<=n / b/\n / b<=20000000:=by
  constructor
  .exact (Ac (by omega)).2 (by have:b * 20000000>=1 * 20000000:=Aa a (by decide);omega)
  .have:n / b<20000001:=Ae (by omega) (by have:b * 20000001>=1 * 20000001:=Aa a (by decide);omega)
   omega
 have d:@W.cm wv .neq b 0=AE:=by rw [TN];simp;omega
 unfold zI;dsimp only;rw [lU a g,Cy d,Yc,wr (by omega) (by omega),Nb,f,wr (by omega) (by omega)]
theorem QE{α:Type}{n b:AI}(f:1<=b)(d:b<=1000000)(a:-10000000<=n/\n<=10000000)(k:AI->AH α):@W.call wv α jl ((n,b):AI×AI) k=k (n / b):=BM (c:=jl) (Wz n b f d a)
def KM(n:AI)(x y:AI×AI):AI:=if (x.1+x.2) / n≠(y.1+y.2) / n then (x.1+x.2) / n - (y.1+y.2) / n else if x.1≠y.1 then x.1 - y.1 else y.2 - x.2
def VL(x:AI×AI):AN:=decide ((-1000000<x.1/\x.1<1000000)/\-1000000<x.2/\x.2<1000000)
def kY(n:AI):AN:=decide (1<=n/\n<=1000000)
theorem Jz4{n:AI}{x y:AI×AI}:KM n x y<0↔(x.1+x.2) / n<(y.1+y.2) / n\/((x.1+x.2) / n=(y.1+y.2) / n/\(x.1<y.1\/(x.1=y.1/\y.2<x.2))):=by
 unfold KM;generalize (x.1+x.2) / n=j;generalize (y.1+y.2) / n=k;split
 .omega
 .split<;>omega
theorem pE(n:AI):Go.Sort.SWO (Go.Proofs.ltOf λx y:{x:AI×AI // VL x=AE}=>KM n x.1 y.1):=by
 refine ⟨λx=>?_,λx y z d a=>?_,λx y z d a=>?_⟩
 .simp only [Go.Proofs.ltOf,decide_eq_false_iff_not,Jz4];omega
 .simp only [Go.Proofs.ltOf,decide_eq_true_eq,Jz4] at *;omega
 .simp only [Go.Proofs.ltOf,decide_eq_false_iff_not,Jz4] at *;omega
theorem Oh{n b:AI}(a:1<=b)(d:-10000000<=n/\n<=10000000):-20000000<=n / b/\n / b<=20000000:=by
 constructor
 .exact (Ac (by omega)).2 (by have:b * 20000000>=1 * 20000000:=Aa a (by decide);omega)
 .have:n / b<20000001:=Ae (by omega) (by have:b * 20000001>=1 * 20000001:=Aa a (by decide);omega)
  omega
theorem XI(n:AI)(x y:AI×AI)(a:kY n=AE)(hx:VL x=AE)(d:VL y=AE):@Qx wv (x,y,n)=AC (KM n x y):=by
 simp only [kY,VL,decide_eq_true_eq] at a hx d;obtain ⟨l,h⟩:=Oh (n:=x.1+x.2) a.1 (by omega);obtain ⟨g,f⟩:=Oh (n:=y.1+y.2) a.1 (by omega);unfold Qx KM;dsimp only;rw [J6,J6,wr (n:=x.1+x.2) (by omega) (by omega),wr (n:=y.1+y.2) (by omega) (by omega),QE a.1 a.2 (by omega),QE a.1 a.2 (by omega)];generalize (x.1+x.2) / n=j at *
 generalize (y.1+y.2) / n=k at *
 simp only [ET,TN,Yc,bne_iff_ne];rw [wr (n:=j - k) (by omega) (by omega),wr (n:=x.1 - y.1) (by omega) (by omega),wr (n:=y.2 - x.2) (by omega) (by omega)];split
 .rfl
 .split<;>rfl
def zS:{x:AI×AI // VL x=AE}:=⟨(0,0),by decide⟩
noncomputable def J30:AG (AI×AI)×AI->AH (AG (AI×AI)):=iw KM kY VL zS
noncomputable def Jv2:BQ:=dU 97 98 J30
noncomputable def Jj6:Bi:=dV 97 98 J30
theorem Jxo:Mw PG 97 Jj6:=
 Nv (P:=PG) (ρ:=Tryz.E5) Tryz.Lx (λw=>by kernel_rfl) (λw=>by kernel_rfl) (g:=98) (fn:=@Qx wv) Jgm KM kY VL zS XI (λn _=>pE n) (by decide) (Jn (by kernel_rfl))
noncomputable def K4:BQ:=⟨20,[(.fr,.ls (.p I (.p .bool (.ls (.p I I)))))],[(AE,.ls (.p I (.ls (.p I I))))],@Yp wv⟩
theorem seqF:((PG.funcs[20]?).bind λfn=>fn.body.map (ML 3))=AC AE:=by kernel_rfl
theorem cutF(w:W)(a):RA (dW w) (V1 [(35,Kv),(64,Qw)]) 8 3 20 K4.as K4.rs a=@Yp w a:=by kernel_rfl
theorem Jrw:Go.Dn.Good PG K4:=
 have hΓ:NA PG (Eh [(35,Kv),(64,Qw)]):=Jc zU (Jc yh Jo)
 ⟨Jgu.fn,rfl,rfl,Jgu.run,λ_=>QZ (cx:=Im (Eh [(35,Kv),(64,Qw)]) [] [] [] [] [] []) rfl hΓ mixed (J99 Jz) Jy (J1h _ _ _ _ _ _ _) rfl rfl (c:=K4) (n:=8) (m:=3) rfl rfl (λfn body d a=>by have h:=seqF;rw [show PG.funcs[20]?=AC fn from d] at h;rw [Option.bind_some,a,Option.map_some] at h;injection h) λx r h=>(cutF wv x).trans h,λel q=>by cases q⟩
abbrev dO:Ty:=.p I (.p .bool (.ls (.p I I)))
noncomputable def zi:BQ:=⟨59,[(.ag,.ls (.p I (.ls (.p I I)))),(.ow 39,I),(.one,I)],[(AF,.ls dO)],@Ys wv⟩
theorem Jwf:Go.Dn.Good PG zi:=
 ⟨Jhz.fn,rfl,rfl,Jhz.run,λq=>(by cases q),λel q=>by have e:el=39:=(Option.some.inj q).symm;subst e;exact ⟨dO,rfl,λx r hr w S cargs hS d g=>(Jlk.run x r hr w S cargs hS d g).mono λe w' ⟨cv,h,f,a⟩=>⟨cv,_,_,h,f,rfl,VI (t:=dO) (by decide) a⟩⟩⟩
noncomputable def Q8[W](a:(Uv×(AI×AI))):AH Uu:=call zi ((a.1,(a.2.1,0)):(Uv×(AI×AI))) λ(v0:Uu)=>call Qd ((a.1,(a.2.1,0)):(Uv×(AI×AI))) λ(v1:Uu)=>gd (ft 40 (pl (ln v0) (ln v1)))<|call zD ((ap v0 v1):Uu) λ(v2:Uu)=>AC v2
noncomputable def Jax:BQ:=⟨46,[(.ag,(.p (.ls (.p I (.ls (.p I I)))) (.p I I)))],[(AF,(.ls (.p I (.p .bool (.ls (.p I I))))))],@Q8 wv⟩
noncomputable def Ja2:KP:=⟨46,[(.ag,(.p (.ls (.p I (.ls (.p I I)))) (.p I I)))],39,(.p I (.p .bool (.ls (.p I I)))),@Q8 wv⟩
theorem Jjm(w:W)(a):M9 (dW w) (Im (Eh [(59,zi),(60,Qd)]) [] [] [] [] [(74,uo.bi)] []) 8 46 [(.ag,(.p (.ls (.p I (.ls (.p I I)))) (.p I I)))] (.p I (.p .bool (.ls (.p I I)))) 39 a=@Q8 w a:=by kernel_rfl
theorem Jjk:Mq PG Ja2:=own (Eh [(59,zi),(60,Qd)]) [] [] [] [] [(74,uo.bi)] [] 8 (Jc Jwf (Jc Jho Jo)) Jz (Lm (ZG Jlq) Jy) (Jn (by kernel_rfl)) rfl (by decide) rfl (Jjm wv)
noncomputable def Qr[W](s:Gw):AH (Nx Gw (HP Uu Gb)):=br (cm .lss s.j.j.e s.j.e) (gd (ib s.j.j.e (ln s.j.j.j.e))<|ge s.j.j.j.e s.j.j.e λv1=>AC (.go ⟨s.e,s.j.e,(ar .add .i64 s.j.j.e 1),(st s.j.j.j.e s.j.j.e (s.e,(v1.2.1,v1.2.2))),s.j.j.j.j⟩)) (AC (.out s.j.j.j))
noncomputable def Qs[W](s:Gb):AH (Nx Gb Gl):=br (cm .gtr (ln s.j.j.j.e) 0) (call jw (s.j.j.j.e:Uv) λ(v0:Uu)=>loop Qr ⟨4,(ln v0),0,v0,s⟩ λv2=>gd (ft 40 (pl (ln v2.j.j.j.j.j.e) (ln v2.e)))<|call zw ((v2.j.j.j.j.e,v2.j.j.e):(Uv×AI)) λ(v3:Uv)=>AC (.go ⟨v2.j.e,v2.j.j.e,v2.j.j.j.e,v3,(ap v2.j.j.j.j.j.e v2.e),()⟩)) (AC (.out s.j.j.j.j))
noncomputable def Q2[W](a:(Uv×(AI×AI))):AH Uu:=loop Qs ⟨a.1,a.2.1,a.2.2,a.1,[],()⟩ λv4=>call zD (v4.e:Uu) λ(v5:Uu)=>AC v5
noncomputable def Jaa:BQ:=⟨47,[(.ag,(.p (.ls (.p I (.ls (.p I I)))) (.p I I)))],[(AF,(.ls (.p I (.p .bool (.ls (.p I I))))))],@Q2 wv⟩
noncomputable def Jac:KP:=⟨47,[(.ag,(.p (.ls (.p I (.ls (.p I I)))) (.p I I)))],39,(.p I (.p .bool (.ls (.p I I)))),@Q2 wv⟩
theorem Jht(w:W)(a):M9 (dW w) (Im (Eh [(33,zw)]) [] [] [] [] [(26,Jdx.bi),(74,uo.bi)] []) 8 47 [(.ag,(.p (.ls (.p I (.ls (.p I I)))) (.p I I)))] (.p I (.p .bool (.ls (.p I I)))) 39 a=@Q2 w a:=by kernel_rfl
theorem Jhu:Mq PG Jac:=own (Eh [(33,zw)]) [] [] [] [] [(26,Jdx.bi),(74,uo.bi)] [] 8 (Jc Jwr Jo) Jz (Lm (ZG Jn6) (Lm (ZG Jlq) Jy)) (Jn (by kernel_rfl)) rfl (by decide) rfl (Jht wv)
noncomputable def Qk[W](s:Gu):AH (Nx Gu (HP Uv (HP AI Uy))):=br (cm .lss s.j.j.e s.j.e) (ge s.e s.j.j.e λv1=>call Kb (((ar .add .i64 v1.1 v1.2),s.j.j.j.j.j.j.e):(AI×AI)) λ(v2:AI)=>br (cm .lss v2 2) (gd (ft 16 (pl (ln s.j.j.j.j.j.j.j.e) 1))<|some (.go ⟨s.e,s.j.e,(ar .add .i64 s.j.j.e 1),s.j.j.j.e,s.j.j.j.j.e,s.j.j.j.j.j.e,s.j.j.j.j.j.j.e,(ap s.j.j.j.j.j.j.j.e ((v1.1,v1.2)::[])),()⟩)) (AC (.go ⟨s.e,s.j.e,(ar .add .i64 s.j.j.e 1),s.j.j.j⟩))) (AC (.out s.j.j.j))
noncomputable def Qj[W](s:Gx):AH (Nx Gx (HP Uu Uw)):=br (cm .lss s.j.e s.e) (gd (ib s.j.e (ln s.j.j.j.j.j.e))<|ge s.j.j.j.j.j.e s.j.e λv5=>br (cm .eql s.j.e 0) (gd (ft 40 (pl (ln s.j.j.j.j.j.j.e) 1))<|gd (ib (ar .sub .i64 (ln (ap (ml s.j.j.j.j.j.j.e λy=>(y.1,(y.2.1,s.j.j.j.j.j.j.j.e))) ((4,(AF,[]))::[]))) 1) (ln (ap (ml s.j.j.j.j.j.j.e λy=>(y.1,(y.2.1,s.j.j.j.j.j.j.j.e))) ((4,(AF,[]))::[]))))<|ge (ap (ml s.j.j.j.j.j.j.e λy=>(y.1,(y.2.1,s.j.j.j.j.j.j.j.e))) ((4,(AF,[]))::[])) (ar .sub .i64 (ln (ap (ml s.j.j.j.j.j.j.e λy=>(y.1,(y.2.1,s.j.j.j.j.j.j.j.e))) ((4,(AF,[]))::[]))) 1) λf=>gd (cm .eql (pl (ar .sub .i64 (ln (ap (ml s.j.j.j.j.j.j.e λy=>(y.1,(y.2.1,s.j.j.j.j.j.j.j.e))) ((4,(AF,[]))::[]))) 1) 1) (ln (ap (ml s.j.j.j.j.j.j.e λy=>(y.1,(y.2.1,s.j.j.j.j.j.j.j.e))) ((4,(AF,[]))::[]))))<|gd (ft 16 1)<|ge (ap (ml s.j.j.j.j.j.j.e λy=>(y.1,(y.2.1,s.j.j.j.j.j.j.j.e))) ((4,(AF,[]))::[])) (ar .sub .i64 (ln (ap (ml s.j.j.j.j.j.j.e λy=>(y.1,(y.2.1,s.j.j.j.j.j.j.j.e))) ((4,(AF,[]))::[]))) 1) λa=>gd (cm .eql (pl (ar .sub .i64 (ln (ap (ml s.j.j.j.j.j.j.e λy=>(y.1,(y.2.1,s.j.j.j.j.j.j.j.e))) ((4,(AF,[]))::[]))) 1) 1) (ln (ap (ml s.j.j.j.j.j.j.e λy=>(y.1,(y.2.1,s.j.j.j.j.j.j.j.e))) ((4,(AF,[]))::[]))))<|some (.go ⟨s.e,(ar .add .i64 s.j.e 1),s.j.j.e,s.j.j.j.e,s.j.j.j.j.e,s.j.j.j.j.j.e,(st (ap (ml s.j.j.j.j.j.j.e λy=>(y.1,(y.2.1,s.j.j.j.j.j.j.j.e))) ((4,(AF,[]))::[])) (ar .sub .i64 (ln (ap (ml s.j.j.j.j.j.j.e λy=>(y.1,(y.2.1,s.j.j.j.j.j.j.j.e))) ((4,(AF,[]))::[]))) 1) (a.1,(a.2.1,a.2.2))),((v5.1,v5.2)::[]),()⟩)) (gd (ib (ar .sub .i64 s.j.e 1) (ln s.j.j.j.j.j.e))<|ge s.j.j.j.j.j.e (ar .sub .i64 s.j.e 1) λd=>call Q1 (((s.j.j.e,(s.j.j.j.e,s.j.j.j.j.e)),(d.1,d.2)):((Uv×(AI×AI))×(AI×AI))) λ(v9:(AI×AI))=>br (nt (an (cm .eql v9.1 v5.1) (cm .eql v9.2 v5.2))) (gd (ft 40 (pl (ln s.j.j.j.j.j.j.e) 1))<|gd (ib (ar .sub .i64 (ln (ap (ml s.j.j.j.j.j.j.e λy=>(y.1,(y.2.1,s.j.j.j.j.j.j.j.e))) ((4,(AF,[]))::[]))) 1) (ln (ap (ml s.j.j.j.j.j.j.e λy=>(y.1,(y.2.1,s.j.j.j.j.j.j.j.e))) ((4,(AF,[]))::[]))))<|ge (ap (ml s.j.j.j.j.j.j.e λy=>(y.1,(y.2.1,s.j.j.j.j.j.j.j.e))) ((4,(AF,[]))::[])) (ar .sub .i64 (ln (ap (ml s.j.j.j.j.j.j.e λy=>(y.1,(y.2.1,s.j.j.j.j.j.j.j.e))) ((4,(AF,[]))::[]))) 1) λv10=>gd (cm .eql (pl (ar .sub .i64 (ln (ap (ml s.j.j.j.j.j.j.e λy=>(y.1,(y.2.1,s.j.j.j.j.j.j.j.e))) ((4,(AF,[]))::[]))) 1) 1) (ln (ap (ml s.j.j.j.j.j.j.e λy=>(y.1,(y.2.1,s.j.j.j.j.j.j.j.e))) ((4,(AF,[]))::[]))))<|gd (ft 16 1)<|ge (ap (ml s.j.j.j.j.j.j.e λy=>(y.1,(y.2.1,s.j.j.j.j.j.j.j.e))) ((4,(AF,[]))::[])) (ar .sub .i64 (ln (ap (ml s.j.j.j.j.j.j.e λy=>(y.1,(y.2.1,s.j.j.j.j.j.j.j.e))) ((4,(AF,[]))::[]))) 1) λv11=>gd (cm .eql (pl (ar .sub .i64 (ln (ap (ml s.j.j.j.j.j.j.e λy=>(y.1,(y.2.1,s.j.j.j.j.j.j.j.e))) ((4,(AF,[]))::[]))) 1) 1) (ln (ap (ml s.j.j.j.j.j.j.e λy=>(y.1,(y.2.1,s.j.j.j.j.j.j.j.e))) ((4,(AF,[]))::[]))))<|some (.go ⟨s.e,(ar .add .i64 s.j.e 1),s.j.j.e,s.j.j.j.e,s.j.j.j.j.e,s.j.j.j.j.j.e,(st (ap (ml s.j.j.j.j.j.j.e λy=>(y.1,(y.2.1,s.j.j.j.j.j.j.j.e))) ((4,(AF,[]))::[])) (ar .sub .i64 (ln (ap (ml s.j.j.j.j.j.j.e λy=>(y.1,(y.2.1,s.j.j.j.j.j.j.j.e))) ((4,(AF,[]))::[]))) 1) (v11.1,(v11.2.1,v11.2.2))),((v5.1,v5.2)::[]),()⟩)) (gd (ib (ar .sub .i64 (ln s.j.j.j.j.j.j.e) 1) (ln s.j.j.j.j.j.j.e))<|ge s.j.j.j.j.j.j.e (ar .sub .i64 (ln s.j.j.j.j.j.j.e) 1) λv12=>gd (cm .eql (pl (ar .sub .i64 (ln s.j.j.j.j.j.j.e) 1) 1) (ln s.j.j.j.j.j.j.e))<|gd (ft 16 (pl (ln s.j.j.j.j.j.j.j.e) 1))<|ge s.j.j.j.j.j.j.e (ar .sub .i64 (ln s.j.j.j.j.j.j.e) 1) λv13=>gd (cm .eql (pl (ar .sub .i64 (ln s.j.j.j.j.j.j.e) 1) 1) (ln s.j.j.j.j.j.j.e))<|some (.go ⟨s.e,(ar .add .i64 s.j.e 1),s.j.j.e,s.j.j.j.e,s.j.j.j.j.e,s.j.j.j.j.j.e,(st s.j.j.j.j.j.j.e (ar .sub .i64 (ln s.j.j.j.j.j.j.e) 1) (v13.1,(v13.2.1,v13.2.2))),(ap s.j.j.j.j.j.j.j.e ((v5.1,v5.2)::[])),()⟩)))) (AC (.out s.j.j.j.j.j.j))
noncomputable def K0[W](a:(Uv×(AI×AI))):AH Uu:=call Qe (a.1:Uv) λ(v0:Ut)=>loop Qk ⟨v0,(ln v0),0,a.1,a.2.1,a.2.2,(ar .mul .i64 2 a.2.1),[],()⟩ λv3=>call Jv2 ((v3.j.j.j.j.e,v3.j.j.j.e):(Ut×AI)) λ(v4:Ut)=>loop Qj ⟨(ln v4),0,v3.e,v3.j.e,v3.j.j.e,v4,[],[],()⟩ λv14=>AC (ml v14.e λy=>(y.1,(y.2.1,v14.j.e)))
noncomputable def jt:BQ:=⟨48,[(.ag,(.p (.ls (.p I (.ls (.p I I)))) (.p I I)))],[(AF,(.ls (.p I (.p .bool (.ls (.p I I))))))],@K0 wv⟩
noncomputable def js:KP:=⟨48,[(.ag,(.p (.ls (.p I (.ls (.p I I)))) (.p I I)))],39,(.p I (.p .bool (.ls (.p I I)))),@K0 wv⟩
theorem Jhk(w:W)(a):M9 (dW w) (Im (Eh [(96,Kb),(100,Q1),(95,Qe)]) [11,12,13,14,15,16,17,18] [] [] [] [(97,Jj6)] []) 8 48 [(.ag,(.p (.ls (.p I (.ls (.p I I)))) (.p I I)))] (.p I (.p .bool (.ls (.p I I)))) 39 a=@K0 w a:=by kernel_rfl
theorem Jhh:Mq PG js:=own (Eh [(96,Kb),(100,Q1),(95,Qe)]) [11,12,13,14,15,16,17,18] [] [] [] [(97,Jj6)] [] 8 (Jc ny (Jc Jjf (Jc Jfk Jo))) Jz (Lm Jxo Jy) (Jn (by kernel_rfl)) rfl (by decide) rfl (Jhk wv)
noncomputable def Zb[W](s:Gj):AH (Nx Gj (HP Uv (HP AI (HP AI (HP Ut Gs))))):=br (cm .lss s.j.e s.j.j.j.j.j.j.j.j.j.e) (gd (ft 16 (pl (ln s.j.j.j.j.j.j.j.j.j.j.j.j.j.j.e) 1))<|some (.go ⟨s.e,(ar .add .i64 s.j.e 1),s.j.j.e,s.j.j.j.e,s.j.j.j.j.e,s.j.j.j.j.j.e,s.j.j.j.j.j.j.e,s.j.j.j.j.j.j.j.e,s.j.j.j.j.j.j.j.j.e,s.j.j.j.j.j.j.j.j.j.e,s.j.j.j.j.j.j.j.j.j.j.e,s.j.j.j.j.j.j.j.j.j.j.j.e,s.j.j.j.j.j.j.j.j.j.j.j.j.e,s.j.j.j.j.j.j.j.j.j.j.j.j.j.e,(ap s.j.j.j.j.j.j.j.j.j.j.j.j.j.j.e ((s.j.e,s.e)::[])),()⟩)) (AC (.out ⟨s.j.j.e,s.j.j.j.e,s.j.j.j.j.e,s.j.j.j.j.j.e,s.j.j.j.j.j.j.e,s.j.j.j.j.j.j.j.e,s.j.j.j.j.j.j.j.j.j.j.j.j.j.j.e,s.j.j.j.j.j.j.j.j.j.j.e,s.j.j.j.j.j.j.j.j.j.j.j.e,s.j.j.j.j.j.j.j.j.j.j.j.j.e,s.j.j.j.j.j.j.j.j.j.j.j.j.j.e,()⟩))
noncomputable def Jb6[W](s:Gd):AH Gd:=ge s.j.j.j.e s.j.j.j.j.j.e λv3=>loop Zb ⟨s.j.j.j.j.j.j.e,v3.1,s.e,s.j.e,s.j.j.e,s.j.j.j.e,s.j.j.j.j.e,s.j.j.j.j.j.e,v3.1,v3.2,s.j.j.j.j.j.j.e,s.j.j.j.j.j.j.j.e,s.j.j.j.j.j.j.j.j.e,s.j.j.j.j.j.j.j.j.j.e,[],()⟩ λv4=>br (cm .geq (ar .sub .i64 (ln v4.j.j.j.j.j.j.j.j.j.e) 1) 0) (gd (ib (ar .sub .i64 (ln v4.j.j.j.j.j.j.j.j.j.e) 1) (ln v4.j.j.j.j.j.j.j.j.j.e))<|ge v4.j.j.j.j.j.j.j.j.j.e (ar .sub .i64 (ln v4.j.j.j.j.j.j.j.j.j.e) 1) λv5=>gd (cm .eql (pl (ar .sub .i64 (ln v4.j.j.j.j.j.j.j.j.j.e) 1) 1) (ln v4.j.j.j.j.j.j.j.j.j.e))<|ge v4.j.j.j.j.j.j.j.j.j.e (ar .sub .i64 (ln v4.j.j.j.j.j.j.j.j.j.e) 1) λf=>gd (cm .eql (pl (ar .sub .i64 (ln v4.j.j.j.j.j.j.j.j.j.e) 1) 1) (ln v4.j.j.j.j.j.j.j.j.j.e))<|gd (ib (ar .sub .i64 (ln v4.j.j.j.j.j.j.j.j.j.j.e) 1) (ln v4.j.j.j.j.j.j.j.j.j.j.e))<|ge v4.j.j.j.j.j.j.j.j.j.j.e (ar .sub .i64 (ln v4.j.j.j.j.j.j.j.j.j.j.e) 1) λd=>gd (ib 0 (ln v4.j.j.j.j.j.j.e))<|ge v4.j.j.j.j.j.j.e 0 λa=>call Xs (((d.1,d.2),(a.1,a.2)):((AI×AI)×(AI×AI))) λ(v9:AN)=>br v9 (ge v4.j.j.j.j.j.j.j.j.j.e (ar .sub .i64 (ln v4.j.j.j.j.j.j.j.j.j.e) 1) λv10=>gd (cm .eql (pl (ar .sub .i64 (ln v4.j.j.j.j.j.j.j.j.j.e) 1) 1) (ln v4.j.j.j.j.j.j.j.j.j.e))<|br (cm .leq (ar .add .i64 (ln v4.j.j.j.j.j.j.j.j.j.j.e) (ln v4.j.j.j.j.j.j.e)) 65536) (ge v4.j.j.j.j.j.j.j.j.j.e (ar .sub .i64 (ln v4.j.j.j.j.j.j.j.j.j.e) 1) λv11=>gd (cm .eql (pl (ar .sub .i64 (ln v4.j.j.j.j.j.j.j.j.j.e) 1) 1) (ln v4.j.j.j.j.j.j.j.j.j.e))<|gd (ft 16 (pl (ln v4.j.j.j.j.j.j.j.j.j.j.e) (ln v4.j.j.j.j.j.j.e)))<|ge v4.j.j.j.j.j.j.j.j.j.e (ar .sub .i64 (ln v4.j.j.j.j.j.j.j.j.j.e) 1) λv12=>gd (cm .eql (pl (ar .sub .i64 (ln v4.j.j.j.j.j.j.j.j.j.e) 1) 1) (ln v4.j.j.j.j.j.j.j.j.j.e))<|some (⟨v4.e,v4.j.e,v4.j.j.e,v4.j.j.j.e,v4.j.j.j.j.e,v4.j.j.j.j.j.e,v4.j.j.j.j.j.j.j.e,v4.j.j.j.j.j.j.j.j.e,(st v4.j.j.j.j.j.j.j.j.j.e (ar .sub .i64 (ln v4.j.j.j.j.j.j.j.j.j.e) 1) (v12.1,(v12.2.1,v12.2.2))),(ap v4.j.j.j.j.j.j.j.j.j.j.e v4.j.j.j.j.j.j.e),()⟩)) (gd (ft 40 (pl (ln v4.j.j.j.j.j.j.j.j.j.e) 1))<|some (⟨v4.e,v4.j.e,v4.j.j.e,v4.j.j.j.e,v4.j.j.j.j.e,v4.j.j.j.j.j.e,v4.j.j.j.j.j.j.j.e,v4.j.j.j.j.j.j.j.j.e,(ap (ml v4.j.j.j.j.j.j.j.j.j.e λy=>(y.1,(y.2.1,v4.j.j.j.j.j.j.j.j.j.j.e))) ((3,(AF,[]))::[])),v4.j.j.j.j.j.j.e,()⟩))) (gd (ft 40 (pl (ln v4.j.j.j.j.j.j.j.j.j.e) 1))<|some (⟨v4.e,v4.j.e,v4.j.j.e,v4.j.j.j.e,v4.j.j.j.j.e,v4.j.j.j.j.j.e,v4.j.j.j.j.j.j.j.e,v4.j.j.j.j.j.j.j.j.e,(ap (ml v4.j.j.j.j.j.j.j.j.j.e λy=>(y.1,(y.2.1,v4.j.j.j.j.j.j.j.j.j.j.e))) ((3,(AF,[]))::[])),v4.j.j.j.j.j.j.e,()⟩))) (gd (ft 40 (pl (ln v4.j.j.j.j.j.j.j.j.j.e) 1))<|some (⟨v4.e,v4.j.e,v4.j.j.e,v4.j.j.j.e,v4.j.j.j.j.e,v4.j.j.j.j.j.e,v4.j.j.j.j.j.j.j.e,v4.j.j.j.j.j.j.j.j.e,(ap (ml v4.j.j.j.j.j.j.j.j.j.e λy=>(y.1,(y.2.1,v4.j.j.j.j.j.j.j.j.j.j.e))) ((3,(AF,[]))::[])),v4.j.j.j.j.j.j.e,()⟩))
noncomputable def Y7[W](s:Gd):AH (Nx Gd Gn):=br (cm .lss s.j.j.j.j.j.e s.j.j.j.j.e) (join (Jb6 s) λv13=>AC (.go ⟨v13.e,v13.j.e,v13.j.j.e,v13.j.j.j.e,v13.j.j.j.j.e,(ar .add .i64 v13.j.j.j.j.j.e 1),v13.j.j.j.j.j.j⟩)) (AC (.out ⟨s.e,s.j.e,s.j.j.e,s.j.j.j.j.j.j.j.j⟩))
noncomputable def Y8[W](s:Gk):AH (Nx Gk Gf):=br (cm .lss s.j.e s.j.j.j.j.j.j.j.e) (gd (ft 16 (pl (ln s.j.j.j.j.j.j.j.j.j.j.j.j.j.e) 1))<|some (.go ⟨s.e,(ar .add .i64 s.j.e 1),s.j.j.e,s.j.j.j.e,s.j.j.j.j.e,s.j.j.j.j.j.e,s.j.j.j.j.j.j.e,s.j.j.j.j.j.j.j.e,s.j.j.j.j.j.j.j.j.e,s.j.j.j.j.j.j.j.j.j.e,s.j.j.j.j.j.j.j.j.j.j.e,s.j.j.j.j.j.j.j.j.j.j.j.e,s.j.j.j.j.j.j.j.j.j.j.j.j.e,(ap s.j.j.j.j.j.j.j.j.j.j.j.j.j.e ((s.j.e,s.e)::[])),()⟩)) (AC (.out ⟨s.j.j.e,s.j.j.j.e,s.j.j.j.j.e,s.j.j.j.j.j.e,s.j.j.j.j.j.j.j.j.j.j.j.j.j.e,s.j.j.j.j.j.j.j.j.e,s.j.j.j.j.j.j.j.j.j.e,s.j.j.j.j.j.j.j.j.j.j.e,s.j.j.j.j.j.j.j.j.j.j.j.e,s.j.j.j.j.j.j.j.j.j.j.j.j.e,()⟩))
noncomputable def Y6[W](s:(HP AI (HP AI Gf))):AH (Nx (HP AI (HP AI Gf)) Gf):=br (cm .lss s.e s.j.e) (gd (ib s.j.e (ln s.j.j.j.j.j.j.e))<|ge s.j.j.j.j.j.j.e s.j.e λv17=>gd (ib s.e (ln s.j.j.j.j.j.j.e))<|ge s.j.j.j.j.j.j.e s.e λv18=>gd (ib s.e (ln s.j.j.j.j.j.j.e))<|ge s.j.j.j.j.j.j.e s.e λv19=>gd (ib s.j.e (ln (st s.j.j.j.j.j.j.e s.e (v17.1,v17.2))))<|ge (st s.j.j.j.j.j.j.e s.e (v17.1,v17.2)) s.j.e λv20=>AC (.go ⟨(ar .add .i64 s.e 1),(ar .sub .i64 s.j.e 1),s.j.j.e,s.j.j.j.e,s.j.j.j.j.e,s.j.j.j.j.j.e,(st (st s.j.j.j.j.j.j.e s.e (v17.1,v17.2)) s.j.e (v18.1,v18.2)),s.j.j.j.j.j.j.j⟩)) (AC (.out s.j.j))
noncomputable def Zf[W](s:(HP AI (HP Uv Gs))):AH (Nx (HP AI (HP Uv Gs)) (HP Uv (HP AI (HP AI Uz)))):=br (cm .geq s.e 0) (ge s.j.j.j.j.e s.e λv15=>loop Y8 ⟨s.j.j.j.j.j.e,v15.1,s.e,s.j.e,s.j.j.e,s.j.j.j.e,v15.1,v15.2,s.j.j.j.j.e,s.j.j.j.j.j.e,s.j.j.j.j.j.j.e,s.j.j.j.j.j.j.j.e,s.j.j.j.j.j.j.j.j.e,[],()⟩ λv16=>loop Y6 ⟨0,(ar .sub .i64 (ln v16.j.j.j.j.e) 1),v16⟩ λv21=>br (cm .geq (ar .sub .i64 (ln v21.j.j.j.j.j.j.j.j.e) 1) 0) (gd (ib (ar .sub .i64 (ln v21.j.j.j.j.j.j.j.j.e) 1) (ln v21.j.j.j.j.j.j.j.j.e))<|ge v21.j.j.j.j.j.j.j.j.e (ar .sub .i64 (ln v21.j.j.j.j.j.j.j.j.e) 1) λv22=>gd (cm .eql (pl (ar .sub .i64 (ln v21.j.j.j.j.j.j.j.j.e) 1) 1) (ln v21.j.j.j.j.j.j.j.j.e))<|ge v21.j.j.j.j.j.j.j.j.e (ar .sub .i64 (ln v21.j.j.j.j.j.j.j.j.e) 1) λv23=>gd (cm .eql (pl (ar .sub .i64 (ln v21.j.j.j.j.j.j.j.j.e) 1) 1) (ln v21.j.j.j.j.j.j.j.j.e))<|gd (ib (ar .sub .i64 (ln v21.j.j.j.j.j.j.j.j.j.e) 1) (ln v21.j.j.j.j.j.j.j.j.j.e))<|ge v21.j.j.j.j.j.j.j.j.j.e (ar .sub .i64 (ln v21.j.j.j.j.j.j.j.j.j.e) 1) λv24=>gd (ib 0 (ln v21.j.j.j.j.e))<|ge v21.j.j.j.j.e 0 λv25=>call Xs (((v24.1,v24.2),(v25.1,v25.2)):((AI×AI)×(AI×AI))) λ(v26:AN)=>br v26 (ge v21.j.j.j.j.j.j.j.j.e (ar .sub .i64 (ln v21.j.j.j.j.j.j.j.j.e) 1) λv27=>gd (cm .eql (pl (ar .sub .i64 (ln v21.j.j.j.j.j.j.j.j.e) 1) 1) (ln v21.j.j.j.j.j.j.j.j.e))<|br (cm .leq (ar .add .i64 (ln v21.j.j.j.j.j.j.j.j.j.e) (ln v21.j.j.j.j.e)) 65536) (ge v21.j.j.j.j.j.j.j.j.e (ar .sub .i64 (ln v21.j.j.j.j.j.j.j.j.e) 1) λv28=>gd (cm .eql (pl (ar .sub .i64 (ln v21.j.j.j.j.j.j.j.j.e) 1) 1) (ln v21.j.j.j.j.j.j.j.j.e))<|gd (ft 16 (pl (ln v21.j.j.j.j.j.j.j.j.j.e) (ln v21.j.j.j.j.e)))<|ge v21.j.j.j.j.j.j.j.j.e (ar .sub .i64 (ln v21.j.j.j.j.j.j.j.j.e) 1) λv29=>gd (cm .eql (pl (ar .sub .i64 (ln v21.j.j.j.j.j.j.j.j.e) 1) 1) (ln v21.j.j.j.j.j.j.j.j.e))<|some (.go ⟨(ar .sub .i64 v21.e 1),v21.j.e,v21.j.j.e,v21.j.j.j.e,v21.j.j.j.j.j.e,v21.j.j.j.j.j.j.e,v21.j.j.j.j.j.j.j.e,(st v21.j.j.j.j.j.j.j.j.e (ar .sub .i64 (ln v21.j.j.j.j.j.j.j.j.e) 1) (v29.1,(v29.2.1,v29.2.2))),(ap v21.j.j.j.j.j.j.j.j.j.e v21.j.j.j.j.e),()⟩)) (gd (ft 40 (pl (ln v21.j.j.j.j.j.j.j.j.e) 1))<|some (.go ⟨(ar .sub .i64 v21.e 1),v21.j.e,v21.j.j.e,v21.j.j.j.e,v21.j.j.j.j.j.e,v21.j.j.j.j.j.j.e,v21.j.j.j.j.j.j.j.e,(ap (ml v21.j.j.j.j.j.j.j.j.e λy=>(y.1,(y.2.1,v21.j.j.j.j.j.j.j.j.j.e))) ((3,(AF,[]))::[])),v21.j.j.j.j.e,()⟩))) (gd (ft 40 (pl (ln v21.j.j.j.j.j.j.j.j.e) 1))<|some (.go ⟨(ar .sub .i64 v21.e 1),v21.j.e,v21.j.j.e,v21.j.j.j.e,v21.j.j.j.j.j.e,v21.j.j.j.j.j.j.e,v21.j.j.j.j.j.j.j.e,(ap (ml v21.j.j.j.j.j.j.j.j.e λy=>(y.1,(y.2.1,v21.j.j.j.j.j.j.j.j.j.e))) ((3,(AF,[]))::[])),v21.j.j.j.j.e,()⟩))) (gd (ft 40 (pl (ln v21.j.j.j.j.j.j.j.j.e) 1))<|some (.go ⟨(ar .sub .i64 v21.e 1),v21.j.e,v21.j.j.e,v21.j.j.j.e,v21.j.j.j.j.j.e,v21.j.j.j.j.j.j.e,v21.j.j.j.j.j.j.j.e,(ap (ml v21.j.j.j.j.j.j.j.j.e λy=>(y.1,(y.2.1,v21.j.j.j.j.j.j.j.j.j.e))) ((3,(AF,[]))::[])),v21.j.j.j.j.e,()⟩))) (AC (.out ⟨s.j.e,s.j.j.e,s.j.j.j.e,s.j.j.j.j.j⟩))
noncomputable def zp[W](s:Gn):AH (Nx Gn (HP Uu Uw)):=br (cm .lss s.j.j.e s.j.e) (ge s.e s.j.j.e λv1=>call Kb ((v1.1,2):(AI×AI)) λ(v2:AI)=>br (cm .eql v2 0) (loop Y7 ⟨s.e,s.j.e,s.j.j.e,v1.2,(ln v1.2),0,v1.1,v1.2,s.j.j.j⟩ λv14=>AC (.go ⟨v14.e,v14.j.e,(ar .add .i64 v14.j.j.e 1),v14.j.j.j⟩)) (loop Zf ⟨(ar .sub .i64 (ln v1.2) 1),s.e,s.j.e,s.j.j.e,v1.2,v1.1,v1.2,s.j.j.j⟩ λv30=>AC (.go ⟨v30.e,v30.j.e,(ar .add .i64 v30.j.j.e 1),v30.j.j.j.j.j⟩))) (AC (.out s.j.j.j))
noncomputable def Zt[W](a:Uv):AH Uu:=call Je (a:Uv) λ(v0:AN)=>br (nt v0) (AC []) (loop zp ⟨a,(ln a),0,[],[],()⟩ λv31=>AC (ml v31.e λy=>(y.1,(y.2.1,v31.j.e))))
noncomputable def K3:BQ:=⟨51,[(.ag,(.ls (.p I (.ls (.p I I)))))],[(AF,(.ls (.p I (.p .bool (.ls (.p I I))))))],@Zt wv⟩
noncomputable def Jfp:KP:=⟨51,[(.ag,(.ls (.p I (.ls (.p I I)))))],39,(.p I (.p .bool (.ls (.p I I)))),@Zt wv⟩
theorem Jpp(w:W)(a):M9 (dW w) (Im (Eh [(157,Xs),(96,Kb),(23,Je)]) [0,1,2,3,4,5,6,7,8,9,10,11,12,13,14,15,16,17,18] [] [] [12] [] []) 8 51 [(.ag,(.ls (.p I (.ls (.p I I)))))] (.p I (.p .bool (.ls (.p I I)))) 39 a=@Zt w a:=by kernel_rfl
theorem Jp3:Mq PG Jfp:=own (Eh [(157,Xs),(96,Kb),(23,Je)]) [0,1,2,3,4,5,6,7,8,9,10,11,12,13,14,15,16,17,18] [] [] [12] [] [] 8 (Jc Jns (Jc ny (Jc Ks Jo))) Jz Jy (Jn (by kernel_rfl)) rfl (by decide) rfl (Jpp wv)
theorem Jrk(w:W)(a):Cv (dW w) (Im (Eh [(157,Xs),(96,Kb),(23,Je)]) [0,1,2,3,4,5,6,7,8,9,10,11,12,13,14,15,16,17,18] [] [] [12] [] []) 8 51 K3.as K3.rs a=@Zt w a:=by kernel_rfl
theorem Jr7:V3 K3:=good (Eh [(157,Xs),(96,Kb),(23,Je)]) [0,1,2,3,4,5,6,7,8,9,10,11,12,13,14,15,16,17,18] [] [] [12] [] [] 8 (Jc Jns (Jc ny (Jc Ks Jo))) Jz Jy (Jn (by kernel_rfl)) rfl rfl rfl rfl (Jrk wv)
noncomputable def Jcr[W](s:Gv):AH (Nx Gv (Gr⊕Uw)):=br (cm .lss s.j.j.e s.j.e) (ge s.e s.j.j.e λv0=>br (cm .leq v0.2 v0.1) (AC (.go ⟨s.e,s.j.e,(ar .add .i64 s.j.j.e 1),s.j.j.j⟩)) (call Zj ((v0.1,v0.2):(AI×AI)) λ(v1:AN)=>br (nt v1) (AC (.out (.inl ⟨8,()⟩))) (gd (ft 16 (pl (ln s.j.j.j.e) 1))<|some (.go ⟨s.e,s.j.e,(ar .add .i64 s.j.j.e 1),(ap s.j.j.j.e ((v0.1,v0.2)::[])),()⟩)))) (AC (.out (.inr s.j.j.j)))
noncomputable def uW[W](a:Ut):AH (Ut×AI):=loop Jcr ⟨a,(ln a),0,[],()⟩ λv2=>match v2 with|.inl v3=>(AC ([],v3.e))|.inr v4=>(call Jmi (v4.e:Ut) λ(v5:Ut)=>call cK (v5:Ut) λ(d:Ut)=>AC (d,0))
noncomputable def kE:BQ:=⟨156,[(.one,(.ls (.p I I)))],[(AF,(.ls (.p I I))),(AF,I)],@uW wv⟩
theorem J05(w:W)(a):Cv (dW w) (Im (Eh [(129,Zj),(210,cK)]) [] [] [xD] [] [] []) 8 156 kE.as kE.rs a=@uW w a:=by kernel_rfl
theorem J0v:V3 kE:=good (Eh [(129,Zj),(210,cK)]) [] [] [xD] [] [] [] 8 (Jc Jqz (Jc J1d Jo)) (wL J53 Jz) Jy (Jn (by kernel_rfl)) rfl rfl rfl rfl (J05 wv)
noncomputable def zk[W](s:Gq):AH (Nx Gq Gt):=br (cm .lss s.j.j.j.j.j.j.j.e s.j.j.j.j.j.j.e) (ge s.j.j.j.j.j.e s.j.j.j.j.j.j.j.e λv1=>gd (ft 16 (pl (ln s.j.j.j.j.j.j.j.j.e) 1))<|some (.go ⟨s.e,s.j.e,s.j.j.e,s.j.j.j.e,s.j.j.j.j.e,s.j.j.j.j.j.e,s.j.j.j.j.j.j.e,(ar .add .i64 s.j.j.j.j.j.j.j.e 1),(ap s.j.j.j.j.j.j.j.j.e (((mx (ar .sub .i64 v1.1 s.j.e) (-4096)),(mn (ar .add .i64 v1.2 s.j.e) 4096))::[])),()⟩)) (AC (.out ⟨s.e,s.j.e,s.j.j.e,s.j.j.j.e,s.j.j.j.j.e,s.j.j.j.j.j.j.j.j⟩))
noncomputable def zj[W](s:Gt):AH (Nx Gt Uw):=br (cm .lss s.j.j.j.j.e s.j.j.j.e) (ge s.j.j.e s.j.j.j.j.e λv0=>br (cm .lss v0.1 (ar .sub .i64 s.e s.j.e)) (AC (.go ⟨s.e,s.j.e,s.j.j.e,s.j.j.j.e,(ar .add .i64 s.j.j.j.j.e 1),s.j.j.j.j.j⟩)) (br (cm .gtr v0.1 (ar .add .i64 s.e s.j.e)) (AC (.go ⟨s.e,s.j.e,s.j.j.e,s.j.j.j.e,(ar .add .i64 s.j.j.j.j.e 1),s.j.j.j.j.j⟩)) (loop zk ⟨s.e,s.j.e,s.j.j.e,s.j.j.j.e,s.j.j.j.j.e,v0.2,(ln v0.2),0,s.j.j.j.j.j⟩ λv2=>AC (.go ⟨v2.e,v2.j.e,v2.j.j.e,v2.j.j.j.e,(ar .add .i64 v2.j.j.j.j.e 1),v2.j.j.j.j.j⟩)))) (AC (.out s.j.j.j.j.j))
noncomputable def vE[W](a:(Uv×(AI×AI))):AH Ut:=loop zj ⟨a.2.1,a.2.2,a.1,(ln a.1),0,[],()⟩ λv3=>call kE (v3.e:Ut) λ(v4:(Ut×AI))=>AC v4.1
noncomputable def Zx:BQ:=⟨101,[(.ag,(.ls (.p I (.ls (.p I I))))),(.one,I),(.one,I)],[(AF,(.ls (.p I I)))],@vE wv⟩
theorem Jru(w:W)(a):Cv (dW w) (V1 [(156,kE)]) 8 101 Zx.as Zx.rs a=@vE w a:=by kernel_rfl
theorem Jrr:V3 Zx:=V2 (Jc J0v Jo) (Jn (by kernel_rfl)) rfl rfl rfl rfl (Jru wv)
noncomputable def Ze[W](s:Gz):AH (Nx Gz (HP Uv Unit)):=br (cm .lss s.j.j.j.e s.j.j.e) (ge s.j.e s.j.j.j.e λv0=>call Zx ((s.j.j.j.j.e,(v0.1,s.e)):(Uv×(AI×AI))) λ(v1:Ut)=>call J4 ((v0.2,v1):(Ut×Ut)) λ(v2:Ut)=>br (cm .gtr (ln v2) 0) (gd (ft 32 (pl (ln s.j.j.j.j.j.e) 1))<|some (.go ⟨s.e,s.j.e,s.j.j.e,(ar .add .i64 s.j.j.j.e 1),s.j.j.j.j.e,(ap s.j.j.j.j.j.e ((v0.1,v2)::[])),()⟩)) (AC (.go ⟨s.e,s.j.e,s.j.j.e,(ar .add .i64 s.j.j.j.e 1),s.j.j.j.j⟩))) (AC (.out s.j.j.j.j.j))
noncomputable def Zy[W](a:(Uv×(Uv×AI))):AH Uv:=loop Ze ⟨a.2.2,a.1,(ln a.1),0,a.2.1,[],()⟩ λv3=>AC v3.e
noncomputable def Kt:BQ:=⟨49,[(.ag,(.ls (.p I (.ls (.p I I))))),(.ag,(.ls (.p I (.ls (.p I I))))),(.one,I)],[(AE,(.ls (.p I (.ls (.p I I)))))],@Zy wv⟩
theorem Jr5(w:W)(a):Cv (dW w) (V1 [(101,Zx),(91,J4)]) 8 49 Kt.as Kt.rs a=@Zy w a:=by kernel_rfl
theorem Jju:V3 Kt:=V2 (Jc Jrr (Jc Jdv Jo)) (Jn (by kernel_rfl)) rfl rfl rfl rfl (Jr5 wv)
noncomputable def Qu[W](s:Ux):AH (Nx Ux Gy):=br (cm .lss s.j.j.e s.j.e) (gd (ib s.j.j.e (ln s.j.j.j.e))<|ge s.j.j.j.e s.j.j.e λa=>AC (.go ⟨s.e,s.j.e,(ar .add .i64 s.j.j.e 1),(st s.j.j.j.e s.j.j.e (s.e,(a.2.1,a.2.2))),s.j.j.j.j⟩)) (AC (.out s.j.j.j))
noncomputable def Jez[W](s:Ux):AH (Nx Ux Gy):=br (cm .lss s.j.j.e s.j.e) (gd (ib s.j.j.e (ln s.j.j.j.e))<|ge s.j.j.j.e s.j.j.e λv12=>AC (.go ⟨s.e,s.j.e,(ar .add .i64 s.j.j.e 1),(st s.j.j.j.e s.j.j.e (s.e,(v12.2.1,v12.2.2))),s.j.j.j.j⟩)) (AC (.out s.j.j.j))
noncomputable def Jet[W](s:Ux):AH (Nx Ux Gy):=br (cm .lss s.j.j.e s.j.e) (gd (ib s.j.j.e (ln s.j.j.j.e))<|ge s.j.j.j.e s.j.j.e λv18=>AC (.go ⟨s.e,s.j.e,(ar .add .i64 s.j.j.e 1),(st s.j.j.j.e s.j.j.e (s.e,(v18.2.1,v18.2.2))),s.j.j.j.j⟩)) (AC (.out s.j.j.j))
noncomputable def Jfe[W](s:Ux):AH (Nx Ux Gy):=br (cm .lss s.j.j.e s.j.e) (gd (ib s.j.j.e (ln s.j.j.j.e))<|ge s.j.j.j.e s.j.j.e λv24=>AC (.go ⟨s.e,s.j.e,(ar .add .i64 s.j.j.e 1),(st s.j.j.j.e s.j.j.e (s.e,(v24.2.1,v24.2.2))),s.j.j.j.j⟩)) (AC (.out s.j.j.j))
noncomputable def Jey[W](s:Ux):AH (Nx Ux Gy):=br (cm .lss s.j.j.e s.j.e) (gd (ib s.j.j.e (ln s.j.j.j.e))<|ge s.j.j.j.e s.j.j.e λv30=>AC (.go ⟨s.e,s.j.e,(ar .add .i64 s.j.j.e 1),(st s.j.j.j.e s.j.j.e (s.e,(v30.2.1,v30.2.2))),s.j.j.j.j⟩)) (AC (.out s.j.j.j))
noncomputable def Xz[W](a:(Uv×(AI×(AI×AI)))):AH Uu:=call Je (a.1:Uv) λ(v0:AN)=>br (nt v0) (AC []) (call Kf (a.2.2.1:AI) λ(v1:AN)=>br (nt v1) (AC []) (br (cm .eql a.2.1 0) (gd (cm .neq 2 0)<|br (cm .eql (ar .rem .i64 a.2.2.2 2) 0) (call jr ((a.1,(a.2.2.1,0)):(Uv×(AI×AI))) λ(v2:Uu)=>call K4 (v2:Uu) λ(v3:Uv)=>call Kt ((a.1,(v3,a.2.2.1)):(Uv×(Uv×AI))) λ(v4:Uv)=>call K3 (v4:Uv) λ(v5:Uu)=>loop Qu ⟨4,(ln v5),0,v5,v2,()⟩ λd=>gd (ft 40 (pl (ln d.j.e) (ln d.e)))<|some (ap d.j.e d.e)) (call Qd ((a.1,(a.2.2.1,0)):(Uv×(AI×AI))) λ(f:Uu)=>call K4 (f:Uu) λ(v9:Uv)=>call Kt ((a.1,(v9,a.2.2.1)):(Uv×(Uv×AI))) λ(v10:Uv)=>call K3 (v10:Uv) λ(v11:Uu)=>loop Jez ⟨4,(ln v11),0,v11,f,()⟩ λv13=>gd (ft 40 (pl (ln v13.j.e) (ln v13.e)))<|some (ap v13.j.e v13.e))) (br (cm .eql a.2.1 1) (call Jax ((a.1,(a.2.2.1,a.2.2.2)):(Uv×(AI×AI))) λ(v14:Uu)=>call K4 (v14:Uu) λ(v15:Uv)=>call Kt ((a.1,(v15,a.2.2.1)):(Uv×(Uv×AI))) λ(v16:Uv)=>call K3 (v16:Uv) λ(v17:Uu)=>loop Jet ⟨4,(ln v17),0,v17,v14,()⟩ λv19=>gd (ft 40 (pl (ln v19.j.e) (ln v19.e)))<|some (ap v19.j.e v19.e)) (br (cm .eql a.2.1 2) (call Jaa ((a.1,(a.2.2.1,a.2.2.2)):(Uv×(AI×AI))) λ(v20:Uu)=>call K4 (v20:Uu) λ(v21:Uv)=>call Kt ((a.1,(v21,a.2.2.1)):(Uv×(Uv×AI))) λ(v22:Uv)=>call K3 (v22:Uv) λ(v23:Uu)=>loop Jfe ⟨4,(ln v23),0,v23,v20,()⟩ λv25=>gd (ft 40 (pl (ln v25.j.e) (ln v25.e)))<|some (ap v25.j.e v25.e)) (br (cm .eql a.2.1 3) (call jt ((a.1,(a.2.2.1,a.2.2.2)):(Uv×(AI×AI))) λ(v26:Uu)=>call K4 (v26:Uu) λ(v27:Uv)=>call Kt ((a.1,(v27,a.2.2.1)):(Uv×(Uv×AI))) λ(v28:Uv)=>call K3 (v28:Uv) λ(v29:Uu)=>loop Jey ⟨4,(ln v29),0,v29,v26,()⟩ λv31=>gd (ft 40 (pl (ln v31.j.e) (ln v31.e)))<|some (ap v31.j.e v31.e)) (AC []))))))
noncomputable def Qz:BQ:=⟨14,[(.ag,(.ls (.p I (.ls (.p I I))))),(.one,I),(.one,I),(.one,I)],[(AF,(.ls (.p I (.p .bool (.ls (.p I I))))))],@Xz wv⟩
theorem Jo9(w:W)(a):Cv (dW w) (Im (Eh [(23,Je),(44,Kf),(20,K4),(49,Kt)]) [] [] [] [] [(59,Jio.bi),(51,Jfp.bi),(60,Jd3.bi),(46,Ja2.bi),(47,Jac.bi),(48,js.bi)] []) 8 14 Qz.as Qz.rs a=@Xz w a:=by kernel_rfl
theorem Jif:V3 Qz:=good (Eh [(23,Je),(44,Kf),(20,K4),(49,Kt)]) [] [] [] [] [(59,Jio.bi),(51,Jfp.bi),(60,Jd3.bi),(46,Ja2.bi),(47,Jac.bi),(48,js.bi)] [] 8 (Jc Ks (Jc vC (Jc Jrw (Jc Jju Jo)))) Jz (Lm (ZG Jlk) (Lm (ZG Jp3) (Lm (ZG Jny) (Lm (ZG Jjk) (Lm (ZG Jhu) (Lm (ZG Jhh) Jy)))))) (Jn (by kernel_rfl)) rfl rfl rfl rfl (Jo9 wv)
noncomputable def ju[W](a:Unit):AH AN:=call K3 (((0,((0,2)::[]))::((1,((0,2)::[]))::[])):Uv) λ(v0:Uu)=>br (cm .eql (ln v0) 1) (ge v0 0 λv1=>br (cm .eql (ln v1.2.2) 4) (ge v0 0 λv2=>ge v2.2.2 2 λv3=>br (an (cm .eql v3.1 1) (cm .eql v3.2 1)) (ge v0 0 λv4=>br (cm .eql v4.1 3) (call jr ((((0,((0,2)::[]))::((1,((0,2)::[]))::[])),(1,0)):(Uv×(AI×AI))) λ(v5:Uu)=>br (cm .eql (ln v5) 2) (call Qd ((((0,((0,2)::[]))::((1,((0,2)::[]))::[])),(2,1)):(Uv×(AI×AI))) λ(f:Uu)=>br (cm .eql (ln f) 1) (call Qz ((((0,((0,2)::[]))::((1,((0,2)::[]))::[])),(0,(2,0))):(Uv×(AI×(AI×AI)))) λ(d:Uu)=>AC (cm .eql (ln d) 1)) (AC AF)) (AC AF)) (AC AF)) (AC AF)) (AC AF)) (AC AF)
noncomputable def J3:BQ:=⟨16,[],[(AF,.bool)],@ju wv⟩
theorem Jip(w:W)(a):Cv (dW w) (V1 [(51,K3),(59,jr),(60,Qd),(14,Qz)]) 8 16 J3.as J3.rs a=@ju w a:=by kernel_rfl
theorem Jh8:V3 J3:=V2 (Jc Jr7 (Jc Jhz (Jc Jho (Jc Jif Jo)))) (Jn (by kernel_rfl)) rfl rfl rfl rfl (Jip wv)
noncomputable def Xl[W](s:(HP Uu (HP AI Gc))):AH (Nx (HP Uu (HP AI Gc)) (Gr⊕Gr)):=br (cm .lss s.j.j.j.e (ln s.e)) (ge s.e s.j.j.j.e λv0=>ge s.e s.j.j.j.e λv1=>call Kv ((v1.1,(v1.2.1,v1.2.2)):(AI×(AN×Ut))) λ(v2:AN)=>br (nt v2) (AC (.out (.inl ⟨0,()⟩))) (ge s.e s.j.j.j.e λv3=>br (cm .neq v3.1 s.j.e) (AC (.out (.inl ⟨0,()⟩))) (AC (.go ⟨s.e,s.j.e,(ar .add .i64 s.j.j.e (ln v0.2.2)),(ar .add .i64 s.j.j.j.e 1),()⟩)))) (AC (.out (.inr ⟨s.j.j.e,()⟩)))
noncomputable def Xf[W](a:(Uu×AI)):AH (AI×AN):=loop Xl ⟨a.1,a.2,0,0,()⟩ λv4=>match v4 with|.inl v5=>(AC (v5.e,AF))|.inr d=>(AC (d.e,AE))
noncomputable def Qn:BQ:=⟨40,[(.one,(.ls (.p I (.p .bool (.ls (.p I I)))))),(.one,I)],[(AF,I),(AF,.bool)],@Xf wv⟩
theorem Jh7(w:W)(a):Cv (dW w) (V1 [(35,Kv)]) 8 40 Qn.as Qn.rs a=@Xf w a:=by kernel_rfl
theorem Jiq:V3 Qn:=V2 (Jc zU Jo) (Jn (by kernel_rfl)) rfl rfl rfl rfl (Jh7 wv)
noncomputable def Jcn[W](s:(HP AI Gi)):AH (Nx (HP AI Gi) Gr):=br (cm .lss s.e s.j.e) (gd (cm .neq 2 0)<|call Kt ((s.j.j.e,(s.j.j.j.e,(ar .quo .i64 (ar .add .i64 s.e s.j.e) 2))):(Uv×(Uv×AI))) λ(v2:Uv)=>br (cm .eql (ln v2) 0) (AC (.go ⟨s.e,(ar .quo .i64 (ar .add .i64 s.e s.j.e) 2),s.j.j⟩)) (AC (.go ⟨(ar .add .i64 (ar .quo .i64 (ar .add .i64 s.e s.j.e) 2) 1),s.j⟩))) (AC (.out ⟨s.e,()⟩))
noncomputable def uY[W](a:(Uv×Uv)):AH AI:=call Je (a.1:Uv) λ(v0:AN)=>br (nt v0) (AC (-1)) (call Je (a.2:Uv) λ(v1:AN)=>br (nt v1) (AC (-1)) (br (cm .eql (ln a.1) 0) (AC 0) (br (cm .eql (ln a.2) 0) (AC (-1)) (loop Jcn ⟨0,8192,a.1,a.2,()⟩ λv3=>AC v3.e))))
noncomputable def kC:BQ:=⟨41,[(.ag,(.ls (.p I (.ls (.p I I))))),(.ag,(.ls (.p I (.ls (.p I I)))))],[(AF,I)],@uY wv⟩
theorem J0i(w:W)(a):Cv (dW w) (V1 [(49,Kt),(23,Je)]) 8 41 kC.as kC.rs a=@uY w a:=by kernel_rfl
theorem Jzw:V3 kC:=V2 (Jc Jju (Jc Ks Jo)) (Jn (by kernel_rfl)) rfl rfl rfl rfl (J0i wv)
noncomputable def j9[W](a:(Uv×Uv)):AH AN:=call Je (a.1:Uv) λ(v0:AN)=>br v0 (call Je (a.2:Uv) λ(v1:AN)=>br v1 (call Xu ((a.1,a.2):(Uv×Uv)) λ(v2:Uv)=>AC (cm .eql (ln v2) 0)) (AC AF)) (AC AF)
noncomputable def Y9:BQ:=⟨42,[(.ag,(.ls (.p I (.ls (.p I I))))),(.ag,(.ls (.p I (.ls (.p I I)))))],[(AF,.bool)],@j9 wv⟩
theorem Jpx(w:W)(a):Cv (dW w) (V1 [(23,Je),(36,Xu)]) 8 42 Y9.as Y9.rs a=@j9 w a:=by kernel_rfl
theorem Jqa:V3 Y9:=V2 (Jc Ks (Jc Jmu Jo)) (Jn (by kernel_rfl)) rfl rfl rfl rfl (Jpx wv)
noncomputable def Kw[W](a:(Uv×(AI×(AI×AI)))):AH AN:=call Xa (a.1:Uv) λ(v0:Uv)=>call Qz ((v0,(a.2.1,(a.2.2.1,a.2.2.2))):(Uv×(AI×(AI×AI)))) λ(v1:Uu)=>call K2 (v0:Uv) λ(v2:AN)=>br (nt v2) (br (cm .eql (ln v1) 0) (call J3 (():Unit) λ(v3:AN)=>AC v3) (AC AF)) (br (cm .lss a.2.1 0) (br (cm .eql (ln v1) 0) (call J3 (():Unit) λ(v4:AN)=>AC v4) (AC AF)) (br (cm .gtr a.2.1 3) (br (cm .eql (ln v1) 0) (call J3 (():Unit) λ(v5:AN)=>AC v5) (AC AF)) (br (cm .lss a.2.2.1 1) (br (cm .eql (ln v1) 0) (call J3 (():Unit) λ(g:AN)=>AC g) (AC AF)) (br (cm .gtr a.2.2.1 64) (br (cm .eql (ln v1) 0) (call J3 (():Unit) λ(f:AN)=>AC f) (AC AF)) (call zm (v1:Uu) λ(d:Uv)=>call Qn ((v1,4):(Uu×AI)) λ(v9:(AI×AN))=>call kC ((v0,d):(Uv×Uv)) λ(v10:AI)=>br v9.2 (call Zz (d:Uv) λ(v11:AI)=>br (cm .eql v9.1 v11) (call Y9 ((d,v0):(Uv×Uv)) λ(v12:AN)=>br v12 (br (cm .geq v10 0) (br (cm .leq v10 a.2.2.1) (call J3 (():Unit) λ(v13:AN)=>AC v13) (AC AF)) (AC AF)) (AC AF)) (AC AF)) (AC AF))))))
noncomputable def Jfo:BQ:=⟨11,[(.ag,(.ls (.p I (.ls (.p I I))))),(.one,I),(.one,I),(.one,I)],[(AF,.bool)],@Kw wv⟩
theorem Jfm(w:W)(a):Cv (dW w) (V1 [(12,Xa),(14,Qz),(17,K2),(16,J3),(20,zm),(40,Qn),(41,kC),(21,Zz),(42,Y9)]) 8 11 Jfo.as Jfo.rs a=@Kw w a:=by kernel_rfl
theorem Jfn:V3 Jfo:=V2 (Jc Jjx (Jc Jif (Jc Jhv (Jc Jh8 (Jc Jgu (Jc Jiq (Jc Jzw (Jc Jrt (Jc Jqa Jo))))))))) (Jn (by kernel_rfl)) rfl rfl rfl rfl (Jfm wv)
end Go.Proofs.YtmfagdfkpjgeiaaGreat
