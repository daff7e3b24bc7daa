/- The typed texts of functions, and that they are right. Conditions: none. -/
import Derived.Test.YtmfagdfkpjgeiaaGreatXJ
set_option linter.unusedVariables false
set_option linter.unusedSimpArgs false
set_option maxRecDepth 100000
namespace Go.Proofs.YtmfagdfkpjgeiaaGreat
open Go Go.Vv Go.Dn Go.Dn.W
open List renaming mem_append -> Aa, mem_singleton -> Ab, getElem?_eq_getElem -> Ac, getElem?_eq_some_iff -> Ad, mem_of_getElem? -> Ae, not_mem_nil -> Af, length_append -> Ag, getElem?_of_mem -> Ah, take_length -> Ai, append_assoc -> Aj, pairwise_iff_getElem -> Ak, dropLast_concat_getLast -> Am, pairwise_cons -> Ao, getLast?_concat -> Aq, dropLast_concat -> Ar, mem_cons -> As, length_pos_iff -> Au
open Classical renaming byContradiction -> Ap
abbrev Gs:=List (Int×Int)
abbrev Gt:=List (Int×Gs)
abbrev Gu:=List Int
abbrev Gv:=List (Int×(Bool×Gs))
abbrev Gw:=HP Gt (HP Int (HP Int (HP Gt (HP Int (HP Gs (HP Gt Unit))))))
abbrev Gx:=HP Int Unit
abbrev Gy:=HP Int (HP Int (HP Gt (HP Gt Unit)))
abbrev H0:=HP Gs (HP Int Gx)
abbrev H1:=HP Gu (HP Int (HP Bool (HP Int (HP Gu Unit))))
abbrev H2:=HP Gs Unit
abbrev Gz:=HP Gs (HP Gs (HP Int (HP Gu (HP Int H2))))
abbrev H3:=HP Int (HP Int (HP Gs (HP Int Gw)))
abbrev H4:=HP Int (HP Gt (HP Int Gx))
abbrev H5:=HP Gs (HP Int (HP Int H2))
abbrev H6:=HP Gv (HP Int (HP Gv Gy))
noncomputable def Jai[W](s:(HP Int H0)):Option (Nx (HP Int H0) Gx):=br (cm .lss s.j.j.j.e s.j.j.e) (ge s.j.e s.j.j.j.e λv1=>some (.go ⟨(ar .add .i64 s.e (ar .sub .i64 v1.2 v1.1)),⟨s.j.e,⟨s.j.j.e,⟨(ar .add .i64 s.j.j.j.e 1),()⟩⟩⟩⟩)) (some (.out ⟨s.e,()⟩))
noncomputable def Jc9[W](a:Gs):Option Int:=call Jr (a:Gs) λ(v0:Bool)=>br (nt v0) (some 0) (loop Jai ⟨0,⟨a,⟨(ln a),⟨0,()⟩⟩⟩⟩ λv2=>some v2.e)
noncomputable def Jbg:Ctr:=⟨65,[(.one,(.ls (.p I I)))],[(false,I)],@Jc9 wv⟩
theorem Jvg(w:W)(a):fnD (dW w) (V1 [(68,Jr)]) 8 65 Jbg.as Jbg.rs a=@Jc9 w a:=by kernel_rfl
theorem Jsu:V3 Jbg:=V2 (Je Jas Jq) (Jo (by kernel_rfl)) rfl rfl (Jvg wv)
noncomputable def zm[W](s:H4):Option (Nx H4 Gx):=br (cm .lss s.j.j.j.e s.j.j.e) (ge s.j.e s.j.j.j.e λv1=>call Jbg (v1.2:Gs) λ(v2:Int)=>some (.go ⟨(ar .add .i64 s.e v2),⟨s.j.e,⟨s.j.j.e,⟨(ar .add .i64 s.j.j.j.e 1),()⟩⟩⟩⟩)) (some (.out ⟨s.e,()⟩))
noncomputable def Jcb[W](a:Gt):Option Int:=call Jm (a:Gt) λ(v0:Bool)=>br (nt v0) (some 0) (loop zm ⟨0,⟨a,⟨(ln a),⟨0,()⟩⟩⟩⟩ λv3=>some v3.e)
noncomputable def Zz:Ctr:=⟨21,[(.ag,(.ls (.p I (.ls (.p I I)))))],[(false,I)],@Jcb wv⟩
theorem Jqm(w:W)(a):fnD (dW w) (V1 [(65,Jbg),(23,Jm)]) 8 21 Zz.as Zz.rs a=@Jcb w a:=by kernel_rfl
theorem Jqo:V3 Zz:=V2 (Je Jsu (Je Y7 Jq)) (Jo (by kernel_rfl)) rfl rfl (Jqm wv)
noncomputable def jo[W](a:Int):Option Bool:=br (cm .geq a (-1048576)) (some (cm .leq a 1048576)) (some false)
noncomputable def Q0:Ctr:=⟨192,[(.one,I)],[(false,.bool)],@jo wv⟩
theorem Jk4(w:W)(a):fnD (dW w) (V1 []) 8 192 Q0.as Q0.rs a=@jo w a:=by kernel_rfl
theorem Jla:V3 Q0:=V2 Jq (Jo (by kernel_rfl)) rfl rfl (Jk4 wv)
noncomputable def Xq[W](s:(HP Gs Gx)):Option (Nx (HP Gs Gx) (Unit⊕Unit)):=br (cm .lss s.j.e (ln s.e)) (ge s.e s.j.e λv0=>ge s.e s.j.e λv1=>br (cm .geq v0.1 v1.2) (some (.out (.inl ()))) (ge s.e s.j.e λv2=>call Q0 (v2.1:Int) λ(v3:Bool)=>br (nt v3) (some (.out (.inl ()))) (ge s.e s.j.e λv4=>call Q0 (v4.2:Int) λ(v5:Bool)=>br (nt v5) (some (.out (.inl ()))) (br (cm .gtr s.j.e 0) (ge s.e s.j.e λd=>ge s.e (ar .sub .i64 s.j.e 1) λa=>br (cm .leq d.1 a.2) (some (.out (.inl ()))) (some (.go ⟨s.e,⟨(ar .add .i64 s.j.e 1),()⟩⟩))) (some (.go ⟨s.e,⟨(ar .add .i64 s.j.e 1),()⟩⟩)))))) (some (.out (.inr ())))
noncomputable def j8[W](a:Gs):Option Bool:=loop Xq ⟨a,⟨0,()⟩⟩ λd=>match d with|.inl v9=>(some false)|.inr v10=>(some true)
noncomputable def Ka:Ctr:=⟨146,[(.one,(.ls (.p I I)))],[(false,.bool)],@j8 wv⟩
theorem Jhh(w:W)(a):fnD (dW w) (V1 [(192,Q0)]) 8 146 Ka.as Ka.rs a=@j8 w a:=by kernel_rfl
theorem Jct:V3 Ka:=V2 (Je Jla Jq) (Jo (by kernel_rfl)) rfl rfl (Jhh wv)
noncomputable def Km[W](s:H1):Option (Nx H1 (HP Int (HP Bool (HP Gu Unit)))):=br (cm .lss s.j.j.j.e (ln s.e)) (br (nt s.j.j.e) (ge s.e s.j.j.j.e λv0=>br (cm .leq s.j.e v0) (ge s.e s.j.j.j.e λv1=>br (cm .lss s.j.e v1) (gd (ft 8 (pl (ln s.j.j.j.j.e) 1))<|ge s.e s.j.j.j.e λv2=>gd (ft 8 (pl (ln (ap s.j.j.j.j.e (s.j.e::[]))) 1))<|some (.go ⟨s.e,⟨s.j.e,⟨true,⟨(ar .add .i64 s.j.j.j.e 1),⟨(ap (ap s.j.j.j.j.e (s.j.e::[])) (v2::[])),()⟩⟩⟩⟩⟩)) (ge s.e s.j.j.j.e λv3=>gd (ft 8 (pl (ln s.j.j.j.j.e) 1))<|some (.go ⟨s.e,⟨s.j.e,⟨true,⟨(ar .add .i64 s.j.j.j.e 1),⟨(ap s.j.j.j.j.e (v3::[])),()⟩⟩⟩⟩⟩))) (ge s.e s.j.j.j.e λv4=>gd (ft 8 (pl (ln s.j.j.j.j.e) 1))<|some (.go ⟨s.e,⟨s.j.e,⟨s.j.j.e,⟨(ar .add .i64 s.j.j.j.e 1),⟨(ap s.j.j.j.j.e (v4::[])),()⟩⟩⟩⟩⟩))) (ge s.e s.j.j.j.e λv5=>gd (ft 8 (pl (ln s.j.j.j.j.e) 1))<|some (.go ⟨s.e,⟨s.j.e,⟨s.j.j.e,⟨(ar .add .i64 s.j.j.j.e 1),⟨(ap s.j.j.j.j.e (v5::[])),()⟩⟩⟩⟩⟩))) (some (.out ⟨s.j.e,⟨s.j.j.e,s.j.j.j.j⟩⟩))
noncomputable def jd[W](a:(Gu×Int)):Option Gu:=loop Km ⟨a.1,⟨a.2,⟨false,⟨0,⟨[],()⟩⟩⟩⟩⟩ λd=>br (nt d.j.e) (gd (ft 8 (pl (ln d.j.j.e) 1))<|some (ap d.j.j.e (d.e::[]))) (some d.j.j.e)
noncomputable def K3:Ctr:=⟨228,[(.one,(.ls I)),(.one,I)],[(false,(.ls I))],@jd wv⟩
theorem Jgx(w:W)(a):fnD (dW w) (V1 []) 8 228 K3.as K3.rs a=@jd w a:=by kernel_rfl
theorem Jhb:V3 K3:=V2 Jq (Jo (by kernel_rfl)) rfl rfl (Jgx wv)
noncomputable def Xf[W](s:(HP Gs (HP Gu Gx))):Option (Nx (HP Gs (HP Gu Gx)) (HP Gu Unit)):=br (cm .lss s.j.j.e (ln s.e)) (ge s.e s.j.j.e λv0=>ge s.e s.j.j.e λv1=>br (cm .lss v0.1 v1.2) (ge s.e s.j.j.e λv2=>call K3 ((s.j.e,v2.1):(Gu×Int)) λ(v3:Gu)=>ge s.e s.j.j.e λv4=>call K3 ((v3,v4.2):(Gu×Int)) λ(v5:Gu)=>some (.go ⟨s.e,⟨v5,⟨(ar .add .i64 s.j.j.e 1),()⟩⟩⟩)) (some (.go ⟨s.e,⟨s.j.e,⟨(ar .add .i64 s.j.j.e 1),()⟩⟩⟩))) (some (.out ⟨s.j.e,()⟩))
noncomputable def jg[W](a:Gs):Option Gu:=loop Xf ⟨a,⟨[],⟨0,()⟩⟩⟩ λd=>some d.e
noncomputable def Q4:Ctr:=⟨193,[(.one,(.ls (.p I I)))],[(false,(.ls I))],@jg wv⟩
theorem Jg3(w:W)(a):fnD (dW w) (V1 [(228,K3)]) 8 193 Q4.as Q4.rs a=@jg w a:=by kernel_rfl
theorem Jg0:V3 Q4:=V2 (Je Jhb Jq) (Jo (by kernel_rfl)) rfl rfl (Jg3 wv)
noncomputable def Yx[W](s:H0):Option (Nx H0 (Unit⊕Unit)):=br (cm .lss s.j.j.e (ln s.e)) (ge s.e s.j.j.e λv0=>br (cm .leq v0.1 s.j.e) (ge s.e s.j.j.e λv1=>br (cm .lss s.j.e v1.2) (some (.out (.inl ()))) (some (.go ⟨s.e,⟨s.j.e,⟨(ar .add .i64 s.j.j.e 1),()⟩⟩⟩))) (some (.go ⟨s.e,⟨s.j.e,⟨(ar .add .i64 s.j.j.e 1),()⟩⟩⟩))) (some (.out (.inr ())))
noncomputable def Jbj[W](a:(Gs×Int)):Option Bool:=loop Yx ⟨a.1,⟨a.2,⟨0,()⟩⟩⟩ λv2=>match v2 with|.inl v3=>(some true)|.inr v4=>(some false)
noncomputable def Qz:Ctr:=⟨194,[(.one,(.ls (.p I I))),(.one,I)],[(false,.bool)],@Jbj wv⟩
theorem Jkg(w:W)(a):fnD (dW w) (V1 []) 8 194 Qz.as Qz.rs a=@Jbj w a:=by kernel_rfl
theorem Jkx:V3 Qz:=V2 Jq (Jo (by kernel_rfl)) rfl rfl (Jkg wv)
noncomputable def Xy[W](s:Gz)(v4:Bool)(a:Bool):Option (HP Gs (HP Gs (HP Int (HP Gu (HP Int (HP Bool H2)))))):=br (cm .eql s.j.j.e 2) (br v4 (some (⟨s.e,⟨s.j.e,⟨s.j.j.e,⟨s.j.j.j.e,⟨s.j.j.j.j.e,⟨true,s.j.j.j.j.j⟩⟩⟩⟩⟩⟩)) (br a (some (⟨s.e,⟨s.j.e,⟨s.j.j.e,⟨s.j.j.j.e,⟨s.j.j.j.j.e,⟨true,s.j.j.j.j.j⟩⟩⟩⟩⟩⟩)) (br (cm .eql s.j.j.e 1) (br v4 (br a (some (⟨s.e,⟨s.j.e,⟨s.j.j.e,⟨s.j.j.j.e,⟨s.j.j.j.j.e,⟨true,s.j.j.j.j.j⟩⟩⟩⟩⟩⟩)) (br (cm .eql s.j.j.e 0) (br v4 (some (⟨s.e,⟨s.j.e,⟨s.j.j.e,⟨s.j.j.j.e,⟨s.j.j.j.j.e,⟨(nt a),s.j.j.j.j.j⟩⟩⟩⟩⟩⟩)) (some (⟨s.e,⟨s.j.e,⟨s.j.j.e,⟨s.j.j.j.e,⟨s.j.j.j.j.e,⟨false,s.j.j.j.j.j⟩⟩⟩⟩⟩⟩))) (some (⟨s.e,⟨s.j.e,⟨s.j.j.e,⟨s.j.j.j.e,⟨s.j.j.j.j.e,⟨false,s.j.j.j.j.j⟩⟩⟩⟩⟩⟩)))) (br (cm .eql s.j.j.e 0) (br v4 (some (⟨s.e,⟨s.j.e,⟨s.j.j.e,⟨s.j.j.j.e,⟨s.j.j.j.j.e,⟨(nt a),s.j.j.j.j.j⟩⟩⟩⟩⟩⟩)) (some (⟨s.e,⟨s.j.e,⟨s.j.j.e,⟨s.j.j.j.e,⟨s.j.j.j.j.e,⟨false,s.j.j.j.j.j⟩⟩⟩⟩⟩⟩))) (some (⟨s.e,⟨s.j.e,⟨s.j.j.e,⟨s.j.j.j.e,⟨s.j.j.j.j.e,⟨false,s.j.j.j.j.j⟩⟩⟩⟩⟩⟩)))) (br (cm .eql s.j.j.e 0) (br v4 (some (⟨s.e,⟨s.j.e,⟨s.j.j.e,⟨s.j.j.j.e,⟨s.j.j.j.j.e,⟨(nt a),s.j.j.j.j.j⟩⟩⟩⟩⟩⟩)) (some (⟨s.e,⟨s.j.e,⟨s.j.j.e,⟨s.j.j.j.e,⟨s.j.j.j.j.e,⟨false,s.j.j.j.j.j⟩⟩⟩⟩⟩⟩))) (some (⟨s.e,⟨s.j.e,⟨s.j.j.e,⟨s.j.j.j.e,⟨s.j.j.j.j.e,⟨false,s.j.j.j.j.j⟩⟩⟩⟩⟩⟩)))))) (br (cm .eql s.j.j.e 1) (br v4 (br a (some (⟨s.e,⟨s.j.e,⟨s.j.j.e,⟨s.j.j.j.e,⟨s.j.j.j.j.e,⟨true,s.j.j.j.j.j⟩⟩⟩⟩⟩⟩)) (br (cm .eql s.j.j.e 0) (br v4 (some (⟨s.e,⟨s.j.e,⟨s.j.j.e,⟨s.j.j.j.e,⟨s.j.j.j.j.e,⟨(nt a),s.j.j.j.j.j⟩⟩⟩⟩⟩⟩)) (some (⟨s.e,⟨s.j.e,⟨s.j.j.e,⟨s.j.j.j.e,⟨s.j.j.j.j.e,⟨false,s.j.j.j.j.j⟩⟩⟩⟩⟩⟩))) (some (⟨s.e,⟨s.j.e,⟨s.j.j.e,⟨s.j.j.j.e,⟨s.j.j.j.j.e,⟨false,s.j.j.j.j.j⟩⟩⟩⟩⟩⟩)))) (br (cm .eql s.j.j.e 0) (br v4 (some (⟨s.e,⟨s.j.e,⟨s.j.j.e,⟨s.j.j.j.e,⟨s.j.j.j.j.e,⟨(nt a),s.j.j.j.j.j⟩⟩⟩⟩⟩⟩)) (some (⟨s.e,⟨s.j.e,⟨s.j.j.e,⟨s.j.j.j.e,⟨s.j.j.j.j.e,⟨false,s.j.j.j.j.j⟩⟩⟩⟩⟩⟩))) (some (⟨s.e,⟨s.j.e,⟨s.j.j.e,⟨s.j.j.j.e,⟨s.j.j.j.j.e,⟨false,s.j.j.j.j.j⟩⟩⟩⟩⟩⟩)))) (br (cm .eql s.j.j.e 0) (br v4 (some (⟨s.e,⟨s.j.e,⟨s.j.j.e,⟨s.j.j.j.e,⟨s.j.j.j.j.e,⟨(nt a),s.j.j.j.j.j⟩⟩⟩⟩⟩⟩)) (some (⟨s.e,⟨s.j.e,⟨s.j.j.e,⟨s.j.j.j.e,⟨s.j.j.j.j.e,⟨false,s.j.j.j.j.j⟩⟩⟩⟩⟩⟩))) (some (⟨s.e,⟨s.j.e,⟨s.j.j.e,⟨s.j.j.j.e,⟨s.j.j.j.j.e,⟨false,s.j.j.j.j.j⟩⟩⟩⟩⟩⟩))))
noncomputable def Qr[W](s:Gz):Option (Nx Gz H2):=br (cm .lss (ar .add .i64 s.j.j.j.j.e 1) (ln s.j.j.j.e)) (ge s.j.j.j.e s.j.j.j.j.e λv3=>call Qz ((s.e,v3):(Gs×Int)) λ(v4:Bool)=>ge s.j.j.j.e s.j.j.j.j.e λv5=>call Qz ((s.j.e,v5):(Gs×Int)) λ(f:Bool)=>join (Xy s v4 f) λa=>br a.j.j.j.j.j.e (ge a.j.j.j.e a.j.j.j.j.e λd=>ge a.j.j.j.e (ar .add .i64 a.j.j.j.j.e 1) λv9=>br (cm .gtr (ln a.j.j.j.j.j.j.e) 0) (gd (ib (ar .sub .i64 (ln a.j.j.j.j.j.j.e) 1) (ln a.j.j.j.j.j.j.e))<|ge a.j.j.j.j.j.j.e (ar .sub .i64 (ln a.j.j.j.j.j.j.e) 1) λv10=>br (cm .eql v10.2 d) (gd (le 0 (ar .sub .i64 (ln a.j.j.j.j.j.j.e) 1))<|gd (le (ar .sub .i64 (ln a.j.j.j.j.j.j.e) 1) (ln a.j.j.j.j.j.j.e))<|gd (le 0 0)<|gd (le 0 (ar .sub .i64 (ln a.j.j.j.j.j.j.e) 1))<|gd (le (pl 0 (ar .sub .i64 (ln a.j.j.j.j.j.j.e) 1)) (ln a.j.j.j.j.j.j.e))<|gd (ft 16 (pl 0 (ln (ct a.j.j.j.j.j.j.e 0 (ar .sub .i64 (ln a.j.j.j.j.j.j.e) 1)))))<|gd (ib (ar .sub .i64 (ln a.j.j.j.j.j.j.e) 1) (ln a.j.j.j.j.j.j.e))<|ge a.j.j.j.j.j.j.e (ar .sub .i64 (ln a.j.j.j.j.j.j.e) 1) λv11=>gd (ft 16 (pl (ln (ct a.j.j.j.j.j.j.e 0 (ar .sub .i64 (ln a.j.j.j.j.j.j.e) 1))) 1))<|some (.go ⟨a.e,⟨a.j.e,⟨a.j.j.e,⟨a.j.j.j.e,⟨(ar .add .i64 a.j.j.j.j.e 1),⟨(ap (ct a.j.j.j.j.j.j.e 0 (ar .sub .i64 (ln a.j.j.j.j.j.j.e) 1)) ((v11.1,v9)::[])),()⟩⟩⟩⟩⟩⟩)) (gd (ft 16 (pl (ln a.j.j.j.j.j.j.e) 1))<|some (.go ⟨a.e,⟨a.j.e,⟨a.j.j.e,⟨a.j.j.j.e,⟨(ar .add .i64 a.j.j.j.j.e 1),⟨(ap a.j.j.j.j.j.j.e ((d,v9)::[])),()⟩⟩⟩⟩⟩⟩))) (gd (ft 16 (pl (ln a.j.j.j.j.j.j.e) 1))<|some (.go ⟨a.e,⟨a.j.e,⟨a.j.j.e,⟨a.j.j.j.e,⟨(ar .add .i64 a.j.j.j.j.e 1),⟨(ap a.j.j.j.j.j.j.e ((d,v9)::[])),()⟩⟩⟩⟩⟩⟩))) (some (.go ⟨a.e,⟨a.j.e,⟨a.j.j.e,⟨a.j.j.j.e,⟨(ar .add .i64 a.j.j.j.j.e 1),a.j.j.j.j.j.j⟩⟩⟩⟩⟩))) (some (.out s.j.j.j.j.j))
noncomputable def Xd[W](a:(Gs×Gs)):Option Gs:=call Ka (a.1:Gs) λ(v0:Bool)=>br (nt v0) (some []) (call Ka (a.2:Gs) λ(v1:Bool)=>br (nt v1) (some []) (gd (ft 16 (pl 0 (ln a.1)))<|gd (ft 16 (pl (ln a.1) (ln a.2)))<|call Q4 ((ap a.1 a.2):Gs) λ(v2:Gu)=>loop Qr ⟨a.1,⟨a.2,⟨1,⟨v2,⟨0,⟨[],()⟩⟩⟩⟩⟩⟩ λv12=>some v12.e))
noncomputable def Kn:Ctr:=⟨87,[(.one,(.ls (.p I I))),(.one,(.ls (.p I I)))],[(false,(.ls (.p I I)))],@Xd wv⟩
theorem Je1(w:W)(a):fnD (dW w) (cxO (gam [(194,Qz),(146,Ka),(193,Q4)]) [] [] [] [32768013] [] []) 8 87 Kn.as Kn.rs a=@Xd w a:=by kernel_rfl
theorem Je2:V3 Kn:=good (gam [(194,Qz),(146,Ka),(193,Q4)]) [] [] [] [32768013] [] [] 8 (Je Jkx (Je Jct (Je Jg0 Jq))) J4 J6 (Jo (by kernel_rfl)) rfl rfl (Je1 wv)
noncomputable def Xc[W](s:H5):Option (Nx H5 H2):=br (cm .lss s.j.j.e (ln s.e)) (ge s.e s.j.j.e λv1=>ge s.e s.j.j.e λv2=>br (cm .lss (ar .add .i64 v1.1 s.j.e) (ar .sub .i64 v2.2 s.j.e)) (ge s.e s.j.j.e λv3=>ge s.e s.j.j.e λv4=>gd (ft 16 (pl (ln s.j.j.j.e) 1))<|some (.go ⟨s.e,⟨s.j.e,⟨(ar .add .i64 s.j.j.e 1),⟨(ap s.j.j.j.e (((ar .add .i64 v3.1 s.j.e),(ar .sub .i64 v4.2 s.j.e))::[])),()⟩⟩⟩⟩)) (some (.go ⟨s.e,⟨s.j.e,⟨(ar .add .i64 s.j.j.e 1),s.j.j.j⟩⟩⟩))) (some (.out s.j.j.j))
noncomputable def Yo[W](a:(Gs×Int)):Option Gs:=call Ka (a.1:Gs) λ(v0:Bool)=>br (nt v0) (some []) (br (cm .lss a.2 0) (some []) (br (cm .gtr a.2 1048576) (some []) (loop Xc ⟨a.1,⟨a.2,⟨0,⟨[],()⟩⟩⟩⟩ λv5=>some v5.e)))
noncomputable def J8:Ctr:=⟨86,[(.one,(.ls (.p I I))),(.one,I)],[(false,(.ls (.p I I)))],@Yo wv⟩
theorem Jg4(w:W)(a):fnD (dW w) (V1 [(146,Ka)]) 8 86 J8.as J8.rs a=@Yo w a:=by kernel_rfl
theorem Jg9:V3 J8:=V2 (Je Jct Jq) (Jo (by kernel_rfl)) rfl rfl (Jg4 wv)
noncomputable def Y6[W](a:Int):Option Bool:=br (cm .geq a 0) (some (cm .leq a 64)) (some false)
noncomputable def Xg:Ctr:=⟨85,[(.one,I)],[(false,.bool)],@Y6 wv⟩
theorem Jhx(w:W)(a):fnD (dW w) (V1 []) 8 85 Xg.as Xg.rs a=@Y6 w a:=by kernel_rfl
theorem Jh2:V3 Xg:=V2 Jq (Jo (by kernel_rfl)) rfl rfl (Jhx wv)
noncomputable def J5[W](s:H3):Option (Nx H3 (HP Int (HP Gs Gw))):=br (cm .leq s.j.j.j.e s.e) (br (cm .lss (ar .sub .i64 s.j.e s.j.j.j.e) 0) (some (.out ⟨s.e,⟨[],s.j.j.j.j⟩⟩)) (ge s.j.j.j.j.j.j.j.e (ar .sub .i64 s.j.e s.j.j.j.e) λv4=>br (cm .neq v4.1 (ar .sub .i64 s.j.j.j.j.j.j.j.j.e s.j.j.j.e)) (some (.out ⟨s.e,⟨[],s.j.j.j.j⟩⟩)) (br (cm .geq (ar .add .i64 s.j.e s.j.j.j.e) (ln s.j.j.j.j.j.j.j.e)) (some (.out ⟨s.e,⟨[],s.j.j.j.j⟩⟩)) (ge s.j.j.j.j.j.j.j.e (ar .add .i64 s.j.e s.j.j.j.e) λv5=>br (cm .neq v5.1 (ar .add .i64 s.j.j.j.j.j.j.j.j.e s.j.j.j.e)) (some (.out ⟨s.e,⟨[],s.j.j.j.j⟩⟩)) (ge s.j.j.j.j.j.j.j.e (ar .sub .i64 s.j.e s.j.j.j.e) λf=>call J8 ((f.2,s.e):(Gs×Int)) λ(d:Gs)=>call Kn ((s.j.j.e,d):(Gs×Gs)) λ(a:Gs)=>ge s.j.j.j.j.j.j.j.e (ar .add .i64 s.j.e s.j.j.j.e) λv9=>call J8 ((v9.2,s.e):(Gs×Int)) λ(v10:Gs)=>call Kn ((a,v10):(Gs×Gs)) λ(v11:Gs)=>some (.go ⟨s.e,⟨s.j.e,⟨v11,⟨(ar .add .i64 s.j.j.j.e 1),s.j.j.j.j⟩⟩⟩⟩)))))) (some (.out ⟨s.e,⟨s.j.j.e,s.j.j.j.j⟩⟩))
noncomputable def Qq[W](s:(HP Int (HP Gt Gy))):Option (Nx (HP Int (HP Gt Gy)) (HP Gt Unit)):=br (cm .lss s.j.j.j.e s.j.j.e) (ge s.j.e s.j.j.j.e λv2=>call J8 ((v2.2,s.e):(Gs×Int)) λ(v3:Gs)=>loop J5 ⟨s.e,⟨s.j.j.j.e,⟨v3,⟨1,⟨s.j.e,⟨s.j.j.e,⟨s.j.j.j.e,⟨s.j.j.j.j.e,⟨v2.1,⟨v2.2,s.j.j.j.j.j⟩⟩⟩⟩⟩⟩⟩⟩⟩⟩ λv12=>br (cm .gtr (ln v12.j.e) 0) (gd (ft 32 (pl (ln v12.j.j.j.j.j.j.j.j.e) 1))<|some (.go ⟨v12.e,⟨v12.j.j.e,⟨v12.j.j.j.e,⟨(ar .add .i64 v12.j.j.j.j.e 1),⟨v12.j.j.j.j.j.e,⟨(ap v12.j.j.j.j.j.j.j.j.e ((v12.j.j.j.j.j.j.e,v12.j.e)::[])),()⟩⟩⟩⟩⟩⟩)) (some (.go ⟨v12.e,⟨v12.j.j.e,⟨v12.j.j.j.e,⟨(ar .add .i64 v12.j.j.j.j.e 1),⟨v12.j.j.j.j.j.e,v12.j.j.j.j.j.j.j.j⟩⟩⟩⟩⟩))) (some (.out s.j.j.j.j.j))
noncomputable def Qo[W](a:(Gt×Int)):Option Gt:=call Ju (a.1:Gt) λ(v0:Bool)=>br (nt v0) (some []) (call Xg (a.2:Int) λ(v1:Bool)=>br (nt v1) (some []) (loop Qq ⟨a.2,⟨a.1,⟨(ln a.1),⟨0,⟨a.1,⟨[],()⟩⟩⟩⟩⟩⟩ λv13=>some v13.e))
noncomputable def Qp:Ctr:=⟨34,[(.ag,(.ls (.p I (.ls (.p I I))))),(.one,I)],[(true,(.ls (.p I (.ls (.p I I)))))],@Qo wv⟩
theorem Jhd(w:W)(a):fnD (dW w) (V1 [(86,J8),(87,Kn),(17,Ju),(85,Xg)]) 8 34 Qp.as Qp.rs a=@Qo w a:=by kernel_rfl
theorem Jhs:V3 Qp:=V2 (Je Jg9 (Je Je2 (Je Jcm (Je Jh2 Jq)))) (Jo (by kernel_rfl)) rfl rfl (Jhd wv)
noncomputable def Kz[W](s:H6):Option (Nx H6 (Unit⊕(HP Gv (HP Int (HP Gt (HP Gt Unit)))))):=br (cm .lss s.j.j.j.j.e s.j.j.j.e) (ge s.j.j.e s.j.j.j.j.e λa=>br (cm .neq a.1 1) (some (.out (.inl ()))) (call Qj ((a.1,(a.2.1,a.2.2)):(Int×(Bool×Gs))) λ(d:Bool)=>br (nt d) (some (.out (.inl ()))) (some (.go ⟨s.e,⟨(ar .add .i64 s.j.e (ln a.2.2)),⟨s.j.j.e,⟨s.j.j.j.e,⟨(ar .add .i64 s.j.j.j.j.e 1),s.j.j.j.j.j⟩⟩⟩⟩⟩)))) (some (.out (.inr ⟨s.e,⟨s.j.e,s.j.j.j.j.j⟩⟩)))
noncomputable def Kw[W](a:(Gt×Int)):Option Bool:=call Xi (a.1:Gt) λ(v0:Bool)=>br v0 (call Kb (():Unit) λ(v1:Bool)=>some v1) (br (cm .lss a.2 0) (call Kb (():Unit) λ(v2:Bool)=>some v2) (br (cm .gtr a.2 64) (call Kb (():Unit) λ(v3:Bool)=>some v3) (call Qb ((a.1,a.2):(Gt×Int)) λ(v4:(Gv×Gt))=>call Qp ((a.1,a.2):(Gt×Int)) λ(v5:Gt)=>call Ku ((v4.2,v5):(Gt×Gt)) λ(d:Bool)=>br (nt d) (some false) (loop Kz ⟨v4.1,⟨0,⟨v4.1,⟨(ln v4.1),⟨0,⟨a.1,⟨v4.2,()⟩⟩⟩⟩⟩⟩⟩ λv9=>match v9 with|.inl v10=>(some false)|.inr v11=>(call zg (v11.e:Gv) λ(v12:Gt)=>call X8 ((v11.j.j.e,v11.j.j.j.e):(Gt×Gt)) λ(v13:Gt)=>call zd ((v12,v13):(Gt×Gt)) λ(v14:Bool)=>br v14 (call Zz (v12:Gt) λ(v15:Int)=>br (cm .eql v15 v11.j.e) (call Kb (():Unit) λ(v16:Bool)=>some v16) (some false)) (some false))))))
noncomputable def Jds:Ctr:=⟨9,[(.ag,(.ls (.p I (.ls (.p I I))))),(.one,I)],[(false,.bool)],@Kw wv⟩
theorem Jdp(w:W)(a):fnD (dW w) (V1 [(35,Qj),(28,Xi),(29,Kb),(30,Qb),(34,Qp),(25,Ku),(20,zg),(36,X8),(32,zd),(21,Zz)]) 8 9 Jds.as Jds.rs a=@Kw w a:=by kernel_rfl
theorem Jd6:V3 Jds:=V2 (Je Jf6 (Je Jhq (Je Jht (Je Jj6 (Je Jhs (Je Jc1 (Je Jul (Je Jly (Je Js5 (Je Jqo Jq)))))))))) (Jo (by kernel_rfl)) rfl rfl (Jdp wv)
theorem ok06(v:Int):@jo wv v=some (decide (-1048576<=v/\v<=1048576)):=by
 unfold jo;by_cases h:-1048576<=v
 ·rw [br_t (by rw [Jg7];exact decide_eq_true h),Jcj];simp [h]
 ·rw [br_f (by rw [Jg7];exact decide_eq_false h)];simp [h]
theorem k_ok06{α:Type}(v:Int)(k:Bool->Option α):@W.call wv α Q0 (v:Int) k=k (decide (-1048576<=v/\v<=1048576)):=ca_s (c:=Q0) (ok06 v)
theorem Valid06(l:List Run)(hl:l.length<=1000000000)(h:RunsOK (-1048576) 1048576 l):@j8 wv l=some true:=by
 have a:=K8 (b:=@Xq wv) (e:=.inr ()) (λi=>(⟨l,⟨(i:Int),()⟩⟩:HP (List Run) (HP Int Unit))) l.length (by omega) (λi hi=>by
  have hx:=Ac hi;generalize l[i]=u at hx;have w:=h.bd u (Ae hx);have hs:∀ {γ:Type} (x y:Option γ),@W.br wv γ (@W.nt wv (decide (-1048576<=u.1/\u.1<=1048576))) x y=y:=λx y=>br_f (by rw [w_nt,decide_eq_true ⟨by omega,by omega⟩];rfl);have m:∀ {γ:Type} (x y:Option γ),@W.br wv γ (@W.nt wv (decide (-1048576<=u.2/\u.2<=1048576))) x y=y:=λx y=>br_f (by rw [w_nt,decide_eq_true ⟨by omega,by omega⟩];rfl);unfold Xq;dsimp only;rw [w_ln,K1 (by omega),ge_s (fg hx),ge_s (fg hx),br_f (by rw [Jg7];exact decide_eq_false (by omega)),ge_s (fg hx),k_ok06,hs,ge_s (fg hx),k_ok06,m,Kd,wr (by omega) (by omega)];by_cases r:i=0
  ·subst r;rw [br_f (by rw [Zv];rfl)];rfl
  ·have d:=Ac (l:=l) (i:=i - 1) (by omega);have o:∀v,l[i - 1]?=some v->v.2<u.1:=λv g=>by obtain ⟨p,e⟩:=Ad.1 g;obtain ⟨q,f⟩:=Ad.1 hx;have:=Ak.1 h.pw (i - 1) i p q (by omega);rw [e,f] at this;exact this
   have g:=o _ d;generalize l[i - 1]=v at d g;rw [br_t (by rw [Zv];exact decide_eq_true (by omega)),ge_s (fg hx),ge_s (fgz (i - 1) (by rw [Yz,wr (by omega) (by omega)];omega) d),br_f (by rw [Jcj];exact decide_eq_false (by omega))];rfl) (by unfold Xq;dsimp only;rw [w_ln,J2 (by omega)])
 exact lo_s a
theorem Jpx{α:Type}{l:List Run}(hl:l.length<=1000000000)(h:RunsOK (-1048576) 1048576 l)(k:Bool->Option α):@W.call wv α Ka l k=k true:=ca_s (c:=Ka) (Valid06 l hl h)
def insR(x:Int):List Int->List Int
 | []=>[x]
 | y::r=>if x<=y then (if x<y then x::y::r else y::r) else y::insR x r
theorem Jux(x:Int)(l:List Int):(insR x l).length<=l.length+1:=by
 induction l with
 | nil=>exact Nat.le_refl _
 | cons y r a=>unfold insR;split<;>(try split)<;>simp<;>omega
theorem Juu(x:Int)(l:List Int)(z:Int):z∈insR x l↔z=x\/z∈l:=by
 induction l with
 | nil=>simp [insR]
 | cons y r a =>
  unfold insR;split
  ·split
   ·simp
   ·have:x=y:=by omega
    subst this;simp
  ·rw [As,As,a];exact ⟨λh=>h.elim (λq=>.inr (.inl q)) λq=>q.elim .inl λq=>.inr (.inr q),λh=>h.elim (λq=>.inr (.inl q)) λq=>q.elim .inl λq=>.inr (.inr q)⟩
theorem J7l(x:Int)(l:List Int)(h:l.Pairwise (·<·)):(insR x l).Pairwise (·<·):=by
 induction l with
 | nil=>exact List.pairwise_singleton _ _
 | cons y r f =>
  have d:=Ao.1 h;unfold insR;split
  ·split
   ·rename_i q;refine Ao.2 ⟨λz a=>?_,h⟩;rcases As.1 a with e|e
    ·subst e;exact q
    ·exact Int.lt_trans q (d.1 z e)
   ·exact h
  ·refine Ao.2 ⟨λz a=>?_,f d.2⟩;rcases (Juu x r z).1 a with e|e
   ·subst e;omega
   ·exact d.1 z e
abbrev In0S:=HP (List Int) (HP Int (HP Bool (HP Int (HP (List Int) Unit))))
abbrev In0O:=HP Int (HP Bool (HP (List Int) Unit))
theorem J1q(l:List Int)(x:Int)(hl:l.length<=500000000):@jd wv (l,x)=some (insR x l):=by
 obtain ⟨e,v,d,out,rfl,h⟩:=Ym (b:=@Km wv)
  (λi s=>∃(d:Bool) (out:List Int),s=(⟨l,⟨x,⟨d,⟨(i:Int),⟨out,()⟩⟩⟩⟩⟩:In0S)/\out++(if d=true then l.drop i else insR x (l.drop i))=insR x l/\out.length<=i+1)
  (λe=>∃(d:Bool) (out:List Int),e=(⟨x,⟨d,⟨out,()⟩⟩⟩:In0O)/\(if d=true then out else out++[x])=insR x l/\out.length<=l.length+1)
  l.length (by omega) (s0:=⟨l,⟨x,⟨false,⟨0,⟨[],()⟩⟩⟩⟩⟩) ⟨false,[],rfl,rfl,by simp⟩ (λi s hi=>by
   rintro ⟨d,out,rfl,a,m⟩;have hx:=Ac hi;have hd:l.drop i=l[i]::l.drop (i+1):=List.drop_eq_getElem_cons hi;generalize l[i]=y at hx hd;rw [hd] at a;have g:@W.ar wv .add .i64 (i:Int) 1=((i+1:Nat):Int):=by rw [Kd,wr (by omega) (by omega)];omega
   cases d with
   | true =>
    rw [if_pos rfl] at a;refine ⟨(⟨l,⟨x,⟨true,⟨((i+1:Nat):Int),⟨out++[y],()⟩⟩⟩⟩⟩:In0S),?_,true,out++[y],rfl,?_,by simp;omega⟩
    ·unfold Km;dsimp only;rw [w_ln,K1 (by omega),br_f (by rfl),ge_s (fg hx),w_ln,w_pl,fitB (by omega) (by omega) (by decide),w_ap,g]
    ·rw [if_pos rfl,Aj];exact a
   | false =>
    rw [if_neg (by decide)] at a;have a:out++(if x<=y then (if x<y then x::y::l.drop (i+1) else y::l.drop (i+1)) else y::insR x (l.drop (i+1)))=insR x l:=a;by_cases q:x<=y
    ·rw [if_pos q] at a;by_cases f:x<y
     ·rw [if_pos f] at a;refine ⟨(⟨l,⟨x,⟨true,⟨((i+1:Nat):Int),⟨(out++[x])++[y],()⟩⟩⟩⟩⟩:In0S),?_,true,(out++[x])++[y],rfl,?_,?_⟩
      ·have o:(out++[x]).length=out.length+1:=by simp
       unfold Km;dsimp only;rw [w_ln,K1 (by omega),br_t (by rfl),ge_s (fg hx),br_t (by rw [Jcj];exact decide_eq_true q),ge_s (fg hx),K1 f,w_ln,w_pl,fitB (by omega) (by omega) (by decide),ge_s (fg hx),w_ap,w_ln,o,w_pl,fitB (by omega) (by omega) (by decide),w_ap,g]
      ·rw [if_pos rfl,Aj,Aj];exact a
      ·have r:out.length<=i:=by have e:=congrArg List.length a;rw [Ag,List.length_cons,List.length_cons,List.length_drop] at e;have:=Jux x l;omega
       simp;omega
     ·rw [if_neg f] at a;refine ⟨(⟨l,⟨x,⟨true,⟨((i+1:Nat):Int),⟨out++[y],()⟩⟩⟩⟩⟩:In0S),?_,true,out++[y],rfl,?_,by simp;omega⟩
      ·unfold Km;dsimp only;rw [w_ln,K1 (by omega),br_t (by rfl),ge_s (fg hx),br_t (by rw [Jcj];exact decide_eq_true q),ge_s (fg hx),J2 f,ge_s (fg hx),w_ln,w_pl,fitB (by omega) (by omega) (by decide),w_ap,g]
      ·rw [if_pos rfl,Aj];exact a
    ·rw [if_neg q] at a;refine ⟨(⟨l,⟨x,⟨false,⟨((i+1:Nat):Int),⟨out++[y],()⟩⟩⟩⟩⟩:In0S),?_,false,out++[y],rfl,?_,by simp;omega⟩
     ·unfold Km;dsimp only;rw [w_ln,K1 (by omega),br_t (by rfl),ge_s (fg hx),br_f (by rw [Jcj];exact decide_eq_false q),ge_s (fg hx),w_ln,w_pl,fitB (by omega) (by omega) (by decide),w_ap,g]
     ·rw [if_neg (by decide),Aj];exact a) (by
   rintro s ⟨d,out,rfl,a,m⟩;refine ⟨_,?_,d,out,rfl,?_,m⟩
   ·unfold Km;dsimp only;rw [w_ln,J2 (by omega)]
   ·rw [List.drop_length] at a;cases d with
    | true=>rw [if_pos rfl,List.append_nil] at a;exact a
    | false=>exact a)
 refine (lo_s v).trans ?_;dsimp only;cases d with
 | true=>rw [br_f (by rfl)];exact congrArg some h.1
 | false =>
  rw [br_t (by rfl),w_ln,w_pl,fitB (by omega) (by omega) (by decide),w_ap];exact congrArg some h.1
theorem bounds06(l:List Run)(hl:l.length<=200000000)(d:∀u∈l,u.1<u.2):∃b,@jg wv l=some b/\b.Pairwise (·<·)/\b.length<=2 * l.length/\∀x,x∈b↔∃u∈l,x=u.1\/x=u.2:=by
 obtain ⟨e,r,b,rfl,h⟩:=Ym (b:=@Xf wv)
  (λi s=>∃b:List Int,s=(⟨l,⟨b,⟨(i:Int),()⟩⟩⟩:HP (List Run) (HP (List Int) (HP Int Unit)))/\b.Pairwise (·<·)/\b.length<=2 * i/\∀x,x∈b↔∃u∈l.take i,x=u.1\/x=u.2)
  (λe=>∃b:List Int,e=(⟨b,()⟩:HP (List Int) Unit)/\b.Pairwise (·<·)/\b.length<=2 * l.length/\∀x,x∈b↔∃u∈l,x=u.1\/x=u.2)
  l.length (by omega) (s0:=⟨l,⟨[],⟨0,()⟩⟩⟩) ⟨[],rfl,.nil,by simp,by simp⟩ (λi s hi=>by
   rintro ⟨b,rfl,g,m,f⟩;have hx:=Ac hi;generalize l[i]=u at hx;have o:=d u (Ae hx);have A:=Jux u.1 b;have y:=Jux u.2 (insR u.1 b);have w:@W.ar wv .add .i64 (i:Int) 1=((i+1:Nat):Int):=by rw [Kd,wr (by omega) (by omega)];omega
   refine ⟨(⟨l,⟨insR u.2 (insR u.1 b),⟨((i+1:Nat):Int),()⟩⟩⟩:HP (List Run) (HP (List Int) (HP Int Unit))),?_,_,rfl,J7l _ _ (J7l _ _ g),by omega,λx=>?_⟩
   ·unfold Xf;dsimp only;rw [w_ln,K1 (by omega),ge_s (fg hx),ge_s (fg hx),K1 o,ge_s (fg hx)];refine (ca_s (c:=K3) (J1q b u.1 (by omega))).trans ?_;rw [ge_s (fg hx)];refine (ca_s (c:=K3) (J1q _ u.2 (by omega))).trans ?_;rw [w]
   ·rw [Juu,Juu,f,Kq hx];constructor
    ·rintro (e|e|⟨v,a,e⟩)
     ·exact ⟨u,Aa.2 (.inr (Ab.2 rfl)),.inr e⟩
     ·exact ⟨u,Aa.2 (.inr (Ab.2 rfl)),.inl e⟩
     ·exact ⟨v,Aa.2 (.inl a),e⟩
    ·rintro ⟨v,a,e⟩;rcases Aa.1 a with q|q
     ·exact .inr (.inr ⟨v,q,e⟩)
     ·rw [Ab] at q;subst q;exact e.elim (λe=>.inr (.inl e)) .inl) (by rintro s ⟨b,rfl,g,m,f⟩;refine ⟨_,?_,b,rfl,g,m,λx=>by rw [f,Ai]⟩;unfold Xf;dsimp only;rw [w_ln,J2 (by omega)])
 exact ⟨b,(lo_s r).trans rfl,h⟩
open Classical in
theorem in06(l:List Run)(x:Int)(hl:l.length<=1000000000):@Jbj wv (l,x)=some (decide (Jd l x)):=by
 have d:=J2g (b:=@Yx wv) l (by omega) (λi=>(⟨l,⟨x,⟨(i:Int),()⟩⟩⟩:HP (List Run) (HP Int (HP Int Unit)))) (λu:Run=>u.1<=x/\x<u.2) (λi u=>.inl ()) (.inr ()) (λi u hi hx=>by
  have m:@W.ar wv .add .i64 (i:Int) 1=((i+1:Nat):Int):=by rw [Kd,wr (by omega) (by omega)];omega
  unfold Yx;dsimp only;rw [w_ln,K1 (by omega),ge_s (fg hx),ge_s (fg hx),m];simp only [w_br,Jcj,Job,decide_eq_true_eq];refine ⟨λ⟨a,b⟩=>by rw [if_pos a,if_pos b],λh=>?_⟩;by_cases a:u.1<=x
  ·rw [if_pos a,if_neg λb=>h ⟨a,b⟩]
  ·rw [if_neg a]) (by unfold Yx;dsimp only;rw [w_ln,J2 (by omega)])
 obtain ⟨e,g,h⟩:=d;refine (lo_s g).trans ?_;rcases h with ⟨rfl,h⟩|⟨i,u,f,h,rfl⟩
 ·rw [decide_eq_false λ⟨u,f,q⟩=>h u f q]
 ·rw [decide_eq_true ⟨u,Ae f,h⟩]
open Classical in
theorem k_in06{α:Type}{l:List Run}(x:Int)(hl:l.length<=1000000000)(k:Bool->Option α):@W.call wv α Qz ((l,x):List Run×Int) k=k (decide (Jd l x)):=ca_s (c:=Qz) (in06 l x hl)
abbrev Xs0S:=HP (List Run) (HP (List Run) (HP Int (HP (List Int) (HP Int (HP (List Run) Unit)))))
theorem J1_ok(s:Xs0S)(g:s.j.j.e=1)(x y:Bool):@Xy wv s x y=some ⟨s.e,⟨s.j.e,⟨1,⟨s.j.j.j.e,⟨s.j.j.j.j.e,⟨x&&y,⟨s.j.j.j.j.j.e,()⟩⟩⟩⟩⟩⟩⟩:=by obtain ⟨a,b,c,d,e,f,u⟩:=s;have g:c=1:=g;subst g;cases x<;>cases y<;>rfl
def putR(out:List Run)(p q:Int):List Run:=match out.getLast? with
 | some v=>if v.2=p then out.dropLast++[(v.1,q)] else out++[(p,q)]
 | none=>out++[(p,q)]
theorem putR_len(out:List Run)(p q:Int):(putR out p q).length<=out.length+1:=by
 unfold putR;split
 ·split
  ·simp
  ·simp
 ·simp
def UpTo(a b out:List Run)(p:Int):Prop:=Je4 out/\(∀u∈out,u.2<=p)/\∀x,x<p->(Jd out x↔Jd a x/\Jd b x)
theorem upTo_put{a b out:List Run}{p q:Int}(h:UpTo a b out p)(H:p<q)(M:∀x,p<=x->x<q->Jd a x)(L:∀x,p<=x->x<q->Jd b x):UpTo a b (putR out p q) q:=by
 obtain ⟨G,F,N⟩:=h;have add:∀l:List Run,(∀x,Jd l x↔Jd out x\/(p<=x/\x<q))->∀x,x<q->(Jd l x↔Jd a x/\Jd b x):=λl hl x hx=>by
  rw [hl];by_cases c:x<p
  ·rw [<-N x c];exact ⟨λg=>g.elim id λg=>by omega,.inl⟩
  ·exact ⟨λ_=>⟨M x (by omega) hx,L x (by omega) hx⟩,λ_=>.inr ⟨by omega,hx⟩⟩
 have app:UpTo a b (out++[(p,q)]) q\/∃v,out.getLast?=some v/\v.2=p:=by
  by_cases c:∃v,out.getLast?=some v/\v.2=p
  ·exact .inr c
  refine .inl ⟨Jar.2 ⟨G,H,λv B=>?_⟩,λu A=>?_,add _ λx=>?_⟩
  ·have:=F v B;have E:v.2≠p:=λe=>by
    obtain ⟨r,z,rfl⟩:∃r z,out=r++[z]:=⟨_,_,(Am (List.ne_nil_of_mem B)).symm⟩;refine c ⟨z,Aq,?_⟩;have P:=F z (Aa.2 (.inr (Ab.2 rfl)));rcases Aa.1 B with m|m
    ·have R:=(Jar.1 G).2.2 v m;have Q:=(Jar.1 G).2.1;omega
    ·rw [Ab] at m;rw [<-m];exact e
   dsimp only;omega
  ·rcases Aa.1 A with m|m
   ·have:=F u m;omega
   ·rw [Ab] at m;subst m;exact Int.le_refl _
  ·constructor
   ·rintro ⟨u,A,y,o⟩;rcases Aa.1 A with m|m
    ·exact .inl ⟨u,m,y,o⟩
    ·rw [Ab] at m;subst m;exact .inr ⟨y,o⟩
   ·rintro (⟨u,A,g⟩|⟨y,o⟩)
    ·exact ⟨u,Aa.2 (.inl A),g⟩
    ·exact ⟨_,Aa.2 (.inr (Ab.2 rfl)),y,o⟩
 unfold putR;cases B:out.getLast? with
 | none =>
  rcases app with g|⟨v,e,_⟩
  ·exact g
  ·rw [B] at e;cases e
 | some v =>
  dsimp only;by_cases c:v.2=p
  ·rw [if_pos c];obtain ⟨r,rfl⟩:∃r,out=r++[v]:=by
    have E:out≠[]:=by rintro rfl;cases B
    refine ⟨out.dropLast,?_⟩;have:=Am E;rw [List.getLast?_eq_some_getLast E] at B;cases B;exact this.symm
   rw [Ar];obtain ⟨K,O,J⟩:=Jar.1 G;refine ⟨Jar.2 ⟨K,by dsimp only;omega,J⟩,λu A=>?_,add _ λx=>?_⟩
   ·rcases Aa.1 A with m|m
    ·have:=F u (Aa.2 (.inl m));omega
    ·rw [Ab] at m;subst m;exact Int.le_refl _
   ·constructor
    ·rintro ⟨u,A,y,o⟩;rcases Aa.1 A with m|m
     ·exact .inl ⟨u,Aa.2 (.inl m),y,o⟩
     ·rw [Ab] at m;subst m;dsimp only at y o;by_cases d:x<p
      ·exact .inl ⟨v,Aa.2 (.inr (Ab.2 rfl)),y,by omega⟩
      ·exact .inr ⟨by omega,o⟩
    ·rintro (⟨u,A,y,o⟩|⟨y,o⟩)
     ·rcases Aa.1 A with m|m
      ·exact ⟨u,Aa.2 (.inl m),y,o⟩
      ·rw [Ab] at m;subst m;exact ⟨_,Aa.2 (.inr (Ab.2 rfl)),y,by dsimp only;omega⟩
     ·exact ⟨_,Aa.2 (.inr (Ab.2 rfl)),by dsimp only;omega,o⟩
  ·rw [if_neg c];rcases app with g|⟨w,e,f⟩
   ·exact g
   ·rw [B] at e;cases e;exact (c f).elim
theorem J8q{a b out:List Run}{p q:Int}(h:UpTo a b out p)(l:p<q)(m:∀x,p<=x->x<q->¬(Jd a x/\Jd b x)):UpTo a b out q:=by
 obtain ⟨r,f,o⟩:=h;refine ⟨r,λu d=>by have:=f u d;omega,λx hx=>?_⟩;by_cases c:x<p
 ·exact o x c
 ·refine ⟨λ⟨u,d,w,v⟩=>by have:=f u d;omega,λg=>(m x (by omega) hx g).elim⟩
theorem J52{l:List Run}{bs:List Int}(w:bs.Pairwise (·<·))(f:∀u∈l,u.1∈bs/\u.2∈bs){i:Nat}{p q:Int}(r:bs[i]?=some p)(o:bs[i+1]?=some q)(x:Int)(G:p<=x)(F:x<q):Jd l x↔Jd l p:=by
 have a:∀z∈bs,z<=p\/q<=z:=λz m=>by
  obtain ⟨j,v⟩:=Ah m;obtain ⟨pj,ej⟩:=Ad.1 v;obtain ⟨pp,ep⟩:=Ad.1 r;obtain ⟨pq,eq⟩:=Ad.1 o;have pw:=Ak.1 w;by_cases c:j<i
  ·have:=pw j i pj pp c;rw [ej,ep] at this;omega
  ·by_cases A:j=i
   ·subst A;rw [ep] at ej;omega
   ·by_cases y:j=i+1
    ·subst y;rw [eq] at ej;omega
    ·have:=pw (i+1) j pq pj (by omega);rw [ej,eq] at this;omega
 constructor
 ·rintro ⟨u,d,h,g⟩;have E:=a _ (f u d).1;have B:=a _ (f u d).2;exact ⟨u,d,by omega,by omega⟩
 ·rintro ⟨u,d,h,g⟩;have E:=a _ (f u d).1;have B:=a _ (f u d).2;exact ⟨u,d,by omega,by omega⟩
theorem put_step(a b out:List Run)(bs:List Int)(i:Nat)(p q:Int)(g:out.length<=500000000)(hi:i<=1000000000)(o:bs[i]?=some p)(m:bs[i+1]?=some q)(x y:Bool) :
  (@W.join wv _ (Nx Xs0S (HP (List Run) Unit)) (@Xy wv (⟨a,⟨b,⟨1,⟨bs,⟨(i:Int),⟨out,()⟩⟩⟩⟩⟩⟩:Xs0S) x y) λd =>
   @W.br wv _ d.j.j.j.j.j.e (@W.ge wv _ Int d.j.j.j.e d.j.j.j.j.e λf =>
   @W.ge wv _ Int d.j.j.j.e (@W.ar wv .add .i64 d.j.j.j.j.e 1) λv9 =>
   @W.br wv _ (@W.cm wv .gtr (@W.ln wv Run d.j.j.j.j.j.j.e) 0) (@W.gd wv _ (@W.ib wv (@W.ar wv .sub .i64 (@W.ln wv Run d.j.j.j.j.j.j.e) 1) (@W.ln wv Run d.j.j.j.j.j.j.e)) <|
   @W.ge wv _ Run d.j.j.j.j.j.j.e (@W.ar wv .sub .i64 (@W.ln wv Run d.j.j.j.j.j.j.e) 1) λv10 =>
   @W.br wv _ (@W.cm wv .eql v10.2 f) (@W.gd wv _ (@W.le wv 0 (@W.ar wv .sub .i64 (@W.ln wv Run d.j.j.j.j.j.j.e) 1)) <|
   @W.gd wv _ (@W.le wv (@W.ar wv .sub .i64 (@W.ln wv Run d.j.j.j.j.j.j.e) 1) (@W.ln wv Run d.j.j.j.j.j.j.e)) <|
   @W.gd wv _ (@W.le wv 0 0) <|
   @W.gd wv _ (@W.le wv 0 (@W.ar wv .sub .i64 (@W.ln wv Run d.j.j.j.j.j.j.e) 1)) <|
   @W.gd wv _ (@W.le wv (@W.pl wv 0 (@W.ar wv .sub .i64 (@W.ln wv Run d.j.j.j.j.j.j.e) 1)) (@W.ln wv Run d.j.j.j.j.j.j.e)) <|
   @W.gd wv _ (@W.ft wv 16 (@W.pl wv 0 (@W.ln wv Run (@W.ct wv Run d.j.j.j.j.j.j.e 0 (@W.ar wv .sub .i64 (@W.ln wv Run d.j.j.j.j.j.j.e) 1))))) <|
   @W.gd wv _ (@W.ib wv (@W.ar wv .sub .i64 (@W.ln wv Run d.j.j.j.j.j.j.e) 1) (@W.ln wv Run d.j.j.j.j.j.j.e)) <|
   @W.ge wv _ Run d.j.j.j.j.j.j.e (@W.ar wv .sub .i64 (@W.ln wv Run d.j.j.j.j.j.j.e) 1) λv11 =>
   @W.gd wv _ (@W.ft wv 16 (@W.pl wv (@W.ln wv Run (@W.ct wv Run d.j.j.j.j.j.j.e 0 (@W.ar wv .sub .i64 (@W.ln wv Run d.j.j.j.j.j.j.e) 1))) 1)) <|
   some (.go ⟨d.e,⟨d.j.e,⟨d.j.j.e,⟨d.j.j.j.e,⟨(@W.ar wv .add .i64 d.j.j.j.j.e 1),⟨(@W.ap wv Run (@W.ct wv Run d.j.j.j.j.j.j.e 0 (@W.ar wv .sub .i64 (@W.ln wv Run d.j.j.j.j.j.j.e) 1)) ((v11.1,v9)::[])),()⟩⟩⟩⟩⟩⟩))
   (@W.gd wv _ (@W.ft wv 16 (@W.pl wv (@W.ln wv Run d.j.j.j.j.j.j.e) 1)) <|
   some (.go ⟨d.e,⟨d.j.e,⟨d.j.j.e,⟨d.j.j.j.e,⟨(@W.ar wv .add .i64 d.j.j.j.j.e 1),⟨(@W.ap wv Run d.j.j.j.j.j.j.e ((f,v9)::[])),()⟩⟩⟩⟩⟩⟩)))
   (@W.gd wv _ (@W.ft wv 16 (@W.pl wv (@W.ln wv Run d.j.j.j.j.j.j.e) 1)) <|
   some (.go ⟨d.e,⟨d.j.e,⟨d.j.j.e,⟨d.j.j.j.e,⟨(@W.ar wv .add .i64 d.j.j.j.j.e 1),⟨(@W.ap wv Run d.j.j.j.j.j.j.e ((f,v9)::[])),()⟩⟩⟩⟩⟩⟩)))
   (some (.go ⟨d.e,⟨d.j.e,⟨d.j.j.e,⟨d.j.j.j.e,⟨(@W.ar wv .add .i64 d.j.j.j.j.e 1),⟨d.j.j.j.j.j.j.e,()⟩⟩⟩⟩⟩⟩))) =
  some (.go (⟨a,⟨b,⟨1,⟨bs,⟨((i+1:Nat):Int),⟨if (x&&y)=true then putR out p q else out,()⟩⟩⟩⟩⟩⟩:Xs0S)):=by
 refine (jo_s (J1_ok _ rfl x y)).trans ?_;dsimp only;have A:@W.ar wv .add .i64 (i:Int) 1=((i+1:Nat):Int):=by rw [Kd,wr (by omega) (by omega)];omega
 rw [A];cases l:(x&&y) with
 | false=>rw [br_f rfl,if_neg (by decide)]
 | true =>
  rw [br_t rfl,if_pos rfl,ge_s (fg o),ge_s (fg m)];rcases out.eq_nil_or_concat with rfl|⟨r,v,rfl⟩
  ·rw [br_f (by rfl),w_ln,w_pl,Jdm (by simp) (by simp),w_ap];rfl
  ·rw [List.concat_eq_append] at g ⊢;have hl:(r++[v]).length=r.length+1:=by simp
   rw [hl] at g;have w:@W.ar wv .sub .i64 (((r.length+1:Nat):Int)) 1=(r.length:Int):=by rw [Yz,wr (by omega) (by omega)];omega
   have ect:@W.ct wv Run (r++[v]) 0 (r.length:Int)=r:=by rw [w_ct];simp
   have lt:∀ {s t:Int},s<=t->@W.le wv s t=true:=λh=>by rw [w_le];exact decide_eq_true h
   unfold putR;rw [Aq,w_ln,hl,w,br_t (by rw [Zv];exact decide_eq_true (by omega)),Jha ⟨by omega,by omega⟩,ge_s (fg (Jeu r v))];dsimp only;by_cases c:v.2=p
   ·rw [if_pos c,br_t (by rw [Xe];exact beq_iff_eq.2 c),gd_t (lt (by omega)),gd_t (lt (by omega)),gd_t (lt (by omega)),gd_t (lt (by omega)),w_pl,gd_t (lt (by omega)),ect,w_ln,w_pl,Jdm (by omega) (by omega),Jha ⟨by omega,by omega⟩,ge_s (fg (Jeu r v)),w_pl,Jdm (by omega) (by omega),w_ap,Ar]
   ·rw [if_neg c,br_f (by rw [Xe];exact beq_eq_false_iff_ne.2 c),w_pl,Jdm (by omega) (by omega),w_ap]
theorem Jnx(a b:List Run)(hla:a.length<=50000000)(hlb:b.length<=50000000)(F:RunsOK (-4096) 4096 a)(N:RunsOK (-4096) 4096 b):∃l,@Xd wv (a,b)=some l/\RunsOK (-4096) 4096 l/\∀x,Jd l x↔Jd a x/\Jd b x:=by
 classical
 have wid:∀ {l:List Run},RunsOK (-4096) 4096 l->RunsOK (-1048576) 1048576 l:=λ{l} h=>⟨λu d=>by have:=h.bd u d;omega,h.pw⟩;have hab:(a++b).length=a.length+b.length:=Ag;obtain ⟨bs,g1,G,g3,y⟩:=bounds06 (a++b) (by omega) λu d=>by
  rcases Aa.1 d with q|q
  ·exact (F.bd u q).2.1
  ·exact (N.bd u q).2.1
 have ma:∀u∈a,u.1∈bs/\u.2∈bs:=λu d=>⟨(y _).2 ⟨u,Aa.2 (.inl d),.inl rfl⟩,(y _).2 ⟨u,Aa.2 (.inl d),.inr rfl⟩⟩;have mb:∀u∈b,u.1∈bs/\u.2∈bs:=λu d=>⟨(y _).2 ⟨u,Aa.2 (.inr d),.inl rfl⟩,(y _).2 ⟨u,Aa.2 (.inr d),.inr rfl⟩⟩;have pwb:=Ak.1 G;obtain ⟨e,he,out,rfl,Y,K⟩:=Ym (b:=@Qr wv)
  (λi s=>∃out,s=(⟨a,⟨b,⟨1,⟨bs,⟨(i:Int),⟨out,()⟩⟩⟩⟩⟩⟩:Xs0S)/\out.length<=i/\(bs=[]->out=[])/\∀p,bs[i]?=some p->UpTo a b out p)
  (λe=>∃out,e=(⟨out,()⟩:HP (List Run) Unit)/\Je4 out/\∀x,Jd out x↔Jd a x/\Jd b x)
  (bs.length - 1) (by omega) (s0:=⟨a,⟨b,⟨1,⟨bs,⟨0,⟨[],()⟩⟩⟩⟩⟩⟩)
  ⟨[],rfl,Nat.le_refl _,λ_=>rfl,λp f=>⟨⟨by simp,.nil⟩,by simp,λx hx=>⟨λ⟨u,d,_⟩=>(Af d).elim,λ⟨⟨u,d,R,A⟩,_⟩=>by
   obtain ⟨j,E⟩:=Ah (ma u d).1;obtain ⟨pj,ej⟩:=Ad.1 E;obtain ⟨pp,ep⟩:=Ad.1 f;by_cases c:j=0
   ·subst c;rw [ep] at ej;omega
   ·have:=pwb 0 j pp pj (by omega);rw [ej,ep] at this;omega⟩⟩⟩ (λi s hi=>by
   rintro ⟨out,rfl,X,J,B⟩;have f:=Ac (l:=bs) (i:=i) (by omega);have v:=Ac (l:=bs) (i:=i+1) (by omega);have o:=pwb i (i+1) (by omega) (by omega) (by omega);generalize bs[i]=p at f o;generalize bs[i+1]=q at v o;have H:@W.ar wv .add .i64 (i:Int) 1=((i+1:Nat):Int):=by rw [Kd,wr (by omega) (by omega)];omega
   refine ⟨(⟨a,⟨b,⟨1,⟨bs,⟨((i+1:Nat):Int),⟨if (decide (Jd a p)&&decide (Jd b p))=true then putR out p q else out,()⟩⟩⟩⟩⟩⟩:Xs0S),?_,_,rfl,?_,λh=>?_,λz L=>?_⟩
   ·unfold Qr;dsimp only;rw [w_ln,H,K1 (by omega),ge_s (fg f),k_in06 p (by omega),ge_s (fg f),k_in06 p (by omega)];exact put_step a b out bs i p q (by omega) (by omega) f v _ _
   ·have:=putR_len out p q;split<;>omega
   ·rw [h] at f;cases f
   ·rw [v] at L;cases L;have d:=B p f;have sa:=λx m g=>J52 G ma f v x m g;have sb:=λx m g=>J52 G mb f v x m g;split
    ·rename_i w;rw [Bool.and_eq_true,decide_eq_true_eq,decide_eq_true_eq] at w;exact upTo_put d o (λx m g=>(sa x m g).2 w.1) λx m g=>(sb x m g).2 w.2
    ·rename_i w;refine J8q d o λx m g ⟨k1,Z⟩=>w ?_;rw [Bool.and_eq_true,decide_eq_true_eq,decide_eq_true_eq];exact ⟨(sa x m g).1 k1,(sb x m g).1 Z⟩) (by
   rintro s ⟨out,rfl,X,J,B⟩;have H:@W.ar wv .add .i64 ((bs.length - 1:Nat):Int) 1=((bs.length - 1+1:Nat):Int):=by rw [Kd,wr (by omega) (by omega)];omega
   refine ⟨_,?_,out,rfl,?_⟩
   ·unfold Qr;dsimp only;rw [w_ln,H,J2 (by omega)]
   ·by_cases r:bs=[]
    ·rw [J r];refine ⟨⟨by simp,.nil⟩,λx=>⟨λ⟨u,d,_⟩=>(Af d).elim,λ⟨⟨u,d,_⟩,_⟩=>?_⟩⟩;have:=(ma u d).1;rw [r] at this;exact (Af this).elim
    ·have M:=Au.2 r;have f:=Ac (l:=bs) (i:=bs.length - 1) (by omega);generalize bs[bs.length - 1]=p at f;obtain ⟨Q,P,O⟩:=B p f;refine ⟨Q,λx=>?_⟩;by_cases c:x<p
     ·exact O x c
     ·refine ⟨λ⟨u,d,_,A⟩=>by have:=P u d;omega,λ⟨⟨u,d,_,A⟩,_⟩=>?_⟩;obtain ⟨j,E⟩:=Ah (ma u d).2;obtain ⟨pj,ej⟩:=Ad.1 E;obtain ⟨pp,ep⟩:=Ad.1 f;by_cases c:j=bs.length - 1
      ·subst c;rw [ep] at ej;omega
      ·have:=pwb j (bs.length - 1) pj pp (by omega);rw [ej,ep] at this;omega)
 refine ⟨out,?_,Jj1 Y λx hx=>?_,K⟩
 ·unfold Xd;dsimp only;rw [Jpx (by omega) (wid F),br_f (by rfl),Jpx (by omega) (wid N),br_f (by rfl),w_ln,w_ln,w_pl,Jdm (by omega) (by omega),w_pl,Jdm (by omega) (by omega),w_ap];refine (ca_s (c:=Q4) g1).trans ?_;exact (lo_s he).trans rfl
 ·obtain ⟨u,d,R,A⟩:=((K x).1 hx).1;have:=F.bd u d;omega
theorem Ju0(l:List Run)(k:Int)(hl:l.length<=1000000000)(h:RunsOK (-1048576) 1048576 l)(o:0<=k/\k<=1048576):@Yo wv (l,k)=some (shrk k l):=by
 have a:=K8 (b:=@Xc wv) (e:=(⟨shrk k l,()⟩:HP (List Run) Unit)) (λi=>(⟨l,⟨k,⟨(i:Int),⟨shrk k (l.take i),()⟩⟩⟩⟩:HP (List Run) (HP Int (HP Int (HP (List Run) Unit))))) l.length (by omega) (λi hi=>by
  have hx:=Ac hi;generalize l[i]=u at hx;have m:=h.bd u (Ae hx);have d:(shrk k (l.take i)).length<=l.length:=by refine Nat.le_trans (List.length_filterMap_le _ _) ?_;rw [List.length_take];omega
  have e:shrk k (l.take (i+1))=shrk k (l.take i)++(shrU k u).toList:=by unfold shrk;rw [Kq hx,List.filterMap_append];cases f:shrU k u<;>simp [f]
  have g:@W.ar wv .add .i64 (i:Int) 1=((i+1:Nat):Int):=by rw [Kd,wr (by omega) (by omega)];omega
  unfold Xc;dsimp only;rw [w_ln,K1 (by omega),ge_s (fg hx),ge_s (fg hx),g,Kd,Yz,wr (n:=u.1+k) (by omega) (by omega),wr (n:=u.2 - k) (by omega) (by omega),e];unfold shrU;by_cases q:u.1+k<u.2 - k
  ·rw [K1 q,if_pos q,ge_s (fg hx),ge_s (fg hx),w_ln,w_pl,Jdm (by omega) (by omega),Kd,Yz,wr (n:=u.1+k) (by omega) (by omega),wr (n:=u.2 - k) (by omega) (by omega),w_ap];rfl
  ·rw [J2 q,if_neg q];show _=some (Nx.go (⟨l,⟨k,⟨((i+1:Nat):Int),⟨shrk k (l.take i)++[],()⟩⟩⟩⟩:HP (List Run) (HP Int (HP Int (HP (List Run) Unit)))));rw [List.append_nil]) (by unfold Xc;dsimp only;rw [w_ln,J2 (by omega),Ai])
 unfold Yo;dsimp only;rw [Jpx hl h,br_f (by rfl),J2 (by omega),br_f (by rw [Zv];exact decide_eq_false (by omega))];exact (lo_s a).trans rfl
abbrev Re0S:=HP Int (HP Reg (HP Int (HP Int (HP Reg (HP Reg Unit)))))
abbrev Re1S:=HP Int (HP Int (HP (List Run) (HP Int (HP Reg (HP Int (HP Int (HP Reg (HP Int (HP (List Run) (HP Reg Unit))))))))))
abbrev Re1O:=HP Int (HP (List Run) (HP Reg (HP Int (HP Int (HP Reg (HP Int (HP (List Run) (HP Reg Unit))))))))
def deepY(r:Reg)(k n x y:Int):Prop:=∀dx dy:Int,-k<=dx->dx<=k->-n<=dy->dy<=n->Jz r (x+dx,y+dy)
theorem Juy{r:Reg}(h:RegOK r){k:Int}(d:0<=k){w:Row}(a:w∈r)(x:Int):Jd (shrk k w.2) x↔∀dx:Int,-k<=dx->dx<=k->Jz r (x+dx,w.1):=by
 rw [Jzh (h.rs w a) d];constructor
 ·intro g dx l f;rw [Jdb h,Jes h a];exact g (x+dx) (by omega) (by omega)
 ·intro g y l f;have:=g (y - x) (by omega) (by omega);rw [Jdb h,Jes h a,show x+(y - x)=y by omega] at this;exact this
theorem J3e{r:Reg}(h:RegOK r){k n:Int}(l:0<=k)(E:0<=n){y:Int}{u v:Row}(o:u∈r)(m:v∈r)(eu:u.1=y - (n+1))(ev:v.1=y+(n+1))(x:Int):deepY r k (n+1) x y↔(deepY r k n x y/\Jd (shrk k u.2) x)/\Jd (shrk k v.2) x:=by
 rw [Juy h l o,Juy h l m,eu,ev];constructor
 ·intro g;refine ⟨⟨λdx dy f a a3 a4=>g dx dy f a (by omega) (by omega),λdx f a=>?_⟩,λdx f a=>?_⟩
  ·have:=g dx (-(n+1)) f a (by omega) (by omega);rwa [show y+-(n+1)=y - (n+1) by omega] at this
  ·exact g dx (n+1) f a (by omega) (by omega)
 ·rintro ⟨⟨B,A⟩,w⟩ dx dy f a a3 a4;by_cases c:dy=n+1
  ·rw [c];exact w dx f a
  ·by_cases d:dy=-(n+1)
   ·rw [d,show y+-(n+1)=y - (n+1) by omega];exact A dx f a
   ·exact B dx dy f a (by omega) (by omega)
theorem J19{r:Reg}{k x y dy:Int}(h:-k<=dy)(f:dy<=k)(d:∀v∈r,v.1≠y+dy)(l:0<=k):¬deep r k (x,y):=λg=>by obtain ⟨v,a,e,_⟩:=g 0 dy (by omega) (by omega) h f;exact d v a e
theorem Erode_R1(r:Reg)(hr:RegOK r)(k:Int)(y:0<=k/\k<=64)(i:Nat)(w:Row)(O:r[i]?=some w)(len:Int)(out:Reg) :
  ∃o,X2 (@J5 wv) bigN (⟨k,⟨(i:Int),⟨shrk k w.2,⟨1,⟨r,⟨len,⟨(i:Int),⟨r,⟨w.1,⟨w.2,⟨out,()⟩⟩⟩⟩⟩⟩⟩⟩⟩⟩⟩:Re1S)=some (⟨k,⟨o,⟨r,⟨len,⟨(i:Int),⟨r,⟨w.1,⟨w.2,⟨out,()⟩⟩⟩⟩⟩⟩⟩⟩⟩:Re1O)/\RunsOK (-4096) 4096 o/\∀x,Jd o x↔deep r k (x,w.1):=by
 have hL:=Jbk hr;have E:=Ae O;have hy:=hr.y w E;have hil:=(Ad.1 O).1;obtain ⟨e,he,o,rfl,h1,h2⟩:=Jhm (b:=@J5 wv)
  (λs=>∃(n:Nat) (l:List Run),s=(⟨k,⟨(i:Int),⟨l,⟨(n:Int)+1,⟨r,⟨len,⟨(i:Int),⟨r,⟨w.1,⟨w.2,⟨out,()⟩⟩⟩⟩⟩⟩⟩⟩⟩⟩⟩:Re1S)/\(n:Int)<=k/\n<=i/\(∃v,r[i - n]?=some v/\v.1=w.1 - n)/\(∃v,r[i+n]?=some v/\v.1=w.1+n)/\RunsOK (-4096) 4096 l/\∀x,Jd l x↔deepY r k n x w.1)
  (λe=>∃o,e=(⟨k,⟨o,⟨r,⟨len,⟨(i:Int),⟨r,⟨w.1,⟨w.2,⟨out,()⟩⟩⟩⟩⟩⟩⟩⟩⟩:Re1O)/\RunsOK (-4096) 4096 o/\∀x,Jd o x↔deep r k (x,w.1))
  (λs=>(k+1 - s.j.j.j.e).toNat) (by
   rintro s ⟨n,l,rfl,n1,n2,⟨a,ha,ea⟩,⟨b,hb,eb⟩,hl,hd⟩;have M:@W.ar wv .sub .i64 (i:Int) ((n:Int)+1)=(i:Int) - ((n:Int)+1):=by rw [Yz,wr (by omega) (by omega)]
   have Z:@W.ar wv .add .i64 (i:Int) ((n:Int)+1)=((i+n+1:Nat):Int):=by rw [Kd,wr (by omega) (by omega)];omega
   have P:@W.ar wv .sub .i64 w.1 ((n:Int)+1)=w.1 - ((n:Int)+1):=by rw [Yz,wr (by omega) (by omega)]
   have e4:@W.ar wv .add .i64 w.1 ((n:Int)+1)=w.1+((n:Int)+1):=by rw [Kd,wr (by omega) (by omega)]
   have e5:@W.ar wv .add .i64 ((n:Int)+1) 1=((n+1:Nat):Int)+1:=by rw [Kd,wr (by omega) (by omega)];omega
   by_cases f:(n:Int)+1<=k
   case neg =>
    have f:(n:Int)=k:=by omega
    refine .inr ⟨_,?_,l,rfl,hl,λx=>by rw [hd,f];exact Iff.rfl⟩;unfold J5;dsimp only;rw [br_f (by rw [Jcj];exact decide_eq_false (by omega))]
   have brk:(∀x,¬deep r k (x,w.1))->∃o,(⟨k,⟨[],⟨r,⟨len,⟨(i:Int),⟨r,⟨w.1,⟨w.2,⟨out,()⟩⟩⟩⟩⟩⟩⟩⟩⟩:Re1O)=(⟨k,⟨o,⟨r,⟨len,⟨(i:Int),⟨r,⟨w.1,⟨w.2,⟨out,()⟩⟩⟩⟩⟩⟩⟩⟩⟩:Re1O)/\RunsOK (-4096) 4096 o/\∀x,Jd o x↔deep r k (x,w.1):=λh=>⟨[],rfl,⟨by simp,.nil⟩,λx=>⟨λ⟨u,m,_⟩=>(Af m).elim,λg=>(h x g).elim⟩⟩;have low:∀v∈r,v.1=w.1 - ((n:Int)+1)->n+1<=i/\∀z,r[i - (n+1)]?=some z->z.1=w.1 - ((n:Int)+1):=λv d e=>by
    obtain ⟨j,H⟩:=Ah d;have Y:j<i - n:=by apply Ap;intro q;have:=Ji3 hr ha H (by omega);omega
    refine ⟨by omega,λz B=>?_⟩;have X:=Ji3 hr H B (by omega);have R:=Jku hr B ha (by omega);omega
   have A:∀v∈r,v.1=w.1+((n:Int)+1)->i+n+1<r.length/\∀z,r[i+n+1]?=some z->z.1=w.1+((n:Int)+1):=λv d e=>by
    obtain ⟨j,H⟩:=Ah d;have hjl:=(Ad.1 H).1;have Y:i+n<j:=by apply Ap;intro q;have:=Ji3 hr H hb (by omega);omega
    refine ⟨by omega,λz B=>?_⟩;have X:=Ji3 hr B H (by omega);have R:=Jku hr hb B (by omega);omega
   by_cases N:(i:Int) - ((n:Int)+1)<0
   ·refine .inr ⟨_,?_,brk λx=>J19 (dy:=-((n:Int)+1)) (by omega) (by omega) (λv d e=>by have:=(low v d (by omega)).1;omega) y.1⟩;unfold J5;dsimp only;rw [br_t (by rw [Jcj];exact decide_eq_true f),M,K1 N]
   have m:=Ac (l:=r) (i:=i - (n+1)) (by omega);generalize r[i - (n+1)]=u at m;have L:=Ae m;have fu:fget r ((i:Int) - ((n:Int)+1))=some u:=fgz (i - (n+1)) (by omega) m;by_cases J:u.1=w.1 - ((n:Int)+1)
   case neg =>
    refine .inr ⟨_,?_,brk λx=>J19 (dy:=-((n:Int)+1)) (by omega) (by omega) (λv d e=>J ((low v d (by omega)).2 u m)) y.1⟩;unfold J5;dsimp only;rw [br_t (by rw [Jcj];exact decide_eq_true f),M,J2 N,ge_s fu,P,br_t (by rw [Jgv];simpa using J)]
   by_cases c3:i+n+1<r.length
   case neg =>
    refine .inr ⟨_,?_,brk λx=>J19 (dy:=(n:Int)+1) (by omega) (by omega) (λv d e=>c3 (A v d (by omega)).1) y.1⟩;unfold J5;dsimp only;rw [br_t (by rw [Jcj];exact decide_eq_true f),M,J2 N,ge_s fu,P,br_f (by rw [Jgv];simp [J]),Z,w_ln,br_t (by rw [Jg7];exact decide_eq_true (by omega))]
   have d:=Ac c3;generalize r[i+n+1]=v at d;have K:=Ae d;by_cases Q:v.1=w.1+((n:Int)+1)
   case neg =>
    refine .inr ⟨_,?_,brk λx=>J19 (dy:=(n:Int)+1) (by omega) (by omega) (λz B e=>Q ((A z B (by omega)).2 v d)) y.1⟩;unfold J5;dsimp only;rw [br_t (by rw [Jcj];exact decide_eq_true f),M,J2 N,ge_s fu,P,br_f (by rw [Jgv];simp [J]),Z,w_ln,br_f (by rw [Jg7];exact decide_eq_false (by omega)),ge_s (fg d),e4,br_t (by rw [Jgv];simpa using Q)]
   have wid:∀ {l:List Run},RunsOK (-4096) 4096 l->RunsOK (-1048576) 1048576 l:=λ{l} h=>⟨λu m=>by have:=h.bd u m;omega,h.pw⟩;have G:=hr.rs u L;have F:=hr.rs v K;have s1:=Ju0 u.2 k (by have:=Qy G;omega) (wid G) (by omega);have s2:=Ju0 v.2 k (by have:=Qy F;omega) (wid F) (by omega);have k1:=Jny G y.1;have k2:=Jny F y.1;obtain ⟨l1,p1,p2,p3⟩:=Jnx l (shrk k u.2) (by have:=Qy hl;omega) (by have:=Qy k1;omega) hl k1;obtain ⟨l2,X,R,q3⟩:=Jnx l1 (shrk k v.2) (by have:=Qy p2;omega) (by have:=Qy k2;omega) p2 k2;refine .inl ⟨(⟨k,⟨(i:Int),⟨l2,⟨((n+1:Nat):Int)+1,⟨r,⟨len,⟨(i:Int),⟨r,⟨w.1,⟨w.2,⟨out,()⟩⟩⟩⟩⟩⟩⟩⟩⟩⟩⟩:Re1S),?_,⟨n+1,l2,rfl,by omega,by omega,⟨u,m,by omega⟩,⟨v,d,by omega⟩,R,λx=>?_⟩,by dsimp only;omega⟩
   ·unfold J5;dsimp only;rw [br_t (by rw [Jcj];exact decide_eq_true f),M,J2 N,ge_s fu,P,br_f (by rw [Jgv];simp [J]),Z,w_ln,br_f (by rw [Jg7];exact decide_eq_false (by omega)),ge_s (fg d),e4,br_f (by rw [Jgv];simp [Q]),ge_s fu];refine (ca_s (c:=J8) s1).trans ((ca_s (c:=Kn) p1).trans ?_);rw [ge_s (fg d)];refine (ca_s (c:=J8) s2).trans ((ca_s (c:=Kn) X).trans ?_);rw [e5]
   ·rw [q3,p3,hd];exact (J3e hr y.1 (by omega) L K J Q x).symm)
  (s0:=⟨k,⟨(i:Int),⟨shrk k w.2,⟨1,⟨r,⟨len,⟨(i:Int),⟨r,⟨w.1,⟨w.2,⟨out,()⟩⟩⟩⟩⟩⟩⟩⟩⟩⟩⟩)
  ⟨0,shrk k w.2,rfl,by omega,by omega,⟨w,O,by omega⟩,⟨w,O,by omega⟩,Jny (hr.rs w E) y.1,λx=>by
   rw [Juy hr y.1 E];constructor
   ·intro g dx dy a1 a2 a3 a4;have:=g dx a1 a2;rwa [show w.1+dy=w.1 by omega]
   ·intro g dx a1 a2;have:=g dx 0 a1 a2 (by omega) (by omega);rwa [show w.1+0=w.1 by omega] at this⟩ (by dsimp only;omega)
 exact ⟨o,he,h1,h2⟩
theorem Jwz(r:Reg)(hr:RegOK r)(k:Int)(X:0<=k/\k<=64):∃E,@Qo wv (r,k)=some E/\RegOK E/\∀c,Jz E c↔deep r k c:=by
 classical
 have hL:=Jbk hr;obtain ⟨e,Y,E,rfl,m,y,-⟩:=Ym (b:=@Qq wv)
  (λi s=>∃E,s=(⟨k,⟨r,⟨(r.length:Int),⟨(i:Int),⟨r,⟨E,()⟩⟩⟩⟩⟩⟩:Re0S)/\RegOK E/\(∀c,Jz E c↔(∃w∈r.take i,w.1=c.2)/\deep r k c)/\∀v∈E,∃w∈r.take i,v.1=w.1)
  (λe=>∃E,e=(⟨E,()⟩:HP Reg Unit)/\RegOK E/\(∀c,Jz E c↔deep r k c)/\True)
  r.length (by omega) (s0:=⟨k,⟨r,⟨(r.length:Int),⟨0,⟨r,⟨[],()⟩⟩⟩⟩⟩⟩)
  ⟨[],rfl,⟨by simp,.nil,by simp,by simp⟩,λc=>⟨λ⟨w,a,_⟩=>(Af a).elim,λ⟨⟨w,a,_⟩,_⟩=>by rw [List.take_zero] at a;exact (Af a).elim⟩,λv f=>(Af f).elim⟩
  (λi s hi=>by
   rintro ⟨E,rfl,m,y,F⟩;have a:=Ac hi;generalize r[i]=w at a;have A:=Ae a;have Q:=hr.y w A;obtain ⟨o,O,N,G⟩:=Erode_R1 r hr k X i w a (r.length:Int) E;have R:=Qy N;have hEl:=Jbk m;have l:=hr.rs w A;have M:=Ju0 w.2 k (by have:=Qy l;omega) ⟨λu H=>by have:=l.bd u H;omega,l.pw⟩ (by omega);have P:@W.ar wv .add .i64 (i:Int) 1=((i+1:Nat):Int):=by rw [Kd,wr (by omega) (by omega)];omega
   have J:∀v∈E,v.1<w.1:=λv f=>by obtain ⟨z,d,e⟩:=F v f;obtain ⟨j,L⟩:=Ah d;have K:=(Ad.1 L).1;rw [List.length_take] at K;rw [List.getElem?_take_of_lt (by omega)] at L;have:=Jku hr L a (by omega);omega
   have B:=Kq a;by_cases h:o=[]
   ·refine ⟨(⟨k,⟨r,⟨(r.length:Int),⟨((i+1:Nat):Int),⟨r,⟨E,()⟩⟩⟩⟩⟩⟩:Re0S),?_,E,rfl,m,λc=>?_,λv f=>?_⟩
    ·unfold Qq;dsimp only;rw [K1 (by omega),ge_s (fg a)];refine (ca_s (c:=J8) M).trans ?_;refine (lo_s O).trans ?_;dsimp only;rw [br_f (by rw [Zv,w_ln,h];rfl),P]
    ·rw [y,B];constructor
     ·rintro ⟨⟨z,d,e⟩,g⟩;exact ⟨⟨z,Aa.2 (.inl d),e⟩,g⟩
     ·rintro ⟨⟨z,d,e⟩,g⟩;rcases Aa.1 d with q|q
      ·exact ⟨⟨z,q,e⟩,g⟩
      ·rw [Ab] at q;subst q;have:=(G c.1).2 (by rw [e];exact g);rw [h] at this;obtain ⟨u,H,_⟩:=this;exact (Af H).elim
    ·obtain ⟨z,d,e⟩:=F v f;exact ⟨z,by rw [B];exact Aa.2 (.inl d),e⟩
   ·have Z:=Au.2 h;refine ⟨(⟨k,⟨r,⟨(r.length:Int),⟨((i+1:Nat):Int),⟨r,⟨E++[(w.1,o)],()⟩⟩⟩⟩⟩⟩:Re0S),?_,_,rfl,Jnn (w:=(w.1,o)) m Q h N J,λc=>?_,λv f=>?_⟩
    ·unfold Qq;dsimp only;rw [K1 (by omega),ge_s (fg a)];refine (ca_s (c:=J8) M).trans ?_;refine (lo_s O).trans ?_;dsimp only;rw [br_t (by rw [Zv,w_ln];exact decide_eq_true (by omega)),w_ln,w_pl,Jy0 (by omega) (by omega),w_ap,P]
    ·rw [Js7,y,B];constructor
     ·rintro (⟨⟨z,d,e⟩,g⟩|⟨e,g⟩)
      ·exact ⟨⟨z,Aa.2 (.inl d),e⟩,g⟩
      ·have e:w.1=c.2:=e;refine ⟨⟨w,Aa.2 (.inr (Ab.2 rfl)),e⟩,?_⟩;have:=(G c.1).1 g;rwa [e] at this
     ·rintro ⟨⟨z,d,e⟩,g⟩;rcases Aa.1 d with q|q
      ·exact .inl ⟨⟨z,q,e⟩,g⟩
      ·rw [Ab] at q;subst q;exact .inr ⟨e,(G c.1).2 (by rw [e];exact g)⟩
    ·rcases Aa.1 f with q|q
     ·obtain ⟨z,d,e⟩:=F v q;exact ⟨z,by rw [B];exact Aa.2 (.inl d),e⟩
     ·rw [Ab] at q;subst q;exact ⟨w,by rw [B];exact Aa.2 (.inr (Ab.2 rfl)),rfl⟩)
  (by
   rintro s ⟨E,rfl,m,y,F⟩;refine ⟨_,?_,E,rfl,m,λc=>?_,trivial⟩
   ·unfold Qq;dsimp only;rw [J2 (by omega)]
   ·rw [y,Ai];refine ⟨And.right,λg=>⟨?_,g⟩⟩;have:=g 0 0 (by omega) (by omega) (by omega) (by omega);obtain ⟨w,a,e,_⟩:=this;exact ⟨w,a,by rw [e];dsimp only;omega⟩)
 refine ⟨E,?_,m,y⟩;have f:@Y6 wv k=some true:=by unfold Y6;rw [br_t (by rw [Jg7];exact decide_eq_true (by omega)),Jcj,decide_eq_true (by omega)]
 unfold Qo;dsimp only;refine (ca_s (c:=Ju) (Jfz r ⟨by omega,λw a=>by have:=Qy (hr.rs w a);omega⟩)).trans ?_;rw [br_f (by simp [hr,w_nt])];refine (ca_s (c:=Xg) f).trans ?_;rw [br_f (by rfl),w_ln];exact (lo_s Y).trans rfl
theorem Jwf(r:Reg)(hl:LimA r)(h:¬RegOK r)(k:Int):@Qo wv (r,k)=some []:=by
 classical
 unfold Qo;dsimp only;refine (ca_s (c:=Ju) (Jfz r hl)).trans ?_;rw [br_t (by simp [h,w_nt])]
def Jl1(l:List Run):Nat:=(l.flatMap (Jea 0)).length
theorem Jzo(w:Row):(rowC w).length=Jl1 w.2:=by
 unfold rowC Jl1;generalize w.2=l
 induction l with
 | nil=>rfl
 | cons u l a=>rw [List.flatMap_cons,List.flatMap_cons,Ag,Ag,a,Jfc,Jfc]
theorem Jqt(l:List Run)(h:RunsOK (-1048576) 1048576 l)(hl:l.length<=1000000000)(f:Jl1 l<=1000000000):@Jc9 wv l=some ((Jl1 l:Nat):Int):=by
 have a:=K8 (b:=@Jai wv) (e:=⟨((Jl1 l:Nat):Int),()⟩) (λi=>⟨((((l.take i).flatMap (Jea 0)).length:Nat):Int),⟨l,⟨(l.length:Int),⟨(i:Int),()⟩⟩⟩⟩) l.length (by omega) (λi hi=>by
  have d:=Ac hi;generalize l[i]=u at d;have o:=h.bd u (Ae d);have m:=Jd9 (Jea 0) d;have g:=Jfc 0 u;unfold Jl1 at f;unfold Jai;dsimp only;rw [K1 (by omega),ge_s (fg d),Yz,Kd,Kd,wr (n:=u.2 - u.1) (by omega) (by omega),wr (by omega) (by omega),wr (n:=(i:Int)+1) (by omega) (by omega),Jfd d,Ag,show ((((l.take i).flatMap (Jea 0)).length:Nat):Int)+(u.2 - u.1)=((((l.take i).flatMap (Jea 0)).length+(Jea 0 u).length:Nat):Int) by omega];rfl) (by unfold Jai;dsimp only;rw [J2 (by omega),Ai];rfl)
 unfold Jc9;rw [Y0 hl,br_f (by simp [w_nt,h])];exact lo_s a
theorem Count_ok(r:Reg)(hl:LimR r)(h:RegOK r)(o:(Qt r).length<=1000000000):@Jcb wv r=some (((Qt r).length:Nat):Int):=by
 have hL:=hl.1;have d:=K8 (b:=@zm wv) (e:=⟨(((Qt r).length:Nat):Int),()⟩) (λi=>⟨((((r.take i).flatMap rowC).length:Nat):Int),⟨r,⟨(r.length:Int),⟨(i:Int),()⟩⟩⟩⟩) r.length (by omega) (λi hi=>by
  have f:=Ac hi;generalize r[i]=w at f;have a:=Ae f;have m:=Jd9 rowC f;have g:=Jzo w;unfold Qt at o;have l:RunsOK (-1048576) 1048576 w.2:=⟨λx hx=>by have:=(h.rs w a).bd x hx;omega,(h.rs w a).pw⟩;unfold zm;dsimp only;rw [K1 (by omega),ge_s (fg f)];refine (ca_s (c:=Jbg) (Jqt w.2 l (hl.2 w a) (by omega))).trans ?_;rw [Kd,Kd,wr (by omega) (by omega),wr (n:=(i:Int)+1) (by omega) (by omega),Jfd f,Ag,g];rfl) (by unfold zm;dsimp only;rw [J2 (by omega),Ai];rfl)
 unfold Jcb;rw [Qu hl,br_f (by simp [w_nt,h])];exact lo_s d
abbrev Wd0S:=HP (List J0) (HP Int (HP (List J0) (HP Int (HP Int (HP Reg (HP Reg Unit))))))
abbrev Wd0O:=HP (List J0) (HP Int (HP Reg (HP Reg Unit)))
theorem Jyp(r s:Reg)(hl:LimA r)(h:¬RegOK r):@Xa wv (r,s)=some []:=by
 classical
 unfold Xa;dsimp only;rw [Jpl hl,br_t (by simp [w_nt,h])]
theorem Jyi(r:Reg)(n:Int)(hr:∀w∈r,w.2.length<=9223372036854775807)(hn:-9223372036854775808<=n/\n<=9223372036854775807):@Kw wv (r,n)=some true:=by
 classical
 obtain ⟨b,O,M⟩:=heavy_ok r hr;unfold Kw;dsimp only;refine (ca_s (c:=Xi) O).trans ?_;cases b with
 | true=>rw [br_t rfl,Jlc]
 | false =>
  rw [br_f rfl];by_cases B:n<0
  ·rw [K1 B,Jlc]
  rw [J2 B];by_cases m:n > 64
  ·rw [br_t (by rw [Zv];exact decide_eq_true m),Jlc]
  rw [br_f (by rw [Zv];exact decide_eq_false m)];obtain ⟨hl,y⟩:=M rfl;have w1:=J37 r n hl λq=>by have:=y q;omega
  obtain ⟨N,rfl⟩:∃N:Nat,n=(N:Int):=⟨n.toNat,by omega⟩;rw [show (min (max (N:Int) 0) 64).toNat=N by omega] at w1;refine (ca_s (c:=Qb) w1).trans ?_;have nt1:@W.nt wv true=false:=rfl;have tail:∀(L:List J0) (R T:Reg),L.length<=2000->(flt L).length<=2000->(∀t∈L,VT t/\t.1=1)->@zj wv L=some T->@Xa wv (r,R)=some T->RegOK T->(Qt T).length=(flt L).length ->
    (@W.loop wv _ _ Bool (@Kz wv) (⟨L,⟨0,⟨L,⟨@W.ln wv J0 L,⟨0,⟨r,⟨R,()⟩⟩⟩⟩⟩⟩⟩:Wd0S) λv9=>match v9 with
     | .inl v10=>some false
     | .inr v11=>@W.call wv Bool zg v11.e λ(v12:Reg)=>@W.call wv Bool X8 ((v11.j.j.e,v11.j.j.j.e):Reg×Reg) λ(v13:Reg) =>
      @W.call wv Bool zd ((v12,v13):Reg×Reg) λ(v14:Bool)=>@W.br wv Bool v14 (@W.call wv Bool Zz v12 λ(v15:Int)=>@W.br wv Bool (@W.cm wv .eql v15 v11.j.e) (@W.call wv Bool Kb (():Unit) λ(v16:Bool)=>some v16) (some false)) (some false))=some true:=λL R T hL hF hT f d t3 t4=>by
   have g:∀i,(flt (L.take i)).length<=2000:=λi=>Nat.le_trans (Jmo (λt:J0=>t.2.2) L i) hF;have a:=K8 (b:=@Kz wv) (e:=.inr (⟨L,⟨((flt L).length:Int),⟨r,⟨R,()⟩⟩⟩⟩:Wd0O)) (λi=>(⟨L,⟨((flt (L.take i)).length:Int),⟨L,⟨(L.length:Int),⟨(i:Int),⟨r,⟨R,()⟩⟩⟩⟩⟩⟩⟩:Wd0S)) L.length (by omega) (λi hi=>by
    have hx:=Ac hi;generalize L[i]=t at hx;obtain ⟨J,Q⟩:=hT t (Ae hx);have h5:=g i;have P:=g (i+1);have A:flt (L.take (i+1))=flt (L.take i)++t.2.2:=by rw [Kq hx,Jfu,Jjp]
    rw [A,Ag] at P;have e3:@W.ar wv .add .i64 (i:Int) 1=((i+1:Nat):Int):=by rw [Kd,wr (by omega) (by omega)];omega
    have Z:@W.ar wv .add .i64 (((flt (L.take i)).length:Nat):Int) (t.2.2.length:Int)=(((flt (L.take (i+1))).length:Nat):Int):=by rw [Kd,wr (by omega) (by omega),A,Ag];omega
    unfold Kz;dsimp only;rw [K1 (by omega),ge_s (fg hx),br_f (by rw [Jgv];simp [Q]),Jfy,br_f (by rw [decide_eq_true J];rfl),w_ln,e3,Z]) (by unfold Kz;dsimp only;rw [J2 (by omega),Ai])
   rw [w_ln];refine (lo_s a).trans ?_;dsimp only;refine (ca_s (c:=zg) f).trans ((ca_s (c:=X8) d).trans ((ca_s (c:=zd) (Jqk t3)).trans ?_));rw [br_t rfl];refine (ca_s (c:=Zz) (Count_ok T (Jam t3) t3 (by omega))).trans ?_;rw [br_t (by rw [Xe,t4];exact beq_self_eq_true _),Jlc]
  by_cases h:RegOK r
  ·rw [if_pos h];have l:(Qt r).length<=2000:=by have:=y h;omega
   obtain ⟨E,Y,o,X⟩:=Jwz r h (N:Int) ⟨by omega,by omega⟩;have eE:E=eroN r N:=Jih o (Jl7 h N).1 λc=>(X c).trans (Jj2 h N c).symm;subst eE;refine (ca_s (c:=Qp) Y).trans ((ca_s (c:=Ku) (Jwi _ (Jam o))).trans ?_);rw [nt1,br_f rfl];obtain ⟨a1,a2,a3,a4,a5⟩:=Jpq h l N;obtain ⟨T,f,d,t3,t4⟩:=Jyt h l N;obtain ⟨U,G,v,F⟩:=Jkr r _ h o (Jam h) (Jam o);have eU:U=T:=Jih v d λc=>(F c).trans (t3 c).symm;subst eU;exact tail _ _ U a5 a4 a1 f G v t4
  ·rw [if_neg h];refine (ca_s (c:=Qp) (Jwf r hl h _)).trans ((ca_s (c:=Ku) (Jwi [] ⟨by simp,by simp⟩)).trans ?_);rw [nt1,br_f rfl];obtain ⟨T,f,d,t3⟩:=J0j [] (by simp) (by simp);have eT:T=[]:=Jih d nil_ok λc=>(t3 c).trans ⟨λ⟨t,K,_⟩=>(Af K).elim,λ⟨w,H,_⟩=>(Af H).elim⟩;subst eT;exact tail [] [] [] (by simp) (by simp [flt]) (by simp) f (Jyp r [] hl h) nil_ok rfl
end Go.Proofs.YtmfagdfkpjgeiaaGreat
