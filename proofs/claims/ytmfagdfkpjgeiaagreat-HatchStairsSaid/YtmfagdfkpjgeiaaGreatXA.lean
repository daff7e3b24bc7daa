/- The typed texts of functions, and that they are right. Conditions: none. -/
import Derived.Test.YtmfagdfkpjgeiaaGreatOB
import Derived.Test.YtmfagdfkpjgeiaaGreatProg
import Derived.Test.YtmfagdfkpjgeiaaGreatFB
import Derived.Test.YtmfagdfkpjgeiaaGreatTT
set_option linter.unusedVariables false
set_option linter.unusedSimpArgs false
set_option maxRecDepth 100000
namespace Go.Proofs.YtmfagdfkpjgeiaaGreat
open Go Go.Vv Go.Dn Go.Dn.W
noncomputable abbrev PG:Program:=Tryz.prog
noncomputable def cxO(Γ:FuncId->Option Ctr)(kp nc:List Nat)(so:List SCt)(jn:List Nat)(bi:List (Nat×Bi))(mo:List Nat):Cx:=⟨Γ,tyM PG mo,λf=>match memN f nc with|true=>none|false=>Jyf PG f,λk=>memN k kp,[],false,soL so,λk=>memN k jn,λf=>lookB f bi⟩
noncomputable def gam(l:List (Nat×Ctr))(f:FuncId):Option Ctr:=Go.Dn.look f l
theorem Jro(Γ:FuncId->Option Ctr)(kp nc:List Nat)(so:List SCt)(jn:List Nat)(bi:List (Nat×Bi))(mo:List Nat):Jl9 PG (cxO Γ kp nc so jn bi mo):=λf lf h=>by
 have h:(match memN f nc with|true=>none|false=>Jyf PG f)=some lf:=h;split at h
 ·cases h
 ·exact h
theorem J2{P:Program}:∀x∈([]:List SCt),SGood P x:=λx h=>by cases h
theorem Jym{P:Program}{x:SCt}{l:List SCt}(h:SGood P x)(t:∀x∈l,SGood P x):∀y∈x::l,SGood P y:=λy a=>by
 rcases List.mem_cons.1 a with rfl|a
 ·exact h
 ·exact t y a
def fnB(P : Program)(f : FuncId) : Bool := match P.funcs[f]? with | some fn => fn.body.isSome && !(fn.name == "runtime.NumGoroutine") | none => false
theorem Jk{f:FuncId}(h:fnB PG f=true):FnOK PG f:=by
 unfold fnB at h;split at h
 ·rename_i fn a;simp only [Bool.and_eq_true,Bool.not_eq_true'] at h;exact ⟨fn,a,h.1,h.2⟩
 ·cases h
theorem mixed:PG.follows .mixedOrders=true:=by kernel_rfl
theorem Jl:Ji8 PG (gam []):=λf c h=>by cases h
theorem Jb{c:Ctr}{l:List (Nat×Ctr)}(h:Go.Dn.Good PG c)(t:Ji8 PG (gam l)):Ji8 PG (gam ((c.id,c)::l)):=λf x hx=>by
 have hx:Go.Dn.look f ((c.id,c)::l)=some x:=hx;rw [J0] at hx;split at hx
 ·rename_i e;injection hx with hx;subst hx;exact ⟨e,h⟩
 ·exact t f x hx
def BiL(P:Program)(l:List (Nat×Bi)):Prop:=∀f B,lookB f l=some B->Jln P f B
theorem J3:BiL PG []:=λf B h=>by cases h
theorem Ji3{f:Nat}{B:Bi}{l:List (Nat×Bi)}(h:Jln PG f B)(t:BiL PG l):BiL PG ((f,B)::l):=λg C a=>by
 unfold lookB at a;split at a
 ·rename_i e;injection a with a;subst a;exact Nat.eq_of_beq_eq_true e▸h
 ·exact t g C a
theorem good(Γ:FuncId->Option Ctr)(kp nc:List Nat)(so:List SCt)(jn:List Nat)(bi:List (Nat×Bi))(mo:List Nat)(n:Nat){c:Ctr}(hΓ:Ji8 PG Γ)(a:∀x∈so,SGood PG x)(l:BiL PG bi)(g:FnOK PG c.id)(e:c.ok=true)(d:c.rs.all rkOK=true)(f:c.fresh=false)(m:∀x,fnD val (cxO Γ kp nc so jn bi mo) n c.id c.as c.rs x=c.fn x):Go.Dn.Good PG c:=
 good_of (cx:=cxO Γ kp nc so jn bi mo) rfl hΓ mixed (Jyr a) l (Jro Γ kp nc so jn bi mo) rfl rfl e d g f λx r h=>(m x).trans h
noncomputable def V1(l:List (Nat×Ctr)):Cx:=cxO (gam l) [] [] [] [] [] []
abbrev V3:=Go.Dn.Good PG
theorem V2{l:List (Nat×Ctr)}{c:Ctr}(hΓ:Ji8 PG (gam l))(f:FnOK PG c.id)(d:c.ok=true)(a:c.rs.all rkOK=true)(e:c.fresh=false)(g:∀x,fnD val (V1 l) 8 c.id c.as c.rs x=c.fn x):Go.Dn.Good PG c:=good (gam l) [] [] [] [] [] [] 8 hΓ J2 J3 f d a e g
theorem own(Γ:FuncId->Option Ctr)(kp nc:List Nat)(so:List SCt)(jn:List Nat)(bi:List (Nat×Bi))(mo:List Nat)(n:Nat){c:OCt}(hΓ:Ji8 PG Γ)(d:∀x∈so,SGood PG x)(l:BiL PG bi)(g:FnOK PG c.id)(e:c.as.all akOK=true)(a:0<c.t.sz)(f:Nat.ble yB c.id=false)(m:∀x,fnO val (cxO Γ kp nc so jn bi mo) n c.id c.as c.t c.el x=c.fn x):Jsg PG c:=
 own_of (cx:=cxO Γ kp nc so jn bi mo) rfl hΓ mixed (Jyr d) l (Jro Γ kp nc so jn bi mo) rfl rfl e a g f λx r h=>(m x).trans h
abbrev V5:=List (Int×Int)
abbrev V4:=HP V5 (HP Int (HP V5 (HP Int (HP V5 Unit))))
abbrev V6:=HP (List (Int×V5)) (HP Int (HP Int (HP (List (Int×V5)) Unit)))
abbrev V7:=HP Bool V4
abbrev V8:=HP Bool (HP Int V4)
abbrev V9:=HP V5 (HP V5 (HP Int (HP Int Unit)))
abbrev Va:=HP Bool (HP Int V7)
noncomputable def Jb9[W](a:(Int×Int)):Option Bool:=br (cm .geq a.1 (-1048576)) (br (cm .leq a.1 1048576) (br (cm .geq a.2 (-1048576)) (some (cm .leq a.2 1048576)) (some false)) (some false)) (some false)
noncomputable def Xv:Ctr:=⟨129,[(.ag,(.p I I))],[(false,.bool)],@Jb9 wv⟩
theorem Jsd(w:W)(a):fnD (dW w) (V1 []) 8 129 Xv.as Xv.rs a=@Jb9 w a:=by kernel_rfl
theorem Jin:V3 Xv:=V2 Jl (Jk (by kernel_rfl)) rfl rfl rfl (Jsd wv)
noncomputable def Xe[W](a:(V5×Int)):Option Bool:=gd (cm .neq 2 0)<|some (cm .eql (ar .rem .i64 a.2 2) 1)
noncomputable def Js:Ctr:=⟨191,[(.rp,(.p (.ls (.p I I)) I))],[(false,.bool)],@Xe wv⟩
theorem Jd9(w:W)(a):fnD (dW w) (V1 []) 8 191 Js.as Js.rs a=@Xe w a:=by kernel_rfl
theorem zt:V3 Js:=V2 Jl (Jk (by kernel_rfl)) rfl rfl rfl (Jd9 wv)
noncomputable def Jcg[W](a:Int):Option Bool:=br (cm .geq a (-4096)) (some (cm .lss a 4096)) (some false)
noncomputable def Kd:Ctr:=⟨67,[(.one,I)],[(false,.bool)],@Jcg wv⟩
theorem Js0(w:W)(a):fnD (dW w) (V1 []) 8 67 Kd.as Kd.rs a=@Jcg w a:=by kernel_rfl
theorem Jjc:V3 Kd:=V2 Jl (Jk (by kernel_rfl)) rfl rfl rfl (Js0 wv)
noncomputable def Yh[W](s:V9):Option (Nx V9 (Unit⊕Unit)):=br (cm .lss s.j.j.j.e s.j.j.e) (ge s.j.e s.j.j.j.e λv0=>br (cm .geq v0.1 v0.2) (some (.out (.inl ()))) (call Xv ((v0.1,v0.2):(Int×Int)) λ(v1:Bool)=>br (nt v1) (some (.out (.inl ()))) (br (cm .gtr s.j.j.j.e 0) (ge s.e (ar .sub .i64 s.j.j.j.e 1) λv2=>br (cm .leq v0.1 v2.2) (some (.out (.inl ()))) (some (.go ⟨s.e,s.j.e,s.j.j.e,(ar .add .i64 s.j.j.j.e 1),()⟩))) (some (.go ⟨s.e,s.j.e,s.j.j.e,(ar .add .i64 s.j.j.j.e 1),()⟩))))) (some (.out (.inr ())))
noncomputable def Jc7[W](a:V5):Option Bool:=loop Yh ⟨a,a,(ln a),0,()⟩ λv3=>match v3 with|.inl v4=>(some false)|.inr v5=>(some true)
noncomputable def Jy:Ctr:=⟨68,[(.one,(.ls (.p I I)))],[(false,.bool)],@Jc7 wv⟩
theorem Jqb(w:W)(a):fnD (dW w) (V1 [(129,Xv)]) 8 68 Jy.as Jy.rs a=@Jc7 w a:=by kernel_rfl
theorem Jbc:V3 Jy:=V2 (Jb Jin Jl) (Jk (by kernel_rfl)) rfl rfl rfl (Jqb wv)
noncomputable def Xo[W](s:V6):Option (Nx V6 (Unit⊕Unit)):=br (cm .lss s.j.j.e s.j.e) (ge s.e s.j.j.e λv0=>call Kd (v0.1:Int) λ(v1:Bool)=>br (nt v1) (some (.out (.inl ()))) (br (cm .gtr s.j.j.e 0) (ge s.j.j.j.e (ar .sub .i64 s.j.j.e 1) λv2=>br (cm .leq v0.1 v2.1) (some (.out (.inl ()))) (br (cm .eql (ln v0.2) 0) (some (.out (.inl ()))) (call Jy (v0.2:V5) λ(v3:Bool)=>br (nt v3) (some (.out (.inl ()))) (ge v0.2 0 λv4=>call Kd (v4.1:Int) λ(v5:Bool)=>br (nt v5) (some (.out (.inl ()))) (ge v0.2 (ar .sub .i64 (ln v0.2) 1) λe=>call Kd ((ar .sub .i64 e.2 1):Int) λ(d:Bool)=>br (nt d) (some (.out (.inl ()))) (some (.go ⟨s.e,s.j.e,(ar .add .i64 s.j.j.e 1),s.j.j.j⟩))))))) (br (cm .eql (ln v0.2) 0) (some (.out (.inl ()))) (call Jy (v0.2:V5) λ(a:Bool)=>br (nt a) (some (.out (.inl ()))) (ge v0.2 0 λv9=>call Kd (v9.1:Int) λ(v10:Bool)=>br (nt v10) (some (.out (.inl ()))) (ge v0.2 (ar .sub .i64 (ln v0.2) 1) λv11=>call Kd ((ar .sub .i64 v11.2 1):Int) λ(v12:Bool)=>br (nt v12) (some (.out (.inl ()))) (some (.go ⟨s.e,s.j.e,(ar .add .i64 s.j.j.e 1),s.j.j.j⟩)))))))) (some (.out (.inr ())))
noncomputable def j9[W](a:(List (Int×V5))):Option Bool:=loop Xo ⟨a,(ln a),0,a,()⟩ λv13=>match v13 with|.inl v14=>(some false)|.inr v15=>(some true)
noncomputable def Jg:Ctr:=⟨23,[(.ag,(.ls (.p I (.ls (.p I I)))))],[(false,.bool)],@j9 wv⟩
theorem Jk2(w:W)(a):fnD (dW w) (V1 [(67,Kd),(68,Jy)]) 8 23 Jg.as Jg.rs a=@j9 w a:=by kernel_rfl
theorem Kp:V3 Jg:=V2 (Jb Jjc (Jb Jbc Jl)) (Jk (by kernel_rfl)) rfl rfl rfl (Jk2 wv)
noncomputable def Yd[W](a:(V5×Int)):Option Bool:=some (cm .eql a.2 (ar .mul .i64 2 (ln a.1)))
noncomputable def J4:Ctr:=⟨188,[(.rp,(.p (.ls (.p I I)) I))],[(false,.bool)],@Yd wv⟩
theorem Je6(w:W)(a):fnD (dW w) (V1 []) 8 188 J4.as J4.rs a=@Yd w a:=by kernel_rfl
theorem Ja8:V3 J4:=V2 Jl (Jk (by kernel_rfl)) rfl rfl rfl (Je6 wv)
noncomputable def Yb[W](a:(V5×Int)):Option Int:=call J4 (a:(V5×Int)) λ(v0:Bool)=>br v0 (some 1048577) (call Js (a:(V5×Int)) λ(v1:Bool)=>br v1 (gd (cm .neq 2 0)<|ge a.1 (ar .quo .i64 a.2 2) λv2=>some v2.2) (gd (cm .neq 2 0)<|ge a.1 (ar .quo .i64 a.2 2) λv3=>some v3.1))
noncomputable def J8:Ctr:=⟨189,[(.rp,(.p (.ls (.p I I)) I))],[(false,I)],@Yb wv⟩
theorem Jf9(w:W)(a):fnD (dW w) (V1 [(188,J4),(191,Js)]) 8 189 J8.as J8.rs a=@Yb w a:=by kernel_rfl
theorem Jfa:V3 J8:=V2 (Jb Ja8 (Jb zt Jl)) (Jk (by kernel_rfl)) rfl rfl rfl (Jf9 wv)
noncomputable def Q1[W](s:V7):Option (V7⊕(HP V5 Unit)):=call J4 ((s.j.e,s.j.j.e):(V5×Int)) λ(v2:Bool)=>br (nt v2) (some ((.inl s))) (call J4 ((s.j.j.j.e,s.j.j.j.j.e):(V5×Int)) λ(v3:Bool)=>br (nt v3) (some ((.inl s))) (some ((.inr s.j.j.j.j.j))))
noncomputable def jb[W](v5:V7)(d:Int)(a:Int):Option V8:=call J8 ((v5.j.e,v5.j.j.e):(V5×Int)) λ(e:Int)=>br (cm .eql e (mn d a)) (some (⟨v5.e,(mn d a),v5.j.e,(ar .add .i64 v5.j.j.e 1),v5.j.j.j⟩)) (some (⟨v5.e,(mn d a),v5.j⟩))
noncomputable def Z0[W](v9:V8):Option V8:=call J8 ((v9.j.j.j.j.e,v9.j.j.j.j.j.e):(V5×Int)) λ(v10:Int)=>br (cm .eql v10 v9.j.e) (some (⟨v9.e,v9.j.e,v9.j.j.e,v9.j.j.j.e,v9.j.j.j.j.e,(ar .add .i64 v9.j.j.j.j.j.e 1),v9.j.j.j.j.j.j⟩)) (some (v9))
noncomputable def Zp[W](v11:V8):Option Va:=call Js ((v11.j.j.e,v11.j.j.j.e):(V5×Int)) λ(v12:Bool)=>call Js ((v11.j.j.j.j.e,v11.j.j.j.j.j.e):(V5×Int)) λ(v13:Bool)=>br v12 (some (⟨v11.e,v11.j.e,(nt v13),v11.j.j⟩)) (some (⟨v11.e,v11.j.e,false,v11.j.j⟩))
noncomputable def jc[W](v14:Va):Option V7:=br v14.j.j.e (br (nt v14.e) (gd (ft 16 (pl (ln v14.j.j.j.j.j.j.j.e) 1))<|some (⟨v14.j.j.e,v14.j.j.j.e,v14.j.j.j.j.e,v14.j.j.j.j.j.e,v14.j.j.j.j.j.j.e,(ap v14.j.j.j.j.j.j.j.e ((v14.j.e,0)::[])),()⟩)) (br (nt v14.j.j.e) (br v14.e (gd (ib (ar .sub .i64 (ln v14.j.j.j.j.j.j.j.e) 1) (ln v14.j.j.j.j.j.j.j.e))<|ge v14.j.j.j.j.j.j.j.e (ar .sub .i64 (ln v14.j.j.j.j.j.j.j.e) 1) λv15=>some (⟨v14.j.j.e,v14.j.j.j.e,v14.j.j.j.j.e,v14.j.j.j.j.j.e,v14.j.j.j.j.j.j.e,(st v14.j.j.j.j.j.j.j.e (ar .sub .i64 (ln v14.j.j.j.j.j.j.j.e) 1) (v15.1,v14.j.e)),()⟩)) (some (v14.j.j))) (some (v14.j.j)))) (br (nt v14.j.j.e) (br v14.e (gd (ib (ar .sub .i64 (ln v14.j.j.j.j.j.j.j.e) 1) (ln v14.j.j.j.j.j.j.j.e))<|ge v14.j.j.j.j.j.j.j.e (ar .sub .i64 (ln v14.j.j.j.j.j.j.j.e) 1) λv16=>some (⟨v14.j.j.e,v14.j.j.j.e,v14.j.j.j.j.e,v14.j.j.j.j.j.e,v14.j.j.j.j.j.j.e,(st v14.j.j.j.j.j.j.j.e (ar .sub .i64 (ln v14.j.j.j.j.j.j.j.e) 1) (v16.1,v14.j.e)),()⟩)) (some (v14.j.j))) (some (v14.j.j)))
noncomputable def Qe[W](s:V7):Option (Nx V7 (HP V5 Unit)):=join (Q1 s) λv4=>match v4 with|.inl v5=>(call J8 ((v5.j.e,v5.j.j.e):(V5×Int)) λ(d:Int)=>call J8 ((v5.j.j.j.e,v5.j.j.j.j.e):(V5×Int)) λ(a:Int)=>join (jb v5 d a) λv9=>join (Z0 v9) λv11=>join (Zp v11) λv14=>join (jc v14) λv17=>some (.go v17))|.inr v18=>(some (.out ⟨v18.e,()⟩))
noncomputable def Yo[W](a:(V5×V5)):Option V5:=call Jy (a.1:V5) λ(v0:Bool)=>br (nt v0) (some []) (call Jy (a.2:V5) λ(v1:Bool)=>br (nt v1) (some []) (loop Qe ⟨false,a.1,0,a.2,0,[],()⟩ λv19=>some v19.e))
noncomputable def Xk:Ctr:=⟨91,[(.one,(.ls (.p I I))),(.one,(.ls (.p I I)))],[(false,(.ls (.p I I)))],@Yo wv⟩
theorem Jiw(w:W)(a):fnD (dW w) (cxO (gam [(188,J4),(189,J8),(191,Js),(68,Jy)]) [] [] [] [32768007,32768009,32768010,32768011,32768015] [] []) 8 91 Xk.as Xk.rs a=@Yo w a:=by kernel_rfl
theorem Jkd:V3 Xk:=good (gam [(188,J4),(189,J8),(191,Js),(68,Jy)]) [] [] [] [32768007,32768009,32768010,32768011,32768015] [] [] 8 (Jb Ja8 (Jb Jfa (Jb zt (Jb Jbc Jl)))) J2 J3 (Jk (by kernel_rfl)) rfl rfl rfl (Jiw wv)
end Go.Proofs.YtmfagdfkpjgeiaaGreat
namespace Go.Proofs.YtmfagdfkpjgeiaaGreat
open Go Go.Vv Go.Dn
theorem addT:AddT PG 128 130 167 133 8:=
 ⟨by kernel_rfl,by kernel_rfl,by kernel_rfl,by kernel_rfl,⟨(PG.info? 167).getD default,by kernel_rfl,by kernel_rfl,by kernel_rfl,by kernel_rfl⟩,by kernel_rfl,by kernel_rfl,by kernel_rfl⟩
end Go.Proofs.YtmfagdfkpjgeiaaGreat
