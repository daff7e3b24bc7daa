/- The typed texts of functions, and that they are right. Conditions: none. -/
import Derived.Test.YtmfagdfkpjgeiaaGreatOB
import Derived.Test.YtmfagdfkpjgeiaaGreatProg
import Derived.Test.YtmfagdfkpjgeiaaGreatFB
import Derived.Test.YtmfagdfkpjgeiaaGreatTT
set_option linter.unusedVariables false
set_option linter.unusedSimpArgs false
set_option maxRecDepth 100000
namespace Go.Proofs.YtmfagdfkpjgeiaaGreat
open Go Go.Vv Go.Dn Go.Dn.W
noncomputable abbrev PG:Program:=Tryz.prog
noncomputable def cxO(Γ:FuncId->Option Ctr)(kp nc:List Nat)(so:List SCt)(jn:List Nat)(bi:List (Nat×Bi))(mo:List Nat):Cx:=⟨Γ,tyM PG mo,λf=>match memN f nc with|true=>none|false=>compF PG f,λk=>memN k kp,[],false,soL so,λk=>memN k jn,λf=>lookB f bi⟩
noncomputable def gam(l:List (Nat×Ctr))(f:FuncId):Option Ctr:=Go.Dn.look f l
theorem J04(Γ:FuncId->Option Ctr)(kp nc:List Nat)(so:List SCt)(jn:List Nat)(bi:List (Nat×Bi))(mo:List Nat):Jt4 PG (cxO Γ kp nc so jn bi mo):=λf lf h=>by
 have h:(match memN f nc with|true=>none|false=>compF PG f)=some lf:=h;split at h
 ·cases h
 ·exact h
theorem Kj{P:Program}:∀x∈([]:List SCt),Jfe P x:=λx h=>by cases h
theorem J3c{P:Program}{x:SCt}{l:List SCt}(h:Jfe P x)(t:∀x∈l,Jfe P x):∀y∈x::l,Jfe P y:=λy a=>by
 rcases List.mem_cons.1 a with rfl|a
 ·exact h
 ·exact t y a
def fnB(P : Program)(f : FuncId) : Bool := match P.funcs[f]? with | some fn => fn.body.isSome && !(fn.name == "runtime.NumGoroutine") | none => false
theorem Jv{f:FuncId}(h:fnB PG f=true):FnOK PG f:=by
 unfold fnB at h;split at h
 ·rename_i fn a;simp only [Bool.and_eq_true,Bool.not_eq_true'] at h;exact ⟨fn,a,h.1,h.2⟩
 ·cases h
theorem mixed:PG.follows .mixedOrders=true:=by kernel_rfl
theorem Jw:Jp5 PG (gam []):=λf c h=>by cases h
theorem Jk{c:Ctr}{l:List (Nat×Ctr)}(h:Go.Dn.Good PG c)(t:Jp5 PG (gam l)):Jp5 PG (gam ((c.id,c)::l)):=λf x hx=>by
 have hx:Go.Dn.look f ((c.id,c)::l)=some x:=hx;rw [Kb] at hx;split at hx
 ·rename_i e;injection hx with hx;subst hx;exact ⟨e,h⟩
 ·exact t f x hx
def BiL(P:Program)(l:List (Nat×Bi)):Prop:=∀f B,lookB f l=some B->Jgf P f B
theorem Kk:BiL PG []:=λf B h=>by cases h
theorem Jls{f:Nat}{B:Bi}{l:List (Nat×Bi)}(h:Jgf PG f B)(t:BiL PG l):BiL PG ((f,B)::l):=λg C a=>by
 unfold lookB at a;split at a
 ·rename_i e;injection a with a;subst a;exact Nat.eq_of_beq_eq_true e▸h
 ·exact t g C a
theorem good(Γ:FuncId->Option Ctr)(kp nc:List Nat)(so:List SCt)(jn:List Nat)(bi:List (Nat×Bi))(mo:List Nat)(n:Nat){c:Ctr}(hΓ:Jp5 PG Γ)(a:∀x∈so,Jfe PG x)(l:BiL PG bi)(g:FnOK PG c.id)(f:c.ok=true)(d:c.rs.all rkOK=true)(m:∀x,fnD val (cxO Γ kp nc so jn bi mo) n c.id c.as c.rs x=c.fn x):Go.Dn.Good PG c:=
 good_of (cx:=cxO Γ kp nc so jn bi mo) rfl hΓ mixed (soL_ok a) l (J04 Γ kp nc so jn bi mo) rfl rfl f d g λx r h=>(m x).trans h
noncomputable def V1(l:List (Nat×Ctr)):Cx:=cxO (gam l) [] [] [] [] [] []
abbrev V3:=Go.Dn.Good PG
theorem V2{l:List (Nat×Ctr)}{c:Ctr}(hΓ:Jp5 PG (gam l))(f:FnOK PG c.id)(d:c.ok=true)(a:c.rs.all rkOK=true)(g:∀x,fnD val (V1 l) 8 c.id c.as c.rs x=c.fn x):Go.Dn.Good PG c:=good (gam l) [] [] [] [] [] [] 8 hΓ Kj Kk f d a g
theorem own(Γ:FuncId->Option Ctr)(kp nc:List Nat)(so:List SCt)(jn:List Nat)(bi:List (Nat×Bi))(mo:List Nat)(n:Nat){c:OCt}(hΓ:Jp5 PG Γ)(d:∀x∈so,Jfe PG x)(m:BiL PG bi)(l:FnOK PG c.id)(f:c.as.all akOK=true)(a:0<c.t.sz)(g:Nat.ble yB c.id=false)(o:∀x,fnO val (cxO Γ kp nc so jn bi mo) n c.id c.as c.t c.el x=c.fn x):OGood PG c:=
 own_of (cx:=cxO Γ kp nc so jn bi mo) rfl hΓ mixed (soL_ok d) m (J04 Γ kp nc so jn bi mo) rfl rfl f a l g λx r h=>(o x).trans h
abbrev V4:=List (Int×Int)
abbrev V5:=HP V4 (HP Int (HP V4 (HP Int (HP V4 Unit))))
abbrev V6:=List (Int×V4)
abbrev V7:=HP Bool V5
abbrev V8:=HP Int (HP Int Unit)
abbrev V9:=HP Bool (HP Int V5)
abbrev Va:=List Int
abbrev Vb:=HP V6 (HP Int (HP Int (HP V6 Unit)))
abbrev Vc:=HP Bool (HP Int V7)
noncomputable def Jdo[W](a:(Int×Int)):Option Bool:=br (cm .geq a.1 (-1048576)) (br (cm .leq a.1 1048576) (br (cm .geq a.2 (-1048576)) (some (cm .leq a.2 1048576)) (some false)) (some false)) (some false)
noncomputable def Jab:Ctr:=⟨129,[(.ag,(.p I I))],[(false,.bool)],@Jdo wv⟩
theorem Jva(w:W)(a):fnD (dW w) (V1 []) 8 129 Jab.as Jab.rs a=@Jdo w a:=by kernel_rfl
theorem Jve:V3 Jab:=V2 Jw (Jv (by kernel_rfl)) rfl rfl (Jva wv)
noncomputable def Yb[W](a:(V4×Int)):Option Bool:=gd (cm .neq 2 0)<|some (cm .eql (ar .rem .i64 a.2 2) 1)
noncomputable def Jm:Ctr:=⟨191,[(.rp,(.p (.ls (.p I I)) I))],[(false,.bool)],@Yb wv⟩
theorem Jf2(w:W)(a):fnD (dW w) (V1 []) 8 191 Jm.as Jm.rs a=@Yb w a:=by kernel_rfl
theorem Yd:V3 Jm:=V2 Jw (Jv (by kernel_rfl)) rfl rfl (Jf2 wv)
noncomputable def Jdh[W](a:Int):Option Bool:=br (cm .geq a (-4096)) (some (cm .lss a 4096)) (some false)
noncomputable def K8:Ctr:=⟨67,[(.one,I)],[(false,.bool)],@Jdh wv⟩
theorem Jut(w:W)(a):fnD (dW w) (V1 []) 8 67 K8.as K8.rs a=@Jdh w a:=by kernel_rfl
theorem Juw:V3 K8:=V2 Jw (Jv (by kernel_rfl)) rfl rfl (Jut wv)
noncomputable def Qj[W](s:(HP V4 (HP V4 V8))):Option (Nx (HP V4 (HP V4 V8)) (Unit⊕Unit)):=br (cm .lss s.j.j.j.e s.j.j.e) (ge s.j.e s.j.j.j.e λv0=>br (cm .geq v0.1 v0.2) (some (.out (.inl ()))) (call Jab ((v0.1,v0.2):(Int×Int)) λ(v1:Bool)=>br (nt v1) (some (.out (.inl ()))) (br (cm .gtr s.j.j.j.e 0) (ge s.e (ar .sub .i64 s.j.j.j.e 1) λv2=>br (cm .leq v0.1 v2.2) (some (.out (.inl ()))) (some (.go ⟨s.e,s.j.e,s.j.j.e,(ar .add .i64 s.j.j.j.e 1),()⟩))) (some (.go ⟨s.e,s.j.e,s.j.j.e,(ar .add .i64 s.j.j.j.e 1),()⟩))))) (some (.out (.inr ())))
noncomputable def Jce[W](a:V4):Option Bool:=loop Qj ⟨a,a,(ln a),0,()⟩ λv3=>match v3 with|.inl v4=>(some false)|.inr v5=>(some true)
noncomputable def Jr:Ctr:=⟨68,[(.one,(.ls (.p I I)))],[(false,.bool)],@Jce wv⟩
theorem Jt0(w:W)(a):fnD (dW w) (V1 [(129,Jab)]) 8 68 Jr.as Jr.rs a=@Jce w a:=by kernel_rfl
theorem Ja0:V3 Jr:=V2 (Jk Jve Jw) (Jv (by kernel_rfl)) rfl rfl (Jt0 wv)
noncomputable def Ku[W](s:Vb):Option (Nx Vb (Unit⊕Unit)):=br (cm .lss s.j.j.e s.j.e) (ge s.e s.j.j.e λv0=>call K8 (v0.1:Int) λ(v1:Bool)=>br (nt v1) (some (.out (.inl ()))) (br (cm .gtr s.j.j.e 0) (ge s.j.j.j.e (ar .sub .i64 s.j.j.e 1) λv2=>br (cm .leq v0.1 v2.1) (some (.out (.inl ()))) (br (cm .eql (ln v0.2) 0) (some (.out (.inl ()))) (call Jr (v0.2:V4) λ(v3:Bool)=>br (nt v3) (some (.out (.inl ()))) (ge v0.2 0 λv4=>call K8 (v4.1:Int) λ(v5:Bool)=>br (nt v5) (some (.out (.inl ()))) (ge v0.2 (ar .sub .i64 (ln v0.2) 1) λf=>call K8 ((ar .sub .i64 f.2 1):Int) λ(d:Bool)=>br (nt d) (some (.out (.inl ()))) (some (.go ⟨s.e,s.j.e,(ar .add .i64 s.j.j.e 1),s.j.j.j⟩))))))) (br (cm .eql (ln v0.2) 0) (some (.out (.inl ()))) (call Jr (v0.2:V4) λ(a:Bool)=>br (nt a) (some (.out (.inl ()))) (ge v0.2 0 λv9=>call K8 (v9.1:Int) λ(v10:Bool)=>br (nt v10) (some (.out (.inl ()))) (ge v0.2 (ar .sub .i64 (ln v0.2) 1) λv11=>call K8 ((ar .sub .i64 v11.2 1):Int) λ(v12:Bool)=>br (nt v12) (some (.out (.inl ()))) (some (.go ⟨s.e,s.j.e,(ar .add .i64 s.j.j.e 1),s.j.j.j⟩)))))))) (some (.out (.inr ())))
noncomputable def Yw[W](a:V6):Option Bool:=loop Ku ⟨a,(ln a),0,a,()⟩ λv13=>match v13 with|.inl v14=>(some false)|.inr v15=>(some true)
noncomputable def Js:Ctr:=⟨23,[(.ag,(.ls (.p I (.ls (.p I I)))))],[(false,.bool)],@Yw wv⟩
theorem Jnf(w:W)(a):fnD (dW w) (V1 [(67,K8),(68,Jr)]) 8 23 Js.as Js.rs a=@Yw w a:=by kernel_rfl
theorem jb:V3 Js:=V2 (Jk Juw (Jk Ja0 Jw)) (Jv (by kernel_rfl)) rfl rfl (Jnf wv)
noncomputable def Y9[W](a:(V4×Int)):Option Bool:=some (cm .eql a.2 (ar .mul .i64 2 (ln a.1)))
noncomputable def Jn:Ctr:=⟨188,[(.rp,(.p (.ls (.p I I)) I))],[(false,.bool)],@Y9 wv⟩
theorem Jh5(w:W)(a):fnD (dW w) (V1 []) 8 188 Jn.as Jn.rs a=@Y9 w a:=by kernel_rfl
theorem Y5:V3 Jn:=V2 Jw (Jv (by kernel_rfl)) rfl rfl (Jh5 wv)
noncomputable def Y6[W](a:(V4×Int)):Option Int:=call Jn (a:(V4×Int)) λ(v0:Bool)=>br v0 (some 1048577) (call Jm (a:(V4×Int)) λ(v1:Bool)=>br v1 (gd (cm .neq 2 0)<|ge a.1 (ar .quo .i64 a.2 2) λv2=>some v2.2) (gd (cm .neq 2 0)<|ge a.1 (ar .quo .i64 a.2 2) λv3=>some v3.1))
noncomputable def Jl:Ctr:=⟨189,[(.rp,(.p (.ls (.p I I)) I))],[(false,I)],@Y6 wv⟩
theorem Jhh(w:W)(a):fnD (dW w) (V1 [(188,Jn),(191,Jm)]) 8 189 Jl.as Jl.rs a=@Y6 w a:=by kernel_rfl
theorem j9:V3 Jl:=V2 (Jk Y5 (Jk Yd Jw)) (Jv (by kernel_rfl)) rfl rfl (Jhh wv)
noncomputable def Xy[W](s:V7):Option (V7⊕(HP V4 Unit)):=call Jn ((s.j.e,s.j.j.e):(V4×Int)) λ(v2:Bool)=>br (nt v2) (some ((.inl s))) (call Jn ((s.j.j.j.e,s.j.j.j.j.e):(V4×Int)) λ(v3:Bool)=>br (nt v3) (some ((.inl s))) (some ((.inr s.j.j.j.j.j))))
noncomputable def zd[W](v5:V7)(d:Int)(a:Int):Option V9:=call Jl ((v5.j.e,v5.j.j.e):(V4×Int)) λ(f:Int)=>br (cm .eql f (mn d a)) (some (⟨v5.e,(mn d a),v5.j.e,(ar .add .i64 v5.j.j.e 1),v5.j.j.j⟩)) (some (⟨v5.e,(mn d a),v5.j⟩))
noncomputable def zf[W](v9:V9):Option V9:=call Jl ((v9.j.j.j.j.e,v9.j.j.j.j.j.e):(V4×Int)) λ(v10:Int)=>br (cm .eql v10 v9.j.e) (some (⟨v9.e,v9.j.e,v9.j.j.e,v9.j.j.j.e,v9.j.j.j.j.e,(ar .add .i64 v9.j.j.j.j.j.e 1),v9.j.j.j.j.j.j⟩)) (some (v9))
noncomputable def zq[W](v11:V9):Option Vc:=call Jm ((v11.j.j.e,v11.j.j.j.e):(V4×Int)) λ(v12:Bool)=>call Jm ((v11.j.j.j.j.e,v11.j.j.j.j.j.e):(V4×Int)) λ(v13:Bool)=>br v12 (some (⟨v11.e,v11.j.e,(nt v13),v11.j.j⟩)) (some (⟨v11.e,v11.j.e,false,v11.j.j⟩))
noncomputable def zm[W](v14:Vc):Option V7:=br v14.j.j.e (br (nt v14.e) (gd (ft 16 (pl (ln v14.j.j.j.j.j.j.j.e) 1))<|some (⟨v14.j.j.e,v14.j.j.j.e,v14.j.j.j.j.e,v14.j.j.j.j.j.e,v14.j.j.j.j.j.j.e,(ap v14.j.j.j.j.j.j.j.e ((v14.j.e,0)::[])),()⟩)) (br (nt v14.j.j.e) (br v14.e (gd (ib (ar .sub .i64 (ln v14.j.j.j.j.j.j.j.e) 1) (ln v14.j.j.j.j.j.j.j.e))<|ge v14.j.j.j.j.j.j.j.e (ar .sub .i64 (ln v14.j.j.j.j.j.j.j.e) 1) λv15=>some (⟨v14.j.j.e,v14.j.j.j.e,v14.j.j.j.j.e,v14.j.j.j.j.j.e,v14.j.j.j.j.j.j.e,(st v14.j.j.j.j.j.j.j.e (ar .sub .i64 (ln v14.j.j.j.j.j.j.j.e) 1) (v15.1,v14.j.e)),()⟩)) (some (v14.j.j))) (some (v14.j.j)))) (br (nt v14.j.j.e) (br v14.e (gd (ib (ar .sub .i64 (ln v14.j.j.j.j.j.j.j.e) 1) (ln v14.j.j.j.j.j.j.j.e))<|ge v14.j.j.j.j.j.j.j.e (ar .sub .i64 (ln v14.j.j.j.j.j.j.j.e) 1) λv16=>some (⟨v14.j.j.e,v14.j.j.j.e,v14.j.j.j.j.e,v14.j.j.j.j.j.e,v14.j.j.j.j.j.j.e,(st v14.j.j.j.j.j.j.j.e (ar .sub .i64 (ln v14.j.j.j.j.j.j.j.e) 1) (v16.1,v14.j.e)),()⟩)) (some (v14.j.j))) (some (v14.j.j)))
noncomputable def Qv[W](s:V7):Option (Nx V7 (HP V4 Unit)):=join (Xy s) λv4=>match v4 with|.inl v5=>(call Jl ((v5.j.e,v5.j.j.e):(V4×Int)) λ(d:Int)=>call Jl ((v5.j.j.j.e,v5.j.j.j.j.e):(V4×Int)) λ(a:Int)=>join (zd v5 d a) λv9=>join (zf v9) λv11=>join (zq v11) λv14=>join (zm v14) λv17=>some (.go v17))|.inr v18=>(some (.out ⟨v18.e,()⟩))
noncomputable def zh[W](a:(V4×V4)):Option V4:=call Jr (a.1:V4) λ(v0:Bool)=>br (nt v0) (some []) (call Jr (a.2:V4) λ(v1:Bool)=>br (nt v1) (some []) (loop Qv ⟨false,a.1,0,a.2,0,[],()⟩ λv19=>some v19.e))
noncomputable def Xi:Ctr:=⟨91,[(.one,(.ls (.p I I))),(.one,(.ls (.p I I)))],[(false,(.ls (.p I I)))],@zh wv⟩
theorem Jmi(w:W)(a):fnD (dW w) (cxO (gam [(188,Jn),(189,Jl),(191,Jm),(68,Jr)]) [] [] [] [32768007,32768009,32768010,32768011,32768015] [] []) 8 91 Xi.as Xi.rs a=@zh w a:=by kernel_rfl
theorem Jk0:V3 Xi:=good (gam [(188,Jn),(189,Jl),(191,Jm),(68,Jr)]) [] [] [] [32768007,32768009,32768010,32768011,32768015] [] [] 8 (Jk Y5 (Jk j9 (Jk Yd (Jk Ja0 Jw)))) Kj Kk (Jv (by kernel_rfl)) rfl rfl (Jmi wv)
noncomputable def Zs[W](a:(V6×Int)):Option (V4×V4):=ge a.1 a.2 λv0=>br (cm .gtr a.2 0) (ge a.1 (ar .sub .i64 a.2 1) λv1=>br (cm .eql v1.1 (ar .sub .i64 v0.1 1)) (ge a.1 (ar .sub .i64 a.2 1) λv2=>br (cm .lss (ar .add .i64 a.2 1) (ln a.1)) (ge a.1 (ar .add .i64 a.2 1) λv3=>br (cm .eql v3.1 (ar .add .i64 v0.1 1)) (ge a.1 (ar .add .i64 a.2 1) λv4=>some (v2.2,v4.2)) (some (v2.2,[]))) (some (v2.2,[]))) (br (cm .lss (ar .add .i64 a.2 1) (ln a.1)) (ge a.1 (ar .add .i64 a.2 1) λv5=>br (cm .eql v5.1 (ar .add .i64 v0.1 1)) (ge a.1 (ar .add .i64 a.2 1) λg=>some ([],g.2)) (some ([],[]))) (some ([],[])))) (br (cm .lss (ar .add .i64 a.2 1) (ln a.1)) (ge a.1 (ar .add .i64 a.2 1) λf=>br (cm .eql f.1 (ar .add .i64 v0.1 1)) (ge a.1 (ar .add .i64 a.2 1) λd=>some ([],d.2)) (some ([],[]))) (some ([],[])))
noncomputable def Q7:Ctr:=⟨169,[(.ag,(.ls (.p I (.ls (.p I I))))),(.one,I)],[(false,(.ls (.p I I))),(false,(.ls (.p I I)))],@Zs wv⟩
theorem Ji2(w:W)(a):fnD (dW w) (V1 []) 8 169 Q7.as Q7.rs a=@Zs w a:=by kernel_rfl
theorem Jiq:V3 Q7:=V2 Jw (Jv (by kernel_rfl)) rfl rfl (Ji2 wv)
noncomputable def Jt[W](s:(HP Va (HP Int V8))):Option (Nx (HP Va (HP Int V8)) ((HP Int Unit)⊕Unit)):=br (cm .lss s.j.j.j.e s.j.j.e) (ge s.e s.j.j.j.e λv0=>br (cm .eql s.j.e v0) (some (.out (.inl s.j.j.j))) (some (.go ⟨s.e,s.j.e,s.j.j.e,(ar .add .i64 s.j.j.j.e 1),()⟩))) (some (.out (.inr ())))
noncomputable def Jo[W](a:(Va×Int)):Option Int:=loop Jt ⟨a.1,a.2,(ln a.1),0,()⟩ λv1=>match v1 with|.inl v2=>(some v2.e)|.inr v3=>(some (-1))
noncomputable def Jd:Ctr:=⟨220,[(.one,(.ls I)),(.one,I)],[(false,I)],@Jo wv⟩
theorem X1(w:W)(a):fnD (dW w) (V1 []) 8 220 Jd.as Jd.rs a=@Jo w a:=by kernel_rfl
theorem J9:V3 Jd:=V2 Jw (Jv (by kernel_rfl)) rfl rfl (X1 wv)
noncomputable def Ju[W](a:(Va×Int)):Option Bool:=call Jd ((a.1,a.2):(Va×Int)) λ(v0:Int)=>some (cm .geq v0 0)
noncomputable def Jb:Ctr:=⟨176,[(.one,(.ls I)),(.one,I)],[(false,.bool)],@Ju wv⟩
theorem Xf(w:W)(a):fnD (dW w) (V1 [(220,Jd)]) 8 176 Jb.as Jb.rs a=@Ju w a:=by kernel_rfl
theorem Xb:V3 Jb:=V2 (Jk J9 Jw) (Jv (by kernel_rfl)) rfl rfl (Xf wv)
noncomputable def Q3[W](a:(Int×(Int×Int))):Option (Int×Int):=br (cm .eql a.1 0) (some ((ar .add .i64 a.2.1 1),a.2.2)) (br (cm .eql a.1 1) (some (a.2.1,(ar .add .i64 a.2.2 1))) (br (cm .eql a.1 2) (some ((ar .sub .i64 a.2.1 1),a.2.2)) (some (a.2.1,(ar .sub .i64 a.2.2 1)))))
noncomputable def J8:Ctr:=⟨173,[(.one,I),(.ag,(.p I I))],[(true,(.p I I))],@Q3 wv⟩
theorem Jeb(w:W)(a):fnD (dW w) (V1 []) 8 173 J8.as J8.rs a=@Q3 w a:=by kernel_rfl
theorem Jds:V3 J8:=V2 Jw (Jv (by kernel_rfl)) rfl rfl (Jeb wv)
noncomputable def Q2[W](a:Int):Option Int:=gd (cm .neq 4 0)<|some (ar .rem .i64 (ar .add .i64 a 1) 4)
noncomputable def J6:Ctr:=⟨174,[(.one,I)],[(false,I)],@Q2 wv⟩
theorem Jdr(w:W)(a):fnD (dW w) (V1 []) 8 174 J6.as J6.rs a=@Q2 w a:=by kernel_rfl
theorem Jdk:V3 J6:=V2 Jw (Jv (by kernel_rfl)) rfl rfl (Jdr wv)
noncomputable def Qr[W](a:Int):Option Int:=gd (cm .neq 4 0)<|some (ar .rem .i64 (ar .add .i64 a 3) 4)
noncomputable def J3:Ctr:=⟨175,[(.one,I)],[(false,I)],@Qr wv⟩
theorem Jc7(w:W)(a):fnD (dW w) (V1 []) 8 175 J3.as J3.rs a=@Qr w a:=by kernel_rfl
theorem Jc9:V3 J3:=V2 Jw (Jv (by kernel_rfl)) rfl rfl (Jc7 wv)
noncomputable def Zm[W](a:((Int×Int)×(Int×Int))):Option Int:=br (cm .neq a.1.2 a.2.2) (some (ar .sub .i64 a.1.2 a.2.2)) (some (ar .sub .i64 a.1.1 a.2.1))
noncomputable def Ji5:Ctr:=⟨132,[(.ag,(.p I I)),(.ag,(.p I I))],[(false,I)],@Zm wv⟩
theorem Ji6(w:W)(a):fnD (dW w) (V1 []) 8 132 Ji5.as Ji5.rs a=@Zm w a:=by kernel_rfl
theorem Jih:V3 Ji5:=V2 Jw (Jv (by kernel_rfl)) rfl rfl (Ji6 wv)
noncomputable def J7[W](a:Va):Option Va:=nq (ln a) λv0=>br v0 (some []) (gd (ft 8 (pl 0 (ln a)))<|some a)
noncomputable def Xz:OCt:=⟨222,[(.one,(.ls I))],167,I,@J7 wv⟩
theorem Xs(w:W)(a):fnO (dW w) (V1 []) 8 222 [(.one,(.ls I))] I 167 a=@J7 w a:=by kernel_rfl
theorem Xt:OGood PG Xz:=own (gam []) [] [] [] [] [] [] 8 Jw Kj Kk (Jv (by kernel_rfl)) rfl (by decide) rfl (Xs wv)
end Go.Proofs.YtmfagdfkpjgeiaaGreat
namespace Go.Proofs.YtmfagdfkpjgeiaaGreat
open Go Go.Vv Go.Dn
def cmpB(x y:Int×Int):Int:=if x.2≠y.2 then IntKind.wrap .i64 (x.2 - y.2) else IntKind.wrap .i64 (x.1 - y.1)
def okB(x:Int×Int):Bool:=decide (-4611686018427387904<x.1/\x.1<4611686018427387904/\-4611686018427387904<x.2/\x.2<4611686018427387904)
theorem J3r{n:Int}(h:-9223372036854775808<=n/\n<=9223372036854775807):IntKind.wrap .i64 n=n:=by simp only [IntKind.wrap,IntKind.bits,IntKind.signed];simp;omega
theorem Jes{x y:Int×Int}(hx:okB x=true)(a:okB y=true):cmpB x y<0↔x.2<y.2\/x.2=y.2/\x.1<y.1:=by
 simp only [okB,decide_eq_true_eq] at hx a;unfold cmpB;split
 ·rw [J3r (by omega)];omega
 ·rw [J3r (by omega)];omega
theorem swoB:Go.Sort.SWO (Go.Proofs.ltOf λx y:{x:Int×Int // okB x=true}=>cmpB x.1 y.1):=by
 refine ⟨λx=>?_,λx y z d a=>?_,λx y z d a=>?_⟩
 ·simp only [Go.Proofs.ltOf,decide_eq_false_iff_not,Jes x.2 x.2];omega
 ·simp only [Go.Proofs.ltOf,decide_eq_true_eq,Jes x.2 y.2,Jes y.2 z.2,Jes x.2 z.2] at *;omega
 ·simp only [Go.Proofs.ltOf,decide_eq_false_iff_not,Jes x.2 y.2,Jes y.2 z.2,Jes x.2 z.2] at *;omega
def eqB(x y:Int×Int):Bool:=x.1==y.1&&x.2==y.2
theorem eqB_eq(x y:Int×Int)(h:eqB x y=true):x=y:=by simp only [eqB,Bool.and_eq_true,beq_iff_eq] at h;exact Prod.ext h.1 h.2
def zB:{x:Int×Int // okB x=true}:=⟨(0,0),by decide⟩
theorem J3f(x y:Int×Int):@Zm wv (x,y)=some (cmpB x y):=by
 show (if icm .neq x.2 y.2=true then some (iar .sub .i64 x.2 y.2) else some (iar .sub .i64 x.1 y.1))=_;unfold cmpB;by_cases h:x.2=y.2
 ·rw [if_neg (by simp [icm,h]),if_neg (by simp [h])];rfl
 ·rw [if_pos (by simp [icm,h]),if_pos h];rfl
noncomputable def Jkb:SCt:=⟨131,132,true,.p I I,Jg0 (t:=.p I I) cmpB okB eqB zB⟩
noncomputable def Jn9:Ctr:=Jkb.ctr
theorem Jy8:Jfe PG Jkb:=
 J1g (P:=PG) (ρ:=Tryz.sortL131_ren) (t:=.p I I) Tryz.sortL131 rfl (λw=>by kernel_rfl) (λw=>by kernel_rfl) (g:=132) (fn:=@Zm wv) Jih cmpB J3f okB swoB eqB eqB_eq zB (by decide) (Jv (by kernel_rfl))
theorem addT:AddT PG 128 130 167 133 8:=
 ⟨by kernel_rfl,by kernel_rfl,by kernel_rfl,by kernel_rfl,⟨(PG.info? 167).getD default,by kernel_rfl,by kernel_rfl,by kernel_rfl,by kernel_rfl⟩,by kernel_rfl,by kernel_rfl,by kernel_rfl⟩
def fnAt(P:Program)(f:Nat):Func:=(P.funcs[f]?).getD default
def J2y(P:Program)(f:Nat):Code:=((fnAt P f).body).getD .skip
theorem addF:AddF PG 170 128 130 167 133:=⟨rfl,fnAt PG 170,J2y PG 170,by kernel_rfl,by kernel_rfl,by kernel_rfl,by kernel_rfl,by kernel_rfl,by kernel_rfl⟩
def Jgl:Bi:=addB 167 8
theorem Jt5:Jgf PG 170 Jgl:=add_good addF addT
theorem takeF:TakeF PG 172 220 222 221 128 130 167 133 3 4:=⟨rfl,fnAt PG 172,J2y PG 172,by kernel_rfl,by kernel_rfl,by kernel_rfl,by kernel_rfl,by kernel_rfl,by kernel_rfl⟩
noncomputable def Je1:Bi:=takeB 8 220 (@Jo wv)
theorem clone_ok(l:List Int)(h:((l.length:Nat):Int) * (8:Nat)<=room/\((l.length:Nat):Int)<=9223372036854775807):@J7 wv l=some l:=by
 have a:decide ((0+((l.length:Nat):Int)) * (8:Nat)<=room/\(0+((l.length:Nat):Int))<=9223372036854775807)=true:=by rw [decide_eq_true_eq];simpa using h
 show nlv ((l.length:Nat):Int) (λv0=>if v0=true then some [] else if decide ((0+((l.length:Nat):Int)) * (8:Nat)<=room/\(0+((l.length:Nat):Int))<=9223372036854775807)=true then some l else none)=some l;rw [a];unfold nlv;split
 ·rename_i d;have:l=[]:=List.eq_nil_of_length_eq_zero (by omega);subst this;simp
 ·simp
theorem Jqf:Jgf PG 172 Je1:=
 J4r (ρ:=Tryz.del221_ren) Tryz.del221 (λw=>by kernel_rfl) (i0:=(PG.info? 167).getD default) (by kernel_rfl) (by kernel_rfl) (Jv (by kernel_rfl)) takeF addT mixed (by kernel_rfl) J9 Xt clone_ok
end Go.Proofs.YtmfagdfkpjgeiaaGreat
