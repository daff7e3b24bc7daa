/- The typed texts of functions, and that they are right. Conditions: none. -/
import Derived.Test.YtmfagdfkpjgeiaaGreatOB
import Derived.Test.YtmfagdfkpjgeiaaGreatProg
import Derived.Test.YtmfagdfkpjgeiaaGreatFB
import Derived.Test.YtmfagdfkpjgeiaaGreatTT
set_option linter.unusedVariables false
set_option linter.unusedSimpArgs false
set_option maxRecDepth 100000
namespace Go.Proofs.YtmfagdfkpjgeiaaGreat
open Go Go.Vv Go.Dn Go.Dn.W
noncomputable abbrev PG:Program:=Tryz.prog
noncomputable def KX(Γ:FuncId->Option BS)(kp nc:List Nat)(so:List GL)(jn:List Nat)(bi:List (Nat×Bi))(mo:List Nat):Cx:=⟨Γ,tyM PG mo,λf=>match FL f nc with|true=>none|false=>MS PG f,λk=>FL k kp,[],false,tK so,λk=>FL k jn,λf=>MN f bi⟩
noncomputable def F9(l:List (Nat×BS))(f:FuncId):Option BS:=Go.Dn.look f l
theorem J6z(Γ:FuncId->Option BS)(kp nc:List Nat)(so:List GL)(jn:List Nat)(bi:List (Nat×Bi))(mo:List Nat):tC PG (KX Γ kp nc so jn bi mo):=λf lf h=>by
 have h:(match FL f nc with|true=>none|false=>MS PG f)=some lf:=h;split at h
 ·cases h
 ·exact h
theorem Jv{P:Program}:∀x∈([]:List GL),KQ P x:=λx h=>by cases h
theorem J9y{P:Program}{x:GL}{l:List GL}(h:KQ P x)(t:∀x∈l,KQ P x):∀y∈x::l,KQ P y:=λy a=>by
 rcases List.mem_cons.1 a with rfl|a
 ·exact h
 ·exact t y a
def fnB(P : Program)(f : FuncId) : Bool := match P.funcs[f]? with | some fn => fn.body.isSome && !(fn.name == "runtime.NumGoroutine") | none => false
theorem Jm{f:FuncId}(h:fnB PG f=true):DT PG f:=by
 unfold fnB at h;split at h
 ·rename_i fn a;simp only [Bool.and_eq_true,Bool.not_eq_true'] at h;exact ⟨fn,a,h.1,h.2⟩
 ·cases h
theorem mixed:PG.follows .mixedOrders=true:=by kernel_rfl
theorem Jo:TR PG (F9 []):=λf c h=>by cases h
theorem Jc{c:BS}{l:List (Nat×BS)}(h:Go.Dn.Good PG c)(t:TR PG (F9 l)):TR PG (F9 ((c.id,c)::l)):=λf x hx=>by
 have hx:Go.Dn.look f ((c.id,c)::l)=some x:=hx;rw [Q0] at hx;split at hx
 ·rename_i e;injection hx with hx;subst hx;exact ⟨e,h⟩
 ·exact t f x hx
def tH(P:Program)(l:List (Nat×Bi)):Prop:=∀f B,MN f l=some B->TY P f B
theorem Jw:tH PG []:=λf B h=>by cases h
theorem qL{f:Nat}{B:Bi}{l:List (Nat×Bi)}(h:TY PG f B)(t:tH PG l):tH PG ((f,B)::l):=λg C a=>by
 unfold MN at a;split at a
 ·rename_i e;injection a with a;subst a;exact Nat.eq_of_beq_eq_true e▸h
 ·exact t g C a
theorem good(Γ:FuncId->Option BS)(kp nc:List Nat)(so:List GL)(jn:List Nat)(bi:List (Nat×Bi))(mo:List Nat)(n:Nat){c:BS}(hΓ:TR PG Γ)(a:∀x∈so,KQ PG x)(l:tH PG bi)(g:DT PG c.id)(f:c.ok=true)(d:c.rs.all Fb=true)(m:∀x,CY val (KX Γ kp nc so jn bi mo) n c.id c.as c.rs x=c.fn x):Go.Dn.Good PG c:=
 WQ (cx:=KX Γ kp nc so jn bi mo) rfl hΓ mixed (OH a) l (J6z Γ kp nc so jn bi mo) rfl rfl f d g λx r h=>(m x).trans h
noncomputable def V1(l:List (Nat×BS)):Cx:=KX (F9 l) [] [] [] [] [] []
abbrev V3:=Go.Dn.Good PG
theorem V2{l:List (Nat×BS)}{c:BS}(hΓ:TR PG (F9 l))(f:DT PG c.id)(d:c.ok=true)(a:c.rs.all Fb=true)(g:∀x,CY val (V1 l) 8 c.id c.as c.rs x=c.fn x):Go.Dn.Good PG c:=good (F9 l) [] [] [] [] [] [] 8 hΓ Jv Jw f d a g
theorem own(Γ:FuncId->Option BS)(kp nc:List Nat)(so:List GL)(jn:List Nat)(bi:List (Nat×Bi))(mo:List Nat)(n:Nat){c:ZV}(hΓ:TR PG Γ)(d:∀x∈so,KQ PG x)(m:tH PG bi)(l:DT PG c.id)(f:c.as.all Fq=true)(a:0<c.t.sz)(g:Nat.ble yB c.id=false)(o:∀x,tq val (KX Γ kp nc so jn bi mo) n c.id c.as c.t c.el x=c.fn x):MV PG c:=
 dB (cx:=KX Γ kp nc so jn bi mo) rfl hΓ mixed (OH d) m (J6z Γ kp nc so jn bi mo) rfl rfl f a l g λx r h=>(o x).trans h
abbrev V4:=List (Int×Int)
abbrev V5:=HP V4 (HP Int (HP V4 (HP Int (HP V4 Unit))))
abbrev V6:=List (Int×V4)
abbrev V7:=HP Bool V5
abbrev V8:=HP Int (HP Int Unit)
abbrev V9:=HP Bool (HP Int V5)
abbrev Va:=List Int
abbrev Vb:=HP V6 (HP Int (HP Int (HP V6 Unit)))
abbrev Vc:=HP Bool (HP Int V7)
noncomputable def wU[W](a:(Int×Int)):Option Bool:=br (cm .geq a.1 (-1048576)) (br (cm .leq a.1 1048576) (br (cm .geq a.2 (-1048576)) (some (cm .leq a.2 1048576)) (some false)) (some false)) (some false)
noncomputable def ig:BS:=⟨129,[(.ag,(.p I I))],[(false,.bool)],@wU wv⟩
theorem J2b(w:W)(a):CY (dW w) (V1 []) 8 129 ig.as ig.rs a=@wU w a:=by kernel_rfl
theorem J1a:V3 ig:=V2 Jo (Jm (by kernel_rfl)) rfl rfl (J2b wv)
noncomputable def zp[W](a:(V4×Int)):Option Bool:=gd (cm .neq 2 0)<|some (cm .eql (ar .rem .i64 a.2 2) 1)
noncomputable def Jq:BS:=⟨191,[(.rp,(.p (.ls (.p I I)) I))],[(false,.bool)],@zp wv⟩
theorem Jlk(w:W)(a):CY (dW w) (V1 []) 8 191 Jq.as Jq.rs a=@zp w a:=by kernel_rfl
theorem zn:V3 Jq:=V2 Jo (Jm (by kernel_rfl)) rfl rfl (Jlk wv)
noncomputable def wQ[W](a:Int):Option Bool:=br (cm .geq a (-4096)) (some (cm .lss a 4096)) (some false)
noncomputable def Xg:BS:=⟨67,[(.one,I)],[(false,.bool)],@wQ wv⟩
theorem J1d(w:W)(a):CY (dW w) (V1 []) 8 67 Xg.as Xg.rs a=@wQ w a:=by kernel_rfl
theorem J2d:V3 Xg:=V2 Jo (Jm (by kernel_rfl)) rfl rfl (J1d wv)
noncomputable def Yg[W](s:(HP V4 (HP V4 V8))):Option (Nx (HP V4 (HP V4 V8)) (Unit⊕Unit)):=br (cm .lss s.j.j.j.e s.j.j.e) (ge s.j.e s.j.j.j.e λv0=>br (cm .geq v0.1 v0.2) (some (.out (.inl ()))) (call ig ((v0.1,v0.2):(Int×Int)) λ(v1:Bool)=>br (nt v1) (some (.out (.inl ()))) (br (cm .gtr s.j.j.j.e 0) (ge s.e (ar .sub .i64 s.j.j.j.e 1) λv2=>br (cm .leq v0.1 v2.2) (some (.out (.inl ()))) (some (.go ⟨s.e,s.j.e,s.j.j.e,(ar .add .i64 s.j.j.j.e 1),()⟩))) (some (.go ⟨s.e,s.j.e,s.j.j.e,(ar .add .i64 s.j.j.j.e 1),()⟩))))) (some (.out (.inr ())))
noncomputable def xE[W](a:V4):Option Bool:=loop Yg ⟨a,a,(ln a),0,()⟩ λv3=>match v3 with|.inl v4=>(some false)|.inr v5=>(some true)
noncomputable def J0:BS:=⟨68,[(.one,(.ls (.p I I)))],[(false,.bool)],@xE wv⟩
theorem Jx9(w:W)(a):CY (dW w) (V1 [(129,ig)]) 8 68 J0.as J0.rs a=@xE w a:=by kernel_rfl
theorem rU:V3 J0:=V2 (Jc J1a Jo) (Jm (by kernel_rfl)) rfl rfl (Jx9 wv)
noncomputable def Qk[W](s:Vb):Option (Nx Vb (Unit⊕Unit)):=br (cm .lss s.j.j.e s.j.e) (ge s.e s.j.j.e λv0=>call Xg (v0.1:Int) λ(v1:Bool)=>br (nt v1) (some (.out (.inl ()))) (br (cm .gtr s.j.j.e 0) (ge s.j.j.j.e (ar .sub .i64 s.j.j.e 1) λv2=>br (cm .leq v0.1 v2.1) (some (.out (.inl ()))) (br (cm .eql (ln v0.2) 0) (some (.out (.inl ()))) (call J0 (v0.2:V4) λ(v3:Bool)=>br (nt v3) (some (.out (.inl ()))) (ge v0.2 0 λv4=>call Xg (v4.1:Int) λ(v5:Bool)=>br (nt v5) (some (.out (.inl ()))) (ge v0.2 (ar .sub .i64 (ln v0.2) 1) λf=>call Xg ((ar .sub .i64 f.2 1):Int) λ(d:Bool)=>br (nt d) (some (.out (.inl ()))) (some (.go ⟨s.e,s.j.e,(ar .add .i64 s.j.j.e 1),s.j.j.j⟩))))))) (br (cm .eql (ln v0.2) 0) (some (.out (.inl ()))) (call J0 (v0.2:V4) λ(a:Bool)=>br (nt a) (some (.out (.inl ()))) (ge v0.2 0 λv9=>call Xg (v9.1:Int) λ(v10:Bool)=>br (nt v10) (some (.out (.inl ()))) (ge v0.2 (ar .sub .i64 (ln v0.2) 1) λv11=>call Xg ((ar .sub .i64 v11.2 1):Int) λ(v12:Bool)=>br (nt v12) (some (.out (.inl ()))) (some (.go ⟨s.e,s.j.e,(ar .add .i64 s.j.j.e 1),s.j.j.j⟩)))))))) (some (.out (.inr ())))
noncomputable def mF[W](a:V6):Option Bool:=loop Qk ⟨a,(ln a),0,a,()⟩ λv13=>match v13 with|.inl v14=>(some false)|.inr v15=>(some true)
noncomputable def J9:BS:=⟨23,[(.ag,(.ls (.p I (.ls (.p I I)))))],[(false,.bool)],@mF wv⟩
theorem Js9(w:W)(a):CY (dW w) (V1 [(67,Xg),(68,J0)]) 8 23 J9.as J9.rs a=@mF w a:=by kernel_rfl
theorem xQ:V3 J9:=V2 (Jc J2d (Jc rU Jo)) (Jm (by kernel_rfl)) rfl rfl (Js9 wv)
noncomputable def yI[W](a:(V4×Int)):Option Bool:=some (cm .eql a.2 (ar .mul .i64 2 (ln a.1)))
noncomputable def Js:BS:=⟨188,[(.rp,(.p (.ls (.p I I)) I))],[(false,.bool)],@yI wv⟩
theorem Jm7(w:W)(a):CY (dW w) (V1 []) 8 188 Js.as Js.rs a=@yI w a:=by kernel_rfl
theorem yH:V3 Js:=V2 Jo (Jm (by kernel_rfl)) rfl rfl (Jm7 wv)
noncomputable def yD[W](a:(V4×Int)):Option Int:=call Js (a:(V4×Int)) λ(v0:Bool)=>br v0 (some 1048577) (call Jq (a:(V4×Int)) λ(v1:Bool)=>br v1 (gd (cm .neq 2 0)<|ge a.1 (ar .quo .i64 a.2 2) λv2=>some v2.2) (gd (cm .neq 2 0)<|ge a.1 (ar .quo .i64 a.2 2) λv3=>some v3.1))
noncomputable def Jp:BS:=⟨189,[(.rp,(.p (.ls (.p I I)) I))],[(false,I)],@yD wv⟩
theorem Jnn(w:W)(a):CY (dW w) (V1 [(188,Js),(191,Jq)]) 8 189 Jp.as Jp.rs a=@yD w a:=by kernel_rfl
theorem Jdb:V3 Jp:=V2 (Jc yH (Jc zn Jo)) (Jm (by kernel_rfl)) rfl rfl (Jnn wv)
noncomputable def jt[W](s:V7):Option (V7⊕(HP V4 Unit)):=call Js ((s.j.e,s.j.j.e):(V4×Int)) λ(v2:Bool)=>br (nt v2) (some ((.inl s))) (call Js ((s.j.j.j.e,s.j.j.j.j.e):(V4×Int)) λ(v3:Bool)=>br (nt v3) (some ((.inl s))) (some ((.inr s.j.j.j.j.j))))
noncomputable def Jdd[W](v5:V7)(d:Int)(a:Int):Option V9:=call Jp ((v5.j.e,v5.j.j.e):(V4×Int)) λ(f:Int)=>br (cm .eql f (mn d a)) (some (⟨v5.e,(mn d a),v5.j.e,(ar .add .i64 v5.j.j.e 1),v5.j.j.j⟩)) (some (⟨v5.e,(mn d a),v5.j⟩))
noncomputable def Jdf[W](v9:V9):Option V9:=call Jp ((v9.j.j.j.j.e,v9.j.j.j.j.j.e):(V4×Int)) λ(v10:Int)=>br (cm .eql v10 v9.j.e) (some (⟨v9.e,v9.j.e,v9.j.j.e,v9.j.j.j.e,v9.j.j.j.j.e,(ar .add .i64 v9.j.j.j.j.j.e 1),v9.j.j.j.j.j.j⟩)) (some (v9))
noncomputable def Jc2[W](v11:V9):Option Vc:=call Jq ((v11.j.j.e,v11.j.j.j.e):(V4×Int)) λ(v12:Bool)=>call Jq ((v11.j.j.j.j.e,v11.j.j.j.j.j.e):(V4×Int)) λ(v13:Bool)=>br v12 (some (⟨v11.e,v11.j.e,(nt v13),v11.j.j⟩)) (some (⟨v11.e,v11.j.e,false,v11.j.j⟩))
noncomputable def Jc0[W](v14:Vc):Option V7:=br v14.j.j.e (br (nt v14.e) (gd (ft 16 (pl (ln v14.j.j.j.j.j.j.j.e) 1))<|some (⟨v14.j.j.e,v14.j.j.j.e,v14.j.j.j.j.e,v14.j.j.j.j.j.e,v14.j.j.j.j.j.j.e,(ap v14.j.j.j.j.j.j.j.e ((v14.j.e,0)::[])),()⟩)) (br (nt v14.j.j.e) (br v14.e (gd (ib (ar .sub .i64 (ln v14.j.j.j.j.j.j.j.e) 1) (ln v14.j.j.j.j.j.j.j.e))<|ge v14.j.j.j.j.j.j.j.e (ar .sub .i64 (ln v14.j.j.j.j.j.j.j.e) 1) λv15=>some (⟨v14.j.j.e,v14.j.j.j.e,v14.j.j.j.j.e,v14.j.j.j.j.j.e,v14.j.j.j.j.j.j.e,(st v14.j.j.j.j.j.j.j.e (ar .sub .i64 (ln v14.j.j.j.j.j.j.j.e) 1) (v15.1,v14.j.e)),()⟩)) (some (v14.j.j))) (some (v14.j.j)))) (br (nt v14.j.j.e) (br v14.e (gd (ib (ar .sub .i64 (ln v14.j.j.j.j.j.j.j.e) 1) (ln v14.j.j.j.j.j.j.j.e))<|ge v14.j.j.j.j.j.j.j.e (ar .sub .i64 (ln v14.j.j.j.j.j.j.j.e) 1) λv16=>some (⟨v14.j.j.e,v14.j.j.j.e,v14.j.j.j.j.e,v14.j.j.j.j.j.e,v14.j.j.j.j.j.j.e,(st v14.j.j.j.j.j.j.j.e (ar .sub .i64 (ln v14.j.j.j.j.j.j.j.e) 1) (v16.1,v14.j.e)),()⟩)) (some (v14.j.j))) (some (v14.j.j)))
noncomputable def Yn[W](s:V7):Option (Nx V7 (HP V4 Unit)):=join (jt s) λv4=>match v4 with|.inl v5=>(call Jp ((v5.j.e,v5.j.j.e):(V4×Int)) λ(d:Int)=>call Jp ((v5.j.j.j.e,v5.j.j.j.j.e):(V4×Int)) λ(a:Int)=>join (Jdd v5 d a) λv9=>join (Jdf v9) λv11=>join (Jc2 v11) λv14=>join (Jc0 v14) λv17=>some (.go v17))|.inr v18=>(some (.out ⟨v18.e,()⟩))
noncomputable def xZ[W](a:(V4×V4)):Option V4:=call J0 (a.1:V4) λ(v0:Bool)=>br (nt v0) (some []) (call J0 (a.2:V4) λ(v1:Bool)=>br (nt v1) (some []) (loop Yn ⟨false,a.1,0,a.2,0,[],()⟩ λv19=>some v19.e))
noncomputable def jb:BS:=⟨91,[(.one,(.ls (.p I I))),(.one,(.ls (.p I I)))],[(false,(.ls (.p I I)))],@xZ wv⟩
theorem Jrv(w:W)(a):CY (dW w) (KX (F9 [(188,Js),(189,Jp),(191,Jq),(68,J0)]) [] [] [] [32768007,32768009,32768010,32768011,32768015] [] []) 8 91 jb.as jb.rs a=@xZ w a:=by kernel_rfl
theorem Jq5:V3 jb:=good (F9 [(188,Js),(189,Jp),(191,Jq),(68,J0)]) [] [] [] [32768007,32768009,32768010,32768011,32768015] [] [] 8 (Jc yH (Jc Jdb (Jc zn (Jc rU Jo)))) Jv Jw (Jm (by kernel_rfl)) rfl rfl (Jrv wv)
noncomputable def yA[W](a:(V6×Int)):Option (V4×V4):=ge a.1 a.2 λv0=>br (cm .gtr a.2 0) (ge a.1 (ar .sub .i64 a.2 1) λv1=>br (cm .eql v1.1 (ar .sub .i64 v0.1 1)) (ge a.1 (ar .sub .i64 a.2 1) λv2=>br (cm .lss (ar .add .i64 a.2 1) (ln a.1)) (ge a.1 (ar .add .i64 a.2 1) λv3=>br (cm .eql v3.1 (ar .add .i64 v0.1 1)) (ge a.1 (ar .add .i64 a.2 1) λv4=>some (v2.2,v4.2)) (some (v2.2,[]))) (some (v2.2,[]))) (br (cm .lss (ar .add .i64 a.2 1) (ln a.1)) (ge a.1 (ar .add .i64 a.2 1) λv5=>br (cm .eql v5.1 (ar .add .i64 v0.1 1)) (ge a.1 (ar .add .i64 a.2 1) λg=>some ([],g.2)) (some ([],[]))) (some ([],[])))) (br (cm .lss (ar .add .i64 a.2 1) (ln a.1)) (ge a.1 (ar .add .i64 a.2 1) λf=>br (cm .eql f.1 (ar .add .i64 v0.1 1)) (ge a.1 (ar .add .i64 a.2 1) λd=>some ([],d.2)) (some ([],[]))) (some ([],[])))
noncomputable def Zn:BS:=⟨169,[(.ag,(.ls (.p I (.ls (.p I I))))),(.one,I)],[(false,(.ls (.p I I))),(false,(.ls (.p I I)))],@yA wv⟩
theorem Jo4(w:W)(a):CY (dW w) (V1 []) 8 169 Zn.as Zn.rs a=@yA w a:=by kernel_rfl
theorem Jok:V3 Zn:=V2 Jo (Jm (by kernel_rfl)) rfl rfl (Jo4 wv)
noncomputable def J2[W](s:(HP Va (HP Int V8))):Option (Nx (HP Va (HP Int V8)) ((HP Int Unit)⊕Unit)):=br (cm .lss s.j.j.j.e s.j.j.e) (ge s.e s.j.j.j.e λv0=>br (cm .eql s.j.e v0) (some (.out (.inl s.j.j.j))) (some (.go ⟨s.e,s.j.e,s.j.j.e,(ar .add .i64 s.j.j.j.e 1),()⟩))) (some (.out (.inr ())))
noncomputable def Ju[W](a:(Va×Int)):Option Int:=loop J2 ⟨a.1,a.2,(ln a.1),0,()⟩ λv1=>match v1 with|.inl v2=>(some v2.e)|.inr v3=>(some (-1))
noncomputable def Jh:BS:=⟨220,[(.one,(.ls I)),(.one,I)],[(false,I)],@Ju wv⟩
theorem js(w:W)(a):CY (dW w) (V1 []) 8 220 Jh.as Jh.rs a=@Ju w a:=by kernel_rfl
theorem Kk:V3 Jh:=V2 Jo (Jm (by kernel_rfl)) rfl rfl (js wv)
noncomputable def J1[W](a:(Va×Int)):Option Bool:=call Jh ((a.1,a.2):(Va×Int)) λ(v0:Int)=>some (cm .geq v0 0)
noncomputable def Jb:BS:=⟨176,[(.one,(.ls I)),(.one,I)],[(false,.bool)],@J1 wv⟩
theorem Zx(w:W)(a):CY (dW w) (V1 [(220,Jh)]) 8 176 Jb.as Jb.rs a=@J1 w a:=by kernel_rfl
theorem Zq:V3 Jb:=V2 (Jc Kk Jo) (Jm (by kernel_rfl)) rfl rfl (Zx wv)
noncomputable def Zg[W](a:(Int×(Int×Int))):Option (Int×Int):=br (cm .eql a.1 0) (some ((ar .add .i64 a.2.1 1),a.2.2)) (br (cm .eql a.1 1) (some (a.2.1,(ar .add .i64 a.2.2 1))) (br (cm .eql a.1 2) (some ((ar .sub .i64 a.2.1 1),a.2.2)) (some (a.2.1,(ar .sub .i64 a.2.2 1)))))
noncomputable def Ko:BS:=⟨173,[(.one,I),(.ag,(.p I I))],[(true,(.p I I))],@Zg wv⟩
theorem Jii(w:W)(a):CY (dW w) (V1 []) 8 173 Ko.as Ko.rs a=@Zg w a:=by kernel_rfl
theorem Jh3:V3 Ko:=V2 Jo (Jm (by kernel_rfl)) rfl rfl (Jii wv)
noncomputable def Za[W](a:Int):Option Int:=gd (cm .neq 4 0)<|some (ar .rem .i64 (ar .add .i64 a 1) 4)
noncomputable def Kl:BS:=⟨174,[(.one,I)],[(false,I)],@Za wv⟩
theorem Jh9(w:W)(a):CY (dW w) (V1 []) 8 174 Kl.as Kl.rs a=@Za w a:=by kernel_rfl
theorem Jil:V3 Kl:=V2 Jo (Jm (by kernel_rfl)) rfl rfl (Jh9 wv)
noncomputable def Yv[W](a:Int):Option Int:=gd (cm .neq 4 0)<|some (ar .rem .i64 (ar .add .i64 a 3) 4)
noncomputable def Ke:BS:=⟨175,[(.one,I)],[(false,I)],@Yv wv⟩
theorem Jgt(w:W)(a):CY (dW w) (V1 []) 8 175 Ke.as Ke.rs a=@Yv w a:=by kernel_rfl
theorem Jg3:V3 Ke:=V2 Jo (Jm (by kernel_rfl)) rfl rfl (Jgt wv)
noncomputable def xw[W](a:((Int×Int)×(Int×Int))):Option Int:=br (cm .neq a.1.2 a.2.2) (some (ar .sub .i64 a.1.2 a.2.2)) (some (ar .sub .i64 a.1.1 a.2.1))
noncomputable def Jo7:BS:=⟨132,[(.ag,(.p I I)),(.ag,(.p I I))],[(false,I)],@xw wv⟩
theorem Jor(w:W)(a):CY (dW w) (V1 []) 8 132 Jo7.as Jo7.rs a=@xw w a:=by kernel_rfl
theorem Jod:V3 Jo7:=V2 Jo (Jm (by kernel_rfl)) rfl rfl (Jor wv)
noncomputable def Kn[W](a:Va):Option Va:=nq (ln a) λv0=>br v0 (some []) (gd (ft 8 (pl 0 (ln a)))<|some a)
noncomputable def j8:ZV:=⟨222,[(.one,(.ls I))],167,I,@Kn wv⟩
theorem jp(w:W)(a):tq (dW w) (V1 []) 8 222 [(.one,(.ls I))] I 167 a=@Kn w a:=by kernel_rfl
theorem jo:MV PG j8:=own (F9 []) [] [] [] [] [] [] 8 Jo Jv Jw (Jm (by kernel_rfl)) rfl (by decide) rfl (jp wv)
end Go.Proofs.YtmfagdfkpjgeiaaGreat
namespace Go.Proofs.YtmfagdfkpjgeiaaGreat
open Go Go.Vv Go.Dn
def IE(x y:Int×Int):Int:=if x.2≠y.2 then IntKind.wrap .i64 (x.2 - y.2) else IntKind.wrap .i64 (x.1 - y.1)
def okB(x:Int×Int):Bool:=decide (-4611686018427387904<x.1/\x.1<4611686018427387904/\-4611686018427387904<x.2/\x.2<4611686018427387904)
theorem J93{n:Int}(h:-9223372036854775808<=n/\n<=9223372036854775807):IntKind.wrap .i64 n=n:=by simp only [IntKind.wrap,IntKind.bits,IntKind.signed];simp;omega
theorem aM{x y:Int×Int}(hx:okB x=true)(a:okB y=true):IE x y<0↔x.2<y.2\/x.2=y.2/\x.1<y.1:=by
 simp only [okB,decide_eq_true_eq] at hx a;unfold IE;split
 ·rw [J93 (by omega)];omega
 ·rw [J93 (by omega)];omega
theorem nE:Go.Sort.SWO (Go.Proofs.ltOf λx y:{x:Int×Int // okB x=true}=>IE x.1 y.1):=by
 refine ⟨λx=>?_,λx y z d a=>?_,λx y z d a=>?_⟩
 ·simp only [Go.Proofs.ltOf,decide_eq_false_iff_not,aM x.2 x.2];omega
 ·simp only [Go.Proofs.ltOf,decide_eq_true_eq,aM x.2 y.2,aM y.2 z.2,aM x.2 z.2] at *;omega
 ·simp only [Go.Proofs.ltOf,decide_eq_false_iff_not,aM x.2 y.2,aM y.2 z.2,aM x.2 z.2] at *;omega
def kC(x y:Int×Int):Bool:=x.1==y.1&&x.2==y.2
theorem fI(x y:Int×Int)(h:kC x y=true):x=y:=by simp only [kC,Bool.and_eq_true,beq_iff_eq] at h;exact Prod.ext h.1 h.2
def zB:{x:Int×Int // okB x=true}:=⟨(0,0),by decide⟩
theorem J82(x y:Int×Int):@xw wv (x,y)=some (IE x y):=by
 show (if QY .neq x.2 y.2=true then some (WO .sub .i64 x.2 y.2) else some (WO .sub .i64 x.1 y.1))=_;unfold IE;by_cases h:x.2=y.2
 ·rw [if_neg (by simp [QY,h]),if_neg (by simp [h])];rfl
 ·rw [if_pos (by simp [QY,h]),if_pos h];rfl
noncomputable def vH:GL:=⟨131,132,true,.p I I,iD (t:=.p I I) IE okB kC zB⟩
noncomputable def Jtz:BS:=vH.ctr
theorem J54:KQ PG vH:=
 J7e (P:=PG) (ρ:=Tryz.FZ) (t:=.p I I) Tryz.OC rfl (λw=>by kernel_rfl) (λw=>by kernel_rfl) (g:=132) (fn:=@xw wv) Jod IE J82 okB nE kC fI zB (by decide) (Jm (by kernel_rfl))
theorem oI:AddT PG 128 130 167 133 8:=
 ⟨by kernel_rfl,by kernel_rfl,by kernel_rfl,by kernel_rfl,⟨(PG.info? 167).getD default,by kernel_rfl,by kernel_rfl,by kernel_rfl,by kernel_rfl⟩,by kernel_rfl,by kernel_rfl,by kernel_rfl⟩
def WS(P:Program)(f:Nat):Func:=(P.funcs[f]?).getD default
def J98(P:Program)(f:Nat):Code:=((WS P f).body).getD .skip
theorem zQ:jR PG 170 128 130 167 133:=⟨rfl,WS PG 170,J98 PG 170,by kernel_rfl,by kernel_rfl,by kernel_rfl,by kernel_rfl,by kernel_rfl,by kernel_rfl⟩
def Jmq:Bi:=gI 167 8
theorem Jyn:TY PG 170 Jmq:=SY zQ oI
theorem nA:Sc PG 172 220 222 221 128 130 167 133 3 4:=⟨rfl,WS PG 172,J98 PG 172,by kernel_rfl,by kernel_rfl,by kernel_rfl,by kernel_rfl,by kernel_rfl,by kernel_rfl⟩
noncomputable def Jkc:Bi:=takeB 8 220 (@Ju wv)
theorem R7(l:List Int)(h:((l.length:Nat):Int) * (8:Nat)<=room/\((l.length:Nat):Int)<=9223372036854775807):@Kn wv l=some l:=by
 have a:decide ((0+((l.length:Nat):Int)) * (8:Nat)<=room/\(0+((l.length:Nat):Int))<=9223372036854775807)=true:=by rw [decide_eq_true_eq];simpa using h
 show dK ((l.length:Nat):Int) (λv0=>if v0=true then some [] else if decide ((0+((l.length:Nat):Int)) * (8:Nat)<=room/\(0+((l.length:Nat):Int))<=9223372036854775807)=true then some l else none)=some l;rw [a];unfold dK;split
 ·rename_i d;have:l=[]:=List.eq_nil_of_length_eq_zero (by omega);subst this;simp
 ·simp
theorem Jwe:TY PG 172 Jkc:=
 J9a (ρ:=Tryz.IC) Tryz.fO (λw=>by kernel_rfl) (i0:=(PG.info? 167).getD default) (by kernel_rfl) (by kernel_rfl) (Jm (by kernel_rfl)) nA oI mixed (by kernel_rfl) Kk jo R7
end Go.Proofs.YtmfagdfkpjgeiaaGreat
