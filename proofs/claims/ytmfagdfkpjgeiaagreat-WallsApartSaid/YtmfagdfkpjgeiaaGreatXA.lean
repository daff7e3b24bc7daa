/- The typed texts of functions, and that they are right. Conditions: none. -/
import Derived.Test.YtmfagdfkpjgeiaaGreatOB
import Derived.Test.YtmfagdfkpjgeiaaGreatProg
import Derived.Test.YtmfagdfkpjgeiaaGreatFB
import Derived.Test.YtmfagdfkpjgeiaaGreatTT
set_option linter.unusedVariables false
set_option linter.unusedSimpArgs false
set_option maxRecDepth 100000
namespace Go.Proofs.YtmfagdfkpjgeiaaGreat
open Go Go.Vv Go.Dn Go.Dn.W
noncomputable abbrev PG:Program:=Tryz.prog
noncomputable def cxO(Γ:FuncId->Option Ctr)(kp nc:List Nat)(so:List SCt)(jn:List Nat)(bi:List (Nat×Bi))(mo:List Nat):Cx:=⟨Γ,tyM PG mo,λf=>match memN f nc with|true=>none|false=>compF PG f,λk=>memN k kp,[],false,soL so,λk=>memN k jn,λf=>lookB f bi⟩
noncomputable def gam(l:List (Nat×Ctr))(f:FuncId):Option Ctr:=Go.Dn.look f l
theorem J4q(Γ:FuncId->Option Ctr)(kp nc:List Nat)(so:List SCt)(jn:List Nat)(bi:List (Nat×Bi))(mo:List Nat):Juh PG (cxO Γ kp nc so jn bi mo):=λf lf h=>by
 have h:(match memN f nc with|true=>none|false=>compF PG f)=some lf:=h;split at h
 ·cases h
 ·exact h
theorem Ka{P:Program}:∀x∈([]:List SCt),Je9 P x:=λx h=>by cases h
theorem Jw6{P:Program}{x:SCt}{l:List SCt}(h:Je9 P x)(t:∀x∈l,Je9 P x):∀y∈x::l,Je9 P y:=λy a=>by
 rcases List.mem_cons.1 a with rfl|a
 ·exact h
 ·exact t y a
def fnB(P : Program)(f : FuncId) : Bool := match P.funcs[f]? with | some fn => fn.body.isSome && !(fn.name == "runtime.NumGoroutine") | none => false
theorem Jr{f:FuncId}(h:fnB PG f=true):FnOK PG f:=by
 unfold fnB at h;split at h
 ·rename_i fn a;simp only [Bool.and_eq_true,Bool.not_eq_true'] at h;exact ⟨fn,a,h.1,h.2⟩
 ·cases h
theorem mixed:PG.follows .mixedOrders=true:=by kernel_rfl
theorem Ju:Jqv PG (gam []):=λf c h=>by cases h
theorem Je{c:Ctr}{l:List (Nat×Ctr)}(h:Go.Dn.Good PG c)(t:Jqv PG (gam l)):Jqv PG (gam ((c.id,c)::l)):=λf x hx=>by
 have hx:Go.Dn.look f ((c.id,c)::l)=some x:=hx;rw [Kj] at hx;split at hx
 ·rename_i e;injection hx with hx;subst hx;exact ⟨e,h⟩
 ·exact t f x hx
def BiL(P:Program)(l:List (Nat×Bi)):Prop:=∀f B,lookB f l=some B->Jhi P f B
theorem Kb:BiL PG []:=λf B h=>by cases h
theorem Jnz{f:Nat}{B:Bi}{l:List (Nat×Bi)}(h:Jhi PG f B)(t:BiL PG l):BiL PG ((f,B)::l):=λg C a=>by
 unfold lookB at a;split at a
 ·rename_i e;injection a with a;subst a;exact Nat.eq_of_beq_eq_true e▸h
 ·exact t g C a
theorem good(Γ:FuncId->Option Ctr)(kp nc:List Nat)(so:List SCt)(jn:List Nat)(bi:List (Nat×Bi))(mo:List Nat)(n:Nat){c:Ctr}(hΓ:Jqv PG Γ)(a:∀x∈so,Je9 PG x)(l:BiL PG bi)(g:FnOK PG c.id)(f:c.ok=true)(d:c.rs.all rkOK=true)(m:∀x,fnD val (cxO Γ kp nc so jn bi mo) n c.id c.as c.rs x=c.fn x):Go.Dn.Good PG c:=
 good_of (cx:=cxO Γ kp nc so jn bi mo) rfl hΓ mixed (soL_ok a) l (J4q Γ kp nc so jn bi mo) rfl rfl f d g λx r h=>(m x).trans h
noncomputable def V1(l:List (Nat×Ctr)):Cx:=cxO (gam l) [] [] [] [] [] []
abbrev V3:=Go.Dn.Good PG
theorem V2{l:List (Nat×Ctr)}{c:Ctr}(hΓ:Jqv PG (gam l))(f:FnOK PG c.id)(d:c.ok=true)(a:c.rs.all rkOK=true)(g:∀x,fnD val (V1 l) 8 c.id c.as c.rs x=c.fn x):Go.Dn.Good PG c:=good (gam l) [] [] [] [] [] [] 8 hΓ Ka Kb f d a g
theorem own(Γ:FuncId->Option Ctr)(kp nc:List Nat)(so:List SCt)(jn:List Nat)(bi:List (Nat×Bi))(mo:List Nat)(n:Nat){c:OCt}(hΓ:Jqv PG Γ)(d:∀x∈so,Je9 PG x)(m:BiL PG bi)(l:FnOK PG c.id)(f:c.as.all akOK=true)(a:0<c.t.sz)(g:Nat.ble yB c.id=false)(o:∀x,fnO val (cxO Γ kp nc so jn bi mo) n c.id c.as c.t c.el x=c.fn x):OGood PG c:=
 own_of (cx:=cxO Γ kp nc so jn bi mo) rfl hΓ mixed (soL_ok d) m (J4q Γ kp nc so jn bi mo) rfl rfl f a l g λx r h=>(o x).trans h
abbrev V4:=List (Int×Int)
abbrev V5:=HP V4 (HP Int (HP V4 (HP Int (HP V4 Unit))))
abbrev V6:=List (Int×V4)
abbrev V7:=HP Bool V5
abbrev V8:=HP Int (HP Int Unit)
abbrev V9:=HP Bool (HP Int V5)
abbrev Va:=List Int
abbrev Vb:=HP V6 (HP Int (HP Int (HP V6 Unit)))
abbrev Vc:=HP Bool (HP Int V7)
noncomputable def Jfd[W](a:(Int×Int)):Option Bool:=br (cm .geq a.1 (-1048576)) (br (cm .leq a.1 1048576) (br (cm .geq a.2 (-1048576)) (some (cm .leq a.2 1048576)) (some false)) (some false)) (some false)
noncomputable def Jax:Ctr:=⟨129,[(.ag,(.p I I))],[(false,.bool)],@Jfd wv⟩
theorem Jxo(w:W)(a):fnD (dW w) (V1 []) 8 129 Jax.as Jax.rs a=@Jfd w a:=by kernel_rfl
theorem Jwz:V3 Jax:=V2 Ju (Jr (by kernel_rfl)) rfl rfl (Jxo wv)
noncomputable def Yn[W](a:(V4×Int)):Option Bool:=gd (cm .neq 2 0)<|some (cm .eql (ar .rem .i64 a.2 2) 1)
noncomputable def Jm:Ctr:=⟨191,[(.rp,(.p (.ls (.p I I)) I))],[(false,.bool)],@Yn wv⟩
theorem Jhf(w:W)(a):fnD (dW w) (V1 []) 8 191 Jm.as Jm.rs a=@Yn w a:=by kernel_rfl
theorem Yk:V3 Jm:=V2 Ju (Jr (by kernel_rfl)) rfl rfl (Jhf wv)
noncomputable def Je1[W](a:Int):Option Bool:=br (cm .geq a (-4096)) (some (cm .lss a 4096)) (some false)
noncomputable def J5:Ctr:=⟨67,[(.one,I)],[(false,.bool)],@Je1 wv⟩
theorem Jx4(w:W)(a):fnD (dW w) (V1 []) 8 67 J5.as J5.rs a=@Je1 w a:=by kernel_rfl
theorem Jhw:V3 J5:=V2 Ju (Jr (by kernel_rfl)) rfl rfl (Jx4 wv)
noncomputable def Qw[W](s:(HP V4 (HP V4 V8))):Option (Nx (HP V4 (HP V4 V8)) (Unit⊕Unit)):=br (cm .lss s.j.j.j.e s.j.j.e) (ge s.j.e s.j.j.j.e λv0=>br (cm .geq v0.1 v0.2) (some (.out (.inl ()))) (call Jax ((v0.1,v0.2):(Int×Int)) λ(v1:Bool)=>br (nt v1) (some (.out (.inl ()))) (br (cm .gtr s.j.j.j.e 0) (ge s.e (ar .sub .i64 s.j.j.j.e 1) λv2=>br (cm .leq v0.1 v2.2) (some (.out (.inl ()))) (some (.go ⟨s.e,s.j.e,s.j.j.e,(ar .add .i64 s.j.j.j.e 1),()⟩))) (some (.go ⟨s.e,s.j.e,s.j.j.e,(ar .add .i64 s.j.j.j.e 1),()⟩))))) (some (.out (.inr ())))
noncomputable def Jdn[W](a:V4):Option Bool:=loop Qw ⟨a,a,(ln a),0,()⟩ λv3=>match v3 with|.inl v4=>(some false)|.inr v5=>(some true)
noncomputable def Jq:Ctr:=⟨68,[(.one,(.ls (.p I I)))],[(false,.bool)],@Jdn wv⟩
theorem Jwc(w:W)(a):fnD (dW w) (V1 [(129,Jax)]) 8 68 Jq.as Jq.rs a=@Jdn w a:=by kernel_rfl
theorem zi:V3 Jq:=V2 (Je Jwz Ju) (Jr (by kernel_rfl)) rfl rfl (Jwc wv)
noncomputable def K2[W](s:Vb):Option (Nx Vb (Unit⊕Unit)):=br (cm .lss s.j.j.e s.j.e) (ge s.e s.j.j.e λv0=>call J5 (v0.1:Int) λ(v1:Bool)=>br (nt v1) (some (.out (.inl ()))) (br (cm .gtr s.j.j.e 0) (ge s.j.j.j.e (ar .sub .i64 s.j.j.e 1) λv2=>br (cm .leq v0.1 v2.1) (some (.out (.inl ()))) (br (cm .eql (ln v0.2) 0) (some (.out (.inl ()))) (call Jq (v0.2:V4) λ(v3:Bool)=>br (nt v3) (some (.out (.inl ()))) (ge v0.2 0 λv4=>call J5 (v4.1:Int) λ(v5:Bool)=>br (nt v5) (some (.out (.inl ()))) (ge v0.2 (ar .sub .i64 (ln v0.2) 1) λf=>call J5 ((ar .sub .i64 f.2 1):Int) λ(d:Bool)=>br (nt d) (some (.out (.inl ()))) (some (.go ⟨s.e,s.j.e,(ar .add .i64 s.j.j.e 1),s.j.j.j⟩))))))) (br (cm .eql (ln v0.2) 0) (some (.out (.inl ()))) (call Jq (v0.2:V4) λ(a:Bool)=>br (nt a) (some (.out (.inl ()))) (ge v0.2 0 λv9=>call J5 (v9.1:Int) λ(v10:Bool)=>br (nt v10) (some (.out (.inl ()))) (ge v0.2 (ar .sub .i64 (ln v0.2) 1) λv11=>call J5 ((ar .sub .i64 v11.2 1):Int) λ(v12:Bool)=>br (nt v12) (some (.out (.inl ()))) (some (.go ⟨s.e,s.j.e,(ar .add .i64 s.j.j.e 1),s.j.j.j⟩)))))))) (some (.out (.inr ())))
noncomputable def Za[W](a:V6):Option Bool:=loop K2 ⟨a,(ln a),0,a,()⟩ λv13=>match v13 with|.inl v14=>(some false)|.inr v15=>(some true)
noncomputable def Jn:Ctr:=⟨23,[(.ag,(.ls (.p I (.ls (.p I I)))))],[(false,.bool)],@Za wv⟩
theorem Joz(w:W)(a):fnD (dW w) (V1 [(67,J5),(68,Jq)]) 8 23 Jn.as Jn.rs a=@Za w a:=by kernel_rfl
theorem Yi:V3 Jn:=V2 (Je Jhw (Je zi Ju)) (Jr (by kernel_rfl)) rfl rfl (Joz wv)
noncomputable def Zi[W](a:(V4×Int)):Option Bool:=some (cm .eql a.2 (ar .mul .i64 2 (ln a.1)))
noncomputable def Jo:Ctr:=⟨188,[(.rp,(.p (.ls (.p I I)) I))],[(false,.bool)],@Zi wv⟩
theorem Jir(w:W)(a):fnD (dW w) (V1 []) 8 188 Jo.as Jo.rs a=@Zi w a:=by kernel_rfl
theorem Zm:V3 Jo:=V2 Ju (Jr (by kernel_rfl)) rfl rfl (Jir wv)
noncomputable def Zg[W](a:(V4×Int)):Option Int:=call Jo (a:(V4×Int)) λ(v0:Bool)=>br v0 (some 1048577) (call Jm (a:(V4×Int)) λ(v1:Bool)=>br v1 (gd (cm .neq 2 0)<|ge a.1 (ar .quo .i64 a.2 2) λv2=>some v2.2) (gd (cm .neq 2 0)<|ge a.1 (ar .quo .i64 a.2 2) λv3=>some v3.1))
noncomputable def Jl:Ctr:=⟨189,[(.rp,(.p (.ls (.p I I)) I))],[(false,I)],@Zg wv⟩
theorem Jjs(w:W)(a):fnD (dW w) (V1 [(188,Jo),(191,Jm)]) 8 189 Jl.as Jl.rs a=@Zg w a:=by kernel_rfl
theorem zt:V3 Jl:=V2 (Je Zm (Je Yk Ju)) (Jr (by kernel_rfl)) rfl rfl (Jjs wv)
noncomputable def Ya[W](s:V7):Option (V7⊕(HP V4 Unit)):=call Jo ((s.j.e,s.j.j.e):(V4×Int)) λ(v2:Bool)=>br (nt v2) (some ((.inl s))) (call Jo ((s.j.j.j.e,s.j.j.j.j.e):(V4×Int)) λ(v3:Bool)=>br (nt v3) (some ((.inl s))) (some ((.inr s.j.j.j.j.j))))
noncomputable def zu[W](v5:V7)(d:Int)(a:Int):Option V9:=call Jl ((v5.j.e,v5.j.j.e):(V4×Int)) λ(f:Int)=>br (cm .eql f (mn d a)) (some (⟨v5.e,(mn d a),v5.j.e,(ar .add .i64 v5.j.j.e 1),v5.j.j.j⟩)) (some (⟨v5.e,(mn d a),v5.j⟩))
noncomputable def Jab[W](v9:V9):Option V9:=call Jl ((v9.j.j.j.j.e,v9.j.j.j.j.j.e):(V4×Int)) λ(v10:Int)=>br (cm .eql v10 v9.j.e) (some (⟨v9.e,v9.j.e,v9.j.j.e,v9.j.j.j.e,v9.j.j.j.j.e,(ar .add .i64 v9.j.j.j.j.j.e 1),v9.j.j.j.j.j.j⟩)) (some (v9))
noncomputable def Jaj[W](v11:V9):Option Vc:=call Jm ((v11.j.j.e,v11.j.j.j.e):(V4×Int)) λ(v12:Bool)=>call Jm ((v11.j.j.j.j.e,v11.j.j.j.j.j.e):(V4×Int)) λ(v13:Bool)=>br v12 (some (⟨v11.e,v11.j.e,(nt v13),v11.j.j⟩)) (some (⟨v11.e,v11.j.e,false,v11.j.j⟩))
noncomputable def Jaf[W](v14:Vc):Option V7:=br v14.j.j.e (br (nt v14.e) (gd (ft 16 (pl (ln v14.j.j.j.j.j.j.j.e) 1))<|some (⟨v14.j.j.e,v14.j.j.j.e,v14.j.j.j.j.e,v14.j.j.j.j.j.e,v14.j.j.j.j.j.j.e,(ap v14.j.j.j.j.j.j.j.e ((v14.j.e,0)::[])),()⟩)) (br (nt v14.j.j.e) (br v14.e (gd (ib (ar .sub .i64 (ln v14.j.j.j.j.j.j.j.e) 1) (ln v14.j.j.j.j.j.j.j.e))<|ge v14.j.j.j.j.j.j.j.e (ar .sub .i64 (ln v14.j.j.j.j.j.j.j.e) 1) λv15=>some (⟨v14.j.j.e,v14.j.j.j.e,v14.j.j.j.j.e,v14.j.j.j.j.j.e,v14.j.j.j.j.j.j.e,(st v14.j.j.j.j.j.j.j.e (ar .sub .i64 (ln v14.j.j.j.j.j.j.j.e) 1) (v15.1,v14.j.e)),()⟩)) (some (v14.j.j))) (some (v14.j.j)))) (br (nt v14.j.j.e) (br v14.e (gd (ib (ar .sub .i64 (ln v14.j.j.j.j.j.j.j.e) 1) (ln v14.j.j.j.j.j.j.j.e))<|ge v14.j.j.j.j.j.j.j.e (ar .sub .i64 (ln v14.j.j.j.j.j.j.j.e) 1) λv16=>some (⟨v14.j.j.e,v14.j.j.j.e,v14.j.j.j.j.e,v14.j.j.j.j.j.e,v14.j.j.j.j.j.j.e,(st v14.j.j.j.j.j.j.j.e (ar .sub .i64 (ln v14.j.j.j.j.j.j.j.e) 1) (v16.1,v14.j.e)),()⟩)) (some (v14.j.j))) (some (v14.j.j)))
noncomputable def Q6[W](s:V7):Option (Nx V7 (HP V4 Unit)):=join (Ya s) λv4=>match v4 with|.inl v5=>(call Jl ((v5.j.e,v5.j.j.e):(V4×Int)) λ(d:Int)=>call Jl ((v5.j.j.j.e,v5.j.j.j.j.e):(V4×Int)) λ(a:Int)=>join (zu v5 d a) λv9=>join (Jab v9) λv11=>join (Jaj v11) λv14=>join (Jaf v14) λv17=>some (.go v17))|.inr v18=>(some (.out ⟨v18.e,()⟩))
noncomputable def Jah[W](a:(V4×V4)):Option V4:=call Jq (a.1:V4) λ(v0:Bool)=>br (nt v0) (some []) (call Jq (a.2:V4) λ(v1:Bool)=>br (nt v1) (some []) (loop Q6 ⟨false,a.1,0,a.2,0,[],()⟩ λv19=>some v19.e))
noncomputable def Xm:Ctr:=⟨91,[(.one,(.ls (.p I I))),(.one,(.ls (.p I I)))],[(false,(.ls (.p I I)))],@Jah wv⟩
theorem Jm3(w:W)(a):fnD (dW w) (cxO (gam [(188,Jo),(189,Jl),(191,Jm),(68,Jq)]) [] [] [] [32768007,32768009,32768010,32768011,32768015] [] []) 8 91 Xm.as Xm.rs a=@Jah w a:=by kernel_rfl
theorem Jnp:V3 Xm:=good (gam [(188,Jo),(189,Jl),(191,Jm),(68,Jq)]) [] [] [] [32768007,32768009,32768010,32768011,32768015] [] [] 8 (Je Zm (Je zt (Je Yk (Je zi Ju)))) Ka Kb (Jr (by kernel_rfl)) rfl rfl (Jm3 wv)
noncomputable def jf[W](a:(V6×Int)):Option (V4×V4):=ge a.1 a.2 λv0=>br (cm .gtr a.2 0) (ge a.1 (ar .sub .i64 a.2 1) λv1=>br (cm .eql v1.1 (ar .sub .i64 v0.1 1)) (ge a.1 (ar .sub .i64 a.2 1) λv2=>br (cm .lss (ar .add .i64 a.2 1) (ln a.1)) (ge a.1 (ar .add .i64 a.2 1) λv3=>br (cm .eql v3.1 (ar .add .i64 v0.1 1)) (ge a.1 (ar .add .i64 a.2 1) λv4=>some (v2.2,v4.2)) (some (v2.2,[]))) (some (v2.2,[]))) (br (cm .lss (ar .add .i64 a.2 1) (ln a.1)) (ge a.1 (ar .add .i64 a.2 1) λv5=>br (cm .eql v5.1 (ar .add .i64 v0.1 1)) (ge a.1 (ar .add .i64 a.2 1) λg=>some ([],g.2)) (some ([],[]))) (some ([],[])))) (br (cm .lss (ar .add .i64 a.2 1) (ln a.1)) (ge a.1 (ar .add .i64 a.2 1) λf=>br (cm .eql f.1 (ar .add .i64 v0.1 1)) (ge a.1 (ar .add .i64 a.2 1) λd=>some ([],d.2)) (some ([],[]))) (some ([],[])))
noncomputable def Xj:Ctr:=⟨169,[(.ag,(.ls (.p I (.ls (.p I I))))),(.one,I)],[(false,(.ls (.p I I))),(false,(.ls (.p I I)))],@jf wv⟩
theorem Jkl(w:W)(a):fnD (dW w) (V1 []) 8 169 Xj.as Xj.rs a=@jf w a:=by kernel_rfl
theorem Jj9:V3 Xj:=V2 Ju (Jr (by kernel_rfl)) rfl rfl (Jkl wv)
noncomputable def Jw[W](s:(HP Va (HP Int V8))):Option (Nx (HP Va (HP Int V8)) ((HP Int Unit)⊕Unit)):=br (cm .lss s.j.j.j.e s.j.j.e) (ge s.e s.j.j.j.e λv0=>br (cm .eql s.j.e v0) (some (.out (.inl s.j.j.j))) (some (.go ⟨s.e,s.j.e,s.j.j.e,(ar .add .i64 s.j.j.j.e 1),()⟩))) (some (.out (.inr ())))
noncomputable def Jp[W](a:(Va×Int)):Option Int:=loop Jw ⟨a.1,a.2,(ln a.1),0,()⟩ λv1=>match v1 with|.inl v2=>(some v2.e)|.inr v3=>(some (-1))
noncomputable def Jd:Ctr:=⟨220,[(.one,(.ls I)),(.one,I)],[(false,I)],@Jp wv⟩
theorem Yc(w:W)(a):fnD (dW w) (V1 []) 8 220 Jd.as Jd.rs a=@Jp w a:=by kernel_rfl
theorem Ke:V3 Jd:=V2 Ju (Jr (by kernel_rfl)) rfl rfl (Yc wv)
noncomputable def Jx[W](a:(Va×Int)):Option Bool:=call Jd ((a.1,a.2):(Va×Int)) λ(v0:Int)=>some (cm .geq v0 0)
noncomputable def Jb:Ctr:=⟨176,[(.one,(.ls I)),(.one,I)],[(false,.bool)],@Jx wv⟩
theorem Xo(w:W)(a):fnD (dW w) (V1 [(220,Jd)]) 8 176 Jb.as Jb.rs a=@Jx w a:=by kernel_rfl
theorem Xw:V3 Jb:=V2 (Je Ke Ju) (Jr (by kernel_rfl)) rfl rfl (Xo wv)
noncomputable def Xd[W](a:(Int×(Int×Int))):Option (Int×Int):=br (cm .eql a.1 0) (some ((ar .add .i64 a.2.1 1),a.2.2)) (br (cm .eql a.1 1) (some (a.2.1,(ar .add .i64 a.2.2 1))) (br (cm .eql a.1 2) (some ((ar .sub .i64 a.2.1 1),a.2.2)) (some (a.2.1,(ar .sub .i64 a.2.2 1)))))
noncomputable def Kc:Ctr:=⟨173,[(.one,I),(.ag,(.p I I))],[(true,(.p I I))],@Xd wv⟩
theorem Jer(w:W)(a):fnD (dW w) (V1 []) 8 173 Kc.as Kc.rs a=@Xd w a:=by kernel_rfl
theorem Jeo:V3 Kc:=V2 Ju (Jr (by kernel_rfl)) rfl rfl (Jer wv)
noncomputable def Xf[W](a:Int):Option Int:=gd (cm .neq 4 0)<|some (ar .rem .i64 (ar .add .i64 a 1) 4)
noncomputable def Kf:Ctr:=⟨174,[(.one,I)],[(false,I)],@Xf wv⟩
theorem Je6(w:W)(a):fnD (dW w) (V1 []) 8 174 Kf.as Kf.rs a=@Xf w a:=by kernel_rfl
theorem Jfc:V3 Kf:=V2 Ju (Jr (by kernel_rfl)) rfl rfl (Je6 wv)
noncomputable def Q4[W](a:Int):Option Int:=gd (cm .neq 4 0)<|some (ar .rem .i64 (ar .add .i64 a 3) 4)
noncomputable def J8:Ctr:=⟨175,[(.one,I)],[(false,I)],@Q4 wv⟩
theorem Jed(w:W)(a):fnD (dW w) (V1 []) 8 175 J8.as J8.rs a=@Q4 w a:=by kernel_rfl
theorem Jd4:V3 J8:=V2 Ju (Jr (by kernel_rfl)) rfl rfl (Jed wv)
noncomputable def jd[W](a:((Int×Int)×(Int×Int))):Option Int:=br (cm .neq a.1.2 a.2.2) (some (ar .sub .i64 a.1.2 a.2.2)) (some (ar .sub .i64 a.1.1 a.2.1))
noncomputable def Jj7:Ctr:=⟨132,[(.ag,(.p I I)),(.ag,(.p I I))],[(false,I)],@jd wv⟩
theorem Jkq(w:W)(a):fnD (dW w) (V1 []) 8 132 Jj7.as Jj7.rs a=@jd w a:=by kernel_rfl
theorem Jkt:V3 Jj7:=V2 Ju (Jr (by kernel_rfl)) rfl rfl (Jkq wv)
noncomputable def Kd[W](a:Va):Option Va:=nq (ln a) λv0=>br v0 (some []) (gd (ft 8 (pl 0 (ln a)))<|some a)
noncomputable def X8:OCt:=⟨222,[(.one,(.ls I))],167,I,@Kd wv⟩
theorem X5(w:W)(a):fnO (dW w) (V1 []) 8 222 [(.one,(.ls I))] I 167 a=@Kd w a:=by kernel_rfl
theorem X2:OGood PG X8:=own (gam []) [] [] [] [] [] [] 8 Ju Ka Kb (Jr (by kernel_rfl)) rfl (by decide) rfl (X5 wv)
end Go.Proofs.YtmfagdfkpjgeiaaGreat
namespace Go.Proofs.YtmfagdfkpjgeiaaGreat
open Go Go.Vv Go.Dn
def cmpB(x y:Int×Int):Int:=if x.2≠y.2 then IntKind.wrap .i64 (x.2 - y.2) else IntKind.wrap .i64 (x.1 - y.1)
def okB(x:Int×Int):Bool:=decide (-4611686018427387904<x.1/\x.1<4611686018427387904/\-4611686018427387904<x.2/\x.2<4611686018427387904)
theorem J2s{n:Int}(h:-9223372036854775808<=n/\n<=9223372036854775807):IntKind.wrap .i64 n=n:=by simp only [IntKind.wrap,IntKind.bits,IntKind.signed];simp;omega
theorem Jf1{x y:Int×Int}(hx:okB x=true)(a:okB y=true):cmpB x y<0↔x.2<y.2\/x.2=y.2/\x.1<y.1:=by
 simp only [okB,decide_eq_true_eq] at hx a;unfold cmpB;split
 ·rw [J2s (by omega)];omega
 ·rw [J2s (by omega)];omega
theorem swoB:Go.Sort.SWO (Go.Proofs.ltOf λx y:{x:Int×Int // okB x=true}=>cmpB x.1 y.1):=by
 refine ⟨λx=>?_,λx y z d a=>?_,λx y z d a=>?_⟩
 ·simp only [Go.Proofs.ltOf,decide_eq_false_iff_not,Jf1 x.2 x.2];omega
 ·simp only [Go.Proofs.ltOf,decide_eq_true_eq,Jf1 x.2 y.2,Jf1 y.2 z.2,Jf1 x.2 z.2] at *;omega
 ·simp only [Go.Proofs.ltOf,decide_eq_false_iff_not,Jf1 x.2 y.2,Jf1 y.2 z.2,Jf1 x.2 z.2] at *;omega
def eqB(x y:Int×Int):Bool:=x.1==y.1&&x.2==y.2
theorem eqB_eq(x y:Int×Int)(h:eqB x y=true):x=y:=by simp only [eqB,Bool.and_eq_true,beq_iff_eq] at h;exact Prod.ext h.1 h.2
def zB:{x:Int×Int // okB x=true}:=⟨(0,0),by decide⟩
theorem J5s(x y:Int×Int):@jd wv (x,y)=some (cmpB x y):=by
 show (if icm .neq x.2 y.2=true then some (iar .sub .i64 x.2 y.2) else some (iar .sub .i64 x.1 y.1))=_;unfold cmpB;by_cases h:x.2=y.2
 ·rw [if_neg (by simp [icm,h]),if_neg (by simp [h])];rfl
 ·rw [if_pos (by simp [icm,h]),if_pos h];rfl
noncomputable def Jlv:SCt:=⟨131,132,true,.p I I,Jhs (t:=.p I I) cmpB okB eqB zB⟩
noncomputable def Jo8:Ctr:=Jlv.ctr
theorem J19:Je9 PG Jlv:=
 J6k (P:=PG) (ρ:=Tryz.sortL131_ren) (t:=.p I I) Tryz.sortL131 rfl (λw=>by kernel_rfl) (λw=>by kernel_rfl) (g:=132) (fn:=@jd wv) Jkt cmpB J5s okB swoB eqB eqB_eq zB (by decide) (Jr (by kernel_rfl))
theorem addT:AddT PG 128 130 167 133 8:=
 ⟨by kernel_rfl,by kernel_rfl,by kernel_rfl,by kernel_rfl,⟨(PG.info? 167).getD default,by kernel_rfl,by kernel_rfl,by kernel_rfl,by kernel_rfl⟩,by kernel_rfl,by kernel_rfl,by kernel_rfl⟩
def fnAt(P:Program)(f:Nat):Func:=(P.funcs[f]?).getD default
def J3p(P:Program)(f:Nat):Code:=((fnAt P f).body).getD .skip
theorem addF:AddF PG 170 128 130 167 133:=⟨rfl,fnAt PG 170,J3p PG 170,by kernel_rfl,by kernel_rfl,by kernel_rfl,by kernel_rfl,by kernel_rfl,by kernel_rfl⟩
def Jie:Bi:=addB 167 8
theorem Jum:Jhi PG 170 Jie:=add_good addF addT
theorem takeF:TakeF PG 172 220 222 221 128 130 167 133 3 4:=⟨rfl,fnAt PG 172,J3p PG 172,by kernel_rfl,by kernel_rfl,by kernel_rfl,by kernel_rfl,by kernel_rfl,by kernel_rfl⟩
noncomputable def Jgf:Bi:=takeB 8 220 (@Jp wv)
theorem clone_ok(l:List Int)(h:((l.length:Nat):Int) * (8:Nat)<=room/\((l.length:Nat):Int)<=9223372036854775807):@Kd wv l=some l:=by
 have a:decide ((0+((l.length:Nat):Int)) * (8:Nat)<=room/\(0+((l.length:Nat):Int))<=9223372036854775807)=true:=by rw [decide_eq_true_eq];simpa using h
 show nlv ((l.length:Nat):Int) (λv0=>if v0=true then some [] else if decide ((0+((l.length:Nat):Int)) * (8:Nat)<=room/\(0+((l.length:Nat):Int))<=9223372036854775807)=true then some l else none)=some l;rw [a];unfold nlv;split
 ·rename_i d;have:l=[]:=List.eq_nil_of_length_eq_zero (by omega);subst this;simp
 ·simp
theorem Jsh:Jhi PG 172 Jgf:=
 J59 (ρ:=Tryz.del221_ren) Tryz.del221 (λw=>by kernel_rfl) (i0:=(PG.info? 167).getD default) (by kernel_rfl) (by kernel_rfl) (Jr (by kernel_rfl)) takeF addT mixed (by kernel_rfl) Ke X2 clone_ok
end Go.Proofs.YtmfagdfkpjgeiaaGreat
