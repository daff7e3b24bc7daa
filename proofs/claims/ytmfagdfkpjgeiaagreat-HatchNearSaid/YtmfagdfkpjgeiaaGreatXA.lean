/- The typed texts of functions, and that they are right. Conditions: none. -/
import Derived.Test.YtmfagdfkpjgeiaaGreatOB
import Derived.Test.YtmfagdfkpjgeiaaGreatProg
import Derived.Test.YtmfagdfkpjgeiaaGreatFB
import Derived.Test.YtmfagdfkpjgeiaaGreatTT
open Option renaming some -> AC, none -> AD
open Bool renaming false -> AF, true -> AE
open _root_ renaming List -> AG, Option -> AH, Nat -> AM, Bool -> AN, Int -> AI, if_neg -> AR, if_pos -> AS
set_option linter.unusedVariables false
set_option linter.unusedSimpArgs false
set_option maxRecDepth 100000
namespace Go.Proofs.YtmfagdfkpjgeiaaGreat
open Go Go.Vv Go.Dn Go.Dn.W
noncomputable abbrev PG:Program:=Tryz.prog
noncomputable def Im(Γ:FuncId->AH BQ)(kp nc:AG AM)(so:AG GK)(jn:AG AM)(bi:AG (AM×Bi))(mo:AG AM):Cx:=⟨Γ,tyM PG mo,λf=>match EY f nc with|true=>AD|false=>vM PG f,λk=>EY k kp,[],AF,vV so,λk=>EY k jn,λf=>MI f bi⟩
noncomputable def Eh(l:AG (AM×BQ))(f:FuncId):AH BQ:=Go.Dn.look f l
theorem J1h(Γ:FuncId->AH BQ)(kp nc:AG AM)(so:AG GK)(jn:AG AM)(bi:AG (AM×Bi))(mo:AG AM):mF PG (Im Γ kp nc so jn bi mo):=λf lf h=>by
 have h:(match EY f nc with|true=>AD|false=>vM PG f)=AC lf:=h;split at h
 .cases h
 .exact h
theorem Jz{P:Program}:∀x∈([]:AG GK),DI P x:=λx h=>by cases h
theorem wL{P:Program}{x:GK}{l:AG GK}(h:DI P x)(t:∀x∈l,DI P x):∀y∈x::l,DI P y:=λy a=>by
 rcases List.mem_cons.1 a with rfl|a
 .exact h
 .exact t y a
def fnB(P : Program)(f : FuncId) : AN := match P.funcs[f]? with | some fn => fn.body.isSome && !(fn.name == "runtime.NumGoroutine") | none => AF
theorem Jn{f:FuncId}(h:fnB PG f=AE):C9 PG f:=by
 unfold fnB at h;split at h
 .rename_i fn a;simp only [Bool.and_eq_true,Bool.not_eq_true'] at h;exact ⟨fn,a,h.1,h.2⟩
 .cases h
theorem mixed:PG.follows .mixedOrders=AE:=by kernel_rfl
theorem Jo:NA PG (Eh []):=λf c h=>by cases h
theorem Jc{c:BQ}{l:AG (AM×BQ)}(h:Go.Dn.Good PG c)(t:NA PG (Eh l)):NA PG (Eh ((c.id,c)::l)):=λf x hx=>by
 have hx:Go.Dn.look f ((c.id,c)::l)=AC x:=hx;rw [Kp] at hx;split at hx
 .rename_i e;injection hx with hx;subst hx;exact ⟨e,h⟩
 .exact t f x hx
def vT(P:Program)(l:AG (AM×Bi)):Prop:=∀f B,MI f l=AC B->Mw P f B
theorem Jy:vT PG []:=λf B h=>by cases h
theorem Lm{f:AM}{B:Bi}{l:AG (AM×Bi)}(h:Mw PG f B)(t:vT PG l):vT PG ((f,B)::l):=λg C a=>by
 unfold MI at a;split at a
 .rename_i e;injection a with a;subst a;exact Nat.eq_of_beq_eq_true e▸h
 .exact t g C a
theorem good(Γ:FuncId->AH BQ)(kp nc:AG AM)(so:AG GK)(jn:AG AM)(bi:AG (AM×Bi))(mo:AG AM)(n:AM){c:BQ}(hΓ:NA PG Γ)(a:∀x∈so,DI PG x)(v:vT PG bi)(m:C9 PG c.id)(f:c.ok=AE)(d:c.rs.all FN=AE)(l:c.fresh=AF)(g:c.own=AD)(w:∀x,Cv val (Im Γ kp nc so jn bi mo) n c.id c.as c.rs x=c.fn x):Go.Dn.Good PG c:=
 Wn (cx:=Im Γ kp nc so jn bi mo) rfl hΓ mixed (J99 a) v (J1h Γ kp nc so jn bi mo) rfl rfl f d m l g λx r h=>(w x).trans h
noncomputable def V1(l:AG (AM×BQ)):Cx:=Im (Eh l) [] [] [] [] [] []
abbrev V3:=Go.Dn.Good PG
theorem V2{l:AG (AM×BQ)}{c:BQ}(hΓ:NA PG (Eh l))(h:C9 PG c.id)(d:c.ok=AE)(a:c.rs.all FN=AE)(g:c.fresh=AF)(f:c.own=AD)(m:∀x,Cv val (V1 l) 8 c.id c.as c.rs x=c.fn x):Go.Dn.Good PG c:=good (Eh l) [] [] [] [] [] [] 8 hΓ Jz Jy h d a g f m
theorem own(Γ:FuncId->AH BQ)(kp nc:AG AM)(so:AG GK)(jn:AG AM)(bi:AG (AM×Bi))(mo:AG AM)(n:AM){c:KP}(hΓ:NA PG Γ)(d:∀x∈so,DI PG x)(m:vT PG bi)(l:C9 PG c.id)(f:c.as.all GH=AE)(a:0<c.t.sz)(g:Nat.ble yB c.id=AF)(v:∀x,M9 val (Im Γ kp nc so jn bi mo) n c.id c.as c.t c.el x=c.fn x):Mq PG c:=
 eP (cx:=Im Γ kp nc so jn bi mo) rfl hΓ mixed (J99 d) m (J1h Γ kp nc so jn bi mo) rfl rfl f a l g λx r h=>(v x).trans h
abbrev V4:=AG (AI×AI)
abbrev V5:=HP V4 (HP AI (HP V4 (HP AI (HP V4 Unit))))
abbrev V6:=AG (AI×V4)
abbrev V7:=HP AN V5
abbrev V8:=HP AI (HP AI Unit)
abbrev V9:=HP AN (HP AI V5)
abbrev Va:=AG AI
abbrev Vb:=HP V6 (HP AI (HP AI (HP V6 Unit)))
abbrev Vc:=HP AN (HP AI V7)
noncomputable def yY[W](a:(AI×AI)):AH AN:=br (cm .geq a.1 (-1048576)) (br (cm .leq a.1 1048576) (br (cm .geq a.2 (-1048576)) (AC (cm .leq a.2 1048576)) (AC AF)) (AC AF)) (AC AF)
noncomputable def Zj:BQ:=⟨129,[(.ag,(.p I I))],[(AF,.bool)],@yY wv⟩
theorem J1b(w:W)(a):Cv (dW w) (V1 []) 8 129 Zj.as Zj.rs a=@yY w a:=by kernel_rfl
theorem Jqz:V3 Zj:=V2 Jo (Jn (by kernel_rfl)) rfl rfl rfl rfl (J1b wv)
noncomputable def Y1[W](a:(V4×AI)):AH AN:=gd (cm .neq 2 0)<|some (cm .eql (ar .rem .i64 a.2 2) 1)
noncomputable def Js:BQ:=⟨191,[(.rp,(.p (.ls (.p I I)) I))],[(AF,.bool)],@Y1 wv⟩
theorem Jjp(w:W)(a):Cv (dW w) (V1 []) 8 191 Js.as Js.rs a=@Y1 w a:=by kernel_rfl
theorem z6:V3 Js:=V2 Jo (Jn (by kernel_rfl)) rfl rfl rfl rfl (Jjp wv)
noncomputable def yu[W](a:AI):AH AN:=br (cm .geq a (-4096)) (AC (cm .lss a 4096)) (AC AF)
noncomputable def K9:BQ:=⟨67,[(.one,I)],[(AF,.bool)],@yu wv⟩
theorem J04(w:W)(a):Cv (dW w) (V1 []) 8 67 K9.as K9.rs a=@yu w a:=by kernel_rfl
theorem Jph:V3 K9:=V2 Jo (Jn (by kernel_rfl)) rfl rfl rfl rfl (J04 wv)
noncomputable def jy[W](s:(HP V4 (HP V4 V8))):AH (Nx (HP V4 (HP V4 V8)) (Unit⊕Unit)):=br (cm .lss s.j.j.j.e s.j.j.e) (ge s.j.e s.j.j.j.e λv0=>br (cm .geq v0.1 v0.2) (AC (.out (.inl ()))) (call Zj ((v0.1,v0.2):(AI×AI)) λ(v1:AN)=>br (nt v1) (AC (.out (.inl ()))) (br (cm .gtr s.j.j.j.e 0) (ge s.e (ar .sub .i64 s.j.j.j.e 1) λv2=>br (cm .leq v0.1 v2.2) (AC (.out (.inl ()))) (AC (.go ⟨s.e,s.j.e,s.j.j.e,(ar .add .i64 s.j.j.j.e 1),()⟩))) (AC (.go ⟨s.e,s.j.e,s.j.j.e,(ar .add .i64 s.j.j.j.e 1),()⟩))))) (AC (.out (.inr ())))
noncomputable def Jhm[W](a:V4):AH AN:=loop jy ⟨a,a,(ln a),0,()⟩ λv3=>match v3 with|.inl v4=>(AC AF)|.inr v5=>(AC AE)
noncomputable def J7:BQ:=⟨68,[(.one,(.ls (.p I I)))],[(AF,.bool)],@Jhm wv⟩
theorem Jw9(w:W)(a):Cv (dW w) (V1 [(129,Zj)]) 8 68 J7.as J7.rs a=@Jhm w a:=by kernel_rfl
theorem ug:V3 J7:=V2 (Jc Jqz Jo) (Jn (by kernel_rfl)) rfl rfl rfl rfl (Jw9 wv)
noncomputable def Y5[W](s:Vb):AH (Nx Vb (Unit⊕Unit)):=br (cm .lss s.j.j.e s.j.e) (ge s.e s.j.j.e λv0=>call K9 (v0.1:AI) λ(v1:AN)=>br (nt v1) (AC (.out (.inl ()))) (br (cm .gtr s.j.j.e 0) (ge s.j.j.j.e (ar .sub .i64 s.j.j.e 1) λv2=>br (cm .leq v0.1 v2.1) (AC (.out (.inl ()))) (br (cm .eql (ln v0.2) 0) (AC (.out (.inl ()))) (call J7 (v0.2:V4) λ(v3:AN)=>br (nt v3) (AC (.out (.inl ()))) (ge v0.2 0 λv4=>call K9 (v4.1:AI) λ(v5:AN)=>br (nt v5) (AC (.out (.inl ()))) (ge v0.2 (ar .sub .i64 (ln v0.2) 1) λf=>call K9 ((ar .sub .i64 f.2 1):AI) λ(d:AN)=>br (nt d) (AC (.out (.inl ()))) (AC (.go ⟨s.e,s.j.e,(ar .add .i64 s.j.j.e 1),s.j.j.j⟩))))))) (br (cm .eql (ln v0.2) 0) (AC (.out (.inl ()))) (call J7 (v0.2:V4) λ(a:AN)=>br (nt a) (AC (.out (.inl ()))) (ge v0.2 0 λv9=>call K9 (v9.1:AI) λ(v10:AN)=>br (nt v10) (AC (.out (.inl ()))) (ge v0.2 (ar .sub .i64 (ln v0.2) 1) λv11=>call K9 ((ar .sub .i64 v11.2 1):AI) λ(v12:AN)=>br (nt v12) (AC (.out (.inl ()))) (AC (.go ⟨s.e,s.j.e,(ar .add .i64 s.j.j.e 1),s.j.j.j⟩)))))))) (AC (.out (.inr ())))
noncomputable def Jck[W](a:V6):AH AN:=loop Y5 ⟨a,(ln a),0,a,()⟩ λv13=>match v13 with|.inl v14=>(AC AF)|.inr v15=>(AC AE)
noncomputable def Je:BQ:=⟨23,[(.ag,(.ls (.p I (.ls (.p I I)))))],[(AF,.bool)],@Jck wv⟩
theorem Jro(w:W)(a):Cv (dW w) (V1 [(67,K9),(68,J7)]) 8 23 Je.as Je.rs a=@Jck w a:=by kernel_rfl
theorem Ks:V3 Je:=V2 (Jc Jph (Jc ug Jo)) (Jn (by kernel_rfl)) rfl rfl rfl rfl (Jro wv)
noncomputable def jg[W](a:(V4×AI)):AH AN:=AC (cm .eql a.2 (ar .mul .i64 2 (ln a.1)))
noncomputable def J0:BQ:=⟨188,[(.rp,(.p (.ls (.p I I)) I))],[(AF,.bool)],@jg wv⟩
theorem Jl1(w:W)(a):Cv (dW w) (V1 []) 8 188 J0.as J0.rs a=@jg w a:=by kernel_rfl
theorem Jbb:V3 J0:=V2 Jo (Jn (by kernel_rfl)) rfl rfl rfl rfl (Jl1 wv)
noncomputable def jd[W](a:(V4×AI)):AH AI:=call J0 (a:(V4×AI)) λ(v0:AN)=>br v0 (AC 1048577) (call Js (a:(V4×AI)) λ(v1:AN)=>br v1 (gd (cm .neq 2 0)<|ge a.1 (ar .quo .i64 a.2 2) λv2=>AC v2.2) (gd (cm .neq 2 0)<|ge a.1 (ar .quo .i64 a.2 2) λv3=>AC v3.1))
noncomputable def Ju:BQ:=⟨189,[(.rp,(.p (.ls (.p I I)) I))],[(AF,I)],@jd wv⟩
theorem Jk3(w:W)(a):Cv (dW w) (V1 [(188,J0),(191,Js)]) 8 189 Ju.as Ju.rs a=@jd w a:=by kernel_rfl
theorem Jew:V3 Ju:=V2 (Jc Jbb (Jc z6 Jo)) (Jn (by kernel_rfl)) rfl rfl rfl rfl (Jk3 wv)
noncomputable def Yl[W](s:V7):AH (V7⊕(HP V4 Unit)):=call J0 ((s.j.e,s.j.j.e):(V4×AI)) λ(v2:AN)=>br (nt v2) (AC ((.inl s))) (call J0 ((s.j.j.j.e,s.j.j.j.j.e):(V4×AI)) λ(v3:AN)=>br (nt v3) (AC ((.inl s))) (AC ((.inr s.j.j.j.j.j))))
noncomputable def Jbe[W](v5:V7)(d:AI)(a:AI):AH V9:=call Ju ((v5.j.e,v5.j.j.e):(V4×AI)) λ(f:AI)=>br (cm .eql f (mn d a)) (AC (⟨v5.e,(mn d a),v5.j.e,(ar .add .i64 v5.j.j.e 1),v5.j.j.j⟩)) (AC (⟨v5.e,(mn d a),v5.j⟩))
noncomputable def Jbk[W](v9:V9):AH V9:=call Ju ((v9.j.j.j.j.e,v9.j.j.j.j.j.e):(V4×AI)) λ(v10:AI)=>br (cm .eql v10 v9.j.e) (AC (⟨v9.e,v9.j.e,v9.j.j.e,v9.j.j.j.e,v9.j.j.j.j.e,(ar .add .i64 v9.j.j.j.j.j.e 1),v9.j.j.j.j.j.j⟩)) (AC (v9))
noncomputable def Jbm[W](v11:V9):AH Vc:=call Js ((v11.j.j.e,v11.j.j.j.e):(V4×AI)) λ(v12:AN)=>call Js ((v11.j.j.j.j.e,v11.j.j.j.j.j.e):(V4×AI)) λ(v13:AN)=>br v12 (AC (⟨v11.e,v11.j.e,(nt v13),v11.j.j⟩)) (AC (⟨v11.e,v11.j.e,AF,v11.j.j⟩))
noncomputable def Jbr[W](v14:Vc):AH V7:=br v14.j.j.e (br (nt v14.e) (gd (ft 16 (pl (ln v14.j.j.j.j.j.j.j.e) 1))<|some (⟨v14.j.j.e,v14.j.j.j.e,v14.j.j.j.j.e,v14.j.j.j.j.j.e,v14.j.j.j.j.j.j.e,(ap v14.j.j.j.j.j.j.j.e ((v14.j.e,0)::[])),()⟩)) (br (nt v14.j.j.e) (br v14.e (gd (ib (ar .sub .i64 (ln v14.j.j.j.j.j.j.j.e) 1) (ln v14.j.j.j.j.j.j.j.e))<|ge v14.j.j.j.j.j.j.j.e (ar .sub .i64 (ln v14.j.j.j.j.j.j.j.e) 1) λv15=>AC (⟨v14.j.j.e,v14.j.j.j.e,v14.j.j.j.j.e,v14.j.j.j.j.j.e,v14.j.j.j.j.j.j.e,(st v14.j.j.j.j.j.j.j.e (ar .sub .i64 (ln v14.j.j.j.j.j.j.j.e) 1) (v15.1,v14.j.e)),()⟩)) (AC (v14.j.j))) (AC (v14.j.j)))) (br (nt v14.j.j.e) (br v14.e (gd (ib (ar .sub .i64 (ln v14.j.j.j.j.j.j.j.e) 1) (ln v14.j.j.j.j.j.j.j.e))<|ge v14.j.j.j.j.j.j.j.e (ar .sub .i64 (ln v14.j.j.j.j.j.j.j.e) 1) λv16=>AC (⟨v14.j.j.e,v14.j.j.j.e,v14.j.j.j.j.e,v14.j.j.j.j.j.e,v14.j.j.j.j.j.j.e,(st v14.j.j.j.j.j.j.j.e (ar .sub .i64 (ln v14.j.j.j.j.j.j.j.e) 1) (v16.1,v14.j.e)),()⟩)) (AC (v14.j.j))) (AC (v14.j.j)))
noncomputable def Xj[W](s:V7):AH (Nx V7 (HP V4 Unit)):=join (Yl s) λv4=>match v4 with|.inl v5=>(call Ju ((v5.j.e,v5.j.j.e):(V4×AI)) λ(d:AI)=>call Ju ((v5.j.j.j.e,v5.j.j.j.j.e):(V4×AI)) λ(a:AI)=>join (Jbe v5 d a) λv9=>join (Jbk v9) λv11=>join (Jbm v11) λv14=>join (Jbr v14) λv17=>AC (.go v17))|.inr v18=>(AC (.out ⟨v18.e,()⟩))
noncomputable def j8[W](a:(V4×V4)):AH V4:=call J7 (a.1:V4) λ(v0:AN)=>br (nt v0) (AC []) (call J7 (a.2:V4) λ(v1:AN)=>br (nt v1) (AC []) (loop Xj ⟨AF,a.1,0,a.2,0,[],()⟩ λv19=>AC v19.e))
noncomputable def J4:BQ:=⟨91,[(.one,(.ls (.p I I))),(.one,(.ls (.p I I)))],[(AF,(.ls (.p I I)))],@j8 wv⟩
theorem Jov(w:W)(a):Cv (dW w) (Im (Eh [(188,J0),(189,Ju),(191,Js),(68,J7)]) [] [] [] [32768007,32768009,32768010,32768011,32768015] [] []) 8 91 J4.as J4.rs a=@j8 w a:=by kernel_rfl
theorem Jdv:V3 J4:=good (Eh [(188,J0),(189,Ju),(191,Js),(68,J7)]) [] [] [] [32768007,32768009,32768010,32768011,32768015] [] [] 8 (Jc Jbb (Jc Jew (Jc z6 (Jc ug Jo)))) Jz Jy (Jn (by kernel_rfl)) rfl rfl rfl rfl (Jov wv)
noncomputable def zh[W](a:(V6×AI)):AH (V4×V4):=ge a.1 a.2 λv0=>br (cm .gtr a.2 0) (ge a.1 (ar .sub .i64 a.2 1) λv1=>br (cm .eql v1.1 (ar .sub .i64 v0.1 1)) (ge a.1 (ar .sub .i64 a.2 1) λv2=>br (cm .lss (ar .add .i64 a.2 1) (ln a.1)) (ge a.1 (ar .add .i64 a.2 1) λv3=>br (cm .eql v3.1 (ar .add .i64 v0.1 1)) (ge a.1 (ar .add .i64 a.2 1) λv4=>AC (v2.2,v4.2)) (AC (v2.2,[]))) (AC (v2.2,[]))) (br (cm .lss (ar .add .i64 a.2 1) (ln a.1)) (ge a.1 (ar .add .i64 a.2 1) λv5=>br (cm .eql v5.1 (ar .add .i64 v0.1 1)) (ge a.1 (ar .add .i64 a.2 1) λg=>AC ([],g.2)) (AC ([],[]))) (AC ([],[])))) (br (cm .lss (ar .add .i64 a.2 1) (ln a.1)) (ge a.1 (ar .add .i64 a.2 1) λf=>br (cm .eql f.1 (ar .add .i64 v0.1 1)) (ge a.1 (ar .add .i64 a.2 1) λd=>AC ([],d.2)) (AC ([],[]))) (AC ([],[])))
noncomputable def Xt:BQ:=⟨169,[(.ag,(.ls (.p I (.ls (.p I I))))),(.one,I)],[(AF,(.ls (.p I I))),(AF,(.ls (.p I I)))],@zh wv⟩
theorem Jl9(w:W)(a):Cv (dW w) (V1 []) 8 169 Xt.as Xt.rs a=@zh w a:=by kernel_rfl
theorem Jmn:V3 Xt:=V2 Jo (Jn (by kernel_rfl)) rfl rfl rfl rfl (Jl9 wv)
noncomputable def Jw[W](s:(HP Va (HP AI V8))):AH (Nx (HP Va (HP AI V8)) ((HP AI Unit)⊕Unit)):=br (cm .lss s.j.j.j.e s.j.j.e) (ge s.e s.j.j.j.e λv0=>br (cm .eql s.j.e v0) (AC (.out (.inl s.j.j.j))) (AC (.go ⟨s.e,s.j.e,s.j.j.e,(ar .add .i64 s.j.j.j.e 1),()⟩))) (AC (.out (.inr ())))
noncomputable def Jp[W](a:(Va×AI)):AH AI:=loop Jw ⟨a.1,a.2,(ln a.1),0,()⟩ λv1=>match v1 with|.inl v2=>(AC v2.e)|.inr v3=>(AC (-1))
noncomputable def Jf:BQ:=⟨220,[(.one,(.ls I)),(.one,I)],[(AF,I)],@Jp wv⟩
theorem Yj(w:W)(a):Cv (dW w) (V1 []) 8 220 Jf.as Jf.rs a=@Jp w a:=by kernel_rfl
theorem Kj:V3 Jf:=V2 Jo (Jn (by kernel_rfl)) rfl rfl rfl rfl (Yj wv)
noncomputable def Jx[W](a:(Va×AI)):AH AN:=call Jf ((a.1,a.2):(Va×AI)) λ(v0:AI)=>AC (cm .geq v0 0)
noncomputable def Jb:BQ:=⟨176,[(.one,(.ls I)),(.one,I)],[(AF,.bool)],@Jx wv⟩
theorem X8(w:W)(a):Cv (dW w) (V1 [(220,Jf)]) 8 176 Jb.as Jb.rs a=@Jx w a:=by kernel_rfl
theorem X1:V3 Jb:=V2 (Jc Kj Jo) (Jn (by kernel_rfl)) rfl rfl rfl rfl (X8 wv)
noncomputable def Xr[W](a:(AI×(AI×AI))):AH (AI×AI):=br (cm .eql a.1 0) (AC ((ar .add .i64 a.2.1 1),a.2.2)) (br (cm .eql a.1 1) (AC (a.2.1,(ar .add .i64 a.2.2 1))) (br (cm .eql a.1 2) (AC ((ar .sub .i64 a.2.1 1),a.2.2)) (AC (a.2.1,(ar .sub .i64 a.2.2 1)))))
noncomputable def Kn:BQ:=⟨173,[(.one,I),(.ag,(.p I I))],[(AE,(.p I I))],@Xr wv⟩
theorem Jg8(w:W)(a):Cv (dW w) (V1 []) 8 173 Kn.as Kn.rs a=@Xr w a:=by kernel_rfl
theorem Jgc:V3 Kn:=V2 Jo (Jn (by kernel_rfl)) rfl rfl rfl rfl (Jg8 wv)
noncomputable def Xp[W](a:AI):AH AI:=gd (cm .neq 4 0)<|some (ar .rem .i64 (ar .add .i64 a 1) 4)
noncomputable def Kk:BQ:=⟨174,[(.one,I)],[(AF,I)],@Xp wv⟩
theorem Jgw(w:W)(a):Cv (dW w) (V1 []) 8 174 Kk.as Kk.rs a=@Xp w a:=by kernel_rfl
theorem Jhd:V3 Kk:=V2 Jo (Jn (by kernel_rfl)) rfl rfl rfl rfl (Jgw wv)
noncomputable def Xi[W](a:AI):AH AI:=gd (cm .neq 4 0)<|some (ar .rem .i64 (ar .add .i64 a 3) 4)
noncomputable def Ke:BQ:=⟨175,[(.one,I)],[(AF,I)],@Xi wv⟩
theorem Jf0(w:W)(a):Cv (dW w) (V1 []) 8 175 Ke.as Ke.rs a=@Xi w a:=by kernel_rfl
theorem Jfw:V3 Ke:=V2 Jo (Jn (by kernel_rfl)) rfl rfl rfl rfl (Jf0 wv)
noncomputable def zf[W](a:((AI×AI)×(AI×AI))):AH AI:=br (cm .neq a.1.2 a.2.2) (AC (ar .sub .i64 a.1.2 a.2.2)) (AC (ar .sub .i64 a.1.1 a.2.1))
noncomputable def Jmw:BQ:=⟨132,[(.ag,(.p I I)),(.ag,(.p I I))],[(AF,I)],@zf wv⟩
theorem Jmb(w:W)(a):Cv (dW w) (V1 []) 8 132 Jmw.as Jmw.rs a=@zf w a:=by kernel_rfl
theorem Jmd:V3 Jmw:=V2 Jo (Jn (by kernel_rfl)) rfl rfl rfl rfl (Jmb wv)
noncomputable def Km[W](a:Va):AH Va:=nq (ln a) λv0=>br v0 (AC []) (gd (ft 8 (pl 0 (ln a)))<|some a)
noncomputable def Yn:KP:=⟨222,[(.one,(.ls I))],167,I,@Km wv⟩
theorem Yf(w:W)(a):M9 (dW w) (V1 []) 8 222 [(.one,(.ls I))] I 167 a=@Km w a:=by kernel_rfl
theorem Ye:Mq PG Yn:=own (Eh []) [] [] [] [] [] [] 8 Jo Jz Jy (Jn (by kernel_rfl)) rfl (by decide) rfl (Yf wv)
end Go.Proofs.YtmfagdfkpjgeiaaGreat
namespace Go.Proofs.YtmfagdfkpjgeiaaGreat
open Go Go.Vv Go.Dn
def IL(x y:AI×AI):AI:=if x.2≠y.2 then IntKind.wrap .i64 (x.2 - y.2) else IntKind.wrap .i64 (x.1 - y.1)
def okB(x:AI×AI):AN:=decide (-4611686018427387904<x.1/\x.1<4611686018427387904/\-4611686018427387904<x.2/\x.2<4611686018427387904)
theorem Kae{n:AI}(h:-9223372036854775808<=n/\n<=9223372036854775807):IntKind.wrap .i64 n=n:=by simp only [IntKind.wrap,IntKind.bits,IntKind.signed];simp;omega
theorem bU{x y:AI×AI}(hx:okB x=AE)(a:okB y=AE):IL x y<0↔x.2<y.2\/x.2=y.2/\x.1<y.1:=by
 simp only [okB,decide_eq_true_eq] at hx a;unfold IL;split
 .rw [Kae (by omega)];omega
 .rw [Kae (by omega)];omega
theorem pG:Go.Sort.SWO (Go.Proofs.ltOf λx y:{x:AI×AI // okB x=AE}=>IL x.1 y.1):=by
 refine ⟨λx=>?_,λx y z d a=>?_,λx y z d a=>?_⟩
 .simp only [Go.Proofs.ltOf,decide_eq_false_iff_not,bU x.2 x.2];omega
 .simp only [Go.Proofs.ltOf,decide_eq_true_eq,bU x.2 y.2,bU y.2 z.2,bU x.2 z.2] at *;omega
 .simp only [Go.Proofs.ltOf,decide_eq_false_iff_not,bU x.2 y.2,bU y.2 z.2,bU x.2 z.2] at *;omega
def lH(x y:AI×AI):AN:=x.1==y.1&&x.2==y.2
theorem gq(x y:AI×AI)(h:lH x y=AE):x=y:=by simp only [lH,Bool.and_eq_true,beq_iff_eq] at h;exact Prod.ext h.1 h.2
def zB:{x:AI×AI // okB x=AE}:=⟨(0,0),by decide⟩
theorem Kbc(x y:AI×AI):@zf wv (x,y)=AC (IL x y):=by
 show (if JN .neq x.2 y.2=AE then AC (Wi .sub .i64 x.2 y.2) else AC (Wi .sub .i64 x.1 y.1))=_;unfold IL;by_cases h:x.2=y.2
 .rw [AR (by simp [JN,h]),AR (by simp [h])];rfl
 .rw [AS (by simp [JN,h]),AS h];rfl
noncomputable def xB:GK:=⟨131,132,AE,.p I I,bV (t:=.p I I) IL okB lH zB⟩
noncomputable def Jsn:BQ:=xB.ctr
theorem J47:DI PG xB:=
 Jxu (P:=PG) (ρ:=Tryz.Fy) (t:=.p I I) Tryz.N7 rfl (λw=>by kernel_rfl) (λw=>by kernel_rfl) (g:=132) (fn:=@zf wv) Jmd IL Kbc okB pG lH gq zB (by decide) (Jn (by kernel_rfl))
theorem qd:AddT PG 128 130 167 133 8:=
 ⟨by kernel_rfl,by kernel_rfl,by kernel_rfl,by kernel_rfl,⟨(PG.info? 167).getD default,by kernel_rfl,by kernel_rfl,by kernel_rfl,by kernel_rfl⟩,by kernel_rfl,by kernel_rfl,by kernel_rfl⟩
def gN(P:Program)(f:AM):Func:=(P.funcs[f]?).getD default
def SA(P:Program)(f:AM):Code:=((gN P f).body).getD .skip
theorem addF:kU PG 170 128 130 167 133:=⟨rfl,gN PG 170,SA PG 170,by kernel_rfl,by kernel_rfl,by kernel_rfl,by kernel_rfl,by kernel_rfl,by kernel_rfl⟩
def Jjw:Bi:=iP 167 8
theorem Jyd:Mw PG 170 Jjw:=SQ addF qd
theorem ou:SS PG 172 220 222 221 128 130 167 133 3 4:=⟨rfl,gN PG 172,SA PG 172,by kernel_rfl,by kernel_rfl,by kernel_rfl,by kernel_rfl,by kernel_rfl,by kernel_rfl⟩
noncomputable def Jig:Bi:=takeB 8 220 (@Jp wv)
theorem Rz(l:AG AI)(h:((l.length:AM):AI) * (8:AM)<=room/\((l.length:AM):AI)<=9223372036854775807):@Km wv l=AC l:=by
 have a:decide ((0+((l.length:AM):AI)) * (8:AM)<=room/\(0+((l.length:AM):AI))<=9223372036854775807)=AE:=by rw [decide_eq_true_eq];simpa using h
 show VU ((l.length:AM):AI) (λv0=>if v0=AE then AC [] else if decide ((0+((l.length:AM):AI)) * (8:AM)<=room/\(0+((l.length:AM):AI))<=9223372036854775807)=AE then AC l else AD)=AC l;rw [a];unfold VU;split
 .rename_i d;have:l=[]:=List.eq_nil_of_length_eq_zero (by omega);subst this;simp
 .simp
theorem Jue:Mw PG 172 Jig:=
 J8j (ρ:=Tryz.IK) Tryz.iA (λw=>by kernel_rfl) (i0:=(PG.info? 167).getD default) (by kernel_rfl) (by kernel_rfl) (Jn (by kernel_rfl)) ou qd mixed (by kernel_rfl) Kj Ye Rz
end Go.Proofs.YtmfagdfkpjgeiaaGreat
