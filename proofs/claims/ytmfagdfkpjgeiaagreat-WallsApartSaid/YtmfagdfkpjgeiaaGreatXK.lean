/- The typed texts of functions, and that they are right. Conditions: none. -/
import Derived.Test.YtmfagdfkpjgeiaaGreatXJ
set_option linter.unusedVariables false
set_option linter.unusedSimpArgs false
set_option linter.unusedSectionVars false
set_option maxRecDepth 100000
namespace Go.Proofs.YtmfagdfkpjgeiaaGreat
open Go Go.Vv Go.Dn Go.Dn.W
open List renaming mem_of_getElem? -> Aa, getElem?_eq_getElem -> Ab, getElem?_eq_some_iff -> Ac, replicate -> Ad, mem_map -> Ae, length_take -> Af, length_flatMap -> Ag, length_map -> Ah, getElem?_of_mem -> Ai, length_pos_iff -> Aj, map_congr_left -> Ak
abbrev Gm:=List (Int×Int)
abbrev Gl:=List (Int×Gm)
abbrev Gn:=HP Int (HP Int (HP Int (HP Int (HP Int (HP Int (HP Int (HP Int Unit)))))))
abbrev Gp:=List (Int×(Bool×Gm))
abbrev Gq:=HP Int (HP Int (HP Gl (HP Int (HP Int (HP Gl Unit)))))
abbrev Gr:=HP Int (HP Gm (HP Int (HP Int (HP Gm Unit))))
abbrev Gs:=HP Gl (HP Int (HP Int Gn))
noncomputable def Jad[W](s:Gr):Option (Nx Gr (HP Gm Unit)):=br (cm .lss s.j.j.j.e s.j.j.e) (ge s.j.e s.j.j.j.e λv3=>gd (ib s.j.j.j.e (ln s.j.j.j.j.e))<|ge s.j.j.j.j.e s.j.j.j.e λv4=>some (.go ⟨s.e,s.j.e,s.j.j.e,(ar .add .i64 s.j.j.j.e 1),(st s.j.j.j.j.e s.j.j.j.e ((ar .add .i64 v3.1 s.e),(ar .add .i64 v3.2 s.e))),()⟩)) (some (.out s.j.j.j.j))
noncomputable def Jdi[W](a:(Gm×Int)):Option (Gm×Int):=call Jq (a.1:Gm) λ(v0:Bool)=>br (nt v0) (some ([],1)) (br (cm .eql (ln a.1) 0) (some ([],0)) (br (cm .lss a.2 (-2097152)) (some ([],8)) (br (cm .gtr a.2 2097152) (some ([],8)) (ge a.1 0 λv1=>br (cm .lss (ar .add .i64 v1.1 a.2) (-1048576)) (some ([],8)) (ge a.1 (ar .sub .i64 (ln a.1) 1) λv2=>br (cm .gtr (ar .add .i64 v2.2 a.2) 1048576) (some ([],8)) (gd (le 0 (ln a.1))<|gd (ft 16 (ln a.1))<|loop Jad ⟨a.2,a.1,(ln a.1),0,(rp (0,0) (ln a.1)),()⟩ λv5=>some (v5.e,0)))))))
noncomputable def Jbr:Ctr:=⟨93,[(.one,(.ls (.p I I))),(.one,I)],[(false,(.ls (.p I I))),(false,I)],@Jdi wv⟩
theorem Jvx(w:W)(a):fnD (dW w) (V1 [(68,Jq)]) 8 93 Jbr.as Jbr.rs a=@Jdi w a:=by kernel_rfl
theorem Jt9:V3 Jbr:=V2 (Je zi Ju) (Jr (by kernel_rfl)) rfl rfl (Jvx wv)
noncomputable def Jb4[W](a:Int):Option Bool:=br (cm .geq a (-8192)) (some (cm .leq a 8192)) (some false)
noncomputable def Yx:Ctr:=⟨92,[(.one,I)],[(false,.bool)],@Jb4 wv⟩
theorem Jti(w:W)(a):fnD (dW w) (V1 []) 8 92 Yx.as Yx.rs a=@Jb4 w a:=by kernel_rfl
theorem Js0:V3 Yx:=V2 Ju (Jr (by kernel_rfl)) rfl rfl (Jti wv)
noncomputable def Jai[W](s:Gs):Option (Nx Gs Gn):=br (cm .lss s.j.j.e s.j.e) (ge s.e s.j.j.e λv3=>ge v3.2 0 λv4=>ge v3.2 (ar .sub .i64 (ln v3.2) 1) λv5=>some (.go ⟨s.e,s.j.e,(ar .add .i64 s.j.j.e 1),s.j.j.j.e,s.j.j.j.j.e,s.j.j.j.j.j.e,s.j.j.j.j.j.j.e,(mn s.j.j.j.j.j.j.j.e v4.1),s.j.j.j.j.j.j.j.j.e,(mx s.j.j.j.j.j.j.j.j.j.e (ar .sub .i64 v5.2 1)),s.j.j.j.j.j.j.j.j.j.j⟩)) (some (.out s.j.j.j))
noncomputable def zj[W](a:Gl):Option ((Int×Int)×((Int×Int)×Bool)):=call Jn (a:Gl) λ(v0:Bool)=>br (nt v0) (some ((0,0),((0,0),false))) (br (cm .eql (ln a) 0) (some ((0,0),((0,0),false))) (ge a 0 λv1=>ge a (ar .sub .i64 (ln a) 1) λv2=>loop Jai ⟨a,(ln a),0,0,0,0,0,4096,v1.1,(-4096),v2.1,()⟩ λd=>some ((d.j.j.j.j.e,d.j.j.j.j.j.e),((d.j.j.j.j.j.j.e,d.j.j.j.j.j.j.j.e),true))))
noncomputable def J3:Ctr:=⟨38,[(.ag,(.ls (.p I (.ls (.p I I)))))],[(true,(.p I I)),(true,(.p I I)),(false,.bool)],@zj wv⟩
theorem Jvl(w:W)(a):fnD (dW w) (V1 [(23,Jn)]) 8 38 J3.as J3.rs a=@zj w a:=by kernel_rfl
theorem Jk4:V3 J3:=V2 (Je Yi Ju) (Jr (by kernel_rfl)) rfl rfl (Jvl wv)
noncomputable def jg[W](s:Gq):Option (Nx Gq (HP Gl Unit)):=br (cm .lss s.j.j.j.j.e s.j.j.j.e) (ge s.j.j.e s.j.j.j.j.e λa=>call Jbr ((a.2,s.e):(Gm×Int)) λ(v9:(Gm×Int))=>gd (ft 32 (pl (ln s.j.j.j.j.j.e) 1))<|some (.go ⟨s.e,s.j.e,s.j.j.e,s.j.j.j.e,(ar .add .i64 s.j.j.j.j.e 1),(ap s.j.j.j.j.j.e (((ar .add .i64 a.1 s.j.e),v9.1)::[])),()⟩)) (some (.out s.j.j.j.j.j))
noncomputable def Qh[W](a:(Gl×(Int×Int))):Option (Gl×Int):=call J3 (a.1:Gl) λ(v0:((Int×Int)×((Int×Int)×Bool)))=>call Jn (a.1:Gl) λ(v1:Bool)=>br (nt v1) (some ([],1)) (br (nt v0.2.2) (some ([],0)) (call Yx (a.2.1:Int) λ(v2:Bool)=>br (nt v2) (some ([],8)) (call Yx (a.2.2:Int) λ(v3:Bool)=>br (nt v3) (some ([],8)) (call J5 ((ar .add .i64 v0.1.1 a.2.1):Int) λ(v4:Bool)=>br (nt v4) (some ([],8)) (call J5 ((ar .add .i64 v0.2.1.1 a.2.1):Int) λ(v5:Bool)=>br (nt v5) (some ([],8)) (call J5 ((ar .add .i64 v0.1.2 a.2.2):Int) λ(f:Bool)=>br (nt f) (some ([],8)) (call J5 ((ar .add .i64 v0.2.1.2 a.2.2):Int) λ(d:Bool)=>br (nt d) (some ([],8)) (loop jg ⟨a.2.1,a.2.2,a.1,(ln a.1),0,[],()⟩ λv10=>some (v10.e,0)))))))))
noncomputable def Kz:Ctr:=⟨37,[(.ag,(.ls (.p I (.ls (.p I I))))),(.one,I),(.one,I)],[(true,(.ls (.p I (.ls (.p I I))))),(false,I)],@Qh wv⟩
theorem Jo1(w:W)(a):fnD (dW w) (V1 [(93,Jbr),(38,J3),(23,Jn),(92,Yx),(67,J5)]) 8 37 Kz.as Kz.rs a=@Qh w a:=by kernel_rfl
theorem Joy:V3 Kz:=V2 (Je Jt9 (Je Jk4 (Je Yi (Je Js0 (Je Jhw Ju))))) (Jr (by kernel_rfl)) rfl rfl (Jo1 wv)
noncomputable def Kt[W](a:(Gl×Int)):Option Bool:=call Qx (a.1:Gl) λ(v0:Bool)=>br v0 (call Jy (():Unit) λ(v1:Bool)=>some v1) (call Kz ((a.1,(2000,0)):(Gl×(Int×Int))) λ(v2:(Gl×Int))=>call J3 (a.1:Gl) λ(v3:((Int×Int)×((Int×Int)×Bool)))=>call J3 (v2.1:Gl) λ(v4:((Int×Int)×((Int×Int)×Bool)))=>br (cm .neq v2.2 0) (call Jy (():Unit) λ(v5:Bool)=>some v5) (br (nt v3.2.2) (call Jy (():Unit) λ(g:Bool)=>some g) (br (cm .geq (ar .add .i64 v3.2.1.1 1) v4.1.1) (call Jy (():Unit) λ(f:Bool)=>some f) (br (cm .lss a.2 0) (call Jy (():Unit) λ(d:Bool)=>some d) (br (cm .gtr a.2 20) (call Jy (():Unit) λ(v9:Bool)=>some v9) (call Ku ((a.1,a.2):(Gl×Int)) λ(v10:(Gp×Gl))=>call Kv ((a.1,v2.1):(Gl×Gl)) λ(v11:Gl)=>call Ku ((v11,a.2):(Gl×Int)) λ(v12:(Gp×Gl))=>call Kz ((v10.2,(2000,0)):(Gl×(Int×Int))) λ(v13:(Gl×Int))=>call Xe (v10.1:Gp) λ(v14:Gl)=>call Kz ((v14,(2000,0)):(Gl×(Int×Int))) λ(v15:(Gl×Int))=>br (cm .eql v13.2 0) (br (cm .eql v15.2 0) (call Kv ((v10.2,v13.1):(Gl×Gl)) λ(v16:Gl)=>call Yz ((v12.2,v16):(Gl×Gl)) λ(v17:Bool)=>br v17 (call Xe (v12.1:Gp) λ(v18:Gl)=>call Xe (v10.1:Gp) λ(v19:Gl)=>call Kv ((v19,v15.1):(Gl×Gl)) λ(v20:Gl)=>call Yz ((v18,v20):(Gl×Gl)) λ(v21:Bool)=>br v21 (call Jy (():Unit) λ(v22:Bool)=>some v22) (some false)) (some false)) (some false)) (some false)))))))
noncomputable def Jc4:Ctr:=⟨10,[(.ag,(.ls (.p I (.ls (.p I I))))),(.one,I)],[(false,.bool)],@Kt wv⟩
theorem Jc7(w:W)(a):fnD (dW w) (V1 [(28,Qx),(29,Jy),(37,Kz),(38,J3),(30,Ku),(39,Kv),(20,Xe),(32,Yz)]) 8 10 Jc4.as Jc4.rs a=@Kt w a:=by kernel_rfl
theorem Jc5:V3 Jc4:=V2 (Je Jfu (Je Jgh (Je Joy (Je Jk4 (Je Ji1 (Je Jhj (Je Jri (Je Jrh Ju)))))))) (Jr (by kernel_rfl)) rfl rfl (Jc7 wv)
def shC(dx dy:Int)(c:Cell):Cell:=(c.1+dx,c.2+dy)
def shU(dx:Int)(u:Run):Run:=(u.1+dx,u.2+dx)
def shR(dx dy:Int)(r:Reg):Reg:=r.map λw=>(w.1+dy,w.2.map (shU dx))
theorem shC_back(dx dy:Int)(c:Cell):shC dx dy (c.1 - dx,c.2 - dy)=c:=by unfold shC;refine Prod.ext ?_ ?_<;>dsimp only<;>omega
section
variable {r:Reg} {dx dy:Int}
theorem sh_in(c:Cell):Jv (shR dx dy r) (shC dx dy c)↔Jv r c:=by
 unfold Jv Ji shR shC;constructor
 ·rintro ⟨w,a,h,u,d,g,f⟩;obtain ⟨v,m,rfl⟩:=Ae.1 a;obtain ⟨z,l,rfl⟩:=Ae.1 d;unfold shU at g f;dsimp only at h g f;exact ⟨v,m,by omega,z,l,by omega,by omega⟩
 ·rintro ⟨w,a,h,u,d,g,f⟩;exact ⟨_,Ae.2 ⟨w,a,rfl⟩,by dsimp only;omega,shU dx u,Ae.2 ⟨u,d,rfl⟩,by unfold shU;dsimp only;omega,by unfold shU;dsimp only;omega⟩
end
theorem Jsp{l:List Run}{d:Int}(h:RunsOK (-4096) 4096 l)(hl:l.length<=1000000000)(o:l≠[])(hd:-8192<=d/\d<=8192):@Jdi wv (l,d)=some (l.map (shU d),0):=by
 have y:=Aj.2 o;have w:RunsOK (-1048576) 1048576 l:=⟨λx hx=>by have:=h.bd x hx;omega,h.pw⟩;have g0:l[0]?=some l[0]:=Ab y;have r:l[l.length - 1]?=some l[l.length - 1]:=Ab (by omega);generalize l[0]=a at g0;generalize l[l.length - 1]=b at r;have F:=h.bd a (Aa g0);have E:=h.bd b (Aa r);have f:=Qo (b:=@Jad wv) (e:=(⟨l.map (shU d),()⟩:HP (List Run) Unit)) (λi=>(⟨d,l,(l.length:Int),(i:Int),(l.take i).map (shU d)++Ad (l.length - i) (0,0),()⟩:HP Int (HP (List Run) (HP Int (HP Int (HP (List Run) Unit)))))) l.length (by omega) (λi hi=>by
  have hx:=Ab hi;generalize l[i]=u at hx;have B:=h.bd u (Aa hx);have m:((l.take i).map (shU d)++Ad (l.length - i) ((0,0):Run)).length=l.length:=by rw [List.length_append,Ah,Af,List.length_replicate];omega
  have v:((l.take i).map (shU d)++Ad (l.length - i) ((0,0):Run))[i]?=some (0,0):=by rw [List.getElem?_append_right (by rw [Ah,Af];omega),List.getElem?_replicate,if_pos (by rw [Ah,Af];omega)]
  unfold Jad;dsimp only;rw [Qp (by omega),ge_s (fg hx),Jf3 (by rw [w_ln,m];omega),ge_s (fg v),Ki,Ki,Ki,wr (n:=(i:Int)+1) (by omega) (by omega),wr (n:=u.1+d) (by omega) (by omega),wr (n:=u.2+d) (by omega) (by omega),w_st,Int.toNat_natCast];have e:((l.take i).map (shU d)++Ad (l.length - i) ((0,0):Run)).set i (u.1+d,u.2+d)=(l.take (i+1)).map (shU d)++Ad (l.length - (i+1)) (0,0):=by
   have g:((l.take i).map (shU d)).length=i:=by rw [Ah,Af];omega
   rw [List.set_append,if_neg (by rw [g];omega),g,Nat.sub_self,show l.length - i=(l.length - (i+1))+1 by omega,List.replicate_succ,List.set_cons_zero,Jcp hx,List.append_assoc];rfl
  rw [e];rfl) (by unfold Jad;dsimp only;rw [Ko (by omega),List.take_length,Nat.sub_self,List.replicate_zero,List.append_nil])
 unfold Jdi;dsimp only;rw [Yb hl,br_f (by simp [w_nt,w]),br_f (by rw [Xb,w_ln,beq_eq_false_iff_ne];omega),Ko (by omega),br_f (by rw [jm];exact decide_eq_false (by omega)),ge_s (fg0 g0),Ki,wr (n:=a.1+d) (by omega) (by omega),Ko (by omega),
  ge_s (fgz (l.length - 1) (by rw [w_ln,Yp,wr (by omega) (by omega)];omega) r),Ki,wr (n:=b.2+d) (by omega) (by omega),br_f (by rw [jm];exact decide_eq_false (by omega)),gd_t (by rw [w_le,w_ln];exact decide_eq_true (by omega)),w_ln,Jf7 (by omega) (by omega),w_rp,Int.toNat_natCast]
 have A:(l.take 0).map (shU d)++Ad (l.length - 0) ((0,0):Run)=Ad l.length (0,0):=by simp
 rw [A] at f;exact (lo_s f).trans rfl
theorem Jzj{r:Reg}(hl:LimR r)(h:RegOK r)(P:r≠[]):∃lo hi:Cell,@zj wv r=some (lo,hi,true)/\(∀c,Jv r c->lo.1<=c.1/\c.1<=hi.1/\lo.2<=c.2/\c.2<=hi.2)/\(∀w∈r,lo.2<=w.1/\w.1<=hi.2/\∀u∈w.2,lo.1<=u.1/\u.2<=hi.1+1)/\(-4096<=lo.1/\lo.1<=hi.1/\hi.1<4096)/\(-4096<=lo.2/\lo.2<=hi.2/\hi.2<4096)/\∀A B:Int,(∀w∈r,∀u∈w.2,A<=u.1/\u.2<=B+1)->A<=4096->-4096<=B->A<=lo.1/\hi.1<=B:=by
 have hL:=hl.1;have Z:=Aj.2 P;have g0:r[0]?=some r[0]:=Ab Z;have F:r[r.length - 1]?=some r[r.length - 1]:=Ab (by omega);generalize r[0]=a at g0;generalize r[r.length - 1]=b at F;obtain ⟨e,he,lx,hx,rfl,hI⟩:=Zp (b:=@Jai wv)
  (λi s=>∃lx hx:Int,s=(⟨r,(r.length:Int),(i:Int),0,0,0,0,lx,a.1,hx,b.1,()⟩:HP Reg (HP Int (HP Int (HP Int (HP Int (HP Int (HP Int (HP Int (HP Int (HP Int (HP Int Unit))))))))))) /\
   (∀j w,j<i->r[j]?=some w->∀u∈w.2,lx<=u.1/\u.2<=hx+1)/\(-4096<=lx/\hx<4096)/\(0<i->lx<=hx)/\(lx<=4096/\-4096<=hx)/\(∀A B:Int,(∀w∈r,∀u∈w.2,A<=u.1/\u.2<=B+1)->A<=4096->-4096<=B->A<=lx/\hx<=B))
  (λe=>∃lx hx:Int,e=(⟨0,0,0,0,lx,a.1,hx,b.1,()⟩:HP Int (HP Int (HP Int (HP Int (HP Int (HP Int (HP Int (HP Int Unit))))))))/\(∀w∈r,∀u∈w.2,lx<=u.1/\u.2<=hx+1)/\(-4096<=lx/\lx<=hx/\hx<4096)/\(∀A B:Int,(∀w∈r,∀u∈w.2,A<=u.1/\u.2<=B+1)->A<=4096->-4096<=B->A<=lx/\hx<=B))
  r.length (by omega) (s0:=⟨r,(r.length:Int),0,0,0,0,0,4096,a.1,-4096,b.1,()⟩)
  ⟨4096,-4096,rfl,λj w h=>by omega,by omega,λh=>by omega,by omega,λA B _ J M=>⟨J,M⟩⟩
  (λi s hi=>by
   rintro ⟨lx,hx,rfl,J,M,Y,⟨h4,h5⟩,X⟩;have d:=Ab hi;generalize r[i]=w at d;have f:=Aa d;have O:=h.ne w f;have m:=h.rs w f;have hwl:=hl.2 w f;have N:=Aj.2 O;have K:w.2[0]?=some w.2[0]:=Ab N;have H:w.2[w.2.length - 1]?=some w.2[w.2.length - 1]:=Ab (by omega);generalize w.2[0]=G at K;generalize w.2[w.2.length - 1]=y at H;have b0:=m.bd G (Aa K);have b1:=m.bd y (Aa H);have E:∀u∈w.2,G.1<=u.1/\u.2<=y.2:=λu g=>by
    have bu:=m.bd u g;obtain ⟨j,o⟩:=Ai g;obtain ⟨p,e⟩:=Ac.1 o;obtain ⟨p0,e0⟩:=Ac.1 K;obtain ⟨p1,e1⟩:=Ac.1 H;have pw:=List.pairwise_iff_getElem.1 m.pw;constructor
    ·by_cases R:j=0
     ·subst R;rw [e0] at e;subst e;omega
     ·have:=pw 0 j p0 p (by omega);rw [e0,e] at this;omega
    ·by_cases Q:j=w.2.length - 1
     ·subst Q;rw [e1] at e;subst e;omega
     ·have:=pw j (w.2.length - 1) p p1 (by omega);rw [e1,e] at this;omega
   have h01:=E y (Aa H);have em:@W.mn wv lx G.1=min lx G.1:=by rw [w_mn];split<;>omega
   have ex:@W.mx wv hx (y.2 - 1)=max hx (y.2 - 1):=by rw [w_mx];split<;>omega
   refine ⟨_,?_,min lx G.1,max hx (y.2 - 1),rfl,λj v o L=>?_,by omega,λ_=>by omega,by omega,λA B F g2 g3=>?_⟩
   ·unfold Jai;dsimp only;rw [Qp (by omega),ge_s (fg d),ge_s (fg0 K),ge_s (fgz (w.2.length - 1) (by rw [w_ln,Yp,wr (by omega) (by omega)];omega) H),Yp,wr (n:=y.2 - 1) (by omega) (by omega),em,ex,Ki,wr (by omega) (by omega)];rfl
   ·intro u g;by_cases e:j=i
    ·subst e;rw [d] at L;injection L with L;subst L;have:=E u g;omega
    ·have:=J j v (by omega) L u g;omega
   ·have a1:=X A B F g2 g3;have a2:=F w f G (Aa K);have a3:=F w f y (Aa H);omega)
  (by
   rintro s ⟨lx,hx,rfl,J,M,Y,⟨h4,h5⟩,X⟩;refine ⟨_,?_,lx,hx,rfl,λw d u g=>?_,⟨by omega,Y Z,by omega⟩,X⟩
   ·unfold Jai;dsimp only;rw [Ko (by omega)]
   ·obtain ⟨j,o⟩:=Ai d;exact J j w (Ac.1 o).1 o u g)
 have hya:=h.y a (Aa g0);have hyb:=h.y b (Aa F);have l:∀w∈r,a.1<=w.1/\w.1<=b.1:=λw d=>by obtain ⟨j,o⟩:=Ai d;have hjl:=(Ac.1 o).1;exact ⟨Jk1 h g0 o (by omega),Jk1 h o F (by omega)⟩
 have hab:=l a (Aa g0);refine ⟨(lx,a.1),(hx,b.1),?_,?_,?_,by dsimp only;omega,by dsimp only;omega,hI.2.2⟩
 ·unfold zj;rw [Qa hl,br_f (by simp [w_nt,h]),br_f (by rw [Xb,w_ln,beq_eq_false_iff_ne];omega),ge_s (fg0 g0),ge_s (fgz (r.length - 1) (by rw [w_ln,Yp,wr (by omega) (by omega)];omega) F),w_ln];exact (lo_s he).trans rfl
 ·rintro c ⟨w,d,J,u,g,M,Y⟩;have:=l w d;have:=hI.1 w d u g;dsimp only;omega
 ·intro w d;have:=l w d;exact ⟨this.1,this.2,λu g=>hI.1 w d u g⟩
theorem Job{r:Reg}(hl:LimA r)(h:¬RegOK r\/r=[]):@zj wv r=some ((0,0),(0,0),false):=by
 classical
 unfold zj;rw [Jhq hl];by_cases hr:RegOK r
 ·rw [br_f (by simp [w_nt,hr])];rcases h with h|rfl
  ·exact (h hr).elim
  ·rw [br_t (by rfl)]
 ·rw [br_t (by simp [w_nt,hr])]
theorem near_ok(d:Int):@Jb4 wv d=some (decide (-8192<=d/\d<=8192)):=by
 unfold Jb4;by_cases h:-8192<=d
 ·rw [br_t (by rw [Jh3];exact decide_eq_true h),Jjm];simp [h]
 ·rw [br_f (by rw [Jh3];exact decide_eq_false h)];simp [h]
theorem J0k{α:Type}(d:Int)(k:Bool->Option α):@W.call wv α Yx (d:Int) k=k (decide (-8192<=d/\d<=8192)):=ca_s (c:=Yx) (near_ok d)
theorem sh_reg{r:Reg}{dx dy:Int}(hr:RegOK r)(l:∀w∈r,-4096<=w.1+dy/\w.1+dy<4096)(hx:∀w∈r,∀u∈w.2,-4096<=u.1+dx/\u.2+dx<=4096):RegOK (shR dx dy r):=by
 refine ⟨λw f=>?_,?_,λw f=>?_,λw f=>?_⟩
 ·obtain ⟨v,a,rfl⟩:=Ae.1 f;exact l v a
 ·exact List.pairwise_map.2 (hr.pw.imp λh=>by dsimp only;omega)
 ·obtain ⟨v,a,rfl⟩:=Ae.1 f;have:=hr.ne v a;simpa using this
 ·obtain ⟨v,a,rfl⟩:=Ae.1 f;have g:=hr.rs v a;refine ⟨λu m=>?_,List.pairwise_map.2 (g.pw.imp λh=>by unfold shU;dsimp only;omega)⟩;obtain ⟨x,d,rfl⟩:=Ae.1 m;have:=hx v a x d;have:=g.bd x d;unfold shU;dsimp only;omega
theorem Jly{r:Reg}(hr:RegOK r)(hx:∀w∈r,∀u∈w.2,u.2+2000<=4096):@Qh wv (r,(2000,0))=some (shR 2000 0 r,0)/\RegOK (shR 2000 0 r):=by
 classical
 have hl:=Xp hr;refine ⟨?_,sh_reg hr (λw a=>by have:=hr.y w a;omega) λw a u g=>by have:=hx w a u g;have:=(hr.rs w a).bd u g;omega⟩;unfold Qh;dsimp only;by_cases h:r=[]
 ·subst h;refine (ca_s (c:=J3) (Job ⟨by simp,by simp⟩ (.inr rfl))).trans ?_;rw [Qa hl,br_f (by simp [w_nt,hr]),br_t (by rfl)];rfl
 obtain ⟨lo,hi,hB,v,o,A,y,hAB⟩:=Jzj hl hr h;have G:=hAB (-4096) 2095 (λw a u g=>by have:=hx w a u g;have:=(hr.rs w a).bd u g;omega) (by omega) (by omega);have hkB:∀ {α:Type} (k:(Int×Int)×((Int×Int)×Bool)->Option α),@W.call wv α J3 r k=k (lo,hi,true):=λk=>ca_s (c:=J3) hB;have t:∀ {p:Prop} [Decidable p],p->@W.nt wv (decide p)=false:=λq=>by rw [w_nt,decide_eq_true q];rfl
 rw [hkB,Qa hl,br_f (by simp [w_nt,hr]),br_f (by rfl),J0k,br_f (t (by omega)),J0k,br_f (t (by omega))];dsimp only;have E:@W.ar wv .add .i64 lo.1 2000=lo.1+2000:=by rw [Ki,wr (by omega) (by omega)]
 have B:@W.ar wv .add .i64 hi.1 2000=hi.1+2000:=by rw [Ki,wr (by omega) (by omega)]
 have a3:@W.ar wv .add .i64 lo.2 0=lo.2+0:=by rw [Ki,wr (by omega) (by omega)]
 have a4:@W.ar wv .add .i64 hi.2 0=hi.2+0:=by rw [Ki,wr (by omega) (by omega)]
 rw [E,B,a3,a4,Qi,br_f (t (by omega)),Qi,br_f (t (by omega)),Qi,br_f (t (by omega)),Qi,br_f (t (by omega))];have hL:=hl.1;have f:=Qo (b:=@jg wv) (e:=(⟨shR 2000 0 r,()⟩:HP Reg Unit)) (λi=>(⟨2000,0,r,(r.length:Int),(i:Int),shR 2000 0 (r.take i),()⟩:HP Int (HP Int (HP Reg (HP Int (HP Int (HP Reg Unit))))))) r.length (by omega) (λi m=>by
  have a:=Ab m;generalize r[i]=w at a;have d:=Aa a;have F:=hr.y w d;unfold jg;dsimp only;rw [Qp (by omega),ge_s (fg a)];refine (ca_s (c:=Jbr) (Jsp (hr.rs w d) (hl.2 w d) (hr.ne w d) ⟨by omega,by omega⟩)).trans ?_;dsimp only;have l:(shR 2000 0 (r.take i)).length=i:=by unfold shR;rw [Ah,Af];omega
  rw [w_ln,w_pl,l,J1u (by omega) (by omega),Ki,Ki,wr (n:=(i:Int)+1) (by omega) (by omega),wr (n:=w.1+0) (by omega) (by omega),w_ap];unfold shR;rw [Jcp a];rfl) (by unfold jg;dsimp only;rw [Ko (by omega),List.take_length])
 rw [w_ln];exact (lo_s f).trans rfl
theorem Shift_no{r:Reg}(hl:LimA r)(h:¬RegOK r):@Qh wv (r,(2000,0))=some ([],1):=by
 classical
 unfold Qh;dsimp only;refine (ca_s (c:=J3) (Job hl (.inl h))).trans ?_;rw [Jhq hl,br_t (by simp [w_nt,h])]
theorem J57{r:Reg}(hr:RegOK r)(hx:¬ ∀w∈r,∀u∈w.2,u.2+2000<=4096):@Qh wv (r,(2000,0))=some ([],8):=by
 have hl:=Xp hr;unfold Qh;dsimp only;have g:r≠[]:=by rintro rfl;exact hx λw d=>(List.not_mem_nil d).elim
 obtain ⟨lo,hi,hB,o,a,y,v,hAB⟩:=Jzj hl hr g;have l:2096<=hi.1:=by apply Classical.byContradiction;intro q;exact hx λw d u m=>by have:=((a w d).2.2 u m).2;omega
 have hkB:∀ {α:Type} (k:(Int×Int)×((Int×Int)×Bool)->Option α),@W.call wv α J3 r k=k (lo,hi,true):=λk=>ca_s (c:=J3) hB;have t:∀ {p:Prop} [Decidable p],p->@W.nt wv (decide p)=false:=λq=>by rw [w_nt,decide_eq_true q];rfl
 have f:∀ {p:Prop} [Decidable p],¬p->@W.nt wv (decide p)=true:=λq=>by rw [w_nt,decide_eq_false q];rfl
 rw [hkB,Qa hl,br_f (by simp [w_nt,hr]),br_f (by rfl),J0k,br_f (t (by omega)),J0k,br_f (t (by omega))];dsimp only;have B:@W.ar wv .add .i64 lo.1 2000=lo.1+2000:=by rw [Ki,wr (by omega) (by omega)]
 have A:@W.ar wv .add .i64 hi.1 2000=hi.1+2000:=by rw [Ki,wr (by omega) (by omega)]
 rw [B,A,Qi];by_cases h:-4096<=lo.1+2000/\lo.1+2000<4096
 case neg=>rw [br_t (f h)]
 rw [br_f (t h),Qi,br_t (f (by omega))]
theorem J13{r s U:Reg}{m:Int}(hr:∀c,Jv r c->c.1<m)(hs:∀c,Jv s c->m<c.1)(hU:∀c,Jv U c↔Jv r c\/Jv s c){k:Int}(l:0<=k)(c:Cell):deep U k c↔deep r k c\/deep s k c:=by
 constructor
 ·intro h;have g:∀dx dy:Int,-k<=dx->dx<=k->-k<=dy->dy<=k->c.1+dx≠m:=λdx dy d a a3 a4 e=>by
   rcases (hU _).1 (h dx dy d a a3 a4) with q|q
   ·have:=hr _ q;dsimp only at this;omega
   ·have:=hs _ q;dsimp only at this;omega
  rcases (hU c).1 (Jiq l h) with q|q
  ·refine .inl λdx dy d a a3 a4=>?_;rcases (hU _).1 (h dx dy d a a3 a4) with p|p
   ·exact p
   ·have o:=hr _ q;have f:=hs _ p;dsimp only at f;exact (g (m - c.1) dy (by omega) (by omega) a3 a4 (by omega)).elim
  ·refine .inr λdx dy d a a3 a4=>?_;rcases (hU _).1 (h dx dy d a a3 a4) with p|p
   ·have o:=hs _ q;have f:=hr _ p;dsimp only at f;exact (g (m - c.1) dy (by omega) (by omega) a3 a4 (by omega)).elim
   ·exact p
 ·rintro (h|h) dx dy d a a3 a4
  ·exact (hU _).2 (.inl (h dx dy d a a3 a4))
  ·exact (hU _).2 (.inr (h dx dy d a a3 a4))
theorem Jmk{r:Reg}{dx dy:Int}{c:Cell}:Jv (shR dx dy r) c↔Jv r (c.1 - dx,c.2 - dy):=by have:=sh_in (r:=r) (dx:=dx) (dy:=dy) (c.1 - dx,c.2 - dy);rwa [shC_back] at this
theorem sh_deep{r:Reg}{dx dy k:Int}{c:Cell}:deep (shR dx dy r) k c↔deep r k (c.1 - dx,c.2 - dy):=by unfold deep;refine forall_congr' λa=>forall_congr' λb=>imp_congr Iff.rfl (imp_congr Iff.rfl (imp_congr Iff.rfl (imp_congr Iff.rfl ?_)));rw [Jmk];dsimp only;rw [show c.1+a - dx=c.1 - dx+a by omega,show c.2+b - dy=c.2 - dy+b by omega]
theorem sh_cells(r:Reg)(dx dy:Int):(K8 (shR dx dy r)).length=(K8 r).length:=by
 have e:∀w:Row,(rowC (w.1+dy,w.2.map (shU dx))).length=(rowC w).length:=λw=>by unfold rowC;rw [List.flatMap_map,Ag,Ag];refine congrArg List.sum (Ak λu _=>?_);rw [Jf9,Jf9];unfold shU;dsimp only;omega
 unfold K8 shR;rw [List.flatMap_map,Ag,Ag];exact congrArg List.sum (Ak λw _=>e w)
theorem J2b{r:Reg}(h:RegOK r):(K8 r).Nodup:=(h.cells_pw).imp λ{a b} d e=>by subst e;exact Ji2 d d
theorem apart_ok{r:Reg}(hr:RegOK r)(hc:(K8 r).length<=1000){m:Int}(hx:∀c,Jv r c->c.1<m/\m<c.1+2000)(hs:RegOK (shR 2000 0 r))(E:∀w∈r,∀u∈w.2,u.2+2000<=4096)(n:Nat) :
  ∃U,@Yg wv (r,shR 2000 0 r)=some U/\RegOK U/\(K8 U).length<=2000 /\
   @Qh wv (eroN r n,(2000,0))=some (shR 2000 0 (eroN r n),0)/\@Yg wv (eroN r n,shR 2000 0 (eroN r n))=some (eroN U n) /\
   ∃T V,@Yv wv (Jdv (Q5 r n))=some T/\RegOK T/\@Qh wv (T,(2000,0))=some (shR 2000 0 T,0)/\@Yv wv (Jdv (Q5 U n))=some V/\RegOK V/\@Yg wv (T,shR 2000 0 T)=some V:=by
 obtain ⟨U,M,l,A⟩:=Jal r (shR 2000 0 r) hr hs (Xp hr) (Xp hs);have hcU:(K8 U).length<=2000:=by
  have h1:(K8 U).length<=(K8 r++K8 (shR 2000 0 r)).length:=Yr (J2b l) λc q=>by rw [List.mem_append,Q8,Q8];exact (A c).1 (Q8.1 q)
  rw [List.length_append,sh_cells] at h1;omega
 have hA:=λc q=>(hx c q).1;have hB:∀c,Jv (shR 2000 0 r) c->m<c.1:=λc q=>by have:=(hx _ (Jmk.1 q)).2;dsimp only at this;omega
 have y:=(Jga hr n).1;have eU:=(Jga l n).1;have d:∀c,Jv (eroN r n) c->Jv r c:=λc q=>Jiq (by omega) ((Jcv hr n c).1 q);have g:∀ {e:Reg},RegOK e->(∀c,Jv e c->Jv r c)->∀w∈e,∀u∈w.2,u.2+2000<=4096:=λ{e} he B w H u J=>by have hb:=(he.rs w H).bd u J;obtain ⟨v,Z,k1,z,Y,R,Q⟩:=B (u.2 - 1,w.1) ⟨w,H,rfl,u,J,by dsimp only;omega,by dsimp only;omega⟩;have:=E v Z z Y;dsimp only at R Q;omega
 obtain ⟨O,F⟩:=Jly y (g y d);obtain ⟨W,w1,L,K⟩:=Jal _ _ y F (Xp y) (Xp F);have ud:∀c,Jv (eroN U n) c↔Jv (eroN r n) c\/Jv (shR 2000 0 (eroN r n)) c:=λc=>by rw [Jcv l,J13 hA hB A (by omega),Jcv hr,Jmk,Jcv hr,sh_deep]
 have eW:W=eroN U n:=Jil L eU λc=>(K c).trans (ud c).symm;subst eW;obtain ⟨T,N,o,t3,-⟩:=Jof hr (by omega) n;obtain ⟨V,v1,v2,v3,-⟩:=Jof l hcU n;obtain ⟨P,G⟩:=Jly o (g o λc q=>((t3 c).1 q).1);obtain ⟨X,x1,x2,x3⟩:=Jal _ _ o G (Xp o) (Xp G);have eX:X=V:=Jil x2 v2 λc=>by
  rw [x3,v3,Jmk,t3,t3,A,Jmk,ud,Jmk];have d1:Jv r c->¬Jv (eroN r n) (c.1 - 2000,c.2 - 0):=λa b=>by have:=(hx _ a).1;have:=(hx _ (d _ b)).2;dsimp only at this;omega
  have d2:Jv r (c.1 - 2000,c.2 - 0)->¬Jv (eroN r n) c:=λa b=>by have:=(hx _ a).2;have:=(hx _ (d _ b)).1;dsimp only at *;omega
  constructor
  ·rintro (⟨f,h⟩|⟨f,h⟩)
   ·exact ⟨.inl f,λq=>q.elim h (d1 f)⟩
   ·exact ⟨.inr f,λq=>q.elim (d2 f) h⟩
  ·rintro ⟨f|f,h⟩
   ·exact .inl ⟨f,λq=>h (.inl q)⟩
   ·exact .inr ⟨f,λq=>h (.inr q)⟩
 subst eX;exact ⟨U,M,l,hcU,O,w1,T,X,N,o,P,v1,v2,x1⟩
theorem J1m(r:Reg)(n:Int)(hr:∀w∈r,w.2.length<=9223372036854775807)(hn:-9223372036854775808<=n/\n<=9223372036854775807):@Kt wv (r,n)=some true:=by
 classical
 obtain ⟨b,hb,R⟩:=heavy_ok r hr;unfold Kt;dsimp only;refine (ca_s (c:=Qx) hb).trans ?_;cases b with
 | true=>rw [br_t rfl,Jbn]
 | false=>
  rw [br_f rfl];obtain ⟨hl,J⟩:=R rfl;have l0:LimA ([]:Reg):=⟨by simp,by simp⟩;by_cases h:RegOK r
  case neg=>
   refine (ca_s (c:=Kz) (Shift_no hl h)).trans ((ca_s (c:=J3) (Job hl (.inl h))).trans ((ca_s (c:=J3) (Job l0 (.inr rfl))).trans ?_));rw [br_t (by rfl),Jbn]
  by_cases d:r=[]
  ·subst d;refine (ca_s (c:=Kz) (Jly h λw v=>(List.not_mem_nil v).elim).1).trans ((ca_s (c:=J3) (Job hl (.inr rfl))).trans ((ca_s (c:=J3) (Job l0 (.inr rfl))).trans ?_));rw [br_f (by rfl),br_t (by rfl),Jbn]
  obtain ⟨lo,hi,hB,y,H,Z,Y,hAB⟩:=Jzj (Xp h) h d;by_cases hx:∀w∈r,∀u∈w.2,u.2+2000<=4096
  case neg=>
   refine (ca_s (c:=Kz) (J57 h hx)).trans ((ca_s (c:=J3) hB).trans ((ca_s (c:=J3) (Job l0 (.inr rfl))).trans ?_));rw [br_t (by rfl),Jbn]
  obtain ⟨Q,o⟩:=Jly h hx;have f:shR 2000 0 r≠[]:=λe=>d (by unfold shR at e;exact List.map_eq_nil_iff.1 e);obtain ⟨lo',X,hB',g,-,K,-,-⟩:=Jzj (Xp o) o f;refine (ca_s (c:=Kz) Q).trans ((ca_s (c:=J3) hB).trans ((ca_s (c:=J3) hB').trans ?_));dsimp only;rw [br_f (by rfl),br_f (by rfl),Ki,wr (by omega) (by omega)];by_cases G:hi.1+1>=lo'.1
  ·rw [br_t (by rw [Jh3];exact decide_eq_true G),Jbn]
  rw [br_f (by rw [Jh3];exact decide_eq_false G)];by_cases F:n<0
  ·rw [Qp F,Jbn]
  rw [Ko F];by_cases E:n > 20
  ·rw [br_t (by rw [jm];exact decide_eq_true E),Jbn]
  rw [br_f (by rw [jm];exact decide_eq_false E)];obtain ⟨N,rfl⟩:∃N:Nat,n=(N:Int):=⟨n.toNat,by omega⟩;have eN:(min (max (N:Int) 0) 64).toNat=N:=by omega
  obtain ⟨U,P,l,O,M,L,T,V,B,t2,t3,v1,v2,v3⟩:=apart_ok (m:=hi.1+1) h (J h) (λc q=>by have a:=y c q;have b:=g (c.1+2000,c.2) (Jmk.2 (by dsimp only;rw [show c.1+2000 - 2000=c.1 by omega,show c.2 - 0=c.2 by omega];exact q));dsimp only at b;omega) o hx N
  have w1:=Jvz r (N:Int) hl λq=>by have:=J q;omega
  have A:=Jvz U (N:Int) ⟨(Xp l).1,λw v=>by have:=(Xp l).2 w v;omega⟩ λq=>O;rw [eN,if_pos h] at w1;rw [eN,if_pos l] at A;refine (ca_s (c:=Ku) w1).trans ((ca_s (c:=Kv) P).trans ((ca_s (c:=Ku) A).trans ((ca_s (c:=Kz) M).trans ((ca_s (c:=Xe) B).trans ((ca_s (c:=Kz) t3).trans ?_)))));rw [br_t (by rfl),br_t (by rfl)];refine (ca_s (c:=Kv) L).trans ((ca_s (c:=Yz) (Jhk (Jga l N).1)).trans ?_);rw [br_t rfl];refine (ca_s (c:=Xe) v1).trans ((ca_s (c:=Xe) B).trans ((ca_s (c:=Kv) v3).trans ((ca_s (c:=Yz) (Jhk v2)).trans ?_)));rw [br_t rfl,Jbn]
end Go.Proofs.YtmfagdfkpjgeiaaGreat
