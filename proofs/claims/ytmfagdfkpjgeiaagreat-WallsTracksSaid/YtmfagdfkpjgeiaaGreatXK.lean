/- The reference's valid tracks. Conditions: valid tracks. -/
import Derived.Test.YtmfagdfkpjgeiaaGreatXG
import Derived.Test.YtmfagdfkpjgeiaaGreatXJ
import Derived.Test.YtmfagdfkpjgeiaaGreatXE
set_option linter.unusedVariables false
set_option linter.unusedSimpArgs false
set_option maxRecDepth 100000
namespace Go.Proofs.YtmfagdfkpjgeiaaGreat
open Go Go.Vv Go.Dn Go.Dn.W
open List renaming getElem?_eq_getElem -> Aa, getElem?_eq_some_iff -> Ab, length_take -> Ad, pairwise_iff_getElem -> Ae, mem_of_getElem? -> Af, length_append -> Ah, getElem?_of_mem -> Ai, take_length -> Aj, length_zip -> Ak, mem_append -> Am, take_append_of_le_length -> Ao, getElem?_take_of_lt -> Aq, length_drop -> Ar, not_mem_nil -> As, take_of_length_le -> Au, length_map -> Av, take_append_drop -> Aw, length_filter_le -> Ax, pairwise_append -> Ay, reverse_reverse -> Az
open Int renaming toNat_natCast -> Ac
open Nat renaming mul_le_mul_right -> Ag, le_refl -> Ba
open Classical renaming byContradiction -> Ap
theorem O9(c:Cell):@jf wv c=some (decide (grid c)):=by
 simp only [jf,EI,JH,Li,decide_eq_true_eq]
 (repeat' split)<;>first|exact congrArg some (decide_eq_decide.2 (by unfold grid;omega))|exact congrArg some (decide_eq_false (by unfold grid;omega)).symm
theorem OI(d:Int)(h:-100000<=d/\d<=100000):@zm wv d=some (max d (0 - d)):=by
 unfold zm;rw [yc,wr (by omega) (by omega),mZ]
 congr 1
 split<;>omega
theorem dO{x y:Int}(hx:-100000<=x/\x<=100000)(d:-100000<=y/\y<=100000)(h:x * x+y * y=1):max x (0 - x)+max y (0 - y)=1:=by
 have l:=MC hx.1 hx.2;have g:=MC d.1 d.2;have sm:∀z:Int,z * z<=1->-1<=z/\z<=1:=λz f=>by
  have e:z * z=((z.natAbs * z.natAbs:Nat):Int):=(Int.natAbs_mul_self (a:=z)).symm;by_cases q:z.natAbs<=1
  ·omega
  ·have:2 * 2<=z.natAbs * z.natAbs:=Nat.mul_le_mul (by omega) (by omega);omega
 have o:=sm x (by omega);have m:=sm y (by omega);have cx:x=-1\/x=0\/x=1:=by omega
 have cy:y=-1\/y=0\/y=1:=by omega
 rcases cx with rfl|rfl|rfl<;>rcases cy with rfl|rfl|rfl<;>simp at h<;>decide
theorem nP{a b:Cell}(f:grid a)(d:grid b)(h:nb a b):@X9 wv (a,b)=some true:=by unfold grid at f d;unfold nb at h;unfold X9;dsimp only;rw [Xo,Xo,wr (n:=a.1 - b.1) (by omega) (by omega),wr (n:=a.2 - b.2) (by omega) (by omega)];refine (BH (c:=Qq) (OI (a.1 - b.1) (by omega))).trans ((BH (c:=Qq) (OI (a.2 - b.2) (by omega))).trans ?_);have e:=dO (x:=a.1 - b.1) (y:=a.2 - b.2) (by omega) (by omega) h;rw [J3,wr (by omega) (by omega),e];rfl
theorem XH{t:Jt}(h:VT t):@jv wv t=some true:=by
 obtain ⟨role,cl,l⟩:=t;obtain ⟨A,y,m,r⟩:=h;have A:1<=role/\role<=7:=A;have y:1<=l.length/\l.length<=65536:=y;have m:∀i,i<l.length->jI l i:=m;have r:cl=true->l.length=1\/∀a b,l[l.length - 1]?=some a->l[0]?=some b->nb a b:=r;have o:∀ {i c},l[i]?=some c->grid c:=λ{i c} w=>(m i (Ab.1 w).1 c w).1;have nt1:@W.nt wv true=false:=rfl;have f:=Ki (b:=@Yt wv) (e:=.inr ⟨(l.length:Int),role,cl,l,()⟩) (λi=>(⟨(l.length:Int),l,(l.length:Int),(i:Int),role,cl,l,()⟩:HP Int (HP (List Cell) (HP Int (HP Int (HP Int (HP Bool (HP (List Cell) Unit)))))))) l.length (by omega) (λi hi=>by
  have hx:=Aa hi;generalize l[i]=c at hx;obtain ⟨B,F⟩:=m i hi c hx;have G:@W.ar wv .add .i64 (i:Int) 1=((i+1:Nat):Int):=by rw [J3,wr (by omega) (by omega)];omega
  unfold Yt;dsimp only;rw [J5 (by omega),AP (fg hx)];refine (BH (c:=Xt) (O9 c)).trans ?_;rw [AU (by rw [decide_eq_true B];rfl),G];by_cases E:i=0
  ·subst E;rw [AU (by rfl)]
  ·have d:=Aa (l:=l) (i:=i - 1) (by omega);generalize l[i - 1]=p at d;rw [BA (by rw [z7];exact decide_eq_true (by omega)),AP (Im (i - 1) (by rw [Xo,wr (by omega) (by omega)];omega) d)];refine (BH (c:=Kr) (nP (o d) B (F p (by omega) d))).trans ?_;rw [nt1,AU rfl]) (by unfold Yt;dsimp only;rw [Jr (by omega)])
 unfold jv;dsimp only;rw [Jr (by omega),AU (by rw [z7];exact decide_eq_false (by omega)),AO,Jr (by omega),AU (by rw [z7];exact decide_eq_false (by omega))];refine (BL f).trans ?_;dsimp only;cases cl with
 | false=>exact BA rfl
 | true=>
  rw [nt1,AU rfl];by_cases v:l.length=1
  ·rw [BA (by rw [Qn,v];rfl)]
  ·have d:=Aa (l:=l) (i:=l.length - 1) (by omega);have g:=Aa (l:=l) (i:=0) (by omega);generalize l[l.length - 1]=p at d;generalize l[0]=q at g;rw [AU (by rw [Qn];exact beq_eq_false_iff_ne.2 (by omega)),AP (Im (l.length - 1) (by rw [Xo,wr (by omega) (by omega)];omega) d),AP (NQ g)];refine (BH (c:=Kr) (nP (o d) (o g) ((r rfl).resolve_left v p q d g))).trans rfl
theorem Oz(l:List Cell)(c:Cell)(w:l.Pairwise yx)(hl:l.length<=1000000000):∃i:Nat,@ju wv (l,c)=some (i:Int)/\i<=l.length/\(∀j z,j<i->l[j]?=some z->yx z c)/\∀j z,i<=j->l[j]?=some z->¬yx z c:=by
 have pw:=Ae.1 w;have lt2:∀ {i j a b},i<j->l[i]?=some a->l[j]?=some b->yx a b:=λ{i j a b} h G F=>by obtain ⟨p,e⟩:=Ab.1 G;obtain ⟨q,f⟩:=Ab.1 F;have:=pw i j p q h;rwa [e,f] at this
 obtain ⟨e,E,i,rfl,K,J,H⟩:=iW (b:=@Q7 wv)
  (λs=>∃lo hi:Nat,s=(⟨l,(lo:Int),(hi:Int),c.1,c.2,()⟩:HP (List Cell) (HP Int (HP Int (HP Int (HP Int Unit)))))/\lo<=hi/\hi<=l.length/\(∀j z,j<lo->l[j]?=some z->yx z c)/\∀j z,hi<=j->l[j]?=some z->¬yx z c)
  (λe=>∃i:Nat,e=(⟨(i:Int),()⟩:HP Int Unit)/\i<=l.length/\(∀j z,j<i->l[j]?=some z->yx z c)/\∀j z,i<=j->l[j]?=some z->¬yx z c)
  (λs=>(s.j.j.e - s.j.e).toNat) (by
   rintro s ⟨lo,hi,rfl,M,v,r,o⟩;by_cases A:lo<hi
   case neg=>
    have:lo=hi:=by omega
    subst this;refine .inr ⟨_,?_,lo,rfl,v,r,o⟩;unfold Q7;dsimp only;rw [Jr (by omega)]
   obtain ⟨m,N⟩:∃m:Nat,m=(lo+hi) / 2:=⟨_,rfl⟩;have hx:=Aa (l:=l) (i:=m) (by omega);generalize l[m]=z at hx;have em:@W.ar wv .quo .i64 (@W.ar wv .add .i64 (lo:Int) (hi:Int)) 2=(m:Int):=by rw [J3,wr (by omega) (by omega),YV,Int.tdiv_eq_ediv_of_nonneg (by omega),wr (by omega) (by omega)];omega
   have L:@W.ar wv .add .i64 (m:Int) 1=((m+1:Nat):Int):=by rw [J3,wr (by omega) (by omega)];omega
   by_cases d:yx z c
   ·refine .inl ⟨(⟨l,((m+1:Nat):Int),(hi:Int),c.1,c.2,()⟩:HP (List Cell) (HP Int (HP Int (HP Int (HP Int Unit))))),?_,⟨m+1,hi,rfl,by omega,v,λj y B g=>?_,o⟩,by dsimp only;omega⟩
    ·unfold Q7;dsimp only;rw [J5 (by omega),Cb (by rfl),em,AP (fg hx),L];unfold yx at d;by_cases a:z.2<c.2
     ·rw [J5 a]
     ·rw [Jr a,AP (fg hx),BA (by rw [Qn];exact beq_iff_eq.2 (by omega)),AP (fg hx),J5 (by omega)]
    ·by_cases e:j=m
     ·subst e;rw [hx] at g;cases g;exact d
     ·exact qg (lt2 (by omega) g hx) d
   ·refine .inl ⟨(⟨l,(lo:Int),(m:Int),c.1,c.2,()⟩:HP (List Cell) (HP Int (HP Int (HP Int (HP Int Unit))))),?_,⟨lo,m,rfl,by omega,by omega,r,λj y B g=>?_⟩,by dsimp only;omega⟩
    ·unfold Q7;dsimp only;rw [J5 (by omega),Cb (by rfl),em,AP (fg hx)];unfold yx at d;rw [Jr (by omega),AP (fg hx)];by_cases a:z.2=c.2
     ·rw [BA (by rw [Qn];exact beq_iff_eq.2 a),AP (fg hx),Jr (by omega)]
     ·rw [AU (by rw [Qn];exact beq_eq_false_iff_ne.2 a)]
    ·by_cases e:j=m
     ·subst e;rw [hx] at g;cases g;exact d
     ·exact λq=>d (qg (lt2 (by omega) hx g) q))
  (s0:=⟨l,0,(l.length:Int),c.1,c.2,()⟩) ⟨0,l.length,rfl,Nat.zero_le _,Ba _,λj z h=>by omega,λj z h d=>by have:=(Ab.1 d).1;omega⟩ (by dsimp only;omega)
 refine ⟨i,?_,K,J,H⟩;unfold ju;dsimp only;rw [AO];exact (BL E).trans rfl
def KI(l:List Cell)(i:Nat)(c:Cell):List Cell:=l.take i++c::l.drop i
theorem QV{l:List Cell}{i:Nat}{c z:Cell}:z∈KI l i c↔z=c\/z∈l:=by
 unfold KI;rw [Am,List.mem_cons];have:z∈l↔z∈l.take i\/z∈l.drop i:=by rw [<-Am,Aw]
 rw [this];exact ⟨λh=>h.elim (λq=>.inr (.inl q)) λq=>q.elim .inl λq=>.inr (.inr q),λh=>h.elim (λq=>.inr (.inl q)) λq=>q.elim .inl λq=>.inr (.inr q)⟩
theorem QW{l:List Cell}{i:Nat}(c:Cell)(h:i<=l.length):(KI l i c).length=l.length+1:=by unfold KI;rw [Ah,Ad,List.length_cons,Ar];omega
theorem WL{l:List Cell}{i:Nat}{c:Cell}(B:l.Pairwise yx)(G:∀j z,j<i->l[j]?=some z->yx z c)(F:∀j z,i<=j->l[j]?=some z->¬yx z c)(E:c∉l):(KI l i c).Pairwise yx:=by
 have g:(l.take i++l.drop i).Pairwise yx:=by rw [Aw];exact B
 obtain ⟨A,y,w⟩:=Ay.1 g;have v:∀z∈l.take i,yx z c:=λz f=>by obtain ⟨j,d⟩:=Ai f;have h:=(Ab.1 d).1;rw [Ad] at h;rw [Aq (by omega)] at d;exact G j z (by omega) d
 have r:∀z∈l.drop i,yx c z:=λz f=>by
  obtain ⟨j,d⟩:=Ai f;rw [List.getElem?_drop] at d;have:=F (i+j) z (by omega) d;rcases qE c z with q|q|q
  ·exact q
  ·subst q;exact (E (Af d)).elim
  ·exact (this q).elim
 refine Ay.2 ⟨A,List.pairwise_cons.2 ⟨r,y⟩,λa o b m=>?_⟩;rcases List.mem_cons.1 m with rfl|m
 ·exact v a o
 ·exact w a o b m
theorem WK(l:List Cell)(i:Nat)(c:Cell)(h:i<=l.length)(hl:l.length<=1000000000) :
  @W.ap wv Cell (@W.ct wv Cell (l++[(0,0)]) 0 ((i+1:Nat):Int)) (@W.ap wv Cell (@W.ct wv Cell (l++[(0,0)]) (i:Int) (@W.mn wv (@W.mi wv ((l.length+1:Nat):Int) (i:Int)) (@W.mi wv ((l.length+1:Nat):Int) ((i+1:Nat):Int))))
   (@W.ct wv Cell (l++[(0,0)]) (@W.pl wv ((i+1:Nat):Int) (@W.mn wv (@W.mi wv ((l.length+1:Nat):Int) (i:Int)) (@W.mi wv ((l.length+1:Nat):Int) ((i+1:Nat):Int)))) (@W.mi wv ((l.length+1:Nat):Int) (@W.pl wv ((i+1:Nat):Int) (@W.mn wv (@W.mi wv ((l.length+1:Nat):Int) (i:Int)) (@W.mi wv ((l.length+1:Nat):Int) ((i+1:Nat):Int))))))) =
   (l++[(0,0)]).take (i+1)++l.drop i:=by
 have a:@W.mn wv (@W.mi wv ((l.length+1:Nat):Int) (i:Int)) (@W.mi wv ((l.length+1:Nat):Int) ((i+1:Nat):Int))=((l.length - i:Nat):Int):=by rw [bM,IX,IX];split<;>omega
 rw [a,BX,IX,CV,CV,Iq,Iq,Iq];have g:(((i+1:Nat):Int)+((l.length - i:Nat):Int)).toNat=l.length+1:=by omega
 rw [g,Ac,Ac,Ac];have f:(l++[((0,0):Cell)]).drop (l.length+1)=[]:=List.drop_eq_nil_of_le (by simp);have d:((l++[((0,0):Cell)]).drop i).take (l.length - i)=l.drop i:=by rw [List.drop_append_of_le_length h,Ao (by rw [Ar];omega),Au (by rw [Ar];omega)]
 rw [f,d];simp
theorem J8k(l:List Cell)(i:Nat)(c:Cell)(h:i<=l.length):((l++[(0,0)]).take (i+1)++l.drop i).set i c=KI l i c:=by
 unfold KI;have a:i<(l++[((0,0):Cell)]).length:=by simp;omega
 have e:(l++[((0,0):Cell)]).take (i+1)=l.take i++[(l++[((0,0):Cell)])[i]]:=by rw [List.take_succ_eq_append_getElem a,Ao h]
 have hl:(l.take i).length=i:=by rw [Ad];omega
 rw [e,List.append_assoc,List.set_append_right _ _ (by omega),hl,Nat.sub_self];rfl
theorem P9(l:List Cell)(ks:List Bool):(kp (l.zip ks)).length<=l.length:=by unfold kp;rw [Av];refine Nat.le_trans (Ax _ _) ?_;rw [Ak];omega
theorem oH(m:Mb)(l:List Cell):(BJ m l).1=true↔(kp (l.zip (BJ m l).2.2)).length=l.length:=by
 have key:∀k:List Cell,(BJ m k.reverse).1=true↔(kp (k.reverse.zip (BJ m k.reverse).2.2)).length=k.reverse.length:=by
  intro k
  induction k with
  | nil=>exact ⟨λ_=>rfl,λ_=>rfl⟩
  | cons x k d=>
   rw [List.reverse_cons];have a:=qm m k.reverse;have g:=P9 k.reverse (BJ m k.reverse).2.2;generalize k.reverse=l at *
   have f:(l++[x]).zip (BJ m (l++[x])).2.2=l.zip (BJ m l).2.2++[(x,!FI (BJ m l).2.1 x)]:=by rw [rC];show (l++[x]).zip ((BJ m l).2.2++[!FI (BJ m l).2.1 x])=_;rw [List.zip_append a.symm];rfl
   have h:(BJ m (l++[x])).1=((BJ m l).1&&!FI (BJ m l).2.1 x):=by rw [rC];rfl
   rw [f,J7o,h,Bool.and_eq_true,d,Ah];cases FI (BJ m l).2.1 x with
   | false=>simp
   | true=>simp;omega
 have:=key l.reverse;rwa [Az] at this
theorem OP(role:Int)(l:List (Cell×Bool))(h:∀p∈l,p.2=true)(a:l≠[]):Ca role l=([(role,(false,[]))],l.map (·.1),true):=by
 have key:∀k:List (Cell×Bool),(∀p∈k.reverse,p.2=true)->Ca role k.reverse=if k=[] then ([],[],false) else ([(role,(false,[]))],k.reverse.map (·.1),true):=by
  intro k
  induction k with
  | nil=>exact λ_=>rfl
  | cons x k f=>
   intro h;rw [List.reverse_cons] at h ⊢;have hx:=h x (Am.2 (.inr (List.mem_singleton.2 rfl)));obtain ⟨c,b⟩:=x;have hx:b=true:=hx;subst hx;have ih':=f λp g=>h p (Am.2 (.inl g));rw [if_neg (show ¬((c,true)::k=[]) by simp),rE,ih'];by_cases d:k=[]
   ·rw [if_pos d,d];rfl
   ·rw [if_neg d,List.map_append];rfl
 have:=key l.reverse;rw [Az] at this;rw [this h,if_neg (by simpa using a)]
theorem dZ(l:List Cell)(ks:List Bool)(h:(kp (l.zip ks)).length=l.length):∀p∈l.zip ks,p.2=true:=by
 unfold kp at h;rw [Av] at h;have d:(l.zip ks).length<=l.length:=by rw [Ak];omega
 have a:=Ax (λp:Cell×Bool=>p.2) (l.zip ks);exact List.length_filter_eq_length_iff.1 (show ((l.zip ks).filter λp=>p.2).length=(l.zip ks).length by omega)
abbrev Sg:=HP Bool (HP Int (HP (List Cell) (HP Int (HP Int (HP (List Jt) (HP Int (HP Int (HP (List Cell) (HP Int (HP Bool (HP (List Cell) (HP (List Jt) (HP (List Jt) (HP (List Cell) Unit))))))))))))))
abbrev oU:=HP Int (HP (List Jt) (HP Int (HP Int (HP (List Cell) (HP Int (HP Bool (HP (List Cell) (HP (List Jt) (HP (List Jt) (HP (List Cell) Unit))))))))))
abbrev oQ:=HP Bool (HP Int (HP Int (HP (List Cell) (HP Int (HP Int (HP (List Jt) (HP Int (HP Int (HP (List Cell) (HP Int (HP Bool (HP (List Cell) (HP (List Jt) (HP Int (HP Int (HP (List Jt) (HP (List Cell) Unit)))))))))))))))))
abbrev zY:=HP Int (HP (List Cell) (HP Int (HP Int (HP (List Jt) (HP Int (HP Int (HP (List Cell) (HP Int (HP Bool (HP (List Cell) (HP (List Jt) (HP Int (HP Int (HP (List Jt) (HP (List Cell) Unit)))))))))))))))
theorem bH(pv:Bool)(kept:Int)(cells:List Cell)(n k:Int)(a:List Jt)(an ai:Int)(seen:List Cell)(role:Int)(cl:Bool)(out part:List Jt)(last:List Cell)(c:Cell)(i:Nat)(hi:i<=seen.length)(hs:seen.length<=1000000000) :
  @Jaj wv (⟨pv,kept,cells,n,k,a,an,ai,seen,role,cl,cells,out,part,last,()⟩:Sg) c (i:Int) =
   some (⟨pv,kept,(i:Int),cells,n,k,a,an,ai,(seen++[(0,0)]).take (i+1)++seen.drop i,role,cl,cells,part,c.1,c.2,out,last,()⟩:oQ):=by
 have hl:@W.ln wv Cell (@W.ap wv Cell seen ((0,0)::[]))=((seen.length+1:Nat):Int):=by rw [CV,AO,Ah];rfl
 have d:@W.ar wv .add .i64 (i:Int) 1=((i+1:Nat):Int):=by rw [J3,wr (by omega) (by omega)];omega
 have lt:∀ {s t:Int},s<=t->@W.le wv s t=true:=λh=>by rw [Tz];exact decide_eq_true h
 unfold Jaj;dsimp only;rw [hl,d,Cb (lt (by omega)),Cb (lt (by omega)),Cb (lt (by omega)),Cb (lt (by omega)),FQ ⟨by omega,by omega⟩,Cb (lt (by omega)),Cb (lt (by rw [IX];omega)),Cb (lt (by rw [BX,IX];omega)),Cb (lt (by omega)),Cb (lt (by rw [IX];omega)),Cb (lt (by rw [BX,IX];omega))];have:=WK seen i c hi hs;rw [show @W.ap wv Cell seen ((0,0)::[])=seen++[(0,0)] from rfl,this]
theorem bG(pv:Bool)(kept:Int)(i:Nat)(cells:List Cell)(n k:Int)(a:List Jt)(an ai:Int)(S:List Cell)(role:Int)(cl:Bool)(out part:List Jt)(last:List Cell)(c:Cell)(f:part.length<=1000000000)(g:0<=kept/\kept<=1000000000) :
  @Jal wv (⟨pv,kept,(i:Int),cells,n,k,a,an,ai,S,role,cl,cells,part,c.1,c.2,out,last,()⟩:oQ) =
   some (⟨kept+1,cells,n,k,a,an,ai,S.set i c,role,cl,cells,if pv=true then part else JO part last++[(role,(false,[]))],c.1,c.2,out,if pv=true then last else [],()⟩:zY):=by
 have d:@W.ar wv .add .i64 kept 1=kept+1:=by rw [J3,wr (by omega) (by omega)]
 unfold Jal;dsimp only;cases pv with
 | true=>rw [AU (by rfl),d,GN,Ac];rfl
 | false=>rw [BA (by rfl),AO,BX,sS (by omega) (by omega),d,GN,Ac];rfl
theorem Kao(cells:List Cell)(k:Nat)(hk:k<cells.length)(c:Cell)(H:cells[k]?=some c)(pv:Bool)(kept:Nat)(a:List Jt)(an ai:Int)(seen:List Cell)(role:Int)(cl:Bool)(out part:List Jt)(last:List Cell)(Z:cells.length<=100000000)
  (w:seen.Pairwise yx) (hs:seen.length<=900000000) (Q:part.length<=900000000) (R:last.length<=900000000) (X:kept<=k) (B:pv=true->part≠[]) :
  ∃seen',@K4 wv (⟨pv,(kept:Int),cells,(cells.length:Int),(k:Int),a,an,ai,seen,role,cl,cells,out,part,last,()⟩:Sg) =
    some (.go (⟨(bV role (part,last,pv) (c,!decide (c∈seen))).2.2,((kept+(if c∈seen then 0 else 1):Nat):Int),cells,(cells.length:Int),((k+1:Nat):Int),a,an,ai,seen',role,cl,cells,out,(bV role (part,last,pv) (c,!decide (c∈seen))).1,(bV role (part,last,pv) (c,!decide (c∈seen))).2.1,()⟩:Sg)) /\
   seen'.Pairwise yx/\seen'.length<=seen.length+1/\∀z,z∈seen'↔z=c\/z∈seen:=by
 obtain ⟨i,M,r,K,J⟩:=Oz seen c w (by omega);have G:@W.ar wv .add .i64 (k:Int) 1=((k+1:Nat):Int):=by rw [J3,wr (by omega) (by omega)];omega
 have g:c∈seen->i<seen.length/\seen[i]?=some c:=λd=>by
  obtain ⟨j,y⟩:=Ai d;have E:=(Ab.1 y).1;have Y:i<=j:=by apply Ap;intro q;exact au c (K j c (by omega) y)
  have e:j=i:=by apply Ap;intro q;have O:=Aa (l:=seen) (i:=i) (by omega);refine J i _ (Ba _) O ?_;obtain ⟨p,ep⟩:=Ab.1 y;have:=Ae.1 w i j (by omega) p (by omega);rwa [ep] at this
  subst e;exact ⟨E,y⟩
 by_cases d:c∈seen
 ·obtain ⟨o,F⟩:=g d;refine ⟨seen,?_,w,by omega,λz=>⟨.inr,λq=>q.elim (λe=>e▸d) id⟩⟩;unfold K4;dsimp only;rw [J5 (by omega),AP (fg H)];refine (BH (c:=Q2) M).trans ?_;rw [AO,J5 (by omega),FQ ⟨by omega,by omega⟩,AP (fg F),BA (by rw [LJ,Qn,Qn];simp),G,decide_eq_true d,if_pos d];rfl
 ·have m:∀(hb:Bool),∃P L,(P=if pv=true then part else JO part last++[(role,(false,[]))])/\(L=if pv=true then last else []):=λ_=>⟨_,_,rfl,rfl⟩;obtain ⟨P,L,eP,eL⟩:=m true;have hPl:P≠[]/\P.length<=900000001:=by
   rw [eP];cases pv with
   | true=>exact ⟨B rfl,by rw [if_pos rfl];omega⟩
   | false=>rw [if_neg (by decide)];exact ⟨by simp,by rw [Ah,wD];simp;omega⟩
  have hLl:L.length<=900000000:=by rw [eL];cases pv<;>simp<;>omega
  obtain ⟨P0,v,hPv⟩:∃P0 v,P=P0++[v]:=⟨_,_,(List.dropLast_concat_getLast hPl.1).symm⟩;have hPlen:P.length=P0.length+1:=by rw [hPv];simp
  have f:P[P0.length]?=some v:=by rw [hPv];exact iU P0 v
  have est:P.set P0.length v=P:=by rw [hPv,kg]
  have N:@W.ar wv .sub .i64 (((P0.length+1:Nat):Int)) 1=(P0.length:Int):=by rw [Xo,wr (by omega) (by omega)];omega
  have hSl:((seen++[((0,0):Cell)]).take (i+1)++seen.drop i).length=seen.length+1:=by simp;omega
  have hSg:=Aa (l:=(seen++[((0,0):Cell)]).take (i+1)++seen.drop i) (i:=i) (by omega);generalize ((seen++[((0,0):Cell)]).take (i+1)++seen.drop i)[i]=y0 at hSg;have eq1:(bV role (part,last,pv) (c,!decide (c∈seen)))=(P,L++[c],true):=by rw [decide_eq_false d,eP,eL];cases pv<;>rfl
  rw [eq1,if_neg d];refine ⟨KI seen i c,?_,WL w K J d,by rw [QW c r];exact Ba _,λz=>QV⟩;unfold K4;dsimp only;rw [J5 (by omega),AP (fg H)];refine (BH (c:=Q2) M).trans ?_;by_cases o:i<seen.length
  ·have hx:=Aa o;have h:seen[i]≠c:=λe=>d (e▸Af hx);generalize seen[i]=x at hx h;rw [AO,J5 (by omega),FQ ⟨by omega,by omega⟩,AP (fg hx),AU (by
    rw [LJ,Qn,Qn];cases A:(x.1==c.1&&x.2==c.2) with
    | false=>rfl
    | true=>
     rw [Bool.and_eq_true,beq_iff_eq,beq_iff_eq] at A;exact (h (Prod.ext A.1 A.2)).elim),BX,FH (by omega) (by omega)]
   refine (DW (bH pv kept cells _ _ a an ai seen role cl out part last c i r (by omega))).trans ?_;dsimp only;rw [AO,hSl,FQ ⟨by omega,by omega⟩,AP (fg hSg)];refine (DW (bG pv kept i cells _ _ a an ai _ role cl out part last c (by omega) ⟨by omega,by omega⟩)).trans ?_;rw [<-eP,<-eL,J8k seen i c r];dsimp only;rw [AO,hPlen,N,FQ ⟨by omega,by omega⟩,AP (fg f),BX,Cb (by rw [Qn];exact decide_eq_true (by omega)),AO,BX,FH (by omega) (by omega),FQ ⟨by omega,by omega⟩,AP (fg f),Cb (by rw [Qn];exact decide_eq_true (by omega)),G,GN,Ac,est];rfl
  ·rw [AO,Jr (by omega),BX,FH (by omega) (by omega)];refine (DW (bH pv kept cells _ _ a an ai seen role cl out part last c i r (by omega))).trans ?_;dsimp only;rw [AO,hSl,FQ ⟨by omega,by omega⟩,AP (fg hSg)];refine (DW (bG pv kept i cells _ _ a an ai _ role cl out part last c (by omega) ⟨by omega,by omega⟩)).trans ?_;rw [<-eP,<-eL,J8k seen i c r];dsimp only;rw [AO,hPlen,N,FQ ⟨by omega,by omega⟩,AP (fg f),BX,Cb (by rw [Qn];exact decide_eq_true (by omega)),AO,BX,FH (by omega) (by omega),FQ ⟨by omega,by omega⟩,AP (fg f),Cb (by rw [Qn];exact decide_eq_true (by omega)),G,GN,Ac,est];rfl
theorem RD{l:List Cell}(h:l.Pairwise yx)(d:∀z∈l,grid z):l.length<=67108864:=by
 have r:(l.map λz:Cell=>(z.1+4096).toNat+8192 * (z.2+4096).toNat).Nodup:=List.pairwise_map.2 ((List.Pairwise.and_mem.1 h).imp λ{a b} ⟨o,m,f⟩ e=>by have w:=d a o;have v:=d b m;unfold grid at w v;unfold yx at f;omega)
 have:=wE (n:=67108864) r λx hx=>by obtain ⟨z,g,rfl⟩:=List.mem_map.1 hx;have:=d z g;unfold grid at this;omega
 rwa [Av] at this
structure oO (seen:List Cell) (m:Mb):Prop where
 pw:seen.Pairwise yx
 mem:∀z,z∈seen↔FI m z=true
 gr:∀z∈seen,grid z
theorem Jtk(cells:List Cell)(y:cells.length<=100000000)(N:∀c∈cells,grid c)(a:List Jt)(an ai:Int)(seen:List Cell)(m:Mb)(hs:oO seen m)(role:Int)(cl:Bool)(out:List Jt) :
  ∃seen',X0 (@K4 wv) CU (⟨false,0,cells,(cells.length:Int),0,a,an,ai,seen,role,cl,cells,out,[],[],()⟩:Sg) =
    some (⟨(((kp (cells.zip (BJ m cells).2.2)).length:Nat):Int),a,an,ai,seen',role,cl,cells,(Ca role (cells.zip (BJ m cells).2.2)).1,out,(Ca role (cells.zip (BJ m cells).2.2)).2.1,()⟩:oU)/\oO seen' (BJ m cells).2.1:=by
 obtain ⟨e,O,seen',rfl,h⟩:=Xr (b:=@K4 wv)
  (λk s=>∃seen',s=(⟨(Ca role ((cells.take k).zip (BJ m (cells.take k)).2.2)).2.2,(((kp ((cells.take k).zip (BJ m (cells.take k)).2.2)).length:Nat):Int),cells,(cells.length:Int),(k:Int),a,an,ai,seen',role,cl,cells,out,(Ca role ((cells.take k).zip (BJ m (cells.take k)).2.2)).1,(Ca role ((cells.take k).zip (BJ m (cells.take k)).2.2)).2.1,()⟩:Sg)/\oO seen' (BJ m (cells.take k)).2.1)
  (λe=>∃seen',e=(⟨(((kp (cells.zip (BJ m cells).2.2)).length:Nat):Int),a,an,ai,seen',role,cl,cells,(Ca role (cells.zip (BJ m cells).2.2)).1,out,(Ca role (cells.zip (BJ m cells).2.2)).2.1,()⟩:oU)/\oO seen' (BJ m cells).2.1)
  cells.length (by omega) (s0:=⟨false,0,cells,(cells.length:Int),0,a,an,ai,seen,role,cl,cells,out,[],[],()⟩) ⟨seen,rfl,hs⟩ (λk s v=>by
   rintro ⟨sn,rfl,d⟩;have A:=Aa v;have l:=List.getElem_mem v;generalize cells[k]=c at A l;have E:=Ka A;have g:=qm m (cells.take k);have H:(cells.take (k+1)).zip (BJ m (cells.take (k+1))).2.2=(cells.take k).zip (BJ m (cells.take k)).2.2++[(c,!FI (BJ m (cells.take k)).2.1 c)]:=by rw [E,rC];show (cells.take k++[c]).zip ((BJ m (cells.take k)).2.2++[!FI (BJ m (cells.take k)).2.1 c])=_;rw [List.zip_append g.symm];rfl
   have J:(BJ m (cells.take (k+1))).2.1=FK (BJ m (cells.take k)).2.1 c:=by rw [E,rC];rfl
   obtain ⟨-,v2,v3,v4⟩:=qj role ((cells.take k).zip (BJ m (cells.take k)).2.2);have L:(cells.take k).length=k:=by rw [Ad];omega
   have K:=P9 (cells.take k) (BJ m (cells.take k)).2.2;rw [Ak] at v3 v4;have M:=RD d.pw d.gr;obtain ⟨sn',G,F,Q,B⟩:=Kao cells k v c A (Ca role ((cells.take k).zip (BJ m (cells.take k)).2.2)).2.2 (kp ((cells.take k).zip (BJ m (cells.take k)).2.2)).length a an ai sn role cl out (Ca role ((cells.take k).zip (BJ m (cells.take k)).2.2)).1 (Ca role ((cells.take k).zip (BJ m (cells.take k)).2.2)).2.1 y d.pw (by omega) (by omega) (by omega) (by omega) v2;have o:(!decide (c∈sn))=!FI (BJ m (cells.take k)).2.1 c:=by
    cases f:FI (BJ m (cells.take k)).2.1 c with
    | true=>rw [decide_eq_true ((d.mem c).2 f)]
    | false=>rw [decide_eq_false λq=>by rw [(d.mem c).1 q] at f;cases f]
   refine ⟨_,G,sn',?_,F,λz=>?_,λz r=>?_⟩
   ·rw [H,rE,J7o,o];have P:(if (!FI (BJ m (cells.take k)).2.1 c)=true then kp ((cells.take k).zip (BJ m (cells.take k)).2.2)++[c] else kp ((cells.take k).zip (BJ m (cells.take k)).2.2)).length=(kp ((cells.take k).zip (BJ m (cells.take k)).2.2)).length+(if c∈sn then 0 else 1):=by
     cases f:FI (BJ m (cells.take k)).2.1 c with
     | true=>rw [if_neg (by decide),if_pos ((d.mem c).2 f)];rfl
     | false=>
      have w:c∉sn:=λq=>by rw [(d.mem c).1 q] at f;cases f
      rw [if_pos (by decide),if_neg w,Ah];rfl
    rw [P]
   ·rw [J,OO,Bool.or_eq_true,decide_eq_true_eq,B,d.mem]
   ·rcases (B z).1 r with rfl|q
    ·exact N _ l
    ·exact d.gr z q) (by rintro s ⟨sn,rfl,d⟩;rw [Aj] at d;refine ⟨_,?_,sn,rfl,d⟩;unfold K4;dsimp only;rw [Jr (by omega),Aj])
 exact ⟨seen',O,h⟩
abbrev oV:=HP (List Jt) (HP Int (HP Int (HP (List Cell) (HP (List Jt) Unit))))
theorem J2y(l:List Jt)(hl:DN l<=100000000000)(M:∀t∈l,VT t):@zy wv l=some (Ma l):=by
 classical
 have N:=Jw5 l;obtain ⟨e,Q,rfl⟩:=Xr (b:=@Ze wv)
  (λi s=>∃seen,s=(⟨l,(l.length:Int),(i:Int),seen,((l.take i).foldl Fw ([],[])).1,()⟩:oV)/\oO seen ((l.take i).foldl Fw ([],[])).2)
  (λe=>e=(⟨Ma l,()⟩:HP (List Jt) Unit))
  l.length (by omega) (s0:=⟨l,(l.length:Int),0,[],[],()⟩) ⟨[],rfl,.nil,λz=>⟨λh=>(As h).elim,λh=>by cases h⟩,λz h=>(As h).elim⟩ (λi s hi=>by
   rintro ⟨seen,rfl,hs⟩;have hx:=Aa hi;have f:=List.getElem_mem hi;generalize l[i]=t at hx f;have a:=M t f;rw [Ka hx,List.foldl_append];have d:=Jru (l.take i);have v:=Jsm l (i+1);rw [Ka hx,Jx6] at v;generalize (l.take i).foldl Fw ([],[])=st at d hs ⊢;obtain ⟨out,m⟩:=st;obtain ⟨role,cl,cells⟩:=t;have d:out.length<=DN (l.take i):=d;have v:DN (l.take i)+(cells.length+1)<=DN l:=v;have R:cells.length<=65536:=a.2.1.2;have Y:1<=cells.length:=a.2.1.1;have es:List.foldl Fw (out,m) [(role,(cl,cells))]=Fw (out,m) (role,(cl,cells)):=rfl;rw [es];obtain ⟨sn,K,J⟩:=Jtk cells (by omega) (λc Z=>by obtain ⟨j,H⟩:=Ai Z;exact (a.2.2.1 j (Ab.1 H).1 c H).1) l (l.length:Int) (i:Int) seen m hs role cl out
   have e3:@W.ar wv .add .i64 (i:Int) 1=((i+1:Nat):Int):=by rw [J3,wr (by omega) (by omega)];omega
   have O:=qm m cells;have P:=P9 cells (BJ m cells).2.2;have w:=Jmj role (cells.zip (BJ m cells).2.2);rw [Ak] at w;have E:(JO (Ca role (cells.zip (BJ m cells).2.2)).1 (Ca role (cells.zip (BJ m cells).2.2)).2.1)=Te role (cells.zip (BJ m cells).2.2):=rfl;have g:Fw (out,m) (role,(cl,cells))=(out++(if (BJ m cells).1=true then [(role,(cl,cells))] else Te role (cells.zip (BJ m cells).2.2)),(BJ m cells).2.1):=by unfold Fw;rw [if_pos a]
   rw [g];refine ⟨(⟨l,(l.length:Int),((i+1:Nat):Int),sn,out++(if (BJ m cells).1=true then [(role,(cl,cells))] else Te role (cells.zip (BJ m cells).2.2)),()⟩:oV),?_,sn,rfl,J⟩;unfold Ze;dsimp only;rw [J5 (by omega),AP (fg hx)];refine (BH (c:=Yi) (XH a)).trans ?_;rw [BA rfl,AO];refine (BL K).trans ?_;dsimp only;have L:∀(X:List Jt),@W.ml wv Jt X (λy=>(y.1,(y.2.1,(Ca role (cells.zip (BJ m cells).2.2)).2.1)))=JO X (Ca role (cells.zip (BJ m cells).2.2)).2.1:=λX=>rfl;rw [L,E,AO,e3];by_cases r:(BJ m cells).1=true
   ·have F:=(oH m cells).1 r;have A:Te role (cells.zip (BJ m cells).2.2)=[(role,(false,cells))]:=by
     have o:=dZ cells _ F;have B:cells.zip (BJ m cells).2.2≠[]:=λe=>by
      have G:(cells.zip (BJ m cells).2.2).length=cells.length:=by rw [Ak];omega
      rw [e] at G;have G:0=cells.length:=G;omega
     unfold Te;rw [OP role _ o B];dsimp only;rw [List.map_fst_zip (by omega)];rfl
    rw [BA (by rw [Qn,F];exact beq_self_eq_true _),A,if_pos r,Cb (show @W.ib wv 0 (@W.ln wv Jt [(role,(false,cells))])=true from rfl),AP (NQ (show ([(role,(false,cells))]:List Jt)[0]?=some (role,(false,cells)) from rfl)),AO,AO,BX,GN,WU (by simp;omega) (by simp;omega) (by decide),CV];rfl
   ·have F:(kp (cells.zip (BJ m cells).2.2)).length≠cells.length:=λq=>r ((oH m cells).2 q);rw [AU (by rw [Qn];exact beq_eq_false_iff_ne.2 (by omega)),if_neg r,AO,AO,BX,WU (by omega) (by omega) (by decide),CV]) (by rintro s ⟨seen,rfl,hs⟩;refine ⟨_,?_,rfl⟩;unfold Ze;dsimp only;rw [Jr (by omega),Aj];rfl)
 unfold zy;rw [AO];exact (BL Q).trans rfl
def C8:List Run->List Int
 | []=>[]
 | u::r=>u.1::u.2::C8 r
theorem qb:∀a:List Run,(C8 a).length=2 * a.length
 | []=>rfl
 | u::r=>by have:=qb r;show (C8 r).length+1+1=2 * (r.length+1);omega
theorem vI:∀(a:List Run) (j:Nat) (u:Run),a[j]?=some u->(C8 a)[2 * j]?=some u.1/\(C8 a)[2 * j+1]?=some u.2
 | [],j,u,h=>by cases h
 | x::a,0,u,h=>by
  have:x=u:=by simpa using h
  subst this;exact ⟨rfl,rfl⟩
 | x::a,j+1,u,h=>by
  have h:a[j]?=some u:=by simpa using h
  have:=vI a j u h;exact ⟨this.1,this.2⟩
theorem Jyw:∀(a:List Run) (u:Run),C8 (a++[u])=C8 a++[u.1,u.2]
 | [],u=>rfl
 | x::a,u=>by show x.1::x.2::C8 (a++[u])=_;rw [Jyw a u];rfl
theorem J4r{a:List Run}{lo hi:Int}(h:AJ lo hi a){i:Nat}{p q:Int}(r:(C8 a)[i]?=some p)(l:(C8 a)[i+1]?=some q):p<q:=by
 have hl:=qb a;have A:=(Ab.1 l).1;have w:i / 2<a.length:=by omega
 have hx:=Aa w;generalize a[i / 2]=u at hx;obtain ⟨m,g⟩:=vI a _ u hx;by_cases e:i % 2=0
 ·rw [show 2 * (i / 2)=i by omega] at m g;rw [r] at m;rw [l] at g;cases m;cases g;exact (h.bd u (Af hx)).2.1
 ·have f:i / 2+1<a.length:=by omega
  have o:=Aa f;have d:=Ae.1 h.pw (i / 2) (i / 2+1) w f (by omega);rw [(Ab.1 hx).2] at d;generalize a[i / 2+1]=v at o d;obtain ⟨y,-⟩:=vI a _ v o;rw [show 2 * (i / 2)+1=i by omega,r] at g;rw [show 2 * (i / 2+1)=i+1 by omega,l] at y;cases g;cases y;exact d
theorem SC(a:List Run)(h:AJ (-4096) 4096 a)(hl:a.length<=100000):@jg wv (a,[])=some (C8 a):=by
 have y:=qb a;have w:=Ki (b:=@Yb wv) (e:=(⟨[],C8 a,()⟩:HP (List Run) (HP (List Int) Unit))) (λi=>(⟨a,[],(i:Int),C8 (a.take i),()⟩:HP (List Run) (HP (List Run) (HP Int (HP (List Int) Unit))))) a.length (by omega) (λi hi=>by
  have hx:=Aa hi;generalize a[i]=u at hx;have A:=qb (a.take i);rw [Ad] at A;have m:@W.ar wv .add .i64 (i:Int) 1=((i+1:Nat):Int):=by rw [J3,wr (by omega) (by omega)];omega
  unfold Yb;dsimp only;rw [AO,J5 (by omega),AP (fg hx),AP (fg hx),AO,BX,Ei (by omega) (by omega) (by decide),m,CV,Ka hx,Jyw]) (by unfold Yb;dsimp only;rw [AO,Jr (by omega),Aj])
 have v:X0 (@zg wv) CU (⟨[],0,C8 a,()⟩:HP (List Run) (HP Int (HP (List Int) Unit)))=some (⟨C8 a,()⟩:HP (List Int) Unit):=
  Ki (λ_=>(⟨[],0,C8 a,()⟩:HP (List Run) (HP Int (HP (List Int) Unit)))) 0 (by omega) (λi hi=>by omega) (by unfold zg;dsimp only;rw [AO,Jr (by decide)])
 have r:=Ki (b:=@X7 wv) (e:=(⟨C8 a,()⟩:HP (List Int) Unit)) (λi=>(⟨((i+1:Nat):Int),C8 a,()⟩:HP Int (HP (List Int) Unit))) ((C8 a).length - 1) (by omega) (λi hi=>by
  have g:=Aa (l:=C8 a) (i:=i) (by omega);have f:=Aa (l:=C8 a) (i:=i+1) (by omega);have d:=J4r h g f;generalize (C8 a)[i]=p at g d;generalize (C8 a)[i+1]=q at f d;have m:@W.ar wv .add .i64 ((i+1:Nat):Int) 1=((i+1+1:Nat):Int):=by rw [J3,wr (by omega) (by omega)];omega
  have B:@W.ar wv .sub .i64 ((i+1:Nat):Int) 1=(i:Int):=by rw [Xo,wr (by omega) (by omega)];omega
  have o:X0 (@zf wv) CU (⟨((i+1:Nat):Int),((i+1:Nat):Int),C8 a,()⟩:HP Int (HP Int (HP (List Int) Unit)))=some (⟨((i+1:Nat):Int),C8 a,()⟩:HP Int (HP (List Int) Unit)):=
   Ki (λ_=>(⟨((i+1:Nat):Int),((i+1:Nat):Int),C8 a,()⟩:HP Int (HP Int (HP (List Int) Unit)))) 0 (by omega) (λi hi=>by omega) (by unfold zf;dsimp only;rw [BA (by rw [z7];exact decide_eq_true (by omega)),AO,FQ ⟨by omega,by omega⟩,AP (fg f),B,FQ ⟨by omega,by omega⟩,AP (fg g),Jr (by omega)])
  unfold X7;dsimp only;rw [AO,J5 (by omega)];refine (BL o).trans ?_;dsimp only;rw [m]) (by unfold X7;dsimp only;rw [AO,Jr (by omega)])
 unfold jg;dsimp only;refine (BL w).trans ((BL v).trans ((BL r).trans rfl))
abbrev tF:=HP Int (HP (List Run) (HP (List Run) (HP (List Int) (HP Int (HP (List Run) Unit)))))
theorem Jzx(a:List Run)(h:AJ (-4096) 4096 a):@Yp wv (2,(a,[]))=some a:=by
 classical
 have hl:=Xv h;have M:=qb a;have m:∀x:Bool,@Jb4 wv (2,(x,false))=some x:=λx=>by cases x<;>rfl
 have L:=Ki (b:=@Qb wv) (e:=(⟨a,()⟩:HP (List Run) Unit)) (λi=>(⟨2,a,[],C8 a,(i:Int),a.take ((i+1) / 2),()⟩:tF)) ((C8 a).length - 1) (by omega) (λi hi=>by
  have d:=Aa (l:=C8 a) (i:=i) (by omega);have o:=Aa (l:=C8 a) (i:=i+1) (by omega);have g:=J4r h d o;generalize (C8 a)[i]=p at d g;generalize (C8 a)[i+1]=q at o g;have E:@W.ar wv .add .i64 (i:Int) 1=((i+1:Nat):Int):=by rw [J3,wr (by omega) (by omega)];omega
  have G:i / 2<a.length:=by omega
  have hx:=Aa G;generalize a[i / 2]=u at hx;have f:=Af hx;have J:=h.bd u f;obtain ⟨B,y⟩:=vI a _ u hx;have w:@Xu wv ([],p)=some false:=(Jrr [] p (by simp)).trans (by rw [decide_eq_false];rintro ⟨v,H,_⟩;exact (As H).elim);unfold Qb;dsimp only;rw [E,AO,J5 (by omega),AP (fg d),AP (fg o),AU (by rw [Qn];exact beq_eq_false_iff_ne.2 (by omega)),AP (fg d)];refine (BH (c:=Jz) (Jrr a p (by omega))).trans ?_;rw [AP (fg d)];refine (BH (c:=Jz) w).trans ((BH (c:=Y6) (m _)).trans ?_);by_cases e:i % 2=0
  ·rw [show 2 * (i / 2)=i by omega] at B y;rw [d] at B;rw [o] at y;cases B;cases y;have ei:(i+1) / 2=i / 2:=by omega
   have ei2:(i+1+1) / 2=i / 2+1:=by omega
   rw [ei,ei2,Ka hx,AU (by rw [decide_eq_true ⟨u,f,Int.le_refl _,g⟩];rfl),AO];have K:(a.take (i / 2)).length=i / 2:=by rw [Ad];omega
   by_cases O:i / 2=0
   ·rw [AU (by rw [z7];exact decide_eq_false (by omega)),AP (fg d),AP (fg o),BX,FH (by omega) (by omega),CV]
   ·have F:=Aa (l:=a) (i:=i / 2 - 1) (by omega);have r:=Ae.1 h.pw (i / 2 - 1) (i / 2) (by omega) G (by omega);rw [(Ab.1 hx).2] at r;generalize a[i / 2 - 1]=v at F r;have A:(a.take (i / 2))[i / 2 - 1]?=some v:=by rw [Aq (by omega)];exact F
    have N:@W.ar wv .sub .i64 (((a.take (i / 2)).length:Nat):Int) 1=((i / 2 - 1:Nat):Int):=by rw [Xo,wr (by omega) (by omega)];omega
    rw [BA (by rw [z7];exact decide_eq_true (by omega)),N,FQ ⟨by omega,by omega⟩,AP (fg A),AP (fg d),AU (by rw [Qn];exact beq_eq_false_iff_ne.2 (by omega)),AP (fg d),AP (fg o),BX,FH (by omega) (by omega),CV]
  ·rw [show 2 * (i / 2)+1=i by omega,d] at y;cases y;rw [decide_eq_false (h.right f),BA (by rfl),show (i+1+1) / 2=(i+1) / 2 by omega]) (by
  have E:@W.ar wv .add .i64 (((C8 a).length - 1:Nat):Int) 1=(((C8 a).length - 1+1:Nat):Int):=by rw [J3,wr (by omega) (by omega)];omega
  unfold Qb;dsimp only;rw [E,AO,Jr (by omega),Au (by omega)])
 unfold Yp;dsimp only;refine (BH (c:=Xx) (SC a h (by omega))).trans ((BL (show X0 (@Qb wv) CU (⟨2,a,[],C8 a,0,[],()⟩:tF)=_ from L)).trans rfl)
abbrev IL:=HP Int (HP Int (HP Int (HP AY (HP AY (HP AY Unit)))))
theorem Jpr(r:AY)(h:AL r):@Yy wv (r,[])=some r:=by
 classical
 have hl:=Tg h;have y:=Ki (b:=@Qe wv) (e:=(⟨r,()⟩:HP AY Unit)) (λi=>(⟨2,(i:Int),0,r,[],r.take i,()⟩:IL)) r.length (by omega) (λi hi=>by
  have hx:=Aa hi;generalize r[i]=w at hx;have a:=Af hx;have v:=List.length_pos_iff.2 (h.ne w a);have A:@W.ar wv .add .i64 (i:Int) 1=((i+1:Nat):Int):=by rw [J3,wr (by omega) (by omega)];omega
  have o:(r.take i).length=i:=by rw [Ad];omega
  have d:@Qd wv (⟨2,(i:Int),0,r,[],r.take i,()⟩:IL)=some (.inl (⟨2,(i:Int),0,r,[],r.take i,()⟩:IL)):=by unfold Qd;dsimp only;rw [AO,J5 (by omega)]
  have l:@jc wv (⟨2,(i:Int),0,r,[],r.take i,()⟩:IL) (⟨2,(i:Int),0,r,[],r.take i,()⟩:IL)=some ⟨2,(i:Int),0,w.1,r,[],r.take i,()⟩:=by unfold jc;refine (DW (show @Jbh wv (⟨2,(i:Int),0,r,[],r.take i,()⟩:IL) (⟨2,(i:Int),0,r,[],r.take i,()⟩:IL)=some ⟨2,(i:Int),0,true,r,[],r.take i,()⟩ from rfl)).trans ?_;dsimp only;rw [BA rfl,AP (fg hx)]
  have g:@je wv (⟨2,(i:Int),0,r,[],r.take i,()⟩:IL) ⟨2,(i:Int),0,w.1,r,[],r.take i,()⟩=some ⟨2,((i+1:Nat):Int),0,w.1,w.2,r,[],r.take i,()⟩:=by unfold je;dsimp only;rw [AO,J5 (by omega),AP (fg hx),BA (by rw [Qn];exact beq_self_eq_true _),AP (fg hx),A]
  unfold Qe;refine (DW d).trans ?_;dsimp only;refine (DW l).trans ((DW g).trans ((DW (show @Jbi wv (⟨2,(i:Int),0,r,[],r.take i,()⟩:IL) ⟨2,((i+1:Nat):Int),0,w.1,w.2,r,[],r.take i,()⟩=some ⟨2,((i+1:Nat):Int),0,w.1,w.2,[],r,[],r.take i,()⟩ from rfl)).trans ?_));dsimp only;refine (BH (c:=Q5) (Jzx w.2 (h.rs w a))).trans ?_;rw [AO,BA (by rw [z7];exact decide_eq_true (by omega)),AO,o,BX,jG (by omega) (by omega),CV,Ka hx]) (by
  unfold Qe;have d:@Qd wv (⟨2,(r.length:Int),0,r,[],r.take r.length,()⟩:IL)=some (.inr (⟨r,()⟩:HP AY Unit)):=by unfold Qd;dsimp only;rw [AO,Jr (by omega),AO,Jr (by decide),Aj]
  exact (DW d).trans rfl)
 have f:∀ {x:AY},AL x->@Qa wv x=some (decide (AL x)):=λ{x} hx=>xJ x ⟨by have:=Tg hx;omega,λw m=>by have:=Xv (hx.rs w m);omega⟩;unfold Yy;dsimp only;refine (BH (c:=Jd) (f h)).trans ?_;rw [AU (by simp [h,BQ])];refine (BH (c:=Jd) (f PV)).trans ?_;rw [AU (by simp [PV,BQ])];exact (BL (show X0 (@Qe wv) CU (⟨2,0,0,r,[],[],()⟩:IL)=_ from y)).trans rfl
abbrev oP:=HP Int (HP Int (HP AY (HP (List Jt) Unit)))
open Classical in
theorem Jz2(r:AY)(n:Int)(hl:KN r)(d:AL r->(K8 r).length<=2000)(B:-9223372036854775808<=n/\n<=9223372036854775807):@j9 wv (r,n)=some (if AL r then (Ma (GJ r (min (max n 0) 64).toNat),ET r (min (max n 0) 64).toNat) else ([],[])):=by
 unfold j9;dsimp only;refine (BH (c:=Jd) (xJ r hl)).trans ?_;by_cases h:AL r
 case neg=>rw [BA (by simp [h,BQ]),if_neg h]
 have d:=d h;rw [AU (by simp [h,BQ]),if_pos h];obtain ⟨N,hN⟩:∃N,N=(min (max n 0) 64).toNat:=⟨_,rfl⟩;rw [<-hN];have v:=Ki (b:=@Q8 wv) (e:=(⟨ET r N,GJ r N,()⟩:HP AY (HP (List Jt) Unit))) (λi=>(⟨n,(i:Int),ET r i,GJ r i,()⟩:oP)) N (by omega) (λi hi=>by
  obtain ⟨a,H⟩:=kW h i;obtain ⟨G,F⟩:=Jsi a (by omega);obtain ⟨w1,f⟩:=ah h d i;have:i * 8000<=64 * 8000:=Ag _ (by omega);obtain ⟨E,o,m,l⟩:=Jyv (ET r i) a 1 (by decide);have eE:E=GA (ET r i):=vB m (YJ a).2.1 λc=>(l c).trans ((YJ a).2.2 c).symm;subst eE;have g:=J08 (ET r i) (Sw a) λ_=>by omega
  rw [if_pos a] at g;unfold Q8;dsimp only;rw [J5 (by omega),J5 (by omega)];refine (BH (c:=Y5) g).trans ?_;rw [show (X4 (ET r i)).map (KS (ET r i))=KR (ET r i) from rfl,AO,AO,BX,sS (by omega) (by omega)];refine (BH (c:=Yd) o).trans ?_;rw [J3,wr (by omega) (by omega),CV];rfl) (by
  unfold Q8;dsimp only;by_cases q:(N:Int)<n
  ·rw [J5 q,Jr (by omega)]
  ·rw [Jr q])
 refine (BL (show X0 (@Q8 wv) CU (⟨n,0,r,[],()⟩:oP)=_ from v)).trans ?_;obtain ⟨w1,f⟩:=ah h d N;have A:=J1c λt q=>(f t q).1;have y:N * 8000<=64 * 8000:=Ag _ (by omega);have w:(GJ r N).length * 65537<=512000 * 65537:=Ag _ (by omega);refine (BH (c:=Y3) (J2y (GJ r N) (by omega) λt q=>(f t q).1)).trans ?_;exact (BH (c:=Qz) (Jpr _ (kW h N).1)).trans rfl
theorem J20{r:AY}(h:AL r)(d:(K8 r).length<=2000)(N:Nat)(hN:N<=64):(Ma (GJ r N)).length<=100000000000/\∀t∈Ma (GJ r N),t.2.2.length<=1000000000:=by obtain ⟨o,a⟩:=ah h d N;have m:=J1c λt q=>(a t q).1;have g:N * 8000<=64 * 8000:=Ag _ (by omega);have f:(GJ r N).length * 65537<=512000 * 65537:=Ag _ (by omega);exact ⟨Nat.le_trans (Jru _) (by omega),O8 (n:=1000000000) (l:=GJ r N) λt q=>by have:=(a t q).1.2.1.2;omega⟩
theorem Jw1(r:AY)(n:Int)(hr:∀w∈r,w.2.length<=9223372036854775807)(g:-9223372036854775808<=n/\n<=9223372036854775807):@Kz wv (r,n)=some true:=by
 classical
 obtain ⟨b,m,f⟩:=RB r hr;unfold Kz;dsimp only;refine (BH (c:=Ye) m).trans ?_;cases b with
 | true=>rw [BA rfl,Jsq]
 | false=>
  obtain ⟨hl,l⟩:=f rfl;have a:AL r->(K8 r).length<=2000:=λq=>by have:=l q;omega
  rw [AU rfl];refine (BH (c:=Qg) (J7w r n hl a)).trans ((BH (c:=Yh) (Jz2 r n hl a g)).trans ?_);by_cases h:AL r
  ·rw [if_pos h];have hN:(min (max n 0) 64).toNat<=64:=by omega
   generalize (min (max n 0) 64).toNat=N at hN ⊢;have d:=J20 h (a h) N hN;refine (BH (c:=Qh) (Jpj _ d.1 d.2)).trans ?_;rw [BA rfl];refine (BH (c:=Kx) (J0h _ (Sw (kW h N).1))).trans ?_;rw [BA rfl,Jsq]
  ·rw [if_neg h];refine (BH (c:=Qh) (Jpj [] (by simp) (by simp))).trans ?_;rw [BA rfl];refine (BH (c:=Kx) (J0h [] ⟨by simp,by simp⟩)).trans ?_;rw [BA rfl,Jsq]
end Go.Proofs.YtmfagdfkpjgeiaaGreat
