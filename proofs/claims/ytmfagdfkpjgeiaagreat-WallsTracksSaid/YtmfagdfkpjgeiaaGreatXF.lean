/- The region of cells: what the program's text says. Conditions: at most 10^9 cells. -/
import Derived.Test.YtmfagdfkpjgeiaaGreatXD
import Derived.Test.YtmfagdfkpjgeiaaGreatXE
set_option linter.unusedVariables false
set_option linter.unusedSimpArgs false
set_option linter.unusedSectionVars false
set_option maxRecDepth 100000
namespace Go.Proofs.YtmfagdfkpjgeiaaGreat
open Go Go.Vv Go.Dn Go.Dn.W
open List renaming mem_singleton -> Aa, mem_append -> Ab, getElem?_eq_getElem -> Ac, getElem?_eq_some_iff -> Ad, mem_of_getElem? -> Ae, pairwise_append -> Af, take_length -> Ah, not_mem_nil -> Ai, mem_filterMap -> Aj, mem_of_find?_eq_some -> Am, getElem?_take_of_lt -> Ao, length_take -> Ap, pairwise_singleton -> Aq, mem_iff_getElem? -> Ar, getElem?_eq_none -> As, mem_cons_of_mem -> Au, getElem?_of_mem -> Av, length_pos_iff -> Aw, mem_map -> Ax
open Nat renaming le_refl -> Ag
open Int renaming le_refl -> Ak
theorem Jyh{α:Type}{a b:Int}(k:Int->Option α):@W.call wv α bE ((a,b):Int×Int) k=k (JB a b):=BH (c:=bE) (J5m a b)
theorem half(i j:Nat)(a:i+j<=4000000000):@W.cv wv .i64 (@W.sh wv .shr .u64 (@W.cv wv .u64 (IntKind.wrap .i64 ((i:Int)+(j:Int)))) 1)=(((i+j) / 2:Nat):Int):=by
 rw [wr (by omega) (by omega)];have f:@W.cv wv .u64 ((i:Int)+(j:Int))=((i+j:Nat):Int):=by show IntKind.wrap .u64 _=_;rw [IntKind.wrap_u64,Int.emod_eq_of_lt (by omega) (by omega)];omega
 rw [f];have d:@W.sh wv .shr .u64 ((i+j:Nat):Int) 1=(((i+j) / 2:Nat):Int):=by
  show Int.fdiv ((i+j:Nat):Int) (2 ^ (min (1:Int).toNat (IntKind.bits .u64)))=_;have:(2:Int) ^ (min (1:Int).toNat (IntKind.bits .u64))=2:=by rfl
  rw [this,Int.fdiv_eq_ediv_of_nonneg _ (by omega)];omega
 rw [d];exact wr (by omega) (by omega)
theorem J9p{a b:Int}:JB a b<0↔a<b:=by unfold JB;(repeat' split)<;>omega
theorem J8y{a b:Int}:JB a b=0↔a=b:=by unfold JB;(repeat' split)<;>omega
theorem Ju3(r:AY)(y:Int)(hl:DF r)(h:AL r):@xD wv (r,y)=some (JN r y):=by
 have hL:=hl.1;have mono:∀(i j:Nat) (a b:Row),i<j->r[i]?=some a->r[j]?=some b->a.1<b.1:=λi j a b E Z Y=>by obtain ⟨P,e1⟩:=Ad.1 Z;obtain ⟨O,L⟩:=Ad.1 Y;have:=List.pairwise_iff_getElem.1 h.pw i j P O E;rwa [e1,L] at this
 obtain ⟨e,X,k,rfl,hk,o,A⟩:=iW (b:=@Jfd wv) (s0:=⟨r,y,(r.length:Int),0,(r.length:Int),r,()⟩)
  (λs=>∃i j:Nat,s=⟨r,y,(r.length:Int),(i:Int),(j:Int),r,()⟩/\i<=j/\j<=r.length/\(∀m w,m<i->r[m]?=some w->w.1<y)/\∀m w,j<=m->r[m]?=some w->y<=w.1)
  (λe=>∃k:Nat,e=⟨r,y,(r.length:Int),(k:Int),r,()⟩/\k<=r.length/\(∀m w,m<k->r[m]?=some w->w.1<y)/\∀m w,k<=m->r[m]?=some w->y<=w.1)
  (λs=>(s.j.j.j.j.e - s.j.j.j.e).toNat) (by
  rintro s ⟨i,j,rfl,E,M,o,A⟩;unfold Jfd;dsimp only;by_cases R:i<j
  ·have f:=Ac (l:=r) (i:=(i+j) / 2) (by omega);generalize r[(i+j) / 2]=w at f;rw [J3,half i j (by omega),J5 (by omega),Cb (by rfl),AP (fg f),Jyh,J3,wr (by omega) (by omega)];left;by_cases K:w.1<y
   ·rw [J5 (J9p.2 K)];refine ⟨_,rfl,⟨(i+j) / 2+1,j,by simp only [Int.natCast_add];rfl,by omega,M,λm v d g=>?_,A⟩,by dsimp only;omega⟩;by_cases e:m=(i+j) / 2
    ·subst e;rw [f] at g;injection g with e;subst e;exact K
    ·have:=mono m _ v w (by omega) g f;omega
   ·rw [Jr (λq=>K (J9p.1 q))];refine ⟨_,rfl,⟨i,(i+j) / 2,rfl,by omega,by omega,o,λm v d g=>?_⟩,by dsimp only;omega⟩;by_cases e:m=(i+j) / 2
    ·subst e;rw [f] at g;injection g with e;subst e;omega
    ·have:=mono _ m w v (by omega) f g;omega
  ·right;have:i=j:=by omega
   subst this;rw [Jr (by omega)];exact ⟨_,rfl,i,rfl,M,o,A⟩) ⟨0,r.length,rfl,by omega,Ag _,λm w f=>by omega,λm w f G=>by have:=(Ad.1 G).1;omega⟩ (by dsimp only;omega)
 unfold xD;refine (BL X).trans ?_;dsimp only;have none_of:(∀w∈r,w.1≠y)->JN r y=[]:=λQ=>by
  unfold JN;have:r.find? (λw=>w.1==y)=none:=List.find?_eq_none.2 λw G=>by simpa using Q w G
  rw [this]
 by_cases H:k<r.length
 ·have f:=Ac H;generalize r[k]=w at f;have B:=Ae f;rw [J5 (by omega),AP (fg f),Jyh,AP (fg f),EI];by_cases F:w.1=y
  ·rw [if_neg (by rw [BQ,Qn,J8y.2 F];simp)];unfold JN;cases J:r.find? λv=>v.1==y with
   | none=>have:=List.find?_eq_none.1 J w B;simp [F] at this
   | some v=>
    have g:v.1=y:=by have:=List.find?_some J;simpa using this
    rw [h.KC B (Am J) (by omega)]
  ·rw [if_pos (by rw [BQ,Qn];simp;exact λq=>F (J8y.1 q)),none_of];intro v g e;obtain ⟨m,d⟩:=Ar.1 g;by_cases q:m<k
   ·have:=o m v q d;omega
   ·have a1:=A m v (by omega) d;have a2:=A k w (Ag _) f;by_cases N:m=k
    ·subst N;rw [f] at d;injection d with L;subst L;exact F e
    ·have:=mono k m w v (by omega) f d;omega
 ·rw [Jr (by omega),none_of];intro v g e;obtain ⟨m,d⟩:=Ar.1 g;have:=o m v (by have:=(Ad.1 d).1;omega) d;omega
theorem xC{α:Type}{r:AY}{y:Int}(hl:DF r)(h:AL r)(k:List (Int×Int)->Option α):@W.call wv α YR ((r,y):List (Int×List (Int×Int))×Int) k=k (JN r y):=BH (c:=YR) (Ju3 r y hl h)
theorem J3x{r:AY}(h:AL r)(y:Int):AJ (-1048576) 1048576 (JN r y):=by
 unfold JN;cases a:r.find? λw=>w.1==y with
 | none=>exact ⟨by simp,.nil⟩
 | some w=>
  have hV:=h.rs w (Am a);exact ⟨λx hx=>by have:=hV.bd x hx;omega,hV.pw⟩
theorem Jrj{lo hi:Int}{l m:List Run}(hl:AJ lo hi l)(f:AJ lo hi m)(h:∀x,Jf l x↔Jf m x){u:Run}(d:u∈l):u∈m:=by
 have y:=hl.bd u d;obtain ⟨v,a,B,A⟩:=(h u.1).1 ⟨u,d,by omega,by omega⟩;have g:=f.bd v a;have r:v.1=u.1:=by
  by_cases q:v.1=u.1
  ·exact q
  ·exact (hl.left d ((h _).2 ⟨v,a,by omega,by omega⟩)).elim
 have o:v.2=u.2:=by
  by_cases q:v.2<u.2
  ·exact (f.right a ((h _).1 ⟨u,d,by omega,by omega⟩)).elim
  ·by_cases w:u.2<v.2
   ·exact (hl.right d ((h _).2 ⟨v,a,by omega,by omega⟩)).elim
   ·omega
 rw [show u=v from Prod.ext r.symm o.symm];exact a
theorem Jrq{lo hi:Int}{l:List Run}(h:AJ lo hi l):l.Pairwise λa b=>a.1<b.1:=by
 have f:=h.bd;have r:=h.pw;clear h
 induction l with
 | nil=>exact .nil
 | cons x l o=>
  obtain ⟨m,g⟩:=List.pairwise_cons.1 r;have hx:=f x (List.mem_cons_self ..);refine List.pairwise_cons.2 ⟨λy d=>?_,o (λy d=>f y (Au _ d)) g⟩;have:=m y d;omega
theorem J94{lo hi:Int}{l m:List Run}(hl:AJ lo hi l)(d:AJ lo hi m)(h:∀x,Jf l x↔Jf m x):l=m:=
 wz (R:=λa b:Run=>a.1<b.1) (λa b g f=>by omega) (Jrq hl) (Jrq d) λu=>⟨Jrj hl d h,Jrj d hl λx=>(h x).symm⟩
theorem Jus{a b:AY}(f:AL a)(o:AL b)(h:∀c,Qo a c↔Qo b c){w:Row}(d:w∈a):w∈b:=by
 obtain ⟨u,m⟩:=List.exists_mem_of_ne_nil _ (f.ne w d);have l:=(f.rs w d).bd u m;obtain ⟨v,g,e,-⟩:=(h (u.1,w.1)).1 ⟨w,d,rfl,u,m,Ak _,l.2.1⟩;have r:w.2=v.2:=J94 (f.rs w d) (o.rs v g) λx=>by rw [<-f.DC d x,<-o.DC g x,e];exact h _
 rw [show w=v from Prod.ext e.symm r];exact g
theorem vB{a b:AY}(f:AL a)(d:AL b)(h:∀c,Qo a c↔Qo b c):a=b:=
 wz (R:=λa b:Row=>a.1<b.1) (λa b l g=>by omega) f.pw d.pw λw=>⟨Jus f d h,Jus d f λc=>(h c).symm⟩
theorem J0h(r:AY)(hl:DF r):@zx wv (r,r)=some true:=by
 have hL:=hl.1;have a:=Ki (b:=@Zh wv) (e:=.inr ()) (λi=>⟨(i:Int),r,r,()⟩) r.length (by omega) (λi hi=>by
  have d:=Ac hi;generalize r[i]=w at d;have f:=Ae d;have hLw:=hl.2 w f;have h:=Ki (b:=@Y8 wv) (e:=.inr ⟨(i:Int),r,r,()⟩) (λk=>⟨(i:Int),(k:Int),r,r,w.1,w.2,w.1,w.2,()⟩) w.2.length (by omega) (λk l=>by
   have g:=Ac l;generalize w.2[k]=u at g;unfold Y8;dsimp only;rw [AO,J5 (by omega),AP (fg g),AP (fg g),AU (by simp [BQ,LJ,Qn]),J3,wr (by omega) (by omega)];rfl) (by unfold Y8;dsimp only;rw [AO,Jr (by omega)])
  unfold Zh;dsimp only;rw [AO,J5 (by omega),AP (fg d),AP (fg d),AU (by simp [GZ]),AU (by simp [GZ])];refine (BL h).trans ?_;dsimp only;rw [J3,wr (by omega) (by omega)];rfl) (by unfold Zh;dsimp only;rw [AO,Jr (by omega)])
 unfold zx;dsimp only;rw [AU (by simp [GZ])];exact BL a
def uW(was:Bool)(a:List Run)(i:Nat)(b:List Run)(j:Nat)(out:List Run):HP Bool (HP (List (Int×Int)) (HP Int (HP (List (Int×Int)) (HP Int (HP (List (Int×Int)) Unit))))):=
 let m:=min (bnd a i) (bnd b j);let f:=if bnd a i=m then i+1 else i;let d:=if bnd b j=m then j+1 else j;let now:=decide (f % 2=1)&&decide (d % 2=1)
 ⟨now,a,(f:Int),b,(d:Int),if now=true/\was=false then out++[(m,0)] else if now=false/\was=true then Zw out (λu=>(u.1,m)) else out,()⟩
theorem QT(was:Bool)(a b out:List Run)(i j:Nat)(y:a.length<=1000000000)(w:b.length<=1000000000)(hi:i<=2 * a.length)(K:j<=2 * b.length)(P:out.length<=1000000000)(G:was=true->out≠[])(l:¬(i=2 * a.length/\j=2 * b.length)) :
  @Xy wv ⟨was,a,(i:Int),b,(j:Int),out,()⟩=some (.go (uW was a i b j out)):=by
 have M:@Zp wv ⟨was,a,(i:Int),b,(j:Int),out,()⟩=some (.inl ⟨was,a,(i:Int),b,(j:Int),out,()⟩):=by
  unfold Zp;dsimp only;rw [NG y];by_cases A:i=2 * a.length
  ·rw [AU (by simp [BQ,A]),NG w,BA (by simp [BQ];exact λq=>l ⟨A,q⟩)]
  ·rw [BA (by simp [BQ,A])]
 generalize J:min (bnd a i) (bnd b j)=m;have F:@Jcr wv ⟨was,a,(i:Int),b,(j:Int),out,()⟩ (bnd a i) (bnd b j)=some ⟨was,m,a,((if bnd a i=m then i+1 else i:Nat):Int),b,(j:Int),out,()⟩:=by
  unfold Jcr;dsimp only;rw [NY y hi,J88,J,J3,wr (by omega) (by omega)];by_cases c:bnd a i=m
  ·rw [BA (by rw [Qn];simp [c]),if_pos c];rfl
  ·rw [AU (by rw [Qn];simp [c]),if_neg c]
 generalize r:(if bnd a i=m then i+1 else i)=d at F;have E:@Jco wv ⟨was,m,a,(d:Int),b,(j:Int),out,()⟩=some ⟨was,m,a,(d:Int),b,((if bnd b j=m then j+1 else j:Nat):Int),out,()⟩:=by
  unfold Jco;dsimp only;rw [NY w K,J3,wr (by omega) (by omega)];by_cases c:bnd b j=m
  ·rw [BA (by rw [Qn];simp [c]),if_pos c];rfl
  ·rw [AU (by rw [Qn];simp [c]),if_neg c]
 generalize o:(if bnd b j=m then j+1 else j)=f at E;have B:@Jcp wv ⟨was,m,a,(d:Int),b,(f:Int),out,()⟩=some ⟨was,m,decide (d % 2=1)&&decide (f % 2=1),a,(d:Int),b,(f:Int),out,()⟩:=by
  unfold Jcp;dsimp only;rw [jJ,jJ];by_cases c:d % 2=1
  ·rw [BA (by simp [c])];simp [c,BQ]
  ·rw [AU (by simp [c])];simp [c]
 generalize g:(decide (d % 2=1)&&decide (f % 2=1))=now at B;have h:∀ {α:Type} (x:Option α),@W.gd wv α (@W.ft wv 16 (@W.pl wv (@W.ln wv (Int×Int) out) 1)) x=x:=λx=>by rw [AO,BX];exact FH (by omega) (by omega)
 have L:@Jcn wv ⟨was,m,now,a,(d:Int),b,(f:Int),out,()⟩=some ⟨now,a,(d:Int),b,(f:Int),if now=true/\was=false then out++[(m,0)] else if now=false/\was=true then Zw out (λu=>(u.1,m)) else out,()⟩:=by
  unfold Jcn;dsimp only;rw [h];have nt1:@W.nt wv true=false:=rfl;have nt0:@W.nt wv false=true:=rfl;cases now with
  | true=>
   cases was with
   | true=>rw [nt1,BA rfl,AU rfl,AU rfl,if_neg (by simp),if_neg (by simp)]
   | false=>rw [nt0,BA rfl,BA rfl,if_pos (by simp),CV]
  | false=>
   cases was with
   | false=>rw [nt0,AU rfl,BA rfl,AU rfl,if_neg (by simp),if_neg (by simp)]
   | true=>
    have H:=Aw.2 (G rfl);obtain ⟨v,N,O⟩:=Jmo (G rfl) m;rw [nt0,AU rfl,BA rfl,BA rfl,AO,Xo,wr (by omega) (by omega),FQ ⟨by omega,by omega⟩,AP (Im (out.length - 1) (by omega) N),if_neg (by simp),if_pos (by simp),GN,show ((out.length:Int) - 1).toNat=out.length - 1 by omega,O]
 unfold Xy;rw [DW M];dsimp only;rw [NY y hi,NY w K,DW F,DW E,DW B,DW L];unfold uW;dsimp only;rw [J,r,o,g]
def jP(a b:List Run)(p:Int)(was:Bool)(i j:Nat)(out:List Run):Prop:=
 At a p i/\At b p j/\was=(decide (i % 2=1)&&decide (j % 2=1)) /\
 ((was=false/\Io out/\(∀u∈out,u.2<=p)/\∀x,x<p->(Jf out x↔Jf a x/\Jf b x)) \/
  ∃(o:List Run) (s z:Int),out=o++[(s,z)]/\was=true/\s<=p/\Io o/\(∀u∈o,u.2<s)/\(∀x,x<s->(Jf o x↔Jf a x/\Jf b x))/\∀x,s<=x->x<=p->Jf a x/\Jf b x)
theorem BI{a b:List Run}(R:AJ (-1048576) 1048576 a)(Q:AJ (-1048576) 1048576 b){p:Int}{was:Bool}{i j:Nat}{out:List Run}(hI:jP a b p was i j out)(N:¬(i=2 * a.length/\j=2 * b.length)) :
  ∃m,p<m/\∃(was':Bool) (H G:Nat) (out':List Run),uW was a i b j out=⟨was',a,(H:Int),b,(G:Int),out',()⟩/\jP a b m was' H G out'/\i+j<H+G/\out'.length<=out.length+1:=by
 obtain ⟨hA,hB,Z,hO⟩:=hI;have B:min (bnd a i) (bnd b j)<1048577:=by
  have Y:i<2 * a.length->bnd a i<1048577:=λq=>by have d:=Ac (l:=a) (i:=i / 2) (by omega);have:=R.bd _ (Ae d);simp only [bnd,d];split<;>omega
  have F:j<2 * b.length->bnd b j<1048577:=λq=>by have d:=Ac (l:=b) (i:=j / 2) (by omega);have:=Q.bd _ (Ae d);simp only [bnd,d];split<;>omega
  have w:=hA.1;have E:=hB.1;have L:i<2 * a.length\/j<2 * b.length:=by omega
  rcases L with L|L
  ·have:=Y L;omega
  ·have:=F L;omega
 have hp1:p<bnd a i:=by
  rcases hA.2.2 i (Ag _) with h|h
  ·exact h
  ·have e:a[i / 2]?=none:=As (by omega);have:p<1048577:=by
    have q:At b p j:=hB;by_cases F:j<2 * b.length
    ·rcases hB.2.2 j (Ag _) with h'|h'
     ·have:=NW Q j;omega
     ·omega
    ·exact (N ⟨by have:=hA.1;omega,by have:=hB.1;omega⟩).elim
   simp only [bnd,e];exact this
 have hp2:p<bnd b j:=by
  rcases hB.2.2 j (Ag _) with h|h
  ·exact h
  ·have e:b[j / 2]?=none:=As (by omega);have:p<1048577:=by have:=NW R i;omega
   simp only [bnd,e];exact this
 generalize A:min (bnd a i) (bnd b j)=m at B;have y:p<m:=by omega
 obtain ⟨hA',hAx⟩:=kX R hA (m:=m) (by omega) y B;obtain ⟨hB',hBx⟩:=kX Q hB (m:=m) (by omega) y B;refine ⟨m,y,_,_,_,_,by unfold uW;rw [A],?_,?_,?_⟩
 ·refine ⟨hA',hB',rfl,?_⟩;have hAm:=Sk hA';have hBm:=Sk hB';generalize (if bnd a i=m then i+1 else i)=H at *
  generalize (if bnd b j=m then j+1 else j)=G at *
  have hD:∀x,p<=x->x<m->(Jf a x/\Jf b x↔was=true):=λx w E=>by rw [hAx x w E,hBx x w E,Z];simp
  have hDm:Jf a m/\Jf b m↔(decide (H % 2=1)&&decide (G % 2=1))=true:=by rw [hAm,hBm];simp
  generalize (decide (H % 2=1)&&decide (G % 2=1))=now at *
  rcases hO with ⟨M,K,g,J⟩|⟨o,s,z,rfl,M,hs,K,g,J,X⟩
  ·subst M;cases now with
   | false=>
    left;rw [if_neg (by simp),if_neg (by simp)];refine ⟨rfl,K,λu d=>by have:=g u d;omega,λx hx=>?_⟩;by_cases q:x<p
    ·exact J x q
    ·rw [hD x (by omega) hx];refine ⟨λ⟨u,d,w,E⟩=>by have:=g u d;omega,λh=>by simp at h⟩
   | true=>
    right;rw [if_pos (by simp)];refine ⟨out,m,0,rfl,rfl,Ak _,K,λu d=>by have:=g u d;omega,λx hx=>?_,λx w E=>?_⟩
    ·by_cases q:x<p
     ·exact J x q
     ·rw [hD x (by omega) hx];refine ⟨λ⟨u,d,w,E⟩=>by have:=g u d;omega,λh=>by simp at h⟩
    ·have:x=m:=by omega
     subst this;exact hDm.2 rfl
  ·subst M;cases now with
   | true=>
    right;rw [if_neg (by simp),if_neg (by simp)];refine ⟨o,s,z,rfl,rfl,by omega,K,g,J,λx w E=>?_⟩;by_cases q:x<=p
    ·exact X x w q
    ·by_cases F:x=m
     ·subst F;exact hDm.2 rfl
     ·exact (hD x (by omega) (by omega)).2 rfl
   | false=>
    left;rw [if_neg (by simp),if_pos (by simp),ze];refine ⟨rfl,bA.2 ⟨K,by dsimp only;omega,g⟩,λu d=>?_,λx hx=>?_⟩
    ·rcases Ab.1 d with h|h
     ·have:=g u h;omega
     ·rw [Aa.1 h];exact Ak _
    ·rw [Jl7];dsimp only;by_cases q:x<s
     ·rw [J x q];exact ⟨λh=>h.resolve_right λh=>by omega,.inl⟩
     ·have P:Jf a x/\Jf b x:=by
       by_cases F:x<=p
       ·exact X x (by omega) F
       ·exact (hD x (by omega) hx).2 rfl
      exact ⟨λ_=>P,λ_=>.inr ⟨by omega,hx⟩⟩
 ·by_cases q:bnd a i=m
  ·rw [if_pos q];split<;>omega
  ·have:bnd b j=m:=by omega
   rw [if_pos this];split<;>omega
 ·have O:∀(l:List Run) (f:Run->Run),(Zw l f).length=l.length:=λl f=>by
   rcases l.eq_nil_or_concat with rfl|⟨r,v,rfl⟩
   ·rfl
   ·rw [List.concat_eq_append,ze];simp
  have key:∀nw ws:Bool,(if nw=true/\ws=false then out++[(m,0)] else if nw=false/\ws=true then Zw out (λu=>(u.1,m)) else out).length<=out.length+1:=λnw ws=>by cases nw<;>cases ws<;>simp [O]
  exact key _ _
theorem QU(a b:List Run)(P:a.length<=100000000)(O:b.length<=100000000)(r:AJ (-1048576) 1048576 a)(w:AJ (-1048576) 1048576 b) :
  ∃e,X0 (@Xy wv) CU ⟨false,a,0,b,0,[],()⟩=some e/\Io e.e/\∀x,Jf e.e x↔Jf a x/\Jf b x:=by
 refine iW (b:=@Xy wv) (λs=>∃(p:Int) (was:Bool) (i j:Nat) (out:List Run),s=⟨was,a,(i:Int),b,(j:Int),out,()⟩/\jP a b p was i j out/\out.length<=i+j)
  (λe=>Io e.e/\∀x,Jf e.e x↔Jf a x/\Jf b x) (λs=>(2 * (a.length:Int)+2 * (b.length:Int) - s.j.j.e - s.j.j.j.j.e).toNat) ?_ ⟨-1048577,false,0,0,[],rfl,⟨⟨by omega,by omega,λk h=>?_⟩,⟨by omega,by omega,λk h=>?_⟩,rfl,.inl ⟨rfl,⟨by simp,.nil⟩,by simp,λx hx=>?_⟩⟩,by simp⟩ (by dsimp only;omega)
 ·rintro s ⟨p,was,i,j,out,rfl,hI,Y⟩;have B:=hI.1.1;have A:=hI.2.1.1;by_cases d:i=2 * a.length/\j=2 * b.length
  ·right;obtain ⟨rfl,rfl⟩:=d;have H:@Zp wv ⟨was,a,((2 * a.length:Nat):Int),b,((2 * b.length:Nat):Int),out,()⟩=some (.inr ⟨out,()⟩):=by unfold Zp;dsimp only;rw [NG (by omega),AU (by simp [BQ]),NG (by omega),AU (by simp [BQ])]
   unfold Xy;rw [DW H];refine ⟨_,rfl,?_⟩;obtain ⟨hA,hB,L,hO⟩:=hI;have l:was=false:=by rw [L];simp
   rcases hO with ⟨f,G,F,E⟩|⟨o,s,z,rfl,f,-⟩
   ·refine ⟨G,λx=>?_⟩;by_cases q:x<p
    ·exact E x q
    ·refine ⟨λ⟨u,g,y,Q⟩=>by have:=F u g;omega,λ⟨y,Q⟩=>?_⟩;have:At a x (2 * a.length):=⟨Ag _,λk h=>by have:=hA.2.1 k h;omega,λk h=>.inr h⟩;have:=(Sk this).1 y;omega
   ·rw [l] at f;cases f
  ·left;obtain ⟨m,M,was',K,J,out',e,hI',N,v⟩:=BI r w hI d;refine ⟨_,QT was a b out i j (by omega) (by omega) B A (by omega) (λq=>?_) d,?_,?_⟩
   ·rcases hI.2.2.2 with ⟨f,-⟩|⟨o,s,z,rfl,-⟩
    ·rw [f] at q;cases q
    ·simp
   ·rw [e];exact ⟨m,was',K,J,out',rfl,hI',by omega⟩
   ·rw [e];have X:=hI'.1.1;have R:=hI'.2.1.1;dsimp only;omega
 ·by_cases q:2 * a.length<=k
  ·exact .inr q
  ·left;have:=NW r k;omega
 ·by_cases q:2 * b.length<=k
  ·exact .inr q
  ·left;have:=NW w k;omega
 ·constructor
  ·rintro ⟨u,g,-⟩;cases g
  ·rintro ⟨⟨u,g,B,A⟩,-⟩;have:=r.bd u g;omega
open Classical in
theorem Jy4(a b:List Run)(f:a.length<=100000000)(d:b.length<=100000000)(h:AJ (-1048576) 1048576 a)(g:AJ (-1048576) 1048576 b) :
  ∃l,@sF wv (a,b)=some l/\Io l/\∀x,Jf l x↔Jf a x/\Jf b x:=by obtain ⟨e,m,r,o⟩:=QU a b f d h g;refine ⟨e.e,?_,r,o⟩;unfold sF;dsimp only;rw [bF (by omega),AU (by simp [BQ,h]),bF (by omega),AU (by simp [BQ,g])];exact BL m
def Hl(k:Int)(u:Run):Option Run:=if u.1+k<u.2 - k then some (u.1+k,u.2 - k) else none
def Co(k:Int)(l:List Run):List Run:=l.filterMap (Hl k)
theorem Kal(l:List Run)(k:Int)(hl:l.length<=1000000000)(h:AJ (-1048576) 1048576 l)(m:0<=k/\k<=1048576):@xK wv (l,k)=some (Co k l):=by
 have a:=Ki (b:=@xV wv) (e:=(⟨Co k l,()⟩:HP (List Run) Unit)) (λi=>(⟨k,l,(l.length:Int),(i:Int),Co k (l.take i),()⟩:HP Int (HP (List Run) (HP Int (HP Int (HP (List Run) Unit)))))) l.length (by omega) (λi hi=>by
  have hx:=Ac hi;generalize l[i]=u at hx;have g:=h.bd u (Ae hx);have d:(Co k (l.take i)).length<=l.length:=by refine Nat.le_trans (List.length_filterMap_le _ _) ?_;rw [Ap];omega
  have e:Co k (l.take (i+1))=Co k (l.take i)++(Hl k u).toList:=by unfold Co;rw [Ka hx,List.filterMap_append];cases f:Hl k u<;>simp [f]
  unfold xV;dsimp only;rw [J5 (by omega),AP (fg hx),J3,J3,Xo,wr (n:=(i:Int)+1) (by omega) (by omega),wr (n:=u.1+k) (by omega) (by omega),wr (n:=u.2 - k) (by omega) (by omega),e];unfold Hl;by_cases q:u.1+k<u.2 - k
  ·rw [J5 q,if_pos q,AO,BX,FH (by omega) (by omega),CV];rfl
  ·rw [Jr q,if_neg q];show _=some (Nx.go (⟨k,l,(l.length:Int),((i+1:Nat):Int),Co k (l.take i)++[],()⟩:HP Int (HP (List Run) (HP Int (HP Int (HP (List Run) Unit))))));rw [List.append_nil];rfl) (by unfold xV;dsimp only;rw [Jr (by omega),Ah])
 unfold xK;dsimp only;rw [bF hl,AU (by simp [BQ,h]),Jr (by omega),AU (by rw [z7];exact decide_eq_false (by omega)),AO];exact (BL a).trans rfl
theorem qP{lo hi:Int}{l:List Run}(h:AJ lo hi l){k:Int}(r:0<=k):AJ lo hi (Co k l):=by
 refine ⟨λu m=>?_,?_⟩
 ·obtain ⟨v,g,e⟩:=Aj.1 m;unfold Hl at e;split at e
  ·injection e with e;subst e;have:=h.bd v g;dsimp only;omega
  ·cases e
 ·refine List.Pairwise.filterMap (S:=λa b:Run=>a.2<b.1) (Hl k) (λa b o c f d hd=>?_) h.pw;unfold Hl at f hd;split at f
  ·split at hd
   ·injection f with f;injection hd with hd;subst f;subst hd;dsimp only;omega
   ·cases hd
  ·cases f
theorem J2v{lo hi:Int}{l:List Run}(h:AJ lo hi l){k:Int}(A:0<=k)(x:Int):Jf (Co k l) x↔∀y,x - k<=y->y<=x+k->Jf l y:=by
 constructor
 ·rintro ⟨u,d,g,f⟩ y o m;obtain ⟨v,r,e⟩:=Aj.1 d;unfold Hl at e;split at e
  ·injection e with e;subst e;dsimp only at g f;exact ⟨v,r,by omega,by omega⟩
  ·cases e
 ·intro a;obtain ⟨u,d,g,f⟩:=a (x - k) (Ak _) (by omega);have B:x+k<u.2:=by apply Classical.byContradiction;intro w;have:=(J19 h u.2).1 ⟨u,d,rfl⟩;exact this.2 (a u.2 (by omega) (by omega))
  exact ⟨(u.1+k,u.2 - k),Aj.2 ⟨u,d,if_pos (by omega)⟩,by dsimp only;omega,by dsimp only;omega⟩
theorem nZ(a b:List Run)(g:a.length<=100000000)(f:b.length<=100000000)(m:AJ (-4096) 4096 a)(r:AJ (-4096) 4096 b) :
  ∃l,@sF wv (a,b)=some l/\AJ (-4096) 4096 l/\∀x,Jf l x↔Jf a x/\Jf b x:=by have wid:∀ {l:List Run},AJ (-4096) 4096 l->AJ (-1048576) 1048576 l:=λ{l} h=>⟨λu d=>by have:=h.bd u d;omega,h.pw⟩;obtain ⟨l,w,v,o⟩:=Jy4 a b g f (wid m) (wid r);refine ⟨l,w,vC v λx hx=>?_,o⟩;obtain ⟨u,d,A,y⟩:=((o x).1 hx).1;have:=m.bd u d;omega
theorem wE{n:Nat}{l:List Nat}(h:l.Nodup)(a:∀x∈l,x<n):l.length<=n:=by have:=Tm (m:=List.range n) h λx hx=>List.mem_range.2 (a x hx);rwa [List.length_range] at this
theorem Xv{l:List Run}(h:AJ (-4096) 4096 l):l.length<=8192:=by
 have o:(l.map λu:Run=>(u.1+4096).toNat).Nodup:=List.pairwise_map.2 ((List.Pairwise.and_mem.1 h.pw).imp λ{a b} ⟨m,f,g⟩ e=>by have:=h.bd a m;have:=h.bd b f;omega)
 have:=wE (n:=8192) o λx hx=>by obtain ⟨u,d,rfl⟩:=Ax.1 hx;have:=h.bd u d;omega
 rwa [List.length_map] at this
abbrev Mr:=List (Int×List Run)
def TQ:Mr->Int->List Run
 | [],_=>[]
 | e::r,y=>if y=e.1 then e.2 else TQ r y
theorem Pq(m:Mr)(y:Int):@W.mg wv I (.ls (.p I I)) m y []=TQ m y:=by
 show (FJ (a:=I) (b:=.ls (.p I I)) y m).getD []=_
 induction m with
 | nil=>rfl
 | cons e r d=>
  show _=if y=e.1 then e.2 else TQ r y;by_cases h:y=e.1
  ·have hd:Ty.FE I y e.1=true:=beq_iff_eq.2 h;rw [if_pos h];exact congrArg (λo:Option (List Run)=>o.getD []) (show FJ (a:=I) (b:=.ls (.p I I)) y (e::r)=some e.2 from if_pos hd)
  ·have hd:¬Ty.FE I y e.1=true:=λf=>h (beq_iff_eq.1 f);rw [if_neg h,<-d];exact congrArg (λo:Option (List Run)=>o.getD []) (show FJ (a:=I) (b:=.ls (.p I I)) y (e::r)=FJ (a:=I) (b:=.ls (.p I I)) y r from if_neg hd)
theorem dR(m:Mr)(y:Int)(v:List Run)(h:∀e∈m,e.1≠y):@W.ms wv I (.ls (.p I I)) m y v=m++[(y,v)]:=by
 show Fg (a:=I) (b:=.ls (.p I I)) y v m=_
 induction m with
 | nil=>rfl
 | cons e r d=>
  show (if Ty.FE I y e.1=true then (y,v)::r else e::Fg (a:=I) (b:=.ls (.p I I)) y v r)=_;have hd:¬Ty.FE I y e.1=true:=λg=>h e (List.mem_cons_self ..) (beq_iff_eq.1 g).symm;rw [if_neg hd,d λe f=>h e (Au _ f)];rfl
theorem J31(r:AY)(f:List Run->List Run)(d:f []=[])(y:Int):TQ (r.map λw=>(w.1,f w.2)) y=f (EJ r y):=by
 induction r with
 | nil=>exact d.symm
 | cons w r a=>
  unfold EJ at a ⊢;show (if y=w.1 then f w.2 else TQ (r.map λw=>(w.1,f w.2)) y)=_;by_cases h:y=w.1
  ·rw [if_pos h,List.find?_cons_of_pos (by simp [h])];rfl
  ·rw [if_neg h,a,List.find?_cons_of_neg (by simp;exact λe=>h e.symm)]
def deep(r:AY)(k:Int)(c:Cell):Prop:=∀dx dy:Int,-k<=dx->dx<=k->-k<=dy->dy<=k->Qo r (c.1+dx,c.2+dy)
abbrev zX:=HP Int (HP AY (HP Int (HP Int (HP AY (HP Mr Unit)))))
abbrev zW:=HP Int (HP AY (HP Int (HP Int (HP Mr (HP AY Unit)))))
abbrev SeC:=HP Int (HP Int (HP (List Run) (HP Int (HP Int (HP AY (HP Int (HP Int (HP Int (HP (List Run) (HP Mr (HP AY Unit)))))))))))
abbrev OeC:=HP (List Run) (HP Int (HP AY (HP Int (HP Int (HP Int (HP (List Run) (HP AY (HP Mr Unit))))))))
def Ll(k:Int)(r:AY):Mr:=r.map λw=>(w.1,Co k w.2)
theorem TK(a:AY×Int)(r:AY)(hr:AL r)(hl:DF r)(k:Int)(E:0<=k/\k<=64) :
  X0 (@sG wv a) CU (⟨k,r,(r.length:Int),0,r,[],()⟩:zX)=some (⟨k,r,Ll k r,()⟩:HP Int (HP AY (HP Mr Unit))):=by
 have hL:=hl.1;refine Ki (b:=@sG wv a) (λi=>(⟨k,r,(r.length:Int),(i:Int),r,Ll k (r.take i),()⟩:zX)) r.length (by omega) (λi hi=>?_) ?_
 ·have f:=Ac hi;generalize r[i]=w at f;have d:=Ae f;have g:=hr.rs w d;unfold sG;dsimp only;rw [J5 (by omega),AP (fg f)];refine (BH (c:=iy) (Kal w.2 k (hl.2 w d) ⟨λu y=>by have:=g.bd u y;omega,g.pw⟩ (by omega))).trans ?_;have h:@W.ms wv I (.ls (.p I I)) (Ll k (r.take i)) w.1 (Co k w.2)=(Ll k (r.take i))++[(w.1,Co k w.2)]:=dR _ _ _ λe A=>by obtain ⟨v,o,rfl⟩:=Ax.1 A;obtain ⟨j,m⟩:=Av o;have l:=(Ad.1 m).1;rw [Ap] at l;rw [Ao (by omega)] at m;have:=YE hr m f (by omega);dsimp only;omega
  have B:@W.ar wv .add .i64 (i:Int) 1=((i+1:Nat):Int):=by rw [J3,wr (by omega) (by omega)];omega
  rw [B];exact congrArg (λz:Mr=>some (Nx.go (⟨k,r,(r.length:Int),((i+1:Nat):Int),r,z,()⟩:zX))) (h.trans (wV f).symm)
 ·unfold sG;dsimp only;rw [Jr (by omega),Ah]
theorem TJ(a:AY×Int)(r:AY)(hr:AL r)(k:Int)(B:0<=k/\k<=64)(len idx:Int)(w:Row)(N:-4096<=w.1/\w.1<4096)(out:AY) :
  ∃o,X0 (@sD wv a) CU (⟨w.1,k,Co k (EJ r (w.1 - k)),w.1 - k+1,k,r,len,idx,w.1,w.2,Ll k r,out,()⟩:SeC) =
    some (⟨o,k,r,len,idx,w.1,w.2,out,Ll k r,()⟩:OeC) /\
   AJ (-4096) 4096 o/\∀x,Jf o x↔deep r k (x,w.1):=by
 obtain ⟨e,K,o,rfl,m,v⟩:=Xr (b:=@sD wv a)
  (λj s=>∃o,s=(⟨w.1,k,o,w.1 - k+1+(j:Int),k,r,len,idx,w.1,w.2,Ll k r,out,()⟩:SeC)/\AJ (-4096) 4096 o/\∀x,Jf o x↔∀y,w.1 - k<=y->y<=w.1 - k+(j:Int)->Jf (Co k (EJ r y)) x)
  (λe=>∃o,e=(⟨o,k,r,len,idx,w.1,w.2,out,Ll k r,()⟩:OeC)/\AJ (-4096) 4096 o/\∀x,Jf o x↔deep r k (x,w.1))
  (2 * k).toNat (by omega) (s0:=⟨w.1,k,Co k (EJ r (w.1 - k)),w.1 - k+1,k,r,len,idx,w.1,w.2,Ll k r,out,()⟩)
  ⟨_,by simp,qP (kS hr _) B.1,λx=>⟨λh y m v=>by rw [show y=w.1 - k by omega];exact h,λh=>h _ (Ak _) (by omega)⟩⟩
  (λj s O=>by
   rintro ⟨o,rfl,m,v⟩;have f:=qP (kS hr (w.1 - k+1+(j:Int))) B.1;obtain ⟨l,G,F,E⟩:=nZ o (Co k (EJ r (w.1 - k+1+(j:Int)))) (by have:=Xv m;omega) (by have:=Xv f;omega) m f;have em:@W.mg wv I (.ls (.p I I)) (Ll k r) (w.1 - k+1+(j:Int)) []=Co k (EJ r (w.1 - k+1+(j:Int))):=(Pq _ _).trans (J31 r (Co k) rfl _);refine ⟨_,?_,l,rfl,F,λx=>?_⟩
   ·unfold sD;dsimp only;rw [em,BA (by rw [Fz,J3,wr (by omega) (by omega)];exact decide_eq_true (by omega))];refine (BH (c:=jD) G).trans ?_;rw [J3,wr (by omega) (by omega),show w.1 - k+1+(j:Int)+1=w.1 - k+1+((j+1:Nat):Int) by omega]
   ·rw [E,v];constructor
    ·rintro ⟨M,L⟩ y d A;by_cases e:y=w.1 - k+1+(j:Int)
     ·rw [e];exact L
     ·exact M y d (by omega)
    ·intro g;exact ⟨λy d A=>g y d (by omega),g _ (by omega) (by omega)⟩)
  (by
   rintro s ⟨o,rfl,m,v⟩;refine ⟨_,?_,o,rfl,m,λx=>?_⟩
   ·unfold sD;dsimp only;rw [AU (by rw [Fz,J3,wr (by omega) (by omega)];exact decide_eq_false (by omega))]
   ·rw [v];unfold deep;constructor
    ·intro g dx dy Q P a3 a4;have:=(J2v (kS hr (w.1+dy)) B.1 x).1 (g (w.1+dy) (by omega) (by omega)) (x+dx) (by omega) (by omega);exact (YP hr).2 this
    ·intro g y d A;refine (J2v (kS hr y) B.1 x).2 λz J H=>(YP hr).1 ?_;have:=g (z - x) (y - w.1) (by omega) (by omega) (by omega) (by omega);dsimp only at this;rwa [show x+(z - x)=z by omega,show w.1+(y - w.1)=y by omega] at this)
 exact ⟨o,K,m,v⟩
theorem Jvx{E:AY}{w:Row}(h:AL E)(l:-4096<=w.1/\w.1<4096)(m:w.2≠[])(hr:AJ (-4096) 4096 w.2)(f:∀v∈E,v.1<w.1):AL (E++[w]):=by
 refine ⟨λv d=>?_,Af.2 ⟨h.pw,Aq _ _,λa o b g=>?_⟩,λv d=>?_,λv d=>?_⟩
 ·rcases Ab.1 d with q|q
  ·exact h.y v q
  ·rw [Aa] at q;subst q;exact l
 ·rw [Aa] at g;subst g;exact f a o
 ·rcases Ab.1 d with q|q
  ·exact h.ne v q
  ·rw [Aa] at q;subst q;exact m
 ·rcases Ab.1 d with q|q
  ·exact h.rs v q
  ·rw [Aa] at q;subst q;exact hr
theorem J1n{E:AY}{w:Row}{c:Cell}:Qo (E++[w]) c↔Qo E c\/(w.1=c.2/\Jf w.2 c.1):=by
 unfold Qo;constructor
 ·rintro ⟨v,a,h⟩;rcases Ab.1 a with q|q
  ·exact .inl ⟨v,q,h⟩
  ·rw [Aa] at q;subst q;exact .inr h
 ·rintro (⟨v,a,h⟩|h)
  ·exact ⟨v,Ab.2 (.inl a),h⟩
  ·exact ⟨w,Ab.2 (.inr (Aa.2 rfl)),h⟩
theorem Tg{r:AY}(h:AL r):r.length<=8192:=by
 have m:(r.map λw:Row=>(w.1+4096).toNat).Nodup:=List.pairwise_map.2 ((List.Pairwise.and_mem.1 h.pw).imp λ{a b} ⟨l,f,g⟩ e=>by have:=h.y a l;have:=h.y b f;omega)
 have:=wE (n:=8192) m λx hx=>by obtain ⟨u,d,rfl⟩:=Ax.1 hx;have:=h.y u d;omega
 rwa [List.length_map] at this
theorem TH(r:AY)(hr:AL r)(hl:DF r)(k:Int)(N:0<=k/\k<=64):∃E,@lq wv (r,k)=some E/\AL E/\∀c,Qo E c↔deep r k c:=by
 have hL:=hl.1;obtain ⟨e,Y,E,rfl,l,m,-⟩:=Xr (b:=@sH wv (r,k))
  (λi s=>∃E,s=(⟨k,r,(r.length:Int),(i:Int),Ll k r,E,()⟩:zW)/\AL E/\(∀c,Qo E c↔(∃w∈r.take i,w.1=c.2)/\deep r k c)/\∀v∈E,∃w∈r.take i,v.1=w.1)
  (λe=>∃E,e=(⟨E,()⟩:HP AY Unit)/\AL E/\(∀c,Qo E c↔deep r k c)/\True)
  r.length (by omega) (s0:=⟨k,r,(r.length:Int),0,Ll k r,[],()⟩)
  ⟨[],rfl,⟨by simp,.nil,by simp,by simp⟩,λc=>⟨λ⟨w,d,_⟩=>(Ai d).elim,λ⟨⟨w,d,_⟩,_⟩=>by rw [List.take_zero] at d;exact (Ai d).elim⟩,λv f=>(Ai f).elim⟩
  (λi s hi=>by
   rintro ⟨E,rfl,l,m,A⟩;have d:=Ac hi;generalize r[i]=w at d;have F:=Ae d;have M:=hr.y w F;obtain ⟨o,L,K,B⟩:=TJ (r,k) r hr k N (r.length:Int) (i:Int) w M E;have X:=Xv K;have hEl:=Tg l;have em:@W.mg wv I (.ls (.p I I)) (Ll k r) (w.1 - k) []=Co k (EJ r (w.1 - k)):=(Pq _ _).trans (J31 r (Co k) rfl _);have Q:@W.ar wv .sub .i64 w.1 k=w.1 - k:=by rw [Xo,wr (by omega) (by omega)]
   have P:@W.ar wv .add .i64 (w.1 - k) 1=w.1 - k+1:=by rw [J3,wr (by omega) (by omega)]
   have O:@W.ar wv .add .i64 (i:Int) 1=((i+1:Nat):Int):=by rw [J3,wr (by omega) (by omega)];omega
   have G:∀v∈E,v.1<w.1:=λv f=>by obtain ⟨z,a,e⟩:=A v f;obtain ⟨j,J⟩:=Av a;have H:=(Ad.1 J).1;rw [Ap] at H;rw [Ao (by omega)] at J;have:=YE hr J d (by omega);omega
   have y:=Ka d;by_cases h:o=[]
   ·refine ⟨(⟨k,r,(r.length:Int),((i+1:Nat):Int),Ll k r,E,()⟩:zW),?_,E,rfl,l,λc=>?_,λv f=>?_⟩
    ·unfold sH;dsimp only;rw [J5 (by omega),AP (fg d),Q,em,P];refine (BL L).trans ?_;dsimp only;rw [AU (by rw [z7,AO,h];rfl),O]
    ·rw [m,y];constructor
     ·rintro ⟨⟨z,a,e⟩,g⟩;exact ⟨⟨z,Ab.2 (.inl a),e⟩,g⟩
     ·rintro ⟨⟨z,a,e⟩,g⟩;rcases Ab.1 a with q|q
      ·exact ⟨⟨z,q,e⟩,g⟩
      ·rw [Aa] at q;subst q;have:=(B c.1).2 (by rw [e];exact g);rw [h] at this;obtain ⟨u,R,_⟩:=this;exact (Ai R).elim
    ·obtain ⟨z,a,e⟩:=A v f;exact ⟨z,by rw [y];exact Ab.2 (.inl a),e⟩
   ·have Z:=Aw.2 h;refine ⟨(⟨k,r,(r.length:Int),((i+1:Nat):Int),Ll k r,E++[(w.1,o)],()⟩:zW),?_,_,rfl,Jvx (w:=(w.1,o)) l M h K G,λc=>?_,λv f=>?_⟩
    ·unfold sH;dsimp only;rw [J5 (by omega),AP (fg d),Q,em,P];refine (BL L).trans ?_;dsimp only;rw [BA (by rw [z7,AO];exact decide_eq_true (by omega)),AO,BX,FH (by omega) (by omega),AO,BX,jG (by omega) (by omega),CV,O]
    ·rw [J1n,m,y];constructor
     ·rintro (⟨⟨z,a,e⟩,g⟩|⟨e,g⟩)
      ·exact ⟨⟨z,Ab.2 (.inl a),e⟩,g⟩
      ·have e:w.1=c.2:=e;refine ⟨⟨w,Ab.2 (.inr (Aa.2 rfl)),e⟩,?_⟩;have:=(B c.1).1 g;rwa [e] at this
     ·rintro ⟨⟨z,a,e⟩,g⟩;rcases Ab.1 a with q|q
      ·exact .inl ⟨⟨z,q,e⟩,g⟩
      ·rw [Aa] at q;subst q;exact .inr ⟨e,(B c.1).2 (by rw [e];exact g)⟩
    ·rcases Ab.1 f with q|q
     ·obtain ⟨z,a,e⟩:=A v q;exact ⟨z,by rw [y];exact Ab.2 (.inl a),e⟩
     ·rw [Aa] at q;subst q;exact ⟨w,by rw [y];exact Ab.2 (.inr (Aa.2 rfl)),rfl⟩)
  (by
   rintro s ⟨E,rfl,l,m,A⟩;refine ⟨_,?_,E,rfl,l,λc=>?_,trivial⟩
   ·unfold sH;dsimp only;rw [Jr (by omega)]
   ·rw [m,Ah];refine ⟨And.right,λg=>⟨?_,g⟩⟩;have:=g 0 0 (by omega) (by omega) (by omega) (by omega);obtain ⟨w,d,e,_⟩:=this;exact ⟨w,d,by rw [e];dsimp only;omega⟩)
 refine ⟨E,?_,l,m⟩;have f:@xI wv (r,k)=some true:=by
  classical
  unfold xI;dsimp only;rw [BA (by rw [JH];exact decide_eq_true (by omega)),BA (by rw [Fz];exact decide_eq_true (by omega)),rX hl,decide_eq_true hr]
 unfold lq;refine (BH (c:=jA) f).trans ?_;rw [AU (by rfl),AO];refine (BL (TK (r,k) r hr hl k N)).trans ?_;dsimp only;rw [AO];exact (BL Y).trans rfl
theorem J52:∀l:List Int,l.Pairwise (·<=·)->(Cw l).Pairwise (·<·)/\∀x,x∈Cw l↔x∈l:=by
 intro l;have key:∀m:List Int,(m.reverse).Pairwise (·<=·)->(Cw m.reverse).Pairwise (·<·)/\∀x,x∈Cw m.reverse↔x∈m.reverse:=by
  intro m
  induction m with
  | nil=>intro _;exact ⟨.nil,λx=>Iff.rfl⟩
  | cons a m B=>
   intro h;rw [List.reverse_cons] at h ⊢;obtain ⟨E,J,w⟩:=Af.1 h;obtain ⟨g,d⟩:=B E;have hl:=(wX m.reverse m.reverse.length (Ag _)).2;rw [Ah] at hl;rw [J0z];unfold Wo;split
   ·rename_i f;refine ⟨g,λx=>?_⟩;rw [d,Ab,Aa];refine ⟨.inl,λhx=>hx.elim id λe=>?_⟩;subst e;exact (d x).1 (List.mem_of_getLast? f)
   ·rename_i f;refine ⟨Af.2 ⟨g,Aq _ _,λx hx y v=>?_⟩,λx=>by rw [Ab,Ab,d]⟩;rw [Aa] at v;subst v;have r:x<=y:=w x ((d x).1 hx) y (Aa.2 rfl);rcases Int.lt_or_eq_of_le r with q|q
    ·exact q
    ·exfalso;subst q;have o:Cw m.reverse≠[]:=λe=>by rw [e] at hx;cases hx
     obtain ⟨M,z,e⟩:∃M z,Cw m.reverse=M++[z]:=⟨_,_,(List.dropLast_concat_getLast o).symm⟩;rw [e,List.getLast?_concat] at f;have H:z<=x:=w z ((d z).1 (by rw [e];exact Ab.2 (.inr (Aa.2 rfl)))) x (Aa.2 rfl);rw [e] at g hx;obtain ⟨G,F,A⟩:=Af.1 g;rcases Ab.1 hx with q|q
     ·have:=A x q z (Aa.2 rfl);omega
     ·rw [Aa] at q;exact f (by rw [q])
 have:=key l.reverse;rwa [List.reverse_reverse] at this
theorem OD(l:List Int)(hl:l.length<=1000000000):∃r,XQ l=some r/\r.Pairwise (·<=·)/\∀x,x∈r↔x∈l:=by refine ⟨KY (λx y:Int=>decide (x<=y)) l,by unfold XQ;rw [if_pos (by omega)],?_,λx=>(iZ l).mem_iff⟩;exact (uw (le:=λx y:Int=>decide (x<=y)) (λx y z d a=>by simp only [decide_eq_true_eq] at *;omega) (λx y=>by simp only [decide_eq_true_eq];omega) l).imp λh=>of_decide_eq_true h
theorem J2x(l:List Run)(hl:l.length<=1000000000):@Qr wv l=some l:=by
 have e:∀ {α:Type} (x:Option α),@W.gd wv α (@W.ft wv 16 (@W.pl wv 0 (@W.ln wv Run l))) x=x:=λx=>by rw [AO,BX];exact FH (by omega) (by omega)
 unfold Qr;rw [e,yZ];unfold dK;rw [AO];split
 ·rename_i a;have:l=[]:=List.eq_nil_of_length_eq_zero (by omega);subst this;simp [EI]
 ·rfl
abbrev XJ:=HP AY (HP AY (HP Int (HP AY (HP Int (HP Int (HP AY (HP AY (HP (List Int) Unit))))))))
abbrev gW:=HP AY (HP AY (HP Int (HP AY (HP AY (HP (List Int) Unit)))))
abbrev Lg:=HP AY (HP AY (HP Int (HP AY (HP AY (HP (List Int) Unit)))))
abbrev gM:=HP (List Int) (HP Int (HP Int (HP AY (HP AY (HP AY Unit)))))
theorem Sw{r:AY}(h:AL r):DF r:=⟨by have:=Tg h;omega,λw a=>by have:=Xv (h.rs w a);omega⟩
end Go.Proofs.YtmfagdfkpjgeiaaGreat
