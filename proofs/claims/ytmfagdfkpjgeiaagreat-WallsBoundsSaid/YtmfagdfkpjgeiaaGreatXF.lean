/- The region of cells: what the program's text says. Conditions: at most 10^9 cells. -/
import Derived.Test.YtmfagdfkpjgeiaaGreatXD
import Derived.Test.YtmfagdfkpjgeiaaGreatXE
set_option linter.unusedVariables false
set_option linter.unusedSimpArgs false
set_option linter.unusedSectionVars false
set_option maxRecDepth 100000
namespace Go.Proofs.YtmfagdfkpjgeiaaGreat
open Go Go.Vv Go.Dn Go.Dn.W
open List renaming mem_singleton -> Aa, mem_append -> Ab, getElem?_eq_getElem -> Ac, getElem?_eq_some_iff -> Ad, mem_of_getElem? -> Ae, pairwise_append -> Af, take_length -> Ah, not_mem_nil -> Ai, mem_filterMap -> Aj, mem_of_find?_eq_some -> Am, getElem?_take_of_lt -> Ao, length_take -> Ap, pairwise_singleton -> Aq, mem_iff_getElem? -> Ar, getElem?_eq_none -> As, mem_cons_of_mem -> Au, getElem?_of_mem -> Av, length_pos_iff -> Aw, mem_map -> Ax
open Nat renaming le_refl -> Ag
open Int renaming le_refl -> Ak
theorem Jsk{α:Type}{a b:Int}(k:Int->Option α):@W.call wv α Yn ((a,b):Int×Int) k=k (cmpI a b):=ca_s (c:=Yn) (Jzw a b)
theorem half(i j:Nat)(a:i+j<=4000000000):@W.cv wv .i64 (@W.sh wv .shr .u64 (@W.cv wv .u64 (IntKind.wrap .i64 ((i:Int)+(j:Int)))) 1)=(((i+j) / 2:Nat):Int):=by
 rw [wr (by omega) (by omega)];have f:@W.cv wv .u64 ((i:Int)+(j:Int))=((i+j:Nat):Int):=by show IntKind.wrap .u64 _=_;rw [IntKind.wrap_u64,Int.emod_eq_of_lt (by omega) (by omega)];omega
 rw [f];have d:@W.sh wv .shr .u64 ((i+j:Nat):Int) 1=(((i+j) / 2:Nat):Int):=by
  show Int.fdiv ((i+j:Nat):Int) (2 ^ (min (1:Int).toNat (IntKind.bits .u64)))=_;have:(2:Int) ^ (min (1:Int).toNat (IntKind.bits .u64))=2:=by rfl
  rw [this,Int.fdiv_eq_ediv_of_nonneg _ (by omega)];omega
 rw [d];exact wr (by omega) (by omega)
theorem J0a{a b:Int}:cmpI a b<0↔a<b:=by unfold cmpI;(repeat' split)<;>omega
theorem J3u{a b:Int}:cmpI a b=0↔a=b:=by unfold cmpI;(repeat' split)<;>omega
theorem Jqk(r:Reg)(y:Int)(hl:LimR r)(h:RegOK r):@Jck wv (r,y)=some (Ji3 r y):=by
 have hL:=hl.1;have mono:∀(i j:Nat) (a b:Row),i<j->r[i]?=some a->r[j]?=some b->a.1<b.1:=λi j a b E Z Y=>by obtain ⟨P,e1⟩:=Ad.1 Z;obtain ⟨O,L⟩:=Ad.1 Y;have:=List.pairwise_iff_getElem.1 h.pw i j P O E;rwa [e1,L] at this
 obtain ⟨e,X,k,rfl,hk,o,A⟩:=Jh7 (b:=@Jbr wv) (s0:=⟨r,y,(r.length:Int),0,(r.length:Int),r,()⟩)
  (λs=>∃i j:Nat,s=⟨r,y,(r.length:Int),(i:Int),(j:Int),r,()⟩/\i<=j/\j<=r.length/\(∀m w,m<i->r[m]?=some w->w.1<y)/\∀m w,j<=m->r[m]?=some w->y<=w.1)
  (λe=>∃k:Nat,e=⟨r,y,(r.length:Int),(k:Int),r,()⟩/\k<=r.length/\(∀m w,m<k->r[m]?=some w->w.1<y)/\∀m w,k<=m->r[m]?=some w->y<=w.1)
  (λs=>(s.j.j.j.j.e - s.j.j.j.e).toNat) (by
  rintro s ⟨i,j,rfl,E,M,o,A⟩;unfold Jbr;dsimp only;by_cases R:i<j
  ·have f:=Ac (l:=r) (i:=(i+j) / 2) (by omega);generalize r[(i+j) / 2]=w at f;rw [Ks,half i j (by omega),Qw (by omega),gd_t (by rfl),ge_s (fg f),Jsk,Ks,wr (by omega) (by omega)];left;by_cases K:w.1<y
   ·rw [Qw (J0a.2 K)];refine ⟨_,rfl,⟨(i+j) / 2+1,j,by simp only [Int.natCast_add];rfl,by omega,M,λm v d g=>?_,A⟩,by dsimp only;omega⟩;by_cases e:m=(i+j) / 2
    ·subst e;rw [f] at g;injection g with e;subst e;exact K
    ·have:=mono m _ v w (by omega) g f;omega
   ·rw [Kq (λq=>K (J0a.1 q))];refine ⟨_,rfl,⟨i,(i+j) / 2,rfl,by omega,by omega,o,λm v d g=>?_⟩,by dsimp only;omega⟩;by_cases e:m=(i+j) / 2
    ·subst e;rw [f] at g;injection g with e;subst e;omega
    ·have:=mono _ m w v (by omega) f g;omega
  ·right;have:i=j:=by omega
   subst this;rw [Kq (by omega)];exact ⟨_,rfl,i,rfl,M,o,A⟩) ⟨0,r.length,rfl,by omega,Ag _,λm w f=>by omega,λm w f G=>by have:=(Ad.1 G).1;omega⟩ (by dsimp only;omega)
 unfold Jck;refine (lo_s X).trans ?_;dsimp only;have none_of:(∀w∈r,w.1≠y)->Ji3 r y=[]:=λQ=>by
  unfold Ji3;have:r.find? (λw=>w.1==y)=none:=List.find?_eq_none.2 λw G=>by simpa using Q w G
  rw [this]
 by_cases H:k<r.length
 ·have f:=Ac H;generalize r[k]=w at f;have B:=Ae f;rw [Qw (by omega),ge_s (fg f),Jsk,ge_s (fg f),w_br];by_cases F:w.1=y
  ·rw [if_neg (by rw [w_nt,Xr,J3u.2 F];simp)];unfold Ji3;cases J:r.find? λv=>v.1==y with
   | none=>have:=List.find?_eq_none.1 J w B;simp [F] at this
   | some v=>
    have g:v.1=y:=by have:=List.find?_some J;simpa using this
    rw [h.row_uniq B (Am J) (by omega)]
  ·rw [if_pos (by rw [w_nt,Xr];simp;exact λq=>F (J3u.1 q)),none_of];intro v g e;obtain ⟨m,d⟩:=Ar.1 g;by_cases q:m<k
   ·have:=o m v q d;omega
   ·have a1:=A m v (by omega) d;have a2:=A k w (Ag _) f;by_cases N:m=k
    ·subst N;rw [f] at d;injection d with L;subst L;exact F e
    ·have:=mono k m w v (by omega) f d;omega
 ·rw [Kq (by omega),none_of];intro v g e;obtain ⟨m,d⟩:=Ar.1 g;have:=o m v (by have:=(Ad.1 d).1;omega) d;omega
theorem Jcm{α:Type}{r:Reg}{y:Int}(hl:LimR r)(h:RegOK r)(k:List (Int×Int)->Option α):@W.call wv α Zf ((r,y):List (Int×List (Int×Int))×Int) k=k (Ji3 r y):=ca_s (c:=Zf) (Jqk r y hl h)
theorem Jyo{r:Reg}(h:RegOK r)(y:Int):RunsOK (-1048576) 1048576 (Ji3 r y):=by
 unfold Ji3;cases a:r.find? λw=>w.1==y with
 | none=>exact ⟨by simp,.nil⟩
 | some w=>
  have hV:=h.rs w (Am a);exact ⟨λx hx=>by have:=hV.bd x hx;omega,hV.pw⟩
theorem Jlh{lo hi:Int}{l m:List Run}(hl:RunsOK lo hi l)(f:RunsOK lo hi m)(h:∀x,Jh l x↔Jh m x){u:Run}(d:u∈l):u∈m:=by
 have y:=hl.bd u d;obtain ⟨v,a,B,A⟩:=(h u.1).1 ⟨u,d,by omega,by omega⟩;have g:=f.bd v a;have r:v.1=u.1:=by
  by_cases q:v.1=u.1
  ·exact q
  ·exact (hl.left d ((h _).2 ⟨v,a,by omega,by omega⟩)).elim
 have o:v.2=u.2:=by
  by_cases q:v.2<u.2
  ·exact (f.right a ((h _).1 ⟨u,d,by omega,by omega⟩)).elim
  ·by_cases w:u.2<v.2
   ·exact (hl.right d ((h _).2 ⟨v,a,by omega,by omega⟩)).elim
   ·omega
 rw [show u=v from Prod.ext r.symm o.symm];exact a
theorem Jmn{lo hi:Int}{l:List Run}(h:RunsOK lo hi l):l.Pairwise λa b=>a.1<b.1:=by
 have f:=h.bd;have r:=h.pw;clear h
 induction l with
 | nil=>exact .nil
 | cons x l o=>
  obtain ⟨m,g⟩:=List.pairwise_cons.1 r;have hx:=f x (List.mem_cons_self ..);refine List.pairwise_cons.2 ⟨λy d=>?_,o (λy d=>f y (Au _ d)) g⟩;have:=m y d;omega
theorem J4a{lo hi:Int}{l m:List Run}(hl:RunsOK lo hi l)(d:RunsOK lo hi m)(h:∀x,Jh l x↔Jh m x):l=m:=
 Jdz (R:=λa b:Run=>a.1<b.1) (λa b g f=>by omega) (Jmn hl) (Jmn d) λu=>⟨Jlh hl d h,Jlh d hl λx=>(h x).symm⟩
theorem Jnw{a b:Reg}(f:RegOK a)(o:RegOK b)(h:∀c,Qf a c↔Qf b c){w:Row}(d:w∈a):w∈b:=by
 obtain ⟨u,m⟩:=List.exists_mem_of_ne_nil _ (f.ne w d);have l:=(f.rs w d).bd u m;obtain ⟨v,g,e,-⟩:=(h (u.1,w.1)).1 ⟨w,d,rfl,u,m,Ak _,l.2.1⟩;have r:w.2=v.2:=J4a (f.rs w d) (o.rs v g) λx=>by rw [<-f.in_row d x,<-o.in_row g x,e];exact h _
 rw [show w=v from Prod.ext e.symm r];exact g
theorem Jrb{a b:Reg}(f:RegOK a)(d:RegOK b)(h:∀c,Qf a c↔Qf b c):a=b:=
 Jdz (R:=λa b:Row=>a.1<b.1) (λa b l g=>by omega) f.pw d.pw λw=>⟨Jnw f d h,Jnw d f λc=>(h c).symm⟩
theorem Jtd(r:Reg)(hl:LimR r):@Ya wv (r,r)=some true:=by
 have hL:=hl.1;have a:=Ql (b:=@Q4 wv) (e:=.inr ()) (λi=>⟨(i:Int),r,r,()⟩) r.length (by omega) (λi hi=>by
  have d:=Ac hi;generalize r[i]=w at d;have f:=Ae d;have hLw:=hl.2 w f;have h:=Ql (b:=@Q5 wv) (e:=.inr ⟨(i:Int),r,r,()⟩) (λk=>⟨(i:Int),(k:Int),r,r,w.1,w.2,w.1,w.2,()⟩) w.2.length (by omega) (λk l=>by
   have g:=Ac l;generalize w.2[k]=u at g;unfold Q5;dsimp only;rw [w_ln,Qw (by omega),ge_s (fg g),ge_s (fg g),br_f (by simp [w_nt,w_an,Xr]),Ks,wr (by omega) (by omega)];rfl) (by unfold Q5;dsimp only;rw [w_ln,Kq (by omega)])
  unfold Q4;dsimp only;rw [w_ln,Qw (by omega),ge_s (fg d),ge_s (fg d),br_f (by simp [Jna]),br_f (by simp [Jna])];refine (lo_s h).trans ?_;dsimp only;rw [Ks,wr (by omega) (by omega)];rfl) (by unfold Q4;dsimp only;rw [w_ln,Kq (by omega)])
 unfold Ya;dsimp only;rw [br_f (by simp [Jna])];exact lo_s a
def Jpt(was:Bool)(a:List Run)(i:Nat)(b:List Run)(j:Nat)(out:List Run):HP Bool (HP (List (Int×Int)) (HP Int (HP (List (Int×Int)) (HP Int (HP (List (Int×Int)) Unit))))):=
 let m:=min (bnd a i) (bnd b j);let f:=if bnd a i=m then i+1 else i;let d:=if bnd b j=m then j+1 else j;let now:=decide (f % 2=1)&&decide (d % 2=1)
 ⟨now,a,(f:Int),b,(d:Int),if now=true/\was=false then out++[(m,0)] else if now=false/\was=true then Xd out (λu=>(u.1,m)) else out,()⟩
theorem int_step(was:Bool)(a b out:List Run)(i j:Nat)(y:a.length<=1000000000)(w:b.length<=1000000000)(hi:i<=2 * a.length)(K:j<=2 * b.length)(P:out.length<=1000000000)(G:was=true->out≠[])(l:¬(i=2 * a.length/\j=2 * b.length)) :
  @Qg wv ⟨was,a,(i:Int),b,(j:Int),out,()⟩=some (.go (Jpt was a i b j out)):=by
 have M:@Xm wv ⟨was,a,(i:Int),b,(j:Int),out,()⟩=some (.inl ⟨was,a,(i:Int),b,(j:Int),out,()⟩):=by
  unfold Xm;dsimp only;rw [Jdb y];by_cases A:i=2 * a.length
  ·rw [br_f (by simp [w_nt,A]),Jdb w,br_t (by simp [w_nt];exact λq=>l ⟨A,q⟩)]
  ·rw [br_t (by simp [w_nt,A])]
 generalize J:min (bnd a i) (bnd b j)=m;have F:@jv wv ⟨was,a,(i:Int),b,(j:Int),out,()⟩ (bnd a i) (bnd b j)=some ⟨was,m,a,((if bnd a i=m then i+1 else i:Nat):Int),b,(j:Int),out,()⟩:=by
  unfold jv;dsimp only;rw [Jeh y hi,J4c,J,Ks,wr (by omega) (by omega)];by_cases c:bnd a i=m
  ·rw [br_t (by rw [Xr];simp [c]),if_pos c];rfl
  ·rw [br_f (by rw [Xr];simp [c]),if_neg c]
 generalize r:(if bnd a i=m then i+1 else i)=d at F;have E:@jr wv ⟨was,m,a,(d:Int),b,(j:Int),out,()⟩=some ⟨was,m,a,(d:Int),b,((if bnd b j=m then j+1 else j:Nat):Int),out,()⟩:=by
  unfold jr;dsimp only;rw [Jeh w K,Ks,wr (by omega) (by omega)];by_cases c:bnd b j=m
  ·rw [br_t (by rw [Xr];simp [c]),if_pos c];rfl
  ·rw [br_f (by rw [Xr];simp [c]),if_neg c]
 generalize o:(if bnd b j=m then j+1 else j)=f at E;have B:@js wv ⟨was,m,a,(d:Int),b,(f:Int),out,()⟩=some ⟨was,m,decide (d % 2=1)&&decide (f % 2=1),a,(d:Int),b,(f:Int),out,()⟩:=by
  unfold js;dsimp only;rw [Jvc,Jvc];by_cases c:d % 2=1
  ·rw [br_t (by simp [c])];simp [c,w_nt]
  ·rw [br_f (by simp [c])];simp [c]
 generalize g:(decide (d % 2=1)&&decide (f % 2=1))=now at B;have h:∀ {α:Type} (x:Option α),@W.gd wv α (@W.ft wv 16 (@W.pl wv (@W.ln wv (Int×Int) out) 1)) x=x:=λx=>by rw [w_ln,w_pl];exact Jie (by omega) (by omega)
 have L:@ju wv ⟨was,m,now,a,(d:Int),b,(f:Int),out,()⟩=some ⟨now,a,(d:Int),b,(f:Int),if now=true/\was=false then out++[(m,0)] else if now=false/\was=true then Xd out (λu=>(u.1,m)) else out,()⟩:=by
  unfold ju;dsimp only;rw [h];have nt1:@W.nt wv true=false:=rfl;have nt0:@W.nt wv false=true:=rfl;cases now with
  | true=>
   cases was with
   | true=>rw [nt1,br_t rfl,br_f rfl,br_f rfl,if_neg (by simp),if_neg (by simp)]
   | false=>rw [nt0,br_t rfl,br_t rfl,if_pos (by simp),w_ap]
  | false=>
   cases was with
   | false=>rw [nt0,br_f rfl,br_t rfl,br_f rfl,if_neg (by simp),if_neg (by simp)]
   | true=>
    have H:=Aw.2 (G rfl);obtain ⟨v,N,O⟩:=Jgm (G rfl) m;rw [nt0,br_f rfl,br_t rfl,br_t rfl,w_ln,Zb,wr (by omega) (by omega),Jjr ⟨by omega,by omega⟩,ge_s (fgz (out.length - 1) (by omega) N),if_neg (by simp),if_pos (by simp),w_st,show ((out.length:Int) - 1).toNat=out.length - 1 by omega,O]
 unfold Qg;rw [jo_s M];dsimp only;rw [Jeh y hi,Jeh w K,jo_s F,jo_s E,jo_s B,jo_s L];unfold Jpt;dsimp only;rw [J,r,o,g]
def IntI(a b:List Run)(p:Int)(was:Bool)(i j:Nat)(out:List Run):Prop:=
 At a p i/\At b p j/\was=(decide (i % 2=1)&&decide (j % 2=1)) /\
 ((was=false/\Jeo out/\(∀u∈out,u.2<=p)/\∀x,x<p->(Jh out x↔Jh a x/\Jh b x)) \/
  ∃(o:List Run) (s z:Int),out=o++[(s,z)]/\was=true/\s<=p/\Jeo o/\(∀u∈o,u.2<s)/\(∀x,x<s->(Jh o x↔Jh a x/\Jh b x))/\∀x,s<=x->x<=p->Jh a x/\Jh b x)
theorem int_inv{a b:List Run}(R:RunsOK (-1048576) 1048576 a)(Q:RunsOK (-1048576) 1048576 b){p:Int}{was:Bool}{i j:Nat}{out:List Run}(hI:IntI a b p was i j out)(N:¬(i=2 * a.length/\j=2 * b.length)) :
  ∃m,p<m/\∃(was':Bool) (H G:Nat) (out':List Run),Jpt was a i b j out=⟨was',a,(H:Int),b,(G:Int),out',()⟩/\IntI a b m was' H G out'/\i+j<H+G/\out'.length<=out.length+1:=by
 obtain ⟨hA,hB,Z,hO⟩:=hI;have B:min (bnd a i) (bnd b j)<1048577:=by
  have Y:i<2 * a.length->bnd a i<1048577:=λq=>by have d:=Ac (l:=a) (i:=i / 2) (by omega);have:=R.bd _ (Ae d);simp only [bnd,d];split<;>omega
  have F:j<2 * b.length->bnd b j<1048577:=λq=>by have d:=Ac (l:=b) (i:=j / 2) (by omega);have:=Q.bd _ (Ae d);simp only [bnd,d];split<;>omega
  have w:=hA.1;have E:=hB.1;have L:i<2 * a.length\/j<2 * b.length:=by omega
  rcases L with L|L
  ·have:=Y L;omega
  ·have:=F L;omega
 have hp1:p<bnd a i:=by
  rcases hA.2.2 i (Ag _) with h|h
  ·exact h
  ·have e:a[i / 2]?=none:=As (by omega);have:p<1048577:=by
    have q:At b p j:=hB;by_cases F:j<2 * b.length
    ·rcases hB.2.2 j (Ag _) with h'|h'
     ·have:=Jef Q j;omega
     ·omega
    ·exact (N ⟨by have:=hA.1;omega,by have:=hB.1;omega⟩).elim
   simp only [bnd,e];exact this
 have hp2:p<bnd b j:=by
  rcases hB.2.2 j (Ag _) with h|h
  ·exact h
  ·have e:b[j / 2]?=none:=As (by omega);have:p<1048577:=by have:=Jef R i;omega
   simp only [bnd,e];exact this
 generalize A:min (bnd a i) (bnd b j)=m at B;have y:p<m:=by omega
 obtain ⟨hA',hAx⟩:=Ji1 R hA (m:=m) (by omega) y B;obtain ⟨hB',hBx⟩:=Ji1 Q hB (m:=m) (by omega) y B;refine ⟨m,y,_,_,_,_,by unfold Jpt;rw [A],?_,?_,?_⟩
 ·refine ⟨hA',hB',rfl,?_⟩;have hAm:=Jk5 hA';have hBm:=Jk5 hB';generalize (if bnd a i=m then i+1 else i)=H at *
  generalize (if bnd b j=m then j+1 else j)=G at *
  have hD:∀x,p<=x->x<m->(Jh a x/\Jh b x↔was=true):=λx w E=>by rw [hAx x w E,hBx x w E,Z];simp
  have hDm:Jh a m/\Jh b m↔(decide (H % 2=1)&&decide (G % 2=1))=true:=by rw [hAm,hBm];simp
  generalize (decide (H % 2=1)&&decide (G % 2=1))=now at *
  rcases hO with ⟨M,K,g,J⟩|⟨o,s,z,rfl,M,hs,K,g,J,X⟩
  ·subst M;cases now with
   | false=>
    left;rw [if_neg (by simp),if_neg (by simp)];refine ⟨rfl,K,λu d=>by have:=g u d;omega,λx hx=>?_⟩;by_cases q:x<p
    ·exact J x q
    ·rw [hD x (by omega) hx];refine ⟨λ⟨u,d,w,E⟩=>by have:=g u d;omega,λh=>by simp at h⟩
   | true=>
    right;rw [if_pos (by simp)];refine ⟨out,m,0,rfl,rfl,Ak _,K,λu d=>by have:=g u d;omega,λx hx=>?_,λx w E=>?_⟩
    ·by_cases q:x<p
     ·exact J x q
     ·rw [hD x (by omega) hx];refine ⟨λ⟨u,d,w,E⟩=>by have:=g u d;omega,λh=>by simp at h⟩
    ·have:x=m:=by omega
     subst this;exact hDm.2 rfl
  ·subst M;cases now with
   | true=>
    right;rw [if_neg (by simp),if_neg (by simp)];refine ⟨o,s,z,rfl,rfl,by omega,K,g,J,λx w E=>?_⟩;by_cases q:x<=p
    ·exact X x w q
    ·by_cases F:x=m
     ·subst F;exact hDm.2 rfl
     ·exact (hD x (by omega) (by omega)).2 rfl
   | false=>
    left;rw [if_neg (by simp),if_pos (by simp),X7];refine ⟨rfl,Jim.2 ⟨K,by dsimp only;omega,g⟩,λu d=>?_,λx hx=>?_⟩
    ·rcases Ab.1 d with h|h
     ·have:=g u h;omega
     ·rw [Aa.1 h];exact Ak _
    ·rw [Jgk];dsimp only;by_cases q:x<s
     ·rw [J x q];exact ⟨λh=>h.resolve_right λh=>by omega,.inl⟩
     ·have P:Jh a x/\Jh b x:=by
       by_cases F:x<=p
       ·exact X x (by omega) F
       ·exact (hD x (by omega) hx).2 rfl
      exact ⟨λ_=>P,λ_=>.inr ⟨by omega,hx⟩⟩
 ·by_cases q:bnd a i=m
  ·rw [if_pos q];split<;>omega
  ·have:bnd b j=m:=by omega
   rw [if_pos this];split<;>omega
 ·have O:∀(l:List Run) (f:Run->Run),(Xd l f).length=l.length:=λl f=>by
   rcases l.eq_nil_or_concat with rfl|⟨r,v,rfl⟩
   ·rfl
   ·rw [List.concat_eq_append,X7];simp
  have key:∀nw ws:Bool,(if nw=true/\ws=false then out++[(m,0)] else if nw=false/\ws=true then Xd out (λu=>(u.1,m)) else out).length<=out.length+1:=λnw ws=>by cases nw<;>cases ws<;>simp [O]
  exact key _ _
theorem int_loop(a b:List Run)(P:a.length<=100000000)(O:b.length<=100000000)(r:RunsOK (-1048576) 1048576 a)(w:RunsOK (-1048576) 1048576 b) :
  ∃e,Yl (@Qg wv) bigN ⟨false,a,0,b,0,[],()⟩=some e/\Jeo e.e/\∀x,Jh e.e x↔Jh a x/\Jh b x:=by
 refine Jh7 (b:=@Qg wv) (λs=>∃(p:Int) (was:Bool) (i j:Nat) (out:List Run),s=⟨was,a,(i:Int),b,(j:Int),out,()⟩/\IntI a b p was i j out/\out.length<=i+j)
  (λe=>Jeo e.e/\∀x,Jh e.e x↔Jh a x/\Jh b x) (λs=>(2 * (a.length:Int)+2 * (b.length:Int) - s.j.j.e - s.j.j.j.j.e).toNat) ?_ ⟨-1048577,false,0,0,[],rfl,⟨⟨by omega,by omega,λk h=>?_⟩,⟨by omega,by omega,λk h=>?_⟩,rfl,.inl ⟨rfl,⟨by simp,.nil⟩,by simp,λx hx=>?_⟩⟩,by simp⟩ (by dsimp only;omega)
 ·rintro s ⟨p,was,i,j,out,rfl,hI,Y⟩;have B:=hI.1.1;have A:=hI.2.1.1;by_cases d:i=2 * a.length/\j=2 * b.length
  ·right;obtain ⟨rfl,rfl⟩:=d;have H:@Xm wv ⟨was,a,((2 * a.length:Nat):Int),b,((2 * b.length:Nat):Int),out,()⟩=some (.inr ⟨out,()⟩):=by unfold Xm;dsimp only;rw [Jdb (by omega),br_f (by simp [w_nt]),Jdb (by omega),br_f (by simp [w_nt])]
   unfold Qg;rw [jo_s H];refine ⟨_,rfl,?_⟩;obtain ⟨hA,hB,L,hO⟩:=hI;have l:was=false:=by rw [L];simp
   rcases hO with ⟨f,G,F,E⟩|⟨o,s,z,rfl,f,-⟩
   ·refine ⟨G,λx=>?_⟩;by_cases q:x<p
    ·exact E x q
    ·refine ⟨λ⟨u,g,y,Q⟩=>by have:=F u g;omega,λ⟨y,Q⟩=>?_⟩;have:At a x (2 * a.length):=⟨Ag _,λk h=>by have:=hA.2.1 k h;omega,λk h=>.inr h⟩;have:=(Jk5 this).1 y;omega
   ·rw [l] at f;cases f
  ·left;obtain ⟨m,M,was',K,J,out',e,hI',N,v⟩:=int_inv r w hI d;refine ⟨_,int_step was a b out i j (by omega) (by omega) B A (by omega) (λq=>?_) d,?_,?_⟩
   ·rcases hI.2.2.2 with ⟨f,-⟩|⟨o,s,z,rfl,-⟩
    ·rw [f] at q;cases q
    ·simp
   ·rw [e];exact ⟨m,was',K,J,out',rfl,hI',by omega⟩
   ·rw [e];have X:=hI'.1.1;have R:=hI'.2.1.1;dsimp only;omega
 ·by_cases q:2 * a.length<=k
  ·exact .inr q
  ·left;have:=Jef r k;omega
 ·by_cases q:2 * b.length<=k
  ·exact .inr q
  ·left;have:=Jef w k;omega
 ·constructor
  ·rintro ⟨u,g,-⟩;cases g
  ·rintro ⟨⟨u,g,B,A⟩,-⟩;have:=r.bd u g;omega
open Classical in
theorem Jtr(a b:List Run)(f:a.length<=100000000)(d:b.length<=100000000)(h:RunsOK (-1048576) 1048576 a)(g:RunsOK (-1048576) 1048576 b) :
  ∃l,@Yt wv (a,b)=some l/\Jeo l/\∀x,Jh l x↔Jh a x/\Jh b x:=by obtain ⟨e,m,r,o⟩:=int_loop a b f d h g;refine ⟨e.e,?_,r,o⟩;unfold Yt;dsimp only;rw [Yj (by omega),br_f (by simp [w_nt,h]),Yj (by omega),br_f (by simp [w_nt,g])];exact lo_s m
def shrU(k:Int)(u:Run):Option Run:=if u.1+k<u.2 - k then some (u.1+k,u.2 - k) else none
def shrk(k:Int)(l:List Run):List Run:=l.filterMap (shrU k)
theorem J3i(l:List Run)(k:Int)(hl:l.length<=1000000000)(h:RunsOK (-1048576) 1048576 l)(m:0<=k/\k<=1048576):@Jbe wv (l,k)=some (shrk k l):=by
 have a:=Ql (b:=@jm wv) (e:=(⟨shrk k l,()⟩:HP (List Run) Unit)) (λi=>(⟨k,l,(l.length:Int),(i:Int),shrk k (l.take i),()⟩:HP Int (HP (List Run) (HP Int (HP Int (HP (List Run) Unit)))))) l.length (by omega) (λi hi=>by
  have hx:=Ac hi;generalize l[i]=u at hx;have g:=h.bd u (Ae hx);have d:(shrk k (l.take i)).length<=l.length:=by refine Nat.le_trans (List.length_filterMap_le _ _) ?_;rw [Ap];omega
  have e:shrk k (l.take (i+1))=shrk k (l.take i)++(shrU k u).toList:=by unfold shrk;rw [Qc hx,List.filterMap_append];cases f:shrU k u<;>simp [f]
  unfold jm;dsimp only;rw [Qw (by omega),ge_s (fg hx),Ks,Ks,Zb,wr (n:=(i:Int)+1) (by omega) (by omega),wr (n:=u.1+k) (by omega) (by omega),wr (n:=u.2 - k) (by omega) (by omega),e];unfold shrU;by_cases q:u.1+k<u.2 - k
  ·rw [Qw q,if_pos q,w_ln,w_pl,Jie (by omega) (by omega),w_ap];rfl
  ·rw [Kq q,if_neg q];show _=some (Nx.go (⟨k,l,(l.length:Int),((i+1:Nat):Int),shrk k (l.take i)++[],()⟩:HP Int (HP (List Run) (HP Int (HP Int (HP (List Run) Unit))))));rw [List.append_nil];rfl) (by unfold jm;dsimp only;rw [Kq (by omega),Ah])
 unfold Jbe;dsimp only;rw [Yj hl,br_f (by simp [w_nt,h]),Kq (by omega),br_f (by rw [Jat];exact decide_eq_false (by omega)),w_ln];exact (lo_s a).trans rfl
theorem J34{lo hi:Int}{l:List Run}(h:RunsOK lo hi l){k:Int}(r:0<=k):RunsOK lo hi (shrk k l):=by
 refine ⟨λu m=>?_,?_⟩
 ·obtain ⟨v,g,e⟩:=Aj.1 m;unfold shrU at e;split at e
  ·injection e with e;subst e;have:=h.bd v g;dsimp only;omega
  ·cases e
 ·refine List.Pairwise.filterMap (S:=λa b:Run=>a.2<b.1) (shrU k) (λa b o c f d hd=>?_) h.pw;unfold shrU at f hd;split at f
  ·split at hd
   ·injection f with f;injection hd with hd;subst f;subst hd;dsimp only;omega
   ·cases hd
  ·cases f
theorem J23{lo hi:Int}{l:List Run}(h:RunsOK lo hi l){k:Int}(A:0<=k)(x:Int):Jh (shrk k l) x↔∀y,x - k<=y->y<=x+k->Jh l y:=by
 constructor
 ·rintro ⟨u,d,g,f⟩ y o m;obtain ⟨v,r,e⟩:=Aj.1 d;unfold shrU at e;split at e
  ·injection e with e;subst e;dsimp only at g f;exact ⟨v,r,by omega,by omega⟩
  ·cases e
 ·intro a;obtain ⟨u,d,g,f⟩:=a (x - k) (Ak _) (by omega);have B:x+k<u.2:=by apply Classical.byContradiction;intro w;have:=(Ju4 h u.2).1 ⟨u,d,rfl⟩;exact this.2 (a u.2 (by omega) (by omega))
  exact ⟨(u.1+k,u.2 - k),Aj.2 ⟨u,d,if_pos (by omega)⟩,by dsimp only;omega,by dsimp only;omega⟩
theorem isect(a b:List Run)(g:a.length<=100000000)(f:b.length<=100000000)(m:RunsOK (-4096) 4096 a)(r:RunsOK (-4096) 4096 b) :
  ∃l,@Yt wv (a,b)=some l/\RunsOK (-4096) 4096 l/\∀x,Jh l x↔Jh a x/\Jh b x:=by have wid:∀ {l:List Run},RunsOK (-4096) 4096 l->RunsOK (-1048576) 1048576 l:=λ{l} h=>⟨λu d=>by have:=h.bd u d;omega,h.pw⟩;obtain ⟨l,w,v,o⟩:=Jtr a b g f (wid m) (wid r);refine ⟨l,w,Jrk v λx hx=>?_,o⟩;obtain ⟨u,d,A,y⟩:=((o x).1 hx).1;have:=m.bd u d;omega
theorem Jiu{n:Nat}{l:List Nat}(h:l.Nodup)(a:∀x∈l,x<n):l.length<=n:=by have:=zg (m:=List.range n) h λx hx=>List.mem_range.2 (a x hx);rwa [List.length_range] at this
theorem Jbo{l:List Run}(h:RunsOK (-4096) 4096 l):l.length<=8192:=by
 have o:(l.map λu:Run=>(u.1+4096).toNat).Nodup:=List.pairwise_map.2 ((List.Pairwise.and_mem.1 h.pw).imp λ{a b} ⟨m,f,g⟩ e=>by have:=h.bd a m;have:=h.bd b f;omega)
 have:=Jiu (n:=8192) o λx hx=>by obtain ⟨u,d,rfl⟩:=Ax.1 hx;have:=h.bd u d;omega
 rwa [List.length_map] at this
abbrev Mr:=List (Int×List Run)
def atM:Mr->Int->List Run
 | [],_=>[]
 | e::r,y=>if y=e.1 then e.2 else atM r y
theorem mg_atM(m:Mr)(y:Int):@W.mg wv I (.ls (.p I I)) m y []=atM m y:=by
 show (Zl (a:=I) (b:=.ls (.p I I)) y m).getD []=_
 induction m with
 | nil=>rfl
 | cons e r d=>
  show _=if y=e.1 then e.2 else atM r y;by_cases h:y=e.1
  ·have hd:Ty.eqb I y e.1=true:=beq_iff_eq.2 h;rw [if_pos h];exact congrArg (λo:Option (List Run)=>o.getD []) (show Zl (a:=I) (b:=.ls (.p I I)) y (e::r)=some e.2 from if_pos hd)
  ·have hd:¬Ty.eqb I y e.1=true:=λf=>h (beq_iff_eq.1 f);rw [if_neg h,<-d];exact congrArg (λo:Option (List Run)=>o.getD []) (show Zl (a:=I) (b:=.ls (.p I I)) y (e::r)=Zl (a:=I) (b:=.ls (.p I I)) y r from if_neg hd)
theorem ms_new(m:Mr)(y:Int)(v:List Run)(h:∀e∈m,e.1≠y):@W.ms wv I (.ls (.p I I)) m y v=m++[(y,v)]:=by
 show mSet (a:=I) (b:=.ls (.p I I)) y v m=_
 induction m with
 | nil=>rfl
 | cons e r d=>
  show (if Ty.eqb I y e.1=true then (y,v)::r else e::mSet (a:=I) (b:=.ls (.p I I)) y v r)=_;have hd:¬Ty.eqb I y e.1=true:=λg=>h e (List.mem_cons_self ..) (beq_iff_eq.1 g).symm;rw [if_neg hd,d λe f=>h e (Au _ f)];rfl
theorem Jw2(r:Reg)(f:List Run->List Run)(d:f []=[])(y:Int):atM (r.map λw=>(w.1,f w.2)) y=f (rowY r y):=by
 induction r with
 | nil=>exact d.symm
 | cons w r a=>
  unfold rowY at a ⊢;show (if y=w.1 then f w.2 else atM (r.map λw=>(w.1,f w.2)) y)=_;by_cases h:y=w.1
  ·rw [if_pos h,List.find?_cons_of_pos (by simp [h])];rfl
  ·rw [if_neg h,a,List.find?_cons_of_neg (by simp;exact λe=>h e.symm)]
def deep(r:Reg)(k:Int)(c:Cell):Prop:=∀dx dy:Int,-k<=dx->dx<=k->-k<=dy->dy<=k->Qf r (c.1+dx,c.2+dy)
abbrev SeA:=HP Int (HP Reg (HP Int (HP Int (HP Reg (HP Mr Unit)))))
abbrev SeB:=HP Int (HP Reg (HP Int (HP Int (HP Mr (HP Reg Unit)))))
abbrev SeC:=HP Int (HP Int (HP (List Run) (HP Int (HP Int (HP Reg (HP Int (HP Int (HP Int (HP (List Run) (HP Mr (HP Reg Unit)))))))))))
abbrev OeC:=HP (List Run) (HP Int (HP Reg (HP Int (HP Int (HP Int (HP (List Run) (HP Reg (HP Mr Unit))))))))
def Jgi(k:Int)(r:Reg):Mr:=r.map λw=>(w.1,shrk k w.2)
theorem Erode_L0(a:Reg×Int)(r:Reg)(hr:RegOK r)(hl:LimR r)(k:Int)(E:0<=k/\k<=64) :
  Yl (@Yv wv a) bigN (⟨k,r,(r.length:Int),0,r,[],()⟩:SeA)=some (⟨k,r,Jgi k r,()⟩:HP Int (HP Reg (HP Mr Unit))):=by
 have hL:=hl.1;refine Ql (b:=@Yv wv a) (λi=>(⟨k,r,(r.length:Int),(i:Int),r,Jgi k (r.take i),()⟩:SeA)) r.length (by omega) (λi hi=>?_) ?_
 ·have f:=Ac hi;generalize r[i]=w at f;have d:=Ae f;have g:=hr.rs w d;unfold Yv;dsimp only;rw [Qw (by omega),ge_s (fg f)];refine (ca_s (c:=zt) (J3i w.2 k (hl.2 w d) ⟨λu y=>by have:=g.bd u y;omega,g.pw⟩ (by omega))).trans ?_;have h:@W.ms wv I (.ls (.p I I)) (Jgi k (r.take i)) w.1 (shrk k w.2)=(Jgi k (r.take i))++[(w.1,shrk k w.2)]:=ms_new _ _ _ λe A=>by obtain ⟨v,o,rfl⟩:=Ax.1 A;obtain ⟨j,m⟩:=Av o;have l:=(Ad.1 m).1;rw [Ap] at l;rw [Ao (by omega)] at m;have:=Jo2 hr m f (by omega);dsimp only;omega
  have B:@W.ar wv .add .i64 (i:Int) 1=((i+1:Nat):Int):=by rw [Ks,wr (by omega) (by omega)];omega
  rw [B];exact congrArg (λz:Mr=>some (Nx.go (⟨k,r,(r.length:Int),((i+1:Nat):Int),r,z,()⟩:SeA))) (h.trans (Jgq f).symm)
 ·unfold Yv;dsimp only;rw [Kq (by omega),Ah]
theorem Erode_L2(a:Reg×Int)(r:Reg)(hr:RegOK r)(k:Int)(B:0<=k/\k<=64)(len idx:Int)(w:Row)(N:-4096<=w.1/\w.1<4096)(out:Reg) :
  ∃o,Yl (@Yq wv a) bigN (⟨w.1,k,shrk k (rowY r (w.1 - k)),w.1 - k+1,k,r,len,idx,w.1,w.2,Jgi k r,out,()⟩:SeC) =
    some (⟨o,k,r,len,idx,w.1,w.2,out,Jgi k r,()⟩:OeC) /\
   RunsOK (-4096) 4096 o/\∀x,Jh o x↔deep r k (x,w.1):=by
 obtain ⟨e,K,o,rfl,m,v⟩:=jq (b:=@Yq wv a)
  (λj s=>∃o,s=(⟨w.1,k,o,w.1 - k+1+(j:Int),k,r,len,idx,w.1,w.2,Jgi k r,out,()⟩:SeC)/\RunsOK (-4096) 4096 o/\∀x,Jh o x↔∀y,w.1 - k<=y->y<=w.1 - k+(j:Int)->Jh (shrk k (rowY r y)) x)
  (λe=>∃o,e=(⟨o,k,r,len,idx,w.1,w.2,out,Jgi k r,()⟩:OeC)/\RunsOK (-4096) 4096 o/\∀x,Jh o x↔deep r k (x,w.1))
  (2 * k).toNat (by omega) (s0:=⟨w.1,k,shrk k (rowY r (w.1 - k)),w.1 - k+1,k,r,len,idx,w.1,w.2,Jgi k r,out,()⟩)
  ⟨_,by simp,J34 (Jid hr _) B.1,λx=>⟨λh y m v=>by rw [show y=w.1 - k by omega];exact h,λh=>h _ (Ak _) (by omega)⟩⟩
  (λj s O=>by
   rintro ⟨o,rfl,m,v⟩;have f:=J34 (Jid hr (w.1 - k+1+(j:Int))) B.1;obtain ⟨l,G,F,E⟩:=isect o (shrk k (rowY r (w.1 - k+1+(j:Int)))) (by have:=Jbo m;omega) (by have:=Jbo f;omega) m f;have em:@W.mg wv I (.ls (.p I I)) (Jgi k r) (w.1 - k+1+(j:Int)) []=shrk k (rowY r (w.1 - k+1+(j:Int))):=(mg_atM _ _).trans (Jw2 r (shrk k) rfl _);refine ⟨_,?_,l,rfl,F,λx=>?_⟩
   ·unfold Yq;dsimp only;rw [em,br_t (by rw [Jir,Ks,wr (by omega) (by omega)];exact decide_eq_true (by omega))];refine (ca_s (c:=Ys) G).trans ?_;rw [Ks,wr (by omega) (by omega),show w.1 - k+1+(j:Int)+1=w.1 - k+1+((j+1:Nat):Int) by omega]
   ·rw [E,v];constructor
    ·rintro ⟨M,L⟩ y d A;by_cases e:y=w.1 - k+1+(j:Int)
     ·rw [e];exact L
     ·exact M y d (by omega)
    ·intro g;exact ⟨λy d A=>g y d (by omega),g _ (by omega) (by omega)⟩)
  (by
   rintro s ⟨o,rfl,m,v⟩;refine ⟨_,?_,o,rfl,m,λx=>?_⟩
   ·unfold Yq;dsimp only;rw [br_f (by rw [Jir,Ks,wr (by omega) (by omega)];exact decide_eq_false (by omega))]
   ·rw [v];unfold deep;constructor
    ·intro g dx dy Q P a3 a4;have:=(J23 (Jid hr (w.1+dy)) B.1 x).1 (g (w.1+dy) (by omega) (by omega)) (x+dx) (by omega) (by omega);exact (Jdi hr).2 this
    ·intro g y d A;refine (J23 (Jid hr y) B.1 x).2 λz J H=>(Jdi hr).1 ?_;have:=g (z - x) (y - w.1) (by omega) (by omega) (by omega) (by omega);dsimp only at this;rwa [show x+(z - x)=z by omega,show w.1+(y - w.1)=y by omega] at this)
 exact ⟨o,K,m,v⟩
theorem Jw9{E:Reg}{w:Row}(h:RegOK E)(l:-4096<=w.1/\w.1<4096)(m:w.2≠[])(hr:RunsOK (-4096) 4096 w.2)(f:∀v∈E,v.1<w.1):RegOK (E++[w]):=by
 refine ⟨λv d=>?_,Af.2 ⟨h.pw,Aq _ _,λa o b g=>?_⟩,λv d=>?_,λv d=>?_⟩
 ·rcases Ab.1 d with q|q
  ·exact h.y v q
  ·rw [Aa] at q;subst q;exact l
 ·rw [Aa] at g;subst g;exact f a o
 ·rcases Ab.1 d with q|q
  ·exact h.ne v q
  ·rw [Aa] at q;subst q;exact m
 ·rcases Ab.1 d with q|q
  ·exact h.rs v q
  ·rw [Aa] at q;subst q;exact hr
theorem J1r{E:Reg}{w:Row}{c:Cell}:Qf (E++[w]) c↔Qf E c\/(w.1=c.2/\Jh w.2 c.1):=by
 unfold Qf;constructor
 ·rintro ⟨v,a,h⟩;rcases Ab.1 a with q|q
  ·exact .inl ⟨v,q,h⟩
  ·rw [Aa] at q;subst q;exact .inr h
 ·rintro (⟨v,a,h⟩|h)
  ·exact ⟨v,Ab.2 (.inl a),h⟩
  ·exact ⟨w,Ab.2 (.inr (Aa.2 rfl)),h⟩
theorem Jh9{r:Reg}(h:RegOK r):r.length<=8192:=by
 have m:(r.map λw:Row=>(w.1+4096).toNat).Nodup:=List.pairwise_map.2 ((List.Pairwise.and_mem.1 h.pw).imp λ{a b} ⟨l,f,g⟩ e=>by have:=h.y a l;have:=h.y b f;omega)
 have:=Jiu (n:=8192) m λx hx=>by obtain ⟨u,d,rfl⟩:=Ax.1 hx;have:=h.y u d;omega
 rwa [List.length_map] at this
theorem Erode_ok(r:Reg)(hr:RegOK r)(hl:LimR r)(k:Int)(N:0<=k/\k<=64):∃E,@Zo wv (r,k)=some E/\RegOK E/\∀c,Qf E c↔deep r k c:=by
 have hL:=hl.1;obtain ⟨e,Y,E,rfl,l,m,-⟩:=jq (b:=@Yr wv (r,k))
  (λi s=>∃E,s=(⟨k,r,(r.length:Int),(i:Int),Jgi k r,E,()⟩:SeB)/\RegOK E/\(∀c,Qf E c↔(∃w∈r.take i,w.1=c.2)/\deep r k c)/\∀v∈E,∃w∈r.take i,v.1=w.1)
  (λe=>∃E,e=(⟨E,()⟩:HP Reg Unit)/\RegOK E/\(∀c,Qf E c↔deep r k c)/\True)
  r.length (by omega) (s0:=⟨k,r,(r.length:Int),0,Jgi k r,[],()⟩)
  ⟨[],rfl,⟨by simp,.nil,by simp,by simp⟩,λc=>⟨λ⟨w,d,_⟩=>(Ai d).elim,λ⟨⟨w,d,_⟩,_⟩=>by rw [List.take_zero] at d;exact (Ai d).elim⟩,λv f=>(Ai f).elim⟩
  (λi s hi=>by
   rintro ⟨E,rfl,l,m,A⟩;have d:=Ac hi;generalize r[i]=w at d;have F:=Ae d;have M:=hr.y w F;obtain ⟨o,L,K,B⟩:=Erode_L2 (r,k) r hr k N (r.length:Int) (i:Int) w M E;have X:=Jbo K;have hEl:=Jh9 l;have em:@W.mg wv I (.ls (.p I I)) (Jgi k r) (w.1 - k) []=shrk k (rowY r (w.1 - k)):=(mg_atM _ _).trans (Jw2 r (shrk k) rfl _);have Q:@W.ar wv .sub .i64 w.1 k=w.1 - k:=by rw [Zb,wr (by omega) (by omega)]
   have P:@W.ar wv .add .i64 (w.1 - k) 1=w.1 - k+1:=by rw [Ks,wr (by omega) (by omega)]
   have O:@W.ar wv .add .i64 (i:Int) 1=((i+1:Nat):Int):=by rw [Ks,wr (by omega) (by omega)];omega
   have G:∀v∈E,v.1<w.1:=λv f=>by obtain ⟨z,a,e⟩:=A v f;obtain ⟨j,J⟩:=Av a;have H:=(Ad.1 J).1;rw [Ap] at H;rw [Ao (by omega)] at J;have:=Jo2 hr J d (by omega);omega
   have y:=Qc d;by_cases h:o=[]
   ·refine ⟨(⟨k,r,(r.length:Int),((i+1:Nat):Int),Jgi k r,E,()⟩:SeB),?_,E,rfl,l,λc=>?_,λv f=>?_⟩
    ·unfold Yr;dsimp only;rw [Qw (by omega),ge_s (fg d),Q,em,P];refine (lo_s L).trans ?_;dsimp only;rw [br_f (by rw [Jat,w_ln,h];rfl),O]
    ·rw [m,y];constructor
     ·rintro ⟨⟨z,a,e⟩,g⟩;exact ⟨⟨z,Ab.2 (.inl a),e⟩,g⟩
     ·rintro ⟨⟨z,a,e⟩,g⟩;rcases Ab.1 a with q|q
      ·exact ⟨⟨z,q,e⟩,g⟩
      ·rw [Aa] at q;subst q;have:=(B c.1).2 (by rw [e];exact g);rw [h] at this;obtain ⟨u,R,_⟩:=this;exact (Ai R).elim
    ·obtain ⟨z,a,e⟩:=A v f;exact ⟨z,by rw [y];exact Ab.2 (.inl a),e⟩
   ·have Z:=Aw.2 h;refine ⟨(⟨k,r,(r.length:Int),((i+1:Nat):Int),Jgi k r,E++[(w.1,o)],()⟩:SeB),?_,_,rfl,Jw9 (w:=(w.1,o)) l M h K G,λc=>?_,λv f=>?_⟩
    ·unfold Yr;dsimp only;rw [Qw (by omega),ge_s (fg d),Q,em,P];refine (lo_s L).trans ?_;dsimp only;rw [br_t (by rw [Jat,w_ln];exact decide_eq_true (by omega)),w_ln,w_pl,Jie (by omega) (by omega),w_ln,w_pl,fit32 (by omega) (by omega),w_ap,O]
    ·rw [J1r,m,y];constructor
     ·rintro (⟨⟨z,a,e⟩,g⟩|⟨e,g⟩)
      ·exact ⟨⟨z,Ab.2 (.inl a),e⟩,g⟩
      ·have e:w.1=c.2:=e;refine ⟨⟨w,Ab.2 (.inr (Aa.2 rfl)),e⟩,?_⟩;have:=(B c.1).1 g;rwa [e] at this
     ·rintro ⟨⟨z,a,e⟩,g⟩;rcases Ab.1 a with q|q
      ·exact .inl ⟨⟨z,q,e⟩,g⟩
      ·rw [Aa] at q;subst q;exact .inr ⟨e,(B c.1).2 (by rw [e];exact g)⟩
    ·rcases Ab.1 f with q|q
     ·obtain ⟨z,a,e⟩:=A v q;exact ⟨z,by rw [y];exact Ab.2 (.inl a),e⟩
     ·rw [Aa] at q;subst q;exact ⟨w,by rw [y];exact Ab.2 (.inr (Aa.2 rfl)),rfl⟩)
  (by
   rintro s ⟨E,rfl,l,m,A⟩;refine ⟨_,?_,E,rfl,l,λc=>?_,trivial⟩
   ·unfold Yr;dsimp only;rw [Kq (by omega)]
   ·rw [m,Ah];refine ⟨And.right,λg=>⟨?_,g⟩⟩;have:=g 0 0 (by omega) (by omega) (by omega) (by omega);obtain ⟨w,d,e,_⟩:=this;exact ⟨w,d,by rw [e];dsimp only;omega⟩)
 refine ⟨E,?_,l,m⟩;have f:@Jbj wv (r,k)=some true:=by
  classical
  unfold Jbj;dsimp only;rw [br_t (by rw [Jl8];exact decide_eq_true (by omega)),br_t (by rw [Jir];exact decide_eq_true (by omega)),jf hl,decide_eq_true hr]
 unfold Zo;refine (ca_s (c:=za) f).trans ?_;rw [br_f (by rfl),w_ln];refine (lo_s (Erode_L0 (r,k) r hr hl k N)).trans ?_;dsimp only;rw [w_ln];exact (lo_s Y).trans rfl
theorem Jzz:∀l:List Int,l.Pairwise (·<=·)->(cptF l).Pairwise (·<·)/\∀x,x∈cptF l↔x∈l:=by
 intro l;have key:∀m:List Int,(m.reverse).Pairwise (·<=·)->(cptF m.reverse).Pairwise (·<·)/\∀x,x∈cptF m.reverse↔x∈m.reverse:=by
  intro m
  induction m with
  | nil=>intro _;exact ⟨.nil,λx=>Iff.rfl⟩
  | cons a m B=>
   intro h;rw [List.reverse_cons] at h ⊢;obtain ⟨E,J,w⟩:=Af.1 h;obtain ⟨g,d⟩:=B E;have hl:=(Jea m.reverse m.reverse.length (Ag _)).2;rw [Ah] at hl;rw [Jtn];unfold cptS;split
   ·rename_i f;refine ⟨g,λx=>?_⟩;rw [d,Ab,Aa];refine ⟨.inl,λhx=>hx.elim id λe=>?_⟩;subst e;exact (d x).1 (List.mem_of_getLast? f)
   ·rename_i f;refine ⟨Af.2 ⟨g,Aq _ _,λx hx y v=>?_⟩,λx=>by rw [Ab,Ab,d]⟩;rw [Aa] at v;subst v;have r:x<=y:=w x ((d x).1 hx) y (Aa.2 rfl);rcases Int.lt_or_eq_of_le r with q|q
    ·exact q
    ·exfalso;subst q;have o:cptF m.reverse≠[]:=λe=>by rw [e] at hx;cases hx
     obtain ⟨M,z,e⟩:∃M z,cptF m.reverse=M++[z]:=⟨_,_,(List.dropLast_concat_getLast o).symm⟩;rw [e,List.getLast?_concat] at f;have H:z<=x:=w z ((d z).1 (by rw [e];exact Ab.2 (.inr (Aa.2 rfl)))) x (Aa.2 rfl);rw [e] at g hx;obtain ⟨G,F,A⟩:=Af.1 g;rcases Ab.1 hx with q|q
     ·have:=A x q z (Aa.2 rfl);omega
     ·rw [Aa] at q;exact f (by rw [q])
 have:=key l.reverse;rwa [List.reverse_reverse] at this
theorem sortI_ok(l:List Int)(hl:l.length<=1000000000):∃r,Jqo l=some r/\r.Pairwise (·<=·)/\∀x,x∈r↔x∈l:=by refine ⟨Jf6 (λx y:Int=>decide (x<=y)) l,by unfold Jqo;rw [if_pos (by omega)],?_,λx=>(Jae l).mem_iff⟩;exact (Jkg (le:=λx y:Int=>decide (x<=y)) (λx y z d a=>by simp only [decide_eq_true_eq] at *;omega) (λx y=>by simp only [decide_eq_true_eq];omega) l).imp λh=>of_decide_eq_true h
theorem Jwd(l:List Run)(hl:l.length<=1000000000):@Kz wv l=some l:=by
 have e:∀ {α:Type} (x:Option α),@W.gd wv α (@W.ft wv 16 (@W.pl wv 0 (@W.ln wv Run l))) x=x:=λx=>by rw [w_ln,w_pl];exact Jie (by omega) (by omega)
 unfold Kz;rw [e,w_nq];unfold nlv;rw [w_ln];split
 ·rename_i a;have:l=[]:=List.eq_nil_of_length_eq_zero (by omega);subst this;simp [w_br]
 ·rfl
abbrev Sr1S:=HP Reg (HP Reg (HP Int (HP Reg (HP Int (HP Int (HP Reg (HP Reg (HP (List Int) Unit))))))))
abbrev Or1S:=HP Reg (HP Reg (HP Int (HP Reg (HP Reg (HP (List Int) Unit)))))
abbrev Sr0S:=HP Reg (HP Reg (HP Int (HP Reg (HP Reg (HP (List Int) Unit)))))
abbrev Sr3S:=HP (List Int) (HP Int (HP Int (HP Reg (HP Reg (HP Reg Unit)))))
theorem Jct{r:Reg}(h:RegOK r):LimR r:=⟨by have:=Jh9 h;omega,λw a=>by have:=Jbo (h.rs w a);omega⟩
end Go.Proofs.YtmfagdfkpjgeiaaGreat
