/- The region of cells: what the program's text says. Conditions: at most 10^9 cells. -/
import Derived.Test.YtmfagdfkpjgeiaaGreatXD
open Option renaming some -> AC, none -> AD
open Bool renaming true -> AE, false -> AF
open _root_ renaming List -> AG, Option -> AH, Int -> AI, Bool -> AN, if_pos -> AS, decide_eq_true -> AW, decide_eq_false -> B0, Nat -> AM, if_neg -> AR, congrArg -> AT
set_option linter.unusedVariables false
set_option linter.unusedSimpArgs false
set_option linter.unusedSectionVars false
set_option maxRecDepth 100000
namespace Go.Proofs.YtmfagdfkpjgeiaaGreat
open Go Go.Vv Go.Dn Go.Dn.W
open List renaming mem_singleton -> Aa, mem_append -> Ab, getElem?_eq_getElem -> Ac, getElem?_eq_some_iff -> Ad, mem_of_getElem? -> Ae, take_length -> Af, not_mem_nil -> Ag, length_append -> Ah, length_map -> Ai, pairwise_append -> Aj, mem_map -> Ak, length_take -> Am, mem_of_find?_eq_some -> Ao, getElem?_take_of_lt -> Aq, pairwise_singleton -> Ar, mem_iff_getElem? -> As, getElem?_of_mem -> Au, length_nil -> Av, eq_nil_of_length_eq_zero -> Aw, length_pos_iff -> Ax, mem_filterMap -> Ay, pairwise_iff_getElem -> Az, pairwise_map -> Ba, length_cons -> Bb, getElem?_eq_none -> Bc
open Nat renaming le_refl -> Ap
open Int renaming le_refl -> Bd
open Prod.mk renaming injEq -> Be
def WL(x y:Cell):AN:=!(Go.Proofs.ltOf GA) y x
theorem wK{x y:Cell}:WL x y=AE↔x.2<y.2\/(x.2=y.2/\x.1<=y.1):=by simp only [WL,Go.Proofs.ltOf,Bool.not_eq_true',decide_eq_false_iff_not,sF];omega
theorem Kan(l:AG Cell):(Hy WL l).Pairwise λa b=>a.2<b.2\/(a.2=b.2/\a.1<=b.1):=by
 refine (tQ (le:=WL) (λx y z f d=>?_) (λx y=>?_) l).imp λh=>wK.1 h
 .rw [wK] at *;omega
 .rw [wK,wK];omega
theorem WO{α:Type}{l:AG Cell}(hl:l.length<=1000000000)(k:AG (AI×AI)->AH α):@W.call wv α Jpf l k=k (Hy WL l):=by refine BM (c:=Jpf) (a:=l) (r:=Hy WL l) ?_;show (if List.length (α:=AI×AI) l<4611686018427387904 then AC (Hy (α:=AI×AI) (λx y=>!(Go.Proofs.ltOf GA) y x) l) else AD)=_;rw [AS (by omega)];rfl
def OfI(out:AQ)(runs:AG Run)(done:AG Cell):Prop:=
 (out=[]/\runs=[]/\done=[])\/∃(pre:AQ) (y:AI) (z rs:AG Run) (a b:AI),out=pre++[(y,z)]/\runs=rs++[(a,b)]/\AJ (pre++[(y,rs++[(a,b)])]) /\
  (∀c,J1 (pre++[(y,rs++[(a,b)])]) c↔c∈done)
theorem O6{T:AQ}{c:Cell}(h:AJ T)(g:(-4096<=c.1/\c.1<4096)/\(-4096<=c.2/\c.2<4096))(a:∀w∈T,w.1<c.2):AJ (T++[(c.2,[(c.1,c.1+1)])])/\∀d,J1 (T++[(c.2,[(c.1,c.1+1)])]) d↔J1 T d\/d=c:=by
 refine ⟨uG.2 ⟨h,g.2,by simp,⟨λx hx=>?_,Ar _ _⟩,a⟩,λd=>?_⟩
 .rw [Aa.1 hx];dsimp only;omega
 .rw [dB];constructor
  .rintro (h|⟨m,u,f,l⟩)
   .exact .inl h
   .rw [Aa.1 f] at l;right;obtain ⟨v,r⟩:=d;obtain ⟨A,y⟩:=c;simp only [Be] at *
    omega
  .rintro (h|rfl)
   .exact .inl h
   .exact .inr ⟨rfl,_,Aa.2 rfl,by dsimp only;omega⟩
open Classical in
theorem YH(l:AG Cell)(hl:l.length<=1000000000)(hb:∀c∈l,(-4096<=c.1/\c.1<4096)/\(-4096<=c.2/\c.2<4096))(hs:l.Pairwise λa b=>a.2<b.2\/(a.2=b.2/\a.1<=b.1)) :
  ∃e,Qm (@Zv wv) CK ⟨(l.length:AI),0,l,[],[],()⟩=AC e/\AJ (Qf e.e λy=>(y.1,e.j.e))/\∀c,J1 (Qf e.e λy=>(y.1,e.j.e)) c↔c∈l:=by
 refine jh (b:=@Zv wv) (λi s=>∃out runs,s=⟨(l.length:AI),(i:AI),l,out,runs,()⟩/\out.length<=i/\runs.length<=i/\OfI out runs (l.take i)) (λe=>AJ (Qf e.e λy=>(y.1,e.j.e))/\∀c,J1 (Qf e.e λy=>(y.1,e.j.e)) c↔c∈l) l.length (by omega) ⟨[],[],rfl,by simp,by simp,.inl ⟨rfl,rfl,by simp⟩⟩ ?_ ?_
 .rintro i s hi ⟨out,runs,rfl,M,hr,hI⟩;have hx:=Ac hi;generalize l[i]=c at hx;have H:=hb c (Ae hx);have r:=Ki hx;have F:∀d∈l.take i,d.2<c.2\/(d.2=c.2/\d.1<=c.1):=λd hd=>by have g:(l.take (i+1)).Pairwise λa b=>a.2<b.2\/(a.2=b.2/\a.1<=b.1):=List.Pairwise.sublist (List.take_sublist _ _) hs;rw [r] at g;exact (Aj.1 g).2.2 d hd c (by simp)
  unfold Zv;dsimp only;rw [Ky (by omega),Fj ⟨by omega,by rw [AZ];omega⟩,BH (fg hx)];simp only [AZ,J6,DL,Nc,BZ,Yc];rw [wr (n:=(i:AI)+1) (by omega) (by omega),wr (n:=c.1+1) (by omega) (by omega)];rcases hI with ⟨rfl,rfl,hd⟩|⟨pre,y,z,rs,a,b,rfl,rfl,hV,m⟩
  .rw [BF (by rfl),aZ (by simp) (by simp)];refine ⟨_,rfl,[(c.2,[])],[(c.1,c.1+1)],rfl,by simp,by simp,.inr ⟨[],c.2,[],[],c.1,c.1+1,rfl,rfl,?_⟩⟩;have:=O6 (T:=[]) ⟨(by simp),.nil,(by simp),(by simp)⟩ H (by simp);refine ⟨this.1,λd=>?_⟩;rw [r,hd];have f:=this.2 d;simp only [List.nil_append] at f ⊢;rw [f];simp [J1]
  .have A:((pre++[(y,z)]).length:AI)=(pre.length:AI)+1:=by simp
   have G:((rs++[(a,b)]).length:AI)=(rs.length:AI)+1:=by simp
   have Y:(pre.length:AI)+1<=i:=by rw [<-A];omega
   have X:(rs.length:AI)+1<=i:=by rw [<-G];omega
   obtain ⟨v1,v2,v3,v4,v5⟩:=uG.1 hV;obtain ⟨P,O,J⟩:=Jkj.1 v4;dsimp only at O J v2 v5;have E:(b - 1,y)∈l.take i:=(m _).1 (dB.2 (.inr ⟨rfl,Yw.2 (.inr ⟨by dsimp only;omega,by dsimp only;omega⟩)⟩));have Z:=F _ E;dsimp only at Z;simp only [A,G];rw [show (pre.length:AI)+1 - 1=(pre.length:AI) by omega,show (rs.length:AI)+1 - 1=(rs.length:AI) by omega,wr (n:=(pre.length:AI)) (by omega) (by omega),wr (n:=(rs.length:AI)) (by omega) (by omega)];simp only [BH (fg (ZN pre (y,z))),BH (fg (ZN rs (a,b)))];rw [BA (by rw [Q3,beq_eq_false_iff_ne];omega),Fj (by omega)];by_cases L:y=c.2
   .subst L;rw [BA (by rw [TN];simp)];simp only [Fj (show 0<=(pre.length:AI)/\(pre.length:AI)<(pre.length:AI)+1 by omega),Fj (show 0<=(rs.length:AI)/\(rs.length:AI)<(rs.length:AI)+1 by omega),Cy (show @W.cm wv .eql ((pre.length:AI)+1) ((pre.length:AI)+1)=AE by rw [Q3];simp)];by_cases B:c.1 > b
    .rw [BF (by rw [jm];exact AW B),GI (by omega) (by omega),FM,Int.toNat_natCast,jN];refine ⟨_,rfl,pre++[(c.2,z)],rs++[(a,b)]++[(c.1,c.1+1)],rfl,by omega,by simp only [Ah,Bb,Av] at hr ⊢;omega,.inr ⟨pre,c.2,z,rs++[(a,b)],c.1,c.1+1,rfl,rfl,uG.2 ⟨v1,v2,by simp,Jkj.2 ⟨v4,by dsimp only;omega,λv R=>?_⟩,v5⟩,λd=>?_⟩⟩
     .rcases Ab.1 R with q|q
      .have:=J v q;dsimp only;omega
      .rw [Aa.1 q];exact B
     .rw [r,Ab,<-m,dB,dB,Yw];simp only [Aa];obtain ⟨N,d2⟩:=d;obtain ⟨c1,c2⟩:=c;simp only [Be];constructor
      .rintro (h|⟨g,f|f⟩)
       .exact .inl (.inl h)
       .exact .inl (.inr ⟨g,f⟩)
       .exact .inr ⟨by omega,by omega⟩
      .rintro ((h|⟨g,f⟩)|⟨g,f⟩)
       .exact .inl h
       .exact .inr ⟨g,.inl f⟩
       .exact .inr ⟨by omega,.inr (by omega)⟩
    .rw [BA (by rw [jm];exact B0 B),FM,Int.toNat_natCast,jN,dG];have K:(if c.1+1 > b then c.1+1 else b)=max b (c.1+1):=by omega
     rw [K];refine ⟨_,rfl,pre++[(c.2,z)],rs++[(a,max b (c.1+1))],rfl,by omega,by simp only [Ah,Bb,Av] at hr ⊢;omega,.inr ⟨pre,c.2,z,rs,a,max b (c.1+1),rfl,rfl,uG.2 ⟨v1,v2,by simp,Jkj.2 ⟨P,by dsimp only;omega,J⟩,v5⟩,λd=>?_⟩⟩;rw [r,Ab,<-m,dB,dB,Yw,Yw];simp only [Aa];obtain ⟨N,d2⟩:=d;obtain ⟨c1,c2⟩:=c;simp only [Be] at *
     constructor
     .rintro (h|⟨g,f|f⟩)
      .exact .inl (.inl h)
      .exact .inl (.inr ⟨g,.inl f⟩)
      .by_cases q:N<b
       .exact .inl (.inr ⟨g,.inr (by omega)⟩)
       .exact .inr ⟨by omega,by omega⟩
     .rintro ((h|⟨g,f|f⟩)|⟨g,f⟩)
      .exact .inl h
      .exact .inr ⟨g,.inl f⟩
      .exact .inr ⟨g,.inr (by omega)⟩
      .exact .inr ⟨by omega,.inr (by omega)⟩
   .rw [BF (by rw [TN];simp [L]),aZ (by omega) (by omega),Qi];have:=O6 hV H (λw Q=>by
     rcases Ab.1 Q with q|q
     .have:=v5 w q;omega
     .rw [Aa.1 q];dsimp only;omega)
    refine ⟨_,rfl,pre++[(y,rs++[(a,b)])]++[(c.2,[])],[(c.1,c.1+1)],rfl,by simp only [Ah,Bb,Av] at M ⊢;omega,by simp,.inr ⟨pre++[(y,rs++[(a,b)])],c.2,[],[],c.1,c.1+1,rfl,rfl,this.1,λd=>?_⟩⟩;rw [r,Ab,<-m,Aa];exact this.2 d
 .rintro s ⟨out,runs,rfl,M,hr,hI⟩;unfold Zv;dsimp only;rw [J2 (by omega)];refine ⟨_,rfl,?_⟩;rw [Af] at hI;dsimp only;rcases hI with ⟨rfl,rfl,rfl⟩|⟨pre,y,z,rs,a,b,rfl,rfl,hV,m⟩
  .exact ⟨⟨(by simp [Qf]),.nil,(by simp [Qf]),(by simp [Qf])⟩,λc=>by simp [Qf,J1]⟩
  .rw [Qi];exact ⟨hV,m⟩
theorem Sc(l:AG Cell)(hl:l.length<=1000000000)(d:∀c∈l,(-4096<=c.1/\c.1<4096)/\(-4096<=c.2/\c.2<4096)):Qm (@vB wv) CK ⟨l,l,(l.length:AI),0,()⟩=AC (.inr ⟨l,()⟩):=
 Kc (b:=@vB wv) (λi=>⟨l,l,(l.length:AI),(i:AI),()⟩) l.length (by omega) (λi hi=>by
  have hx:=Ac hi;generalize l[i]=c at hx;have a:=d c (Ae hx);unfold vB;dsimp only;rw [Ky (by omega),BH (fg hx),uR,uR,BA (by simp [BO];omega),BA (by simp [BO];omega),J6,wr (by omega) (by omega)];rfl) (by unfold vB;dsimp only;rw [J2 (by omega)])
theorem Sb(l:AG Cell)(hl:l.length<=1000000000)(r:∀c∈l,(-4096<=c.1/\c.1<4096)/\(-4096<=c.2/\c.2<4096)):∃T,@uZ wv l=AC (T,0)/\AJ T/\∀c,J1 T c↔c∈l:=by
 have d:=Zw (le:=WL) l;have m:=d.length_eq;obtain ⟨e,a,hV,g⟩:=YH (Hy WL l) (by omega) (λc B=>r c (d.mem_iff.1 B)) (Kan l);refine ⟨_,?_,hV,λc=>(g c).trans d.mem_iff⟩;unfold uZ;rw [AZ];refine (BN (Sc l hl r)).trans ?_;dsimp only;have A:∀x,x=AC ((Qf e.e λy=>(y.1,e.j.e)),(0:AI))->VU (l.length:AI) (λw=>if w=AE then (@W.loop wv _ _ _ (@Jcu wv) ⟨0,0,()⟩ λv=>AC (([]:AQ),(0:AI))) else x)=AC ((Qf e.e λy=>(y.1,e.j.e)),(0:AI)):=by
  rintro x rfl;unfold VU;split
  .rename_i F;have f:l=[]:=Aw (by omega);subst f;have h:e=⟨[],[],()⟩:=by have:Qm (@Zv wv) CK ⟨(([]:AG Cell).length:AI),0,[],[],[],()⟩=AC ⟨[],[],()⟩:=ZO (n:=18446744073709551615) rfl;have E:Hy WL []=[]:=rfl;rw [E] at a;rw [this] at a;injection a with a;exact a.symm
   subst h;have hd:Qm (@Jcu wv) CK ⟨0,0,()⟩=AC ():=ZO (n:=18446744073709551615) rfl;exact (AS (show (@W.loop wv _ _ _ (@Jcu wv) ⟨0,0,()⟩ λv=>AC (([]:AQ),(0:AI)))=_ from BN hd)).trans rfl
  .rfl
 rw [oh,AZ];refine A _ ?_;rw [BZ,GI (by omega) (by omega),WO hl,AZ];refine (BN a).trans ?_;rw [Nc]
theorem gD{α:Type}{l:AG Cell}{T:AQ}(h:@uZ wv l=AC (T,0))(k:(AG (AI×AG (AI×AI)))×AI->AH α):@W.call wv α Qw l k=k (T,0):=BM (c:=Qw) h
open Classical in
noncomputable def ZH(l:AG Jk):AG Cell:=l.flatMap λt=>if VT t then t.2.2 else []
open Classical in
theorem Jzc(l:AG Jk):(ZH l).length<=(l.flatMap λt=>t.2.2).length:=by
 unfold ZH
 induction l with
 | nil=>simp
 | cons t l a=>
  simp only [List.flatMap_cons,Ah];split
  .omega
  .rw [Av];omega
open Classical in
theorem J3l(l:AG Jk)(hl:l.length<=1000000000)(v:(l.flatMap λt=>t.2.2).length<=1000000000):∃T,@Yp wv l=AC T/\AJ T/\∀c,J1 T c↔∃t∈l,VT t/\c∈t.2.2:=by
 have a:∀c,c∈ZH l↔∃t∈l,VT t/\c∈t.2.2:=λc=>by
  unfold ZH;rw [List.mem_flatMap];constructor
  .rintro ⟨t,f,h⟩;split at h
   .exact ⟨t,f,by assumption,h⟩
   .cases h
  .rintro ⟨t,f,m,g⟩;exact ⟨t,f,by rw [AS m];exact g⟩
 obtain ⟨T,hT,hV,r⟩:=Sb (ZH l) (Nat.le_trans (Jzc l) v) (λc v=>by obtain ⟨t,f,m,g⟩:=(a c).1 v;obtain ⟨i,hi⟩:=As.1 g;have:=(m.2.2.1 i (Ad.1 hi).1 c hi).1;unfold grid at this;omega)
 refine ⟨T,?_,hV,λc=>(r c).trans (a c)⟩;have d:=Kc (b:=@Jam wv) (e:=⟨ZH l,()⟩) (λi=>⟨l,(l.length:AI),(i:AI),ZH (l.take i),()⟩) l.length (by omega) (λi hi=>by
  have hx:=Ac hi;generalize l[i]=t at hx;have m:=Jzc (l.take i);have g:=Yv (λt:Jk=>t.2.2) hx;have e:ZH (l.take (i+1))=ZH (l.take i)++if VT t then t.2.2 else []:=ZP hx;unfold Jam;dsimp only;rw [Ky (by omega),BH (fg hx),Jg3,J6,wr (by omega) (by omega),e];by_cases hV:VT t
  .rw [BF (by simp [hV]),AZ,AZ,BZ,GI (by omega) (by omega),DL,AS hV];rfl
  .rw [BA (by simp [hV]),AR hV,List.append_nil];rfl) (by unfold Jam;dsimp only;rw [J2 (by omega),Af])
 unfold Yp;refine (BN d).trans ?_;dsimp only;rw [gD hT]
theorem Jzm{α:Type}{a b:AI}(k:AI->AH α):@W.call wv α Qv ((a,b):AI×AI) k=k (Io a b):=BM (c:=Qv) (Jl7 a b)
theorem half(i j:AM)(a:i+j<=4000000000):@W.cv wv .i64 (@W.sh wv .shr .u64 (@W.cv wv .u64 (IntKind.wrap .i64 ((i:AI)+(j:AI)))) 1)=(((i+j) / 2:AM):AI):=by
 rw [wr (by omega) (by omega)];have f:@W.cv wv .u64 ((i:AI)+(j:AI))=((i+j:AM):AI):=by show IntKind.wrap .u64 _=_;rw [IntKind.wrap_u64,Int.emod_eq_of_lt (by omega) (by omega)];omega
 rw [f];have d:@W.sh wv .shr .u64 ((i+j:AM):AI) 1=(((i+j) / 2:AM):AI):=by
  show Int.fdiv ((i+j:AM):AI) (2 ^ (min (1:AI).toNat (IntKind.bits .u64)))=_;have:(2:AI) ^ (min (1:AI).toNat (IntKind.bits .u64))=2:=by rfl
  rw [this,Int.fdiv_eq_ediv_of_nonneg _ (by omega)];omega
 rw [d];exact wr (by omega) (by omega)
theorem J9l{a b:AI}:Io a b<0↔a<b:=by unfold Io;(repeat' split)<;>omega
theorem J7g{a b:AI}:Io a b=0↔a=b:=by unfold Io;(repeat' split)<;>omega
theorem Ju3(r:AQ)(y:AI)(hl:DJ r)(h:AJ r):@zL wv (r,y)=AC (Mt r y):=by
 have hL:=hl.1;have mono:∀(i j:AM) (a b:Row),i<j->r[i]?=AC a->r[j]?=AC b->a.1<b.1:=λi j a b F ha Z=>by obtain ⟨Q,e1⟩:=Ad.1 ha;obtain ⟨P,M⟩:=Ad.1 Z;have:=Az.1 h.pw i j Q P F;rwa [e1,M] at this
 obtain ⟨e,Y,k,rfl,hk,A,B⟩:=tV (b:=@Jeh wv) (s0:=⟨r,y,(r.length:AI),0,(r.length:AI),r,()⟩)
  (λs=>∃i j:AM,s=⟨r,y,(r.length:AI),(i:AI),(j:AI),r,()⟩/\i<=j/\j<=r.length/\(∀m w,m<i->r[m]?=AC w->w.1<y)/\∀m w,j<=m->r[m]?=AC w->y<=w.1)
  (λe=>∃k:AM,e=⟨r,y,(r.length:AI),(k:AI),r,()⟩/\k<=r.length/\(∀m w,m<k->r[m]?=AC w->w.1<y)/\∀m w,k<=m->r[m]?=AC w->y<=w.1)
  (λs=>(s.j.j.j.j.e - s.j.j.j.e).toNat) (by
  rintro s ⟨i,j,rfl,F,N,A,B⟩;unfold Jeh;dsimp only;by_cases X:i<j
  .have f:=Ac (l:=r) (i:=(i+j) / 2) (by omega);generalize r[(i+j) / 2]=w at f;rw [J6,half i j (by omega),Ky (by omega),Cy (by rfl),BH (fg f),Jzm,J6,wr (by omega) (by omega)];left;by_cases L:w.1<y
   .rw [Ky (J9l.2 L)];refine ⟨_,rfl,⟨(i+j) / 2+1,j,by simp only [Int.natCast_add];rfl,by omega,N,λm v d g=>?_,B⟩,by dsimp only;omega⟩;by_cases e:m=(i+j) / 2
    .subst e;rw [f] at g;injection g with e;subst e;exact L
    .have:=mono m _ v w (by omega) g f;omega
   .rw [J2 (λq=>L (J9l.1 q))];refine ⟨_,rfl,⟨i,(i+j) / 2,rfl,by omega,by omega,A,λm v d g=>?_⟩,by dsimp only;omega⟩;by_cases e:m=(i+j) / 2
    .subst e;rw [f] at g;injection g with e;subst e;omega
    .have:=mono _ m w v (by omega) f g;omega
  .right;have:i=j:=by omega
   subst this;rw [J2 (by omega)];exact ⟨_,rfl,i,rfl,N,A,B⟩) ⟨0,r.length,rfl,by omega,Ap _,λm w f=>by omega,λm w f H=>by have:=(Ad.1 H).1;omega⟩ (by dsimp only;omega)
 unfold zL;refine (BN Y).trans ?_;dsimp only;have none_of:(∀w∈r,w.1≠y)->Mt r y=[]:=λR=>by
  unfold Mt;have:r.find? (λw=>w.1==y)=AD:=List.find?_eq_none.2 λw H=>by simpa using R w H
  rw [this]
 by_cases J:k<r.length
 .have f:=Ac J;generalize r[k]=w at f;have E:=Ae f;rw [Ky (by omega),BH (fg f),Jzm,BH (fg f),ET];by_cases G:w.1=y
  .rw [AR (by rw [BO,Q3,J7g.2 G];simp)];unfold Mt;cases K:r.find? λv=>v.1==y with
   | none=>have:=List.find?_eq_none.1 K w E;simp [G] at this
   | some v=>
    have g:v.1=y:=by have:=List.find?_some K;simpa using this
    rw [h.KD E (Ao K) (by omega)]
  .rw [AS (by rw [BO,Q3];simp;exact λq=>G (J7g.1 q)),none_of];intro v g e;obtain ⟨m,d⟩:=As.1 g;by_cases q:m<k
   .have:=A m v q d;omega
   .have a1:=B m v (by omega) d;have a2:=B k w (Ap _) f;by_cases O:m=k
    .subst O;rw [f] at d;injection d with M;subst M;exact G e
    .have:=mono k m w v (by omega) f d;omega
 .rw [J2 (by omega),none_of];intro v g e;obtain ⟨m,d⟩:=As.1 g;have:=A m v (by have:=(Ad.1 d).1;omega) d;omega
theorem zH{α:Type}{r:AQ}{y:AI}(hl:DJ r)(h:AJ r)(k:AG (AI×AI)->AH α):@W.call wv α j7 ((r,y):AG (AI×AG (AI×AI))×AI) k=k (Mt r y):=BM (c:=j7) (Ju3 r y hl h)
theorem J22{r:AQ}(h:AJ r)(y:AI):AO (-1048576) 1048576 (Mt r y):=by
 unfold Mt;cases a:r.find? λw=>w.1==y with
 | none=>exact ⟨by simp,.nil⟩
 | some w=>
  have hV:=h.rs w (Ao a);exact ⟨λx hx=>by have:=hV.bd x hx;omega,hV.pw⟩
def wI(was:AN)(a:AG Run)(i:AM)(b:AG Run)(j:AM)(out:AG Run):HP AN (HP (AG (AI×AI)) (HP AI (HP (AG (AI×AI)) (HP AI (HP (AG (AI×AI)) Unit))))):=
 let m:=min (bnd a i) (bnd b j);let f:=if bnd a i=m then i+1 else i;let d:=if bnd b j=m then j+1 else j;let now:=decide (f % 2=1)&&decide (d % 2=1)
 ⟨now,a,(f:AI),b,(d:AI),if now=AE/\was=AF then out++[(m,0)] else if now=AF/\was=AE then Qf out (λu=>(u.1,m)) else out,()⟩
theorem QN(was:AN)(a b out:AG Run)(i j:AM)(A:a.length<=1000000000)(y:b.length<=1000000000)(hi:i<=2 * a.length)(L:j<=2 * b.length)(Q:out.length<=1000000000)(H:was=AE->out≠[])(l:¬(i=2 * a.length/\j=2 * b.length)) :
  @Q7 wv ⟨was,a,(i:AI),b,(j:AI),out,()⟩=AC (.go (wI was a i b j out)):=by
 have N:@X0 wv ⟨was,a,(i:AI),b,(j:AI),out,()⟩=AC (.inl ⟨was,a,(i:AI),b,(j:AI),out,()⟩):=by
  unfold X0;dsimp only;rw [ZE A];by_cases B:i=2 * a.length
  .rw [BA (by simp [BO,B]),ZE y,BF (by simp [BO];exact λq=>l ⟨B,q⟩)]
  .rw [BF (by simp [BO,B])]
 generalize K:min (bnd a i) (bnd b j)=m;have G:@Ja3 wv ⟨was,a,(i:AI),b,(j:AI),out,()⟩ (bnd a i) (bnd b j)=AC ⟨was,m,a,((if bnd a i=m then i+1 else i:AM):AI),b,(j:AI),out,()⟩:=by
  unfold Ja3;dsimp only;rw [bK A hi,PX,K,J6,wr (by omega) (by omega)];by_cases c:bnd a i=m
  .rw [BF (by rw [Q3];simp [c]),AS c];rfl
  .rw [BA (by rw [Q3];simp [c]),AR c]
 generalize w:(if bnd a i=m then i+1 else i)=d at G;have F:@Ja1 wv ⟨was,m,a,(d:AI),b,(j:AI),out,()⟩=AC ⟨was,m,a,(d:AI),b,((if bnd b j=m then j+1 else j:AM):AI),out,()⟩:=by
  unfold Ja1;dsimp only;rw [bK y L,J6,wr (by omega) (by omega)];by_cases c:bnd b j=m
  .rw [BF (by rw [Q3];simp [c]),AS c];rfl
  .rw [BA (by rw [Q3];simp [c]),AR c]
 generalize r:(if bnd b j=m then j+1 else j)=f at F;have E:@Jaw wv ⟨was,m,a,(d:AI),b,(f:AI),out,()⟩=AC ⟨was,m,decide (d % 2=1)&&decide (f % 2=1),a,(d:AI),b,(f:AI),out,()⟩:=by
  unfold Jaw;dsimp only;rw [vN,vN];by_cases c:d % 2=1
  .rw [BF (by simp [c])];simp [c,BO]
  .rw [BA (by simp [c])];simp [c]
 generalize g:(decide (d % 2=1)&&decide (f % 2=1))=now at E;have h:∀ {α:Type} (x:AH α),@W.gd wv α (@W.ft wv 16 (@W.pl wv (@W.ln wv (AI×AI) out) 1)) x=x:=λx=>by rw [AZ,BZ];exact GI (by omega) (by omega)
 have M:@Ja0 wv ⟨was,m,now,a,(d:AI),b,(f:AI),out,()⟩=AC ⟨now,a,(d:AI),b,(f:AI),if now=AE/\was=AF then out++[(m,0)] else if now=AF/\was=AE then Qf out (λu=>(u.1,m)) else out,()⟩:=by
  unfold Ja0;dsimp only;rw [h];have nt1:@W.nt wv AE=AF:=rfl;have nt0:@W.nt wv AF=AE:=rfl;cases now with
  | true=>
   cases was with
   | true=>rw [nt1,BF rfl,BA rfl,BA rfl,AR (by simp),AR (by simp)]
   | false=>rw [nt0,BF rfl,BF rfl,AS (by simp),DL]
  | false=>
   cases was with
   | false=>rw [nt0,BA rfl,BF rfl,BA rfl,AR (by simp),AR (by simp)]
   | true=>
    have J:=Ax.2 (H rfl);obtain ⟨v,O,P⟩:=Jqr (H rfl) m;rw [nt0,BA rfl,BF rfl,BF rfl,AZ,Yc,wr (by omega) (by omega),Fj ⟨by omega,by omega⟩,BH (TI (out.length - 1) (by omega) O),AR (by simp),AS (by simp),FM,show ((out.length:AI) - 1).toNat=out.length - 1 by omega,P]
 unfold Q7;rw [HV N];dsimp only;rw [bK A hi,bK y L,HV G,HV F,HV E,HV M];unfold wI;dsimp only;rw [K,w,r,g]
def kR(a b:AG Run)(p:AI)(was:AN)(i j:AM)(out:AG Run):Prop:=
 At a p i/\At b p j/\was=(decide (i % 2=1)&&decide (j % 2=1)) /\
 ((was=AF/\Ic out/\(∀u∈out,u.2<=p)/\∀x,x<p->(Jl out x↔Jl a x/\Jl b x)) \/
  ∃(o:AG Run) (s z:AI),out=o++[(s,z)]/\was=AE/\s<=p/\Ic o/\(∀u∈o,u.2<s)/\(∀x,x<s->(Jl o x↔Jl a x/\Jl b x))/\∀x,s<=x->x<=p->Jl a x/\Jl b x)
theorem BI{a b:AG Run}(R:AO (-1048576) 1048576 a)(Q:AO (-1048576) 1048576 b){p:AI}{was:AN}{i j:AM}{out:AG Run}(hI:kR a b p was i j out)(N:¬(i=2 * a.length/\j=2 * b.length)) :
  ∃m,p<m/\∃(was':AN) (H G:AM) (out':AG Run),wI was a i b j out=⟨was',a,(H:AI),b,(G:AI),out',()⟩/\kR a b m was' H G out'/\i+j<H+G/\out'.length<=out.length+1:=by
 obtain ⟨hA,hB,Z,hO⟩:=hI;have B:min (bnd a i) (bnd b j)<1048577:=by
  have Y:i<2 * a.length->bnd a i<1048577:=λq=>by have d:=Ac (l:=a) (i:=i / 2) (by omega);have:=R.bd _ (Ae d);simp only [bnd,d];split<;>omega
  have F:j<2 * b.length->bnd b j<1048577:=λq=>by have d:=Ac (l:=b) (i:=j / 2) (by omega);have:=Q.bd _ (Ae d);simp only [bnd,d];split<;>omega
  have w:=hA.1;have E:=hB.1;have L:i<2 * a.length\/j<2 * b.length:=by omega
  rcases L with L|L
  .have:=Y L;omega
  .have:=F L;omega
 have hp1:p<bnd a i:=by
  rcases hA.2.2 i (Ap _) with h|h
  .exact h
  .have e:a[i / 2]?=AD:=Bc (by omega);have:p<1048577:=by
    have q:At b p j:=hB;by_cases F:j<2 * b.length
    .rcases hB.2.2 j (Ap _) with h'|h'
     .have:=bM Q j;omega
     .omega
    .exact (N ⟨by have:=hA.1;omega,by have:=hB.1;omega⟩).elim
   simp only [bnd,e];exact this
 have hp2:p<bnd b j:=by
  rcases hB.2.2 j (Ap _) with h|h
  .exact h
  .have e:b[j / 2]?=AD:=Bc (by omega);have:p<1048577:=by have:=bM R i;omega
   simp only [bnd,e];exact this
 generalize A:min (bnd a i) (bnd b j)=m at B;have y:p<m:=by omega
 obtain ⟨hA',hAx⟩:=wZ R hA (m:=m) (by omega) y B;obtain ⟨hB',hBx⟩:=wZ Q hB (m:=m) (by omega) y B;refine ⟨m,y,_,_,_,_,by unfold wI;rw [A],?_,?_,?_⟩
 .refine ⟨hA',hB',rfl,?_⟩;have hAm:=kN hA';have hBm:=kN hB';generalize (if bnd a i=m then i+1 else i)=H at *
  generalize (if bnd b j=m then j+1 else j)=G at *
  have hD:∀x,p<=x->x<m->(Jl a x/\Jl b x↔was=AE):=λx w E=>by rw [hAx x w E,hBx x w E,Z];simp
  have hDm:Jl a m/\Jl b m↔(decide (H % 2=1)&&decide (G % 2=1))=AE:=by rw [hAm,hBm];simp
  generalize (decide (H % 2=1)&&decide (G % 2=1))=now at *
  rcases hO with ⟨M,K,g,J⟩|⟨o,s,z,rfl,M,hs,K,g,J,X⟩
  .subst M;cases now with
   | false=>
    left;rw [AR (by simp),AR (by simp)];refine ⟨rfl,K,λu d=>by have:=g u d;omega,λx hx=>?_⟩;by_cases q:x<p
    .exact J x q
    .rw [hD x (by omega) hx];refine ⟨λ⟨u,d,w,E⟩=>by have:=g u d;omega,λh=>by simp at h⟩
   | true=>
    right;rw [AS (by simp)];refine ⟨out,m,0,rfl,rfl,Bd _,K,λu d=>by have:=g u d;omega,λx hx=>?_,λx w E=>?_⟩
    .by_cases q:x<p
     .exact J x q
     .rw [hD x (by omega) hx];refine ⟨λ⟨u,d,w,E⟩=>by have:=g u d;omega,λh=>by simp at h⟩
    .have:x=m:=by omega
     subst this;exact hDm.2 rfl
  .subst M;cases now with
   | true=>
    right;rw [AR (by simp),AR (by simp)];refine ⟨o,s,z,rfl,rfl,by omega,K,g,J,λx w E=>?_⟩;by_cases q:x<=p
    .exact X x w q
    .by_cases F:x=m
     .subst F;exact hDm.2 rfl
     .exact (hD x (by omega) (by omega)).2 rfl
   | false=>
    left;rw [AR (by simp),AS (by simp),Qi];refine ⟨rfl,uN.2 ⟨K,by dsimp only;omega,g⟩,λu d=>?_,λx hx=>?_⟩
    .rcases Ab.1 d with h|h
     .have:=g u h;omega
     .rw [Aa.1 h];exact Bd _
    .rw [Yw];dsimp only;by_cases q:x<s
     .rw [J x q];exact ⟨λh=>h.resolve_right λh=>by omega,.inl⟩
     .have P:Jl a x/\Jl b x:=by
       by_cases F:x<=p
       .exact X x (by omega) F
       .exact (hD x (by omega) hx).2 rfl
      exact ⟨λ_=>P,λ_=>.inr ⟨by omega,hx⟩⟩
 .by_cases q:bnd a i=m
  .rw [AS q];split<;>omega
  .have:bnd b j=m:=by omega
   rw [AS this];split<;>omega
 .have O:∀(l:AG Run) (f:Run->Run),(Qf l f).length=l.length:=λl f=>by
   rcases l.eq_nil_or_concat with rfl|⟨r,v,rfl⟩
   .rfl
   .rw [List.concat_eq_append,Qi];simp
  have key:∀nw ws:AN,(if nw=AE/\ws=AF then out++[(m,0)] else if nw=AF/\ws=AE then Qf out (λu=>(u.1,m)) else out).length<=out.length+1:=λnw ws=>by cases nw<;>cases ws<;>simp [O]
  exact key _ _
theorem QO(a b:AG Run)(P:a.length<=100000000)(O:b.length<=100000000)(r:AO (-1048576) 1048576 a)(w:AO (-1048576) 1048576 b) :
  ∃e,Qm (@Q7 wv) CK ⟨AF,a,0,b,0,[],()⟩=AC e/\Ic e.e/\∀x,Jl e.e x↔Jl a x/\Jl b x:=by
 refine tV (b:=@Q7 wv) (λs=>∃(p:AI) (was:AN) (i j:AM) (out:AG Run),s=⟨was,a,(i:AI),b,(j:AI),out,()⟩/\kR a b p was i j out/\out.length<=i+j)
  (λe=>Ic e.e/\∀x,Jl e.e x↔Jl a x/\Jl b x) (λs=>(2 * (a.length:AI)+2 * (b.length:AI) - s.j.j.e - s.j.j.j.j.e).toNat) ?_ ⟨-1048577,AF,0,0,[],rfl,⟨⟨by omega,by omega,λk h=>?_⟩,⟨by omega,by omega,λk h=>?_⟩,rfl,.inl ⟨rfl,⟨by simp,.nil⟩,by simp,λx hx=>?_⟩⟩,by simp⟩ (by dsimp only;omega)
 .rintro s ⟨p,was,i,j,out,rfl,hI,Y⟩;have B:=hI.1.1;have A:=hI.2.1.1;by_cases d:i=2 * a.length/\j=2 * b.length
  .right;obtain ⟨rfl,rfl⟩:=d;have H:@X0 wv ⟨was,a,((2 * a.length:AM):AI),b,((2 * b.length:AM):AI),out,()⟩=AC (.inr ⟨out,()⟩):=by unfold X0;dsimp only;rw [ZE (by omega),BA (by simp [BO]),ZE (by omega),BA (by simp [BO])]
   unfold Q7;rw [HV H];refine ⟨_,rfl,?_⟩;obtain ⟨hA,hB,L,hO⟩:=hI;have l:was=AF:=by rw [L];simp
   rcases hO with ⟨f,G,F,E⟩|⟨o,s,z,rfl,f,-⟩
   .refine ⟨G,λx=>?_⟩;by_cases q:x<p
    .exact E x q
    .refine ⟨λ⟨u,g,y,Q⟩=>by have:=F u g;omega,λ⟨y,Q⟩=>?_⟩;have:At a x (2 * a.length):=⟨Ap _,λk h=>by have:=hA.2.1 k h;omega,λk h=>.inr h⟩;have:=(kN this).1 y;omega
   .rw [l] at f;cases f
  .left;obtain ⟨m,M,was',K,J,out',e,hI',N,v⟩:=BI r w hI d;refine ⟨_,QN was a b out i j (by omega) (by omega) B A (by omega) (λq=>?_) d,?_,?_⟩
   .rcases hI.2.2.2 with ⟨f,-⟩|⟨o,s,z,rfl,-⟩
    .rw [f] at q;cases q
    .simp
   .rw [e];exact ⟨m,was',K,J,out',rfl,hI',by omega⟩
   .rw [e];have X:=hI'.1.1;have R:=hI'.2.1.1;dsimp only;omega
 .by_cases q:2 * a.length<=k
  .exact .inr q
  .left;have:=bM r k;omega
 .by_cases q:2 * b.length<=k
  .exact .inr q
  .left;have:=bM w k;omega
 .constructor
  .rintro ⟨u,g,-⟩;cases g
  .rintro ⟨⟨u,g,B,A⟩,-⟩;have:=r.bd u g;omega
open Classical in
theorem Jxp(a b:AG Run)(f:a.length<=100000000)(d:b.length<=100000000)(h:AO (-1048576) 1048576 a)(g:AO (-1048576) 1048576 b) :
  ∃l,@Zn wv (a,b)=AC l/\Ic l/\∀x,Jl l x↔Jl a x/\Jl b x:=by obtain ⟨e,m,v,r⟩:=QO a b f d h g;refine ⟨e.e,?_,v,r⟩;unfold Zn;dsimp only;rw [ze (by omega),BA (by simp [BO,h]),ze (by omega),BA (by simp [BO,g])];exact BN m
def JZ(k:AI)(u:Run):AH Run:=if u.1+k<u.2 - k then AC (u.1+k,u.2 - k) else AD
def EW(k:AI)(l:AG Run):AG Run:=l.filterMap (JZ k)
theorem J9f(l:AG Run)(k:AI)(hl:l.length<=1000000000)(h:AO (-1048576) 1048576 l)(m:0<=k/\k<=1048576):@zW wv (l,k)=AC (EW k l):=by
 have a:=Kc (b:=@Jao wv) (e:=(⟨EW k l,()⟩:HP (AG Run) Unit)) (λi=>(⟨k,l,(l.length:AI),(i:AI),EW k (l.take i),()⟩:HP AI (HP (AG Run) (HP AI (HP AI (HP (AG Run) Unit)))))) l.length (by omega) (λi hi=>by
  have hx:=Ac hi;generalize l[i]=u at hx;have g:=h.bd u (Ae hx);have d:(EW k (l.take i)).length<=l.length:=by refine Nat.le_trans (List.length_filterMap_le _ _) ?_;rw [Am];omega
  have e:EW k (l.take (i+1))=EW k (l.take i)++(JZ k u).toList:=by unfold EW;rw [Ki hx,List.filterMap_append];cases f:JZ k u<;>simp [f]
  unfold Jao;dsimp only;rw [Ky (by omega),BH (fg hx),J6,J6,Yc,wr (n:=(i:AI)+1) (by omega) (by omega),wr (n:=u.1+k) (by omega) (by omega),wr (n:=u.2 - k) (by omega) (by omega),e];unfold JZ;by_cases q:u.1+k<u.2 - k
  .rw [Ky q,AS q,AZ,BZ,GI (by omega) (by omega),DL];rfl
  .rw [J2 q,AR q];show _=AC (Nx.go (⟨k,l,(l.length:AI),((i+1:AM):AI),EW k (l.take i)++[],()⟩:HP AI (HP (AG Run) (HP AI (HP AI (HP (AG Run) Unit))))));rw [List.append_nil];rfl) (by unfold Jao;dsimp only;rw [J2 (by omega),Af])
 unfold zW;dsimp only;rw [ze hl,BA (by simp [BO,h]),J2 (by omega),BA (by rw [jm];exact B0 (by omega)),AZ];exact (BN a).trans rfl
theorem J9e{lo hi:AI}{l:AG Run}(h:AO lo hi l){k:AI}(w:0<=k):AO lo hi (EW k l):=by
 refine ⟨λu m=>?_,?_⟩
 .obtain ⟨v,g,e⟩:=Ay.1 m;unfold JZ at e;split at e
  .injection e with e;subst e;have:=h.bd v g;dsimp only;omega
  .cases e
 .refine List.Pairwise.filterMap (S:=λa b:Run=>a.2<b.1) (JZ k) (λa b r c f d hd=>?_) h.pw;unfold JZ at f hd;split at f
  .split at hd
   .injection f with f;injection hd with hd;subst f;subst hd;dsimp only;omega
   .cases hd
  .cases f
theorem J88{lo hi:AI}{l:AG Run}(h:AO lo hi l){k:AI}(B:0<=k)(x:AI):Jl (EW k l) x↔∀y,x - k<=y->y<=x+k->Jl l y:=by
 constructor
 .rintro ⟨u,d,g,f⟩ y r m;obtain ⟨v,w,e⟩:=Ay.1 d;unfold JZ at e;split at e
  .injection e with e;subst e;dsimp only at g f;exact ⟨v,w,by omega,by omega⟩
  .cases e
 .intro a;obtain ⟨u,d,g,f⟩:=a (x - k) (Bd _) (by omega);have E:x+k<u.2:=by apply Classical.byContradiction;intro A;have:=(J1e h u.2).1 ⟨u,d,rfl⟩;exact this.2 (a u.2 (by omega) (by omega))
  exact ⟨(u.1+k,u.2 - k),Ay.2 ⟨u,d,AS (by omega)⟩,by dsimp only;omega,by dsimp only;omega⟩
theorem qL(a b:AG Run)(g:a.length<=100000000)(f:b.length<=100000000)(m:AO (-4096) 4096 a)(v:AO (-4096) 4096 b) :
  ∃l,@Zn wv (a,b)=AC l/\AO (-4096) 4096 l/\∀x,Jl l x↔Jl a x/\Jl b x:=by have wid:∀ {l:AG Run},AO (-4096) 4096 l->AO (-1048576) 1048576 l:=λ{l} h=>⟨λu d=>by have:=h.bd u d;omega,h.pw⟩;obtain ⟨l,y,w,r⟩:=Jxp a b g f (wid m) (wid v);refine ⟨l,y,nH w λx hx=>?_,r⟩;obtain ⟨u,d,B,A⟩:=((r x).1 hx).1;have:=m.bd u d;omega
theorem Jm4{n:AM}{l:AG AM}(h:l.Nodup)(a:∀x∈l,x<n):l.length<=n:=by have:=jV (m:=List.range n) h λx hx=>List.mem_range.2 (a x hx);rwa [List.length_range] at this
theorem jX{l:AG Run}(h:AO (-4096) 4096 l):l.length<=8192:=by
 have r:(l.map λu:Run=>(u.1+4096).toNat).Nodup:=Ba.2 ((List.Pairwise.and_mem.1 h.pw).imp λ{a b} ⟨m,f,g⟩ e=>by have:=h.bd a m;have:=h.bd b f;omega)
 have:=Jm4 (n:=8192) r λx hx=>by obtain ⟨u,d,rfl⟩:=Ak.1 hx;have:=h.bd u d;omega
 rwa [Ai] at this
abbrev Mr:=AG (AI×AG Run)
def TJ:Mr->AI->AG Run
 | [],_=>[]
 | e::r,y=>if y=e.1 then e.2 else TJ r y
theorem Pj(m:Mr)(y:AI):@W.mg wv I (.ls (.p I I)) m y []=TJ m y:=by
 show (zu (a:=I) (b:=.ls (.p I I)) y m).getD []=_
 induction m with
 | nil=>rfl
 | cons e r d=>
  show _=if y=e.1 then e.2 else TJ r y;by_cases h:y=e.1
  .have hd:Ty.FE I y e.1=AE:=beq_iff_eq.2 h;rw [AS h];exact AT (λo:AH (AG Run)=>o.getD []) (show zu (a:=I) (b:=.ls (.p I I)) y (e::r)=AC e.2 from AS hd)
  .have hd:¬Ty.FE I y e.1=AE:=λf=>h (beq_iff_eq.1 f);rw [AR h,<-d];exact AT (λo:AH (AG Run)=>o.getD []) (show zu (a:=I) (b:=.ls (.p I I)) y (e::r)=zu (a:=I) (b:=.ls (.p I I)) y r from AR hd)
theorem fG(m:Mr)(y:AI)(v:AG Run)(h:∀e∈m,e.1≠y):@W.ms wv I (.ls (.p I I)) m y v=m++[(y,v)]:=by
 show F7 (a:=I) (b:=.ls (.p I I)) y v m=_
 induction m with
 | nil=>rfl
 | cons e r d=>
  show (if Ty.FE I y e.1=AE then (y,v)::r else e::F7 (a:=I) (b:=.ls (.p I I)) y v r)=_;have hd:¬Ty.FE I y e.1=AE:=λg=>h e (List.mem_cons_self ..) (beq_iff_eq.1 g).symm;rw [AR hd,d λe f=>h e (List.mem_cons_of_mem _ f)];rfl
theorem J37(r:AQ)(f:AG Run->AG Run)(d:f []=[])(y:AI):TJ (r.map λw=>(w.1,f w.2)) y=f (EK r y):=by
 induction r with
 | nil=>exact d.symm
 | cons w r a=>
  unfold EK at a ⊢;show (if y=w.1 then f w.2 else TJ (r.map λw=>(w.1,f w.2)) y)=_;by_cases h:y=w.1
  .rw [AS h,List.find?_cons_of_pos (by simp [h])];rfl
  .rw [AR h,a,List.find?_cons_of_neg (by simp;exact λe=>h e.symm)]
def deep(r:AQ)(k:AI)(c:Cell):Prop:=∀dx dy:AI,-k<=dx->dx<=k->-k<=dy->dy<=k->J1 r (c.1+dx,c.2+dy)
abbrev SeA:=HP AI (HP AQ (HP AI (HP AI (HP AQ (HP Mr Unit)))))
abbrev SeB:=HP AI (HP AQ (HP AI (HP AI (HP Mr (HP AQ Unit)))))
abbrev SeC:=HP AI (HP AI (HP (AG Run) (HP AI (HP AI (HP AQ (HP AI (HP AI (HP AI (HP (AG Run) (HP Mr (HP AQ Unit)))))))))))
abbrev OeC:=HP (AG Run) (HP AI (HP AQ (HP AI (HP AI (HP AI (HP (AG Run) (HP AQ (HP Mr Unit))))))))
def Lg(k:AI)(r:AQ):Mr:=r.map λw=>(w.1,EW k w.2)
theorem TB(a:AQ×AI)(r:AQ)(hr:AJ r)(hl:DJ r)(k:AI)(F:0<=k/\k<=64) :
  Qm (@Zm wv a) CK (⟨k,r,(r.length:AI),0,r,[],()⟩:SeA)=AC (⟨k,r,Lg k r,()⟩:HP AI (HP AQ (HP Mr Unit))):=by
 have hL:=hl.1;refine Kc (b:=@Zm wv a) (λi=>(⟨k,r,(r.length:AI),(i:AI),r,Lg k (r.take i),()⟩:SeA)) r.length (by omega) (λi hi=>?_) ?_
 .have f:=Ac hi;generalize r[i]=w at f;have d:=Ae f;have g:=hr.rs w d;unfold Zm;dsimp only;rw [Ky (by omega),BH (fg f)];refine (BM (c:=kH) (J9f w.2 k (hl.2 w d) ⟨λu A=>by have:=g.bd u A;omega,g.pw⟩ (by omega))).trans ?_;have h:@W.ms wv I (.ls (.p I I)) (Lg k (r.take i)) w.1 (EW k w.2)=(Lg k (r.take i))++[(w.1,EW k w.2)]:=fG _ _ _ λe B=>by obtain ⟨v,y,rfl⟩:=Ak.1 B;obtain ⟨j,m⟩:=Au y;have l:=(Ad.1 m).1;rw [Am] at l;rw [Aq (by omega)] at m;have:=lQ hr m f (by omega);dsimp only;omega
  have E:@W.ar wv .add .i64 (i:AI) 1=((i+1:AM):AI):=by rw [J6,wr (by omega) (by omega)];omega
  rw [E];exact AT (λz:Mr=>AC (Nx.go (⟨k,r,(r.length:AI),((i+1:AM):AI),r,z,()⟩:SeA))) (h.trans (Q9 f).symm)
 .unfold Zm;dsimp only;rw [J2 (by omega),Af]
theorem S9(a:AQ×AI)(r:AQ)(hr:AJ r)(k:AI)(B:0<=k/\k<=64)(len idx:AI)(w:Row)(N:-4096<=w.1/\w.1<4096)(out:AQ) :
  ∃o,Qm (@Zl wv a) CK (⟨w.1,k,EW k (EK r (w.1 - k)),w.1 - k+1,k,r,len,idx,w.1,w.2,Lg k r,out,()⟩:SeC) =
    AC (⟨o,k,r,len,idx,w.1,w.2,out,Lg k r,()⟩:OeC) /\
   AO (-4096) 4096 o/\∀x,Jl o x↔deep r k (x,w.1):=by
 obtain ⟨e,K,o,rfl,m,v⟩:=jh (b:=@Zl wv a)
  (λj s=>∃o,s=(⟨w.1,k,o,w.1 - k+1+(j:AI),k,r,len,idx,w.1,w.2,Lg k r,out,()⟩:SeC)/\AO (-4096) 4096 o/\∀x,Jl o x↔∀y,w.1 - k<=y->y<=w.1 - k+(j:AI)->Jl (EW k (EK r y)) x)
  (λe=>∃o,e=(⟨o,k,r,len,idx,w.1,w.2,out,Lg k r,()⟩:OeC)/\AO (-4096) 4096 o/\∀x,Jl o x↔deep r k (x,w.1))
  (2 * k).toNat (by omega) (s0:=⟨w.1,k,EW k (EK r (w.1 - k)),w.1 - k+1,k,r,len,idx,w.1,w.2,Lg k r,out,()⟩)
  ⟨_,by simp,J9e (mM hr _) B.1,λx=>⟨λh y m v=>by rw [show y=w.1 - k by omega];exact h,λh=>h _ (Bd _) (by omega)⟩⟩
  (λj s O=>by
   rintro ⟨o,rfl,m,v⟩;have f:=J9e (mM hr (w.1 - k+1+(j:AI))) B.1;obtain ⟨l,G,F,E⟩:=qL o (EW k (EK r (w.1 - k+1+(j:AI)))) (by have:=jX m;omega) (by have:=jX f;omega) m f;have em:@W.mg wv I (.ls (.p I I)) (Lg k r) (w.1 - k+1+(j:AI)) []=EW k (EK r (w.1 - k+1+(j:AI))):=(Pj _ _).trans (J37 r (EW k) rfl _);refine ⟨_,?_,l,rfl,F,λx=>?_⟩
   .unfold Zl;dsimp only;rw [em,BF (by rw [KY,J6,wr (by omega) (by omega)];exact AW (by omega))];refine (BM (c:=Zo) G).trans ?_;rw [J6,wr (by omega) (by omega),show w.1 - k+1+(j:AI)+1=w.1 - k+1+((j+1:AM):AI) by omega]
   .rw [E,v];constructor
    .rintro ⟨M,L⟩ y d A;by_cases e:y=w.1 - k+1+(j:AI)
     .rw [e];exact L
     .exact M y d (by omega)
    .intro g;exact ⟨λy d A=>g y d (by omega),g _ (by omega) (by omega)⟩)
  (by
   rintro s ⟨o,rfl,m,v⟩;refine ⟨_,?_,o,rfl,m,λx=>?_⟩
   .unfold Zl;dsimp only;rw [BA (by rw [KY,J6,wr (by omega) (by omega)];exact B0 (by omega))]
   .rw [v];unfold deep;constructor
    .intro g dx dy Q P a3 a4;have:=(J88 (mM hr (w.1+dy)) B.1 x).1 (g (w.1+dy) (by omega) (by omega)) (x+dx) (by omega) (by omega);exact (jS hr).2 this
    .intro g y d A;refine (J88 (mM hr y) B.1 x).2 λz J H=>(jS hr).1 ?_;have:=g (z - x) (y - w.1) (by omega) (by omega) (by omega) (by omega);dsimp only at this;rwa [show x+(z - x)=z by omega,show w.1+(y - w.1)=y by omega] at this)
 exact ⟨o,K,m,v⟩
theorem J3x{E:AQ}{w:Row}(h:AJ E)(l:-4096<=w.1/\w.1<4096)(m:w.2≠[])(hr:AO (-4096) 4096 w.2)(f:∀v∈E,v.1<w.1):AJ (E++[w]):=by
 refine ⟨λv d=>?_,Aj.2 ⟨h.pw,Ar _ _,λa r b g=>?_⟩,λv d=>?_,λv d=>?_⟩
 .rcases Ab.1 d with q|q
  .exact h.y v q
  .rw [Aa] at q;subst q;exact l
 .rw [Aa] at g;subst g;exact f a r
 .rcases Ab.1 d with q|q
  .exact h.ne v q
  .rw [Aa] at q;subst q;exact m
 .rcases Ab.1 d with q|q
  .exact h.rs v q
  .rw [Aa] at q;subst q;exact hr
theorem Ka6{E:AQ}{w:Row}{c:Cell}:J1 (E++[w]) c↔J1 E c\/(w.1=c.2/\Jl w.2 c.1):=by
 unfold J1;constructor
 .rintro ⟨v,a,h⟩;rcases Ab.1 a with q|q
  .exact .inl ⟨v,q,h⟩
  .rw [Aa] at q;subst q;exact .inr h
 .rintro (⟨v,a,h⟩|h)
  .exact ⟨v,Ab.2 (.inl a),h⟩
  .exact ⟨w,Ab.2 (.inr (Aa.2 rfl)),h⟩
theorem sw{r:AQ}(h:AJ r):r.length<=8192:=by
 have m:(r.map λw:Row=>(w.1+4096).toNat).Nodup:=Ba.2 ((List.Pairwise.and_mem.1 h.pw).imp λ{a b} ⟨l,f,g⟩ e=>by have:=h.y a l;have:=h.y b f;omega)
 have:=Jm4 (n:=8192) m λx hx=>by obtain ⟨u,d,rfl⟩:=Ak.1 hx;have:=h.y u d;omega
 rwa [Ai] at this
theorem Sz(r:AQ)(hr:AJ r)(hl:DJ r)(k:AI)(N:0<=k/\k<=64):∃E,@uy wv (r,k)=AC E/\AJ E/\∀c,J1 E c↔deep r k c:=by
 have hL:=hl.1;obtain ⟨e,Y,E,rfl,l,m,-⟩:=jh (b:=@Zr wv (r,k))
  (λi s=>∃E,s=(⟨k,r,(r.length:AI),(i:AI),Lg k r,E,()⟩:SeB)/\AJ E/\(∀c,J1 E c↔(∃w∈r.take i,w.1=c.2)/\deep r k c)/\∀v∈E,∃w∈r.take i,v.1=w.1)
  (λe=>∃E,e=(⟨E,()⟩:HP AQ Unit)/\AJ E/\(∀c,J1 E c↔deep r k c)/\True)
  r.length (by omega) (s0:=⟨k,r,(r.length:AI),0,Lg k r,[],()⟩)
  ⟨[],rfl,⟨by simp,.nil,by simp,by simp⟩,λc=>⟨λ⟨w,d,_⟩=>(Ag d).elim,λ⟨⟨w,d,_⟩,_⟩=>by rw [List.take_zero] at d;exact (Ag d).elim⟩,λv f=>(Ag f).elim⟩
  (λi s hi=>by
   rintro ⟨E,rfl,l,m,A⟩;have d:=Ac hi;generalize r[i]=w at d;have F:=Ae d;have M:=hr.y w F;obtain ⟨o,L,K,B⟩:=S9 (r,k) r hr k N (r.length:AI) (i:AI) w M E;have X:=jX K;have hEl:=sw l;have em:@W.mg wv I (.ls (.p I I)) (Lg k r) (w.1 - k) []=EW k (EK r (w.1 - k)):=(Pj _ _).trans (J37 r (EW k) rfl _);have Q:@W.ar wv .sub .i64 w.1 k=w.1 - k:=by rw [Yc,wr (by omega) (by omega)]
   have P:@W.ar wv .add .i64 (w.1 - k) 1=w.1 - k+1:=by rw [J6,wr (by omega) (by omega)]
   have O:@W.ar wv .add .i64 (i:AI) 1=((i+1:AM):AI):=by rw [J6,wr (by omega) (by omega)];omega
   have G:∀v∈E,v.1<w.1:=λv f=>by obtain ⟨z,a,e⟩:=A v f;obtain ⟨j,J⟩:=Au a;have H:=(Ad.1 J).1;rw [Am] at H;rw [Aq (by omega)] at J;have:=lQ hr J d (by omega);omega
   have y:=Ki d;by_cases h:o=[]
   .refine ⟨(⟨k,r,(r.length:AI),((i+1:AM):AI),Lg k r,E,()⟩:SeB),?_,E,rfl,l,λc=>?_,λv f=>?_⟩
    .unfold Zr;dsimp only;rw [Ky (by omega),BH (fg d),Q,em,P];refine (BN L).trans ?_;dsimp only;rw [BA (by rw [jm,AZ,h];rfl),O]
    .rw [m,y];constructor
     .rintro ⟨⟨z,a,e⟩,g⟩;exact ⟨⟨z,Ab.2 (.inl a),e⟩,g⟩
     .rintro ⟨⟨z,a,e⟩,g⟩;rcases Ab.1 a with q|q
      .exact ⟨⟨z,q,e⟩,g⟩
      .rw [Aa] at q;subst q;have:=(B c.1).2 (by rw [e];exact g);rw [h] at this;obtain ⟨u,R,_⟩:=this;exact (Ag R).elim
    .obtain ⟨z,a,e⟩:=A v f;exact ⟨z,by rw [y];exact Ab.2 (.inl a),e⟩
   .have Z:=Ax.2 h;refine ⟨(⟨k,r,(r.length:AI),((i+1:AM):AI),Lg k r,E++[(w.1,o)],()⟩:SeB),?_,_,rfl,J3x (w:=(w.1,o)) l M h K G,λc=>?_,λv f=>?_⟩
    .unfold Zr;dsimp only;rw [Ky (by omega),BH (fg d),Q,em,P];refine (BN L).trans ?_;dsimp only;rw [BF (by rw [jm,AZ];exact AW (by omega)),AZ,BZ,GI (by omega) (by omega),AZ,BZ,aZ (by omega) (by omega),DL,O]
    .rw [Ka6,m,y];constructor
     .rintro (⟨⟨z,a,e⟩,g⟩|⟨e,g⟩)
      .exact ⟨⟨z,Ab.2 (.inl a),e⟩,g⟩
      .have e:w.1=c.2:=e;refine ⟨⟨w,Ab.2 (.inr (Aa.2 rfl)),e⟩,?_⟩;have:=(B c.1).1 g;rwa [e] at this
     .rintro ⟨⟨z,a,e⟩,g⟩;rcases Ab.1 a with q|q
      .exact .inl ⟨⟨z,q,e⟩,g⟩
      .rw [Aa] at q;subst q;exact .inr ⟨e,(B c.1).2 (by rw [e];exact g)⟩
    .rcases Ab.1 f with q|q
     .obtain ⟨z,a,e⟩:=A v q;exact ⟨z,by rw [y];exact Ab.2 (.inl a),e⟩
     .rw [Aa] at q;subst q;exact ⟨w,by rw [y];exact Ab.2 (.inr (Aa.2 rfl)),rfl⟩)
  (by
   rintro s ⟨E,rfl,l,m,A⟩;refine ⟨_,?_,E,rfl,l,λc=>?_,trivial⟩
   .unfold Zr;dsimp only;rw [J2 (by omega)]
   .rw [m,Af];refine ⟨And.right,λg=>⟨?_,g⟩⟩;have:=g 0 0 (by omega) (by omega) (by omega) (by omega);obtain ⟨w,d,e,_⟩:=this;exact ⟨w,d,by rw [e];dsimp only;omega⟩)
 refine ⟨E,?_,l,m⟩;have f:@zZ wv (r,k)=AC AE:=by
  classical
  unfold zZ;dsimp only;rw [BF (by rw [MR];exact AW (by omega)),BF (by rw [KY];exact AW (by omega)),Kg hl,AW hr]
 unfold uy;refine (BM (c:=kI) f).trans ?_;rw [BA (by rfl),AZ];refine (BN (TB (r,k) r hr hl k N)).trans ?_;dsimp only;rw [AZ];exact (BN Y).trans rfl
theorem J5a:∀l:AG AI,l.Pairwise (·<=·)->(Cu l).Pairwise (·<·)/\∀x,x∈Cu l↔x∈l:=by
 intro l;have key:∀m:AG AI,(m.reverse).Pairwise (·<=·)->(Cu m.reverse).Pairwise (·<·)/\∀x,x∈Cu m.reverse↔x∈m.reverse:=by
  intro m
  induction m with
  | nil=>intro _;exact ⟨.nil,λx=>Iff.rfl⟩
  | cons a m E=>
   intro h;rw [List.reverse_cons] at h ⊢;obtain ⟨F,K,A⟩:=Aj.1 h;obtain ⟨g,d⟩:=E F;have hl:=(yw m.reverse m.reverse.length (Ap _)).2;rw [Af] at hl;rw [Jxc];unfold XG;split
   .rename_i f;refine ⟨g,λx=>?_⟩;rw [d,Ab,Aa];refine ⟨.inl,λhx=>hx.elim id λe=>?_⟩;subst e;exact (d x).1 (List.mem_of_getLast? f)
   .rename_i f;refine ⟨Aj.2 ⟨g,Ar _ _,λx hx y w=>?_⟩,λx=>by rw [Ab,Ab,d]⟩;rw [Aa] at w;subst w;have v:x<=y:=A x ((d x).1 hx) y (Aa.2 rfl);rcases Int.lt_or_eq_of_le v with q|q
    .exact q
    .exfalso;subst q;have r:Cu m.reverse≠[]:=λe=>by rw [e] at hx;cases hx
     obtain ⟨M,z,e⟩:∃M z,Cu m.reverse=M++[z]:=⟨_,_,(List.dropLast_concat_getLast r).symm⟩;rw [e,List.getLast?_concat] at f;have J:z<=x:=A z ((d z).1 (by rw [e];exact Ab.2 (.inr (Aa.2 rfl)))) x (Aa.2 rfl);rw [e] at g hx;obtain ⟨H,G,B⟩:=Aj.1 g;rcases Ab.1 hx with q|q
     .have:=B x q z (Aa.2 rfl);omega
     .rw [Aa] at q;exact f (by rw [q])
 have:=key l.reverse;rwa [List.reverse_reverse] at this
theorem N8(l:AG AI)(hl:l.length<=1000000000):∃r,YX l=AC r/\r.Pairwise (·<=·)/\∀x,x∈r↔x∈l:=by refine ⟨Hy (λx y:AI=>decide (x<=y)) l,by unfold YX;rw [AS (by omega)],?_,λx=>(Zw l).mem_iff⟩;exact (tQ (le:=λx y:AI=>decide (x<=y)) (λx y z d a=>by simp only [decide_eq_true_eq] at *;omega) (λx y=>by simp only [decide_eq_true_eq];omega) l).imp λh=>of_decide_eq_true h
theorem J1m(l:AG Run)(hl:l.length<=1000000000):@Qa wv l=AC l:=by
 have e:∀ {α:Type} (x:AH α),@W.gd wv α (@W.ft wv 16 (@W.pl wv 0 (@W.ln wv Run l))) x=x:=λx=>by rw [AZ,BZ];exact GI (by omega) (by omega)
 unfold Qa;rw [e,oh];unfold VU;rw [AZ];split
 .rename_i a;have:l=[]:=Aw (by omega);subst this;simp [ET]
 .rfl
abbrev YE:=HP AQ (HP AQ (HP AI (HP AQ (HP AI (HP AI (HP AQ (HP AQ (HP (AG AI) Unit))))))))
abbrev ig:=HP AQ (HP AQ (HP AI (HP AQ (HP AQ (HP (AG AI) Unit)))))
theorem Jzi{b:YE->AH (Nx YE ig)}(g:b=@Q0 wv)(A B:AQ)(idx:AI)(cur d a:AQ)(ys:AG AI)(l:cur.length<=100000000)(h:ys.length<=100000000) :
  Qm b CK (⟨A,B,idx,cur,(cur.length:AI),0,d,a,ys,()⟩:YE)=AC (⟨A,B,idx,d,a,ys++cur.map (·.1),()⟩:ig):=by
 subst g;have key:=Kc (b:=@Q0 wv) (e:=(⟨A,B,idx,d,a,ys++cur.map (·.1),()⟩:ig)) (λi=>(⟨A,B,idx,cur,(cur.length:AI),(i:AI),d,a,ys++(cur.take i).map (·.1),()⟩:YE)) cur.length (by omega) (λi hi=>by
  have f:=Ac hi;generalize cur[i]=w at f;unfold Q0;dsimp only;rw [Ky (by omega),BH (fg f),AZ,BZ,KJ (by rw [Ah,Ai,Am];omega) (by omega) (by decide),J6,wr (by omega) (by omega),DL,Q9 f,List.append_assoc];rfl) (by unfold Q0;dsimp only;rw [J2 (by omega),Af])
 simpa using key
theorem rE:@Jdh wv=@Q0 wv:=rfl
abbrev Le:=HP AQ (HP AQ (HP AI (HP AQ (HP AQ (HP (AG AI) Unit)))))
theorem J91(a b:AQ)(l:a.length<=10000000)(h:b.length<=10000000) :
  Qm (@Kr wv) CK (⟨a,b,0,a,b,[],()⟩:Le)=AC (⟨a,b,a.map (·.1)++b.map (·.1),()⟩:HP AQ (HP AQ (HP (AG AI) Unit))):=by
 have s0:@Kr wv (⟨a,b,0,a,b,[],()⟩:Le)=AC (.go (⟨a,b,1,a,b,a.map (·.1),()⟩:Le)):=by unfold Kr;dsimp only;have d:=Jzi rfl a b 0 a a b [] (by omega) (by simp);rw [Ky (by decide),BF (by rfl),AZ];refine (BN d).trans ?_;rfl
 have g:@Kr wv (⟨a,b,1,a,b,a.map (·.1),()⟩:Le)=AC (.go (⟨a,b,2,a,b,a.map (·.1)++b.map (·.1),()⟩:Le)):=by
  unfold Kr;dsimp only;have d:=Jzi rE a b 1 b a b (a.map (·.1)) (by omega) (by rw [Ai];omega);generalize a.map (·.1)=m at *
  generalize b.map (·.1)=n at *
  rw [Ky (by decide),BA (by rw [Q3];rfl),BF (by rw [Q3];rfl),AZ];refine (BN d).trans ?_;rfl
 have f:@Kr wv (⟨a,b,2,a,b,a.map (·.1)++b.map (·.1),()⟩:Le)=AC (.out (⟨a,b,a.map (·.1)++b.map (·.1),()⟩:HP AQ (HP AQ (HP (AG AI) Unit)))):=by unfold Kr;dsimp only;rw [J2 (by decide)]
 exact Kc (b:=@Kr wv) (λi=>match i with
  | 0=>(⟨a,b,0,a,b,[],()⟩:Le)
  | 1=>⟨a,b,1,a,b,a.map (·.1),()⟩
  | _=>⟨a,b,2,a,b,a.map (·.1)++b.map (·.1),()⟩) 2 (by decide) (λi hi=>by
  rcases (show i=0\/i=1 by omega) with rfl|rfl
  .exact s0
  .exact g) f
abbrev iU:=HP (AG AI) (HP AI (HP AI (HP AQ (HP AQ (HP AQ Unit)))))
theorem Jk1(a b:AQ)(J:AJ a)(H:AJ b)(M:DJ a)(L:DJ b):∃U,@Y4 wv (a,b)=AC U/\AJ U/\∀c,J1 U c↔J1 a c/\¬J1 b c:=by
 classical
 have hna:=sw J;have hnb:=sw H;obtain ⟨ys,hs1,hs2,Q⟩:=N8 (a.map (·.1)++b.map (·.1)) (by rw [Ah,Ai,Ai];omega);obtain ⟨Y,X⟩:=J5a ys hs2;have m:∀y∈Cu ys,-4096<=y/\y<4096:=λy Z=>by
  rw [X,Q,Ab,Ak,Ak] at Z;rcases Z with ⟨w,A,rfl⟩|⟨w,A,rfl⟩
  .exact J.y w A
  .exact H.y w A
 have R:∀c:Cell,J1 a c->c.2∈Cu ys:=λc ⟨w,A,e,_⟩=>by rw [X,Q,Ab];exact .inl (Ak.2 ⟨w,A,e⟩)
 have hyl:(Cu ys).length<=8192:=by
  have F:((Cu ys).map λy=>(y+4096).toNat).Nodup:=Ba.2 ((List.Pairwise.and_mem.1 Y).imp λ{x z} ⟨hx,G,hxz⟩ e=>by have:=m x hx;have:=m z G;omega)
  have:=Jm4 (n:=8192) F λx hx=>by obtain ⟨u,P,rfl⟩:=Ak.1 hx;have:=m u P;omega
  rwa [Ai] at this
 generalize hzs:Cu ys=zs at *
 have row8:∀ {r:AQ},AJ r->∀y,AO (-4096) 4096 (Mt r y):=λ{r} h y=>by
  unfold Mt;split
  .rename_i w A;exact h.rs w (Ao A)
  .exact ⟨by simp,.nil⟩
 obtain ⟨e,he,U,rfl,F,N⟩:=jh (b:=@Xn wv)
  (λi s=>∃E,s=(⟨zs,(zs.length:AI),(i:AI),a,b,E,()⟩:iU)/\AJ E/\(∀c,J1 E c↔c.2∈zs.take i/\J1 a c/\¬J1 b c)/\∀v∈E,v.1∈zs.take i)
  (λe=>∃E,e=(⟨E,()⟩:HP AQ Unit)/\AJ E/\∀c,J1 E c↔J1 a c/\¬J1 b c)
  zs.length (by omega) (s0:=⟨zs,(zs.length:AI),0,a,b,[],()⟩)
  ⟨[],rfl,⟨by simp,.nil,by simp,by simp⟩,λc=>⟨λ⟨w,A,_⟩=>(Ag A).elim,λ⟨h,_⟩=>by rw [List.take_zero] at h;exact (Ag h).elim⟩,λv K=>(Ag K).elim⟩
  (λi s hi=>by
   rintro ⟨E,rfl,F,N,h3⟩;have G:=Ac hi;generalize zs[i]=y at G;have hym:=Ae G;have Z:=m y hym;have r1:=row8 J y;have r2:=row8 H y;obtain ⟨l,q1,q2,q3⟩:=Jkd (Mt a y) (Mt b y) (by have:=jX r1;omega) (by have:=jX r2;omega) (J22 J y) (J22 H y);have O:AO (-4096) 4096 l:=nH q2 λx hx=>by obtain ⟨u,P,d,f⟩:=((q3 x).1 hx).1;have:=r1.bd u P;omega
   have q4:∀x,Jl l x↔J1 a (x,y)/\¬J1 b (x,y):=λx=>by rw [q3,<-Jym J (x,y),<-Jym H (x,y)]
   have hll:=jX O;have hEl:=sw F;have ht:=Ki G;have e3:@W.ar wv .add .i64 (i:AI) 1=((i+1:AM):AI):=by rw [J6,wr (by omega) (by omega)];omega
   have hlt:∀v∈E,v.1<y:=λv K=>by obtain ⟨j,hj⟩:=Au (h3 v K);have hjl:=(Ad.1 hj).1;rw [Am] at hjl;rw [Aq (by omega)] at hj;obtain ⟨p1,e1⟩:=Ad.1 hj;obtain ⟨p2,e2⟩:=Ad.1 G;have:=Az.1 Y j i p1 p2 (by omega);rwa [e1,e2] at this
   by_cases B:l=[]
   .refine ⟨(⟨zs,(zs.length:AI),((i+1:AM):AI),a,b,E,()⟩:iU),?_,E,rfl,F,λc=>?_,λv K=>?_⟩
    .unfold Xn;dsimp only;rw [Ky (by omega),BH (fg G),zH M J,zH L H];refine (BM (c:=J4) q1).trans ?_;rw [BA (by rw [jm,AZ,B];rfl),e3]
    .rw [N,ht,Ab,Aa];constructor
     .rintro ⟨d,f⟩;exact ⟨.inl d,f⟩
     .rintro ⟨d|d,f⟩
      .exact ⟨d,f⟩
      .have:=(q4 c.1).2 (by rw [<-d];exact f);rw [B] at this;obtain ⟨u,P,_⟩:=this;exact (Ag P).elim
    .rw [ht];exact Ab.2 (.inl (h3 v K))
   .have hp:=Ax.2 B;refine ⟨(⟨zs,(zs.length:AI),((i+1:AM):AI),a,b,E++[(y,l)],()⟩:iU),?_,_,rfl,J3x (w:=(y,l)) F Z B O hlt,λc=>?_,λv K=>?_⟩
    .unfold Xn;dsimp only;rw [Ky (by omega),BH (fg G),zH M J,zH L H];refine (BM (c:=J4) q1).trans ?_;rw [BF (by rw [jm,AZ];exact AW (by omega))];refine (BM (c:=Ku) (J1m l (by omega))).trans ?_;rw [AZ,BZ,aZ (by omega) (by omega),DL,e3]
    .rw [Ka6,N,ht,Ab,Aa];constructor
     .rintro (⟨d,f⟩|⟨e,g⟩)
      .exact ⟨.inl d,f⟩
      .have e:y=c.2:=e;have:=(q4 c.1).1 g;rw [e] at this;exact ⟨.inr e.symm,this⟩
     .rintro ⟨d|d,f⟩
      .exact .inl ⟨d,f⟩
      .exact .inr ⟨d.symm,(q4 c.1).2 (by rw [<-d];exact f)⟩
    .rw [ht];rcases Ab.1 K with q|q
     .exact Ab.2 (.inl (h3 v q))
     .rw [Aa] at q;subst q;exact Ab.2 (.inr (Aa.2 rfl)))
  (by
   rintro s ⟨E,rfl,F,N,h3⟩;refine ⟨_,?_,E,rfl,F,λc=>?_⟩
   .unfold Xn;dsimp only;rw [J2 (by omega)]
   .rw [N,Af];exact ⟨And.right,λg=>⟨R c g.1,g⟩⟩)
 refine ⟨U,?_,F,N⟩;unfold Y4;dsimp only;rw [Kg M,BA (by simp [BO,J]),Kg L,BA (by simp [BO,H])];refine (BN (J91 a b (by omega) (by omega))).trans ?_;dsimp only;refine (BM (c:=J10) hs1).trans ((BM (c:=Jsr) (a:=ys) (r:=Cu ys) rfl).trans ?_);rw [hzs,AZ];exact (BN he).trans rfl
end Go.Proofs.YtmfagdfkpjgeiaaGreat
