/- The region of cells: what the program's text says. Conditions: at most 10^9 cells. -/
import Derived.Test.YtmfagdfkpjgeiaaGreatXD
import Derived.Test.YtmfagdfkpjgeiaaGreatXE
set_option linter.unusedVariables false
set_option linter.unusedSimpArgs false
set_option linter.unusedSectionVars false
set_option maxRecDepth 100000
namespace Go.Proofs.YtmfagdfkpjgeiaaGreat
open Go Go.Vv Go.Dn Go.Dn.W
open List renaming mem_singleton -> Aa, mem_append -> Ab, getElem?_eq_getElem -> Ac, getElem?_eq_some_iff -> Ad, mem_of_getElem? -> Ae, pairwise_append -> Af, take_length -> Ag, length_append -> Aj, pairwise_singleton -> Ak, mem_iff_getElem? -> Am, not_mem_nil -> Ao, length_nil -> Ap, eq_nil_of_length_eq_zero -> Aq, mem_filterMap -> Ar, mem_of_find?_eq_some -> Au, getElem?_take_of_lt -> Av, length_cons -> Aw, length_take -> Ax, getElem?_eq_none -> Ay, mem_cons_of_mem -> Az, getElem?_of_mem -> Ba, length_pos_iff -> Bc, mem_map -> Bd
open Classical renaming byContradiction -> Ah
open Nat renaming le_refl -> Ai
open Int renaming le_refl -> As
open Prod.mk renaming injEq -> Bb
def leC(x y:Cell):Bool:=!(Go.Proofs.ltOf cmpC) y x
theorem Jq1{x y:Cell}:leC x y=true↔x.2<y.2\/(x.2=y.2/\x.1<=y.1):=by simp only [leC,Go.Proofs.ltOf,Bool.not_eq_true',decide_eq_false_iff_not,Jnq];omega
theorem J2l(l:List Cell):(Jbv leC l).Pairwise λa b=>a.2<b.2\/(a.2=b.2/\a.1<=b.1):=by
 refine (Ji3 (le:=leC) (λx y z f d=>?_) (λx y=>?_) l).imp λh=>Jq1.1 h
 ·rw [Jq1] at *;omega
 ·rw [Jq1,Jq1];omega
theorem k_sortC{α:Type}{l:List Cell}(hl:l.length<=1000000000)(k:List (Int×Int)->Option α):@W.call wv α Jml l k=k (Jbv leC l):=by refine ca_s (c:=Jml) (a:=l) (r:=Jbv leC l) ?_;show (if List.length (α:=Int×Int) l<4611686018427387904 then some (Jbv (α:=Int×Int) (λx y=>!(Go.Proofs.ltOf cmpC) y x) l) else none)=_;rw [if_pos (by omega)];rfl
def OfI(out:Reg)(runs:List Run)(done:List Cell):Prop:=
 (out=[]/\runs=[]/\done=[])\/∃(pre:Reg) (y:Int) (z rs:List Run) (a b:Int),out=pre++[(y,z)]/\runs=rs++[(a,b)]/\RegOK (pre++[(y,rs++[(a,b)])]) /\
  (∀c,Jv (pre++[(y,rs++[(a,b)])]) c↔c∈done)
theorem of_new{T:Reg}{c:Cell}(h:RegOK T)(g:(-4096<=c.1/\c.1<4096)/\(-4096<=c.2/\c.2<4096))(a:∀w∈T,w.1<c.2):RegOK (T++[(c.2,[(c.1,c.1+1)])])/\∀d,Jv (T++[(c.2,[(c.1,c.1+1)])]) d↔Jv T d\/d=c:=by
 refine ⟨Jgn.2 ⟨h,g.2,by simp,⟨λx hx=>?_,Ak _ _⟩,a⟩,λd=>?_⟩
 ·rw [Aa.1 hx];dsimp only;omega
 ·rw [Jcc];constructor
  ·rintro (h|⟨m,u,f,l⟩)
   ·exact .inl h
   ·rw [Aa.1 f] at l;right;obtain ⟨r,o⟩:=d;obtain ⟨y,v⟩:=c;simp only [Bb] at *
    omega
  ·rintro (h|rfl)
   ·exact .inl h
   ·exact .inr ⟨rfl,_,Aa.2 rfl,by dsimp only;omega⟩
open Classical in
theorem Of_loop(l:List Cell)(hl:l.length<=1000000000)(Z:∀c∈l,(-4096<=c.1/\c.1<4096)/\(-4096<=c.2/\c.2<4096))(hs:l.Pairwise λa b=>a.2<b.2\/(a.2=b.2/\a.1<=b.1)) :
  ∃e,X1 (@Zb wv) bigN ⟨(l.length:Int),0,l,[],[],()⟩=some e/\RegOK (K1 e.e λy=>(y.1,e.j.e))/\∀c,Jv (K1 e.e λy=>(y.1,e.j.e)) c↔c∈l:=by
 refine Zp (b:=@Zb wv) (λi s=>∃out runs,s=⟨(l.length:Int),(i:Int),l,out,runs,()⟩/\out.length<=i/\runs.length<=i/\OfI out runs (l.take i)) (λe=>RegOK (K1 e.e λy=>(y.1,e.j.e))/\∀c,Jv (K1 e.e λy=>(y.1,e.j.e)) c↔c∈l) l.length (by omega) ⟨[],[],rfl,by simp,by simp,.inl ⟨rfl,rfl,by simp⟩⟩ ?_ ?_
 ·rintro i s hi ⟨out,runs,rfl,L,hr,hI⟩;have hx:=Ac hi;generalize l[i]=c at hx;have G:=Z c (Ae hx);have o:=Qf hx;have E:∀d∈l.take i,d.2<c.2\/(d.2=c.2/\d.1<=c.1):=λd hd=>by have g:(l.take (i+1)).Pairwise λa b=>a.2<b.2\/(a.2=b.2/\a.1<=b.1):=List.Pairwise.sublist (List.take_sublist _ _) hs;rw [o] at g;exact (Af.1 g).2.2 d hd c (by simp)
  unfold Zb;dsimp only;rw [Qp (by omega),Jf3 ⟨by omega,by rw [w_ln];omega⟩,ge_s (fg hx)];simp only [w_ln,Ki,w_ap,w_ml,w_pl,Yp];rw [wr (n:=(i:Int)+1) (by omega) (by omega),wr (n:=c.1+1) (by omega) (by omega)];rcases hI with ⟨rfl,rfl,hd⟩|⟨pre,y,z,rs,a,b,rfl,rfl,hV,m⟩
  ·rw [br_t (by rfl),J1u (by simp) (by simp)];refine ⟨_,rfl,[(c.2,[])],[(c.1,c.1+1)],rfl,by simp,by simp,.inr ⟨[],c.2,[],[],c.1,c.1+1,rfl,rfl,?_⟩⟩;have:=of_new (T:=[]) ⟨(by simp),.nil,(by simp),(by simp)⟩ G (by simp);refine ⟨this.1,λd=>?_⟩;rw [o,hd];have f:=this.2 d;simp only [List.nil_append] at f ⊢;rw [f];simp [Jv]
  ·have r:((pre++[(y,z)]).length:Int)=(pre.length:Int)+1:=by simp
   have F:((rs++[(a,b)]).length:Int)=(rs.length:Int)+1:=by simp
   have X:(pre.length:Int)+1<=i:=by rw [<-r];omega
   have R:(rs.length:Int)+1<=i:=by rw [<-F];omega
   obtain ⟨v1,v2,v3,v4,v5⟩:=Jgn.1 hV;obtain ⟨O,N,H⟩:=Jht.1 v4;dsimp only at N H v2 v5;have B:(b - 1,y)∈l.take i:=(m _).1 (Jcc.2 (.inr ⟨rfl,zb.2 (.inr ⟨by dsimp only;omega,by dsimp only;omega⟩)⟩));have Y:=E _ B;dsimp only at Y;simp only [r,F];rw [show (pre.length:Int)+1 - 1=(pre.length:Int) by omega,show (rs.length:Int)+1 - 1=(rs.length:Int) by omega,wr (n:=(pre.length:Int)) (by omega) (by omega),wr (n:=(rs.length:Int)) (by omega) (by omega)];simp only [ge_s (fg (Jgs pre (y,z))),ge_s (fg (Jgs rs (a,b)))];rw [br_f (by rw [Xb,beq_eq_false_iff_ne];omega),Jf3 (by omega)];by_cases K:y=c.2
   ·subst K;rw [br_f (by rw [Jvf];simp)];simp only [Jf3 (show 0<=(pre.length:Int)/\(pre.length:Int)<(pre.length:Int)+1 by omega),Jf3 (show 0<=(rs.length:Int)/\(rs.length:Int)<(rs.length:Int)+1 by omega),gd_t (show @W.cm wv .eql ((pre.length:Int)+1) ((pre.length:Int)+1)=true by rw [Xb];simp)];by_cases A:c.1 > b
    ·rw [br_t (by rw [jm];exact decide_eq_true A),Jf7 (by omega) (by omega),w_st,Int.toNat_natCast,Jlr];refine ⟨_,rfl,pre++[(c.2,z)],rs++[(a,b)]++[(c.1,c.1+1)],rfl,by omega,by simp only [Aj,Aw,Ap] at hr ⊢;omega,.inr ⟨pre,c.2,z,rs++[(a,b)],c.1,c.1+1,rfl,rfl,Jgn.2 ⟨v1,v2,by simp,Jht.2 ⟨v4,by dsimp only;omega,λv Q=>?_⟩,v5⟩,λd=>?_⟩⟩
     ·rcases Ab.1 Q with q|q
      ·have:=H v q;dsimp only;omega
      ·rw [Aa.1 q];exact A
     ·rw [o,Ab,<-m,Jcc,Jcc,zb];simp only [Aa];obtain ⟨M,d2⟩:=d;obtain ⟨c1,c2⟩:=c;simp only [Bb];constructor
      ·rintro (h|⟨g,f|f⟩)
       ·exact .inl (.inl h)
       ·exact .inl (.inr ⟨g,f⟩)
       ·exact .inr ⟨by omega,by omega⟩
      ·rintro ((h|⟨g,f⟩)|⟨g,f⟩)
       ·exact .inl h
       ·exact .inr ⟨g,.inl f⟩
       ·exact .inr ⟨by omega,.inr (by omega)⟩
    ·rw [br_f (by rw [jm];exact decide_eq_false A),w_st,Int.toNat_natCast,Jlr,w_mx];have J:(if c.1+1 > b then c.1+1 else b)=max b (c.1+1):=by omega
     rw [J];refine ⟨_,rfl,pre++[(c.2,z)],rs++[(a,max b (c.1+1))],rfl,by omega,by simp only [Aj,Aw,Ap] at hr ⊢;omega,.inr ⟨pre,c.2,z,rs,a,max b (c.1+1),rfl,rfl,Jgn.2 ⟨v1,v2,by simp,Jht.2 ⟨O,by dsimp only;omega,H⟩,v5⟩,λd=>?_⟩⟩;rw [o,Ab,<-m,Jcc,Jcc,zb,zb];simp only [Aa];obtain ⟨M,d2⟩:=d;obtain ⟨c1,c2⟩:=c;simp only [Bb] at *
     constructor
     ·rintro (h|⟨g,f|f⟩)
      ·exact .inl (.inl h)
      ·exact .inl (.inr ⟨g,.inl f⟩)
      ·by_cases q:M<b
       ·exact .inl (.inr ⟨g,.inr (by omega)⟩)
       ·exact .inr ⟨by omega,by omega⟩
     ·rintro ((h|⟨g,f|f⟩)|⟨g,f⟩)
      ·exact .inl h
      ·exact .inr ⟨g,.inl f⟩
      ·exact .inr ⟨g,.inr (by omega)⟩
      ·exact .inr ⟨by omega,.inr (by omega)⟩
   ·rw [br_t (by rw [Jvf];simp [K]),J1u (by omega) (by omega),Qt];have:=of_new hV G (λw P=>by
     rcases Ab.1 P with q|q
     ·have:=v5 w q;omega
     ·rw [Aa.1 q];dsimp only;omega)
    refine ⟨_,rfl,pre++[(y,rs++[(a,b)])]++[(c.2,[])],[(c.1,c.1+1)],rfl,by simp only [Aj,Aw,Ap] at L ⊢;omega,by simp,.inr ⟨pre++[(y,rs++[(a,b)])],c.2,[],[],c.1,c.1+1,rfl,rfl,this.1,λd=>?_⟩⟩;rw [o,Ab,<-m,Aa];exact this.2 d
 ·rintro s ⟨out,runs,rfl,L,hr,hI⟩;unfold Zb;dsimp only;rw [Ko (by omega)];refine ⟨_,rfl,?_⟩;rw [Ag] at hI;dsimp only;rcases hI with ⟨rfl,rfl,rfl⟩|⟨pre,y,z,rs,a,b,rfl,rfl,hV,m⟩
  ·exact ⟨⟨(by simp [K1]),.nil,(by simp [K1]),(by simp [K1])⟩,λc=>by simp [K1,Jv]⟩
  ·rw [Qt];exact ⟨hV,m⟩
theorem Of_check(l:List Cell)(hl:l.length<=1000000000)(d:∀c∈l,(-4096<=c.1/\c.1<4096)/\(-4096<=c.2/\c.2<4096)):X1 (@jr wv) bigN ⟨l,l,(l.length:Int),0,()⟩=some (.inr ⟨l,()⟩):=
 Qo (b:=@jr wv) (λi=>⟨l,l,(l.length:Int),(i:Int),()⟩) l.length (by omega) (λi hi=>by
  have hx:=Ac hi;generalize l[i]=c at hx;have a:=d c (Ae hx);unfold jr;dsimp only;rw [Qp (by omega),ge_s (fg hx),Qi,Qi,br_f (by simp [w_nt];omega),br_f (by simp [w_nt];omega),Ki,wr (by omega) (by omega)];rfl) (by unfold jr;dsimp only;rw [Ko (by omega)])
theorem Of_ok(l:List Cell)(hl:l.length<=1000000000)(o:∀c∈l,(-4096<=c.1/\c.1<4096)/\(-4096<=c.2/\c.2<4096)):∃T,@Jct wv l=some (T,0)/\RegOK T/\∀c,Jv T c↔c∈l:=by
 have d:=Y9 (le:=leC) l;have m:=d.length_eq;obtain ⟨e,a,hV,g⟩:=Of_loop (Jbv leC l) (by omega) (λc A=>o c (d.mem_iff.1 A)) (J2l l);refine ⟨_,?_,hV,λc=>(g c).trans d.mem_iff⟩;unfold Jct;rw [w_ln];refine (lo_s (Of_check l hl o)).trans ?_;dsimp only;have w:∀x,x=some ((K1 e.e λy=>(y.1,e.j.e)),(0:Int))->nlv (l.length:Int) (λv=>if v=true then (@W.loop wv _ _ _ (@Ja7 wv) ⟨0,0,()⟩ λr=>some (([]:Reg),(0:Int))) else x)=some ((K1 e.e λy=>(y.1,e.j.e)),(0:Int)):=by
  rintro x rfl;unfold nlv;split
  ·rename_i E;have f:l=[]:=Aq (by omega);subst f;have h:e=⟨[],[],()⟩:=by have:X1 (@Zb wv) bigN ⟨(([]:List Cell).length:Int),0,[],[],[],()⟩=some ⟨[],[],()⟩:=Jez (n:=18446744073709551615) rfl;have B:Jbv leC []=[]:=rfl;rw [B] at a;rw [this] at a;injection a with a;exact a.symm
   subst h;have hd:X1 (@Ja7 wv) bigN ⟨0,0,()⟩=some ():=Jez (n:=18446744073709551615) rfl;exact (if_pos (show (@W.loop wv _ _ _ (@Ja7 wv) ⟨0,0,()⟩ λr=>some (([]:Reg),(0:Int)))=_ from lo_s hd)).trans rfl
  ·rfl
 rw [w_nq,w_ln];refine w _ ?_;rw [w_pl,Jf7 (by omega) (by omega),k_sortC hl,w_ln];refine (lo_s a).trans ?_;rw [w_ml]
theorem k_Of{α:Type}{l:List Cell}{T:Reg}(h:@Jct wv l=some (T,0))(k:(List (Int×List (Int×Int)))×Int->Option α):@W.call wv α Ja0 l k=k (T,0):=ca_s (c:=Ja0) h
open Classical in
noncomputable def Ji7(l:List Jz):List Cell:=l.flatMap λt=>if VT t then t.2.2 else []
open Classical in
theorem Jwb(l:List Jz):(Ji7 l).length<=(l.flatMap λt=>t.2.2).length:=by
 unfold Ji7
 induction l with
 | nil=>simp
 | cons t l a=>
  simp only [List.flatMap_cons,Aj];split
  ·omega
  ·rw [Ap];omega
open Classical in
theorem Cover_ok(l:List Jz)(hl:l.length<=1000000000)(r:(l.flatMap λt=>t.2.2).length<=1000000000):∃T,@Yv wv l=some T/\RegOK T/\∀c,Jv T c↔∃t∈l,VT t/\c∈t.2.2:=by
 have a:∀c,c∈Ji7 l↔∃t∈l,VT t/\c∈t.2.2:=λc=>by
  unfold Ji7;rw [List.mem_flatMap];constructor
  ·rintro ⟨t,f,h⟩;split at h
   ·exact ⟨t,f,by assumption,h⟩
   ·cases h
  ·rintro ⟨t,f,m,g⟩;exact ⟨t,f,by rw [if_pos m];exact g⟩
 obtain ⟨T,hT,hV,o⟩:=Of_ok (Ji7 l) (Nat.le_trans (Jwb l) r) (λc r=>by obtain ⟨t,f,m,g⟩:=(a c).1 r;obtain ⟨i,hi⟩:=Am.1 g;have:=(m.2.2.1 i (Ad.1 hi).1 c hi).1;unfold grid at this;omega)
 refine ⟨T,?_,hV,λc=>(o c).trans (a c)⟩;have d:=Qo (b:=@jw wv) (e:=⟨Ji7 l,()⟩) (λi=>⟨l,(l.length:Int),(i:Int),Ji7 (l.take i),()⟩) l.length (by omega) (λi hi=>by
  have hx:=Ac hi;generalize l[i]=t at hx;have m:=Jwb (l.take i);have g:=Jhm (λt:Jz=>t.2.2) hx;have e:Ji7 (l.take (i+1))=Ji7 (l.take i)++if VT t then t.2.2 else []:=Jig hx;unfold jw;dsimp only;rw [Qp (by omega),ge_s (fg hx),Ji5,Ki,wr (by omega) (by omega),e];by_cases hV:VT t
  ·rw [br_t (by simp [hV]),w_ln,w_ln,w_pl,Jf7 (by omega) (by omega),w_ap,if_pos hV];rfl
  ·rw [br_f (by simp [hV]),if_neg hV,List.append_nil];rfl) (by unfold jw;dsimp only;rw [Ko (by omega),Ag])
 unfold Yv;refine (lo_s d).trans ?_;dsimp only;rw [k_Of hT]
theorem Juc{α:Type}{a b:Int}(k:Int->Option α):@W.call wv α Ql ((a,b):Int×Int) k=k (cmpI a b):=ca_s (c:=Ql) (Jkd a b)
theorem half(i j:Nat)(a:i+j<=4000000000):@W.cv wv .i64 (@W.sh wv .shr .u64 (@W.cv wv .u64 (IntKind.wrap .i64 ((i:Int)+(j:Int)))) 1)=(((i+j) / 2:Nat):Int):=by
 rw [wr (by omega) (by omega)];have f:@W.cv wv .u64 ((i:Int)+(j:Int))=((i+j:Nat):Int):=by show IntKind.wrap .u64 _=_;rw [IntKind.wrap_u64,Int.emod_eq_of_lt (by omega) (by omega)];omega
 rw [f];have d:@W.sh wv .shr .u64 ((i+j:Nat):Int) 1=(((i+j) / 2:Nat):Int):=by
  show Int.fdiv ((i+j:Nat):Int) (2 ^ (min (1:Int).toNat (IntKind.bits .u64)))=_;have:(2:Int) ^ (min (1:Int).toNat (IntKind.bits .u64))=2:=by rfl
  rw [this,Int.fdiv_eq_ediv_of_nonneg _ (by omega)];omega
 rw [d];exact wr (by omega) (by omega)
theorem J3u{a b:Int}:cmpI a b<0↔a<b:=by unfold cmpI;(repeat' split)<;>omega
theorem J4x{a b:Int}:cmpI a b=0↔a=b:=by unfold cmpI;(repeat' split)<;>omega
theorem Jtf(r:Reg)(y:Int)(hl:LimR r)(h:RegOK r):@Jdh wv (r,y)=some (Jki r y):=by
 have hL:=hl.1;have mono:∀(i j:Nat) (a b:Row),i<j->r[i]?=some a->r[j]?=some b->a.1<b.1:=λi j a b E Z Y=>by obtain ⟨P,e1⟩:=Ad.1 Z;obtain ⟨O,L⟩:=Ad.1 Y;have:=List.pairwise_iff_getElem.1 h.pw i j P O E;rwa [e1,L] at this
 obtain ⟨e,X,k,rfl,hk,o,A⟩:=Jjo (b:=@Jcf wv) (s0:=⟨r,y,(r.length:Int),0,(r.length:Int),r,()⟩)
  (λs=>∃i j:Nat,s=⟨r,y,(r.length:Int),(i:Int),(j:Int),r,()⟩/\i<=j/\j<=r.length/\(∀m w,m<i->r[m]?=some w->w.1<y)/\∀m w,j<=m->r[m]?=some w->y<=w.1)
  (λe=>∃k:Nat,e=⟨r,y,(r.length:Int),(k:Int),r,()⟩/\k<=r.length/\(∀m w,m<k->r[m]?=some w->w.1<y)/\∀m w,k<=m->r[m]?=some w->y<=w.1)
  (λs=>(s.j.j.j.j.e - s.j.j.j.e).toNat) (by
  rintro s ⟨i,j,rfl,E,M,o,A⟩;unfold Jcf;dsimp only;by_cases R:i<j
  ·have f:=Ac (l:=r) (i:=(i+j) / 2) (by omega);generalize r[(i+j) / 2]=w at f;rw [Ki,half i j (by omega),Qp (by omega),gd_t (by rfl),ge_s (fg f),Juc,Ki,wr (by omega) (by omega)];left;by_cases K:w.1<y
   ·rw [Qp (J3u.2 K)];refine ⟨_,rfl,⟨(i+j) / 2+1,j,by simp only [Int.natCast_add];rfl,by omega,M,λm v d g=>?_,A⟩,by dsimp only;omega⟩;by_cases e:m=(i+j) / 2
    ·subst e;rw [f] at g;injection g with e;subst e;exact K
    ·have:=mono m _ v w (by omega) g f;omega
   ·rw [Ko (λq=>K (J3u.1 q))];refine ⟨_,rfl,⟨i,(i+j) / 2,rfl,by omega,by omega,o,λm v d g=>?_⟩,by dsimp only;omega⟩;by_cases e:m=(i+j) / 2
    ·subst e;rw [f] at g;injection g with e;subst e;omega
    ·have:=mono _ m w v (by omega) f g;omega
  ·right;have:i=j:=by omega
   subst this;rw [Ko (by omega)];exact ⟨_,rfl,i,rfl,M,o,A⟩) ⟨0,r.length,rfl,by omega,Ai _,λm w f=>by omega,λm w f G=>by have:=(Ad.1 G).1;omega⟩ (by dsimp only;omega)
 unfold Jdh;refine (lo_s X).trans ?_;dsimp only;have none_of:(∀w∈r,w.1≠y)->Jki r y=[]:=λQ=>by
  unfold Jki;have:r.find? (λw=>w.1==y)=none:=List.find?_eq_none.2 λw G=>by simpa using Q w G
  rw [this]
 by_cases H:k<r.length
 ·have f:=Ac H;generalize r[k]=w at f;have B:=Ae f;rw [Qp (by omega),ge_s (fg f),Juc,ge_s (fg f),w_br];by_cases F:w.1=y
  ·rw [if_neg (by rw [w_nt,Xb,J4x.2 F];simp)];unfold Jki;cases J:r.find? λv=>v.1==y with
   | none=>have:=List.find?_eq_none.1 J w B;simp [F] at this
   | some v=>
    have g:v.1=y:=by have:=List.find?_some J;simpa using this
    rw [h.row_uniq B (Au J) (by omega)]
  ·rw [if_pos (by rw [w_nt,Xb];simp;exact λq=>F (J4x.1 q)),none_of];intro v g e;obtain ⟨m,d⟩:=Am.1 g;by_cases q:m<k
   ·have:=o m v q d;omega
   ·have a1:=A m v (by omega) d;have a2:=A k w (Ai _) f;by_cases N:m=k
    ·subst N;rw [f] at d;injection d with L;subst L;exact F e
    ·have:=mono k m w v (by omega) f d;omega
 ·rw [Ko (by omega),none_of];intro v g e;obtain ⟨m,d⟩:=Am.1 g;have:=o m v (by have:=(Ad.1 d).1;omega) d;omega
theorem Jdp{α:Type}{r:Reg}{y:Int}(hl:LimR r)(h:RegOK r)(k:List (Int×Int)->Option α):@W.call wv α Zz ((r,y):List (Int×List (Int×Int))×Int) k=k (Jki r y):=ca_s (c:=Zz) (Jtf r y hl h)
theorem J0q{r:Reg}(h:RegOK r)(y:Int):RunsOK (-1048576) 1048576 (Jki r y):=by
 unfold Jki;cases a:r.find? λw=>w.1==y with
 | none=>exact ⟨by simp,.nil⟩
 | some w=>
  have hV:=h.rs w (Au a);exact ⟨λx hx=>by have:=hV.bd x hx;omega,hV.pw⟩
theorem Jmu{lo hi:Int}{l m:List Run}(hl:RunsOK lo hi l)(f:RunsOK lo hi m)(h:∀x,Ji l x↔Ji m x){u:Run}(d:u∈l):u∈m:=by
 have y:=hl.bd u d;obtain ⟨v,a,B,A⟩:=(h u.1).1 ⟨u,d,by omega,by omega⟩;have g:=f.bd v a;have r:v.1=u.1:=by
  by_cases q:v.1=u.1
  ·exact q
  ·exact (hl.left d ((h _).2 ⟨v,a,by omega,by omega⟩)).elim
 have o:v.2=u.2:=by
  by_cases q:v.2<u.2
  ·exact (f.right a ((h _).1 ⟨u,d,by omega,by omega⟩)).elim
  ·by_cases w:u.2<v.2
   ·exact (hl.right d ((h _).2 ⟨v,a,by omega,by omega⟩)).elim
   ·omega
 rw [show u=v from Prod.ext r.symm o.symm];exact a
theorem Jmh{lo hi:Int}{l:List Run}(h:RunsOK lo hi l):l.Pairwise λa b=>a.1<b.1:=by
 have f:=h.bd;have r:=h.pw;clear h
 induction l with
 | nil=>exact .nil
 | cons x l o=>
  obtain ⟨m,g⟩:=List.pairwise_cons.1 r;have hx:=f x (List.mem_cons_self ..);refine List.pairwise_cons.2 ⟨λy d=>?_,o (λy d=>f y (Az _ d)) g⟩;have:=m y d;omega
theorem J30{lo hi:Int}{l m:List Run}(hl:RunsOK lo hi l)(d:RunsOK lo hi m)(h:∀x,Ji l x↔Ji m x):l=m:=
 Je7 (R:=λa b:Run=>a.1<b.1) (λa b g f=>by omega) (Jmh hl) (Jmh d) λu=>⟨Jmu hl d h,Jmu d hl λx=>(h x).symm⟩
theorem Jps{a b:Reg}(f:RegOK a)(o:RegOK b)(h:∀c,Jv a c↔Jv b c){w:Row}(d:w∈a):w∈b:=by
 obtain ⟨u,m⟩:=List.exists_mem_of_ne_nil _ (f.ne w d);have l:=(f.rs w d).bd u m;obtain ⟨v,g,e,-⟩:=(h (u.1,w.1)).1 ⟨w,d,rfl,u,m,As _,l.2.1⟩;have r:w.2=v.2:=J30 (f.rs w d) (o.rs v g) λx=>by rw [<-f.in_row d x,<-o.in_row g x,e];exact h _
 rw [show w=v from Prod.ext e.symm r];exact g
theorem Jil{a b:Reg}(f:RegOK a)(d:RegOK b)(h:∀c,Jv a c↔Jv b c):a=b:=
 Je7 (R:=λa b:Row=>a.1<b.1) (λa b l g=>by omega) f.pw d.pw λw=>⟨Jps f d h,Jps d f λc=>(h c).symm⟩
def Jra(was:Bool)(a:List Run)(i:Nat)(b:List Run)(j:Nat)(out:List Run):HP Bool (HP (List (Int×Int)) (HP Int (HP (List (Int×Int)) (HP Int (HP (List (Int×Int)) Unit))))):=
 let m:=min (bnd a i) (bnd b j);let f:=if bnd a i=m then i+1 else i;let d:=if bnd b j=m then j+1 else j;let now:=decide (f % 2=1)&&decide (d % 2=1)
 ⟨now,a,(f:Int),b,(d:Int),if now=true/\was=false then out++[(m,0)] else if now=false/\was=true then K1 out (λu=>(u.1,m)) else out,()⟩
theorem int_step(was:Bool)(a b out:List Run)(i j:Nat)(y:a.length<=1000000000)(w:b.length<=1000000000)(hi:i<=2 * a.length)(K:j<=2 * b.length)(P:out.length<=1000000000)(G:was=true->out≠[])(l:¬(i=2 * a.length/\j=2 * b.length)) :
  @Qv wv ⟨was,a,(i:Int),b,(j:Int),out,()⟩=some (.go (Jra was a i b j out)):=by
 have M:@Xt wv ⟨was,a,(i:Int),b,(j:Int),out,()⟩=some (.inl ⟨was,a,(i:Int),b,(j:Int),out,()⟩):=by
  unfold Xt;dsimp only;rw [Jd5 y];by_cases A:i=2 * a.length
  ·rw [br_f (by simp [w_nt,A]),Jd5 w,br_t (by simp [w_nt];exact λq=>l ⟨A,q⟩)]
  ·rw [br_t (by simp [w_nt,A])]
 generalize J:min (bnd a i) (bnd b j)=m;have F:@zd wv ⟨was,a,(i:Int),b,(j:Int),out,()⟩ (bnd a i) (bnd b j)=some ⟨was,m,a,((if bnd a i=m then i+1 else i:Nat):Int),b,(j:Int),out,()⟩:=by
  unfold zd;dsimp only;rw [Jfh y hi,J2v,J,Ki,wr (by omega) (by omega)];by_cases c:bnd a i=m
  ·rw [br_t (by rw [Xb];simp [c]),if_pos c];rfl
  ·rw [br_f (by rw [Xb];simp [c]),if_neg c]
 generalize r:(if bnd a i=m then i+1 else i)=d at F;have E:@zf wv ⟨was,m,a,(d:Int),b,(j:Int),out,()⟩=some ⟨was,m,a,(d:Int),b,((if bnd b j=m then j+1 else j:Nat):Int),out,()⟩:=by
  unfold zf;dsimp only;rw [Jfh w K,Ki,wr (by omega) (by omega)];by_cases c:bnd b j=m
  ·rw [br_t (by rw [Xb];simp [c]),if_pos c];rfl
  ·rw [br_f (by rw [Xb];simp [c]),if_neg c]
 generalize o:(if bnd b j=m then j+1 else j)=f at E;have B:@ze wv ⟨was,m,a,(d:Int),b,(f:Int),out,()⟩=some ⟨was,m,decide (d % 2=1)&&decide (f % 2=1),a,(d:Int),b,(f:Int),out,()⟩:=by
  unfold ze;dsimp only;rw [Jwj,Jwj];by_cases c:d % 2=1
  ·rw [br_t (by simp [c])];simp [c,w_nt]
  ·rw [br_f (by simp [c])];simp [c]
 generalize g:(decide (d % 2=1)&&decide (f % 2=1))=now at B;have h:∀ {α:Type} (x:Option α),@W.gd wv α (@W.ft wv 16 (@W.pl wv (@W.ln wv (Int×Int) out) 1)) x=x:=λx=>by rw [w_ln,w_pl];exact Jf7 (by omega) (by omega)
 have L:@za wv ⟨was,m,now,a,(d:Int),b,(f:Int),out,()⟩=some ⟨now,a,(d:Int),b,(f:Int),if now=true/\was=false then out++[(m,0)] else if now=false/\was=true then K1 out (λu=>(u.1,m)) else out,()⟩:=by
  unfold za;dsimp only;rw [h];have nt1:@W.nt wv true=false:=rfl;have nt0:@W.nt wv false=true:=rfl;cases now with
  | true=>
   cases was with
   | true=>rw [nt1,br_t rfl,br_f rfl,br_f rfl,if_neg (by simp),if_neg (by simp)]
   | false=>rw [nt0,br_t rfl,br_t rfl,if_pos (by simp),w_ap]
  | false=>
   cases was with
   | false=>rw [nt0,br_f rfl,br_t rfl,br_f rfl,if_neg (by simp),if_neg (by simp)]
   | true=>
    have H:=Bc.2 (G rfl);obtain ⟨v,N,O⟩:=Jhp (G rfl) m;rw [nt0,br_f rfl,br_t rfl,br_t rfl,w_ln,Yp,wr (by omega) (by omega),Jf3 ⟨by omega,by omega⟩,ge_s (fgz (out.length - 1) (by omega) N),if_neg (by simp),if_pos (by simp),w_st,show ((out.length:Int) - 1).toNat=out.length - 1 by omega,O]
 unfold Qv;rw [jo_s M];dsimp only;rw [Jfh y hi,Jfh w K,jo_s F,jo_s E,jo_s B,jo_s L];unfold Jra;dsimp only;rw [J,r,o,g]
def IntI(a b:List Run)(p:Int)(was:Bool)(i j:Nat)(out:List Run):Prop:=
 At a p i/\At b p j/\was=(decide (i % 2=1)&&decide (j % 2=1)) /\
 ((was=false/\Jfl out/\(∀u∈out,u.2<=p)/\∀x,x<p->(Ji out x↔Ji a x/\Ji b x)) \/
  ∃(o:List Run) (s z:Int),out=o++[(s,z)]/\was=true/\s<=p/\Jfl o/\(∀u∈o,u.2<s)/\(∀x,x<s->(Ji o x↔Ji a x/\Ji b x))/\∀x,s<=x->x<=p->Ji a x/\Ji b x)
theorem int_inv{a b:List Run}(R:RunsOK (-1048576) 1048576 a)(Q:RunsOK (-1048576) 1048576 b){p:Int}{was:Bool}{i j:Nat}{out:List Run}(hI:IntI a b p was i j out)(N:¬(i=2 * a.length/\j=2 * b.length)) :
  ∃m,p<m/\∃(was':Bool) (H G:Nat) (out':List Run),Jra was a i b j out=⟨was',a,(H:Int),b,(G:Int),out',()⟩/\IntI a b m was' H G out'/\i+j<H+G/\out'.length<=out.length+1:=by
 obtain ⟨hA,hB,Z,hO⟩:=hI;have B:min (bnd a i) (bnd b j)<1048577:=by
  have Y:i<2 * a.length->bnd a i<1048577:=λq=>by have d:=Ac (l:=a) (i:=i / 2) (by omega);have:=R.bd _ (Ae d);simp only [bnd,d];split<;>omega
  have F:j<2 * b.length->bnd b j<1048577:=λq=>by have d:=Ac (l:=b) (i:=j / 2) (by omega);have:=Q.bd _ (Ae d);simp only [bnd,d];split<;>omega
  have w:=hA.1;have E:=hB.1;have L:i<2 * a.length\/j<2 * b.length:=by omega
  rcases L with L|L
  ·have:=Y L;omega
  ·have:=F L;omega
 have hp1:p<bnd a i:=by
  rcases hA.2.2 i (Ai _) with h|h
  ·exact h
  ·have e:a[i / 2]?=none:=Ay (by omega);have:p<1048577:=by
    have q:At b p j:=hB;by_cases F:j<2 * b.length
    ·rcases hB.2.2 j (Ai _) with h'|h'
     ·have:=Jfi Q j;omega
     ·omega
    ·exact (N ⟨by have:=hA.1;omega,by have:=hB.1;omega⟩).elim
   simp only [bnd,e];exact this
 have hp2:p<bnd b j:=by
  rcases hB.2.2 j (Ai _) with h|h
  ·exact h
  ·have e:b[j / 2]?=none:=Ay (by omega);have:p<1048577:=by have:=Jfi R i;omega
   simp only [bnd,e];exact this
 generalize A:min (bnd a i) (bnd b j)=m at B;have y:p<m:=by omega
 obtain ⟨hA',hAx⟩:=Jj2 R hA (m:=m) (by omega) y B;obtain ⟨hB',hBx⟩:=Jj2 Q hB (m:=m) (by omega) y B;refine ⟨m,y,_,_,_,_,by unfold Jra;rw [A],?_,?_,?_⟩
 ·refine ⟨hA',hB',rfl,?_⟩;have hAm:=Jna hA';have hBm:=Jna hB';generalize (if bnd a i=m then i+1 else i)=H at *
  generalize (if bnd b j=m then j+1 else j)=G at *
  have hD:∀x,p<=x->x<m->(Ji a x/\Ji b x↔was=true):=λx w E=>by rw [hAx x w E,hBx x w E,Z];simp
  have hDm:Ji a m/\Ji b m↔(decide (H % 2=1)&&decide (G % 2=1))=true:=by rw [hAm,hBm];simp
  generalize (decide (H % 2=1)&&decide (G % 2=1))=now at *
  rcases hO with ⟨M,K,g,J⟩|⟨o,s,z,rfl,M,hs,K,g,J,X⟩
  ·subst M;cases now with
   | false=>
    left;rw [if_neg (by simp),if_neg (by simp)];refine ⟨rfl,K,λu d=>by have:=g u d;omega,λx hx=>?_⟩;by_cases q:x<p
    ·exact J x q
    ·rw [hD x (by omega) hx];refine ⟨λ⟨u,d,w,E⟩=>by have:=g u d;omega,λh=>by simp at h⟩
   | true=>
    right;rw [if_pos (by simp)];refine ⟨out,m,0,rfl,rfl,As _,K,λu d=>by have:=g u d;omega,λx hx=>?_,λx w E=>?_⟩
    ·by_cases q:x<p
     ·exact J x q
     ·rw [hD x (by omega) hx];refine ⟨λ⟨u,d,w,E⟩=>by have:=g u d;omega,λh=>by simp at h⟩
    ·have:x=m:=by omega
     subst this;exact hDm.2 rfl
  ·subst M;cases now with
   | true=>
    right;rw [if_neg (by simp),if_neg (by simp)];refine ⟨o,s,z,rfl,rfl,by omega,K,g,J,λx w E=>?_⟩;by_cases q:x<=p
    ·exact X x w q
    ·by_cases F:x=m
     ·subst F;exact hDm.2 rfl
     ·exact (hD x (by omega) (by omega)).2 rfl
   | false=>
    left;rw [if_neg (by simp),if_pos (by simp),Qt];refine ⟨rfl,Jjx.2 ⟨K,by dsimp only;omega,g⟩,λu d=>?_,λx hx=>?_⟩
    ·rcases Ab.1 d with h|h
     ·have:=g u h;omega
     ·rw [Aa.1 h];exact As _
    ·rw [zb];dsimp only;by_cases q:x<s
     ·rw [J x q];exact ⟨λh=>h.resolve_right λh=>by omega,.inl⟩
     ·have P:Ji a x/\Ji b x:=by
       by_cases F:x<=p
       ·exact X x (by omega) F
       ·exact (hD x (by omega) hx).2 rfl
      exact ⟨λ_=>P,λ_=>.inr ⟨by omega,hx⟩⟩
 ·by_cases q:bnd a i=m
  ·rw [if_pos q];split<;>omega
  ·have:bnd b j=m:=by omega
   rw [if_pos this];split<;>omega
 ·have O:∀(l:List Run) (f:Run->Run),(K1 l f).length=l.length:=λl f=>by
   rcases l.eq_nil_or_concat with rfl|⟨r,v,rfl⟩
   ·rfl
   ·rw [List.concat_eq_append,Qt];simp
  have key:∀nw ws:Bool,(if nw=true/\ws=false then out++[(m,0)] else if nw=false/\ws=true then K1 out (λu=>(u.1,m)) else out).length<=out.length+1:=λnw ws=>by cases nw<;>cases ws<;>simp [O]
  exact key _ _
theorem int_loop(a b:List Run)(P:a.length<=100000000)(O:b.length<=100000000)(r:RunsOK (-1048576) 1048576 a)(w:RunsOK (-1048576) 1048576 b) :
  ∃e,X1 (@Qv wv) bigN ⟨false,a,0,b,0,[],()⟩=some e/\Jfl e.e/\∀x,Ji e.e x↔Ji a x/\Ji b x:=by
 refine Jjo (b:=@Qv wv) (λs=>∃(p:Int) (was:Bool) (i j:Nat) (out:List Run),s=⟨was,a,(i:Int),b,(j:Int),out,()⟩/\IntI a b p was i j out/\out.length<=i+j)
  (λe=>Jfl e.e/\∀x,Ji e.e x↔Ji a x/\Ji b x) (λs=>(2 * (a.length:Int)+2 * (b.length:Int) - s.j.j.e - s.j.j.j.j.e).toNat) ?_ ⟨-1048577,false,0,0,[],rfl,⟨⟨by omega,by omega,λk h=>?_⟩,⟨by omega,by omega,λk h=>?_⟩,rfl,.inl ⟨rfl,⟨by simp,.nil⟩,by simp,λx hx=>?_⟩⟩,by simp⟩ (by dsimp only;omega)
 ·rintro s ⟨p,was,i,j,out,rfl,hI,Y⟩;have B:=hI.1.1;have A:=hI.2.1.1;by_cases d:i=2 * a.length/\j=2 * b.length
  ·right;obtain ⟨rfl,rfl⟩:=d;have H:@Xt wv ⟨was,a,((2 * a.length:Nat):Int),b,((2 * b.length:Nat):Int),out,()⟩=some (.inr ⟨out,()⟩):=by unfold Xt;dsimp only;rw [Jd5 (by omega),br_f (by simp [w_nt]),Jd5 (by omega),br_f (by simp [w_nt])]
   unfold Qv;rw [jo_s H];refine ⟨_,rfl,?_⟩;obtain ⟨hA,hB,L,hO⟩:=hI;have l:was=false:=by rw [L];simp
   rcases hO with ⟨f,G,F,E⟩|⟨o,s,z,rfl,f,-⟩
   ·refine ⟨G,λx=>?_⟩;by_cases q:x<p
    ·exact E x q
    ·refine ⟨λ⟨u,g,y,Q⟩=>by have:=F u g;omega,λ⟨y,Q⟩=>?_⟩;have:At a x (2 * a.length):=⟨Ai _,λk h=>by have:=hA.2.1 k h;omega,λk h=>.inr h⟩;have:=(Jna this).1 y;omega
   ·rw [l] at f;cases f
  ·left;obtain ⟨m,M,was',K,J,out',e,hI',N,v⟩:=int_inv r w hI d;refine ⟨_,int_step was a b out i j (by omega) (by omega) B A (by omega) (λq=>?_) d,?_,?_⟩
   ·rcases hI.2.2.2 with ⟨f,-⟩|⟨o,s,z,rfl,-⟩
    ·rw [f] at q;cases q
    ·simp
   ·rw [e];exact ⟨m,was',K,J,out',rfl,hI',by omega⟩
   ·rw [e];have X:=hI'.1.1;have R:=hI'.2.1.1;dsimp only;omega
 ·by_cases q:2 * a.length<=k
  ·exact .inr q
  ·left;have:=Jfi r k;omega
 ·by_cases q:2 * b.length<=k
  ·exact .inr q
  ·left;have:=Jfi w k;omega
 ·constructor
  ·rintro ⟨u,g,-⟩;cases g
  ·rintro ⟨⟨u,g,B,A⟩,-⟩;have:=r.bd u g;omega
open Classical in
theorem Jua(a b:List Run)(f:a.length<=100000000)(d:b.length<=100000000)(h:RunsOK (-1048576) 1048576 a)(g:RunsOK (-1048576) 1048576 b) :
  ∃l,@Y2 wv (a,b)=some l/\Jfl l/\∀x,Ji l x↔Ji a x/\Ji b x:=by obtain ⟨e,m,r,o⟩:=int_loop a b f d h g;refine ⟨e.e,?_,r,o⟩;unfold Y2;dsimp only;rw [Yb (by omega),br_f (by simp [w_nt,h]),Yb (by omega),br_f (by simp [w_nt,g])];exact lo_s m
def shrU(k:Int)(u:Run):Option Run:=if u.1+k<u.2 - k then some (u.1+k,u.2 - k) else none
def shrk(k:Int)(l:List Run):List Run:=l.filterMap (shrU k)
theorem J3a(l:List Run)(k:Int)(hl:l.length<=1000000000)(h:RunsOK (-1048576) 1048576 l)(m:0<=k/\k<=1048576):@Jb2 wv (l,k)=some (shrk k l):=by
 have a:=Qo (b:=@jx wv) (e:=(⟨shrk k l,()⟩:HP (List Run) Unit)) (λi=>(⟨k,l,(l.length:Int),(i:Int),shrk k (l.take i),()⟩:HP Int (HP (List Run) (HP Int (HP Int (HP (List Run) Unit)))))) l.length (by omega) (λi hi=>by
  have hx:=Ac hi;generalize l[i]=u at hx;have g:=h.bd u (Ae hx);have d:(shrk k (l.take i)).length<=l.length:=by refine Nat.le_trans (List.length_filterMap_le _ _) ?_;rw [Ax];omega
  have e:shrk k (l.take (i+1))=shrk k (l.take i)++(shrU k u).toList:=by unfold shrk;rw [Qf hx,List.filterMap_append];cases f:shrU k u<;>simp [f]
  unfold jx;dsimp only;rw [Qp (by omega),ge_s (fg hx),Ki,Ki,Yp,wr (n:=(i:Int)+1) (by omega) (by omega),wr (n:=u.1+k) (by omega) (by omega),wr (n:=u.2 - k) (by omega) (by omega),e];unfold shrU;by_cases q:u.1+k<u.2 - k
  ·rw [Qp q,if_pos q,w_ln,w_pl,Jf7 (by omega) (by omega),w_ap];rfl
  ·rw [Ko q,if_neg q];show _=some (Nx.go (⟨k,l,(l.length:Int),((i+1:Nat):Int),shrk k (l.take i)++[],()⟩:HP Int (HP (List Run) (HP Int (HP Int (HP (List Run) Unit))))));rw [List.append_nil];rfl) (by unfold jx;dsimp only;rw [Ko (by omega),Ag])
 unfold Jb2;dsimp only;rw [Yb hl,br_f (by simp [w_nt,h]),Ko (by omega),br_f (by rw [jm];exact decide_eq_false (by omega)),w_ln];exact (lo_s a).trans rfl
theorem J2z{lo hi:Int}{l:List Run}(h:RunsOK lo hi l){k:Int}(r:0<=k):RunsOK lo hi (shrk k l):=by
 refine ⟨λu m=>?_,?_⟩
 ·obtain ⟨v,g,e⟩:=Ar.1 m;unfold shrU at e;split at e
  ·injection e with e;subst e;have:=h.bd v g;dsimp only;omega
  ·cases e
 ·refine List.Pairwise.filterMap (S:=λa b:Run=>a.2<b.1) (shrU k) (λa b o c f d hd=>?_) h.pw;unfold shrU at f hd;split at f
  ·split at hd
   ·injection f with f;injection hd with hd;subst f;subst hd;dsimp only;omega
   ·cases hd
  ·cases f
theorem J2p{lo hi:Int}{l:List Run}(h:RunsOK lo hi l){k:Int}(A:0<=k)(x:Int):Ji (shrk k l) x↔∀y,x - k<=y->y<=x+k->Ji l y:=by
 constructor
 ·rintro ⟨u,d,g,f⟩ y o m;obtain ⟨v,r,e⟩:=Ar.1 d;unfold shrU at e;split at e
  ·injection e with e;subst e;dsimp only at g f;exact ⟨v,r,by omega,by omega⟩
  ·cases e
 ·intro a;obtain ⟨u,d,g,f⟩:=a (x - k) (As _) (by omega);have B:x+k<u.2:=by apply Ah;intro w;have:=(Jxd h u.2).1 ⟨u,d,rfl⟩;exact this.2 (a u.2 (by omega) (by omega))
  exact ⟨(u.1+k,u.2 - k),Ar.2 ⟨u,d,if_pos (by omega)⟩,by dsimp only;omega,by dsimp only;omega⟩
theorem isect(a b:List Run)(g:a.length<=100000000)(f:b.length<=100000000)(m:RunsOK (-4096) 4096 a)(r:RunsOK (-4096) 4096 b) :
  ∃l,@Y2 wv (a,b)=some l/\RunsOK (-4096) 4096 l/\∀x,Ji l x↔Ji a x/\Ji b x:=by have wid:∀ {l:List Run},RunsOK (-4096) 4096 l->RunsOK (-1048576) 1048576 l:=λ{l} h=>⟨λu d=>by have:=h.bd u d;omega,h.pw⟩;obtain ⟨l,w,v,o⟩:=Jua a b g f (wid m) (wid r);refine ⟨l,w,Jq7 v λx hx=>?_,o⟩;obtain ⟨u,d,A,y⟩:=((o x).1 hx).1;have:=m.bd u d;omega
theorem Jj0{n:Nat}{l:List Nat}(h:l.Nodup)(a:∀x∈l,x<n):l.length<=n:=by have:=Yr (m:=List.range n) h λx hx=>List.mem_range.2 (a x hx);rwa [List.length_range] at this
theorem Jcj{l:List Run}(h:RunsOK (-4096) 4096 l):l.length<=8192:=by
 have o:(l.map λu:Run=>(u.1+4096).toNat).Nodup:=List.pairwise_map.2 ((List.Pairwise.and_mem.1 h.pw).imp λ{a b} ⟨m,f,g⟩ e=>by have:=h.bd a m;have:=h.bd b f;omega)
 have:=Jj0 (n:=8192) o λx hx=>by obtain ⟨u,d,rfl⟩:=Bd.1 hx;have:=h.bd u d;omega
 rwa [List.length_map] at this
abbrev Mr:=List (Int×List Run)
def atM:Mr->Int->List Run
 | [],_=>[]
 | e::r,y=>if y=e.1 then e.2 else atM r y
theorem mg_atM(m:Mr)(y:Int):@W.mg wv I (.ls (.p I I)) m y []=atM m y:=by
 show (jb (a:=I) (b:=.ls (.p I I)) y m).getD []=_
 induction m with
 | nil=>rfl
 | cons e r d=>
  show _=if y=e.1 then e.2 else atM r y;by_cases h:y=e.1
  ·have hd:Ty.eqb I y e.1=true:=beq_iff_eq.2 h;rw [if_pos h];exact congrArg (λo:Option (List Run)=>o.getD []) (show jb (a:=I) (b:=.ls (.p I I)) y (e::r)=some e.2 from if_pos hd)
  ·have hd:¬Ty.eqb I y e.1=true:=λf=>h (beq_iff_eq.1 f);rw [if_neg h,<-d];exact congrArg (λo:Option (List Run)=>o.getD []) (show jb (a:=I) (b:=.ls (.p I I)) y (e::r)=jb (a:=I) (b:=.ls (.p I I)) y r from if_neg hd)
theorem ms_new(m:Mr)(y:Int)(v:List Run)(h:∀e∈m,e.1≠y):@W.ms wv I (.ls (.p I I)) m y v=m++[(y,v)]:=by
 show mSet (a:=I) (b:=.ls (.p I I)) y v m=_
 induction m with
 | nil=>rfl
 | cons e r d=>
  show (if Ty.eqb I y e.1=true then (y,v)::r else e::mSet (a:=I) (b:=.ls (.p I I)) y v r)=_;have hd:¬Ty.eqb I y e.1=true:=λg=>h e (List.mem_cons_self ..) (beq_iff_eq.1 g).symm;rw [if_neg hd,d λe f=>h e (Az _ f)];rfl
theorem Jzp(r:Reg)(f:List Run->List Run)(d:f []=[])(y:Int):atM (r.map λw=>(w.1,f w.2)) y=f (rowY r y):=by
 induction r with
 | nil=>exact d.symm
 | cons w r a=>
  unfold rowY at a ⊢;show (if y=w.1 then f w.2 else atM (r.map λw=>(w.1,f w.2)) y)=_;by_cases h:y=w.1
  ·rw [if_pos h,List.find?_cons_of_pos (by simp [h])];rfl
  ·rw [if_neg h,a,List.find?_cons_of_neg (by simp;exact λe=>h e.symm)]
def deep(r:Reg)(k:Int)(c:Cell):Prop:=∀dx dy:Int,-k<=dx->dx<=k->-k<=dy->dy<=k->Jv r (c.1+dx,c.2+dy)
abbrev SeA:=HP Int (HP Reg (HP Int (HP Int (HP Reg (HP Mr Unit)))))
abbrev SeB:=HP Int (HP Reg (HP Int (HP Int (HP Mr (HP Reg Unit)))))
abbrev SeC:=HP Int (HP Int (HP (List Run) (HP Int (HP Int (HP Reg (HP Int (HP Int (HP Int (HP (List Run) (HP Mr (HP Reg Unit)))))))))))
abbrev OeC:=HP (List Run) (HP Int (HP Reg (HP Int (HP Int (HP Int (HP (List Run) (HP Reg (HP Mr Unit))))))))
def Jh4(k:Int)(r:Reg):Mr:=r.map λw=>(w.1,shrk k w.2)
theorem Erode_L0(a:Reg×Int)(r:Reg)(hr:RegOK r)(hl:LimR r)(k:Int)(E:0<=k/\k<=64) :
  X1 (@Y4 wv a) bigN (⟨k,r,(r.length:Int),0,r,[],()⟩:SeA)=some (⟨k,r,Jh4 k r,()⟩:HP Int (HP Reg (HP Mr Unit))):=by
 have hL:=hl.1;refine Qo (b:=@Y4 wv a) (λi=>(⟨k,r,(r.length:Int),(i:Int),r,Jh4 k (r.take i),()⟩:SeA)) r.length (by omega) (λi hi=>?_) ?_
 ·have f:=Ac hi;generalize r[i]=w at f;have d:=Ae f;have g:=hr.rs w d;unfold Y4;dsimp only;rw [Qp (by omega),ge_s (fg f)];refine (ca_s (c:=z7) (J3a w.2 k (hl.2 w d) ⟨λu y=>by have:=g.bd u y;omega,g.pw⟩ (by omega))).trans ?_;have h:@W.ms wv I (.ls (.p I I)) (Jh4 k (r.take i)) w.1 (shrk k w.2)=(Jh4 k (r.take i))++[(w.1,shrk k w.2)]:=ms_new _ _ _ λe A=>by obtain ⟨v,o,rfl⟩:=Bd.1 A;obtain ⟨j,m⟩:=Ba o;have l:=(Ad.1 m).1;rw [Ax] at l;rw [Av (by omega)] at m;have:=Jqr hr m f (by omega);dsimp only;omega
  have B:@W.ar wv .add .i64 (i:Int) 1=((i+1:Nat):Int):=by rw [Ki,wr (by omega) (by omega)];omega
  rw [B];exact congrArg (λz:Mr=>some (Nx.go (⟨k,r,(r.length:Int),((i+1:Nat):Int),r,z,()⟩:SeA))) (h.trans (Jcp f).symm)
 ·unfold Y4;dsimp only;rw [Ko (by omega),Ag]
theorem Erode_L2(a:Reg×Int)(r:Reg)(hr:RegOK r)(k:Int)(B:0<=k/\k<=64)(len idx:Int)(w:Row)(N:-4096<=w.1/\w.1<4096)(out:Reg) :
  ∃o,X1 (@Y7 wv a) bigN (⟨w.1,k,shrk k (rowY r (w.1 - k)),w.1 - k+1,k,r,len,idx,w.1,w.2,Jh4 k r,out,()⟩:SeC) =
    some (⟨o,k,r,len,idx,w.1,w.2,out,Jh4 k r,()⟩:OeC) /\
   RunsOK (-4096) 4096 o/\∀x,Ji o x↔deep r k (x,w.1):=by
 obtain ⟨e,K,o,rfl,m,v⟩:=Zp (b:=@Y7 wv a)
  (λj s=>∃o,s=(⟨w.1,k,o,w.1 - k+1+(j:Int),k,r,len,idx,w.1,w.2,Jh4 k r,out,()⟩:SeC)/\RunsOK (-4096) 4096 o/\∀x,Ji o x↔∀y,w.1 - k<=y->y<=w.1 - k+(j:Int)->Ji (shrk k (rowY r y)) x)
  (λe=>∃o,e=(⟨o,k,r,len,idx,w.1,w.2,out,Jh4 k r,()⟩:OeC)/\RunsOK (-4096) 4096 o/\∀x,Ji o x↔deep r k (x,w.1))
  (2 * k).toNat (by omega) (s0:=⟨w.1,k,shrk k (rowY r (w.1 - k)),w.1 - k+1,k,r,len,idx,w.1,w.2,Jh4 k r,out,()⟩)
  ⟨_,by simp,J2z (Jks hr _) B.1,λx=>⟨λh y m v=>by rw [show y=w.1 - k by omega];exact h,λh=>h _ (As _) (by omega)⟩⟩
  (λj s O=>by
   rintro ⟨o,rfl,m,v⟩;have f:=J2z (Jks hr (w.1 - k+1+(j:Int))) B.1;obtain ⟨l,G,F,E⟩:=isect o (shrk k (rowY r (w.1 - k+1+(j:Int)))) (by have:=Jcj m;omega) (by have:=Jcj f;omega) m f;have em:@W.mg wv I (.ls (.p I I)) (Jh4 k r) (w.1 - k+1+(j:Int)) []=shrk k (rowY r (w.1 - k+1+(j:Int))):=(mg_atM _ _).trans (Jzp r (shrk k) rfl _);refine ⟨_,?_,l,rfl,F,λx=>?_⟩
   ·unfold Y7;dsimp only;rw [em,br_t (by rw [Jjm,Ki,wr (by omega) (by omega)];exact decide_eq_true (by omega))];refine (ca_s (c:=Y5) G).trans ?_;rw [Ki,wr (by omega) (by omega),show w.1 - k+1+(j:Int)+1=w.1 - k+1+((j+1:Nat):Int) by omega]
   ·rw [E,v];constructor
    ·rintro ⟨M,L⟩ y d A;by_cases e:y=w.1 - k+1+(j:Int)
     ·rw [e];exact L
     ·exact M y d (by omega)
    ·intro g;exact ⟨λy d A=>g y d (by omega),g _ (by omega) (by omega)⟩)
  (by
   rintro s ⟨o,rfl,m,v⟩;refine ⟨_,?_,o,rfl,m,λx=>?_⟩
   ·unfold Y7;dsimp only;rw [br_f (by rw [Jjm,Ki,wr (by omega) (by omega)];exact decide_eq_false (by omega))]
   ·rw [v];unfold deep;constructor
    ·intro g dx dy Q P a3 a4;have:=(J2p (Jks hr (w.1+dy)) B.1 x).1 (g (w.1+dy) (by omega) (by omega)) (x+dx) (by omega) (by omega);exact (Jex hr).2 this
    ·intro g y d A;refine (J2p (Jks hr y) B.1 x).2 λz J H=>(Jex hr).1 ?_;have:=g (z - x) (y - w.1) (by omega) (by omega) (by omega) (by omega);dsimp only at this;rwa [show x+(z - x)=z by omega,show w.1+(y - w.1)=y by omega] at this)
 exact ⟨o,K,m,v⟩
theorem Jz3{E:Reg}{w:Row}(h:RegOK E)(l:-4096<=w.1/\w.1<4096)(m:w.2≠[])(hr:RunsOK (-4096) 4096 w.2)(f:∀v∈E,v.1<w.1):RegOK (E++[w]):=by
 refine ⟨λv d=>?_,Af.2 ⟨h.pw,Ak _ _,λa o b g=>?_⟩,λv d=>?_,λv d=>?_⟩
 ·rcases Ab.1 d with q|q
  ·exact h.y v q
  ·rw [Aa] at q;subst q;exact l
 ·rw [Aa] at g;subst g;exact f a o
 ·rcases Ab.1 d with q|q
  ·exact h.ne v q
  ·rw [Aa] at q;subst q;exact m
 ·rcases Ab.1 d with q|q
  ·exact h.rs v q
  ·rw [Aa] at q;subst q;exact hr
theorem J4f{E:Reg}{w:Row}{c:Cell}:Jv (E++[w]) c↔Jv E c\/(w.1=c.2/\Ji w.2 c.1):=by
 unfold Jv;constructor
 ·rintro ⟨v,a,h⟩;rcases Ab.1 a with q|q
  ·exact .inl ⟨v,q,h⟩
  ·rw [Aa] at q;subst q;exact .inr h
 ·rintro (⟨v,a,h⟩|h)
  ·exact ⟨v,Ab.2 (.inl a),h⟩
  ·exact ⟨w,Ab.2 (.inr (Aa.2 rfl)),h⟩
theorem Jjr{r:Reg}(h:RegOK r):r.length<=8192:=by
 have m:(r.map λw:Row=>(w.1+4096).toNat).Nodup:=List.pairwise_map.2 ((List.Pairwise.and_mem.1 h.pw).imp λ{a b} ⟨l,f,g⟩ e=>by have:=h.y a l;have:=h.y b f;omega)
 have:=Jj0 (n:=8192) m λx hx=>by obtain ⟨u,d,rfl⟩:=Bd.1 hx;have:=h.y u d;omega
 rwa [List.length_map] at this
theorem Erode_ok(r:Reg)(hr:RegOK r)(hl:LimR r)(k:Int)(N:0<=k/\k<=64):∃E,@jc wv (r,k)=some E/\RegOK E/\∀c,Jv E c↔deep r k c:=by
 have hL:=hl.1;obtain ⟨e,Y,E,rfl,l,m,-⟩:=Zp (b:=@Y6 wv (r,k))
  (λi s=>∃E,s=(⟨k,r,(r.length:Int),(i:Int),Jh4 k r,E,()⟩:SeB)/\RegOK E/\(∀c,Jv E c↔(∃w∈r.take i,w.1=c.2)/\deep r k c)/\∀v∈E,∃w∈r.take i,v.1=w.1)
  (λe=>∃E,e=(⟨E,()⟩:HP Reg Unit)/\RegOK E/\(∀c,Jv E c↔deep r k c)/\True)
  r.length (by omega) (s0:=⟨k,r,(r.length:Int),0,Jh4 k r,[],()⟩)
  ⟨[],rfl,⟨by simp,.nil,by simp,by simp⟩,λc=>⟨λ⟨w,d,_⟩=>(Ao d).elim,λ⟨⟨w,d,_⟩,_⟩=>by rw [List.take_zero] at d;exact (Ao d).elim⟩,λv f=>(Ao f).elim⟩
  (λi s hi=>by
   rintro ⟨E,rfl,l,m,A⟩;have d:=Ac hi;generalize r[i]=w at d;have F:=Ae d;have M:=hr.y w F;obtain ⟨o,L,K,B⟩:=Erode_L2 (r,k) r hr k N (r.length:Int) (i:Int) w M E;have X:=Jcj K;have hEl:=Jjr l;have em:@W.mg wv I (.ls (.p I I)) (Jh4 k r) (w.1 - k) []=shrk k (rowY r (w.1 - k)):=(mg_atM _ _).trans (Jzp r (shrk k) rfl _);have Q:@W.ar wv .sub .i64 w.1 k=w.1 - k:=by rw [Yp,wr (by omega) (by omega)]
   have P:@W.ar wv .add .i64 (w.1 - k) 1=w.1 - k+1:=by rw [Ki,wr (by omega) (by omega)]
   have O:@W.ar wv .add .i64 (i:Int) 1=((i+1:Nat):Int):=by rw [Ki,wr (by omega) (by omega)];omega
   have G:∀v∈E,v.1<w.1:=λv f=>by obtain ⟨z,a,e⟩:=A v f;obtain ⟨j,J⟩:=Ba a;have H:=(Ad.1 J).1;rw [Ax] at H;rw [Av (by omega)] at J;have:=Jqr hr J d (by omega);omega
   have y:=Qf d;by_cases h:o=[]
   ·refine ⟨(⟨k,r,(r.length:Int),((i+1:Nat):Int),Jh4 k r,E,()⟩:SeB),?_,E,rfl,l,λc=>?_,λv f=>?_⟩
    ·unfold Y6;dsimp only;rw [Qp (by omega),ge_s (fg d),Q,em,P];refine (lo_s L).trans ?_;dsimp only;rw [br_f (by rw [jm,w_ln,h];rfl),O]
    ·rw [m,y];constructor
     ·rintro ⟨⟨z,a,e⟩,g⟩;exact ⟨⟨z,Ab.2 (.inl a),e⟩,g⟩
     ·rintro ⟨⟨z,a,e⟩,g⟩;rcases Ab.1 a with q|q
      ·exact ⟨⟨z,q,e⟩,g⟩
      ·rw [Aa] at q;subst q;have:=(B c.1).2 (by rw [e];exact g);rw [h] at this;obtain ⟨u,R,_⟩:=this;exact (Ao R).elim
    ·obtain ⟨z,a,e⟩:=A v f;exact ⟨z,by rw [y];exact Ab.2 (.inl a),e⟩
   ·have Z:=Bc.2 h;refine ⟨(⟨k,r,(r.length:Int),((i+1:Nat):Int),Jh4 k r,E++[(w.1,o)],()⟩:SeB),?_,_,rfl,Jz3 (w:=(w.1,o)) l M h K G,λc=>?_,λv f=>?_⟩
    ·unfold Y6;dsimp only;rw [Qp (by omega),ge_s (fg d),Q,em,P];refine (lo_s L).trans ?_;dsimp only;rw [br_t (by rw [jm,w_ln];exact decide_eq_true (by omega)),w_ln,w_pl,Jf7 (by omega) (by omega),w_ln,w_pl,J1u (by omega) (by omega),w_ap,O]
    ·rw [J4f,m,y];constructor
     ·rintro (⟨⟨z,a,e⟩,g⟩|⟨e,g⟩)
      ·exact ⟨⟨z,Ab.2 (.inl a),e⟩,g⟩
      ·have e:w.1=c.2:=e;refine ⟨⟨w,Ab.2 (.inr (Aa.2 rfl)),e⟩,?_⟩;have:=(B c.1).1 g;rwa [e] at this
     ·rintro ⟨⟨z,a,e⟩,g⟩;rcases Ab.1 a with q|q
      ·exact .inl ⟨⟨z,q,e⟩,g⟩
      ·rw [Aa] at q;subst q;exact .inr ⟨e,(B c.1).2 (by rw [e];exact g)⟩
    ·rcases Ab.1 f with q|q
     ·obtain ⟨z,a,e⟩:=A v q;exact ⟨z,by rw [y];exact Ab.2 (.inl a),e⟩
     ·rw [Aa] at q;subst q;exact ⟨w,by rw [y];exact Ab.2 (.inr (Aa.2 rfl)),rfl⟩)
  (by
   rintro s ⟨E,rfl,l,m,A⟩;refine ⟨_,?_,E,rfl,l,λc=>?_,trivial⟩
   ·unfold Y6;dsimp only;rw [Ko (by omega)]
   ·rw [m,Ag];refine ⟨And.right,λg=>⟨?_,g⟩⟩;have:=g 0 0 (by omega) (by omega) (by omega) (by omega);obtain ⟨w,d,e,_⟩:=this;exact ⟨w,d,by rw [e];dsimp only;omega⟩)
 refine ⟨E,?_,l,m⟩;have f:@Jb0 wv (r,k)=some true:=by
  classical
  unfold Jb0;dsimp only;rw [br_t (by rw [Jh3];exact decide_eq_true (by omega)),br_t (by rw [Jjm];exact decide_eq_true (by omega)),Qa hl,decide_eq_true hr]
 unfold jc;refine (ca_s (c:=Jae) f).trans ?_;rw [br_f (by rfl),w_ln];refine (lo_s (Erode_L0 (r,k) r hr hl k N)).trans ?_;dsimp only;rw [w_ln];exact (lo_s Y).trans rfl
theorem J1x:∀l:List Int,l.Pairwise (·<=·)->(cptF l).Pairwise (·<·)/\∀x,x∈cptF l↔x∈l:=by
 intro l;have key:∀m:List Int,(m.reverse).Pairwise (·<=·)->(cptF m.reverse).Pairwise (·<·)/\∀x,x∈cptF m.reverse↔x∈m.reverse:=by
  intro m
  induction m with
  | nil=>intro _;exact ⟨.nil,λx=>Iff.rfl⟩
  | cons a m B=>
   intro h;rw [List.reverse_cons] at h ⊢;obtain ⟨E,J,w⟩:=Af.1 h;obtain ⟨g,d⟩:=B E;have hl:=(Je3 m.reverse m.reverse.length (Ai _)).2;rw [Ag] at hl;rw [Jt5];unfold cptS;split
   ·rename_i f;refine ⟨g,λx=>?_⟩;rw [d,Ab,Aa];refine ⟨.inl,λhx=>hx.elim id λe=>?_⟩;subst e;exact (d x).1 (List.mem_of_getLast? f)
   ·rename_i f;refine ⟨Af.2 ⟨g,Ak _ _,λx hx y v=>?_⟩,λx=>by rw [Ab,Ab,d]⟩;rw [Aa] at v;subst v;have r:x<=y:=w x ((d x).1 hx) y (Aa.2 rfl);rcases Int.lt_or_eq_of_le r with q|q
    ·exact q
    ·exfalso;subst q;have o:cptF m.reverse≠[]:=λe=>by rw [e] at hx;cases hx
     obtain ⟨M,z,e⟩:∃M z,cptF m.reverse=M++[z]:=⟨_,_,(List.dropLast_concat_getLast o).symm⟩;rw [e,List.getLast?_concat] at f;have H:z<=x:=w z ((d z).1 (by rw [e];exact Ab.2 (.inr (Aa.2 rfl)))) x (Aa.2 rfl);rw [e] at g hx;obtain ⟨G,F,A⟩:=Af.1 g;rcases Ab.1 hx with q|q
     ·have:=A x q z (Aa.2 rfl);omega
     ·rw [Aa] at q;exact f (by rw [q])
 have:=key l.reverse;rwa [List.reverse_reverse] at this
theorem sortI_ok(l:List Int)(hl:l.length<=1000000000):∃r,Jrp l=some r/\r.Pairwise (·<=·)/\∀x,x∈r↔x∈l:=by refine ⟨Jbv (λx y:Int=>decide (x<=y)) l,by unfold Jrp;rw [if_pos (by omega)],?_,λx=>(Y9 l).mem_iff⟩;exact (Ji3 (le:=λx y:Int=>decide (x<=y)) (λx y z d a=>by simp only [decide_eq_true_eq] at *;omega) (λx y=>by simp only [decide_eq_true_eq];omega) l).imp λh=>of_decide_eq_true h
theorem Jxy(l:List Run)(hl:l.length<=1000000000):@K9 wv l=some l:=by
 have e:∀ {α:Type} (x:Option α),@W.gd wv α (@W.ft wv 16 (@W.pl wv 0 (@W.ln wv Run l))) x=x:=λx=>by rw [w_ln,w_pl];exact Jf7 (by omega) (by omega)
 unfold K9;rw [e,w_nq];unfold nlv;rw [w_ln];split
 ·rename_i a;have:l=[]:=Aq (by omega);subst this;simp [w_br]
 ·rfl
abbrev Sr1S:=HP Reg (HP Reg (HP Int (HP Reg (HP Int (HP Int (HP Reg (HP Reg (HP (List Int) Unit))))))))
abbrev Or1S:=HP Reg (HP Reg (HP Int (HP Reg (HP Reg (HP (List Int) Unit)))))
abbrev Sr0S:=HP Reg (HP Reg (HP Int (HP Reg (HP Reg (HP (List Int) Unit)))))
abbrev Sr3S:=HP (List Int) (HP Int (HP Int (HP Reg (HP Reg (HP Reg Unit)))))
theorem Xp{r:Reg}(h:RegOK r):LimR r:=⟨by have:=Jjr h;omega,λw a=>by have:=Jcj (h.rs w a);omega⟩
theorem J6t(r:Reg)(c:Cell):J2g r c↔Jv r c/\¬deep r 1 c:=by unfold J2g deep;refine and_congr Iff.rfl ⟨λ⟨dx,dy,l,g,f,d,a⟩ h=>a (h dx dy l g f d),λh=>?_⟩;apply Ah;intro m;refine h λdx dy l g f d=>?_;apply Ah;intro a;exact m ⟨dx,dy,l,g,f,d,a⟩
end Go.Proofs.YtmfagdfkpjgeiaaGreat
