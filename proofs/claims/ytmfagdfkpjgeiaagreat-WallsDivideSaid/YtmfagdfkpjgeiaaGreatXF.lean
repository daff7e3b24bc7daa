/- The region of cells: what the program's text says. Conditions: at most 10^9 cells. -/
import Derived.Test.YtmfagdfkpjgeiaaGreatXD
import Derived.Test.YtmfagdfkpjgeiaaGreatXE
set_option linter.unusedVariables false
set_option linter.unusedSimpArgs false
set_option linter.unusedSectionVars false
set_option maxRecDepth 100000
namespace Go.Proofs.YtmfagdfkpjgeiaaGreat
open Go Go.Vv Go.Dn Go.Dn.W
open List renaming mem_singleton -> Aa, mem_append -> Ab, getElem?_eq_getElem -> Ac, getElem?_eq_some_iff -> Ad, mem_of_getElem? -> Ae, take_length -> Af, not_mem_nil -> Ag, length_append -> Ah, length_map -> Ai, pairwise_append -> Aj, mem_map -> Ak, length_take -> Am, mem_of_find?_eq_some -> Ao, getElem?_take_of_lt -> Ar, pairwise_singleton -> As, mem_iff_getElem? -> Au, getElem?_of_mem -> Av, length_nil -> Aw, eq_nil_of_length_eq_zero -> Ax, length_pos_iff -> Ay, mem_filterMap -> Az, pairwise_iff_getElem -> Bb, pairwise_map -> Bc, length_cons -> Bd, getElem?_eq_none -> Be, mem_cons_of_mem -> Bf
open Classical renaming byContradiction -> Ap
open Nat renaming le_refl -> Aq
open Int renaming le_refl -> Ba
open Prod.mk renaming injEq -> Bg
def leC(x y:Cell):Bool:=!(Go.Proofs.ltOf cmpC) y x
theorem Jtk{x y:Cell}:leC x y=true↔x.2<y.2\/(x.2=y.2/\x.1<=y.1):=by simp only [leC,Go.Proofs.ltOf,Bool.not_eq_true',decide_eq_false_iff_not,Jpb];omega
theorem J5r(l:List Cell):(Jcx leC l).Pairwise λa b=>a.2<b.2\/(a.2=b.2/\a.1<=b.1):=by
 refine (Jj9 (le:=leC) (λx y z f d=>?_) (λx y=>?_) l).imp λh=>Jtk.1 h
 ·rw [Jtk] at *;omega
 ·rw [Jtk,Jtk];omega
theorem k_sortC{α:Type}{l:List Cell}(hl:l.length<=1000000000)(k:List (Int×Int)->Option α):@W.call wv α Jqf l k=k (Jcx leC l):=by refine ca_s (c:=Jqf) (a:=l) (r:=Jcx leC l) ?_;show (if List.length (α:=Int×Int) l<4611686018427387904 then some (Jcx (α:=Int×Int) (λx y=>!(Go.Proofs.ltOf cmpC) y x) l) else none)=_;rw [if_pos (by omega)];rfl
def OfI(out:Reg)(runs:List Run)(done:List Cell):Prop :=
 (out=[]/\runs=[]/\done=[])\/∃(pre:Reg) (y:Int) (z rs:List Run) (a b:Int),out=pre++[(y,z)]/\runs=rs++[(a,b)]/\RegOK (pre++[(y,rs++[(a,b)])]) /\
  (∀c,Jz (pre++[(y,rs++[(a,b)])]) c↔c∈done)
theorem of_new{T:Reg}{c:Cell}(h:RegOK T)(g:(-4096<=c.1/\c.1<4096)/\(-4096<=c.2/\c.2<4096))(a:∀w∈T,w.1<c.2):RegOK (T++[(c.2,[(c.1,c.1+1)])])/\∀d,Jz (T++[(c.2,[(c.1,c.1+1)])]) d↔Jz T d\/d=c:=by
 refine ⟨Jh8.2 ⟨h,g.2,by simp,⟨λx hx=>?_,As _ _⟩,a⟩,λd=>?_⟩
 ·rw [Aa.1 hx];dsimp only;omega
 ·rw [Jdg];constructor
  ·rintro (h|⟨m,u,f,l⟩)
   ·exact .inl h
   ·rw [Aa.1 f] at l;right;obtain ⟨r,o⟩:=d;obtain ⟨y,v⟩:=c;simp only [Bg] at *
    omega
  ·rintro (h|rfl)
   ·exact .inl h
   ·exact .inr ⟨rfl,_,Aa.2 rfl,by dsimp only;omega⟩
open Classical in
theorem Of_loop(l:List Cell)(hl:l.length<=1000000000)(Z:∀c∈l,(-4096<=c.1/\c.1<4096)/\(-4096<=c.2/\c.2<4096))(hs:l.Pairwise λa b=>a.2<b.2\/(a.2=b.2/\a.1<=b.1)) :
  ∃e,X2 (@ja wv) bigN ⟨(l.length:Int),⟨0,⟨l,⟨[],⟨[],()⟩⟩⟩⟩⟩=some e/\RegOK (Qd e.e λy=>(y.1,e.j.e))/\∀c,Jz (Qd e.e λy=>(y.1,e.j.e)) c↔c∈l:=by
 refine Ym (b:=@ja wv) (λi s=>∃out runs,s=⟨(l.length:Int),⟨(i:Int),⟨l,⟨out,⟨runs,()⟩⟩⟩⟩⟩/\out.length<=i/\runs.length<=i/\OfI out runs (l.take i)) (λe=>RegOK (Qd e.e λy=>(y.1,e.j.e))/\∀c,Jz (Qd e.e λy=>(y.1,e.j.e)) c↔c∈l) l.length (by omega) ⟨[],[],rfl,by simp,by simp,.inl ⟨rfl,rfl,by simp⟩⟩ ?_ ?_
 ·rintro i s hi ⟨out,runs,rfl,L,hr,hI⟩;have hx:=Ac hi;generalize l[i]=c at hx;have G:=Z c (Ae hx);have o:=Kq hx;have E:∀d∈l.take i,d.2<c.2\/(d.2=c.2/\d.1<=c.1):=λd hd=>by have g:(l.take (i+1)).Pairwise λa b=>a.2<b.2\/(a.2=b.2/\a.1<=b.1):=List.Pairwise.sublist (List.take_sublist _ _) hs;rw [o] at g;exact (Aj.1 g).2.2 d hd c (by simp)
  unfold ja;dsimp only;rw [K1 (by omega),Jha ⟨by omega,by rw [w_ln];omega⟩,ge_s (fg hx)];simp only [w_ln,Kd,w_ap,w_ml,w_pl,Yz];rw [wr (n:=(i:Int)+1) (by omega) (by omega),wr (n:=c.1+1) (by omega) (by omega)];rcases hI with ⟨rfl,rfl,hd⟩|⟨pre,y,z,rs,a,b,rfl,rfl,hV,m⟩
  ·rw [br_t (by rfl),Jy0 (by simp) (by simp)];refine ⟨_,rfl,[(c.2,[])],[(c.1,c.1+1)],rfl,by simp,by simp,.inr ⟨[],c.2,[],[],c.1,c.1+1,rfl,rfl,?_⟩⟩;have:=of_new (T:=[]) ⟨(by simp),.nil,(by simp),(by simp)⟩ G (by simp);refine ⟨this.1,λd=>?_⟩;rw [o,hd];have f:=this.2 d;simp only [List.nil_append] at f ⊢;rw [f];simp [Jz]
  ·have r:((pre++[(y,z)]).length:Int)=(pre.length:Int)+1:=by simp
   have F:((rs++[(a,b)]).length:Int)=(rs.length:Int)+1:=by simp
   have X:(pre.length:Int)+1<=i:=by rw [<-r];omega
   have R:(rs.length:Int)+1<=i:=by rw [<-F];omega
   obtain ⟨v1,v2,v3,v4,v5⟩:=Jh8.1 hV;obtain ⟨O,N,H⟩:=Jjq.1 v4;dsimp only at N H v2 v5;have B:(b - 1,y)∈l.take i:=(m _).1 (Jdg.2 (.inr ⟨rfl,Jaq.2 (.inr ⟨by dsimp only;omega,by dsimp only;omega⟩)⟩));have Y:=E _ B;dsimp only at Y;simp only [r,F];rw [show (pre.length:Int)+1 - 1=(pre.length:Int) by omega,show (rs.length:Int)+1 - 1=(rs.length:Int) by omega,wr (n:=(pre.length:Int)) (by omega) (by omega),wr (n:=(rs.length:Int)) (by omega) (by omega)];simp only [ge_s (fg (Jeu pre (y,z))),ge_s (fg (Jeu rs (a,b)))];rw [br_f (by rw [Xe,beq_eq_false_iff_ne];omega),Jha (by omega)];by_cases K:y=c.2
   ·subst K;rw [br_f (by rw [Jgv];simp)];simp only [Jha (show 0<=(pre.length:Int)/\(pre.length:Int)<(pre.length:Int)+1 by omega),Jha (show 0<=(rs.length:Int)/\(rs.length:Int)<(rs.length:Int)+1 by omega),gd_t (show @W.cm wv .eql ((pre.length:Int)+1) ((pre.length:Int)+1)=true by rw [Xe];simp)];by_cases A:c.1 > b
    ·rw [br_t (by rw [Zv];exact decide_eq_true A),Jdm (by omega) (by omega),w_st,Int.toNat_natCast,Jns];refine ⟨_,rfl,pre++[(c.2,z)],rs++[(a,b)]++[(c.1,c.1+1)],rfl,by omega,by simp only [Ah,Bd,Aw] at hr ⊢;omega,.inr ⟨pre,c.2,z,rs++[(a,b)],c.1,c.1+1,rfl,rfl,Jh8.2 ⟨v1,v2,by simp,Jjq.2 ⟨v4,by dsimp only;omega,λv Q=>?_⟩,v5⟩,λd=>?_⟩⟩
     ·rcases Ab.1 Q with q|q
      ·have:=H v q;dsimp only;omega
      ·rw [Aa.1 q];exact A
     ·rw [o,Ab,<-m,Jdg,Jdg,Jaq];simp only [Aa];obtain ⟨M,d2⟩:=d;obtain ⟨c1,c2⟩:=c;simp only [Bg];constructor
      ·rintro (h|⟨g,f|f⟩)
       ·exact .inl (.inl h)
       ·exact .inl (.inr ⟨g,f⟩)
       ·exact .inr ⟨by omega,by omega⟩
      ·rintro ((h|⟨g,f⟩)|⟨g,f⟩)
       ·exact .inl h
       ·exact .inr ⟨g,.inl f⟩
       ·exact .inr ⟨by omega,.inr (by omega)⟩
    ·rw [br_f (by rw [Zv];exact decide_eq_false A),w_st,Int.toNat_natCast,Jns,w_mx];have J:(if c.1+1 > b then c.1+1 else b)=max b (c.1+1):=by omega
     rw [J];refine ⟨_,rfl,pre++[(c.2,z)],rs++[(a,max b (c.1+1))],rfl,by omega,by simp only [Ah,Bd,Aw] at hr ⊢;omega,.inr ⟨pre,c.2,z,rs,a,max b (c.1+1),rfl,rfl,Jh8.2 ⟨v1,v2,by simp,Jjq.2 ⟨O,by dsimp only;omega,H⟩,v5⟩,λd=>?_⟩⟩;rw [o,Ab,<-m,Jdg,Jdg,Jaq,Jaq];simp only [Aa];obtain ⟨M,d2⟩:=d;obtain ⟨c1,c2⟩:=c;simp only [Bg] at *
     constructor
     ·rintro (h|⟨g,f|f⟩)
      ·exact .inl (.inl h)
      ·exact .inl (.inr ⟨g,.inl f⟩)
      ·by_cases q:M<b
       ·exact .inl (.inr ⟨g,.inr (by omega)⟩)
       ·exact .inr ⟨by omega,by omega⟩
     ·rintro ((h|⟨g,f|f⟩)|⟨g,f⟩)
      ·exact .inl h
      ·exact .inr ⟨g,.inl f⟩
      ·exact .inr ⟨g,.inr (by omega)⟩
      ·exact .inr ⟨by omega,.inr (by omega)⟩
   ·rw [br_t (by rw [Jgv];simp [K]),Jy0 (by omega) (by omega),Xb];have:=of_new hV G (λw P=>by
     rcases Ab.1 P with q|q
     ·have:=v5 w q;omega
     ·rw [Aa.1 q];dsimp only;omega)
    refine ⟨_,rfl,pre++[(y,rs++[(a,b)])]++[(c.2,[])],[(c.1,c.1+1)],rfl,by simp only [Ah,Bd,Aw] at L ⊢;omega,by simp,.inr ⟨pre++[(y,rs++[(a,b)])],c.2,[],[],c.1,c.1+1,rfl,rfl,this.1,λd=>?_⟩⟩;rw [o,Ab,<-m,Aa];exact this.2 d
 ·rintro s ⟨out,runs,rfl,L,hr,hI⟩;unfold ja;dsimp only;rw [J2 (by omega)];refine ⟨_,rfl,?_⟩;rw [Af] at hI;dsimp only;rcases hI with ⟨rfl,rfl,rfl⟩|⟨pre,y,z,rs,a,b,rfl,rfl,hV,m⟩
  ·exact ⟨⟨(by simp [Qd]),.nil,(by simp [Qd]),(by simp [Qd])⟩,λc=>by simp [Qd,Jz]⟩
  ·rw [Xb];exact ⟨hV,m⟩
theorem Of_check(l:List Cell)(hl:l.length<=1000000000)(d:∀c∈l,(-4096<=c.1/\c.1<4096)/\(-4096<=c.2/\c.2<4096)):X2 (@z7 wv) bigN ⟨l,⟨l,⟨(l.length:Int),⟨0,()⟩⟩⟩⟩=some (.inr ⟨l,()⟩) :=
 K8 (b:=@z7 wv) (λi=>⟨l,⟨l,⟨(l.length:Int),⟨(i:Int),()⟩⟩⟩⟩) l.length (by omega) (λi hi=>by
  have hx:=Ac hi;generalize l[i]=c at hx;have a:=d c (Ae hx);unfold z7;dsimp only;rw [K1 (by omega),ge_s (fg hx),jy,jy,br_f (by simp [w_nt];omega),br_f (by simp [w_nt];omega),Kd,wr (by omega) (by omega)];rfl) (by unfold z7;dsimp only;rw [J2 (by omega)])
theorem Of_ok(l:List Cell)(hl:l.length<=1000000000)(o:∀c∈l,(-4096<=c.1/\c.1<4096)/\(-4096<=c.2/\c.2<4096)):∃T,@Jdk wv l=some (T,0)/\RegOK T/\∀c,Jz T c↔c∈l:=by
 have d:=jc (le:=leC) l;have m:=d.length_eq;obtain ⟨e,a,hV,g⟩:=Of_loop (Jcx leC l) (by omega) (λc A=>o c (d.mem_iff.1 A)) (J5r l);refine ⟨_,?_,hV,λc=>(g c).trans d.mem_iff⟩;unfold Jdk;rw [w_ln];refine (lo_s (Of_check l hl o)).trans ?_;dsimp only;have w:∀x,x=some ((Qd e.e λy=>(y.1,e.j.e)),(0:Int))->nlv (l.length:Int) (λv=>if v=true then (@W.loop wv _ _ _ (@Jcd wv) ⟨0,⟨0,()⟩⟩ λr=>some (([]:Reg),(0:Int))) else x)=some ((Qd e.e λy=>(y.1,e.j.e)),(0:Int)):=by
  rintro x rfl;unfold nlv;split
  ·rename_i E;have f:l=[]:=Ax (by omega);subst f;have h:e=⟨[],⟨[],()⟩⟩:=by have:X2 (@ja wv) bigN ⟨(([]:List Cell).length:Int),⟨0,⟨[],⟨[],⟨[],()⟩⟩⟩⟩⟩=some ⟨[],⟨[],()⟩⟩:=Jft (n:=18446744073709551615) rfl;have B:Jcx leC []=[]:=rfl;rw [B] at a;rw [this] at a;injection a with a;exact a.symm
   subst h;have hd:X2 (@Jcd wv) bigN ⟨0,⟨0,()⟩⟩=some ():=Jft (n:=18446744073709551615) rfl;exact (if_pos (show (@W.loop wv _ _ _ (@Jcd wv) ⟨0,⟨0,()⟩⟩ λr=>some (([]:Reg),(0:Int)))=_ from lo_s hd)).trans rfl
  ·rfl
 rw [w_nq,w_ln];refine w _ ?_;rw [w_pl,Jdm (by omega) (by omega),k_sortC hl,w_ln];refine (lo_s a).trans ?_;rw [w_ml]
theorem k_Of{α:Type}{l:List Cell}{T:Reg}(h:@Jdk wv l=some (T,0))(k:(List (Int×List (Int×Int)))×Int->Option α):@W.call wv α Jbv l k=k (T,0):=ca_s (c:=Jbv) h
open Classical in
noncomputable def Jlb(l:List J0):List Cell:=l.flatMap λt=>if VT t then t.2.2 else []
open Classical in
theorem Jwu(l:List J0):(Jlb l).length<=(l.flatMap λt=>t.2.2).length:=by
 unfold Jlb
 induction l with
 | nil=>simp
 | cons t l a =>
  simp only [List.flatMap_cons,Ah];split
  ·omega
  ·rw [Aw];omega
open Classical in
theorem J0j(l:List J0)(hl:l.length<=1000000000)(r:(l.flatMap λt=>t.2.2).length<=1000000000):∃T,@zj wv l=some T/\RegOK T/\∀c,Jz T c↔∃t∈l,VT t/\c∈t.2.2:=by
 have a:∀c,c∈Jlb l↔∃t∈l,VT t/\c∈t.2.2:=λc=>by
  unfold Jlb;rw [List.mem_flatMap];constructor
  ·rintro ⟨t,f,h⟩;split at h
   ·exact ⟨t,f,by assumption,h⟩
   ·cases h
  ·rintro ⟨t,f,m,g⟩;exact ⟨t,f,by rw [if_pos m];exact g⟩
 obtain ⟨T,hT,hV,o⟩:=Of_ok (Jlb l) (Nat.le_trans (Jwu l) r) (λc r=>by obtain ⟨t,f,m,g⟩:=(a c).1 r;obtain ⟨i,hi⟩:=Au.1 g;have:=(m.2.2.1 i (Ad.1 hi).1 c hi).1;unfold grid at this;omega)
 refine ⟨T,?_,hV,λc=>(o c).trans (a c)⟩;have d:=K8 (b:=@Jaa wv) (e:=⟨Jlb l,()⟩) (λi=>⟨l,⟨(l.length:Int),⟨(i:Int),⟨Jlb (l.take i),()⟩⟩⟩⟩) l.length (by omega) (λi hi=>by
  have hx:=Ac hi;generalize l[i]=t at hx;have m:=Jwu (l.take i);have g:=Jd9 (λt:J0=>t.2.2) hx;have e:Jlb (l.take (i+1))=Jlb (l.take i)++if VT t then t.2.2 else []:=Jfd hx;unfold Jaa;dsimp only;rw [K1 (by omega),ge_s (fg hx),Jfy,Kd,wr (by omega) (by omega),e];by_cases hV:VT t
  ·rw [br_t (by simp [hV]),w_ln,w_ln,w_pl,Jdm (by omega) (by omega),w_ap,if_pos hV];rfl
  ·rw [br_f (by simp [hV]),if_neg hV,List.append_nil];rfl) (by unfold Jaa;dsimp only;rw [J2 (by omega),Af])
 unfold zj;refine (lo_s d).trans ?_;dsimp only;rw [k_Of hT]
theorem Jvp{α:Type}{a b:Int}(k:Int->Option α):@W.call wv α Qw ((a,b):Int×Int) k=k (cmpI a b):=ca_s (c:=Qw) (Jl3 a b)
theorem half(i j:Nat)(a:i+j<=4000000000):@W.cv wv .i64 (@W.sh wv .shr .u64 (@W.cv wv .u64 (IntKind.wrap .i64 ((i:Int)+(j:Int)))) 1)=(((i+j) / 2:Nat):Int):=by
 rw [wr (by omega) (by omega)];have f:@W.cv wv .u64 ((i:Int)+(j:Int))=((i+j:Nat):Int):=by show IntKind.wrap .u64 _=_;rw [IntKind.wrap_u64,Int.emod_eq_of_lt (by omega) (by omega)];omega
 rw [f];have d:@W.sh wv .shr .u64 ((i+j:Nat):Int) 1=(((i+j) / 2:Nat):Int):=by
  show Int.fdiv ((i+j:Nat):Int) (2 ^ (min (1:Int).toNat (IntKind.bits .u64)))=_;have:(2:Int) ^ (min (1:Int).toNat (IntKind.bits .u64))=2:=by rfl
  rw [this,Int.fdiv_eq_ediv_of_nonneg _ (by omega)];omega
 rw [d];exact wr (by omega) (by omega)
theorem J4i{a b:Int}:cmpI a b<0↔a<b:=by unfold cmpI;(repeat' split)<;>omega
theorem J8c{a b:Int}:cmpI a b=0↔a=b:=by unfold cmpI;(repeat' split)<;>omega
theorem Jun(r:Reg)(y:Int)(hl:LimR r)(h:RegOK r):@Jei wv (r,y)=some (Jhv r y):=by
 have hL:=hl.1;have mono:∀(i j:Nat) (a b:Row),i<j->r[i]?=some a->r[j]?=some b->a.1<b.1:=λi j a b E Z Y=>by obtain ⟨P,e1⟩:=Ad.1 Z;obtain ⟨O,L⟩:=Ad.1 Y;have:=Bb.1 h.pw i j P O E;rwa [e1,L] at this
 obtain ⟨e,X,k,rfl,hk,o,A⟩:=Jhm (b:=@Jdw wv) (s0:=⟨r,⟨y,⟨(r.length:Int),⟨0,⟨(r.length:Int),⟨r,()⟩⟩⟩⟩⟩⟩)
  (λs=>∃i j:Nat,s=⟨r,⟨y,⟨(r.length:Int),⟨(i:Int),⟨(j:Int),⟨r,()⟩⟩⟩⟩⟩⟩/\i<=j/\j<=r.length/\(∀m w,m<i->r[m]?=some w->w.1<y)/\∀m w,j<=m->r[m]?=some w->y<=w.1)
  (λe=>∃k:Nat,e=⟨r,⟨y,⟨(r.length:Int),⟨(k:Int),⟨r,()⟩⟩⟩⟩⟩/\k<=r.length/\(∀m w,m<k->r[m]?=some w->w.1<y)/\∀m w,k<=m->r[m]?=some w->y<=w.1)
  (λs=>(s.j.j.j.j.e - s.j.j.j.e).toNat) (by
  rintro s ⟨i,j,rfl,E,M,o,A⟩;unfold Jdw;dsimp only;by_cases R:i<j
  ·have f:=Ac (l:=r) (i:=(i+j) / 2) (by omega);generalize r[(i+j) / 2]=w at f;rw [Kd,half i j (by omega),K1 (by omega),gd_t (by rfl),ge_s (fg f),Jvp,Kd,wr (by omega) (by omega)];left;by_cases K:w.1<y
   ·rw [K1 (J4i.2 K)];refine ⟨_,rfl,⟨(i+j) / 2+1,j,by simp only [Int.natCast_add];rfl,by omega,M,λm v d g=>?_,A⟩,by dsimp only;omega⟩;by_cases e:m=(i+j) / 2
    ·subst e;rw [f] at g;injection g with e;subst e;exact K
    ·have:=mono m _ v w (by omega) g f;omega
   ·rw [J2 (λq=>K (J4i.1 q))];refine ⟨_,rfl,⟨i,(i+j) / 2,rfl,by omega,by omega,o,λm v d g=>?_⟩,by dsimp only;omega⟩;by_cases e:m=(i+j) / 2
    ·subst e;rw [f] at g;injection g with e;subst e;omega
    ·have:=mono _ m w v (by omega) f g;omega
  ·right;have:i=j:=by omega
   subst this;rw [J2 (by omega)];exact ⟨_,rfl,i,rfl,M,o,A⟩) ⟨0,r.length,rfl,by omega,Aq _,λm w f=>by omega,λm w f G=>by have:=(Ad.1 G).1;omega⟩ (by dsimp only;omega)
 unfold Jei;refine (lo_s X).trans ?_;dsimp only;have none_of:(∀w∈r,w.1≠y)->Jhv r y=[]:=λQ=>by
  unfold Jhv;have:r.find? (λw=>w.1==y)=none:=List.find?_eq_none.2 λw G=>by simpa using Q w G
  rw [this]
 by_cases H:k<r.length
 ·have f:=Ac H;generalize r[k]=w at f;have B:=Ae f;rw [K1 (by omega),ge_s (fg f),Jvp,ge_s (fg f),w_br];by_cases F:w.1=y
  ·rw [if_neg (by rw [w_nt,Xe,J8c.2 F];simp)];unfold Jhv;cases J:r.find? λv=>v.1==y with
   | none=>have:=List.find?_eq_none.1 J w B;simp [F] at this
   | some v =>
    have g:v.1=y:=by have:=List.find?_some J;simpa using this
    rw [h.row_uniq B (Ao J) (by omega)]
  ·rw [if_pos (by rw [w_nt,Xe];simp;exact λq=>F (J8c.1 q)),none_of];intro v g e;obtain ⟨m,d⟩:=Au.1 g;by_cases q:m<k
   ·have:=o m v q d;omega
   ·have a1:=A m v (by omega) d;have a2:=A k w (Aq _) f;by_cases N:m=k
    ·subst N;rw [f] at d;injection d with L;subst L;exact F e
    ·have:=mono k m w v (by omega) f d;omega
 ·rw [J2 (by omega),none_of];intro v g e;obtain ⟨m,d⟩:=Au.1 g;have:=o m v (by have:=(Ad.1 d).1;omega) d;omega
theorem Zk{α:Type}{r:Reg}{y:Int}(hl:LimR r)(h:RegOK r)(k:List (Int×Int)->Option α):@W.call wv α Xk ((r,y):List (Int×List (Int×Int))×Int) k=k (Jhv r y):=ca_s (c:=Xk) (Jun r y hl h)
theorem Jnm{r:Reg}(h:RegOK r)(y:Int):RunsOK (-1048576) 1048576 (Jhv r y):=by
 unfold Jhv;cases a:r.find? λw=>w.1==y with
 | none=>exact ⟨by simp,.nil⟩
 | some w =>
  have hV:=h.rs w (Ao a);exact ⟨λx hx=>by have:=hV.bd x hx;omega,hV.pw⟩
theorem Joz{lo hi:Int}{l m:List Run}(hl:RunsOK lo hi l)(f:RunsOK lo hi m)(h:∀x,Jd l x↔Jd m x){u:Run}(d:u∈l):u∈m:=by
 have y:=hl.bd u d;obtain ⟨v,a,B,A⟩:=(h u.1).1 ⟨u,d,by omega,by omega⟩;have g:=f.bd v a;have r:v.1=u.1:=by
  by_cases q:v.1=u.1
  ·exact q
  ·exact (hl.left d ((h _).2 ⟨v,a,by omega,by omega⟩)).elim
 have o:v.2=u.2:=by
  by_cases q:v.2<u.2
  ·exact (f.right a ((h _).1 ⟨u,d,by omega,by omega⟩)).elim
  ·by_cases w:u.2<v.2
   ·exact (hl.right d ((h _).2 ⟨v,a,by omega,by omega⟩)).elim
   ·omega
 rw [show u=v from Prod.ext r.symm o.symm];exact a
theorem Jpw{lo hi:Int}{l:List Run}(h:RunsOK lo hi l):l.Pairwise λa b=>a.1<b.1:=by
 have f:=h.bd;have r:=h.pw;clear h
 induction l with
 | nil=>exact .nil
 | cons x l o =>
  obtain ⟨m,g⟩:=List.pairwise_cons.1 r;have hx:=f x (List.mem_cons_self ..);refine List.pairwise_cons.2 ⟨λy d=>?_,o (λy d=>f y (Bf _ d)) g⟩;have:=m y d;omega
theorem J7m{lo hi:Int}{l m:List Run}(hl:RunsOK lo hi l)(d:RunsOK lo hi m)(h:∀x,Jd l x↔Jd m x):l=m :=
 Jgd (R:=λa b:Run=>a.1<b.1) (λa b g f=>by omega) (Jpw hl) (Jpw d) λu=>⟨Joz hl d h,Joz d hl λx=>(h x).symm⟩
theorem Jrd{a b:Reg}(f:RegOK a)(o:RegOK b)(h:∀c,Jz a c↔Jz b c){w:Row}(d:w∈a):w∈b:=by
 obtain ⟨u,m⟩:=List.exists_mem_of_ne_nil _ (f.ne w d);have l:=(f.rs w d).bd u m;obtain ⟨v,g,e,-⟩:=(h (u.1,w.1)).1 ⟨w,d,rfl,u,m,Ba _,l.2.1⟩;have r:w.2=v.2:=J7m (f.rs w d) (o.rs v g) λx=>by rw [<-f.in_row d x,<-o.in_row g x,e];exact h _
 rw [show w=v from Prod.ext e.symm r];exact g
theorem Jih{a b:Reg}(f:RegOK a)(d:RegOK b)(h:∀c,Jz a c↔Jz b c):a=b :=
 Jgd (R:=λa b:Row=>a.1<b.1) (λa b l g=>by omega) f.pw d.pw λw=>⟨Jrd f d h,Jrd d f λc=>(h c).symm⟩
theorem Jwi(r:Reg)(hl:LimR r):@Zd wv (r,r)=some true:=by
 have hL:=hl.1;have a:=K8 (b:=@X4 wv) (e:=.inr ()) (λi=>⟨(i:Int),⟨r,⟨r,()⟩⟩⟩) r.length (by omega) (λi hi=>by
  have d:=Ac hi;generalize r[i]=w at d;have f:=Ae d;have hLw:=hl.2 w f;have h:=K8 (b:=@X0 wv) (e:=.inr ⟨(i:Int),⟨r,⟨r,()⟩⟩⟩) (λk=>⟨(i:Int),⟨(k:Int),⟨r,⟨r,⟨w.1,⟨w.2,⟨w.1,⟨w.2,()⟩⟩⟩⟩⟩⟩⟩⟩) w.2.length (by omega) (λk l=>by
   have g:=Ac l;generalize w.2[k]=u at g;unfold X0;dsimp only;rw [w_ln,K1 (by omega),ge_s (fg g),ge_s (fg g),br_f (by simp [w_nt,w_an,Xe]),Kd,wr (by omega) (by omega)];rfl) (by unfold X0;dsimp only;rw [w_ln,J2 (by omega)])
  unfold X4;dsimp only;rw [w_ln,K1 (by omega),ge_s (fg d),ge_s (fg d),br_f (by simp [Jgv]),br_f (by simp [Jgv])];refine (lo_s h).trans ?_;dsimp only;rw [Kd,wr (by omega) (by omega)];rfl) (by unfold X4;dsimp only;rw [w_ln,J2 (by omega)])
 unfold Zd;dsimp only;rw [br_f (by simp [Jgv])];exact lo_s a
def Ju8(was:Bool)(a:List Run)(i:Nat)(b:List Run)(j:Nat)(out:List Run):HP Bool (HP (List (Int×Int)) (HP Int (HP (List (Int×Int)) (HP Int (HP (List (Int×Int)) Unit))))) :=
 let m:=min (bnd a i) (bnd b j);let f:=if bnd a i=m then i+1 else i;let d:=if bnd b j=m then j+1 else j;let now:=decide (f % 2=1)&&decide (d % 2=1)
 ⟨now,⟨a,⟨(f:Int),⟨b,⟨(d:Int),⟨if now=true/\was=false then out++[(m,0)] else if now=false/\was=true then Qd out (λu=>(u.1,m)) else out,()⟩⟩⟩⟩⟩⟩
theorem int_step(was:Bool)(a b out:List Run)(i j:Nat)(y:a.length<=1000000000)(w:b.length<=1000000000)(hi:i<=2 * a.length)(K:j<=2 * b.length)(P:out.length<=1000000000)(G:was=true->out≠[])(l:¬(i=2 * a.length/\j=2 * b.length)) :
  @Q8 wv ⟨was,⟨a,⟨(i:Int),⟨b,⟨(j:Int),⟨out,()⟩⟩⟩⟩⟩⟩=some (.go (Ju8 was a i b j out)):=by
 have M:@Yc wv ⟨was,⟨a,⟨(i:Int),⟨b,⟨(j:Int),⟨out,()⟩⟩⟩⟩⟩⟩=some (.inl ⟨was,⟨a,⟨(i:Int),⟨b,⟨(j:Int),⟨out,()⟩⟩⟩⟩⟩⟩):=by
  unfold Yc;dsimp only;rw [Je7 y];by_cases A:i=2 * a.length
  ·rw [br_f (by simp [w_nt,A]),Je7 w,br_t (by simp [w_nt];exact λq=>l ⟨A,q⟩)]
  ·rw [br_t (by simp [w_nt,A])]
 generalize J:min (bnd a i) (bnd b j)=m;have F:@Jan wv ⟨was,⟨a,⟨(i:Int),⟨b,⟨(j:Int),⟨out,()⟩⟩⟩⟩⟩⟩ (bnd a i) (bnd b j)=some ⟨was,⟨m,⟨a,⟨((if bnd a i=m then i+1 else i:Nat):Int),⟨b,⟨(j:Int),⟨out,()⟩⟩⟩⟩⟩⟩⟩:=by
  unfold Jan;dsimp only;rw [Jgr y hi,J7p,J,Kd,wr (by omega) (by omega)];by_cases c:bnd a i=m
  ·rw [br_t (by rw [Xe];simp [c]),if_pos c];rfl
  ·rw [br_f (by rw [Xe];simp [c]),if_neg c]
 generalize r:(if bnd a i=m then i+1 else i)=d at F;have E:@Jak wv ⟨was,⟨m,⟨a,⟨(d:Int),⟨b,⟨(j:Int),⟨out,()⟩⟩⟩⟩⟩⟩⟩=some ⟨was,⟨m,⟨a,⟨(d:Int),⟨b,⟨((if bnd b j=m then j+1 else j:Nat):Int),⟨out,()⟩⟩⟩⟩⟩⟩⟩:=by
  unfold Jak;dsimp only;rw [Jgr w K,Kd,wr (by omega) (by omega)];by_cases c:bnd b j=m
  ·rw [br_t (by rw [Xe];simp [c]),if_pos c];rfl
  ·rw [br_f (by rw [Xe];simp [c]),if_neg c]
 generalize o:(if bnd b j=m then j+1 else j)=f at E;have B:@Jal wv ⟨was,⟨m,⟨a,⟨(d:Int),⟨b,⟨(f:Int),⟨out,()⟩⟩⟩⟩⟩⟩⟩=some ⟨was,⟨m,⟨decide (d % 2=1)&&decide (f % 2=1),⟨a,⟨(d:Int),⟨b,⟨(f:Int),⟨out,()⟩⟩⟩⟩⟩⟩⟩⟩:=by
  unfold Jal;dsimp only;rw [Jzf,Jzf];by_cases c:d % 2=1
  ·rw [br_t (by simp [c])];simp [c,w_nt]
  ·rw [br_f (by simp [c])];simp [c]
 generalize g:(decide (d % 2=1)&&decide (f % 2=1))=now at B;have h:∀ {α:Type} (x:Option α),@W.gd wv α (@W.ft wv 16 (@W.pl wv (@W.ln wv (Int×Int) out) 1)) x=x:=λx=>by rw [w_ln,w_pl];exact Jdm (by omega) (by omega)
 have L:@Jap wv ⟨was,⟨m,⟨now,⟨a,⟨(d:Int),⟨b,⟨(f:Int),⟨out,()⟩⟩⟩⟩⟩⟩⟩⟩=some ⟨now,⟨a,⟨(d:Int),⟨b,⟨(f:Int),⟨if now=true/\was=false then out++[(m,0)] else if now=false/\was=true then Qd out (λu=>(u.1,m)) else out,()⟩⟩⟩⟩⟩⟩:=by
  unfold Jap;dsimp only;rw [h];have nt1:@W.nt wv true=false:=rfl;have nt0:@W.nt wv false=true:=rfl;cases now with
  | true =>
   cases was with
   | true=>rw [nt1,br_t rfl,br_f rfl,br_f rfl,if_neg (by simp),if_neg (by simp)]
   | false=>rw [nt0,br_t rfl,br_t rfl,if_pos (by simp),w_ap]
  | false =>
   cases was with
   | false=>rw [nt0,br_f rfl,br_t rfl,br_f rfl,if_neg (by simp),if_neg (by simp)]
   | true =>
    have H:=Ay.2 (G rfl);obtain ⟨v,N,O⟩:=Jjm (G rfl) m;rw [nt0,br_f rfl,br_t rfl,br_t rfl,w_ln,Yz,wr (by omega) (by omega),Jha ⟨by omega,by omega⟩,ge_s (fgz (out.length - 1) (by omega) N),if_neg (by simp),if_pos (by simp),w_st,show ((out.length:Int) - 1).toNat=out.length - 1 by omega,O]
 unfold Q8;rw [jo_s M];dsimp only;rw [Jgr y hi,Jgr w K,jo_s F,jo_s E,jo_s B,jo_s L];unfold Ju8;dsimp only;rw [J,r,o,g]
def IntI(a b:List Run)(p:Int)(was:Bool)(i j:Nat)(out:List Run):Prop :=
 At a p i/\At b p j/\was=(decide (i % 2=1)&&decide (j % 2=1)) /\
 ((was=false/\Je4 out/\(∀u∈out,u.2<=p)/\∀x,x<p->(Jd out x↔Jd a x/\Jd b x)) \/
  ∃(o:List Run) (s z:Int),out=o++[(s,z)]/\was=true/\s<=p/\Je4 o/\(∀u∈o,u.2<s)/\(∀x,x<s->(Jd o x↔Jd a x/\Jd b x))/\∀x,s<=x->x<=p->Jd a x/\Jd b x)
theorem int_inv{a b:List Run}(R:RunsOK (-1048576) 1048576 a)(Q:RunsOK (-1048576) 1048576 b){p:Int}{was:Bool}{i j:Nat}{out:List Run}(hI:IntI a b p was i j out)(N:¬(i=2 * a.length/\j=2 * b.length)) :
  ∃m,p<m/\∃(was':Bool) (H G:Nat) (out':List Run),Ju8 was a i b j out=⟨was',⟨a,⟨(H:Int),⟨b,⟨(G:Int),⟨out',()⟩⟩⟩⟩⟩⟩/\IntI a b m was' H G out'/\i+j<H+G/\out'.length<=out.length+1:=by
 obtain ⟨hA,hB,Z,hO⟩:=hI;have B:min (bnd a i) (bnd b j)<1048577:=by
  have Y:i<2 * a.length->bnd a i<1048577:=λq=>by have d:=Ac (l:=a) (i:=i / 2) (by omega);have:=R.bd _ (Ae d);simp only [bnd,d];split<;>omega
  have F:j<2 * b.length->bnd b j<1048577:=λq=>by have d:=Ac (l:=b) (i:=j / 2) (by omega);have:=Q.bd _ (Ae d);simp only [bnd,d];split<;>omega
  have w:=hA.1;have E:=hB.1;have L:i<2 * a.length\/j<2 * b.length:=by omega
  rcases L with L|L
  ·have:=Y L;omega
  ·have:=F L;omega
 have hp1:p<bnd a i:=by
  rcases hA.2.2 i (Aq _) with h|h
  ·exact h
  ·have e:a[i / 2]?=none:=Be (by omega);have:p<1048577:=by
    have q:At b p j:=hB;by_cases F:j<2 * b.length
    ·rcases hB.2.2 j (Aq _) with h'|h'
     ·have:=Jgs Q j;omega
     ·omega
    ·exact (N ⟨by have:=hA.1;omega,by have:=hB.1;omega⟩).elim
   simp only [bnd,e];exact this
 have hp2:p<bnd b j:=by
  rcases hB.2.2 j (Aq _) with h|h
  ·exact h
  ·have e:b[j / 2]?=none:=Be (by omega);have:p<1048577:=by have:=Jgs R i;omega
   simp only [bnd,e];exact this
 generalize A:min (bnd a i) (bnd b j)=m at B;have y:p<m:=by omega
 obtain ⟨hA',hAx⟩:=Jl5 R hA (m:=m) (by omega) y B;obtain ⟨hB',hBx⟩:=Jl5 Q hB (m:=m) (by omega) y B;refine ⟨m,y,_,_,_,_,by unfold Ju8;rw [A],?_,?_,?_⟩
 ·refine ⟨hA',hB',rfl,?_⟩;have hAm:=Jol hA';have hBm:=Jol hB';generalize (if bnd a i=m then i+1 else i)=H at *
  generalize (if bnd b j=m then j+1 else j)=G at *
  have hD:∀x,p<=x->x<m->(Jd a x/\Jd b x↔was=true):=λx w E=>by rw [hAx x w E,hBx x w E,Z];simp
  have hDm:Jd a m/\Jd b m↔(decide (H % 2=1)&&decide (G % 2=1))=true:=by rw [hAm,hBm];simp
  generalize (decide (H % 2=1)&&decide (G % 2=1))=now at *
  rcases hO with ⟨M,K,g,J⟩|⟨o,s,z,rfl,M,hs,K,g,J,X⟩
  ·subst M;cases now with
   | false =>
    left;rw [if_neg (by simp),if_neg (by simp)];refine ⟨rfl,K,λu d=>by have:=g u d;omega,λx hx=>?_⟩;by_cases q:x<p
    ·exact J x q
    ·rw [hD x (by omega) hx];refine ⟨λ⟨u,d,w,E⟩=>by have:=g u d;omega,λh=>by simp at h⟩
   | true =>
    right;rw [if_pos (by simp)];refine ⟨out,m,0,rfl,rfl,Ba _,K,λu d=>by have:=g u d;omega,λx hx=>?_,λx w E=>?_⟩
    ·by_cases q:x<p
     ·exact J x q
     ·rw [hD x (by omega) hx];refine ⟨λ⟨u,d,w,E⟩=>by have:=g u d;omega,λh=>by simp at h⟩
    ·have:x=m:=by omega
     subst this;exact hDm.2 rfl
  ·subst M;cases now with
   | true =>
    right;rw [if_neg (by simp),if_neg (by simp)];refine ⟨o,s,z,rfl,rfl,by omega,K,g,J,λx w E=>?_⟩;by_cases q:x<=p
    ·exact X x w q
    ·by_cases F:x=m
     ·subst F;exact hDm.2 rfl
     ·exact (hD x (by omega) (by omega)).2 rfl
   | false =>
    left;rw [if_neg (by simp),if_pos (by simp),Xb];refine ⟨rfl,Jar.2 ⟨K,by dsimp only;omega,g⟩,λu d=>?_,λx hx=>?_⟩
    ·rcases Ab.1 d with h|h
     ·have:=g u h;omega
     ·rw [Aa.1 h];exact Ba _
    ·rw [Jaq];dsimp only;by_cases q:x<s
     ·rw [J x q];exact ⟨λh=>h.resolve_right λh=>by omega,.inl⟩
     ·have P:Jd a x/\Jd b x:=by
       by_cases F:x<=p
       ·exact X x (by omega) F
       ·exact (hD x (by omega) hx).2 rfl
      exact ⟨λ_=>P,λ_=>.inr ⟨by omega,hx⟩⟩
 ·by_cases q:bnd a i=m
  ·rw [if_pos q];split<;>omega
  ·have:bnd b j=m:=by omega
   rw [if_pos this];split<;>omega
 ·have O:∀(l:List Run) (f:Run->Run),(Qd l f).length=l.length:=λl f=>by
   rcases l.eq_nil_or_concat with rfl|⟨r,v,rfl⟩
   ·rfl
   ·rw [List.concat_eq_append,Xb];simp
  have key:∀nw ws:Bool,(if nw=true/\ws=false then out++[(m,0)] else if nw=false/\ws=true then Qd out (λu=>(u.1,m)) else out).length<=out.length+1:=λnw ws=>by cases nw<;>cases ws<;>simp [O]
  exact key _ _
theorem int_loop(a b:List Run)(P:a.length<=100000000)(O:b.length<=100000000)(r:RunsOK (-1048576) 1048576 a)(w:RunsOK (-1048576) 1048576 b) :
  ∃e,X2 (@Q8 wv) bigN ⟨false,⟨a,⟨0,⟨b,⟨0,⟨[],()⟩⟩⟩⟩⟩⟩=some e/\Je4 e.e/\∀x,Jd e.e x↔Jd a x/\Jd b x:=by
 refine Jhm (b:=@Q8 wv) (λs=>∃(p:Int) (was:Bool) (i j:Nat) (out:List Run),s=⟨was,⟨a,⟨(i:Int),⟨b,⟨(j:Int),⟨out,()⟩⟩⟩⟩⟩⟩/\IntI a b p was i j out/\out.length<=i+j)
  (λe=>Je4 e.e/\∀x,Jd e.e x↔Jd a x/\Jd b x) (λs=>(2 * (a.length:Int)+2 * (b.length:Int) - s.j.j.e - s.j.j.j.j.e).toNat) ?_ ⟨-1048577,false,0,0,[],rfl,⟨⟨by omega,by omega,λk h=>?_⟩,⟨by omega,by omega,λk h=>?_⟩,rfl,.inl ⟨rfl,⟨by simp,.nil⟩,by simp,λx hx=>?_⟩⟩,by simp⟩ (by dsimp only;omega)
 ·rintro s ⟨p,was,i,j,out,rfl,hI,Y⟩;have B:=hI.1.1;have A:=hI.2.1.1;by_cases d:i=2 * a.length/\j=2 * b.length
  ·right;obtain ⟨rfl,rfl⟩:=d;have H:@Yc wv ⟨was,⟨a,⟨((2 * a.length:Nat):Int),⟨b,⟨((2 * b.length:Nat):Int),⟨out,()⟩⟩⟩⟩⟩⟩=some (.inr ⟨out,()⟩):=by unfold Yc;dsimp only;rw [Je7 (by omega),br_f (by simp [w_nt]),Je7 (by omega),br_f (by simp [w_nt])]
   unfold Q8;rw [jo_s H];refine ⟨_,rfl,?_⟩;obtain ⟨hA,hB,L,hO⟩:=hI;have l:was=false:=by rw [L];simp
   rcases hO with ⟨f,G,F,E⟩|⟨o,s,z,rfl,f,-⟩
   ·refine ⟨G,λx=>?_⟩;by_cases q:x<p
    ·exact E x q
    ·refine ⟨λ⟨u,g,y,Q⟩=>by have:=F u g;omega,λ⟨y,Q⟩=>?_⟩;have:At a x (2 * a.length):=⟨Aq _,λk h=>by have:=hA.2.1 k h;omega,λk h=>.inr h⟩;have:=(Jol this).1 y;omega
   ·rw [l] at f;cases f
  ·left;obtain ⟨m,M,was',K,J,out',e,hI',N,v⟩:=int_inv r w hI d;refine ⟨_,int_step was a b out i j (by omega) (by omega) B A (by omega) (λq=>?_) d,?_,?_⟩
   ·rcases hI.2.2.2 with ⟨f,-⟩|⟨o,s,z,rfl,-⟩
    ·rw [f] at q;cases q
    ·simp
   ·rw [e];exact ⟨m,was',K,J,out',rfl,hI',by omega⟩
   ·rw [e];have X:=hI'.1.1;have R:=hI'.2.1.1;dsimp only;omega
 ·by_cases q:2 * a.length<=k
  ·exact .inr q
  ·left;have:=Jgs r k;omega
 ·by_cases q:2 * b.length<=k
  ·exact .inr q
  ·left;have:=Jgs w k;omega
 ·constructor
  ·rintro ⟨u,g,-⟩;cases g
  ·rintro ⟨⟨u,g,B,A⟩,-⟩;have:=r.bd u g;omega
open Classical in
theorem Jvr(a b:List Run)(f:a.length<=100000000)(d:b.length<=100000000)(h:RunsOK (-1048576) 1048576 a)(g:RunsOK (-1048576) 1048576 b) :
  ∃l,@Zq wv (a,b)=some l/\Je4 l/\∀x,Jd l x↔Jd a x/\Jd b x:=by obtain ⟨e,m,r,o⟩:=int_loop a b f d h g;refine ⟨e.e,?_,r,o⟩;unfold Zq;dsimp only;rw [Y0 (by omega),br_f (by simp [w_nt,h]),Y0 (by omega),br_f (by simp [w_nt,g])];exact lo_s m
def shrU(k:Int)(u:Run):Option Run:=if u.1+k<u.2 - k then some (u.1+k,u.2 - k) else none
def shrk(k:Int)(l:List Run):List Run:=l.filterMap (shrU k)
theorem J4f(l:List Run)(k:Int)(hl:l.length<=1000000000)(h:RunsOK (-1048576) 1048576 l)(m:0<=k/\k<=1048576):@Jda wv (l,k)=some (shrk k l):=by
 have a:=K8 (b:=@Jaf wv) (e:=(⟨shrk k l,()⟩:HP (List Run) Unit)) (λi=>(⟨k,⟨l,⟨(l.length:Int),⟨(i:Int),⟨shrk k (l.take i),()⟩⟩⟩⟩⟩:HP Int (HP (List Run) (HP Int (HP Int (HP (List Run) Unit)))))) l.length (by omega) (λi hi=>by
  have hx:=Ac hi;generalize l[i]=u at hx;have g:=h.bd u (Ae hx);have d:(shrk k (l.take i)).length<=l.length:=by refine Nat.le_trans (List.length_filterMap_le _ _) ?_;rw [Am];omega
  have e:shrk k (l.take (i+1))=shrk k (l.take i)++(shrU k u).toList:=by unfold shrk;rw [Kq hx,List.filterMap_append];cases f:shrU k u<;>simp [f]
  unfold Jaf;dsimp only;rw [K1 (by omega),ge_s (fg hx),Kd,Kd,Yz,wr (n:=(i:Int)+1) (by omega) (by omega),wr (n:=u.1+k) (by omega) (by omega),wr (n:=u.2 - k) (by omega) (by omega),e];unfold shrU;by_cases q:u.1+k<u.2 - k
  ·rw [K1 q,if_pos q,w_ln,w_pl,Jdm (by omega) (by omega),w_ap];rfl
  ·rw [J2 q,if_neg q];show _=some (Nx.go (⟨k,⟨l,⟨(l.length:Int),⟨((i+1:Nat):Int),⟨shrk k (l.take i)++[],()⟩⟩⟩⟩⟩:HP Int (HP (List Run) (HP Int (HP Int (HP (List Run) Unit))))));rw [List.append_nil];rfl) (by unfold Jaf;dsimp only;rw [J2 (by omega),Af])
 unfold Jda;dsimp only;rw [Y0 hl,br_f (by simp [w_nt,h]),J2 (by omega),br_f (by rw [Zv];exact decide_eq_false (by omega)),w_ln];exact (lo_s a).trans rfl
theorem Jny{lo hi:Int}{l:List Run}(h:RunsOK lo hi l){k:Int}(r:0<=k):RunsOK lo hi (shrk k l):=by
 refine ⟨λu m=>?_,?_⟩
 ·obtain ⟨v,g,e⟩:=Az.1 m;unfold shrU at e;split at e
  ·injection e with e;subst e;have:=h.bd v g;dsimp only;omega
  ·cases e
 ·refine List.Pairwise.filterMap (S:=λa b:Run=>a.2<b.1) (shrU k) (λa b o c f d hd=>?_) h.pw;unfold shrU at f hd;split at f
  ·split at hd
   ·injection f with f;injection hd with hd;subst f;subst hd;dsimp only;omega
   ·cases hd
  ·cases f
theorem Jzh{lo hi:Int}{l:List Run}(h:RunsOK lo hi l){k:Int}(A:0<=k)(x:Int):Jd (shrk k l) x↔∀y,x - k<=y->y<=x+k->Jd l y:=by
 constructor
 ·rintro ⟨u,d,g,f⟩ y o m;obtain ⟨v,r,e⟩:=Az.1 d;unfold shrU at e;split at e
  ·injection e with e;subst e;dsimp only at g f;exact ⟨v,r,by omega,by omega⟩
  ·cases e
 ·intro a;obtain ⟨u,d,g,f⟩:=a (x - k) (Ba _) (by omega);have B:x+k<u.2:=by apply Ap;intro w;have:=(Jyd h u.2).1 ⟨u,d,rfl⟩;exact this.2 (a u.2 (by omega) (by omega))
  exact ⟨(u.1+k,u.2 - k),Az.2 ⟨u,d,if_pos (by omega)⟩,by dsimp only;omega,by dsimp only;omega⟩
theorem isect(a b:List Run)(g:a.length<=100000000)(f:b.length<=100000000)(m:RunsOK (-4096) 4096 a)(r:RunsOK (-4096) 4096 b) :
  ∃l,@Zq wv (a,b)=some l/\RunsOK (-4096) 4096 l/\∀x,Jd l x↔Jd a x/\Jd b x:=by have wid:∀ {l:List Run},RunsOK (-4096) 4096 l->RunsOK (-1048576) 1048576 l:=λ{l} h=>⟨λu d=>by have:=h.bd u d;omega,h.pw⟩;obtain ⟨l,w,v,o⟩:=Jvr a b g f (wid m) (wid r);refine ⟨l,w,Jj1 v λx hx=>?_,o⟩;obtain ⟨u,d,A,y⟩:=((o x).1 hx).1;have:=m.bd u d;omega
theorem Jid{n:Nat}{l:List Nat}(h:l.Nodup)(a:∀x∈l,x<n):l.length<=n:=by have:=Zw (m:=List.range n) h λx hx=>List.mem_range.2 (a x hx);rwa [List.length_range] at this
theorem Qy{l:List Run}(h:RunsOK (-4096) 4096 l):l.length<=8192:=by
 have o:(l.map λu:Run=>(u.1+4096).toNat).Nodup:=Bc.2 ((List.Pairwise.and_mem.1 h.pw).imp λ{a b} ⟨m,f,g⟩ e=>by have:=h.bd a m;have:=h.bd b f;omega)
 have:=Jid (n:=8192) o λx hx=>by obtain ⟨u,d,rfl⟩:=Ak.1 hx;have:=h.bd u d;omega
 rwa [Ai] at this
abbrev Mr:=List (Int×List Run)
def atM:Mr->Int->List Run
 | [],_=>[]
 | e::r,y=>if y=e.1 then e.2 else atM r y
theorem mg_atM(m:Mr)(y:Int):@W.mg wv I (.ls (.p I I)) m y []=atM m y:=by
 show (zf (a:=I) (b:=.ls (.p I I)) y m).getD []=_
 induction m with
 | nil=>rfl
 | cons e r d =>
  show _=if y=e.1 then e.2 else atM r y;by_cases h:y=e.1
  ·have hd:Ty.eqb I y e.1=true:=beq_iff_eq.2 h;rw [if_pos h];exact congrArg (λo:Option (List Run)=>o.getD []) (show zf (a:=I) (b:=.ls (.p I I)) y (e::r)=some e.2 from if_pos hd)
  ·have hd:¬Ty.eqb I y e.1=true:=λf=>h (beq_iff_eq.1 f);rw [if_neg h,<-d];exact congrArg (λo:Option (List Run)=>o.getD []) (show zf (a:=I) (b:=.ls (.p I I)) y (e::r)=zf (a:=I) (b:=.ls (.p I I)) y r from if_neg hd)
theorem ms_new(m:Mr)(y:Int)(v:List Run)(h:∀e∈m,e.1≠y):@W.ms wv I (.ls (.p I I)) m y v=m++[(y,v)]:=by
 show mSet (a:=I) (b:=.ls (.p I I)) y v m=_
 induction m with
 | nil=>rfl
 | cons e r d =>
  show (if Ty.eqb I y e.1=true then (y,v)::r else e::mSet (a:=I) (b:=.ls (.p I I)) y v r)=_;have hd:¬Ty.eqb I y e.1=true:=λg=>h e (List.mem_cons_self ..) (beq_iff_eq.1 g).symm;rw [if_neg hd,d λe f=>h e (Bf _ f)];rfl
theorem J1r(r:Reg)(f:List Run->List Run)(d:f []=[])(y:Int):atM (r.map λw=>(w.1,f w.2)) y=f (rowY r y):=by
 induction r with
 | nil=>exact d.symm
 | cons w r a =>
  unfold rowY at a ⊢;show (if y=w.1 then f w.2 else atM (r.map λw=>(w.1,f w.2)) y)=_;by_cases h:y=w.1
  ·rw [if_pos h,List.find?_cons_of_pos (by simp [h])];rfl
  ·rw [if_neg h,a,List.find?_cons_of_neg (by simp;exact λe=>h e.symm)]
def deep(r:Reg)(k:Int)(c:Cell):Prop:=∀dx dy:Int,-k<=dx->dx<=k->-k<=dy->dy<=k->Jz r (c.1+dx,c.2+dy)
abbrev SeA:=HP Int (HP Reg (HP Int (HP Int (HP Reg (HP Mr Unit)))))
abbrev SeB:=HP Int (HP Reg (HP Int (HP Int (HP Mr (HP Reg Unit)))))
abbrev SeC:=HP Int (HP Int (HP (List Run) (HP Int (HP Int (HP Reg (HP Int (HP Int (HP Int (HP (List Run) (HP Mr (HP Reg Unit)))))))))))
abbrev OeC:=HP (List Run) (HP Int (HP Reg (HP Int (HP Int (HP Int (HP (List Run) (HP Reg (HP Mr Unit))))))))
def Jja(k:Int)(r:Reg):Mr:=r.map λw=>(w.1,shrk k w.2)
theorem Erode_L0(a:Reg×Int)(r:Reg)(hr:RegOK r)(hl:LimR r)(k:Int)(E:0<=k/\k<=64) :
  X2 (@Zs wv a) bigN (⟨k,⟨r,⟨(r.length:Int),⟨0,⟨r,⟨[],()⟩⟩⟩⟩⟩⟩:SeA)=some (⟨k,⟨r,⟨Jja k r,()⟩⟩⟩:HP Int (HP Reg (HP Mr Unit))):=by
 have hL:=hl.1;refine K8 (b:=@Zs wv a) (λi=>(⟨k,⟨r,⟨(r.length:Int),⟨(i:Int),⟨r,⟨Jja k (r.take i),()⟩⟩⟩⟩⟩⟩:SeA)) r.length (by omega) (λi hi=>?_) ?_
 ·have f:=Ac hi;generalize r[i]=w at f;have d:=Ae f;have g:=hr.rs w d;unfold Zs;dsimp only;rw [K1 (by omega),ge_s (fg f)];refine (ca_s (c:=Jbe) (J4f w.2 k (hl.2 w d) ⟨λu y=>by have:=g.bd u y;omega,g.pw⟩ (by omega))).trans ?_;have h:@W.ms wv I (.ls (.p I I)) (Jja k (r.take i)) w.1 (shrk k w.2)=(Jja k (r.take i))++[(w.1,shrk k w.2)]:=ms_new _ _ _ λe A=>by obtain ⟨v,o,rfl⟩:=Ak.1 A;obtain ⟨j,m⟩:=Av o;have l:=(Ad.1 m).1;rw [Am] at l;rw [Ar (by omega)] at m;have:=Jku hr m f (by omega);dsimp only;omega
  have B:@W.ar wv .add .i64 (i:Int) 1=((i+1:Nat):Int):=by rw [Kd,wr (by omega) (by omega)];omega
  rw [B];exact congrArg (λz:Mr=>some (Nx.go (⟨k,⟨r,⟨(r.length:Int),⟨((i+1:Nat):Int),⟨r,⟨z,()⟩⟩⟩⟩⟩⟩:SeA))) (h.trans (Jgp f).symm)
 ·unfold Zs;dsimp only;rw [J2 (by omega),Af]
theorem Erode_L2(a:Reg×Int)(r:Reg)(hr:RegOK r)(k:Int)(B:0<=k/\k<=64)(len idx:Int)(w:Row)(N:-4096<=w.1/\w.1<4096)(out:Reg) :
  ∃o,X2 (@Zt wv a) bigN (⟨w.1,⟨k,⟨shrk k (rowY r (w.1 - k)),⟨w.1 - k+1,⟨k,⟨r,⟨len,⟨idx,⟨w.1,⟨w.2,⟨Jja k r,⟨out,()⟩⟩⟩⟩⟩⟩⟩⟩⟩⟩⟩⟩:SeC) =
    some (⟨o,⟨k,⟨r,⟨len,⟨idx,⟨w.1,⟨w.2,⟨out,⟨Jja k r,()⟩⟩⟩⟩⟩⟩⟩⟩⟩:OeC) /\
   RunsOK (-4096) 4096 o/\∀x,Jd o x↔deep r k (x,w.1):=by
 obtain ⟨e,K,o,rfl,m,v⟩:=Ym (b:=@Zt wv a)
  (λj s=>∃o,s=(⟨w.1,⟨k,⟨o,⟨w.1 - k+1+(j:Int),⟨k,⟨r,⟨len,⟨idx,⟨w.1,⟨w.2,⟨Jja k r,⟨out,()⟩⟩⟩⟩⟩⟩⟩⟩⟩⟩⟩⟩:SeC)/\RunsOK (-4096) 4096 o/\∀x,Jd o x↔∀y,w.1 - k<=y->y<=w.1 - k+(j:Int)->Jd (shrk k (rowY r y)) x)
  (λe=>∃o,e=(⟨o,⟨k,⟨r,⟨len,⟨idx,⟨w.1,⟨w.2,⟨out,⟨Jja k r,()⟩⟩⟩⟩⟩⟩⟩⟩⟩:OeC)/\RunsOK (-4096) 4096 o/\∀x,Jd o x↔deep r k (x,w.1))
  (2 * k).toNat (by omega) (s0:=⟨w.1,⟨k,⟨shrk k (rowY r (w.1 - k)),⟨w.1 - k+1,⟨k,⟨r,⟨len,⟨idx,⟨w.1,⟨w.2,⟨Jja k r,⟨out,()⟩⟩⟩⟩⟩⟩⟩⟩⟩⟩⟩⟩)
  ⟨_,by simp,Jny (Jlq hr _) B.1,λx=>⟨λh y m v=>by rw [show y=w.1 - k by omega];exact h,λh=>h _ (Ba _) (by omega)⟩⟩
  (λj s O=>by
   rintro ⟨o,rfl,m,v⟩;have f:=Jny (Jlq hr (w.1 - k+1+(j:Int))) B.1;obtain ⟨l,G,F,E⟩:=isect o (shrk k (rowY r (w.1 - k+1+(j:Int)))) (by have:=Qy m;omega) (by have:=Qy f;omega) m f;have em:@W.mg wv I (.ls (.p I I)) (Jja k r) (w.1 - k+1+(j:Int)) []=shrk k (rowY r (w.1 - k+1+(j:Int))):=(mg_atM _ _).trans (J1r r (shrk k) rfl _);refine ⟨_,?_,l,rfl,F,λx=>?_⟩
   ·unfold Zt;dsimp only;rw [em,br_t (by rw [Jcj,Kd,wr (by omega) (by omega)];exact decide_eq_true (by omega))];refine (ca_s (c:=Zr) G).trans ?_;rw [Kd,wr (by omega) (by omega),show w.1 - k+1+(j:Int)+1=w.1 - k+1+((j+1:Nat):Int) by omega]
   ·rw [E,v];constructor
    ·rintro ⟨M,L⟩ y d A;by_cases e:y=w.1 - k+1+(j:Int)
     ·rw [e];exact L
     ·exact M y d (by omega)
    ·intro g;exact ⟨λy d A=>g y d (by omega),g _ (by omega) (by omega)⟩)
  (by
   rintro s ⟨o,rfl,m,v⟩;refine ⟨_,?_,o,rfl,m,λx=>?_⟩
   ·unfold Zt;dsimp only;rw [br_f (by rw [Jcj,Kd,wr (by omega) (by omega)];exact decide_eq_false (by omega))]
   ·rw [v];unfold deep;constructor
    ·intro g dx dy Q P a3 a4;have:=(Jzh (Jlq hr (w.1+dy)) B.1 x).1 (g (w.1+dy) (by omega) (by omega)) (x+dx) (by omega) (by omega);exact (Jdb hr).2 this
    ·intro g y d A;refine (Jzh (Jlq hr y) B.1 x).2 λz J H=>(Jdb hr).1 ?_;have:=g (z - x) (y - w.1) (by omega) (by omega) (by omega) (by omega);dsimp only at this;rwa [show x+(z - x)=z by omega,show w.1+(y - w.1)=y by omega] at this)
 exact ⟨o,K,m,v⟩
theorem Jnn{E:Reg}{w:Row}(h:RegOK E)(l:-4096<=w.1/\w.1<4096)(m:w.2≠[])(hr:RunsOK (-4096) 4096 w.2)(f:∀v∈E,v.1<w.1):RegOK (E++[w]):=by
 refine ⟨λv d=>?_,Aj.2 ⟨h.pw,As _ _,λa o b g=>?_⟩,λv d=>?_,λv d=>?_⟩
 ·rcases Ab.1 d with q|q
  ·exact h.y v q
  ·rw [Aa] at q;subst q;exact l
 ·rw [Aa] at g;subst g;exact f a o
 ·rcases Ab.1 d with q|q
  ·exact h.ne v q
  ·rw [Aa] at q;subst q;exact m
 ·rcases Ab.1 d with q|q
  ·exact h.rs v q
  ·rw [Aa] at q;subst q;exact hr
theorem Js7{E:Reg}{w:Row}{c:Cell}:Jz (E++[w]) c↔Jz E c\/(w.1=c.2/\Jd w.2 c.1):=by
 unfold Jz;constructor
 ·rintro ⟨v,a,h⟩;rcases Ab.1 a with q|q
  ·exact .inl ⟨v,q,h⟩
  ·rw [Aa] at q;subst q;exact .inr h
 ·rintro (⟨v,a,h⟩|h)
  ·exact ⟨v,Ab.2 (.inl a),h⟩
  ·exact ⟨w,Ab.2 (.inr (Aa.2 rfl)),h⟩
theorem Jbk{r:Reg}(h:RegOK r):r.length<=8192:=by
 have m:(r.map λw:Row=>(w.1+4096).toNat).Nodup:=Bc.2 ((List.Pairwise.and_mem.1 h.pw).imp λ{a b} ⟨l,f,g⟩ e=>by have:=h.y a l;have:=h.y b f;omega)
 have:=Jid (n:=8192) m λx hx=>by obtain ⟨u,d,rfl⟩:=Ak.1 hx;have:=h.y u d;omega
 rwa [Ai] at this
theorem Erode_ok(r:Reg)(hr:RegOK r)(hl:LimR r)(k:Int)(N:0<=k/\k<=64):∃E,@zn wv (r,k)=some E/\RegOK E/\∀c,Jz E c↔deep r k c:=by
 have hL:=hl.1;obtain ⟨e,Y,E,rfl,l,m,-⟩:=Ym (b:=@Zx wv (r,k))
  (λi s=>∃E,s=(⟨k,⟨r,⟨(r.length:Int),⟨(i:Int),⟨Jja k r,⟨E,()⟩⟩⟩⟩⟩⟩:SeB)/\RegOK E/\(∀c,Jz E c↔(∃w∈r.take i,w.1=c.2)/\deep r k c)/\∀v∈E,∃w∈r.take i,v.1=w.1)
  (λe=>∃E,e=(⟨E,()⟩:HP Reg Unit)/\RegOK E/\(∀c,Jz E c↔deep r k c)/\True)
  r.length (by omega) (s0:=⟨k,⟨r,⟨(r.length:Int),⟨0,⟨Jja k r,⟨[],()⟩⟩⟩⟩⟩⟩)
  ⟨[],rfl,⟨by simp,.nil,by simp,by simp⟩,λc=>⟨λ⟨w,d,_⟩=>(Ag d).elim,λ⟨⟨w,d,_⟩,_⟩=>by rw [List.take_zero] at d;exact (Ag d).elim⟩,λv f=>(Ag f).elim⟩
  (λi s hi=>by
   rintro ⟨E,rfl,l,m,A⟩;have d:=Ac hi;generalize r[i]=w at d;have F:=Ae d;have M:=hr.y w F;obtain ⟨o,L,K,B⟩:=Erode_L2 (r,k) r hr k N (r.length:Int) (i:Int) w M E;have X:=Qy K;have hEl:=Jbk l;have em:@W.mg wv I (.ls (.p I I)) (Jja k r) (w.1 - k) []=shrk k (rowY r (w.1 - k)):=(mg_atM _ _).trans (J1r r (shrk k) rfl _);have Q:@W.ar wv .sub .i64 w.1 k=w.1 - k:=by rw [Yz,wr (by omega) (by omega)]
   have P:@W.ar wv .add .i64 (w.1 - k) 1=w.1 - k+1:=by rw [Kd,wr (by omega) (by omega)]
   have O:@W.ar wv .add .i64 (i:Int) 1=((i+1:Nat):Int):=by rw [Kd,wr (by omega) (by omega)];omega
   have G:∀v∈E,v.1<w.1:=λv f=>by obtain ⟨z,a,e⟩:=A v f;obtain ⟨j,J⟩:=Av a;have H:=(Ad.1 J).1;rw [Am] at H;rw [Ar (by omega)] at J;have:=Jku hr J d (by omega);omega
   have y:=Kq d;by_cases h:o=[]
   ·refine ⟨(⟨k,⟨r,⟨(r.length:Int),⟨((i+1:Nat):Int),⟨Jja k r,⟨E,()⟩⟩⟩⟩⟩⟩:SeB),?_,E,rfl,l,λc=>?_,λv f=>?_⟩
    ·unfold Zx;dsimp only;rw [K1 (by omega),ge_s (fg d),Q,em,P];refine (lo_s L).trans ?_;dsimp only;rw [br_f (by rw [Zv,w_ln,h];rfl),O]
    ·rw [m,y];constructor
     ·rintro ⟨⟨z,a,e⟩,g⟩;exact ⟨⟨z,Ab.2 (.inl a),e⟩,g⟩
     ·rintro ⟨⟨z,a,e⟩,g⟩;rcases Ab.1 a with q|q
      ·exact ⟨⟨z,q,e⟩,g⟩
      ·rw [Aa] at q;subst q;have:=(B c.1).2 (by rw [e];exact g);rw [h] at this;obtain ⟨u,R,_⟩:=this;exact (Ag R).elim
    ·obtain ⟨z,a,e⟩:=A v f;exact ⟨z,by rw [y];exact Ab.2 (.inl a),e⟩
   ·have Z:=Ay.2 h;refine ⟨(⟨k,⟨r,⟨(r.length:Int),⟨((i+1:Nat):Int),⟨Jja k r,⟨E++[(w.1,o)],()⟩⟩⟩⟩⟩⟩:SeB),?_,_,rfl,Jnn (w:=(w.1,o)) l M h K G,λc=>?_,λv f=>?_⟩
    ·unfold Zx;dsimp only;rw [K1 (by omega),ge_s (fg d),Q,em,P];refine (lo_s L).trans ?_;dsimp only;rw [br_t (by rw [Zv,w_ln];exact decide_eq_true (by omega)),w_ln,w_pl,Jdm (by omega) (by omega),w_ln,w_pl,Jy0 (by omega) (by omega),w_ap,O]
    ·rw [Js7,m,y];constructor
     ·rintro (⟨⟨z,a,e⟩,g⟩|⟨e,g⟩)
      ·exact ⟨⟨z,Ab.2 (.inl a),e⟩,g⟩
      ·have e:w.1=c.2:=e;refine ⟨⟨w,Ab.2 (.inr (Aa.2 rfl)),e⟩,?_⟩;have:=(B c.1).1 g;rwa [e] at this
     ·rintro ⟨⟨z,a,e⟩,g⟩;rcases Ab.1 a with q|q
      ·exact .inl ⟨⟨z,q,e⟩,g⟩
      ·rw [Aa] at q;subst q;exact .inr ⟨e,(B c.1).2 (by rw [e];exact g)⟩
    ·rcases Ab.1 f with q|q
     ·obtain ⟨z,a,e⟩:=A v q;exact ⟨z,by rw [y];exact Ab.2 (.inl a),e⟩
     ·rw [Aa] at q;subst q;exact ⟨w,by rw [y];exact Ab.2 (.inr (Aa.2 rfl)),rfl⟩)
  (by
   rintro s ⟨E,rfl,l,m,A⟩;refine ⟨_,?_,E,rfl,l,λc=>?_,trivial⟩
   ·unfold Zx;dsimp only;rw [J2 (by omega)]
   ·rw [m,Af];refine ⟨And.right,λg=>⟨?_,g⟩⟩;have:=g 0 0 (by omega) (by omega) (by omega) (by omega);obtain ⟨w,d,e,_⟩:=this;exact ⟨w,d,by rw [e];dsimp only;omega⟩)
 refine ⟨E,?_,l,m⟩;have f:@Jc8 wv (r,k)=some true:=by
  classical
  unfold Jc8;dsimp only;rw [br_t (by rw [Jg7];exact decide_eq_true (by omega)),br_t (by rw [Jcj];exact decide_eq_true (by omega)),Qu hl,decide_eq_true hr]
 unfold zn;refine (ca_s (c:=Jbf) f).trans ?_;rw [br_f (by rfl),w_ln];refine (lo_s (Erode_L0 (r,k) r hr hl k N)).trans ?_;dsimp only;rw [w_ln];exact (lo_s Y).trans rfl
theorem Jq1:∀l:List Int,l.Pairwise (·<=·)->(cptF l).Pairwise (·<·)/\∀x,x∈cptF l↔x∈l:=by
 intro l;have key:∀m:List Int,(m.reverse).Pairwise (·<=·)->(cptF m.reverse).Pairwise (·<·)/\∀x,x∈cptF m.reverse↔x∈m.reverse:=by
  intro m
  induction m with
  | nil=>intro _;exact ⟨.nil,λx=>Iff.rfl⟩
  | cons a m B =>
   intro h;rw [List.reverse_cons] at h ⊢;obtain ⟨E,J,w⟩:=Aj.1 h;obtain ⟨g,d⟩:=B E;have hl:=(Jge m.reverse m.reverse.length (Aq _)).2;rw [Af] at hl;rw [Jv2];unfold cptS;split
   ·rename_i f;refine ⟨g,λx=>?_⟩;rw [d,Ab,Aa];refine ⟨.inl,λhx=>hx.elim id λe=>?_⟩;subst e;exact (d x).1 (List.mem_of_getLast? f)
   ·rename_i f;refine ⟨Aj.2 ⟨g,As _ _,λx hx y v=>?_⟩,λx=>by rw [Ab,Ab,d]⟩;rw [Aa] at v;subst v;have r:x<=y:=w x ((d x).1 hx) y (Aa.2 rfl);rcases Int.lt_or_eq_of_le r with q|q
    ·exact q
    ·exfalso;subst q;have o:cptF m.reverse≠[]:=λe=>by rw [e] at hx;cases hx
     obtain ⟨M,z,e⟩:∃M z,cptF m.reverse=M++[z]:=⟨_,_,(List.dropLast_concat_getLast o).symm⟩;rw [e,List.getLast?_concat] at f;have H:z<=x:=w z ((d z).1 (by rw [e];exact Ab.2 (.inr (Aa.2 rfl)))) x (Aa.2 rfl);rw [e] at g hx;obtain ⟨G,F,A⟩:=Aj.1 g;rcases Ab.1 hx with q|q
     ·have:=A x q z (Aa.2 rfl);omega
     ·rw [Aa] at q;exact f (by rw [q])
 have:=key l.reverse;rwa [List.reverse_reverse] at this
theorem J0p(l:List Int)(hl:l.length<=1000000000):∃r,Jsn l=some r/\r.Pairwise (·<=·)/\∀x,x∈r↔x∈l:=by refine ⟨Jcx (λx y:Int=>decide (x<=y)) l,by unfold Jsn;rw [if_pos (by omega)],?_,λx=>(jc l).mem_iff⟩;exact (Jj9 (le:=λx y:Int=>decide (x<=y)) (λx y z d a=>by simp only [decide_eq_true_eq] at *;omega) (λx y=>by simp only [decide_eq_true_eq];omega) l).imp λh=>of_decide_eq_true h
theorem Jov(l:List Run)(hl:l.length<=1000000000):@Qi wv l=some l:=by
 have e:∀ {α:Type} (x:Option α),@W.gd wv α (@W.ft wv 16 (@W.pl wv 0 (@W.ln wv Run l))) x=x:=λx=>by rw [w_ln,w_pl];exact Jdm (by omega) (by omega)
 unfold Qi;rw [e,w_nq];unfold nlv;rw [w_ln];split
 ·rename_i a;have:l=[]:=Ax (by omega);subst this;simp [w_br]
 ·rfl
abbrev Sr1S:=HP Reg (HP Reg (HP Int (HP Reg (HP Int (HP Int (HP Reg (HP Reg (HP (List Int) Unit))))))))
abbrev Or1S:=HP Reg (HP Reg (HP Int (HP Reg (HP Reg (HP (List Int) Unit)))))
theorem Jvs{b:Sr1S->Option (Nx Sr1S Or1S)}(g:b=@Q3 wv)(A B:Reg)(idx:Int)(cur d a:Reg)(ys:List Int)(l:cur.length<=100000000)(h:ys.length<=100000000) :
  X2 b bigN (⟨A,⟨B,⟨idx,⟨cur,⟨(cur.length:Int),⟨0,⟨d,⟨a,⟨ys,()⟩⟩⟩⟩⟩⟩⟩⟩⟩:Sr1S)=some (⟨A,⟨B,⟨idx,⟨d,⟨a,⟨ys++cur.map (·.1),()⟩⟩⟩⟩⟩⟩:Or1S):=by
 subst g;have key:=K8 (b:=@Q3 wv) (e:=(⟨A,⟨B,⟨idx,⟨d,⟨a,⟨ys++cur.map (·.1),()⟩⟩⟩⟩⟩⟩:Or1S)) (λi=>(⟨A,⟨B,⟨idx,⟨cur,⟨(cur.length:Int),⟨(i:Int),⟨d,⟨a,⟨ys++(cur.take i).map (·.1),()⟩⟩⟩⟩⟩⟩⟩⟩⟩:Sr1S)) cur.length (by omega) (λi hi=>by
  have f:=Ac hi;generalize cur[i]=w at f;unfold Q3;dsimp only;rw [K1 (by omega),ge_s (fg f),w_ln,w_pl,fitB (by rw [Ah,Ai,Am];omega) (by omega) (by decide),Kd,wr (by omega) (by omega),w_ap,Jgp f,List.append_assoc];rfl) (by unfold Q3;dsimp only;rw [J2 (by omega),Af])
 simpa using key
theorem L2_L1:@Jcz wv=@Q3 wv:=rfl
abbrev Sr0S:=HP Reg (HP Reg (HP Int (HP Reg (HP Reg (HP (List Int) Unit)))))
theorem J35(a b:Reg)(l:a.length<=10000000)(h:b.length<=10000000) :
  X2 (@Kv wv) bigN (⟨a,⟨b,⟨0,⟨a,⟨b,⟨[],()⟩⟩⟩⟩⟩⟩:Sr0S)=some (⟨a,⟨b,⟨a.map (·.1)++b.map (·.1),()⟩⟩⟩:HP Reg (HP Reg (HP (List Int) Unit))):=by
 have s0:@Kv wv (⟨a,⟨b,⟨0,⟨a,⟨b,⟨[],()⟩⟩⟩⟩⟩⟩:Sr0S)=some (.go (⟨a,⟨b,⟨1,⟨a,⟨b,⟨a.map (·.1),()⟩⟩⟩⟩⟩⟩:Sr0S)):=by unfold Kv;dsimp only;have d:=Jvs rfl a b 0 a a b [] (by omega) (by simp);rw [K1 (by decide),br_t (by rfl),w_ln];refine (lo_s d).trans ?_;rfl
 have g:@Kv wv (⟨a,⟨b,⟨1,⟨a,⟨b,⟨a.map (·.1),()⟩⟩⟩⟩⟩⟩:Sr0S)=some (.go (⟨a,⟨b,⟨2,⟨a,⟨b,⟨a.map (·.1)++b.map (·.1),()⟩⟩⟩⟩⟩⟩:Sr0S)):=by
  unfold Kv;dsimp only;have d:=Jvs L2_L1 a b 1 b a b (a.map (·.1)) (by omega) (by rw [Ai];omega);generalize a.map (·.1)=m at *
  generalize b.map (·.1)=n at *
  rw [K1 (by decide),br_f (by rw [Xe];rfl),br_t (by rw [Xe];rfl),w_ln];refine (lo_s d).trans ?_;rfl
 have f:@Kv wv (⟨a,⟨b,⟨2,⟨a,⟨b,⟨a.map (·.1)++b.map (·.1),()⟩⟩⟩⟩⟩⟩:Sr0S)=some (.out (⟨a,⟨b,⟨a.map (·.1)++b.map (·.1),()⟩⟩⟩:HP Reg (HP Reg (HP (List Int) Unit)))):=by unfold Kv;dsimp only;rw [J2 (by decide)]
 exact K8 (b:=@Kv wv) (λi=>match i with
  | 0=>(⟨a,⟨b,⟨0,⟨a,⟨b,⟨[],()⟩⟩⟩⟩⟩⟩:Sr0S)
  | 1=>⟨a,⟨b,⟨1,⟨a,⟨b,⟨a.map (·.1),()⟩⟩⟩⟩⟩⟩
  | _=>⟨a,⟨b,⟨2,⟨a,⟨b,⟨a.map (·.1)++b.map (·.1),()⟩⟩⟩⟩⟩⟩) 2 (by decide) (λi hi=>by
  rcases (show i=0\/i=1 by omega) with rfl|rfl
  ·exact s0
  ·exact g) f
abbrev Sr3S:=HP (List Int) (HP Int (HP Int (HP Reg (HP Reg (HP Reg Unit)))))
theorem Jkr(a b:Reg)(H:RegOK a)(G:RegOK b)(L:LimR a)(K:LimR b):∃U,@Xa wv (a,b)=some U/\RegOK U/\∀c,Jz U c↔Jz a c/\¬Jz b c:=by
 classical
 have hna:=Jbk H;have hnb:=Jbk G;obtain ⟨ys,hs1,hs2,P⟩:=J0p (a.map (·.1)++b.map (·.1)) (by rw [Ah,Ai,Ai];omega);obtain ⟨X,R⟩:=Jq1 ys hs2;have m:∀y∈cptF ys,-4096<=y/\y<4096:=λy Y=>by
  rw [R,P,Ab,Ak,Ak] at Y;rcases Y with ⟨w,o,rfl⟩|⟨w,o,rfl⟩
  ·exact H.y w o
  ·exact G.y w o
 have Q:∀c:Cell,Jz a c->c.2∈cptF ys:=λc ⟨w,o,e,_⟩=>by rw [R,P,Ab];exact .inl (Ak.2 ⟨w,o,e⟩)
 have hyl:(cptF ys).length<=8192:=by
  have B:((cptF ys).map λy=>(y+4096).toNat).Nodup:=Bc.2 ((List.Pairwise.and_mem.1 X).imp λ{x z} ⟨hx,F,hxz⟩ e=>by have:=m x hx;have:=m z F;omega)
  have:=Jid (n:=8192) B λx hx=>by obtain ⟨u,O,rfl⟩:=Ak.1 hx;have:=m u O;omega
  rwa [Ai] at this
 generalize hzs:cptF ys=zs at *
 have row8:∀ {r:Reg},RegOK r->∀y,RunsOK (-4096) 4096 (Jhv r y):=λ{r} h y=>by
  unfold Jhv;split
  ·rename_i w o;exact h.rs w (Ao o)
  ·exact ⟨by simp,.nil⟩
 obtain ⟨e,he,U,rfl,B,M⟩:=Ym (b:=@Xw wv)
  (λi s=>∃E,s=(⟨zs,⟨(zs.length:Int),⟨(i:Int),⟨a,⟨b,⟨E,()⟩⟩⟩⟩⟩⟩:Sr3S)/\RegOK E/\(∀c,Jz E c↔c.2∈zs.take i/\Jz a c/\¬Jz b c)/\∀v∈E,v.1∈zs.take i)
  (λe=>∃E,e=(⟨E,()⟩:HP Reg Unit)/\RegOK E/\∀c,Jz E c↔Jz a c/\¬Jz b c)
  zs.length (by omega) (s0:=⟨zs,⟨(zs.length:Int),⟨0,⟨a,⟨b,⟨[],()⟩⟩⟩⟩⟩⟩)
  ⟨[],rfl,⟨by simp,.nil,by simp,by simp⟩,λc=>⟨λ⟨w,o,_⟩=>(Ag o).elim,λ⟨h,_⟩=>by rw [List.take_zero] at h;exact (Ag h).elim⟩,λv J=>(Ag J).elim⟩
  (λi s hi=>by
   rintro ⟨E,rfl,B,M,h3⟩;have F:=Ac hi;generalize zs[i]=y at F;have hym:=Ae F;have Y:=m y hym;have r1:=row8 H y;have r2:=row8 G y;obtain ⟨l,q1,q2,q3⟩:=Jp3 (Jhv a y) (Jhv b y) (by have:=Qy r1;omega) (by have:=Qy r2;omega) (Jnm H y) (Jnm G y);have N:RunsOK (-4096) 4096 l:=Jj1 q2 λx hx=>by obtain ⟨u,O,d,f⟩:=((q3 x).1 hx).1;have:=r1.bd u O;omega
   have q4:∀x,Jd l x↔Jz a (x,y)/\¬Jz b (x,y):=λx=>by rw [q3,<-Jk0 H (x,y),<-Jk0 G (x,y)]
   have hll:=Qy N;have hEl:=Jbk B;have Z:=Kq F;have e3:@W.ar wv .add .i64 (i:Int) 1=((i+1:Nat):Int):=by rw [Kd,wr (by omega) (by omega)];omega
   have hlt:∀v∈E,v.1<y:=λv J=>by obtain ⟨j,hj⟩:=Av (h3 v J);have hjl:=(Ad.1 hj).1;rw [Am] at hjl;rw [Ar (by omega)] at hj;obtain ⟨p1,e1⟩:=Ad.1 hj;obtain ⟨p2,e2⟩:=Ad.1 F;have:=Bb.1 X j i p1 p2 (by omega);rwa [e1,e2] at this
   by_cases A:l=[]
   ·refine ⟨(⟨zs,⟨(zs.length:Int),⟨((i+1:Nat):Int),⟨a,⟨b,⟨E,()⟩⟩⟩⟩⟩⟩:Sr3S),?_,E,rfl,B,λc=>?_,λv J=>?_⟩
    ·unfold Xw;dsimp only;rw [K1 (by omega),ge_s (fg F),Zk L H,Zk K G];refine (ca_s (c:=K2) q1).trans ?_;rw [br_f (by rw [Zv,w_ln,A];rfl),e3]
    ·rw [M,Z,Ab,Aa];constructor
     ·rintro ⟨d,f⟩;exact ⟨.inl d,f⟩
     ·rintro ⟨d|d,f⟩
      ·exact ⟨d,f⟩
      ·have:=(q4 c.1).2 (by rw [<-d];exact f);rw [A] at this;obtain ⟨u,O,_⟩:=this;exact (Ag O).elim
    ·rw [Z];exact Ab.2 (.inl (h3 v J))
   ·have hp:=Ay.2 A;refine ⟨(⟨zs,⟨(zs.length:Int),⟨((i+1:Nat):Int),⟨a,⟨b,⟨E++[(y,l)],()⟩⟩⟩⟩⟩⟩:Sr3S),?_,_,rfl,Jnn (w:=(y,l)) B Y A N hlt,λc=>?_,λv J=>?_⟩
    ·unfold Xw;dsimp only;rw [K1 (by omega),ge_s (fg F),Zk L H,Zk K G];refine (ca_s (c:=K2) q1).trans ?_;rw [br_t (by rw [Zv,w_ln];exact decide_eq_true (by omega))];refine (ca_s (c:=Jt) (Jov l (by omega))).trans ?_;rw [w_ln,w_pl,Jy0 (by omega) (by omega),w_ap,e3]
    ·rw [Js7,M,Z,Ab,Aa];constructor
     ·rintro (⟨d,f⟩|⟨e,g⟩)
      ·exact ⟨.inl d,f⟩
      ·have e:y=c.2:=e;have:=(q4 c.1).1 g;rw [e] at this;exact ⟨.inr e.symm,this⟩
     ·rintro ⟨d|d,f⟩
      ·exact .inl ⟨d,f⟩
      ·exact .inr ⟨d.symm,(q4 c.1).2 (by rw [<-d];exact f)⟩
    ·rw [Z];rcases Ab.1 J with q|q
     ·exact Ab.2 (.inl (h3 v q))
     ·rw [Aa] at q;subst q;exact Ab.2 (.inr (Aa.2 rfl)))
  (by
   rintro s ⟨E,rfl,B,M,h3⟩;refine ⟨_,?_,E,rfl,B,λc=>?_⟩
   ·unfold Xw;dsimp only;rw [J2 (by omega)]
   ·rw [M,Af];exact ⟨And.right,λg=>⟨Q c g.1,g⟩⟩)
 refine ⟨U,?_,B,M⟩;unfold Xa;dsimp only;rw [Qu L,br_f (by simp [w_nt,H]),Qu K,br_f (by simp [w_nt,G])];refine (lo_s (J35 a b (by omega) (by omega))).trans ?_;dsimp only;refine (ca_s (c:=Jm9) hs1).trans ((ca_s (c:=Jh6) (a:=ys) (r:=cptF ys) rfl).trans ?_);rw [hzs,w_ln];exact (lo_s he).trans rfl
theorem Jam{r:Reg}(h:RegOK r):LimR r:=⟨by have:=Jbk h;omega,λw a=>by have:=Qy (h.rs w a);omega⟩
theorem J7a(r:Reg)(c:Cell):J7f r c↔Jz r c/\¬deep r 1 c:=by unfold J7f deep;refine and_congr Iff.rfl ⟨λ⟨dx,dy,l,g,f,d,a⟩ h=>a (h dx dy l g f d),λh=>?_⟩;apply Ap;intro m;refine h λdx dy l g f d=>?_;apply Ap;intro a;exact m ⟨dx,dy,l,g,f,d,a⟩
end Go.Proofs.YtmfagdfkpjgeiaaGreat
