/- What runs.Union of the program says. Conditions: valid lists. -/
import Derived.Test.YtmfagdfkpjgeiaaGreatXD
import Derived.Test.YtmfagdfkpjgeiaaGreatXG
import Derived.Test.YtmfagdfkpjgeiaaGreatXF
set_option linter.unusedVariables false
set_option linter.unusedSimpArgs false
set_option linter.unusedSectionVars false
set_option maxRecDepth 100000
namespace Go.Proofs.YtmfagdfkpjgeiaaGreat
open Go Go.Vv Go.Dn Go.Dn.W
open List renaming getElem?_eq_getElem -> Aa, length_append -> Ab, mem_append -> Ac, replicate -> Ad, mem_singleton -> Ae, mem_of_getElem? -> Ag, getElem?_eq_some_iff -> Ah, length_map -> Ai, length_take -> Aj, take_length -> Ak, not_mem_nil -> Am, mem_map -> Ao, getElem?_append_right -> Ap, foldl_append -> Aq, length_zip -> Av, getElem?_eq_none -> Aw, concat_eq_append -> Ax, length_replicate -> Ay, getLast?_concat -> Az, length_pos_iff -> Ba, replicate_succ -> Bb
open Nat renaming le_refl -> Af, le_succ_of_le -> Ar, sub_self -> Au
open Int renaming toNat_natCast -> As
def Jpq(was:Bool)(a:List Run)(i:Nat)(b:List Run)(j:Nat)(out:List Run):HP Bool (HP (List (Int×Int)) (HP Int (HP (List (Int×Int)) (HP Int (HP (List (Int×Int)) Unit))))):=
 let m:=min (bnd a i) (bnd b j);let f:=if bnd a i=m then i+1 else i;let d:=if bnd b j=m then j+1 else j;let now:=decide (f % 2=1) || decide (d % 2=1)
 ⟨now,a,(f:Int),b,(d:Int),if now=true/\was=false then out++[(m,0)] else if now=false/\was=true then Xd out (λu=>(u.1,m)) else out,()⟩
theorem uni_step(was:Bool)(a b out:List Run)(i j:Nat)(y:a.length<=1000000000)(w:b.length<=1000000000)(hi:i<=2 * a.length)(K:j<=2 * b.length)(P:out.length<=1000000000)(G:was=true->out≠[])(l:¬(i=2 * a.length/\j=2 * b.length)) :
  @Yg wv ⟨was,a,(i:Int),b,(j:Int),out,()⟩=some (.go (Jpq was a i b j out)):=by
 have M:@Zj wv ⟨was,a,(i:Int),b,(j:Int),out,()⟩=some (.inl ⟨was,a,(i:Int),b,(j:Int),out,()⟩):=by
  unfold Zj;dsimp only;rw [Jdb y];by_cases A:i=2 * a.length
  ·rw [br_f (by simp [w_nt,A]),Jdb w,br_t (by simp [w_nt];exact λq=>l ⟨A,q⟩)]
  ·rw [br_t (by simp [w_nt,A])]
 generalize J:min (bnd a i) (bnd b j)=m;have F:@Jb6 wv ⟨was,a,(i:Int),b,(j:Int),out,()⟩ (bnd a i) (bnd b j)=some ⟨was,m,a,((if bnd a i=m then i+1 else i:Nat):Int),b,(j:Int),out,()⟩:=by
  unfold Jb6;dsimp only;rw [Jeh y hi,J4c,J,Ks,wr (by omega) (by omega)];by_cases c:bnd a i=m
  ·rw [br_t (by rw [Xr];simp [c]),if_pos c];rfl
  ·rw [br_f (by rw [Xr];simp [c]),if_neg c]
 generalize r:(if bnd a i=m then i+1 else i)=d at F;have E:@Jb2 wv ⟨was,m,a,(d:Int),b,(j:Int),out,()⟩=some ⟨was,m,a,(d:Int),b,((if bnd b j=m then j+1 else j:Nat):Int),out,()⟩:=by
  unfold Jb2;dsimp only;rw [Jeh w K,Ks,wr (by omega) (by omega)];by_cases c:bnd b j=m
  ·rw [br_t (by rw [Xr];simp [c]),if_pos c];rfl
  ·rw [br_f (by rw [Xr];simp [c]),if_neg c]
 generalize o:(if bnd b j=m then j+1 else j)=f at E;have B:@Jb0 wv ⟨was,m,a,(d:Int),b,(f:Int),out,()⟩=some ⟨was,m,decide (d % 2=1) || decide (f % 2=1),a,(d:Int),b,(f:Int),out,()⟩:=by
  unfold Jb0;dsimp only;rw [Jvc,Jvc];by_cases c:d % 2=1
  ·rw [br_t (by simp [c])];simp [c,w_nt]
  ·rw [br_f (by simp [c])];simp [c]
 generalize g:(decide (d % 2=1) || decide (f % 2=1))=now at B;have h:∀ {α:Type} (x:Option α),@W.gd wv α (@W.ft wv 16 (@W.pl wv (@W.ln wv (Int×Int) out) 1)) x=x:=λx=>by rw [w_ln,w_pl];exact Jie (by omega) (by omega)
 have L:@Jb1 wv ⟨was,m,now,a,(d:Int),b,(f:Int),out,()⟩=some ⟨now,a,(d:Int),b,(f:Int),if now=true/\was=false then out++[(m,0)] else if now=false/\was=true then Xd out (λu=>(u.1,m)) else out,()⟩:=by
  unfold Jb1;dsimp only;rw [h];have nt1:@W.nt wv true=false:=rfl;have nt0:@W.nt wv false=true:=rfl;cases now with
  | true=>
   cases was with
   | true=>rw [nt1,br_t rfl,br_f rfl,br_f rfl,if_neg (by simp),if_neg (by simp)]
   | false=>rw [nt0,br_t rfl,br_t rfl,if_pos (by simp),w_ap]
  | false=>
   cases was with
   | false=>rw [nt0,br_f rfl,br_t rfl,br_f rfl,if_neg (by simp),if_neg (by simp)]
   | true=>
    have H:=Ba.2 (G rfl);obtain ⟨v,N,O⟩:=Jgm (G rfl) m;rw [nt0,br_f rfl,br_t rfl,br_t rfl,w_ln,Zb,wr (by omega) (by omega),Jjr ⟨by omega,by omega⟩,ge_s (fgz (out.length - 1) (by omega) N),if_neg (by simp),if_pos (by simp),w_st,show ((out.length:Int) - 1).toNat=out.length - 1 by omega,O]
 unfold Yg;rw [jo_s M];dsimp only;rw [Jeh y hi,Jeh w K,jo_s F,jo_s E,jo_s B,jo_s L];unfold Jpq;dsimp only;rw [J,r,o,g]
def UniI(a b:List Run)(p:Int)(was:Bool)(i j:Nat)(out:List Run):Prop:=
 At a p i/\At b p j/\was=(decide (i % 2=1) || decide (j % 2=1)) /\
 ((was=false/\Jeo out/\(∀u∈out,u.2<=p)/\∀x,x<p->(Jh out x↔Jh a x\/Jh b x)) \/
  ∃(o:List Run) (s z:Int),out=o++[(s,z)]/\was=true/\s<=p/\Jeo o/\(∀u∈o,u.2<s)/\(∀x,x<s->(Jh o x↔Jh a x\/Jh b x))/\∀x,s<=x->x<=p->Jh a x\/Jh b x)
theorem uni_inv{a b:List Run}(R:RunsOK (-1048576) 1048576 a)(Q:RunsOK (-1048576) 1048576 b){p:Int}{was:Bool}{i j:Nat}{out:List Run}(hI:UniI a b p was i j out)(N:¬(i=2 * a.length/\j=2 * b.length)) :
  ∃m,p<m/\∃(was':Bool) (H G:Nat) (out':List Run),Jpq was a i b j out=⟨was',a,(H:Int),b,(G:Int),out',()⟩/\UniI a b m was' H G out'/\i+j<H+G/\out'.length<=out.length+1:=by
 obtain ⟨hA,hB,Z,hO⟩:=hI;have B:min (bnd a i) (bnd b j)<1048577:=by
  have Y:i<2 * a.length->bnd a i<1048577:=λq=>by have d:=Aa (l:=a) (i:=i / 2) (by omega);have:=R.bd _ (Ag d);simp only [bnd,d];split<;>omega
  have F:j<2 * b.length->bnd b j<1048577:=λq=>by have d:=Aa (l:=b) (i:=j / 2) (by omega);have:=Q.bd _ (Ag d);simp only [bnd,d];split<;>omega
  have w:=hA.1;have E:=hB.1;have L:i<2 * a.length\/j<2 * b.length:=by omega
  rcases L with L|L
  ·have:=Y L;omega
  ·have:=F L;omega
 have hp1:p<bnd a i:=by
  rcases hA.2.2 i (Af _) with h|h
  ·exact h
  ·have e:a[i / 2]?=none:=Aw (by omega);have:p<1048577:=by
    have q:At b p j:=hB;by_cases F:j<2 * b.length
    ·rcases hB.2.2 j (Af _) with h'|h'
     ·have:=Jef Q j;omega
     ·omega
    ·exact (N ⟨by have:=hA.1;omega,by have:=hB.1;omega⟩).elim
   simp only [bnd,e];exact this
 have hp2:p<bnd b j:=by
  rcases hB.2.2 j (Af _) with h|h
  ·exact h
  ·have e:b[j / 2]?=none:=Aw (by omega);have:p<1048577:=by have:=Jef R i;omega
   simp only [bnd,e];exact this
 generalize A:min (bnd a i) (bnd b j)=m at B;have y:p<m:=by omega
 obtain ⟨hA',hAx⟩:=Ji1 R hA (m:=m) (by omega) y B;obtain ⟨hB',hBx⟩:=Ji1 Q hB (m:=m) (by omega) y B;refine ⟨m,y,_,_,_,_,by unfold Jpq;rw [A],?_,?_,?_⟩
 ·refine ⟨hA',hB',rfl,?_⟩;have hAm:=Jk5 hA';have hBm:=Jk5 hB';generalize (if bnd a i=m then i+1 else i)=H at *
  generalize (if bnd b j=m then j+1 else j)=G at *
  have hD:∀x,p<=x->x<m->(Jh a x\/Jh b x↔was=true):=λx w E=>by rw [hAx x w E,hBx x w E,Z];simp
  have hDm:Jh a m\/Jh b m↔(decide (H % 2=1) || decide (G % 2=1))=true:=by rw [hAm,hBm];simp
  generalize (decide (H % 2=1) || decide (G % 2=1))=now at *
  rcases hO with ⟨M,K,g,J⟩|⟨o,s,z,rfl,M,hs,K,g,J,X⟩
  ·subst M;cases now with
   | false=>
    left;rw [if_neg (by simp),if_neg (by simp)];refine ⟨rfl,K,λu d=>by have:=g u d;omega,λx hx=>?_⟩;by_cases q:x<p
    ·exact J x q
    ·rw [hD x (by omega) hx];refine ⟨λ⟨u,d,w,E⟩=>by have:=g u d;omega,λh=>by simp at h⟩
   | true=>
    right;rw [if_pos (by simp)];refine ⟨out,m,0,rfl,rfl,Int.le_refl _,K,λu d=>by have:=g u d;omega,λx hx=>?_,λx w E=>?_⟩
    ·by_cases q:x<p
     ·exact J x q
     ·rw [hD x (by omega) hx];refine ⟨λ⟨u,d,w,E⟩=>by have:=g u d;omega,λh=>by simp at h⟩
    ·have:x=m:=by omega
     subst this;exact hDm.2 rfl
  ·subst M;cases now with
   | true=>
    right;rw [if_neg (by simp),if_neg (by simp)];refine ⟨o,s,z,rfl,rfl,by omega,K,g,J,λx w E=>?_⟩;by_cases q:x<=p
    ·exact X x w q
    ·by_cases F:x=m
     ·subst F;exact hDm.2 rfl
     ·exact (hD x (by omega) (by omega)).2 rfl
   | false=>
    left;rw [if_neg (by simp),if_pos (by simp),X7];refine ⟨rfl,Jim.2 ⟨K,by dsimp only;omega,g⟩,λu d=>?_,λx hx=>?_⟩
    ·rcases Ac.1 d with h|h
     ·have:=g u h;omega
     ·rw [Ae.1 h];exact Int.le_refl _
    ·rw [Jgk];dsimp only;by_cases q:x<s
     ·rw [J x q];exact ⟨λh=>h.resolve_right λh=>by omega,.inl⟩
     ·have P:Jh a x\/Jh b x:=by
       by_cases F:x<=p
       ·exact X x (by omega) F
       ·exact (hD x (by omega) hx).2 rfl
      exact ⟨λ_=>P,λ_=>.inr ⟨by omega,hx⟩⟩
 ·by_cases q:bnd a i=m
  ·rw [if_pos q];split<;>omega
  ·have:bnd b j=m:=by omega
   rw [if_pos this];split<;>omega
 ·have O:∀(l:List Run) (f:Run->Run),(Xd l f).length=l.length:=λl f=>by
   rcases l.eq_nil_or_concat with rfl|⟨r,v,rfl⟩
   ·rfl
   ·rw [Ax,X7];simp
  have key:∀nw ws:Bool,(if nw=true/\ws=false then out++[(m,0)] else if nw=false/\ws=true then Xd out (λu=>(u.1,m)) else out).length<=out.length+1:=λnw ws=>by cases nw<;>cases ws<;>simp [O]
  exact key _ _
theorem uni_loop(a b:List Run)(Q:a.length<=100000000)(P:b.length<=100000000)(y:RunsOK (-1048576) 1048576 a)(w:RunsOK (-1048576) 1048576 b) :
  ∃e,Yl (@Yg wv) bigN ⟨false,a,0,b,0,[],()⟩=some e/\Jeo e.e/\∀x,Jh e.e x↔Jh a x\/Jh b x:=by
 refine Jh7 (b:=@Yg wv) (λs=>∃(p:Int) (was:Bool) (i j:Nat) (out:List Run),s=⟨was,a,(i:Int),b,(j:Int),out,()⟩/\UniI a b p was i j out/\out.length<=i+j)
  (λe=>Jeo e.e/\∀x,Jh e.e x↔Jh a x\/Jh b x) (λs=>(2 * (a.length:Int)+2 * (b.length:Int) - s.j.j.e - s.j.j.j.j.e).toNat) ?_ ⟨-1048577,false,0,0,[],rfl,⟨⟨by omega,by omega,λk d=>?_⟩,⟨by omega,by omega,λk d=>?_⟩,rfl,.inl ⟨rfl,⟨by simp,.nil⟩,by simp,λx hx=>?_⟩⟩,by simp⟩ (by dsimp only;omega)
 ·rintro s ⟨p,was,i,j,out,rfl,hI,Y⟩;have B:=hI.1.1;have A:=hI.2.1.1;by_cases g:i=2 * a.length/\j=2 * b.length
  ·right;obtain ⟨rfl,rfl⟩:=g;have J:@Zj wv ⟨was,a,((2 * a.length:Nat):Int),b,((2 * b.length:Nat):Int),out,()⟩=some (.inr ⟨out,()⟩):=by unfold Zj;dsimp only;rw [Jdb (by omega),br_f (by simp [w_nt]),Jdb (by omega),br_f (by simp [w_nt])]
   unfold Yg;rw [jo_s J];refine ⟨_,rfl,?_⟩;obtain ⟨hA,hB,M,hO⟩:=hI;have v:was=false:=by rw [M];simp
   rcases hO with ⟨l,H,G,F⟩|⟨o,s,z,rfl,l,-⟩
   ·refine ⟨H,λx=>?_⟩;by_cases q:x<p
    ·exact F x q
    ·refine ⟨λ⟨u,f,r,Z⟩=>by have:=G u f;omega,λh=>?_⟩;rcases h with r|r
     ·have:At a x (2 * a.length):=⟨Af _,λk d=>by have:=hA.2.1 k d;omega,λk d=>.inr d⟩;have:=(Jk5 this).1 r;omega
     ·have:At b x (2 * b.length):=⟨Af _,λk d=>by have:=hB.2.1 k d;omega,λk d=>.inr d⟩;have:=(Jk5 this).1 r;omega
   ·rw [v] at l;cases l
  ·left;obtain ⟨m,N,was',L,K,out',e,hI',O,E⟩:=uni_inv y w hI g;refine ⟨_,uni_step was a b out i j (by omega) (by omega) B A (by omega) (λq=>?_) g,?_,?_⟩
   ·rcases hI.2.2.2 with ⟨l,-⟩|⟨o,s,z,rfl,-⟩
    ·rw [l] at q;cases q
    ·simp
   ·rw [e];exact ⟨m,was',L,K,out',rfl,hI',by omega⟩
   ·rw [e];have X:=hI'.1.1;have R:=hI'.2.1.1;dsimp only;omega
 ·by_cases q:2 * a.length<=k
  ·exact .inr q
  ·left;have:=Jef y k;omega
 ·by_cases q:2 * b.length<=k
  ·exact .inr q
  ·left;have:=Jef w k;omega
 ·constructor
  ·rintro ⟨u,f,-⟩;cases f
  ·rintro (⟨u,f,B,A⟩|⟨u,f,B,A⟩)
   ·have:=y.bd u f;omega
   ·have:=w.bd u f;omega
open Classical in
theorem Union_ok(a b:List Run)(f:a.length<=100000000)(d:b.length<=100000000)(h:RunsOK (-1048576) 1048576 a)(g:RunsOK (-1048576) 1048576 b) :
  ∃l,@Jcd wv (a,b)=some l/\Jeo l/\∀x,Jh l x↔Jh a x\/Jh b x:=by obtain ⟨e,m,r,o⟩:=uni_loop a b f d h g;refine ⟨e.e,?_,r,o⟩;unfold Jcd;dsimp only;rw [Yj (by omega),br_f (by simp [w_nt,h]),Yj (by omega),br_f (by simp [w_nt,g])];exact lo_s m
theorem Joi{b:Sr1S->Option (Nx Sr1S Or1S)}(g:b=@Q8 wv)(A B:Reg)(idx:Int)(cur d a:Reg)(ys:List Int)(l:cur.length<=100000000)(h:ys.length<=100000000) :
  Yl b bigN (⟨A,B,idx,cur,(cur.length:Int),0,d,a,ys,()⟩:Sr1S)=some (⟨A,B,idx,d,a,ys++cur.map (·.1),()⟩:Or1S):=by
 subst g;have key:=Ql (b:=@Q8 wv) (e:=(⟨A,B,idx,d,a,ys++cur.map (·.1),()⟩:Or1S)) (λi=>(⟨A,B,idx,cur,(cur.length:Int),(i:Int),d,a,ys++(cur.take i).map (·.1),()⟩:Sr1S)) cur.length (by omega) (λi hi=>by
  have f:=Aa hi;generalize cur[i]=w at f;unfold Q8;dsimp only;rw [Qw (by omega),ge_s (fg f),w_ln,w_pl,fitB (by rw [Ab,Ai,Aj];omega) (by omega) (by decide),Ks,wr (by omega) (by omega),w_ap,Jgq f,List.append_assoc];rfl) (by unfold Q8;dsimp only;rw [Kq (by omega),Ak])
 simpa using key
theorem uL2_L1:@Jc3 wv=@Q8 wv:=rfl
theorem Jzm(a b:Reg)(l:a.length<=10000000)(h:b.length<=10000000) :
  Yl (@Kv wv) bigN (⟨a,b,0,a,b,[],()⟩:Sr0S)=some (⟨a,b,a.map (·.1)++b.map (·.1),()⟩:HP Reg (HP Reg (HP (List Int) Unit))):=by
 have s0:@Kv wv (⟨a,b,0,a,b,[],()⟩:Sr0S)=some (.go (⟨a,b,1,a,b,a.map (·.1),()⟩:Sr0S)):=by unfold Kv;dsimp only;have d:=Joi rfl a b 0 a a b [] (by omega) (by simp);rw [Qw (by decide),br_t (by rfl),w_ln];refine (lo_s d).trans ?_;rfl
 have g:@Kv wv (⟨a,b,1,a,b,a.map (·.1),()⟩:Sr0S)=some (.go (⟨a,b,2,a,b,a.map (·.1)++b.map (·.1),()⟩:Sr0S)):=by
  unfold Kv;dsimp only;have d:=Joi uL2_L1 a b 1 b a b (a.map (·.1)) (by omega) (by rw [Ai];omega);generalize a.map (·.1)=m at *
  generalize b.map (·.1)=n at *
  rw [Qw (by decide),br_f (by rw [Xr];rfl),br_t (by rw [Xr];rfl),w_ln];refine (lo_s d).trans ?_;rfl
 have f:@Kv wv (⟨a,b,2,a,b,a.map (·.1)++b.map (·.1),()⟩:Sr0S)=some (.out (⟨a,b,a.map (·.1)++b.map (·.1),()⟩:HP Reg (HP Reg (HP (List Int) Unit)))):=by unfold Kv;dsimp only;rw [Kq (by decide)]
 exact Ql (b:=@Kv wv) (λi=>match i with
  | 0=>(⟨a,b,0,a,b,[],()⟩:Sr0S)
  | 1=>⟨a,b,1,a,b,a.map (·.1),()⟩
  | _=>⟨a,b,2,a,b,a.map (·.1)++b.map (·.1),()⟩) 2 (by decide) (λi hi=>by
  rcases (show i=0\/i=1 by omega) with rfl|rfl
  ·exact s0
  ·exact g) f
theorem Jmv(a b:Reg)(H:RegOK a)(G:RegOK b)(M:LimR a)(L:LimR b):∃U,@Jao wv (a,b)=some U/\RegOK U/\∀c,Qf U c↔(Qf a c\/Qf b c):=by
 classical
 have hna:=Jh9 H;have hnb:=Jh9 G;obtain ⟨ys,hs1,hs2,P⟩:=sortI_ok (a.map (·.1)++b.map (·.1)) (by rw [Ab,Ai,Ai];omega);obtain ⟨X,R⟩:=Jzz ys hs2;have o:∀y∈cptF ys,-4096<=y/\y<4096:=λy Y=>by
  rw [R,P,Ac,Ao,Ao] at Y;rcases Y with ⟨w,f,rfl⟩|⟨w,f,rfl⟩
  ·exact H.y w f
  ·exact G.y w f
 have Q:∀c:Cell,Qf a c\/Qf b c->c.2∈cptF ys:=λc h=>by
  rw [R,P,Ac];rcases h with ⟨w,f,e,_⟩|⟨w,f,e,_⟩
  ·exact .inl (Ao.2 ⟨w,f,e⟩)
  ·exact .inr (Ao.2 ⟨w,f,e⟩)
 have hyl:(cptF ys).length<=8192:=by
  have B:((cptF ys).map λy=>(y+4096).toNat).Nodup:=List.pairwise_map.2 ((List.Pairwise.and_mem.1 X).imp λ{x z} ⟨hx,F,hxz⟩ e=>by have:=o x hx;have:=o z F;omega)
  have:=Jiu (n:=8192) B λx hx=>by obtain ⟨u,K,rfl⟩:=Ao.1 hx;have:=o u K;omega
  rwa [Ai] at this
 generalize hzs:cptF ys=zs at *
 have row8:∀ {r:Reg},RegOK r->∀y,RunsOK (-4096) 4096 (Ji3 r y):=λ{r} h y=>by
  unfold Ji3;split
  ·rename_i w f;exact h.rs w (List.mem_of_find?_eq_some f)
  ·exact ⟨by simp,.nil⟩
 obtain ⟨e,he,U,rfl,B,N⟩:=jq (b:=@Yi wv)
  (λi s=>∃E,s=(⟨zs,(zs.length:Int),(i:Int),a,b,E,()⟩:Sr3S)/\RegOK E/\(∀c,Qf E c↔c.2∈zs.take i/\(Qf a c\/Qf b c))/\∀v∈E,v.1∈zs.take i)
  (λe=>∃E,e=(⟨E,()⟩:HP Reg Unit)/\RegOK E/\∀c,Qf E c↔(Qf a c\/Qf b c))
  zs.length (by omega) (s0:=⟨zs,(zs.length:Int),0,a,b,[],()⟩)
  ⟨[],rfl,⟨by simp,.nil,by simp,by simp⟩,λc=>⟨λ⟨w,f,_⟩=>(Am f).elim,λ⟨h,_⟩=>by rw [List.take_zero] at h;exact (Am h).elim⟩,λv J=>(Am J).elim⟩
  (λi s hi=>by
   rintro ⟨E,rfl,B,N,h3⟩;have F:=Aa hi;generalize zs[i]=y at F;have hym:=Ag F;have Y:=o y hym;have r1:=row8 H y;have r2:=row8 G y;obtain ⟨l,q1,q2,q3⟩:=Union_ok (Ji3 a y) (Ji3 b y) (by have:=Jbo r1;omega) (by have:=Jbo r2;omega) (Jyo H y) (Jyo G y);have O:RunsOK (-4096) 4096 l:=Jrk q2 λx hx=>by
    rcases (q3 x).1 hx with ⟨u,K,d,m⟩|⟨u,K,d,m⟩
    ·have:=r1.bd u K;omega
    ·have:=r2.bd u K;omega
   have q4:∀x,Jh l x↔Qf a (x,y)\/Qf b (x,y):=λx=>by rw [q3,<-Jr0 H (x,y),<-Jr0 G (x,y)]
   have hll:=Jbo O;have hEl:=Jh9 B;have Z:=Qc F;have e3:@W.ar wv .add .i64 (i:Int) 1=((i+1:Nat):Int):=by rw [Ks,wr (by omega) (by omega)];omega
   have hlt:∀v∈E,v.1<y:=λv J=>by obtain ⟨j,hj⟩:=List.getElem?_of_mem (h3 v J);have hjl:=(Ah.1 hj).1;rw [Aj] at hjl;rw [List.getElem?_take_of_lt (by omega)] at hj;obtain ⟨p1,e1⟩:=Ah.1 hj;obtain ⟨p2,e2⟩:=Ah.1 F;have:=List.pairwise_iff_getElem.1 X j i p1 p2 (by omega);rwa [e1,e2] at this
   by_cases A:l=[]
   ·refine ⟨(⟨zs,(zs.length:Int),((i+1:Nat):Int),a,b,E,()⟩:Sr3S),?_,E,rfl,B,λc=>?_,λv J=>?_⟩
    ·unfold Yi;dsimp only;rw [Qw (by omega),ge_s (fg F),Jcm M H,Jcm L G];refine (ca_s (c:=jw) q1).trans ?_;rw [br_f (by rw [Jat,w_ln,A];rfl),e3]
    ·rw [N,Z,Ac,Ae];constructor
     ·rintro ⟨d,m⟩;exact ⟨.inl d,m⟩
     ·rintro ⟨d|d,m⟩
      ·exact ⟨d,m⟩
      ·have:=(q4 c.1).2 (by rw [<-d];exact m);rw [A] at this;obtain ⟨u,K,_⟩:=this;exact (Am K).elim
    ·rw [Z];exact Ac.2 (.inl (h3 v J))
   ·have hp:=Ba.2 A;refine ⟨(⟨zs,(zs.length:Int),((i+1:Nat):Int),a,b,E++[(y,l)],()⟩:Sr3S),?_,_,rfl,Jw9 (w:=(y,l)) B Y A O hlt,λc=>?_,λv J=>?_⟩
    ·unfold Yi;dsimp only;rw [Qw (by omega),ge_s (fg F),Jcm M H,Jcm L G];refine (ca_s (c:=jw) q1).trans ?_;rw [br_t (by rw [Jat,w_ln];exact decide_eq_true (by omega))];refine (ca_s (c:=Ki) (Jwd l (by omega))).trans ?_;rw [w_ln,w_pl,fit32 (by omega) (by omega),w_ap,e3]
    ·rw [J1r,N,Z,Ac,Ae];constructor
     ·rintro (⟨d,m⟩|⟨e,g⟩)
      ·exact ⟨.inl d,m⟩
      ·have e:y=c.2:=e;have:=(q4 c.1).1 g;rw [e] at this;exact ⟨.inr e.symm,this⟩
     ·rintro ⟨d|d,m⟩
      ·exact .inl ⟨d,m⟩
      ·exact .inr ⟨d.symm,(q4 c.1).2 (by rw [<-d];exact m)⟩
    ·rw [Z];rcases Ac.1 J with q|q
     ·exact Ac.2 (.inl (h3 v q))
     ·rw [Ae] at q;subst q;exact Ac.2 (.inr (Ae.2 rfl)))
  (by
   rintro s ⟨E,rfl,B,N,h3⟩;refine ⟨_,?_,E,rfl,B,λc=>?_⟩
   ·unfold Yi;dsimp only;rw [Kq (by omega)]
   ·rw [N,Ak];exact ⟨And.right,λg=>⟨Q c g,g⟩⟩)
 refine ⟨U,?_,B,N⟩;unfold Jao;dsimp only;rw [jf M,br_f (by simp [w_nt,H]),jf L,br_f (by simp [w_nt,G])];refine (lo_s (Jzm a b (by omega) (by omega))).trans ?_;dsimp only;refine (ca_s (c:=Jxu) hs1).trans ((ca_s (c:=Jou) (a:=ys) (r:=cptF ys) rfl).trans ?_);rw [hzs,w_ln];exact (lo_s he).trans rfl
abbrev Mb:=List (Cell×Bool)
def Jj2:Mb->Cell->Bool
 | [],_=>false
 | e::r,c=>if c=e.1 then e.2 else Jj2 r c
def putM:Mb->Cell->Mb
 | [],c=>[(c,true)]
 | e::r,c=>if c=e.1 then (c,true)::r else e::putM r c
theorem mg_seen(m:Mb)(c:Cell):@W.mg wv (.p I I) .bool m c false=Jj2 m c:=by
 show (Zl (a:=.p I I) (b:=.bool) c m).getD false=_
 induction m with
 | nil=>rfl
 | cons e r d=>
  show _=if c=e.1 then e.2 else Jj2 r c;by_cases h:c=e.1
  ·have hd:Ty.eqb (.p I I) c e.1=true:=by rw [Jm5];exact decide_eq_true h
   rw [if_pos h];exact congrArg (λo:Option Bool=>o.getD false) (show Zl (a:=.p I I) (b:=.bool) c (e::r)=some e.2 from if_pos hd)
  ·have hd:¬Ty.eqb (.p I I) c e.1=true:=by rw [Jm5];exact λf=>h (of_decide_eq_true f)
   rw [if_neg h,<-d];exact congrArg (λo:Option Bool=>o.getD false) (show Zl (a:=.p I I) (b:=.bool) c (e::r)=Zl (a:=.p I I) (b:=.bool) c r from if_neg hd)
theorem ms_seen(m:Mb)(c:Cell):@W.ms wv (.p I I) .bool m c true=putM m c:=by
 show mSet (a:=.p I I) (b:=.bool) c true m=_
 induction m with
 | nil=>rfl
 | cons e r d=>
  show (if Ty.eqb (.p I I) c e.1=true then (c,true)::r else e::mSet (a:=.p I I) (b:=.bool) c true r)=if c=e.1 then (c,true)::r else e::putM r c;rw [Jm5];by_cases h:c=e.1
  ·rw [if_pos (decide_eq_true h),if_pos h]
  ·rw [if_neg (by simpa using h),if_neg h];exact congrArg (e::·) d
def stO(s:Bool×Mb×List Bool)(c:Cell):Bool×Mb×List Bool:=(s.1&&!Jj2 s.2.1 c,putM s.2.1 c,s.2.2++[!Jj2 s.2.1 c])
def runO(m:Mb)(l:List Cell):Bool×Mb×List Bool:=l.foldl stO (true,m,[])
theorem J0b(m:Mb)(l:List Cell)(c:Cell):runO m (l++[c])=stO (runO m l) c:=by unfold runO;rw [Aq];rfl
theorem Jw7(m:Mb):∀l:List Cell,(runO m l).2.2.length=l.length:=λl=>by
 have key:∀(l:List Cell) (s:Bool×Mb×List Bool),(l.foldl stO s).2.2.length=s.2.2.length+l.length:=by
  intro l
  induction l with
  | nil=>intro s;rfl
  | cons c l a=>
   intro s;have e:(stO s c).2.2.length=s.2.2.length+1:=by show (s.2.2++[!Jj2 s.2.1 c]).length=_;rw [Ab];rfl
   rw [List.foldl_cons,a,e,List.length_cons];omega
 exact (key l (true,m,[])).trans (Nat.zero_add _)
abbrev On1S:=HP Bool (HP (List J0) (HP Int (HP Int (HP (List Cell) (HP Int (HP Int (HP (List J0) (HP Mb (HP Int (HP Bool (HP (List Cell) (HP (List Bool) Unit))))))))))))
abbrev On1O:=HP Bool (HP (List J0) (HP Int (HP Int (HP (List J0) (HP Mb (HP Int (HP Bool (HP (List Cell) (HP (List Bool) Unit)))))))))
theorem Jy0(a l:List J0)(n j:Int)(out:List J0)(m:Mb)(role:Int)(cl:Bool)(cells:List Cell)(B:cells.length<=1000000000) :
  Yl (@Zh wv a) bigN (⟨true,l,n,j,cells,(cells.length:Int),0,out,m,role,cl,cells,Ad cells.length false,()⟩:On1S) =
   some (⟨(runO m cells).1,l,n,j,out,(runO m cells).2.1,role,cl,cells,(runO m cells).2.2,()⟩:On1O):=by
 have key:=Ql (b:=@Zh wv a) (e:=(⟨(runO m cells).1,l,n,j,out,(runO m cells).2.1,role,cl,cells,(runO m cells).2.2,()⟩:On1O))
  (λi=>(⟨(runO m (cells.take i)).1,l,n,j,cells,(cells.length:Int),(i:Int),out,(runO m (cells.take i)).2.1,role,cl,cells,(runO m (cells.take i)).2.2++Ad (cells.length - i) false,()⟩:On1S)) cells.length (by omega) (λi hi=>by
   have hx:=Aa hi;have d:=Jw7 m (cells.take i);rw [Aj,Nat.min_eq_left (by omega)] at d;have f:=Qc hx;generalize cells[i]=c at hx f;obtain ⟨x,y⟩:=c;rw [f,J0b];generalize runO m (cells.take i)=s at d ⊢;obtain ⟨al,mm,ks⟩:=s;have d:ks.length=i:=d;have A:@W.nt wv (@W.mg wv (.p I I) .bool mm (x,y) false)=!Jj2 mm (x,y):=congrArg (λb:Bool=>!b) (mg_seen mm (x,y));have w:@W.ms wv (.p I I) .bool mm (x,y) true=putM mm (x,y):=ms_seen mm (x,y);have hr:cells.length - i=(cells.length - (i+1))+1:=by omega
   have v:(ks++Ad (cells.length - i) false).set i (!Jj2 mm (x,y))=(ks++[!Jj2 mm (x,y)])++Ad (cells.length - (i+1)) false:=by rw [hr,Bb,List.set_append_right _ _ (by omega),d,Au,List.set_cons_zero,List.append_assoc];rfl
   have r:(ks++Ad (cells.length - i) false)[i]?=some false:=by rw [Ap (by omega),hr,Bb,d,Au];rfl
   have o:((ks++[!Jj2 mm (x,y)])++Ad (cells.length - (i+1)) false)[i]?=some (!Jj2 mm (x,y)):=by rw [List.getElem?_append_left (by simp;omega),Ap (by omega),d,Au];rfl
   have h:(ks++Ad (cells.length - i) false).length=cells.length:=by rw [Ab,Ay];omega
   have g:((ks++[!Jj2 mm (x,y)])++Ad (cells.length - (i+1)) false).length=cells.length:=by rw [Ab,Ab,Ay];simp;omega
   unfold Zh;dsimp only;rw [Qw (by omega),ge_s (fg hx)];dsimp only;rw [A,w,w_st,show ((i:Int)).toNat=i by omega,v,w_ln,h,Jjr ⟨by omega,by omega⟩,ge_s (fg r),Ks,wr (by omega) (by omega),w_ln,g];cases al with
   | true=>rw [br_t rfl,Jjr ⟨by omega,by omega⟩,ge_s (fg o)];rfl
   | false=>rw [br_f rfl];rfl) (by unfold Zh;dsimp only;rw [Kq (by omega),Ak,Au,List.replicate_zero,List.append_nil])
 exact key
def Jj0(out:List J0)(last:List Cell):List J0:=Xd out λy=>(y.1,(y.2.1,last))
def stQ(role:Int)(s:List J0×List Cell×Bool)(p:Cell×Bool):List J0×List Cell×Bool:=
 match p.2,s.2.2 with
 | false,_=>(s.1,s.2.1,false)
 | true,false=>(Jj0 s.1 s.2.1++[(role,(false,[]))],[p.1],true)
 | true,true=>(s.1,s.2.1++[p.1],true)
def runQ(role:Int)(l:List (Cell×Bool)):List J0×List Cell×Bool:=l.foldl (stQ role) ([],[],false)
theorem Jm4(role:Int)(l:List (Cell×Bool))(p:Cell×Bool):runQ role (l++[p])=stQ role (runQ role l) p:=by unfold runQ;rw [Aq];rfl
theorem Jma(out:List J0)(last:List Cell):(Jj0 out last).length=out.length:=by
 unfold Jj0;rcases out.eq_nil_or_concat with rfl|⟨r,v,rfl⟩
 ·rfl
 ·rw [Ax,X7];simp
theorem Jj8(role:Int)(l:List (Cell×Bool)):(runQ role l).2.2=(l.getLast?.map (·.2)).getD false/\((runQ role l).2.2=true->(runQ role l).1≠[])/\(runQ role l).1.length<=l.length/\(runQ role l).2.1.length<=l.length:=by
 have key:∀m:List (Cell×Bool),(runQ role m.reverse).2.2=(m.reverse.getLast?.map (·.2)).getD false/\((runQ role m.reverse).2.2=true->(runQ role m.reverse).1≠[])/\(runQ role m.reverse).1.length<=m.reverse.length/\(runQ role m.reverse).2.1.length<=m.reverse.length:=by
  intro m
  induction m with
  | nil=>exact ⟨rfl,λh=>(by cases h),Af _,Af _⟩
  | cons p m d=>
   rw [List.reverse_cons,Jm4,Az,Ab];generalize runQ role m.reverse=s at d ⊢;obtain ⟨out,last,pv⟩:=s;obtain ⟨c,k⟩:=p;obtain ⟨-,g,a,f⟩:=d;cases k with
   | false=>exact ⟨rfl,λh=>(by cases h),Ar a,Ar f⟩
   | true=>
    cases pv with
    | false=>
     refine ⟨rfl,λ_=>by simp [stQ],?_,?_⟩
     ·show (Jj0 out last++[(role,(false,[]))]).length<=_;rw [Ab,Jma];exact Nat.succ_le_succ a
     ·show ([c]:List Cell).length<=_;simp
    | true=>
     refine ⟨rfl,λ_=>g rfl,Ar a,?_⟩;show (last++[c]).length<=_;rw [Ab];exact Nat.succ_le_succ f
 have:=key l.reverse;rwa [List.reverse_reverse] at this
def Jk9(role:Int)(l:List (Cell×Bool)):List J0:=Jj0 (runQ role l).1 (runQ role l).2.1
abbrev Pc0S:=HP (List Bool) (HP (List Cell) (HP Int (HP Int (HP Int (HP Bool (HP (List Cell) (HP (List J0) (HP (List Cell) Unit))))))))
abbrev Pc0O:=HP (List J0) (HP (List Cell) Unit)
theorem Jho{β:Type}(Y:List β)(w:β):(Y++[w]).set Y.length w=Y++[w]:=by rw [Jyg]
theorem Jog(role:Int)(out:List J0)(last:List Cell)(f:out.length<=1000000000){γ:Type}(k:List J0->Option γ) :
  (@W.gd wv γ (@W.ft wv 40 (@W.pl wv (@W.ln wv J0 out) 1)) <|
   @W.gd wv γ (@W.ib wv (@W.ar wv .sub .i64 (@W.ln wv J0 (@W.ap wv J0 (@W.ml wv J0 out λy=>(y.1,(y.2.1,last))) ((role,(false,[]))::[]))) 1) (@W.ln wv J0 (@W.ap wv J0 (@W.ml wv J0 out λy=>(y.1,(y.2.1,last))) ((role,(false,[]))::[])))) <|
   @W.ge wv γ J0 (@W.ap wv J0 (@W.ml wv J0 out λy=>(y.1,(y.2.1,last))) ((role,(false,[]))::[])) (@W.ar wv .sub .i64 (@W.ln wv J0 (@W.ap wv J0 (@W.ml wv J0 out λy=>(y.1,(y.2.1,last))) ((role,(false,[]))::[]))) 1) λv2=>
   @W.gd wv γ (@W.cm wv .eql (@W.pl wv (@W.ar wv .sub .i64 (@W.ln wv J0 (@W.ap wv J0 (@W.ml wv J0 out λy=>(y.1,(y.2.1,last))) ((role,(false,[]))::[]))) 1) 1) (@W.ln wv J0 (@W.ap wv J0 (@W.ml wv J0 out λy=>(y.1,(y.2.1,last))) ((role,(false,[]))::[])))) <|
   @W.gd wv γ (@W.ft wv 16 1) <|
   @W.ge wv γ J0 (@W.ap wv J0 (@W.ml wv J0 out λy=>(y.1,(y.2.1,last))) ((role,(false,[]))::[])) (@W.ar wv .sub .i64 (@W.ln wv J0 (@W.ap wv J0 (@W.ml wv J0 out λy=>(y.1,(y.2.1,last))) ((role,(false,[]))::[]))) 1) λv3=>
   @W.gd wv γ (@W.cm wv .eql (@W.pl wv (@W.ar wv .sub .i64 (@W.ln wv J0 (@W.ap wv J0 (@W.ml wv J0 out λy=>(y.1,(y.2.1,last))) ((role,(false,[]))::[]))) 1) 1) (@W.ln wv J0 (@W.ap wv J0 (@W.ml wv J0 out λy=>(y.1,(y.2.1,last))) ((role,(false,[]))::[])))) <|
   k (@W.st wv J0 (@W.ap wv J0 (@W.ml wv J0 out λy=>(y.1,(y.2.1,last))) ((role,(false,[]))::[])) (@W.ar wv .sub .i64 (@W.ln wv J0 (@W.ap wv J0 (@W.ml wv J0 out λy=>(y.1,(y.2.1,last))) ((role,(false,[]))::[]))) 1) (v3.1,(v3.2.1,v3.2.2))))=k (Jj0 out last++[(role,(false,[]))]):=by
 have hX:@W.ap wv J0 (@W.ml wv J0 out λy=>(y.1,(y.2.1,last))) ((role,(false,[]))::[])=Jj0 out last++[(role,(false,[]))]:=rfl;have hl:=Jma out last;rw [hX];generalize Jj0 out last=Y at hl;have d:(Y++[((role,(false,[])):J0)]).length=Y.length+1:=by simp
 have hi:@W.ar wv .sub .i64 (((Y.length+1:Nat):Int)) 1=(Y.length:Int):=by rw [Zb,wr (by omega) (by omega)];omega
 have a:(Y++[((role,(false,[])):J0)])[Y.length]?=some (role,(false,[])):=Jj4 Y _;rw [w_ln,w_ln,d,hi,w_pl,fit40 (by omega) (by omega),Jjr ⟨by omega,by omega⟩,ge_s (fg a),w_pl,gd_t (by rw [Xr];exact decide_eq_true (by omega)),Jie (by decide) (by decide),ge_s (fg a),gd_t (by rw [Xr];exact decide_eq_true (by omega)),w_st,As];dsimp only;rw [Jho]
theorem Jyb{A B:Type}{l:List A}{m:List B}{i:Nat}{a:A}{b:B}(f:l[i]?=some a)(d:m[i]?=some b):(l.zip m).take (i+1)=(l.zip m).take i++[(a,b)]:=by refine Qc ?_;rw [List.getElem?_zip_eq_some];exact ⟨f,d⟩
theorem J21(role:Int)(cl:Bool)(cells:List Cell)(ks:List Bool)(H:ks.length=cells.length)(J:cells.length<=100000000):@Jam wv ((role,(cl,cells)),ks)=some (Jk9 role (cells.zip ks)):=by
 have zl:(cells.zip ks).length=cells.length:=by rw [Av];omega
 have key:=Ql (b:=@Zn wv) (e:=(⟨(runQ role (cells.zip ks)).1,(runQ role (cells.zip ks)).2.1,()⟩:Pc0O))
  (λi=>(⟨ks,cells,(cells.length:Int),(i:Int),role,cl,cells,(runQ role ((cells.zip ks).take i)).1,(runQ role ((cells.zip ks).take i)).2.1,()⟩:Pc0S)) cells.length (by omega) (λi hi=>by
   have hx:=Aa hi;have A:=Aa (l:=ks) (i:=i) (by omega);generalize cells[i]=c at hx;generalize ks[i]=b at A;rw [Jyb hx A,Jm4];obtain ⟨F,E,f,g⟩:=Jj8 role ((cells.zip ks).take i);have w:((cells.zip ks).take i).length=i:=by rw [Aj];omega
   rw [w] at f g;have a:i≠0->ks[i - 1]?=some (runQ role ((cells.zip ks).take i)).2.2:=λd=>by obtain ⟨j,rfl⟩:∃j,i=j+1:=⟨i - 1,by omega⟩;have m:=Aa (l:=cells) (i:=j) (by omega);have y:=Aa (l:=ks) (i:=j) (by omega);rw [F,Jyb m y,Az];simp
   have d:i=0->(runQ role ((cells.zip ks).take i)).2.2=false:=λd=>by subst d;rfl
   generalize runQ role ((cells.zip ks).take i)=s at F E f g a d ⊢;obtain ⟨out,last,pv⟩:=s;have f:out.length<=i:=f;have g:last.length<=i:=g;have a:i≠0->ks[i - 1]?=some pv:=a;have d:i=0->pv=false:=d;unfold Zn;dsimp only;rw [Qw (by omega),ge_s (fg hx),ge_s (fg A),Ks,wr (by omega) (by omega)];have nt1:@W.nt wv true=false:=rfl;have nt0:@W.nt wv false=true:=rfl;cases b with
   | false=>rw [nt0,br_t rfl];rfl
   | true=>
    rw [nt1,br_f rfl];by_cases h:i=0
    ·have ep:=d h;subst ep;rw [br_t (by rw [Xr];simp [h])];exact Jog (γ:=Nx Pc0S Pc0O) role out last (by omega) λX=>some (Nx.go (⟨ks,cells,(cells.length:Int),((i:Int)+1),role,cl,cells,X,[c],()⟩:Pc0S))
    ·rw [br_f (by rw [Xr];simp [h]),Zb,wr (by omega) (by omega),ge_s (fgz (i - 1) (by omega) (a h))];cases pv with
     | false=>
      rw [nt0,br_t rfl];exact Jog (γ:=Nx Pc0S Pc0O) role out last (by omega) λX=>some (Nx.go (⟨ks,cells,(cells.length:Int),((i:Int)+1),role,cl,cells,X,[c],()⟩:Pc0S))
     | true=>
      have o:out≠[]:=E rfl;obtain ⟨r,v,rfl⟩:∃r v,out=r++[v]:=⟨_,_,(List.dropLast_concat_getLast o).symm⟩;have B:(r++[v]).length=r.length+1:=by simp
      rw [B] at f;have G:@W.ar wv .sub .i64 (((r.length+1:Nat):Int)) 1=(r.length:Int):=by rw [Zb,wr (by omega) (by omega)];omega
      rw [nt1,br_f rfl,w_ln,B,G,Jjr ⟨by omega,by omega⟩,ge_s (fg (Jj4 r v)),w_pl,gd_t (by rw [Xr];exact decide_eq_true (by omega)),w_ln,w_pl,Jie (by omega) (by omega),ge_s (fg (Jj4 r v)),gd_t (by rw [Xr];exact decide_eq_true (by omega)),w_st,As];rw [Jho];rfl) (by unfold Zn;dsimp only;rw [Kq (by omega),List.take_of_length_le (by omega)])
 unfold Jam;dsimp only;rw [w_ln];exact (lo_s key).trans rfl
open Classical in
noncomputable def stN(s:List J0×Mb)(t:J0):List J0×Mb:=
 if VT t then (s.1++(if (runO s.2 t.2.2).1=true then [t] else Jk9 t.1 (t.2.2.zip (runO s.2 t.2.2).2.2)),(runO s.2 t.2.2).2.1) else s
noncomputable def Jno(l:List J0):List J0:=(l.foldl stN ([],[])).1
def totT(l:List J0):Nat:=(l.map λt=>t.2.2.length+1).sum
theorem J0w(l:List J0)(t:J0):totT (l++[t])=totT l+(t.2.2.length+1):=by unfold totT;rw [List.map_append,List.sum_append];simp
theorem Jw0:∀l:List J0,l.length<=totT l
 | []=>Af _
 | t::l=>by
  have h:=Jw0 l;have a:totT (t::l)=(t.2.2.length+1)+totT l:=by unfold totT;rw [List.map_cons,List.sum_cons]
  rw [List.length_cons];omega
theorem Jti(l:List J0)(i:Nat):totT (l.take i)<=totT l:=by
 have:totT l=totT (l.take i)+totT (l.drop i):=by unfold totT;rw [<-List.sum_append,<-List.map_append,List.take_append_drop]
 omega
theorem Jm7(role:Int)(l:List (Cell×Bool)):(Jk9 role l).length<=l.length:=by unfold Jk9;rw [Jma];exact (Jj8 role l).2.2.1
theorem stN_len(s:List J0×Mb)(t:J0):(stN s t).1.length<=s.1.length+(t.2.2.length+1):=by
 unfold stN;split
 ·dsimp only;rw [Ab];split
  ·simp
  ·have:=Jm7 t.1 (t.2.2.zip (runO s.2 t.2.2).2.2);rw [Av] at this;omega
 ·omega
theorem Jsl:∀l:List J0,(l.foldl stN ([],[])).1.length<=totT l:=by
 have key:∀(l:List J0) (s:List J0×Mb),(l.foldl stN s).1.length<=s.1.length+totT l:=by
  intro l
  induction l with
  | nil=>intro s;exact Nat.le_add_right _ _
  | cons t l a=>
   intro s;have g:=a (stN s t);have f:=stN_len s t;have d:totT (t::l)=(t.2.2.length+1)+totT l:=by unfold totT;rw [List.map_cons,List.sum_cons]
   rw [List.foldl_cons];omega
 exact λl=>Nat.le_trans (key l ([],[])) (by simp)
theorem fitW{α:Type}{b:Nat}{n:Int}{x:Option α}(h:n<=1000000000000)(d:0<=n)(a:b<=64):@W.gd wv α (@W.ft wv b n) x=x:=by refine gd_ft ⟨?_,by omega⟩;have:n * (b:Int)<=1000000000000 * 64:=Int.mul_le_mul h (by omega) (by omega) (by omega);unfold room;omega
abbrev On0S:=HP (List J0) (HP Int (HP Int (HP Mb (HP (List J0) Unit))))
open Classical in
theorem Once_ok(l:List J0)(hl:totT l<=100000000000)(v:∀t∈l,t.2.2.length<=100000000):@Jcf wv l=some (Jno l):=by
 have y:=Jw0 l;have key:=Ql (b:=@zo wv l) (e:=(⟨Jno l,()⟩:HP (List J0) Unit))
  (λi=>(⟨l,(l.length:Int),(i:Int),((l.take i).foldl stN ([],[])).2,((l.take i).foldl stN ([],[])).1,()⟩:On0S)) l.length (by omega) (λi hi=>by
   have hx:=Aa hi;generalize l[i]=t at hx;have d:=v t (Ag hx);rw [Qc hx,Aq];have a:=Jsl (l.take i);have A:=Jti l i;have w:=Jti l (i+1);rw [Qc hx,J0w] at w;generalize (l.take i).foldl stN ([],[])=s at a ⊢;obtain ⟨out,m⟩:=s;obtain ⟨role,cl,cells⟩:=t;have d:cells.length<=100000000:=d;have a:out.length<=totT (l.take i):=a;have w:totT (l.take i)+(cells.length+1)<=totT l:=w;have es:List.foldl stN (out,m) [(role,(cl,cells))]=stN (out,m) (role,(cl,cells)):=rfl;rw [es];unfold zo;dsimp only;rw [Qw (by omega),ge_s (fg hx),Jpf,Ks,wr (by omega) (by omega)];unfold stN;by_cases f:VT (role,(cl,cells))
   ·have o:=Jy0 l l (l.length:Int) (i:Int) out m role cl cells (by omega);have r:=Jw7 m cells;rw [if_pos f,br_f (by rw [w_nt,decide_eq_true f];rfl),w_ln,gd_t (by rw [w_le];exact decide_eq_true (by omega)),fitB (by omega) (by omega) (by decide),w_rp,As];refine (lo_s o).trans ?_;dsimp only;by_cases g:(runO m cells).1=true
    ·rw [br_t g,if_pos g,w_ln,w_pl,Jie (by omega) (by omega),w_ln,w_pl,fitW (by omega) (by omega) (by decide),w_ap,Ks,wr (by omega) (by omega)];rfl
    ·rw [br_f (by simpa using g),if_neg g];refine (ca_s (c:=jc) (J21 role cl cells (runO m cells).2.2 r (by omega))).trans ?_;have h:=Jm7 role (cells.zip (runO m cells).2.2);rw [Av] at h;rw [w_ln,w_ln,w_pl,fitW (by omega) (by omega) (by decide),w_ap,Ks,wr (by omega) (by omega)];rfl
   ·rw [if_neg f,br_t (by rw [w_nt,decide_eq_false f];rfl)];rfl) (by unfold zo;dsimp only;rw [Kq (by omega),Ak];rfl)
 unfold Jcf;rw [w_ln];exact (lo_s key).trans rfl
end Go.Proofs.YtmfagdfkpjgeiaaGreat
