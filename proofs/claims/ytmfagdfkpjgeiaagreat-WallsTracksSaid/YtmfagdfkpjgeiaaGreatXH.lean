/- What runs.Union of the program says. Conditions: valid lists. -/
import Derived.Test.YtmfagdfkpjgeiaaGreatXD
import Derived.Test.YtmfagdfkpjgeiaaGreatXG
import Derived.Test.YtmfagdfkpjgeiaaGreatXF
set_option linter.unusedVariables false
set_option linter.unusedSimpArgs false
set_option linter.unusedSectionVars false
set_option maxRecDepth 100000
namespace Go.Proofs.YtmfagdfkpjgeiaaGreat
open Go Go.Vv Go.Dn Go.Dn.W
open List renaming getElem?_eq_getElem -> Aa, length_append -> Ab, mem_append -> Ac, replicate -> Ad, mem_singleton -> Ae, mem_of_getElem? -> Ag, getElem?_eq_some_iff -> Ah, length_map -> Ai, length_take -> Aj, take_length -> Ak, not_mem_nil -> Am, mem_map -> Ao, getElem?_append_right -> Ap, foldl_append -> Aq, length_zip -> Av, getElem?_eq_none -> Aw, concat_eq_append -> Ax, length_replicate -> Ay, getLast?_concat -> Az, length_pos_iff -> Ba, replicate_succ -> Bb
open Nat renaming le_refl -> Af, le_succ_of_le -> Ar, sub_self -> Au
open Int renaming toNat_natCast -> As
def uJ(was:Bool)(a:List Run)(i:Nat)(b:List Run)(j:Nat)(out:List Run):HP Bool (HP (List (Int×Int)) (HP Int (HP (List (Int×Int)) (HP Int (HP (List (Int×Int)) Unit))))):=
 let m:=min (bnd a i) (bnd b j);let f:=if bnd a i=m then i+1 else i;let d:=if bnd b j=m then j+1 else j;let now:=decide (f % 2=1) || decide (d % 2=1)
 ⟨now,a,(f:Int),b,(d:Int),if now=true/\was=false then out++[(m,0)] else if now=false/\was=true then Zw out (λu=>(u.1,m)) else out,()⟩
theorem Nn(was:Bool)(a b out:List Run)(i j:Nat)(y:a.length<=1000000000)(w:b.length<=1000000000)(hi:i<=2 * a.length)(K:j<=2 * b.length)(P:out.length<=1000000000)(G:was=true->out≠[])(l:¬(i=2 * a.length/\j=2 * b.length)) :
  @mH wv ⟨was,a,(i:Int),b,(j:Int),out,()⟩=some (.go (uJ was a i b j out)):=by
 have M:@rZ wv ⟨was,a,(i:Int),b,(j:Int),out,()⟩=some (.inl ⟨was,a,(i:Int),b,(j:Int),out,()⟩):=by
  unfold rZ;dsimp only;rw [NG y];by_cases A:i=2 * a.length
  ·rw [AU (by simp [BQ,A]),NG w,BA (by simp [BQ];exact λq=>l ⟨A,q⟩)]
  ·rw [BA (by simp [BQ,A])]
 generalize J:min (bnd a i) (bnd b j)=m;have F:@Jfv wv ⟨was,a,(i:Int),b,(j:Int),out,()⟩ (bnd a i) (bnd b j)=some ⟨was,m,a,((if bnd a i=m then i+1 else i:Nat):Int),b,(j:Int),out,()⟩:=by
  unfold Jfv;dsimp only;rw [NY y hi,J88,J,J3,wr (by omega) (by omega)];by_cases c:bnd a i=m
  ·rw [BA (by rw [Qn];simp [c]),if_pos c];rfl
  ·rw [AU (by rw [Qn];simp [c]),if_neg c]
 generalize r:(if bnd a i=m then i+1 else i)=d at F;have E:@Jfw wv ⟨was,m,a,(d:Int),b,(j:Int),out,()⟩=some ⟨was,m,a,(d:Int),b,((if bnd b j=m then j+1 else j:Nat):Int),out,()⟩:=by
  unfold Jfw;dsimp only;rw [NY w K,J3,wr (by omega) (by omega)];by_cases c:bnd b j=m
  ·rw [BA (by rw [Qn];simp [c]),if_pos c];rfl
  ·rw [AU (by rw [Qn];simp [c]),if_neg c]
 generalize o:(if bnd b j=m then j+1 else j)=f at E;have B:@Jfh wv ⟨was,m,a,(d:Int),b,(f:Int),out,()⟩=some ⟨was,m,decide (d % 2=1) || decide (f % 2=1),a,(d:Int),b,(f:Int),out,()⟩:=by
  unfold Jfh;dsimp only;rw [jJ,jJ];by_cases c:d % 2=1
  ·rw [BA (by simp [c])];simp [c,BQ]
  ·rw [AU (by simp [c])];simp [c]
 generalize g:(decide (d % 2=1) || decide (f % 2=1))=now at B;have h:∀ {α:Type} (x:Option α),@W.gd wv α (@W.ft wv 16 (@W.pl wv (@W.ln wv (Int×Int) out) 1)) x=x:=λx=>by rw [AO,BX];exact FH (by omega) (by omega)
 have L:@Jfm wv ⟨was,m,now,a,(d:Int),b,(f:Int),out,()⟩=some ⟨now,a,(d:Int),b,(f:Int),if now=true/\was=false then out++[(m,0)] else if now=false/\was=true then Zw out (λu=>(u.1,m)) else out,()⟩:=by
  unfold Jfm;dsimp only;rw [h];have nt1:@W.nt wv true=false:=rfl;have nt0:@W.nt wv false=true:=rfl;cases now with
  | true=>
   cases was with
   | true=>rw [nt1,BA rfl,AU rfl,AU rfl,if_neg (by simp),if_neg (by simp)]
   | false=>rw [nt0,BA rfl,BA rfl,if_pos (by simp),CV]
  | false=>
   cases was with
   | false=>rw [nt0,AU rfl,BA rfl,AU rfl,if_neg (by simp),if_neg (by simp)]
   | true=>
    have H:=Ba.2 (G rfl);obtain ⟨v,N,O⟩:=Jmo (G rfl) m;rw [nt0,AU rfl,BA rfl,BA rfl,AO,Xo,wr (by omega) (by omega),FQ ⟨by omega,by omega⟩,AP (Im (out.length - 1) (by omega) N),if_neg (by simp),if_pos (by simp),GN,show ((out.length:Int) - 1).toNat=out.length - 1 by omega,O]
 unfold mH;rw [DW M];dsimp only;rw [NY y hi,NY w K,DW F,DW E,DW B,DW L];unfold uJ;dsimp only;rw [J,r,o,g]
def gJ(a b:List Run)(p:Int)(was:Bool)(i j:Nat)(out:List Run):Prop:=
 At a p i/\At b p j/\was=(decide (i % 2=1) || decide (j % 2=1)) /\
 ((was=false/\Io out/\(∀u∈out,u.2<=p)/\∀x,x<p->(Jf out x↔Jf a x\/Jf b x)) \/
  ∃(o:List Run) (s z:Int),out=o++[(s,z)]/\was=true/\s<=p/\Io o/\(∀u∈o,u.2<s)/\(∀x,x<s->(Jf o x↔Jf a x\/Jf b x))/\∀x,s<=x->x<=p->Jf a x\/Jf b x)
theorem UD{a b:List Run}(R:AJ (-1048576) 1048576 a)(Q:AJ (-1048576) 1048576 b){p:Int}{was:Bool}{i j:Nat}{out:List Run}(hI:gJ a b p was i j out)(N:¬(i=2 * a.length/\j=2 * b.length)) :
  ∃m,p<m/\∃(was':Bool) (H G:Nat) (out':List Run),uJ was a i b j out=⟨was',a,(H:Int),b,(G:Int),out',()⟩/\gJ a b m was' H G out'/\i+j<H+G/\out'.length<=out.length+1:=by
 obtain ⟨hA,hB,Z,hO⟩:=hI;have B:min (bnd a i) (bnd b j)<1048577:=by
  have Y:i<2 * a.length->bnd a i<1048577:=λq=>by have d:=Aa (l:=a) (i:=i / 2) (by omega);have:=R.bd _ (Ag d);simp only [bnd,d];split<;>omega
  have F:j<2 * b.length->bnd b j<1048577:=λq=>by have d:=Aa (l:=b) (i:=j / 2) (by omega);have:=Q.bd _ (Ag d);simp only [bnd,d];split<;>omega
  have w:=hA.1;have E:=hB.1;have L:i<2 * a.length\/j<2 * b.length:=by omega
  rcases L with L|L
  ·have:=Y L;omega
  ·have:=F L;omega
 have hp1:p<bnd a i:=by
  rcases hA.2.2 i (Af _) with h|h
  ·exact h
  ·have e:a[i / 2]?=none:=Aw (by omega);have:p<1048577:=by
    have q:At b p j:=hB;by_cases F:j<2 * b.length
    ·rcases hB.2.2 j (Af _) with h'|h'
     ·have:=NW Q j;omega
     ·omega
    ·exact (N ⟨by have:=hA.1;omega,by have:=hB.1;omega⟩).elim
   simp only [bnd,e];exact this
 have hp2:p<bnd b j:=by
  rcases hB.2.2 j (Af _) with h|h
  ·exact h
  ·have e:b[j / 2]?=none:=Aw (by omega);have:p<1048577:=by have:=NW R i;omega
   simp only [bnd,e];exact this
 generalize A:min (bnd a i) (bnd b j)=m at B;have y:p<m:=by omega
 obtain ⟨hA',hAx⟩:=kX R hA (m:=m) (by omega) y B;obtain ⟨hB',hBx⟩:=kX Q hB (m:=m) (by omega) y B;refine ⟨m,y,_,_,_,_,by unfold uJ;rw [A],?_,?_,?_⟩
 ·refine ⟨hA',hB',rfl,?_⟩;have hAm:=Sk hA';have hBm:=Sk hB';generalize (if bnd a i=m then i+1 else i)=H at *
  generalize (if bnd b j=m then j+1 else j)=G at *
  have hD:∀x,p<=x->x<m->(Jf a x\/Jf b x↔was=true):=λx w E=>by rw [hAx x w E,hBx x w E,Z];simp
  have hDm:Jf a m\/Jf b m↔(decide (H % 2=1) || decide (G % 2=1))=true:=by rw [hAm,hBm];simp
  generalize (decide (H % 2=1) || decide (G % 2=1))=now at *
  rcases hO with ⟨M,K,g,J⟩|⟨o,s,z,rfl,M,hs,K,g,J,X⟩
  ·subst M;cases now with
   | false=>
    left;rw [if_neg (by simp),if_neg (by simp)];refine ⟨rfl,K,λu d=>by have:=g u d;omega,λx hx=>?_⟩;by_cases q:x<p
    ·exact J x q
    ·rw [hD x (by omega) hx];refine ⟨λ⟨u,d,w,E⟩=>by have:=g u d;omega,λh=>by simp at h⟩
   | true=>
    right;rw [if_pos (by simp)];refine ⟨out,m,0,rfl,rfl,Int.le_refl _,K,λu d=>by have:=g u d;omega,λx hx=>?_,λx w E=>?_⟩
    ·by_cases q:x<p
     ·exact J x q
     ·rw [hD x (by omega) hx];refine ⟨λ⟨u,d,w,E⟩=>by have:=g u d;omega,λh=>by simp at h⟩
    ·have:x=m:=by omega
     subst this;exact hDm.2 rfl
  ·subst M;cases now with
   | true=>
    right;rw [if_neg (by simp),if_neg (by simp)];refine ⟨o,s,z,rfl,rfl,by omega,K,g,J,λx w E=>?_⟩;by_cases q:x<=p
    ·exact X x w q
    ·by_cases F:x=m
     ·subst F;exact hDm.2 rfl
     ·exact (hD x (by omega) (by omega)).2 rfl
   | false=>
    left;rw [if_neg (by simp),if_pos (by simp),ze];refine ⟨rfl,bA.2 ⟨K,by dsimp only;omega,g⟩,λu d=>?_,λx hx=>?_⟩
    ·rcases Ac.1 d with h|h
     ·have:=g u h;omega
     ·rw [Ae.1 h];exact Int.le_refl _
    ·rw [Jl7];dsimp only;by_cases q:x<s
     ·rw [J x q];exact ⟨λh=>h.resolve_right λh=>by omega,.inl⟩
     ·have P:Jf a x\/Jf b x:=by
       by_cases F:x<=p
       ·exact X x (by omega) F
       ·exact (hD x (by omega) hx).2 rfl
      exact ⟨λ_=>P,λ_=>.inr ⟨by omega,hx⟩⟩
 ·by_cases q:bnd a i=m
  ·rw [if_pos q];split<;>omega
  ·have:bnd b j=m:=by omega
   rw [if_pos this];split<;>omega
 ·have O:∀(l:List Run) (f:Run->Run),(Zw l f).length=l.length:=λl f=>by
   rcases l.eq_nil_or_concat with rfl|⟨r,v,rfl⟩
   ·rfl
   ·rw [Ax,ze];simp
  have key:∀nw ws:Bool,(if nw=true/\ws=false then out++[(m,0)] else if nw=false/\ws=true then Zw out (λu=>(u.1,m)) else out).length<=out.length+1:=λnw ws=>by cases nw<;>cases ws<;>simp [O]
  exact key _ _
theorem Np(a b:List Run)(Q:a.length<=100000000)(P:b.length<=100000000)(y:AJ (-1048576) 1048576 a)(w:AJ (-1048576) 1048576 b) :
  ∃e,X0 (@mH wv) CU ⟨false,a,0,b,0,[],()⟩=some e/\Io e.e/\∀x,Jf e.e x↔Jf a x\/Jf b x:=by
 refine iW (b:=@mH wv) (λs=>∃(p:Int) (was:Bool) (i j:Nat) (out:List Run),s=⟨was,a,(i:Int),b,(j:Int),out,()⟩/\gJ a b p was i j out/\out.length<=i+j)
  (λe=>Io e.e/\∀x,Jf e.e x↔Jf a x\/Jf b x) (λs=>(2 * (a.length:Int)+2 * (b.length:Int) - s.j.j.e - s.j.j.j.j.e).toNat) ?_ ⟨-1048577,false,0,0,[],rfl,⟨⟨by omega,by omega,λk d=>?_⟩,⟨by omega,by omega,λk d=>?_⟩,rfl,.inl ⟨rfl,⟨by simp,.nil⟩,by simp,λx hx=>?_⟩⟩,by simp⟩ (by dsimp only;omega)
 ·rintro s ⟨p,was,i,j,out,rfl,hI,Y⟩;have B:=hI.1.1;have A:=hI.2.1.1;by_cases g:i=2 * a.length/\j=2 * b.length
  ·right;obtain ⟨rfl,rfl⟩:=g;have J:@rZ wv ⟨was,a,((2 * a.length:Nat):Int),b,((2 * b.length:Nat):Int),out,()⟩=some (.inr ⟨out,()⟩):=by unfold rZ;dsimp only;rw [NG (by omega),AU (by simp [BQ]),NG (by omega),AU (by simp [BQ])]
   unfold mH;rw [DW J];refine ⟨_,rfl,?_⟩;obtain ⟨hA,hB,M,hO⟩:=hI;have v:was=false:=by rw [M];simp
   rcases hO with ⟨l,H,G,F⟩|⟨o,s,z,rfl,l,-⟩
   ·refine ⟨H,λx=>?_⟩;by_cases q:x<p
    ·exact F x q
    ·refine ⟨λ⟨u,f,r,Z⟩=>by have:=G u f;omega,λh=>?_⟩;rcases h with r|r
     ·have:At a x (2 * a.length):=⟨Af _,λk d=>by have:=hA.2.1 k d;omega,λk d=>.inr d⟩;have:=(Sk this).1 r;omega
     ·have:At b x (2 * b.length):=⟨Af _,λk d=>by have:=hB.2.1 k d;omega,λk d=>.inr d⟩;have:=(Sk this).1 r;omega
   ·rw [v] at l;cases l
  ·left;obtain ⟨m,N,was',L,K,out',e,hI',O,E⟩:=UD y w hI g;refine ⟨_,Nn was a b out i j (by omega) (by omega) B A (by omega) (λq=>?_) g,?_,?_⟩
   ·rcases hI.2.2.2 with ⟨l,-⟩|⟨o,s,z,rfl,-⟩
    ·rw [l] at q;cases q
    ·simp
   ·rw [e];exact ⟨m,was',L,K,out',rfl,hI',by omega⟩
   ·rw [e];have X:=hI'.1.1;have R:=hI'.2.1.1;dsimp only;omega
 ·by_cases q:2 * a.length<=k
  ·exact .inr q
  ·left;have:=NW y k;omega
 ·by_cases q:2 * b.length<=k
  ·exact .inr q
  ·left;have:=NW w k;omega
 ·constructor
  ·rintro ⟨u,f,-⟩;cases f
  ·rintro (⟨u,f,B,A⟩|⟨u,f,B,A⟩)
   ·have:=y.bd u f;omega
   ·have:=w.bd u f;omega
open Classical in
theorem Sb(a b:List Run)(f:a.length<=100000000)(d:b.length<=100000000)(h:AJ (-1048576) 1048576 a)(g:AJ (-1048576) 1048576 b) :
  ∃l,@xG wv (a,b)=some l/\Io l/\∀x,Jf l x↔Jf a x\/Jf b x:=by obtain ⟨e,m,r,o⟩:=Np a b f d h g;refine ⟨e.e,?_,r,o⟩;unfold xG;dsimp only;rw [bF (by omega),AU (by simp [BQ,h]),bF (by omega),AU (by simp [BQ,g])];exact BL m
theorem Juy{b:XJ->Option (Nx XJ gW)}(g:b=@Zo wv)(A B:AY)(idx:Int)(cur d a:AY)(ys:List Int)(l:cur.length<=100000000)(h:ys.length<=100000000) :
  X0 b CU (⟨A,B,idx,cur,(cur.length:Int),0,d,a,ys,()⟩:XJ)=some (⟨A,B,idx,d,a,ys++cur.map (·.1),()⟩:gW):=by
 subst g;have key:=Ki (b:=@Zo wv) (e:=(⟨A,B,idx,d,a,ys++cur.map (·.1),()⟩:gW)) (λi=>(⟨A,B,idx,cur,(cur.length:Int),(i:Int),d,a,ys++(cur.take i).map (·.1),()⟩:XJ)) cur.length (by omega) (λi hi=>by
  have f:=Aa hi;generalize cur[i]=w at f;unfold Zo;dsimp only;rw [J5 (by omega),AP (fg f),AO,BX,Ei (by rw [Ab,Ai,Aj];omega) (by omega) (by decide),J3,wr (by omega) (by omega),CV,wV f,List.append_assoc];rfl) (by unfold Zo;dsimp only;rw [Jr (by omega),Ak])
 simpa using key
theorem bU:@Jg8 wv=@Zo wv:=rfl
theorem J5l(a b:AY)(l:a.length<=10000000)(h:b.length<=10000000) :
  X0 (@Qf wv) CU (⟨a,b,0,a,b,[],()⟩:Lg)=some (⟨a,b,a.map (·.1)++b.map (·.1),()⟩:HP AY (HP AY (HP (List Int) Unit))):=by
 have s0:@Qf wv (⟨a,b,0,a,b,[],()⟩:Lg)=some (.go (⟨a,b,1,a,b,a.map (·.1),()⟩:Lg)):=by unfold Qf;dsimp only;have d:=Juy rfl a b 0 a a b [] (by omega) (by simp);rw [J5 (by decide),BA (by rfl),AO];refine (BL d).trans ?_;rfl
 have g:@Qf wv (⟨a,b,1,a,b,a.map (·.1),()⟩:Lg)=some (.go (⟨a,b,2,a,b,a.map (·.1)++b.map (·.1),()⟩:Lg)):=by
  unfold Qf;dsimp only;have d:=Juy bU a b 1 b a b (a.map (·.1)) (by omega) (by rw [Ai];omega);generalize a.map (·.1)=m at *
  generalize b.map (·.1)=n at *
  rw [J5 (by decide),AU (by rw [Qn];rfl),BA (by rw [Qn];rfl),AO];refine (BL d).trans ?_;rfl
 have f:@Qf wv (⟨a,b,2,a,b,a.map (·.1)++b.map (·.1),()⟩:Lg)=some (.out (⟨a,b,a.map (·.1)++b.map (·.1),()⟩:HP AY (HP AY (HP (List Int) Unit)))):=by unfold Qf;dsimp only;rw [Jr (by decide)]
 exact Ki (b:=@Qf wv) (λi=>match i with
  | 0=>(⟨a,b,0,a,b,[],()⟩:Lg)
  | 1=>⟨a,b,1,a,b,a.map (·.1),()⟩
  | _=>⟨a,b,2,a,b,a.map (·.1)++b.map (·.1),()⟩) 2 (by decide) (λi hi=>by
  rcases (show i=0\/i=1 by omega) with rfl|rfl
  ·exact s0
  ·exact g) f
theorem Js0(a b:AY)(H:AL a)(G:AL b)(M:DF a)(L:DF b):∃U,@xR wv (a,b)=some U/\AL U/\∀c,Qo U c↔(Qo a c\/Qo b c):=by
 classical
 have hna:=Tg H;have hnb:=Tg G;obtain ⟨ys,hs1,hs2,P⟩:=OD (a.map (·.1)++b.map (·.1)) (by rw [Ab,Ai,Ai];omega);obtain ⟨X,R⟩:=J52 ys hs2;have o:∀y∈Cw ys,-4096<=y/\y<4096:=λy Y=>by
  rw [R,P,Ac,Ao,Ao] at Y;rcases Y with ⟨w,f,rfl⟩|⟨w,f,rfl⟩
  ·exact H.y w f
  ·exact G.y w f
 have Q:∀c:Cell,Qo a c\/Qo b c->c.2∈Cw ys:=λc h=>by
  rw [R,P,Ac];rcases h with ⟨w,f,e,_⟩|⟨w,f,e,_⟩
  ·exact .inl (Ao.2 ⟨w,f,e⟩)
  ·exact .inr (Ao.2 ⟨w,f,e⟩)
 have hyl:(Cw ys).length<=8192:=by
  have B:((Cw ys).map λy=>(y+4096).toNat).Nodup:=List.pairwise_map.2 ((List.Pairwise.and_mem.1 X).imp λ{x z} ⟨hx,F,hxz⟩ e=>by have:=o x hx;have:=o z F;omega)
  have:=wE (n:=8192) B λx hx=>by obtain ⟨u,K,rfl⟩:=Ao.1 hx;have:=o u K;omega
  rwa [Ai] at this
 generalize hzs:Cw ys=zs at *
 have row8:∀ {r:AY},AL r->∀y,AJ (-4096) 4096 (JN r y):=λ{r} h y=>by
  unfold JN;split
  ·rename_i w f;exact h.rs w (List.mem_of_find?_eq_some f)
  ·exact ⟨by simp,.nil⟩
 obtain ⟨e,he,U,rfl,B,N⟩:=Xr (b:=@sI wv)
  (λi s=>∃E,s=(⟨zs,(zs.length:Int),(i:Int),a,b,E,()⟩:gM)/\AL E/\(∀c,Qo E c↔c.2∈zs.take i/\(Qo a c\/Qo b c))/\∀v∈E,v.1∈zs.take i)
  (λe=>∃E,e=(⟨E,()⟩:HP AY Unit)/\AL E/\∀c,Qo E c↔(Qo a c\/Qo b c))
  zs.length (by omega) (s0:=⟨zs,(zs.length:Int),0,a,b,[],()⟩)
  ⟨[],rfl,⟨by simp,.nil,by simp,by simp⟩,λc=>⟨λ⟨w,f,_⟩=>(Am f).elim,λ⟨h,_⟩=>by rw [List.take_zero] at h;exact (Am h).elim⟩,λv J=>(Am J).elim⟩
  (λi s hi=>by
   rintro ⟨E,rfl,B,N,h3⟩;have F:=Aa hi;generalize zs[i]=y at F;have hym:=Ag F;have Y:=o y hym;have r1:=row8 H y;have r2:=row8 G y;obtain ⟨l,q1,q2,q3⟩:=Sb (JN a y) (JN b y) (by have:=Xv r1;omega) (by have:=Xv r2;omega) (J3x H y) (J3x G y);have O:AJ (-4096) 4096 l:=vC q2 λx hx=>by
    rcases (q3 x).1 hx with ⟨u,K,d,m⟩|⟨u,K,d,m⟩
    ·have:=r1.bd u K;omega
    ·have:=r2.bd u K;omega
   have q4:∀x,Jf l x↔Qo a (x,y)\/Qo b (x,y):=λx=>by rw [q3,<-Jrx H (x,y),<-Jrx G (x,y)]
   have hll:=Xv O;have hEl:=Tg B;have Z:=Ka F;have e3:@W.ar wv .add .i64 (i:Int) 1=((i+1:Nat):Int):=by rw [J3,wr (by omega) (by omega)];omega
   have hlt:∀v∈E,v.1<y:=λv J=>by obtain ⟨j,hj⟩:=List.getElem?_of_mem (h3 v J);have hjl:=(Ah.1 hj).1;rw [Aj] at hjl;rw [List.getElem?_take_of_lt (by omega)] at hj;obtain ⟨p1,e1⟩:=Ah.1 hj;obtain ⟨p2,e2⟩:=Ah.1 F;have:=List.pairwise_iff_getElem.1 X j i p1 p2 (by omega);rwa [e1,e2] at this
   by_cases A:l=[]
   ·refine ⟨(⟨zs,(zs.length:Int),((i+1:Nat):Int),a,b,E,()⟩:gM),?_,E,rfl,B,λc=>?_,λv J=>?_⟩
    ·unfold sI;dsimp only;rw [J5 (by omega),AP (fg F),xC M H,xC L G];refine (BH (c:=bB) q1).trans ?_;rw [AU (by rw [z7,AO,A];rfl),e3]
    ·rw [N,Z,Ac,Ae];constructor
     ·rintro ⟨d,m⟩;exact ⟨.inl d,m⟩
     ·rintro ⟨d|d,m⟩
      ·exact ⟨d,m⟩
      ·have:=(q4 c.1).2 (by rw [<-d];exact m);rw [A] at this;obtain ⟨u,K,_⟩:=this;exact (Am K).elim
    ·rw [Z];exact Ac.2 (.inl (h3 v J))
   ·have hp:=Ba.2 A;refine ⟨(⟨zs,(zs.length:Int),((i+1:Nat):Int),a,b,E++[(y,l)],()⟩:gM),?_,_,rfl,Jvx (w:=(y,l)) B Y A O hlt,λc=>?_,λv J=>?_⟩
    ·unfold sI;dsimp only;rw [J5 (by omega),AP (fg F),xC M H,xC L G];refine (BH (c:=bB) q1).trans ?_;rw [BA (by rw [z7,AO];exact decide_eq_true (by omega))];refine (BH (c:=K1) (J2x l (by omega))).trans ?_;rw [AO,BX,jG (by omega) (by omega),CV,e3]
    ·rw [J1n,N,Z,Ac,Ae];constructor
     ·rintro (⟨d,m⟩|⟨e,g⟩)
      ·exact ⟨.inl d,m⟩
      ·have e:y=c.2:=e;have:=(q4 c.1).1 g;rw [e] at this;exact ⟨.inr e.symm,this⟩
     ·rintro ⟨d|d,m⟩
      ·exact .inl ⟨d,m⟩
      ·exact .inr ⟨d.symm,(q4 c.1).2 (by rw [<-d];exact m)⟩
    ·rw [Z];rcases Ac.1 J with q|q
     ·exact Ac.2 (.inl (h3 v q))
     ·rw [Ae] at q;subst q;exact Ac.2 (.inr (Ae.2 rfl)))
  (by
   rintro s ⟨E,rfl,B,N,h3⟩;refine ⟨_,?_,E,rfl,B,λc=>?_⟩
   ·unfold sI;dsimp only;rw [Jr (by omega)]
   ·rw [N,Ak];exact ⟨And.right,λg=>⟨Q c g,g⟩⟩)
 refine ⟨U,?_,B,N⟩;unfold xR;dsimp only;rw [rX M,AU (by simp [BQ,H]),rX L,AU (by simp [BQ,G])];refine (BL (J5l a b (by omega) (by omega))).trans ?_;dsimp only;refine (BH (c:=J3f) hs1).trans ((BH (c:=Jtr) (a:=ys) (r:=Cw ys) rfl).trans ?_);rw [hzs,AO];exact (BL he).trans rfl
abbrev Mb:=List (Cell×Bool)
def FI:Mb->Cell->Bool
 | [],_=>false
 | e::r,c=>if c=e.1 then e.2 else FI r c
def FK:Mb->Cell->Mb
 | [],c=>[(c,true)]
 | e::r,c=>if c=e.1 then (c,true)::r else e::FK r c
theorem WB(m:Mb)(c:Cell):@W.mg wv (.p I I) .bool m c false=FI m c:=by
 show (FJ (a:=.p I I) (b:=.bool) c m).getD false=_
 induction m with
 | nil=>rfl
 | cons e r d=>
  show _=if c=e.1 then e.2 else FI r c;by_cases h:c=e.1
  ·have hd:Ty.FE (.p I I) c e.1=true:=by rw [gZ];exact decide_eq_true h
   rw [if_pos h];exact congrArg (λo:Option Bool=>o.getD false) (show FJ (a:=.p I I) (b:=.bool) c (e::r)=some e.2 from if_pos hd)
  ·have hd:¬Ty.FE (.p I I) c e.1=true:=by rw [gZ];exact λf=>h (of_decide_eq_true f)
   rw [if_neg h,<-d];exact congrArg (λo:Option Bool=>o.getD false) (show FJ (a:=.p I I) (b:=.bool) c (e::r)=FJ (a:=.p I I) (b:=.bool) c r from if_neg hd)
theorem VY(m:Mb)(c:Cell):@W.ms wv (.p I I) .bool m c true=FK m c:=by
 show Fg (a:=.p I I) (b:=.bool) c true m=_
 induction m with
 | nil=>rfl
 | cons e r d=>
  show (if Ty.FE (.p I I) c e.1=true then (c,true)::r else e::Fg (a:=.p I I) (b:=.bool) c true r)=if c=e.1 then (c,true)::r else e::FK r c;rw [gZ];by_cases h:c=e.1
  ·rw [if_pos (decide_eq_true h),if_pos h]
  ·rw [if_neg (by simpa using h),if_neg h];exact congrArg (e::·) d
theorem OO(m:Mb)(c d:Cell):FI (FK m c) d=(decide (d=c) || FI m d):=by
 induction m with
 | nil=>unfold FK FI;by_cases h:d=c<;>simp [h,FI]
 | cons e r f=>
  unfold FK;by_cases h:c=e.1
  ·rw [if_pos h];unfold FI;by_cases a:d=c
   ·simp [a]
   ·have:d≠e.1:=λq=>a (q.trans h.symm);simp [a,this]
  ·rw [if_neg h];unfold FI;by_cases a:d=e.1
   ·have:d≠c:=λq=>h (q.symm.trans a);simp only [if_pos a,decide_eq_false this,Bool.false_or]
   ·rw [if_neg a,if_neg a,f]
def tJ(s:Bool×Mb×List Bool)(c:Cell):Bool×Mb×List Bool:=(s.1&&!FI s.2.1 c,FK s.2.1 c,s.2.2++[!FI s.2.1 c])
def BJ(m:Mb)(l:List Cell):Bool×Mb×List Bool:=l.foldl tJ (true,m,[])
theorem rC(m:Mb)(l:List Cell)(c:Cell):BJ m (l++[c])=tJ (BJ m l) c:=by unfold BJ;rw [Aq];rfl
theorem qm(m:Mb):∀l:List Cell,(BJ m l).2.2.length=l.length:=λl=>by
 have key:∀(l:List Cell) (s:Bool×Mb×List Bool),(l.foldl tJ s).2.2.length=s.2.2.length+l.length:=by
  intro l
  induction l with
  | nil=>intro s;rfl
  | cons c l a=>
   intro s;have e:(tJ s c).2.2.length=s.2.2.length+1:=by show (s.2.2++[!FI s.2.1 c]).length=_;rw [Ab];rfl
   rw [List.foldl_cons,a,e,List.length_cons];omega
 exact (key l (true,m,[])).trans (Nat.zero_add _)
abbrev oW:=HP Bool (HP (List Jt) (HP Int (HP Int (HP (List Cell) (HP Int (HP Int (HP (List Jt) (HP Mb (HP Int (HP Bool (HP (List Cell) (HP (List Bool) Unit))))))))))))
abbrev oZ:=HP Bool (HP (List Jt) (HP Int (HP Int (HP (List Jt) (HP Mb (HP Int (HP Bool (HP (List Cell) (HP (List Bool) Unit)))))))))
theorem J6m(a l:List Jt)(n j:Int)(out:List Jt)(m:Mb)(role:Int)(cl:Bool)(cells:List Cell)(B:cells.length<=1000000000) :
  X0 (@rY wv a) CU (⟨true,l,n,j,cells,(cells.length:Int),0,out,m,role,cl,cells,Ad cells.length false,()⟩:oW) =
   some (⟨(BJ m cells).1,l,n,j,out,(BJ m cells).2.1,role,cl,cells,(BJ m cells).2.2,()⟩:oZ):=by
 have key:=Ki (b:=@rY wv a) (e:=(⟨(BJ m cells).1,l,n,j,out,(BJ m cells).2.1,role,cl,cells,(BJ m cells).2.2,()⟩:oZ))
  (λi=>(⟨(BJ m (cells.take i)).1,l,n,j,cells,(cells.length:Int),(i:Int),out,(BJ m (cells.take i)).2.1,role,cl,cells,(BJ m (cells.take i)).2.2++Ad (cells.length - i) false,()⟩:oW)) cells.length (by omega) (λi hi=>by
   have hx:=Aa hi;have d:=qm m (cells.take i);rw [Aj,Nat.min_eq_left (by omega)] at d;have f:=Ka hx;generalize cells[i]=c at hx f;obtain ⟨x,y⟩:=c;rw [f,rC];generalize BJ m (cells.take i)=s at d ⊢;obtain ⟨al,mm,ks⟩:=s;have d:ks.length=i:=d;have A:@W.nt wv (@W.mg wv (.p I I) .bool mm (x,y) false)=!FI mm (x,y):=congrArg (λb:Bool=>!b) (WB mm (x,y));have w:@W.ms wv (.p I I) .bool mm (x,y) true=FK mm (x,y):=VY mm (x,y);have hr:cells.length - i=(cells.length - (i+1))+1:=by omega
   have v:(ks++Ad (cells.length - i) false).set i (!FI mm (x,y))=(ks++[!FI mm (x,y)])++Ad (cells.length - (i+1)) false:=by rw [hr,Bb,List.set_append_right _ _ (by omega),d,Au,List.set_cons_zero,List.append_assoc];rfl
   have r:(ks++Ad (cells.length - i) false)[i]?=some false:=by rw [Ap (by omega),hr,Bb,d,Au];rfl
   have o:((ks++[!FI mm (x,y)])++Ad (cells.length - (i+1)) false)[i]?=some (!FI mm (x,y)):=by rw [List.getElem?_append_left (by simp;omega),Ap (by omega),d,Au];rfl
   have h:(ks++Ad (cells.length - i) false).length=cells.length:=by rw [Ab,Ay];omega
   have g:((ks++[!FI mm (x,y)])++Ad (cells.length - (i+1)) false).length=cells.length:=by rw [Ab,Ab,Ay];simp;omega
   unfold rY;dsimp only;rw [J5 (by omega),AP (fg hx)];dsimp only;rw [A,w,GN,show ((i:Int)).toNat=i by omega,v,AO,h,FQ ⟨by omega,by omega⟩,AP (fg r),J3,wr (by omega) (by omega),AO,g];cases al with
   | true=>rw [BA rfl,FQ ⟨by omega,by omega⟩,AP (fg o)];rfl
   | false=>rw [AU rfl];rfl) (by unfold rY;dsimp only;rw [Jr (by omega),Ak,Au,List.replicate_zero,List.append_nil])
 exact key
def JO(out:List Jt)(last:List Cell):List Jt:=Zw out λy=>(y.1,(y.2.1,last))
def bV(role:Int)(s:List Jt×List Cell×Bool)(p:Cell×Bool):List Jt×List Cell×Bool:=
 match p.2,s.2.2 with
 | false,_=>(s.1,s.2.1,false)
 | true,false=>(JO s.1 s.2.1++[(role,(false,[]))],[p.1],true)
 | true,true=>(s.1,s.2.1++[p.1],true)
def Ca(role:Int)(l:List (Cell×Bool)):List Jt×List Cell×Bool:=l.foldl (bV role) ([],[],false)
theorem rE(role:Int)(l:List (Cell×Bool))(p:Cell×Bool):Ca role (l++[p])=bV role (Ca role l) p:=by unfold Ca;rw [Aq];rfl
theorem wD(out:List Jt)(last:List Cell):(JO out last).length=out.length:=by
 unfold JO;rcases out.eq_nil_or_concat with rfl|⟨r,v,rfl⟩
 ·rfl
 ·rw [Ax,ze];simp
theorem qj(role:Int)(l:List (Cell×Bool)):(Ca role l).2.2=(l.getLast?.map (·.2)).getD false/\((Ca role l).2.2=true->(Ca role l).1≠[])/\(Ca role l).1.length<=l.length/\(Ca role l).2.1.length<=l.length:=by
 have key:∀m:List (Cell×Bool),(Ca role m.reverse).2.2=(m.reverse.getLast?.map (·.2)).getD false/\((Ca role m.reverse).2.2=true->(Ca role m.reverse).1≠[])/\(Ca role m.reverse).1.length<=m.reverse.length/\(Ca role m.reverse).2.1.length<=m.reverse.length:=by
  intro m
  induction m with
  | nil=>exact ⟨rfl,λh=>(by cases h),Af _,Af _⟩
  | cons p m d=>
   rw [List.reverse_cons,rE,Az,Ab];generalize Ca role m.reverse=s at d ⊢;obtain ⟨out,last,pv⟩:=s;obtain ⟨c,k⟩:=p;obtain ⟨-,g,a,f⟩:=d;cases k with
   | false=>exact ⟨rfl,λh=>(by cases h),Ar a,Ar f⟩
   | true=>
    cases pv with
    | false=>
     refine ⟨rfl,λ_=>by simp [bV],?_,?_⟩
     ·show (JO out last++[(role,(false,[]))]).length<=_;rw [Ab,wD];exact Nat.succ_le_succ a
     ·show ([c]:List Cell).length<=_;simp
    | true=>
     refine ⟨rfl,λ_=>g rfl,Ar a,?_⟩;show (last++[c]).length<=_;rw [Ab];exact Nat.succ_le_succ f
 have:=key l.reverse;rwa [List.reverse_reverse] at this
def Te(role:Int)(l:List (Cell×Bool)):List Jt:=JO (Ca role l).1 (Ca role l).2.1
abbrev Si:=HP (List Bool) (HP (List Cell) (HP Int (HP Int (HP Int (HP Bool (HP (List Cell) (HP (List Jt) (HP (List Cell) Unit))))))))
abbrev gT:=HP (List Jt) (HP (List Cell) Unit)
theorem kg{β:Type}(Y:List β)(w:β):(Y++[w]).set Y.length w=Y++[w]:=by rw [J4b]
theorem Juz(role:Int)(out:List Jt)(last:List Cell)(f:out.length<=1000000000){γ:Type}(k:List Jt->Option γ) :
  (@W.gd wv γ (@W.ft wv 40 (@W.pl wv (@W.ln wv Jt out) 1)) <|
   @W.gd wv γ (@W.ib wv (@W.ar wv .sub .i64 (@W.ln wv Jt (@W.ap wv Jt (@W.ml wv Jt out λy=>(y.1,(y.2.1,last))) ((role,(false,[]))::[]))) 1) (@W.ln wv Jt (@W.ap wv Jt (@W.ml wv Jt out λy=>(y.1,(y.2.1,last))) ((role,(false,[]))::[])))) <|
   @W.ge wv γ Jt (@W.ap wv Jt (@W.ml wv Jt out λy=>(y.1,(y.2.1,last))) ((role,(false,[]))::[])) (@W.ar wv .sub .i64 (@W.ln wv Jt (@W.ap wv Jt (@W.ml wv Jt out λy=>(y.1,(y.2.1,last))) ((role,(false,[]))::[]))) 1) λv2=>
   @W.gd wv γ (@W.cm wv .eql (@W.pl wv (@W.ar wv .sub .i64 (@W.ln wv Jt (@W.ap wv Jt (@W.ml wv Jt out λy=>(y.1,(y.2.1,last))) ((role,(false,[]))::[]))) 1) 1) (@W.ln wv Jt (@W.ap wv Jt (@W.ml wv Jt out λy=>(y.1,(y.2.1,last))) ((role,(false,[]))::[])))) <|
   @W.gd wv γ (@W.ft wv 16 1) <|
   @W.ge wv γ Jt (@W.ap wv Jt (@W.ml wv Jt out λy=>(y.1,(y.2.1,last))) ((role,(false,[]))::[])) (@W.ar wv .sub .i64 (@W.ln wv Jt (@W.ap wv Jt (@W.ml wv Jt out λy=>(y.1,(y.2.1,last))) ((role,(false,[]))::[]))) 1) λv3=>
   @W.gd wv γ (@W.cm wv .eql (@W.pl wv (@W.ar wv .sub .i64 (@W.ln wv Jt (@W.ap wv Jt (@W.ml wv Jt out λy=>(y.1,(y.2.1,last))) ((role,(false,[]))::[]))) 1) 1) (@W.ln wv Jt (@W.ap wv Jt (@W.ml wv Jt out λy=>(y.1,(y.2.1,last))) ((role,(false,[]))::[])))) <|
   k (@W.st wv Jt (@W.ap wv Jt (@W.ml wv Jt out λy=>(y.1,(y.2.1,last))) ((role,(false,[]))::[])) (@W.ar wv .sub .i64 (@W.ln wv Jt (@W.ap wv Jt (@W.ml wv Jt out λy=>(y.1,(y.2.1,last))) ((role,(false,[]))::[]))) 1) (v3.1,(v3.2.1,v3.2.2))))=k (JO out last++[(role,(false,[]))]):=by
 have hX:@W.ap wv Jt (@W.ml wv Jt out λy=>(y.1,(y.2.1,last))) ((role,(false,[]))::[])=JO out last++[(role,(false,[]))]:=rfl;have hl:=wD out last;rw [hX];generalize JO out last=Y at hl;have d:(Y++[((role,(false,[])):Jt)]).length=Y.length+1:=by simp
 have hi:@W.ar wv .sub .i64 (((Y.length+1:Nat):Int)) 1=(Y.length:Int):=by rw [Xo,wr (by omega) (by omega)];omega
 have a:(Y++[((role,(false,[])):Jt)])[Y.length]?=some (role,(false,[])):=iU Y _;rw [AO,AO,d,hi,BX,sS (by omega) (by omega),FQ ⟨by omega,by omega⟩,AP (fg a),BX,Cb (by rw [Qn];exact decide_eq_true (by omega)),FH (by decide) (by decide),AP (fg a),Cb (by rw [Qn];exact decide_eq_true (by omega)),GN,As];dsimp only;rw [kg]
theorem J4e{A B:Type}{l:List A}{m:List B}{i:Nat}{a:A}{b:B}(f:l[i]?=some a)(d:m[i]?=some b):(l.zip m).take (i+1)=(l.zip m).take i++[(a,b)]:=by refine Ka ?_;rw [List.getElem?_zip_eq_some];exact ⟨f,d⟩
theorem J7v(role:Int)(cl:Bool)(cells:List Cell)(ks:List Bool)(H:ks.length=cells.length)(J:cells.length<=100000000):@xP wv ((role,(cl,cells)),ks)=some (Te role (cells.zip ks)):=by
 have zl:(cells.zip ks).length=cells.length:=by rw [Av];omega
 have key:=Ki (b:=@xq wv) (e:=(⟨(Ca role (cells.zip ks)).1,(Ca role (cells.zip ks)).2.1,()⟩:gT))
  (λi=>(⟨ks,cells,(cells.length:Int),(i:Int),role,cl,cells,(Ca role ((cells.zip ks).take i)).1,(Ca role ((cells.zip ks).take i)).2.1,()⟩:Si)) cells.length (by omega) (λi hi=>by
   have hx:=Aa hi;have A:=Aa (l:=ks) (i:=i) (by omega);generalize cells[i]=c at hx;generalize ks[i]=b at A;rw [J4e hx A,rE];obtain ⟨F,E,f,g⟩:=qj role ((cells.zip ks).take i);have w:((cells.zip ks).take i).length=i:=by rw [Aj];omega
   rw [w] at f g;have a:i≠0->ks[i - 1]?=some (Ca role ((cells.zip ks).take i)).2.2:=λd=>by obtain ⟨j,rfl⟩:∃j,i=j+1:=⟨i - 1,by omega⟩;have m:=Aa (l:=cells) (i:=j) (by omega);have y:=Aa (l:=ks) (i:=j) (by omega);rw [F,J4e m y,Az];simp
   have d:i=0->(Ca role ((cells.zip ks).take i)).2.2=false:=λd=>by subst d;rfl
   generalize Ca role ((cells.zip ks).take i)=s at F E f g a d ⊢;obtain ⟨out,last,pv⟩:=s;have f:out.length<=i:=f;have g:last.length<=i:=g;have a:i≠0->ks[i - 1]?=some pv:=a;have d:i=0->pv=false:=d;unfold xq;dsimp only;rw [J5 (by omega),AP (fg hx),AP (fg A),J3,wr (by omega) (by omega)];have nt1:@W.nt wv true=false:=rfl;have nt0:@W.nt wv false=true:=rfl;cases b with
   | false=>rw [nt0,BA rfl];rfl
   | true=>
    rw [nt1,AU rfl];by_cases h:i=0
    ·have ep:=d h;subst ep;rw [BA (by rw [Qn];simp [h])];exact Juz (γ:=Nx Si gT) role out last (by omega) λX=>some (Nx.go (⟨ks,cells,(cells.length:Int),((i:Int)+1),role,cl,cells,X,[c],()⟩:Si))
    ·rw [AU (by rw [Qn];simp [h]),Xo,wr (by omega) (by omega),AP (Im (i - 1) (by omega) (a h))];cases pv with
     | false=>
      rw [nt0,BA rfl];exact Juz (γ:=Nx Si gT) role out last (by omega) λX=>some (Nx.go (⟨ks,cells,(cells.length:Int),((i:Int)+1),role,cl,cells,X,[c],()⟩:Si))
     | true=>
      have o:out≠[]:=E rfl;obtain ⟨r,v,rfl⟩:∃r v,out=r++[v]:=⟨_,_,(List.dropLast_concat_getLast o).symm⟩;have B:(r++[v]).length=r.length+1:=by simp
      rw [B] at f;have G:@W.ar wv .sub .i64 (((r.length+1:Nat):Int)) 1=(r.length:Int):=by rw [Xo,wr (by omega) (by omega)];omega
      rw [nt1,AU rfl,AO,B,G,FQ ⟨by omega,by omega⟩,AP (fg (iU r v)),BX,Cb (by rw [Qn];exact decide_eq_true (by omega)),AO,BX,FH (by omega) (by omega),AP (fg (iU r v)),Cb (by rw [Qn];exact decide_eq_true (by omega)),GN,As];rw [kg];rfl) (by unfold xq;dsimp only;rw [Jr (by omega),List.take_of_length_le (by omega)])
 unfold xP;dsimp only;rw [AO];exact (BL key).trans rfl
open Classical in
noncomputable def Fw(s:List Jt×Mb)(t:Jt):List Jt×Mb:=
 if VT t then (s.1++(if (BJ s.2 t.2.2).1=true then [t] else Te t.1 (t.2.2.zip (BJ s.2 t.2.2).2.2)),(BJ s.2 t.2.2).2.1) else s
noncomputable def Ma(l:List Jt):List Jt:=(l.foldl Fw ([],[])).1
def DN(l:List Jt):Nat:=(l.map λt=>t.2.2.length+1).sum
theorem Jx6(l:List Jt)(t:Jt):DN (l++[t])=DN l+(t.2.2.length+1):=by unfold DN;rw [List.map_append,List.sum_append];simp
theorem Jw5:∀l:List Jt,l.length<=DN l
 | []=>Af _
 | t::l=>by
  have h:=Jw5 l;have a:DN (t::l)=(t.2.2.length+1)+DN l:=by unfold DN;rw [List.map_cons,List.sum_cons]
  rw [List.length_cons];omega
theorem Jsm(l:List Jt)(i:Nat):DN (l.take i)<=DN l:=by
 have:DN l=DN (l.take i)+DN (l.drop i):=by unfold DN;rw [<-List.sum_append,<-List.map_append,List.take_append_drop]
 omega
theorem Jmj(role:Int)(l:List (Cell×Bool)):(Te role l).length<=l.length:=by unfold Te;rw [wD];exact (qj role l).2.2.1
theorem UH(s:List Jt×Mb)(t:Jt):(Fw s t).1.length<=s.1.length+(t.2.2.length+1):=by
 unfold Fw;split
 ·dsimp only;rw [Ab];split
  ·simp
  ·have:=Jmj t.1 (t.2.2.zip (BJ s.2 t.2.2).2.2);rw [Av] at this;omega
 ·omega
theorem Jru:∀l:List Jt,(l.foldl Fw ([],[])).1.length<=DN l:=by
 have key:∀(l:List Jt) (s:List Jt×Mb),(l.foldl Fw s).1.length<=s.1.length+DN l:=by
  intro l
  induction l with
  | nil=>intro s;exact Nat.le_add_right _ _
  | cons t l a=>
   intro s;have g:=a (Fw s t);have f:=UH s t;have d:DN (t::l)=(t.2.2.length+1)+DN l:=by unfold DN;rw [List.map_cons,List.sum_cons]
   rw [List.foldl_cons];omega
 exact λl=>Nat.le_trans (key l ([],[])) (by simp)
theorem WU{α:Type}{b:Nat}{n:Int}{x:Option α}(h:n<=1000000000000)(d:0<=n)(a:b<=64):@W.gd wv α (@W.ft wv b n) x=x:=by refine ZL ⟨?_,by omega⟩;have:n * (b:Int)<=1000000000000 * 64:=Int.mul_le_mul h (by omega) (by omega) (by omega);unfold room;omega
abbrev AAA:=HP (List Jt) (HP Int (HP Int (HP Mb (HP (List Jt) Unit))))
open Classical in
theorem XL(l:List Jt)(hl:DN l<=100000000000)(v:∀t∈l,t.2.2.length<=100000000):@xA wv l=some (Ma l):=by
 have y:=Jw5 l;have key:=Ki (b:=@xg wv l) (e:=(⟨Ma l,()⟩:HP (List Jt) Unit))
  (λi=>(⟨l,(l.length:Int),(i:Int),((l.take i).foldl Fw ([],[])).2,((l.take i).foldl Fw ([],[])).1,()⟩:AAA)) l.length (by omega) (λi hi=>by
   have hx:=Aa hi;generalize l[i]=t at hx;have d:=v t (Ag hx);rw [Ka hx,Aq];have a:=Jru (l.take i);have A:=Jsm l i;have w:=Jsm l (i+1);rw [Ka hx,Jx6] at w;generalize (l.take i).foldl Fw ([],[])=s at a ⊢;obtain ⟨out,m⟩:=s;obtain ⟨role,cl,cells⟩:=t;have d:cells.length<=100000000:=d;have a:out.length<=DN (l.take i):=a;have w:DN (l.take i)+(cells.length+1)<=DN l:=w;have es:List.foldl Fw (out,m) [(role,(cl,cells))]=Fw (out,m) (role,(cl,cells)):=rfl;rw [es];unfold xg;dsimp only;rw [J5 (by omega),AP (fg hx),Jwd,J3,wr (by omega) (by omega)];unfold Fw;by_cases f:VT (role,(cl,cells))
   ·have o:=J6m l l (l.length:Int) (i:Int) out m role cl cells (by omega);have r:=qm m cells;rw [if_pos f,AU (by rw [BQ,decide_eq_true f];rfl),AO,Cb (by rw [Tz];exact decide_eq_true (by omega)),Ei (by omega) (by omega) (by decide),mY,As];refine (BL o).trans ?_;dsimp only;by_cases g:(BJ m cells).1=true
    ·rw [BA g,if_pos g,AO,BX,FH (by omega) (by omega),AO,BX,WU (by omega) (by omega) (by decide),CV,J3,wr (by omega) (by omega)];rfl
    ·rw [AU (by simpa using g),if_neg g];refine (BH (c:=lg) (J7v role cl cells (BJ m cells).2.2 r (by omega))).trans ?_;have h:=Jmj role (cells.zip (BJ m cells).2.2);rw [Av] at h;rw [AO,AO,BX,WU (by omega) (by omega) (by decide),CV,J3,wr (by omega) (by omega)];rfl
   ·rw [if_neg f,BA (by rw [BQ,decide_eq_false f];rfl)];rfl) (by unfold xg;dsimp only;rw [Jr (by omega),Ak];rfl)
 unfold xA;rw [AO];exact (BL key).trans rfl
end Go.Proofs.YtmfagdfkpjgeiaaGreat
