/- Appending to a value of a map: 'm[k] = append(m[k], x)' in a function of its own. Conditions: none. -/
import Derived.Test.YtmfagdfkpjgeiaaGreatFD
import Derived.Test.YtmfagdfkpjgeiaaGreatDA
import Derived.WideKeyEntry
import Derived.Shelf.SlicesE.Delete
open Option renaming some -> AC, none -> AD
open Bool renaming true -> AE, false -> AF
open _root_ renaming List -> AG, Option -> AH, Int -> AI, Nat -> AM, Bool -> AN, if_neg -> AR, if_pos -> AS, congrArg -> AT
set_option linter.unusedVariables false
set_option linter.unusedSimpArgs false
namespace Go.Dn
open Go Go.Vv
open _root_.Array renaming getD_eq_getD_getElem? -> Aa, getElem?_eq_some_iff -> Ab, getElem?_eq_getElem -> Aj, getElem?_modify -> Ap, ext -> Aq, replicate -> Ax
open List renaming mem_singleton -> Ac, flatMap -> Ae, getElem?_eq_some_iff -> Ag, getElem?_append_left -> Ai, getElem?_cons_succ -> Ak, replicate -> Ar, mem_cons -> Au, length_cons -> Av, modify_succ_cons -> Ay, getElem?_modify -> Ba
open Nat renaming lt_of_lt_of_le -> Ad, le_refl -> Ah, le_trans -> Am, add_sub_cancel_left -> Aw, ble_eq_true_of_le -> Az
open Option renaming map_some -> Af
open Option.some renaming injEq -> Ao
open Prod.mk renaming injEq -> As
section
variable {P:Program} {w w':World} {S S1:AM->Prop} {h:Heap} {μ:Gh}
theorem OW(r:BJ w S h μ){g0:AM}{ob:AH AU}(d:h g0=ob)(m:∀o,ob=AC o->∃ver esz el cells,o=.arr ver esz el cells AF/\IZ cells)(hS1:∀q,S1 q->q<w.heap.size)(hd:∀o,ob=AC o->o.live=AE->¬S1 (μ.b g0)) :
  BJ w S1 (Ci g0 ob) μ:=by
 refine ⟨λg o a=>?_,λg A o o' a f _ _ _=>?_,λg o a _ hl=>?_,hS1⟩
 .obtain ⟨rfl,rfl⟩:=Qq a;obtain ⟨ver,esz,el,cells,rfl,hi⟩:=m _ rfl;intro l;obtain ⟨cs,y,v,a3,a4⟩:=r.ob g _ d l;exact ⟨cs,y,v,λi x hx=>⟨.pure (hi.rep hx (a3 i x hx).1),(a3 i x hx).2⟩,λe=>by cases e⟩
 .rw [(Qq a).1,(Qq f).1]
 .obtain ⟨rfl,rfl⟩:=Qq a;exact hd _ rfl hl
theorem J9q(f:BJ w S h μ){g0:AM}{ob:AH AU}(E:h g0=ob)(Z:∀o,ob=AC o->o.fz=AF){ver esz len:AM}{el:TypeId}{cells:AG AV}(m:cells≠[])(hi:IZ cells){cv:Value}
  (hr:Ran w S1 (Ci g0 ob) μ (.arr g0 ver 0 len) (Ci g0 (AC (.arr ver esz el cells AF))) cv w') :
  ∃μ',BJ w' S (upd h g0 (AC (.arr ver esz el cells AF))) μ'/\CY w S h μ w' S (upd h g0 (AC (.arr ver esz el cells AF))) μ'/\Cg h μ (upd h g0 (AC (.arr ver esz el cells AF))) μ' /\
   AX w' S (upd h g0 (AC (.arr ver esz el cells AF))) μ' (.arr g0 ver 0 len) cv/\(∀g,g≠g0->μ'.b g=μ.b g)/\∀q,q<w.heap.size->(∀o,h g0=AC o->o.live=AE->q≠μ.b g0)->w'.heap[q]?=w.heap[q]?:=by
 obtain ⟨S2,μ2,r1,r2,y,r4⟩:=hr;have O:Ci g0 (AC (.arr ver esz el cells AF)) g0=AC (.arr ver esz el cells AF):=za;have own1:∀q,Own (Ci g0 ob) μ q->∃o,h g0=AC o/\o.fz=AF/\o.live=AE/\q=μ.b g0:=by rintro q ⟨g,o,a,B,hl,rfl⟩;obtain ⟨rfl,rfl⟩:=Qq a;exact ⟨o,E,B,hl,rfl⟩
 have frame:∀q,q<w.heap.size->(∀o,h g0=AC o->o.live=AE->q≠μ.b g0)->w'.heap[q]?=w.heap[q]?:=λq M H=>y.keep q M λa=>by obtain ⟨o,l,-,A,N⟩:=own1 q a;exact H o l A N
 have X:(AU.arr ver esz el cells AF).live=AE:=Kz.2 m;have d:(∃o,h g0=AC o/\o.fz=AF/\o.live=AE/\μ2.b g0=μ.b g0)\/w.heap.size<=μ2.b g0:=by
  rcases y.ow _ ⟨g0,_,O,rfl,X,rfl⟩ with q|q
  .exact .inl (own1 _ q)
  .exact .inr q
 have mb:∀ {g},g≠g0->(μ.set g0 (μ2.b g0) (μ2.o g0)).b g=μ.b g/\(μ.set g0 (μ2.b g0) (μ2.o g0)).o g=μ.o g:=λH=>⟨Jd _ _ _ _ H,Jd _ _ _ _ H⟩;have r:(μ.set g0 (μ2.b g0) (μ2.o g0)).b g0=μ2.b g0/\(μ.set g0 (μ2.b g0) (μ2.o g0)).o g0=μ2.o g0:=⟨Jg _ _ _,Jg _ _ _⟩;have vv:Cg h μ (upd h g0 (AC (.arr ver esz el cells AF))) (μ.set g0 (μ2.b g0) (μ2.o g0)):=by
  intro g o a;by_cases e:g=g0
  .subst e;rw [E] at a;subst a;obtain ⟨o',l,A,N⟩:=r4 g o za;rw [O] at l;injection l with l;subst l;exact ⟨_,Jg _ _ _,A,λe=>⟨⟨r.1.trans (N e).1.1,r.2.trans (N e).1.2⟩,(N e).2⟩⟩
  .exact ⟨o,by rw [Jd _ _ _ _ e];exact a,Ah _,λ_=>⟨mb e,.refl o⟩⟩
 have ev:CY w S h μ w' S (upd h g0 (AC (.arr ver esz el cells AF))) (μ.set g0 (μ2.b g0) (μ2.o g0)):=by
  refine ⟨y.os,y.tape,y.output,y.size,λq M H=>frame q M λo a hl e=>?_,y.shape,λ_ h=>h,λ_ h=>.inl h,?_,rfl⟩
  .have B:o.fz=AF:=Z o (by rw [<-E];exact a);exact H ⟨g0,o,a,B,hl,e.symm⟩
  .rintro q ⟨g,o,a,B,hl,rfl⟩;by_cases e:g=g0
   .subst e;rw [r.1];rcases d with ⟨v,L,P,K,J⟩|d
    .exact .inl ⟨g,v,L,P,K,J.symm⟩
    .exact .inr d
   .rw [Jd _ _ _ _ e] at a;rw [(mb e).1];exact .inl ⟨g,o,a,B,hl,rfl⟩
 refine ⟨_,⟨λg o a=>?_,λg1 g2 o1 v l A l1 l2 e=>?_,λg o a B hl hs=>?_,λq M=>Ad (f.lt q M) y.size⟩,ev,vv,?_,λg hg=>(mb hg).1,frame⟩
 .by_cases e:g=g0
  .subst e;rw [Jg] at a;injection a with a;subst a;rw [r.1,r.2];intro m;obtain ⟨cs,a1,a2,a3,a4⟩:=r2.ob g _ O m;exact ⟨cs,a1,a2,λi x hx=>⟨.pure (hi.rep hx (a3 i x hx).1),(a3 i x hx).2⟩,λe=>by cases e⟩
  .rw [Jd _ _ _ _ e] at a;rw [(mb e).1,(mb e).2];exact (f.ob g o a).Cz f ev vv λhl=>frame _ ((f.ob g o a).lt hl) λv R Y q=>e (f.inj g g0 o v a R hl Y q)
 .have fresh:∀ {g o},g≠g0->h g=AC o->o.live=AE->μ.b g≠μ2.b g0:=λm a hl q=>by
   rcases d with ⟨v,L,-,K,J⟩|d
   .exact m (f.inj _ g0 _ v a L hl K (q.trans J))
   .have:=(f.ob _ _ a).lt hl;omega
  by_cases G:g1=g0<;>by_cases F:g2=g0
  .rw [G,F]
  .subst G;rw [Jd _ _ _ _ F] at A;rw [r.1,(mb F).1] at e;exact (fresh F A l2 e.symm).elim
  .subst F;rw [Jd _ _ _ _ G] at l;rw [r.1,(mb G).1] at e;exact (fresh G l l1 e).elim
  .rw [Jd _ _ _ _ G] at l;rw [Jd _ _ _ _ F] at A;rw [(mb G).1,(mb F).1] at e;exact f.inj g1 g2 o1 v l A l1 l2 e
 .by_cases e:g=g0
  .subst e;rw [r.1] at hs;rcases d with ⟨v,L,P,K,J⟩|d
   .exact f.own g v L P K (J▸hs)
   .have:=f.lt _ hs;omega
  .rw [Jd _ _ _ _ e] at a;rw [(mb e).1] at hs;exact f.own g o a B hl hs
 .cases r1 with
  | pure f=>cases f
  | arr _ _ _ _ _ o a hv l Q=>
   rw [O] at a;injection a with a;subst a;refine .arr _ _ _ _ _ _ (Jg _ _ _) (Ah _) l λ_=>?_;obtain ⟨esz',el',cells',fz',q1,q2⟩:=Q rfl;injection q1 with q11 q12 q13 q14 q15;subst q12;subst q14;exact ⟨esz,el,cells,AF,rfl,by rw [r.1,r.2];exact q2⟩
def II(k:AV)(es:AG (AV×AV)):AH AM->AG (AV×AV)
 | some j=>es.modify j λe=>(k,e.2)
 | none=>es++[(k,.BK)]
def Rb(es:AG (AV×AV)):AH AM->AV
 | some j=>match es[j]? with|some e=>e.2|none=>.any
 | none=>.BK
theorem J06(hp:BJ w S h μ){g:AM}{es:AG (AV×AV)}(ho:h g=AC (.map 0 es AF)){mt kt et:TypeId}{ag:AN}{sh:AG AN}(X:P.underlying mt=AC (.map kt et))(m:EU P 6 kt=AC sh)(H:Cn P kt=AC ag)
  (hz:(zeroValue et).run P w=.ok (.slice AD 0 0) w) {k:AV} {ck:Value} (y:AY w S k ck) (M:YP ag sh k=AE) {r:AH AM} (hr:posM ag sh k 0 es=AC r) :
  ∃(es3:Array MapEntry) (clock:AM) (e:MapEntry),(Instr.mapEntry mt (.map (AC (μ.b g))) ck).run P w=.ok (.tuple #[e.val,goInt e.born]) (EL w (μ.b g) es3 clock)/\(∃old c,w.heap[μ.b g]?=AC (.map old c))/\GJ es3 clock/\es3[r.getD es.length]?=AC e /\
   AX w S h μ (Rb es r) e.val/\DK w S h μ (II k es r) es3.toList:=by
 obtain ⟨d,hd⟩:=yF m;obtain ⟨b,hb⟩:=yC M;obtain ⟨es',clock,E,⟨F,mbn⟩,-,m3⟩:=hp.ob g _ ho;have hE:DK w S h μ es es'.toList:=⟨by simpa using F,λi k v hi=>by obtain ⟨e,J,y,hv⟩:=m3 i k v hi;exact ⟨e,by simpa using J,y,hv⟩⟩
 have G:=rZ (P:=P) (w:=w) (S:=S) (h:=h) (μ:=μ) AF 6 10000 (by omega) m H (.pure y) hb;obtain ⟨Z,f2⟩:=yc (h:=h) (μ:=μ) hd m H y hE hr;cases r with
 | none=>
  refine ⟨es'.push { key:=ck,val:=.slice AD 0 0,born:=clock },clock+1,{ key:=ck,val:=.slice AD 0 0,born:=clock },?_,⟨_,_,E⟩,Jy9 mbn _ _,?_,.pure .BK,?_⟩
  .simp [EL,Instr.mapEntry,run_underlying X,MapKept.run_getObj_map E,G,Z,hz,MapKept.run_setObj_map _ E,Result.andThen]
  .simp [<-F]
  .refine ⟨by simp [II,F],λi R v2 hi=>?_⟩;simp only [II] at hi;by_cases L:i<es.length
   .rw [Ai L] at hi;obtain ⟨e,J,Q⟩:=hE.2 i R v2 hi;have:=(Ag.1 J).1;exact ⟨e,by simpa [Ai this] using J,Q⟩
   .rw [List.getElem?_append_right (by omega)] at hi;have N:i=es.length:=by have:=(Ag.1 hi).1;simp at this;omega
    subst N;simp at hi;obtain ⟨rfl,rfl⟩:=hi;exact ⟨{ key:=ck,val:=.slice AD 0 0,born:=clock },by simp [F],y,.pure .BK⟩
 | some j=>
  obtain ⟨k',v',e,g1,g2,g3,g4,g5⟩:=f2 j rfl;have f:es'[j]?=AC e:=by simpa using g2
  have B:=J1s g5 y g3;have l:(Instr.keyThatStays e.key ck).run P w=.ok ck w:=by simp [Instr.keyThatStays,B]
  refine ⟨es'.modify j λe=>{ e with key:=ck },clock,{ e with key:=ck },?_,⟨_,_,E⟩,Jj3 mbn _ _ λ_=>rfl,?_,?_,?_⟩
  .simp [EL,Instr.mapEntry,run_underlying X,MapKept.run_getObj_map E,G,Z,f,l,MapKept.run_setObj_map _ E,Result.andThen]
  .show (es'.modify j _)[j]?=_;rw [Ap,AS rfl,f];rfl
  .simp only [Rb,g1];exact g4
  .refine ⟨by simp [II];simpa using F,λi R v2 hi=>?_⟩;simp only [II,Ba] at hi;cases K:es[i]? with
   | none=>rw [K] at hi;cases hi
   | some p=>
   obtain ⟨kp,vp⟩:=p;rw [K] at hi;obtain ⟨e2,O,Q,Y⟩:=hE.2 i kp vp K;have a:es'[i]?=AC e2:=by simpa using O
   by_cases A:j=i
   .subst A;simp only [Af,if_true,Ao,As] at hi;obtain ⟨rfl,rfl⟩:=hi;rw [f] at a;injection a with a;subst a;exact ⟨{ e with key:=ck },by simp [f],y,Y⟩
   .simp only [Af,AR A,Ao,As] at hi;obtain ⟨rfl,rfl⟩:=hi;exact ⟨e2,by simp [a,A],Q,Y⟩
theorem J7i(n:AM):(asInt (goInt n)).run P w=.ok (n:AI) w:=by simp [asInt,asIntOf,goInt]
theorem J08{b:AM}{es:Array MapEntry}{clock j:AM}{e:MapEntry}(d:w.heap[b]?=AC (.map es clock))(f:GJ es clock)(g:es[j]?=AC e)(mt:TypeId)(cv:Value) :
  (Instr.entryStore mt (.map (AC b)) (goInt e.born) cv).run P w=.ok () (EL w b (es.modify j λe=>{ e with val:=cv }) clock):=by
 have a:es.findIdx? (λx=>((x.born:AM):AI)==((e.born:AM):AI))=AC j:=by rw [WideElems.findIdx_arr];exact WideElems.findIdx_born f.2 (by simpa using g)
 simp [EL,Instr.entryStore,MapKept.run_getObj_map d,J7i,a,MapKept.run_setObj_map _ d,Result.andThen]
abbrev mL(k:(Ty.p I I).T)(es:AG ((Ty.p I I).T×AG AI)):AG AI:=(zu (a:=.p I I) (b:=.ls I) k es).getD []
abbrev mS(k:(Ty.p I I).T)(l:AG AI)(es:AG ((Ty.p I I).T×AG AI)):AG ((Ty.p I I).T×AG AI):=F7 (a:=.p I I) (b:=.ls I) k l es
abbrev mP(k:(Ty.p I I).T)(es:AG ((Ty.p I I).T×AG AI)):AH AM:=EH (a:=.p I I) (b:=.ls I) k es
def mE(i:AM)(es:AG ((Ty.p I I).T×AG AI)):AG (AV×AV):=GZ (.p I I) I i es
theorem wU(i:AM)(e:(Ty.p I I).T×AG AI)(r:AG ((Ty.p I I).T×AG AI)):mE i (e::r)=(EA (.p I I) e.1,.arr (mB+i) e.2.length 0 e.2.length)::mE (i+1) r:=rfl
theorem J3e:MK AE [AF,AF] (.p I I)=AE:=rfl
theorem Oq(k:(Ty.p I I).T):∀(i n:AM) (es:AG ((Ty.p I I).T×AG AI)),posM AE [AF,AF] (EA (.p I I) k) n (mE i es)=AC ((mP k es).map (n+·))
 | i,n,[]=>rfl
 | i,n,e::r=>by
  show (match Ez AE [AF,AF] (EA (.p I I) k) (EA (.p I I) e.1) with|some AE=>AC (AC n)|some AF=>posM AE [AF,AF] (EA (.p I I) k) (n+1) (mE (i+1) r)|none=>AD)=_;rw [J1f J3e];show _=AC (Option.map (n+·) (if (Ty.p I I).FE k e.1=AE then AC 0 else (mP k r).map (·+1)));cases a:(Ty.p I I).FE k e.1 with
  | true=>simp
  | false=>
   simp only [Bool.false_eq_true,if_false];rw [Oq k (i+1) (n+1) r];cases mP k r with
   | none=>rfl
   | some j=>simp only [Af];congr 2;omega
theorem J8k:∀(i:AM) (es:AG ((Ty.p I I).T×AG AI)),(mE i es).length=es.length
 | i,[]=>rfl
 | i,e::r=>by rw [wU,Av,Av,J8k (i+1) r]
theorem Pm{k:(Ty.p I I).T}{e:(Ty.p I I).T×AG AI}{r:AG ((Ty.p I I).T×AG AI)}(h:(Ty.p I I).FE k e.1=AE)(l:AG AI):mP k (e::r)=AC 0/\mL k (e::r)=e.2/\mS k l (e::r)=(k,l)::r:=
 ⟨AS h,AT (λx=>Option.getD x []) (AS h:zu (a:=.p I I) (b:=.ls I) k (e::r)=AC e.2),AS h⟩
theorem aH{k:(Ty.p I I).T}{e:(Ty.p I I).T×AG AI}{r:AG ((Ty.p I I).T×AG AI)}(h:¬(Ty.p I I).FE k e.1=AE)(l:AG AI):mP k (e::r)=(mP k r).map (·+1)/\mL k (e::r)=mL k r/\mS k l (e::r)=e::mS k l r:=
 ⟨AR h,AT (λx=>Option.getD x []) (AR h:zu (a:=.p I I) (b:=.ls I) k (e::r)=zu (a:=.p I I) (b:=.ls I) k r),AR h⟩
theorem J6j{k:(Ty.p I I).T}:∀ {es:AG ((Ty.p I I).T×AG AI)} {j:AM},mP k es=AC j->∃k',es[j]?=AC (k',mL k es)
 | [],j,h=>by cases h
 | e::r,j,h=>by
  by_cases g:(Ty.p I I).FE k e.1=AE
  .obtain ⟨f,d,-⟩:=Pm (r:=r) g [];rw [f] at h;injection h with h;subst h;rw [d];exact ⟨e.1,rfl⟩
  .obtain ⟨f,d,-⟩:=aH (r:=r) g [];rw [f] at h;rw [d];cases a:mP k r with
   | none=>rw [a] at h;cases h
   | some l=>
    rw [a] at h;injection h with h;subst h;exact J6j a
theorem Ka7{k:(Ty.p I I).T}:∀ {es:AG ((Ty.p I I).T×AG AI)},mP k es=AD->mL k es=[]
 | [],h=>rfl
 | e::r,h=>by
  by_cases d:(Ty.p I I).FE k e.1=AE
  .rw [(Pm (r:=r) d []).1] at h;cases h
  .obtain ⟨g,f,-⟩:=aH (r:=r) d [];rw [g] at h;rw [f];cases a:mP k r with
   | none=>exact Ka7 a
   | some l=>rw [a] at h;cases h
theorem OB(k:(Ty.p I I).T)(l:AG AI):∀(i:AM) (es:AG ((Ty.p I I).T×AG AI)),
  (II (EA (.p I I) k) (mE i es) (mP k es)).modify ((mP k es).getD es.length) (λe=>(e.1,.arr (mB+i+(mP k es).getD es.length) l.length 0 l.length))=mE i (mS k l es)
 | i,[]=>rfl
 | i,e::r=>by
  have a:=OB k l (i+1) r;by_cases d:(Ty.p I I).FE k e.1=AE
  .have g:mP k (e::r)=AC 0:=AS d;have f:mS k l (e::r)=(k,l)::r:=AS d;rw [g,f];rfl
  .have g:mP k (e::r)=(mP k r).map (·+1):=AR d;have f:mS k l (e::r)=e::mS k l r:=AR d;rw [g,f];cases h:mP k r with
   | none=>
    rw [h] at a;simp only [Option.map_none,Option.getD_none,II,wU,Av,List.cons_append,Ay] at a ⊢;rw [<-a]
    congr 3
    funext e;rw [show mB+(i+1)+r.length=mB+i+(r.length+1) by omega]
   | some j=>
    rw [h] at a;simp only [Af,Option.getD_some,II,wU,Ay] at a ⊢;rw [<-a]
    congr 3
    funext e;rw [show mB+(i+1)+j=mB+i+(j+1) by omega]
theorem Pk(k:(Ty.p I I).T)(l:AG AI):∀(es:AG ((Ty.p I I).T×AG AI)) (i:AM),((mS k l es)[i]?).map (·.2)=if i=(mP k es).getD es.length then AC l else (es[i]?).map (·.2)
 | [],0=>rfl
 | [],i+1=>rfl
 | e::r,i=>by
  by_cases a:(Ty.p I I).FE k e.1=AE
  .have f:mP k (e::r)=AC 0:=AS a;have d:mS k l (e::r)=(k,l)::r:=AS a;rw [f,d];cases i with
   | zero=>rfl
   | succ i=>simp
  .have f:mP k (e::r)=(mP k r).map (·+1):=AR a;have d:mS k l (e::r)=e::mS k l r:=AR a;rw [f,d];cases i with
   | zero=>cases mP k r<;>simp
   | succ i=>
    have g:=Pk k l r i;rw [Ak,g];cases mP k r<;>simp
theorem Wx{s:Dn.S Ty.T}(hi:Inv s){g:AM}{el:TypeId}{es:AG ((Ty.p I I).T×AG AI)}(d:s.mo=AC ⟨g,.p I I,I,el,es⟩)(k:(Ty.p I I).T)(l:AG AI) :
  AA (⟨s.sl,s.lo,s.ob,s.ln,AC ⟨g,.p I I,I,el,mS k l es⟩⟩:Dn.S Ty.T)=upd (upd (AA s) (mB+(mP k es).getD es.length) (AC (JI I el l))) g (AC (.map 0 (mE 0 (mS k l es)) AF)):=by
 obtain ⟨v,-,y⟩:=hi.mo _ d;have v:g<mB:=v;funext a;have free:Ey s.mo a=AE->look a s.ob=AD:=λh=>by
  cases A:look a s.ob with
  | none=>rfl
  | some o=>rw [y a o A] at h;cases h
 by_cases f:a=g
 .subst f;rw [Jg];have:look a s.ob=AD:=free (by simp [Ey,d]);simp [AA,this,Ef,Mo.at];rfl
 .rw [Jd _ _ _ _ f];by_cases r:mB<=a
  .have m:look a s.ob=AD:=free (by simp [Ey,d,Az r]);have B:=Pk k l es (a - mB);have at':∀es:AG ((Ty.p I I).T×AG AI),AA (⟨s.sl,s.lo,s.ob,s.ln,AC ⟨g,.p I I,I,el,es⟩⟩:Dn.S Ty.T) a=((es[a - mB]?).map (·.2)).map (JI I el):=λes=>by
    have:AA (⟨s.sl,s.lo,s.ob,s.ln,AC ⟨g,.p I I,I,el,es⟩⟩:Dn.S Ty.T) a=(I5 (α:=(Ty.p I I).T×AG AI) es (a - mB)).map λe=>JI I el e.2:=by simp only [AA,m,Ef,Mo.at,AR f,AS r];rfl
    rw [this];unfold I5;cases es[a - mB]?<;>rfl
   have hs:AA s a=((es[a - mB]?).map (·.2)).map (JI I el):=by rw [<-at' es,<-d]
   refine (at' _).trans ((AT (Option.map (JI I el)) B).trans ?_);by_cases w:a=mB+(mP k es).getD es.length
   .subst w;rw [Jg,Aw,AS rfl];rfl
   .rw [Jd _ _ _ _ w,AR (by omega),hs];rfl
  .rw [Jd _ _ _ _ (by omega)];simp only [AA];cases look a s.ob with
   | some o=>
    have:AB (⟨s.sl,s.lo,s.ob,s.ln,AC ⟨g,.p I I,I,el,mS k l es⟩⟩:Dn.S Ty.T)=AB s:=by funext c;cases c<;>rfl
    cases o<;>simp only [BD,this]
   | none=>simp only [d,Ef,Mo.at,AR f,AR r]
theorem RZ{S':AM->Prop}{h':Heap}{μ':Gh}{es:AG (AV×AV)}{es':AG MapEntry}(f:DK w S h μ es es')(d:BJ w S h μ)(ev:CY w S h μ w' S' h' μ')(vv:Cg h μ h' μ'):DK w' S' h' μ' es es':=
 ⟨f.1,λi k v hi=>by obtain ⟨e,a,b,c⟩:=f.2 i k v hi;exact ⟨e,a,b.Cz d ev,c.Cz d ev vv⟩⟩
theorem RY{es:AG (AV×AV)}{es':Array MapEntry}(m:DK w S h μ es es'.toList){j:AM}{v:AV}{cv:Value}(y:AX w S h μ v cv):DK w S h μ (es.modify j λe=>(e.1,v)) (es'.modify j λe=>{ e with val:=cv }).toList:=by
 refine ⟨by simpa using m.1,λi B v2 hi=>?_⟩;rw [Ba] at hi;cases f:es[i]? with
 | none=>rw [f] at hi;cases hi
 | some p=>
  obtain ⟨kp,vp⟩:=p;rw [f] at hi;obtain ⟨l,g,r,A⟩:=m.2 i kp vp f;have a:es'[i]?=AC l:=by simpa using g
  by_cases d:j=i
  .subst d;simp only [Af,if_true,Ao,As] at hi;obtain ⟨rfl,rfl⟩:=hi;exact ⟨{ l with val:=cv },by simp [a],r,y⟩
  .simp only [Af,AR d,Ao,As] at hi;obtain ⟨rfl,rfl⟩:=hi;exact ⟨l,by simp [a,d],r,A⟩
theorem RP(f:AM->Value)(n:AI):Instr.fill (λi=>AC (i * 1,1)) ((Array.range (1 * 1)).map f) [(0,.int .i64 n)]=AC #[.int .i64 n]:=by
 have:∀f:AM->Value,((Array.range 1).map f).setIfInBounds 0 (.int .i64 n)=#[.int .i64 n]:=λf=>by
  apply Aq
  .simp
  .intro j d a;have:j=0:=by simpa using a
   subst this;simp
 simp [Instr.fill,Value.cells,this]
theorem Pn:∀(i:AM) (es:AG ((Ty.p I I).T×AG AI)) (j:AM),(mE i es)[j]?=(es[j]?).map λe=>(EA (.p I I) e.1,.arr (mB+(i+j)) e.2.length 0 e.2.length)
 | i,[],j=>rfl
 | i,e::r,0=>rfl
 | i,e::r,j+1=>by rw [wU,Ak,Ak,Pn (i+1) r j,show i+1+j=i+(j+1) by omega]
theorem z7:∀l:AG AI,Ae (α:=I.T) (Ty.cs I) l=l.map (AV.int .i64)
 | []=>rfl
 | a::r=>AT (AV.int .i64 a::·) (z7 r)
theorem Jzg(el:TypeId)(l:AG AI)(n:AI):JI I el (l++[n])=.arr (l.length+1) 1 el (Ae (α:=I.T) (Ty.cs I) l++[AV.int .i64 n]) AF:=by show AU.arr (l++[n]).length 1 el (Ae (α:=I.T) (Ty.cs I) (l++[n])) AF=_;rw [z7,z7,List.length_append,List.map_append];rfl
structure AddT (P:Program) (mt kT hT sT:TypeId) (bytes:AM):Prop where
 hag:Cn P kT=AC AE
 hsz:FJ P kT=AC 2
 hsh:EU P 6 kT=AC [AF,AF]
 hu:P.underlying sT=AC (.slice hT)
 hi:∃i,P.info? hT=AC i/\i.size=1/\i.bytes=bytes/\i.zero.isSome=AE
 hz:zc P hT=AC [.int .i64 0]
 ht:P.underlying mt=AC (.map kT sT)
 hzs:oZ P sT=AC .BK
theorem XZ{mt kT hT sT:TypeId}{bytes:AM}(T:AddT P mt kT hT sT bytes)(N:BJ w S h μ){g:AM}{es:AG ((Ty.p I I).T×AG AI)}(hm:h g=AC (.map 0 (mE 0 es) AF))
  (hrow:∀j e,es[j]?=AC e->h (mB+j)=AC (JI I hT e.2)) (hfree:h (mB+es.length)=AD) (hg:g<mB) (x y n:AI)
  (B:((mL (x,y) es).length+1) * bytes<=room/\((mL (x,y) es).length+1:AI)<=9223372036854775807) (ty:TypeId) :
  ∃p w1 ck cy f v0 st F cv w4 w5,(Instr.box kT (.agg #[.int .i64 x,.int .i64 y])).run P w=.ok p w1/\(Instr.loadAt kT p).run P w1=.ok ck w1/\(Instr.buildSlice sT 1 #[(0,.int .i64 n)]).run P w1=.ok cy f /\
   (Instr.mapEntry mt (.map (AC (μ.b g))) ck).run P f=.ok (.tuple #[v0,goInt st]) F/\(Builtin.append_ #[sT,sT] ty #[v0,cy]).run P F=.ok cv w4/\(Instr.entryStore mt (.map (AC (μ.b g))) (goInt st) cv).run P w4=.ok () w5 /\
   ∃S' μ',BJ w5 S' (upd (upd h (mB+(mP (x,y) es).getD es.length) (AC (JI I hT (mL (x,y) es++[n])))) g (AC (.map 0 (mE 0 (mS (x,y) (mL (x,y) es++[n]) es)) AF))) μ' /\
    CY w S h μ w5 S' (upd (upd h (mB+(mP (x,y) es).getD es.length) (AC (JI I hT (mL (x,y) es++[n])))) g (AC (.map 0 (mE 0 (mS (x,y) (mL (x,y) es++[n]) es)) AF))) μ' /\
    Cg h μ (upd (upd h (mB+(mP (x,y) es).getD es.length) (AC (JI I hT (mL (x,y) es++[n])))) g (AC (.map 0 (mE 0 (mS (x,y) (mL (x,y) es++[n]) es)) AF))) μ':=by
 obtain ⟨i,hi,hsz1,hby,hzi⟩:=T.hi;have hp0:BJ w (λ_=>False) (Ci 0 AD) μ:=⟨λg o d=>(by obtain ⟨-,e⟩:=Qq d;cases e),λg g' o o' d=>(by obtain ⟨-,e⟩:=Qq d;cases e),λg o d=>(by obtain ⟨-,e⟩:=Qq d;cases e),λb hb=>hb.elim⟩;have hk0:∀ {w:World} {S:AM->Prop},AY w S (.agg [.int .i64 x,.int .i64 y]) (.agg #[.int .i64 x,.int .i64 y]):=λ{w S}=>.agg _ _ rfl (λi y hi=>by
   match i,hi with
   | 0,hi=>rfl
   | 1,hi=>rfl) λi z hi=>by
   match i,hi with
   | 0,hi=>injection hi with hi;subst hi;exact .int _ _
   | 1,hi=>injection hi with hi;subst hi;exact .int _ _
 obtain ⟨p,w1,rbox,S1,μ1,q1,q2,q3,q4⟩:=Jw4 (P:=P) hp0 (e:=kT) (.pure hk0) (c:=[.int .i64 x,.int .i64 y]) rfl 0;have Q:Old w w1:=⟨q3.os,q3.tape,q3.output,q3.size,λb hb=>q3.keep b hb λ⟨g,o,d,_⟩=>(by obtain ⟨-,e⟩:=Qq d;cases e)⟩;obtain ⟨ck,rload,q5⟩:=uJ (P:=P) q2 T.hag T.hsz (.inl rfl) q1 (v:=.agg [.int .i64 x,.int .i64 y]) (by simp [IY,JL,pack,upd,Kh,Ci,cut]);have hck:ck=.agg #[.int .i64 x,.int .i64 y]:=by
  obtain ⟨cs,rfl,hl,hh⟩:=q5.CB;have e0:=(hh 0 _ rfl).1.BI;have e1:=(hh 1 _ rfl).1.BI;simp at hl
  congr 1
  apply Aq
  .simp [<-hl]
  .intro j h1 h2
   match j,h1 with
   | 0,h1=>simpa [Aa,h1] using e0
   | 1,h1=>simpa [Aa,h1] using e1
   | j+2,h1=>omega
 obtain ⟨zv,hzv⟩:=Option.isSome_iff_exists.1 hzi;have rlit:=run_buildSlice (P:=P) w1 sT hT 1 #[(0,.int .i64 n)] #[.int .i64 n] i zv T.hu hi hzv (by omega) (by omega) (by rw [hsz1];exact RP _ _);have o2:Old w1 (w1.alloc (.cells #[.int .i64 n] hT)):=sO _;obtain ⟨f,hw2⟩:∃f,f=w1.alloc (.cells #[.int .i64 n] hT):=⟨_,rfl⟩;rw [<-hw2] at rlit o2;have hnew:f.heap[w1.heap.size]?=AC (.cells #[.int .i64 n] hT (0,0)):=by rw [hw2];exact heap_alloc_new w1 _
 have hsz2:w1.heap.size<f.heap.size:=(Ab.1 hnew).1;have o12:Old w f:=⟨o2.os.trans Q.os,o2.tape.trans Q.tape,⟨o2.output.1.trans Q.output.1,Am Q.output.2 o2.output.2⟩,Am Q.size o2.size,λb hb=>(o2.keep b (Ad hb Q.size)).trans (Q.keep b hb)⟩;have ev2:CY w S h μ f S h μ:=bP o12;have Z:BJ f S h μ:=⟨λg ob d=>(N.ob g ob d).Cz N ev2 (.refl _ _) λhl=>o12.keep _ ((N.ob g ob d).lt hl),N.inj,N.own,λb hb=>Ad (N.lt b hb) o12.size⟩;have K:=Oq (x,y) 0 0 es;have K:posM AE [AF,AF] (EA (.p I I) (x,y)) 0 (mE 0 es)=AC (mP (x,y) es):=by rw [K];cases mP (x,y) es<;>simp
 have hzero:(zeroValue sT).run P f=.ok (.slice AD 0 0) f:=by
  have:=T.hzs;unfold oZ at this;split at this
  .rename_i i' hi';split at this
   .rename_i z hz;have hr:AX f S h μ .BK z:=J0l this;simp [zeroValue,typeInfo,hi',hz,hr.CW]
   .cases this
  .cases this
 obtain ⟨es3,clock,e,rent,⟨old,c0,hold⟩,m,he,hval,M⟩:=J06 (P:=P) Z hm T.ht T.hsh T.hag hzero (k:=EA (.p I I) (x,y)) (ck:=ck) (by rw [hck];exact hk0) rfl K;obtain ⟨S3,μ3,-,Y,ev3,vv3⟩:=map_set Z hm hold M m;obtain ⟨F,hw3⟩:∃F,F=EL f (μ.b g) es3 clock:=⟨_,rfl⟩;rw [<-hw3] at rent Y ev3;have hlt:μ.b g<f.heap.size:=(Ab.1 hold).1;have hb3:F.heap[μ.b g]?=AC (.map es3 clock):=by rw [hw3];simp [EL,hlt]
 have keep3:∀q,q≠μ.b g->F.heap[q]?=f.heap[q]?:=λq G=>by rw [hw3];simp only [EL,Array.getElem?_setIfInBounds];rw [AR (λe=>G e.symm)]
 have hbg:μ.b g<w.heap.size:=(N.ob g _ hm).lt rfl;have L:F.heap[w1.heap.size]?=AC (.cells #[.int .i64 n] hT (0,0)):=(keep3 _ (by have:=Q.size;omega)).trans hnew;have hy:AY F (λq=>q=w1.heap.size) (.CF 1 [.int .i64 n]) (.slice (AC ⟨w1.heap.size,0,AD⟩) 1 1):=by
  refine .CF 1 [.int .i64 n] ⟨w1.heap.size,0,AD⟩ 1 (λ_=>.int .i64 n) (λ_=>rfl) (Ah _) (λi x hi=>?_) (λ_ _ _=>rfl) (λi x hi=>?_)
  .match i,hi with
   | 0,_=>simp [Addr.add,World.cell?,L]
  .match i,hi with
   | 0,hi=>injection hi with hi;subst hi;exact .int _ _
 obtain ⟨J,hJ⟩:∃J,J=(mP (x,y) es).getD es.length:=⟨_,rfl⟩;have hJg:mB+J≠g:=by omega
 obtain ⟨ob,x0,hob,hx0,hap,hfl⟩:∃(ob:AH AU) (x0:AV),h (mB+J)=ob/\(∀ {v},AX f S h μ (Rb (mE 0 es) (mP (x,y) es)) v->AX F (λq=>q=w1.heap.size) (Ci (mB+J) ob) μ3 x0 v) /\
   EN (Ci (mB+J) ob) (mB+J) 1 bytes hT x0 (.CF 1 [.int .i64 n])=AC (.arr (mB+J) ((mL (x,y) es).length+1) 0 ((mL (x,y) es).length+1),Ci (mB+J) (AC (JI I hT (mL (x,y) es++[n])))) /\
   ∀o,ob=AC o->∃ver esz el cells,o=.arr ver esz el cells AF/\IZ cells:=by
  have A:∀H:Heap,Cw H (.CF 1 [.int .i64 n])=AC 1/\Iq H 1 (.CF 1 [.int .i64 n])=AC [.int .i64 n]:=λH=>⟨rfl,rfl⟩;have hcs:=z7;have hints:∀l:AG AI,IZ (Ae (α:=I.T) (Ty.cs I) l):=λl a O=>by rw [hcs] at O;obtain ⟨q,-,rfl⟩:=List.mem_map.1 O;exact ⟨_,_,rfl⟩
  cases G:mP (x,y) es with
  | none=>
   have hl:=Ka7 G;rw [G] at hJ;have hJ:J=es.length:=hJ;refine ⟨AD,.BK,by rw [hJ];exact hfree,λ{v} hr=>?_,?_,λo d=>by cases d⟩
   .rw [AX.CW (h:=h) hr];exact .pure .BK
   .rw [hl] at B ⊢;unfold EN;rw [(A _).1,(A _).2];have h2:(1:AI) * (bytes:AI)<=(room:AM):=by have:=B.1;simp at this;omega
    simp only [List.cons_ne_nil,if_false,Int.toNat_one,Kh,za,bZ];rw [AS ⟨h2,by decide⟩];rfl
  | some j=>
   obtain ⟨k',hk'⟩:=J6j G;rw [G] at hJ;have hJ:J=j:=hJ;subst hJ;have R:=hrow J _ hk';have R:h (mB+J)=AC (.arr (mL (x,y) es).length 1 hT ((mL (x,y) es).flatMap (Ty.cs I)) AF):=R;have hlen:((mL (x,y) es).flatMap (Ty.cs I)).length=(mL (x,y) es).length:=by rw [hcs,List.length_map]
   refine ⟨_,.arr (mB+J) (mL (x,y) es).length 0 (mL (x,y) es).length,R,λ{v} hr=>?_,?_,λo d=>?_⟩
   .have hx:Rb (mE 0 es) (AC J)=.arr (mB+J) (mL (x,y) es).length 0 (mL (x,y) es).length:=by simp only [Rb];have:=(Pn 0 es J).trans (AT (Option.map _) hk');rw [this,Nat.zero_add];rfl
    rw [hx] at hr;have h3:=hr.Cz Z ev3 vv3;cases h3 with
    | pure N=>cases N
    | arr _ _ _ _ _ o d hv h1 hr1=>
     rw [Jd _ _ _ _ hJg,R] at d;exact .arr _ _ _ _ _ o (by rw [za];exact d) hv h1 hr1
   .unfold EN;rw [(A _).1,(A _).2];simp only [za,bZ];have h2:((((mL (x,y) es).length:AM):AI)+1) * (bytes:AI)<=(room:AM):=by exact_mod_cast B.1
    refine (AS ⟨trivial,trivial,trivial,by rw [hlen];simp,h2,B.2⟩).trans ((AR (by simp)).trans ?_);have hcut:cut ((mL (x,y) es).flatMap (Ty.cs I)) (0 * 1) ((mL (x,y) es).length * 1)=(mL (x,y) es).flatMap (Ty.cs I):=by simp only [cut,Nat.zero_mul,Nat.mul_one,List.drop_zero];rw [<-hlen,List.take_length]
    rw [hcut];rw [Jzg];rfl
   .injection d with d;subst d;exact ⟨_,_,_,_,rfl,hints _⟩
 have r:upd h g (AC (.map 0 (II (EA (.p I I) (x,y)) (mE 0 es) (mP (x,y) es)) AF)) (mB+J)=ob:=by rw [Jd _ _ _ _ hJg];exact hob
 have hlv:∀o,ob=AC o->o.live=AE->μ3.b (mB+J)≠μ3.b g:=λo d hl e=>hJg (Y.inj _ _ _ _ (by rw [r];exact d) (Jg _ _ _) hl rfl e);have eμ:μ3.b g=μ.b g:=by obtain ⟨o',a1,a2,a3⟩:=vv3 g _ hm;rw [Jg] at a1;injection a1 with a1;subst a1;exact (a3 rfl).1.1
 have eJ:∀o,ob=AC o->μ3.b (mB+J)=μ.b (mB+J):=λo d=>by obtain ⟨o',a1,a2,a3⟩:=vv3 (mB+J) o (by rw [hob];exact d);rw [Jd _ _ _ _ hJg,hob,d] at a1;injection a1 with a1;subst a1;exact (a3 rfl).1.1
 have hp1:BJ F (λq=>q=w1.heap.size) (Ci (mB+J) ob) μ3:=by
  refine OW Y r hfl (λq G=>?_) λo d hl G=>?_
  .rw [G];exact (Ab.1 L).1
  .have G:μ3.b (mB+J)=w1.heap.size:=G;rw [eJ o d] at G;have:=(N.ob (mB+J) o (by rw [hob];exact d)).lt hl;have:=Q.size;omega
 obtain ⟨cv,w4,rapp,hran⟩:=xS (P:=P) hp1 (t:=sT) (ty:=ty) T.hu hi T.hz (by omega) (hx0 hval) (.pure hy) (by rw [hsz1,hby];exact hap);have hmr:=Jzg hT (mL (x,y) es) n;rw [hmr] at hran;obtain ⟨μ4,hp4,ev4,vv4,hv4,hb4,frame⟩:=J9q Y r (λo d=>by obtain ⟨_,_,_,_,rfl,_⟩:=hfl o d;rfl) (by simp) (λa O=>by
  rcases List.mem_append.1 O with O|O
  .rw [z7] at O;obtain ⟨q,-,rfl⟩:=List.mem_map.1 O;exact ⟨_,_,rfl⟩
  .rw [Ac] at O;exact ⟨_,_,O⟩) hran
 have hb4':w4.heap[μ.b g]?=AC (.map es3 clock):=(frame _ (Ab.1 hb3).1 λo d hl e=>hlv o (by rw [<-r];exact d) hl (by rw [<-e,eμ])).trans hb3;have hge:μ4.b g=μ.b g:=(hb4 g λe=>hJg e.symm).trans eμ;have rst:=J08 (P:=P) hb4' m he mt cv;have ev24:=ev3.trans ev4;have vv24:=vv3.trans vv4;have E:=RY (RZ M Z ev24 vv24) (j:=(mP (x,y) es).getD (mE 0 es).length) hv4;have hset:(II (EA (.p I I) (x,y)) (mE 0 es) (mP (x,y) es)).modify ((mP (x,y) es).getD (mE 0 es).length) (λe=>(e.1,.arr (mB+J) ((mL (x,y) es).length+1) 0 ((mL (x,y) es).length+1)))=mE 0 (mS (x,y) (mL (x,y) es++[n]) es):=by have:=OB (x,y) (mL (x,y) es++[n]) 0 es;rw [<-this,J8k,hJ];simp only [List.length_append,List.length_singleton,Nat.add_zero]
 rw [hset] at E;obtain ⟨S5,μ5,-,X,ev5,vv5⟩:=map_set hp4 (g:=g) (ver:=0) (by rw [Jd _ _ _ _ (λe=>hJg e.symm),Jg]) (by rw [hge];exact hb4') E (Jj3 m _ _ λ_=>rfl);have hH:upd (upd (upd h g (AC (.map 0 (II (EA (.p I I) (x,y)) (mE 0 es) (mP (x,y) es)) AF))) (mB+J) (AC (.arr ((mL (x,y) es).length+1) 1 hT (Ae (α:=I.T) (Ty.cs I) (mL (x,y) es)++[AV.int .i64 n]) AF))) g (AC (.map 0 (mE 0 (mS (x,y) (mL (x,y) es++[n]) es)) AF)) =
   upd (upd h (mB+J) (AC (JI I hT (mL (x,y) es++[n])))) g (AC (.map 0 (mE 0 (mS (x,y) (mL (x,y) es++[n]) es)) AF)):=by
  funext g';by_cases e1:g'=g
  .subst e1;rw [Jg,Jg]
  .rw [Jd _ _ _ _ e1,Jd _ _ _ _ e1];by_cases e2:g'=mB+J
   .subst e2;rw [Jg,Jg,hmr]
   .rw [Jd _ _ _ _ e2,Jd _ _ _ _ e2,Jd _ _ _ _ e1]
 rw [hH] at X ev5 vv5;rw [hge] at X ev5;rw [J8k] at rst X ev5;rw [<-hJ];exact ⟨p,w1,ck,_,f,e.val,e.born,F,cv,w4,_,rbox,rload,rlit,rent,rapp,rst,S5,μ5,X,(ev2.trans ev24).trans ev5,((Cg.refl _ _).trans vv24).trans vv5⟩
def J1j:Code->AG Oper
 | .region _ ops _=>ops.toList
 | .seq a b=>J1j a++J1j b
 | _=>[]
def opAt(l:AG Oper)(i:AM)(dst:AH Tmp)(op:Op):Oper:={ l.getD i default with dst:=dst,op:=op,guard:=AD }
def YB(mt kT hT sT:TypeId)(l:AG Oper):Code:=
 .seq (.region 0 #[opAt l 0 (AC 4) (.box kT (.tmp 1))] AF)
  (.region 1 #[opAt l 1 (AC 6) (.move (.tmp 0)),opAt l 2 (AC 7) (.load kT (.tmp 4)),opAt l 3 (AC 9) (.move (.tmp 2)),opAt l 4 (AC 10) (.buildSlice sT 1 #[(0,.tmp 9)]),
   opAt l 5 (AC 11) (.mapEntry mt (.tmp 6) (.tmp 7)),opAt l 6 (AC 8) (.extract (.tmp 11) 0),{ opAt l 7 (AC 12) (.call ⟨.builtin .append,#[.tmp 8,.tmp 10],#[sT,sT]⟩) with type:=sT },
   opAt l 8 (AC 13) (.extract (.tmp 11) 1),opAt l 9 AD (.entryStore mt (.tmp 6) (.tmp 13) (.tmp 12))] AF)
structure kU (P:Program) (id:FuncId) (mt kT hT sT:TypeId):Prop where
 lt:Nat.ble yB id=AF
 fn : ∃ fn c, P.funcs[id]? = AC fn /\ fn.body = AC c /\ c = YB mt kT hT sT (J1j c) /\ fn.ntmps = 14 /\ fn.results = #[] /\ (fn.name == "runtime.NumGoroutine") = AF
theorem J6u{id:FuncId}{mt kT hT sT:TypeId}(F:kU P id mt kT hT sT){c0 v m:Value}{p ck cy v0 cv:Value}{st:AI}{w1 g d a f:World}{R:Ending->World->Prop}
  (H:(Instr.box kT v).run P w=.ok p w1) (G:(Instr.loadAt kT p).run P w1=.ok ck w1) (E:(Instr.buildSlice sT 1 #[(0,m)]).run P w1=.ok cy g) (B:(Instr.mapEntry mt c0 ck).run P g=.ok (.tuple #[v0,goInt st]) d)
  (A:(Builtin.append_ #[sT,sT] sT #[v0,cy]).run P d=.ok cv a) (y:(Instr.entryStore mt c0 (goInt st) cv).run P a=.ok () f) (hR:R (.returned (.tuple #[])) f):Calls P id #[c0,v,m] w R:=by
 obtain ⟨fn,c,J,r,K,l,h,-⟩:=F.fn;rw [K] at r;refine callsIn_wide.1 (callsIn_of_wp (F:=Fr AD) (n:=0) J r trivial ?_);rw [l];refine wpIn_seq (wpIn_region_list (Jm rfl (by intro c;simp [opAt]) (cv:=p) (w':=w1) ?_ ?_))
 .simp [opAt,execOp,Act.eval,H]
 refine wpListIn_nil (wpIn_region_list ?_);refine Jm rfl (by intro c;simp [opAt]) (cv:=c0) (w':=w1) (by simp [opAt,execOp,Act.eval,Act.put]) ?_;refine Jm rfl (by intro c;simp [opAt]) (cv:=ck) (w':=w1) (by simp [opAt,execOp,Act.eval,Act.put,G]) ?_;refine Jm rfl (by intro c;simp [opAt]) (cv:=m) (w':=w1) (by simp [opAt,execOp,Act.eval,Act.put]) ?_;refine Jm rfl (by intro c;simp [opAt]) (cv:=cy) (w':=g) (by simp [opAt,execOp,Act.eval,Act.put,E]) ?_;refine Jm rfl (by intro c;simp [opAt]) (cv:=.tuple #[v0,goInt st]) (w':=d) (by simp [opAt,execOp,Act.eval,Act.put,B]) ?_;refine Jm rfl (by intro c;simp [opAt]) (cv:=v0) (w':=d) (by simp [opAt,execOp,Act.eval,Act.put,Instr.extract]) ?_;refine Jm rfl (by intro c;simp [opAt]) (cv:=cv) (w':=a) (by simp [opAt,execOp,Act.eval,Act.put,resolve,invoke,builtin,A]) ?_;refine Jm rfl (by intro c;simp [opAt]) (cv:=goInt st) (w':=a) (by simp [opAt,execOp,Act.eval,Act.put,Instr.extract]) ?_;refine Jsy rfl (by intro c;simp [opAt]) (w':=f) (by simp [opAt,execOp,Act.eval,Act.put,y]) ?_;refine wpListIn_nil ⟨rfl,.tuple #[],?_,hR⟩;simp [results,h]
theorem SQ{id:FuncId}{mt kT hT sT:TypeId}{bytes:AM}(F:kU P id mt kT hT sT)(T:AddT P mt kT hT sT bytes):Mw P id (iP hT bytes):=by
 refine ⟨F.lt,?_,λ{α base vs s k r} hd {n0 w S μ a0 fr fs cargs} hF okv E a {R} hR=>?_⟩
 .obtain ⟨fn,c,hf,hb,hc,hnt,hrs,Y⟩:=F.fn;exact ⟨fn,hf,by rw [hb];rfl,Y⟩
 simp only [iP] at hd;split at hd
 .rename_i g kv hv g' el es A;obtain ⟨⟨e1,e2⟩,hd2⟩:=ZC hd;subst e1;subst e2;obtain ⟨kk,hk,hd3⟩:=Ji hd2;obtain ⟨hh,H,hd4⟩:=Ji hd3;have hkv:=cB (s:=s) rfl hk;have H:=cB (s:=s) rfl H;obtain ⟨x,y⟩:=kk;obtain ⟨n,Y⟩:∃n:AI,n=hh:=⟨_,rfl⟩;obtain ⟨es',K⟩:∃es':AG ((Ty.p I I).T×AG AI),es'=es:=⟨_,rfl⟩;obtain ⟨J,B⟩:=Kl hd4;have B:k (.tp []) (⟨s.sl,s.lo,s.ob,s.ln,AC ⟨g,.p I I,I,el,mS (x,y) (mL (x,y) es'++[n]) es'⟩⟩:Dn.S Ty.T).pop=AC r:=by rw [K,Y];exact B
  have A:s.mo=AC ⟨g,.p I I,I,el,es'⟩:=by rw [K];exact A
  have J:decide ((((mL (x,y) es').length:AI)+1) * (bytes:AI)<=(room:AM)/\(((mL (x,y) es').length:AI)+1)<=9223372036854775807)=AE:=by rw [K];exact J
  obtain ⟨f1,f2⟩:=of_decide_eq_true J;have hgm:look g s.ob=AD:=by
   cases hq:look g s.ob with
   | none=>rfl
   | some o=>
    have:=hF.iv.free hq;rw [A] at this;simp [Ey] at this
  have hH:AA s g=AC (.map 0 (mE 0 es') AF):=by simp [AA,hgm,A,Ef,Mo.at];rfl
  have hgB:g<mB:=(hF.iv.mo _ A).1;have G:∀j,look (mB+j) s.ob=AD:=λj=>by
   cases hq:look (mB+j) s.ob with
   | none=>rfl
   | some o=>
    have:=hF.iv.free hq;rw [A] at this;simp [Ey,Az (Nat.le_add_right mB j)] at this
  have O:∀j,AA s (mB+j)=(es'[j]?).map λe=>JI I el e.2:=λj=>by simp only [AA,G,A,Ef,Mo.at];rw [AR (by omega),AS (by omega),Aw];rfl
  have hr1:∀(j:AM) (e:(Ty.p I I).T×AG AI),es'[j]?=AC e->AA s (mB+j)=AC (JI I el e.2):=λj e he=>by rw [O,he];rfl
  have Z:AA s (mB+es'.length)=AD:=by rw [O,List.getElem?_eq_none (Ah _)];rfl
  have a0r:=a 0 _ rfl;have a1r:=a 1 _ rfl;have a2r:=a 2 _ rfl;rw [hkv] at a1r;rw [H] at a2r;have e0:cargs.getD 0 undef=.map (AC (μ.b g)):=by
   have a0r:AX w S (AA s) μ (.map g 0) (cargs.getD 0 undef):=a0r;cases a0r with
   | pure hp=>cases hp
   | map _ _ _ o M hv f hr=>
    rw [hH] at M;injection M with M;subst M;exact hr rfl
  have e1:cargs.getD 1 undef=.agg #[.int .i64 x,.int .i64 y]:=by
   have a1r:AX w S (AA s) μ (.agg [.int .i64 x,.int .i64 y]) (cargs.getD 1 undef):=a1r;obtain ⟨cs,e,hl,f⟩:=a1r.CB;rw [e];have q0:=(f 0 _ rfl).1.BI;have N:=(f 1 _ rfl).1.BI;simp at hl
   congr 1
   apply Aq
   .simp [<-hl]
   .intro j f h2
    match j,f with
    | 0,f=>simpa [Aa,f] using q0
    | 1,f=>simpa [Aa,f] using N
    | j+2,f=>omega
  have e2:cargs.getD 2 undef=.int .i64 n:=by rw [Y];have a2r:AX w S (AA s) μ (.int .i64 hh) (cargs.getD 2 undef):=a2r;exact a2r.BI
  have E:cargs.size=3:=E;have ec:cargs=#[.map (AC (μ.b g)),.agg #[.int .i64 x,.int .i64 y],.int .i64 n]:=by
   apply Aq
   .rw [E];rfl
   .intro j f h2;have gd:cargs[j]=cargs.getD j undef:=by simp [Aa,f]
    rw [gd]
    match j,f with
    | 0,_=>exact e0
    | 1,_=>exact e1
    | 2,_=>exact e2
    | j+3,f=>omega
  obtain ⟨p,w1,ck,cy,w2,v0,st,w3,cv,w4,Q,r1,r2,r3,r4,r5,r6,S',μ',N,L,X⟩:=XZ (P:=P) T hF.fr.hp hH hr1 Z hgB x y n ⟨by exact_mod_cast f1,f2⟩ sT;have eh:=Wx hF.iv A (x,y) (mL (x,y) es'++[n]);obtain ⟨l,v⟩:∃l:Dn.S Ty.T,l=⟨s.sl,s.lo,s.ob,s.ln,AC ⟨g,.p I I,I,el,mS (x,y) (mL (x,y) es'++[n]) es'⟩⟩:=⟨_,rfl⟩;rw [<-v] at eh B;have N:BJ Q S' (AA l) μ':=by rw [eh];exact N
  have L:CY w S (AA s) μ Q S' (AA l) μ':=by rw [eh];exact L
  have X:Cg (AA s) μ (AA l) μ':=by rw [eh];exact X
  have ec2:AB l=AB s:=by rw [v];funext c;cases c<;>rfl
  have st2:CQ s l:=by rw [v];exact ⟨rfl,rfl,λc h=>⟨h,by cases c<;>rfl⟩⟩
  have iv2:Inv l:=by rw [v];refine ⟨hF.iv.sl,hF.iv.lo,hF.iv.ob,λm h=>?_⟩;injection h with h;subst h;refine ⟨hgB,Nat.one_pos,λg' o M=>?_⟩;have:=hF.iv.free M;rw [A] at this;exact this
  have hF2:BG n0 Q S' l μ' a0 (fr::fs):=by refine hF.step rfl ⟨λd=>?_,N,hF.fr.hp.marks hF.fr.df L,hF.fr.sz⟩ st2.on iv2 L X;rw [NM hF.iv st2];exact (hF.fr.fr d).Cz hF.fr.hp L X
  have eh2:AA l.pop=AA l:=by
   unfold Dn.S.pop;split
   .exact Zd rfl rfl
   .rfl
  rw [ec];refine J6u F r1 r2 r3 r4 r5 r6 (hR Q S' μ' (.tp []) l.pop (.tuple #[]) hF2.pop (λc hc=>by cases hc) (.pure (.Cb [] #[] rfl λi x h=>by cases h)) (by rw [eh2];exact L) B)
 .cases hd
end
open Go.Proofs Go.Shelf in
theorem W9{P:Program}{ρ:Ren}(L:SlLaysE.n45 P ρ)(v23:∀w,(zeroValue (ρ.t 23)).run P w=.ok (.int .i64 0) w){i0:TypeInfo}(B:P.info? (ρ.t 23)=AC i0)(r:i0.size=1){w:World}{b off cap i j:AM}{l:AG AI}{cs:Array Value}{el:TypeId}
  (m:w.heap[b]?=AC (.cells cs el (0,0))) (H:off+cap<=cs.size) (f:l.length<=cap) (hM:cap<=9223372036854775807) (d:∀(k:AM) (x:AI),l[k]?=AC x->cs.getD (off+k) undef=.int .i64 x) (A:i<=j) (K:j<=l.length) :
  Calls P (ρ.f 45) #[.slice (AC ⟨b,off,AD⟩) l.length cap,.int .i64 i,.int .i64 j] w λe w'=>e=.returned (.slice (AC ⟨b,off,AD⟩) (l.length - (j - i)) cap)/\w'.os=w.os/\w'.tape=w.tape/\(w'.output=w.output/\w.drawn<=w'.drawn)/\w.heap.size<=w'.heap.size/\(∀q,q<w.heap.size->q≠b->w'.heap[q]?=w.heap[q]?) /\
   ∃cs':Array Value,w'.heap[b]?=AC (.cells cs' el (0,0))/\cs'.size=cs.size/\∀(k:AM) (x:AI),(l.take i++l.drop j)[k]?=AC x->cs'.getD (off+k) undef=.int .i64 x:=by
 have E:b<w.heap.size:=(Ab.1 m).1;have hH:Go.Sort.Holds (Value.int .i64) w b off l.toArray:=λk h=>by
  have g:k<l.length:=by simpa using h
  have F:=d k _ (List.getElem?_eq_getElem g);have a:off+k<cs.size:=by omega
  refine ⟨?_,by simp [World.frozen?,m]⟩;simp only [World.cell?,m];rw [Aa,Aj a] at F;simp only [Option.isSome_none,Bool.false_eq_true,if_false];rw [Aj a];have:l.toArray[k]! = l[k]:=by simp [g]
  rw [this];exact AT AC F
 have run:=AnyE.slices_Delete L (Value.int .i64) (λ_=>rfl) 0 v23 i0 B r b off cap i j l.toArray w hH (by simpa using f) hM A (by simpa using K);rw [show l.toArray.size=l.length from rfl] at run;refine run.mono λe w' ⟨O,q,G⟩=>⟨O,?_⟩;subst G;refine ⟨rfl,rfl,⟨rfl,Nat.le_add_right _ _⟩,?_,λk h v=>?_,Go.Sort.putCells (Value.int .i64) off (l.take i++l.drop j++Ar (j - i) 0).toArray cs,?_,by simp [Go.Sort.putCells],λk x h=>?_⟩
 .show w.heap.size<=(w.heap.modify b _).size;simp
 .show (w.heap.modify b _)[k]?=_;rw [Ap,AR (λq=>v q.symm)]
 .show (w.heap.modify b _)[b]?=_;rw [Ap,AS rfl,m];rfl
 .have y:k<(l.take i++l.drop j).length:=(Ag.1 h).1;have J:(l.take i++l.drop j).length=l.length - (j - i):=by simp;omega
  have a:off+k<cs.size:=by omega
  rw [Aa];simp only [Go.Sort.putCells,Array.getElem?_mapIdx];rw [Aj a];simp only [Af,Option.getD_some];rw [AS ⟨by omega,by simp;omega⟩,show off+k - off=k by omega];have:(l.take i++l.drop j++Ar (j - i) 0).toArray[k]! = x:=by
   have N:(l.take i++l.drop j++Ar (j - i) (0:AI))[k]?=AC x:=by rw [Ai y];exact h
   have M:(l.take i++l.drop j++Ar (j - i) (0:AI)).toArray[k]?=AC x:=by simpa using N
   rw [getElem!_def,M]
  rw [this]
def BR(l:AG Oper)(i:AM)(dst:AH Tmp)(op:Op)(af:Array Edge):Oper:={ l.getD i default with dst:=dst,op:=op,guard:=AD,after:=af }
def NJ(mt kT hT sT iT:TypeId)(cl dl:FuncId)(l:AG Oper):Array Oper:=
 #[BR l 0 (AC 22) (.move (.tmp 0)) #[],BR l 1 (AC 23) (.load kT (.tmp 4)) #[],BR l 2 (AC 24) (.move (.tmp 0)) #[],BR l 3 (AC 25) (.load kT (.tmp 4)) #[],
  BR l 4 (AC 26) (.lookup mt (.tmp 24) (.tmp 25) AF) #[⟨2,.data⟩,⟨3,.data⟩],BR l 5 (AC 27) (.call ⟨.value (.func cl),#[.tmp 26],#[sT]⟩) #[⟨4,.data⟩],
  BR l 6 (AC 28) (.move (.tmp 7)) #[],BR l 7 (AC 29) (.move (.tmp 7)) #[],BR l 8 (AC 30) (.binOp .add iT (.tmp 29) (.const (.int .i64 1)) iT) #[⟨7,.data⟩],
  BR l 9 (AC 31) (.call ⟨.value (.func dl),#[.tmp 27,.tmp 28,.tmp 30],#[sT,iT,iT]⟩) #[⟨5,.data⟩,⟨6,.data⟩,⟨8,.data⟩,⟨5,.chain⟩],
  BR l 10 AD (.mapUpdate mt (.tmp 22) (.tmp 23) (.tmp 31)) #[⟨0,.data⟩,⟨1,.data⟩,⟨9,.data⟩,⟨9,.chain⟩,⟨0,.phase⟩,⟨1,.phase⟩,⟨2,.phase⟩,⟨3,.phase⟩,⟨4,.phase⟩,⟨5,.phase⟩,⟨6,.phase⟩,⟨7,.phase⟩,⟨8,.phase⟩,⟨9,.phase⟩]]
section
variable {P:Program} {w:World}
theorem xJ{kT:TypeId}(m:Cn P kT=AC AE)(f:FJ P kT=AC 2){B:AM}{x y:AI}(hB:w.heap[B]?=AC (.cells #[.int .i64 x,.int .i64 y] kT (0,0))):(Instr.loadAt kT (.pointer (AC ⟨B,0,AD⟩))).run P w=.ok (CG (x,y)) w:=by
 have F:=(Ab.1 hB).1;have E:BJ w (λ_=>False) (Ci 0 (AC (.box 0 [.int .i64 x,.int .i64 y]))) ⟨λ_=>B,λ_=>0,λ_=>0⟩:=by
  refine ⟨λg o d=>?_,λg L o o' d h _ _ _=>by rw [(Qq d).1,(Qq h).1],λg o d _ _ hs=>hs,λb G=>G.elim⟩;obtain ⟨rfl,e⟩:=Qq d;injection e with e;subst e;refine ⟨_,kT,hB,Ah _,λi z hi=>?_⟩
  match i,hi with
  | 0,hi=>injection hi with hi;subst hi;exact ⟨.pure (.int _ _),rfl⟩
  | 1,hi=>injection hi with hi;subst hi;exact ⟨.pure (.int _ _),rfl⟩
 obtain ⟨ck,rload,A⟩:=uJ (P:=P) E m f (.inl rfl) (x:=.ptr 0 0 0) (cx:=.pointer (AC ⟨B,0,AD⟩)) (.ptr 0 0 0 _ _ za (Ah _) rfl λ_=>rfl) (v:=.agg [.int .i64 x,.int .i64 y]) (by simp [IY,JL,pack,Ci,cut]);have l:ck=.agg #[.int .i64 x,.int .i64 y]:=by
  obtain ⟨cs,rfl,hl,r⟩:=A.CB;have J:=(r 0 _ rfl).1.BI;have H:=(r 1 _ rfl).1.BI;simp at hl
  congr 1
  apply Aq
  .simp [<-hl]
  .intro j a K
   match j,a with
   | 0,a=>simpa [Aa,a] using J
   | 1,a=>simpa [Aa,a] using H
   | j+2,a=>omega
 rw [l] at rload;exact rload
variable {mt kT hT sT iT:TypeId} {cl dl:FuncId} {l:AG Oper}
structure TA (a0 a:Act):Prop where
 sz:a.tmps.size=a0.tmps.size
 df:a.defers=a0.defers
 fr:∀d,d<22->a.tmps.getD d undef=a0.tmps.getD d undef
theorem TA.put{a0 a:Act}(h:TA a0 a){d:AM}(hd:22<=d)(hs:d<a.tmps.size)(v:Value):TA a0 (a.put (AC d) v):=
 ⟨by rw [J5];exact h.sz,by rw [Jt];exact h.df,λe f=>by rw [Kd _ _ hs,AR (by omega)];exact h.fr e f⟩
section
variable {ops:Array Oper} {Q:Exit->Act->World->Prop} {a:Act} {w':World} {fuel:AM} {listed:Array AN}
theorem ZJ{i:AM}{o:Oper}{v:Value}(hi:ops[i]?=AC o)(g:o.guard=AD)(f:∀c,o.op≠.defer c)(d:(execOp a.eval o).run P w=.ok (.value v) w')(h:wpAnyIn (Fr AD) 0 P .any ops Q fuel (listed.setIfInBounds i AE) (a.put o.dst v) w') :
  wpOpIn (Fr AD) 0 P ops Q i (wpAnyIn (Fr AD) 0 P .any ops Q fuel (listed.setIfInBounds i AE)) a w:=
 wpOpIn_step hi λK hK=>by simp only [Region.wanted,g,if_true];exact bJ f (Vv.BU d (hK _ _ h))
theorem SL{i:AM}{o:Oper}(hi:ops[i]?=AC o)(g:o.guard=AD)(f:∀c,o.op≠.defer c)(d:(execOp a.eval o).run P w=.ok .skip w')(h:wpAnyIn (Fr AD) 0 P .any ops Q fuel (listed.setIfInBounds i AE) (a.put o.dst undef) w') :
  wpOpIn (Fr AD) 0 P ops Q i (wpAnyIn (Fr AD) 0 P .any ops Q fuel (listed.setIfInBounds i AE)) a w:=
 wpOpIn_step hi λK hK=>by simp only [Region.wanted,g,if_true];exact bJ f (Vv.wp_skip d (hK _ _ h))
theorem Job{i:AM}{o:Oper}{f:FuncId}{args:Array Value}{R:Value->World->Prop}(hi:ops[i]?=AC o)(l:o.guard=AD)(g:∀c,o.op≠.defer c)(d:(execOp a.eval o).run P w=.ok (.enter f args) w)
  (r:Calls P f args w λe w1=>∃cv,e=.returned cv/\R cv w1) (h:∀cv w1,R cv w1->wpAnyIn (Fr AD) 0 P .any ops Q fuel (listed.setIfInBounds i AE) (a.put o.dst cv) w1) :
  wpOpIn (Fr AD) 0 P ops Q i (wpAnyIn (Fr AD) 0 P .any ops Q fuel (listed.setIfInBounds i AE)) a w:=
 wpOpIn_step hi λK hK=>by simp only [Region.wanted,l,if_true];exact bJ g (Vv.DR d r λe w1 ⟨cv,m,hr⟩=>⟨cv,m,hK _ _ (h cv w1 hr)⟩)
end
structure ES (a0:Act) (cm:Value) (i j:AI) (a:Act):Prop where
 ta:TA a0 a
 e22:a.tmps.getD 22 undef=cm
 e24:a.tmps.getD 24 undef=cm
 e28:a.tmps.getD 28 undef=.int .i64 i
 e30:a.tmps.getD 30 undef=.int .i64 j
theorem ES.put{a0 a:Act}{cm:Value}{i j:AI}(h:ES a0 cm i j a)(f:32<=a0.tmps.size){d:AM}(hd:22<=d)(l:d<32)(y:d≠22)(w:d≠24)(r:d≠28)(m:d≠30)(v:Value):ES a0 cm i j (a.put (AC d) v)/\∀e,(a.put (AC d) v).tmps.getD e undef=if e=d then v else a.tmps.getD e undef:=by
 have hs:d<a.tmps.size:=by rw [h.ta.sz];omega
 have g:∀e,(a.put (AC d) v).tmps.getD e undef=if e=d then v else a.tmps.getD e undef:=λe=>Kd _ _ hs e;exact ⟨⟨h.ta.put hd hs v,by rw [g,AR (λe=>y e.symm)];exact h.e22,by rw [g,AR (λe=>w e.symm)];exact h.e24,by rw [g,AR (λe=>r e.symm)];exact h.e28,by rw [g,AR (λe=>m e.symm)];exact h.e30⟩,g⟩
theorem oz(hag:Cn P kT=AC AE)(N:FJ P kT=AC 2)(X:C9 P cl)(O:C9 P dl){B:AM}{x y i j:AI}{cm:Value}{a0:Act}(m:32<=a0.tmps.size)(e4:a0.tmps.getD 4 undef=.pointer (AC ⟨B,0,AD⟩)){Q:Exit->Act->World->Prop}
  {PD PC PL:World->Value->Prop} {Bx:World->Prop} (hBx:∀w,Bx w->w.heap[B]?=AC (.cells #[.int .i64 x,.int .i64 y] kT (0,0)))
  (bD:∀w v,PD w v->Bx w) (bC:∀w v,PC w v->Bx w) (bL:∀w v,PL w v->Bx w)
  (pD:∀w dv,PD w dv->∃Y,(Instr.mapUpdate mt cm (CG (x,y)) dv).run P w=.ok () Y/\∀a',TA a0 a'->Q .normal a' Y)
  (pC:∀w cv,PC w cv->Calls P dl #[cv,.int .i64 i,.int .i64 j] w λe G=>∃dv,e=.returned dv/\PD G dv)
  (pL:∀w lv,PL w lv->Calls P cl #[lv] w λe w1=>∃cv,e=.returned cv/\PC w1 cv)
  {lv:Value} (J:(Instr.lookup mt cm (CG (x,y)) AF).run P w=.ok lv w) (M:PL w lv) {a:Act} (Z:ES a0 cm i j a) :
  wpAnyIn (Fr AD) 0 P .any (NJ mt kT hT sT iT cl dl l) Q 6 #[AE,AF,AE,AF,AF,AF,AE,AE,AE,AF,AF] a w:=by
 have nd:∀ {o:Oper} {op:Op},o.op=op->(∀c,op≠.defer c)->∀c,o.op≠.defer c:=λe h c q=>h c (e▸q);have ev4:∀ {a:Act},ES a0 cm i j a->a.eval (.tmp 4)=.pointer (AC ⟨B,0,AD⟩):=λh=>(h.ta.fr 4 (by decide)).trans e4;have ld:∀ {a:Act} {w:World} {o:Oper},ES a0 cm i j a->Bx w->o.op=.load kT (.tmp 4)->(execOp a.eval o).run P w=.ok (.value (CG (x,y))) w:=λh hb ho=>by simp only [execOp,ho,ev4 h];rw [Sem.run_bind,xJ hag N (hBx _ hb)];rfl
 have T10t:∀ {a:Act} {w:World} {dv:Value},ES a0 cm i j a->a.tmps.getD 23 undef=CG (x,y)->a.tmps.getD 31 undef=dv->PD w dv->wpAnyIn (Fr AD) 0 P .any (NJ mt kT hT sT iT cl dl l) Q 1 #[AE,AE,AE,AE,AE,AE,AE,AE,AE,AE,AF] a w:=λ{a w dv} h e23 e31 F=>by
  obtain ⟨Y,r,fin⟩:=pD w dv F;refine wpAnyIn_all (rs:=[10]) (by kernel_rfl) (by decide) λk A=>?_;obtain rfl:=Ac.1 A;refine SL (o:=BR l 10 AD (.mapUpdate mt (.tmp 22) (.tmp 23) (.tmp 31)) #[⟨0,.data⟩,⟨1,.data⟩,⟨9,.data⟩,⟨9,.chain⟩,⟨0,.phase⟩,⟨1,.phase⟩,⟨2,.phase⟩,⟨3,.phase⟩,⟨4,.phase⟩,⟨5,.phase⟩,⟨6,.phase⟩,⟨7,.phase⟩,⟨8,.phase⟩,⟨9,.phase⟩]) rfl rfl (by intro c;simp [BR]) (w':=Y) ?_ ?_
  .have H:a.eval (.tmp 22)=cm:=h.e22;have K:a.eval (.tmp 23)=CG (x,y):=e23;have a3:a.eval (.tmp 31)=dv:=e31;simp only [execOp,BR,H,K,a3];rw [Sem.run_bind,r];rfl
  .exact wpAnyIn_done (by kernel_rfl) (fin _ h.ta) _
 have T10f:∀ {a:Act} {w:World} {dv:Value},ES a0 cm i j a->a.tmps.getD 31 undef=dv->PD w dv->wpAnyIn (Fr AD) 0 P .any (NJ mt kT hT sT iT cl dl l) Q 2 #[AE,AF,AE,AE,AE,AE,AE,AE,AE,AE,AF] a w:=λ{a w dv} h e31 F=>by refine wpAnyIn_all (rs:=[1]) (by kernel_rfl) (by decide) λk A=>?_;obtain rfl:=Ac.1 A;obtain ⟨E,g⟩:=h.put m (d:=23) (by decide) (by decide) (by decide) (by decide) (by decide) (by decide) (CG (x,y));exact ZJ (o:=BR l 1 (AC 23) (.load kT (.tmp 4)) #[]) rfl rfl (by intro c;simp [BR]) (ld h (bD _ _ F) rfl) (T10t E ((g 23).trans (AS rfl)) ((g 31).trans ((AR (by decide)).trans e31)) F)
 have T9t:∀ {a:Act} {w:World} {cv:Value},ES a0 cm i j a->a.tmps.getD 23 undef=CG (x,y)->a.tmps.getD 27 undef=cv->PC w cv->wpAnyIn (Fr AD) 0 P .any (NJ mt kT hT sT iT cl dl l) Q 2 #[AE,AE,AE,AE,AE,AE,AE,AE,AE,AF,AF] a w:=λ{a w cv} h e23 e27 F=>by
  refine wpAnyIn_all (rs:=[9]) (by kernel_rfl) (by decide) λk A=>?_;obtain rfl:=Ac.1 A;refine Job (o:=BR l 9 (AC 31) (.call ⟨.value (.func dl),#[.tmp 27,.tmp 28,.tmp 30],#[sT,iT,iT]⟩) #[⟨5,.data⟩,⟨6,.data⟩,⟨8,.data⟩,⟨5,.chain⟩]) rfl rfl (by intro c;simp [BR]) (f:=dl) (args:=#[cv,.int .i64 i,.int .i64 j]) (R:=λdv G=>PD G dv) ?_ (pC w cv F) λdv G L=>?_
  .have H:a.eval (.tmp 27)=cv:=e27;have K:a.eval (.tmp 28)=.int .i64 i:=h.e28;have a3:a.eval (.tmp 30)=.int .i64 j:=h.e30;simp [BR,execOp,resolve,Deferred.ofValue,invoke,H,K,a3,show a.eval (.func dl)=.func (.func dl) #[] #[] from rfl,Kx O]
  .obtain ⟨E,g⟩:=h.put m (d:=31) (by decide) (by decide) (by decide) (by decide) (by decide) (by decide) dv;exact T10t E ((g 23).trans ((AR (by decide)).trans e23)) ((g 31).trans (AS rfl)) L
 have T9f:∀ {a:Act} {w:World} {cv:Value},ES a0 cm i j a->a.tmps.getD 27 undef=cv->PC w cv->wpAnyIn (Fr AD) 0 P .any (NJ mt kT hT sT iT cl dl l) Q 3 #[AE,AF,AE,AE,AE,AE,AE,AE,AE,AF,AF] a w:=λ{a w cv} h e27 F=>by
  refine wpAnyIn_all (rs:=[1,9]) (by kernel_rfl) (by decide) λk A=>?_;rcases Au.1 A with rfl|A
  .obtain ⟨E,g⟩:=h.put m (d:=23) (by decide) (by decide) (by decide) (by decide) (by decide) (by decide) (CG (x,y));exact ZJ (o:=BR l 1 (AC 23) (.load kT (.tmp 4)) #[]) rfl rfl (by intro c;simp [BR]) (ld h (bC _ _ F) rfl) (T9t E ((g 23).trans (AS rfl)) ((g 27).trans ((AR (by decide)).trans e27)) F)
  obtain rfl:=Ac.1 A;refine Job (o:=BR l 9 (AC 31) (.call ⟨.value (.func dl),#[.tmp 27,.tmp 28,.tmp 30],#[sT,iT,iT]⟩) #[⟨5,.data⟩,⟨6,.data⟩,⟨8,.data⟩,⟨5,.chain⟩]) rfl rfl (by intro c;simp [BR]) (f:=dl) (args:=#[cv,.int .i64 i,.int .i64 j]) (R:=λdv G=>PD G dv) ?_ (pC w cv F) λdv G L=>?_
  .have H:a.eval (.tmp 27)=cv:=e27;have K:a.eval (.tmp 28)=.int .i64 i:=h.e28;have a3:a.eval (.tmp 30)=.int .i64 j:=h.e30;simp [BR,execOp,resolve,Deferred.ofValue,invoke,H,K,a3,show a.eval (.func dl)=.func (.func dl) #[] #[] from rfl,Kx O]
  .obtain ⟨E,g⟩:=h.put m (d:=31) (by decide) (by decide) (by decide) (by decide) (by decide) (by decide) dv;exact T10f E ((g 31).trans (AS rfl)) L
 have T5t:∀ {a:Act} {w:World} {lv:Value},ES a0 cm i j a->a.tmps.getD 23 undef=CG (x,y)->a.tmps.getD 26 undef=lv->PL w lv->wpAnyIn (Fr AD) 0 P .any (NJ mt kT hT sT iT cl dl l) Q 3 #[AE,AE,AE,AE,AE,AF,AE,AE,AE,AF,AF] a w:=λ{a w lv} h e23 e26 F=>by
  refine wpAnyIn_all (rs:=[5]) (by kernel_rfl) (by decide) λk A=>?_;obtain rfl:=Ac.1 A;refine Job (o:=BR l 5 (AC 27) (.call ⟨.value (.func cl),#[.tmp 26],#[sT]⟩) #[⟨4,.data⟩]) rfl rfl (by intro c;simp [BR]) (f:=cl) (args:=#[lv]) (R:=λcv G=>PC G cv) ?_ (pL w lv F) λcv G L=>?_
  .have H:a.eval (.tmp 26)=lv:=e26;simp [BR,execOp,resolve,Deferred.ofValue,invoke,H,show a.eval (.func cl)=.func (.func cl) #[] #[] from rfl,Kx X]
  .obtain ⟨E,g⟩:=h.put m (d:=27) (by decide) (by decide) (by decide) (by decide) (by decide) (by decide) cv;exact T9t E ((g 23).trans ((AR (by decide)).trans e23)) ((g 27).trans (AS rfl)) L
 have T5f:∀ {a:Act} {w:World} {lv:Value},ES a0 cm i j a->a.tmps.getD 26 undef=lv->PL w lv->wpAnyIn (Fr AD) 0 P .any (NJ mt kT hT sT iT cl dl l) Q 4 #[AE,AF,AE,AE,AE,AF,AE,AE,AE,AF,AF] a w:=λ{a w lv} h e26 F=>by
  refine wpAnyIn_all (rs:=[1,5]) (by kernel_rfl) (by decide) λk A=>?_;rcases Au.1 A with rfl|A
  .obtain ⟨E,g⟩:=h.put m (d:=23) (by decide) (by decide) (by decide) (by decide) (by decide) (by decide) (CG (x,y));exact ZJ (o:=BR l 1 (AC 23) (.load kT (.tmp 4)) #[]) rfl rfl (by intro c;simp [BR]) (ld h (bL _ _ F) rfl) (T5t E ((g 23).trans (AS rfl)) ((g 26).trans ((AR (by decide)).trans e26)) F)
  obtain rfl:=Ac.1 A;refine Job (o:=BR l 5 (AC 27) (.call ⟨.value (.func cl),#[.tmp 26],#[sT]⟩) #[⟨4,.data⟩]) rfl rfl (by intro c;simp [BR]) (f:=cl) (args:=#[lv]) (R:=λcv G=>PC G cv) ?_ (pL w lv F) λcv G L=>?_
  .have H:a.eval (.tmp 26)=lv:=e26;simp [BR,execOp,resolve,Deferred.ofValue,invoke,H,show a.eval (.func cl)=.func (.func cl) #[] #[] from rfl,Kx X]
  .obtain ⟨E,g⟩:=h.put m (d:=27) (by decide) (by decide) (by decide) (by decide) (by decide) (by decide) cv;exact T9f E ((g 27).trans (AS rfl)) L
 have T4t:∀ {a:Act},ES a0 cm i j a->a.tmps.getD 23 undef=CG (x,y)->a.tmps.getD 25 undef=CG (x,y)->wpAnyIn (Fr AD) 0 P .any (NJ mt kT hT sT iT cl dl l) Q 4 #[AE,AE,AE,AE,AF,AF,AE,AE,AE,AF,AF] a w:=λ{a} h e23 e25=>by
  refine wpAnyIn_all (rs:=[4]) (by kernel_rfl) (by decide) λk A=>?_;obtain rfl:=Ac.1 A;refine ZJ (o:=BR l 4 (AC 26) (.lookup mt (.tmp 24) (.tmp 25) AF) #[⟨2,.data⟩,⟨3,.data⟩]) rfl rfl (by intro c;simp [BR]) (v:=lv) (w':=w) ?_ ?_
  .have H:a.eval (.tmp 24)=cm:=h.e24;have K:a.eval (.tmp 25)=CG (x,y):=e25;simp only [execOp,BR,H,K];rw [Sem.run_bind,J];rfl
  .obtain ⟨E,g⟩:=h.put m (d:=26) (by decide) (by decide) (by decide) (by decide) (by decide) (by decide) lv;exact T5t E ((g 23).trans ((AR (by decide)).trans e23)) ((g 26).trans (AS rfl)) M
 have T4f:∀ {a:Act},ES a0 cm i j a->a.tmps.getD 25 undef=CG (x,y)->wpAnyIn (Fr AD) 0 P .any (NJ mt kT hT sT iT cl dl l) Q 5 #[AE,AF,AE,AE,AF,AF,AE,AE,AE,AF,AF] a w:=λ{a} h e25=>by
  refine wpAnyIn_all (rs:=[1,4]) (by kernel_rfl) (by decide) λk A=>?_;rcases Au.1 A with rfl|A
  .obtain ⟨E,g⟩:=h.put m (d:=23) (by decide) (by decide) (by decide) (by decide) (by decide) (by decide) (CG (x,y));exact ZJ (o:=BR l 1 (AC 23) (.load kT (.tmp 4)) #[]) rfl rfl (by intro c;simp [BR]) (ld h (bL _ _ M) rfl) (T4t E ((g 23).trans (AS rfl)) ((g 25).trans ((AR (by decide)).trans e25)))
  obtain rfl:=Ac.1 A;refine ZJ (o:=BR l 4 (AC 26) (.lookup mt (.tmp 24) (.tmp 25) AF) #[⟨2,.data⟩,⟨3,.data⟩]) rfl rfl (by intro c;simp [BR]) (v:=lv) (w':=w) ?_ ?_
  .have H:a.eval (.tmp 24)=cm:=h.e24;have K:a.eval (.tmp 25)=CG (x,y):=e25;simp only [execOp,BR,H,K];rw [Sem.run_bind,J];rfl
  .obtain ⟨E,g⟩:=h.put m (d:=26) (by decide) (by decide) (by decide) (by decide) (by decide) (by decide) lv;exact T5f E ((g 26).trans (AS rfl)) M
 have T3t:∀ {a:Act},ES a0 cm i j a->a.tmps.getD 23 undef=CG (x,y)->wpAnyIn (Fr AD) 0 P .any (NJ mt kT hT sT iT cl dl l) Q 5 #[AE,AE,AE,AF,AF,AF,AE,AE,AE,AF,AF] a w:=λ{a} h e23=>by refine wpAnyIn_all (rs:=[3]) (by kernel_rfl) (by decide) λk A=>?_;obtain rfl:=Ac.1 A;obtain ⟨E,g⟩:=h.put m (d:=25) (by decide) (by decide) (by decide) (by decide) (by decide) (by decide) (CG (x,y));exact ZJ (o:=BR l 3 (AC 25) (.load kT (.tmp 4)) #[]) rfl rfl (by intro c;simp [BR]) (ld h (bL _ _ M) rfl) (T4t E ((g 23).trans ((AR (by decide)).trans e23)) ((g 25).trans (AS rfl)))
 refine wpAnyIn_all (rs:=[1,3]) (by kernel_rfl) (by decide) λk A=>?_;rcases Au.1 A with rfl|A
 .obtain ⟨E,g⟩:=Z.put m (d:=23) (by decide) (by decide) (by decide) (by decide) (by decide) (by decide) (CG (x,y));exact ZJ (o:=BR l 1 (AC 23) (.load kT (.tmp 4)) #[]) rfl rfl (by intro c;simp [BR]) (ld Z (bL _ _ M) rfl) (T3t E ((g 23).trans (AS rfl)))
 obtain rfl:=Ac.1 A;obtain ⟨E,g⟩:=Z.put m (d:=25) (by decide) (by decide) (by decide) (by decide) (by decide) (by decide) (CG (x,y));exact ZJ (o:=BR l 3 (AC 25) (.load kT (.tmp 4)) #[]) rfl rfl (by intro c;simp [BR]) (ld Z (bL _ _ M) rfl) (T4f E ((g 25).trans (AS rfl)))
theorem reg6(hm:P.follows .mixedOrders=AE)(hiT:P.underlying iT=AC (.int .i64))(O:Cn P kT=AC AE)(K:FJ P kT=AC 2)(N:C9 P cl)(M:C9 P dl){B:AM}{x y i:AI}{cm:Value}{a0:Act}(L:32<=a0.tmps.size)(Y:a0.tmps.getD 0 undef=cm)(e4:a0.tmps.getD 4 undef=.pointer (AC ⟨B,0,AD⟩))(X:a0.tmps.getD 7 undef=.int .i64 i){Q:Exit->Act->World->Prop}
  (hQp:∀c a d v w,Q (.panic c) (Act.put a d v) w->Q (.panic c) a w)
  {PD PC PL:World->Value->Prop} {Bx:World->Prop} (hBx:∀w,Bx w->w.heap[B]?=AC (.cells #[.int .i64 x,.int .i64 y] kT (0,0)))
  (bD:∀w v,PD w v->Bx w) (bC:∀w v,PC w v->Bx w) (bL:∀w v,PL w v->Bx w)
  (pD:∀w dv,PD w dv->∃R,(Instr.mapUpdate mt cm (CG (x,y)) dv).run P w=.ok () R/\∀a',TA a0 a'->Q .normal a' R)
  (pC:∀w cv,PC w cv->Calls P dl #[cv,.int .i64 i,.int .i64 (IntKind.wrap .i64 (i+1))] w λe Z=>∃dv,e=.returned dv/\PD Z dv)
  (pL:∀w lv,PL w lv->Calls P cl #[lv] w λe w1=>∃cv,e=.returned cv/\PC w1 cv)
  {lv:Value} (J:(Instr.lookup mt cm (CG (x,y)) AF).run P { w with drawn:=w.drawn+1 }=.ok lv { w with drawn:=w.drawn+1 }) (h0:PL { w with drawn:=w.drawn+1 } lv) (id:AM) :
  (Code.region id (NJ mt kT hT sT iT cl dl l) AE).wpIn (Fr AD) 0 P Q a0 w:=by
 refine wpIn_region_any hm ?_;refine wpAnyIn_take (i:=0) (oi:=BR l 0 (AC 22) (.move (.tmp 0)) #[]) (v:=cm) (fuel:=10) rfl rfl (by kernel_rfl) (by kernel_rfl) (by kernel_rfl) (λc a w=>hQp c a _ _ w) ⟨.inl ⟨rfl,λw=>?_⟩,λw=>?_⟩ ?_
 .have f:a0.eval (.tmp 0)=cm:=Y;simp only [execOp,BR,f];rfl
 .simp [BR,Oper.about]
 obtain ⟨H,F⟩:∃H,H=a0.put (AC 22) (cm):=⟨_,rfl⟩;rw [show ((BR l 0 (AC 22) (.move (.tmp 0)) #[]:Oper).dst)=AC 22 from rfl,<-F];have Z1:H.tmps.size=a0.tmps.size:=by rw [F,J5]
 have G1:∀e,H.tmps.getD e undef=if e=22 then cm else a0.tmps.getD e undef:=λe=>by rw [F,Kd _ _ (by omega)]
 have TA1:TA a0 H:=by rw [F];exact TA.put ⟨rfl,rfl,λd _=>rfl⟩ (by decide) (by omega) _
 refine wpAnyIn_take (i:=2) (oi:=BR l 2 (AC 24) (.move (.tmp 0)) #[]) (v:=cm) (fuel:=9) rfl rfl (by kernel_rfl) (by kernel_rfl) (by kernel_rfl) (λc a w=>hQp c a _ _ w) ⟨.inl ⟨rfl,λw=>?_⟩,λw=>?_⟩ ?_
 .have f:H.eval (.tmp 0)=cm:=by show H.tmps.getD 0 undef=_;rw [G1,AR (by decide)];exact Y
  simp only [execOp,BR,f];rfl
 .simp [BR,Oper.about]
 obtain ⟨G,E⟩:∃G,G=H.put (AC 24) (cm):=⟨_,rfl⟩;rw [show ((BR l 2 (AC 24) (.move (.tmp 0)) #[]:Oper).dst)=AC 24 from rfl,<-E];have Z2:G.tmps.size=a0.tmps.size:=by rw [E,J5,Z1]
 have G2:∀e,G.tmps.getD e undef=if e=24 then cm else H.tmps.getD e undef:=λe=>by rw [E,Kd _ _ (by omega)]
 have TA2:TA a0 G:=by rw [E];exact TA.put TA1 (by decide) (by omega) _
 refine wpAnyIn_take (i:=6) (oi:=BR l 6 (AC 28) (.move (.tmp 7)) #[]) (v:=.int .i64 i) (fuel:=8) rfl rfl (by kernel_rfl) (by kernel_rfl) (by kernel_rfl) (λc a w=>hQp c a _ _ w) ⟨.inl ⟨rfl,λw=>?_⟩,λw=>?_⟩ ?_
 .have f:G.eval (.tmp 7)=.int .i64 i:=by show G.tmps.getD 7 undef=_;rw [G2,AR (by decide),G1,AR (by decide)];exact X
  simp only [execOp,BR,f];rfl
 .simp [BR,Oper.about]
 obtain ⟨a3,A⟩:∃a3,a3=G.put (AC 28) (.int .i64 i):=⟨_,rfl⟩;rw [show ((BR l 6 (AC 28) (.move (.tmp 7)) #[]:Oper).dst)=AC 28 from rfl,<-A];have Z3:a3.tmps.size=a0.tmps.size:=by rw [A,J5,Z2]
 have G3:∀e,a3.tmps.getD e undef=if e=28 then .int .i64 i else G.tmps.getD e undef:=λe=>by rw [A,Kd _ _ (by omega)]
 have TA3:TA a0 a3:=by rw [A];exact TA.put TA2 (by decide) (by omega) _
 refine wpAnyIn_take (i:=7) (oi:=BR l 7 (AC 29) (.move (.tmp 7)) #[]) (v:=.int .i64 i) (fuel:=7) rfl rfl (by kernel_rfl) (by kernel_rfl) (by kernel_rfl) (λc a w=>hQp c a _ _ w) ⟨.inl ⟨rfl,λw=>?_⟩,λw=>?_⟩ ?_
 .have f:a3.eval (.tmp 7)=.int .i64 i:=by show a3.tmps.getD 7 undef=_;rw [G3,AR (by decide),G2,AR (by decide),G1,AR (by decide)];exact X
  simp only [execOp,BR,f];rfl
 .simp [BR,Oper.about]
 obtain ⟨a4,m⟩:∃a4,a4=a3.put (AC 29) (.int .i64 i):=⟨_,rfl⟩;rw [show ((BR l 7 (AC 29) (.move (.tmp 7)) #[]:Oper).dst)=AC 29 from rfl,<-m];have Z4:a4.tmps.size=a0.tmps.size:=by rw [m,J5,Z3]
 have G4:∀e,a4.tmps.getD e undef=if e=29 then .int .i64 i else a3.tmps.getD e undef:=λe=>by rw [m,Kd _ _ (by omega)]
 have TA4:TA a0 a4:=by rw [m];exact TA.put TA3 (by decide) (by omega) _
 refine wpAnyIn_take (i:=8) (oi:=BR l 8 (AC 30) (.binOp .add iT (.tmp 29) (.const (.int .i64 1)) iT) #[⟨7,.data⟩]) (v:=.int .i64 (IntKind.wrap .i64 (i+1))) (fuel:=6) rfl rfl (by kernel_rfl) (by kernel_rfl) (by kernel_rfl) (λc a w=>hQp c a _ _ w) ⟨.inl ⟨rfl,λw=>?_⟩,λw=>?_⟩ ?_
 .have f:a4.eval (.tmp 29)=.int .i64 i:=by show a4.tmps.getD 29 undef=_;rw [G4,AS rfl]
  have hb:(binOp .add iT (.int .i64 i) (.int .i64 1)).run P w=.ok (.int .i64 (IntKind.wrap .i64 (i+1))) w:=by obtain ⟨cv,r,hr⟩:=Jm6 (P:=P) (w:=w) (S:=λ_=>False) (h:=λ_=>AD) (μ:=⟨λ_=>0,λ_=>0,λ_=>0⟩) (t:=iT) (op:=.add) (k:=.i64) (a:=i) (b:=1) (v:=.int .i64 (IntKind.wrap .i64 (i+1))) rfl;rw [r,hr.BI]
  simp only [execOp,BR,f,show a4.eval (.const (.int .i64 1))=.int .i64 1 from rfl];simp [eqGuard,hb]
 .simp [BR,Oper.about]
 obtain ⟨a5,g⟩:∃a5,a5=a4.put (AC 30) (.int .i64 (IntKind.wrap .i64 (i+1))):=⟨_,rfl⟩;rw [show ((BR l 8 (AC 30) (.binOp .add iT (.tmp 29) (.const (.int .i64 1)) iT) #[⟨7,.data⟩]:Oper).dst)=AC 30 from rfl,<-g];have Z5:a5.tmps.size=a0.tmps.size:=by rw [g,J5,Z4]
 have G5:∀e,a5.tmps.getD e undef=if e=30 then .int .i64 (IntKind.wrap .i64 (i+1)) else a4.tmps.getD e undef:=λe=>by rw [g,Kd _ _ (by omega)]
 have TA5:TA a0 a5:=by rw [g];exact TA.put TA4 (by decide) (by omega) _
 have eL:(((((Ax 11 AF).setIfInBounds 0 AE).setIfInBounds 2 AE).setIfInBounds 6 AE).setIfInBounds 7 AE).setIfInBounds 8 AE=#[AE,AF,AE,AF,AF,AF,AE,AE,AE,AF,AF]:=by kernel_rfl
 show wpAnyIn (Fr AD) 0 P .any _ Q 6 ((((((Ax 11 AF).setIfInBounds 0 AE).setIfInBounds 2 AE).setIfInBounds 6 AE).setIfInBounds 7 AE).setIfInBounds 8 AE) _ _;rw [eL];refine oz O K N M L e4 hBx bD bC bL pD pC pL J h0 ⟨TA5,?_,?_,?_,?_⟩
 .rw [G5,AR (by decide),G4,AR (by decide),G3,AR (by decide),G2,AR (by decide),G1,AS rfl]
 .rw [G5,AR (by decide),G4,AR (by decide),G3,AR (by decide),G2,AS rfl]
 .rw [G5,AR (by decide),G4,AR (by decide),G3,AS rfl]
 .rw [G5,AS rfl]
theorem J5y{P:Program}{ro:AH AM}{ops:Array Oper}{Q:Exit->Act->World->Prop}{a:Act}{w:World}{rest:AG Oper}{o:Oper}{f:FuncId}{args:Array Value}{R:Value->World->Prop}(l:o.guard=AD)(g:∀c,o.op≠.defer c)
  (d:(execOp a.eval o).run P w=.ok (.enter f args) w) (r:Calls P f args w λe w1=>∃cv,e=.returned cv/\R cv w1) (h:∀cv w1,R cv w1->wpListIn (Fr ro) 0 P ops Q rest (a.put o.dst cv) w1):wpListIn (Fr ro) 0 P ops Q (o::rest) a w:=
 wpListIn_plain l λK hK=>bJ g (Vv.DR d r λe w1 ⟨cv,m,hr⟩=>⟨cv,m,hK _ _ (h cv w1 hr)⟩)
def mH(id:AM):Code->AG Oper
 | .region i ops _=>if i=id then ops.toList else []
 | .seq a b=>mH id a++mH id b
 | .cond _ a b=>mH id a++mH id b
 | _=>[]
def Nr(mt kT hT sT iT bT:TypeId)(ix cl dl:FuncId)(r:AM->AG Oper):Code:=
 .seq (.region 0 #[opAt (r 0) 0 (AC 4) (.box kT (.tmp 1)),opAt (r 0) 1 (AC 6) (.assign (.const (.bool AF)))] AF)
  (.seq (.region 1 #[opAt (r 1) 0 (AC 8) (.move (.tmp 0)),opAt (r 1) 1 (AC 9) (.load kT (.tmp 4)),opAt (r 1) 2 (AC 10) (.lookup mt (.tmp 8) (.tmp 9) AF),opAt (r 1) 3 (AC 11) (.move (.tmp 2)),opAt (r 1) 4 (AC 12) (.call ⟨.value (.func ix),#[.tmp 10,.tmp 11],#[sT,hT]⟩),opAt (r 1) 5 (AC 7) (.assign (.tmp 12))] AF)
   (.seq (.seq (.region 2 #[opAt (r 2) 0 (AC 13) (.move (.tmp 7)),opAt (r 2) 1 (AC 14) (.binOp .lss iT (.tmp 13) (.const (.int .i64 0)) iT)] AF)
     (.cond (.tmp 14) (.seq (.region 3 #[opAt (r 3) 0 (AC 6) (.assign (.const (.bool AF)))] AF) .ret) .skip))
    (.seq (.seq (.region 4 #[opAt (r 4) 0 (AC 15) (.move (.tmp 0)),opAt (r 4) 1 (AC 16) (.load kT (.tmp 4)),opAt (r 4) 2 (AC 17) (.lookup mt (.tmp 15) (.tmp 16) AF),{ opAt (r 4) 3 (AC 18) (.call ⟨.builtin .len,#[.tmp 17],#[sT]⟩) with type:=iT },opAt (r 4) 4 (AC 19) (.binOp .eql iT (.tmp 18) (.const (.int .i64 1)) iT)] AF)
      (.cond (.tmp 19) (.region 5 #[opAt (r 5) 0 (AC 20) (.move (.tmp 0)),opAt (r 5) 1 (AC 21) (.load kT (.tmp 4)),opAt (r 5) 2 AD (.call ⟨.builtin .delete,#[.tmp 20,.tmp 21],#[mt,kT]⟩)] AF) (.region 6 (NJ mt kT hT sT iT cl dl (r 6)) AE)))
     (.seq (.region 7 #[opAt (r 7) 0 (AC 6) (.assign (.const (.bool AE)))] AF) .ret))))
structure SS (P:Program) (id ix cl dl:FuncId) (mt kT hT sT iT bT:TypeId):Prop where
 lt:Nat.ble yB id=AF
 fn : ∃ fn c, P.funcs[id]? = AC fn /\ fn.body = AC c /\ c = Nr mt kT hT sT iT bT ix cl dl (λi => mH i c) /\ fn.ntmps = 32 /\ fn.results = #[.tmp 6] /\ (fn.name == "runtime.NumGoroutine") = AF
def aX(P:Program)(mt kT:TypeId)(cl dl:FuncId)(c0:Value)(x y:AI)(B:AM)(R:Ending->World->Prop)(i:AI)(w:World):Prop:=
 w.heap[B]?=AC (.cells #[.int .i64 x,.int .i64 y] kT (0,0))/\(i<0->R (.returned (.bool AF)) w) /\
 (0<=i->∃(A:AH Addr) (n c:AM),(Instr.lookup mt c0 (CG (x,y)) AF).run P w=.ok (.slice A n c) w /\
  (n=1->∀ty,∃a,(Builtin.delete_ #[mt,kT] ty #[c0,CG (x,y)]).run P w=.ok (.tuple #[]) a/\R (.returned (.bool AE)) a) /\
  (n≠1->∃(PD PC PL:World->Value->Prop) (Bx:World->Prop) (lv:Value),(∀w,Bx w->w.heap[B]?=AC (.cells #[.int .i64 x,.int .i64 y] kT (0,0)))/\(∀w v,PD w v->Bx w)/\(∀w v,PC w v->Bx w)/\(∀w v,PL w v->Bx w) /\
   (∀w dv,PD w dv->∃a,(Instr.mapUpdate mt c0 (CG (x,y)) dv).run P w=.ok () a/\R (.returned (.bool AE)) a) /\
   (∀w cv,PC w cv->Calls P dl #[cv,.int .i64 i,.int .i64 (IntKind.wrap .i64 (i+1))] w λe d=>∃dv,e=.returned dv/\PD d dv) /\
   (∀w lv,PL w lv->Calls P cl #[lv] w λe w1=>∃cv,e=.returned cv/\PC w1 cv) /\
   (Instr.lookup mt c0 (CG (x,y)) AF).run P { w with drawn:=w.drawn+1 }=.ok lv { w with drawn:=w.drawn+1 }/\PL { w with drawn:=w.drawn+1 } lv))
theorem J56{id ix:FuncId}{bT:TypeId}(F:SS P id ix cl dl mt kT hT sT iT bT)(hm:P.follows .mixedOrders=AE)(hiT:P.underlying iT=AC (.int .i64))(hsT:P.underlying sT=AC (.slice hT))(H:Cn P kT=AC AE)(m:FJ P kT=AC 2)(Z:C9 P ix)(hcl:C9 P cl)(hdl:C9 P dl)
  {c0 lv:Value} {x y E:AI} {R:Ending->World->Prop} (Q:(Instr.lookup mt c0 (CG (x,y)) AF).run P (w.alloc (.cells #[.int .i64 x,.int .i64 y] kT))=.ok lv (w.alloc (.cells #[.int .i64 x,.int .i64 y] kT)))
  (hI:Calls P ix #[lv,.int .i64 E] (w.alloc (.cells #[.int .i64 x,.int .i64 y] kT)) λe g=>∃i,e=.returned (.int .i64 i)/\aX P mt kT cl dl c0 x y w.heap.size R i g):Calls P id #[c0,CG (x,y),.int .i64 E] w R:=by
 obtain ⟨fn,c,hf,hb,hc,X,O,-⟩:=F.fn;rw [hc] at hb;generalize (λi=>mH i c)=r at hb;refine callsIn_wide.1 (callsIn_of_wp (F:=Fr AD) (n:=0) hf hb trivial ?_);rw [X];obtain ⟨A0,hA0⟩:∃A0:Act,A0={ tmps:=#[c0,CG (x,y),.int .i64 E]++Ax (32 - #[c0,CG (x,y),.int .i64 E].size) undef,defers:=[] }:=⟨_,rfl⟩;rw [<-hA0];have Z0:A0.tmps.size=32:=by rw [hA0];simp
 have D0:A0.defers=[]:=by rw [hA0]
 have E0:A0.tmps.getD 0 undef=c0:=by rw [hA0];simp
 have E1:A0.tmps.getD 1 undef=CG (x,y):=by rw [hA0];simp
 have E2:A0.tmps.getD 2 undef=.int .i64 E:=by rw [hA0];simp
 obtain ⟨w1,J⟩:∃w1,w1=w.alloc (.cells #[.int .i64 x,.int .i64 y] kT):=⟨_,rfl⟩;rw [<-J] at Q hI;have hB1:w1.heap[w.heap.size]?=AC (.cells #[.int .i64 x,.int .i64 y] kT (0,0)):=by rw [J];show (w.heap.push _)[w.heap.size]?=_;simp
 refine wpIn_seq (wpIn_region_list ?_);refine Jm rfl (by intro c;simp [opAt]) (cv:=.pointer (AC ⟨w.heap.size,0,AD⟩)) (w':=w1) ?_ ?_
 .have q1:A0.eval (.tmp 1)=CG (x,y):=by show A0.tmps.getD 1 undef=_;exact E1
  simp only [execOp,opAt,q1];rw [J];simp [Instr.box,newVar,newRow,CG,Value.cells]
 obtain ⟨A1,hA1⟩:∃A1,A1=A0.put (AC 4) (.pointer (AC ⟨w.heap.size,0,AD⟩)):=⟨_,rfl⟩;refine (show wpListIn (Fr AD) 0 P _ _ _ (A0.put (AC 4) (.pointer (AC ⟨w.heap.size,0,AD⟩))) w1 from ?_);rw [<-hA1];have Z1:A1.tmps.size=32:=by rw [hA1,J5];exact Z0
 have D1:A1.defers=[]:=by rw [hA1,Jt];exact D0
 have G1:∀e,A1.tmps.getD e undef=if e=4 then .pointer (AC ⟨w.heap.size,0,AD⟩) else A0.tmps.getD e undef:=λe=>by rw [hA1,Kd _ _ (by omega)]
 refine Jm rfl (by intro c;simp [opAt]) (cv:=.bool AF) (w':=w1) ?_ ?_
 .simp only [execOp,opAt];rfl
 obtain ⟨A2,hA2⟩:∃A2,A2=A1.put (AC 6) (.bool AF):=⟨_,rfl⟩;refine (show wpListIn (Fr AD) 0 P _ _ _ (A1.put (AC 6) (.bool AF)) w1 from ?_);rw [<-hA2];have Z2:A2.tmps.size=32:=by rw [hA2,J5];exact Z1
 have D2:A2.defers=[]:=by rw [hA2,Jt];exact D1
 have G2:∀e,A2.tmps.getD e undef=if e=6 then .bool AF else A1.tmps.getD e undef:=λe=>by rw [hA2,Kd _ _ (by omega)]
 refine wpListIn_nil (wpIn_seq (wpIn_region_list ?_));refine Jm rfl (by intro c;simp [opAt]) (cv:=c0) (w':=w1) ?_ ?_
 .have N:A2.eval (.tmp 0)=c0:=by show A2.tmps.getD 0 undef=_;rw [G2,AR (by decide),G1,AR (by decide)];exact E0
  simp only [execOp,opAt,N];rfl
 obtain ⟨A3,hA3⟩:∃A3,A3=A2.put (AC 8) (c0):=⟨_,rfl⟩;refine (show wpListIn (Fr AD) 0 P _ _ _ (A2.put (AC 8) (c0)) w1 from ?_);rw [<-hA3];have Z3:A3.tmps.size=32:=by rw [hA3,J5];exact Z2
 have D3:A3.defers=[]:=by rw [hA3,Jt];exact D2
 have G3:∀e,A3.tmps.getD e undef=if e=8 then c0 else A2.tmps.getD e undef:=λe=>by rw [hA3,Kd _ _ (by omega)]
 refine Jm rfl (by intro c;simp [opAt]) (cv:=CG (x,y)) (w':=w1) ?_ ?_
 .have M:A3.eval (.tmp 4)=.pointer (AC ⟨w.heap.size,0,AD⟩):=by show A3.tmps.getD 4 undef=_;rw [G3,AR (by decide),G2,AR (by decide),G1,AS rfl]
  simp only [execOp,opAt,M];rw [Sem.run_bind,xJ H m hB1];rfl
 obtain ⟨A4,hA4⟩:∃A4,A4=A3.put (AC 9) (CG (x,y)):=⟨_,rfl⟩;refine (show wpListIn (Fr AD) 0 P _ _ _ (A3.put (AC 9) (CG (x,y))) w1 from ?_);rw [<-hA4];have Z4:A4.tmps.size=32:=by rw [hA4,J5];exact Z3
 have D4:A4.defers=[]:=by rw [hA4,Jt];exact D3
 have G4:∀e,A4.tmps.getD e undef=if e=9 then CG (x,y) else A3.tmps.getD e undef:=λe=>by rw [hA4,Kd _ _ (by omega)]
 refine Jm rfl (by intro c;simp [opAt]) (cv:=lv) (w':=w1) ?_ ?_
 .have q8:A4.eval (.tmp 8)=c0:=by show A4.tmps.getD 8 undef=_;rw [G4,AR (by decide),G3,AS rfl]
  have q9:A4.eval (.tmp 9)=CG (x,y):=by show A4.tmps.getD 9 undef=_;rw [G4,AS rfl]
  simp only [execOp,opAt,q8,q9];rw [Sem.run_bind,Q];rfl
 obtain ⟨A5,hA5⟩:∃A5,A5=A4.put (AC 10) (lv):=⟨_,rfl⟩;refine (show wpListIn (Fr AD) 0 P _ _ _ (A4.put (AC 10) (lv)) w1 from ?_);rw [<-hA5];have Z5:A5.tmps.size=32:=by rw [hA5,J5];exact Z4
 have D5:A5.defers=[]:=by rw [hA5,Jt];exact D4
 have G5:∀e,A5.tmps.getD e undef=if e=10 then lv else A4.tmps.getD e undef:=λe=>by rw [hA5,Kd _ _ (by omega)]
 refine Jm rfl (by intro c;simp [opAt]) (cv:=.int .i64 E) (w':=w1) ?_ ?_
 .have q2:A5.eval (.tmp 2)=.int .i64 E:=by show A5.tmps.getD 2 undef=_;rw [G5,AR (by decide),G4,AR (by decide),G3,AR (by decide),G2,AR (by decide),G1,AR (by decide)];exact E2
  simp only [execOp,opAt,q2];rfl
 obtain ⟨A6,hA6⟩:∃A6,A6=A5.put (AC 11) (.int .i64 E):=⟨_,rfl⟩;refine (show wpListIn (Fr AD) 0 P _ _ _ (A5.put (AC 11) (.int .i64 E)) w1 from ?_);rw [<-hA6];have Z6:A6.tmps.size=32:=by rw [hA6,J5];exact Z5
 have D6:A6.defers=[]:=by rw [hA6,Jt];exact D5
 have G6:∀e,A6.tmps.getD e undef=if e=11 then .int .i64 E else A5.tmps.getD e undef:=λe=>by rw [hA6,Kd _ _ (by omega)]
 refine J5y rfl (by intro c;simp [opAt]) (f:=ix) (args:=#[lv,.int .i64 E]) (R:=λcv g=>∃i,cv=.int .i64 i/\aX P mt kT cl dl c0 x y w.heap.size R i g) ?_ (hI.mono λe g ⟨i,he,hT⟩=>⟨_,he,i,rfl,hT⟩) λcv g ⟨i,hcv,hT⟩=>?_
 .have q10:A6.eval (.tmp 10)=lv:=by show A6.tmps.getD 10 undef=_;rw [G6,AR (by decide),G5,AS rfl]
  have q11:A6.eval (.tmp 11)=.int .i64 E:=by show A6.tmps.getD 11 undef=_;rw [G6,AS rfl]
  simp [opAt,execOp,resolve,Deferred.ofValue,invoke,q10,q11,show ∀a:Act,a.eval (.func ix)=.func (.func ix) #[] #[] from λ_=>rfl,Kx Z]
 subst hcv;obtain ⟨A7,hA7⟩:∃A7,A7=A6.put (AC 12) (.int .i64 i):=⟨_,rfl⟩;refine (show wpListIn (Fr AD) 0 P _ _ _ (A6.put (AC 12) (.int .i64 i)) g from ?_);rw [<-hA7];have Z7:A7.tmps.size=32:=by rw [hA7,J5];exact Z6
 have D7:A7.defers=[]:=by rw [hA7,Jt];exact D6
 have G7:∀e,A7.tmps.getD e undef=if e=12 then .int .i64 i else A6.tmps.getD e undef:=λe=>by rw [hA7,Kd _ _ (by omega)]
 refine Jm rfl (by intro c;simp [opAt]) (cv:=.int .i64 i) (w':=g) ?_ ?_
 .have q12:A7.eval (.tmp 12)=.int .i64 i:=by show A7.tmps.getD 12 undef=_;rw [G7,AS rfl]
  simp only [execOp,opAt,q12];rfl
 obtain ⟨A8,hA8⟩:∃A8,A8=A7.put (AC 7) (.int .i64 i):=⟨_,rfl⟩;refine (show wpListIn (Fr AD) 0 P _ _ _ (A7.put (AC 7) (.int .i64 i)) g from ?_);rw [<-hA8];have Z8:A8.tmps.size=32:=by rw [hA8,J5];exact Z7
 have D8:A8.defers=[]:=by rw [hA8,Jt];exact D7
 have G8:∀e,A8.tmps.getD e undef=if e=7 then .int .i64 i else A7.tmps.getD e undef:=λe=>by rw [hA8,Kd _ _ (by omega)]
 obtain ⟨hB2,kneg,kpos⟩:=hT;have cmp:∀ {op:BinOp} {a b:AI} {v:AN} {w:World},TM op .i64 a b=AC (.bool v)->(binOp op iT (.int .i64 a) (.int .i64 b)).run P w=.ok (.bool v) w:=λ{op a b v w} h=>by obtain ⟨cv,r,hr⟩:=Jm6 (P:=P) (w:=w) (S:=λ_=>False) (h:=λ_=>AD) (μ:=⟨λ_=>0,λ_=>0,λ_=>0⟩) (t:=iT) h;rw [r,hr.Ca]
 refine wpListIn_nil (wpIn_seq (wpIn_seq (wpIn_region_list ?_)));refine Jm rfl (by intro c;simp [opAt]) (cv:=.int .i64 i) (w':=g) ?_ ?_
 .have q7:A8.eval (.tmp 7)=.int .i64 i:=by show A8.tmps.getD 7 undef=_;rw [G8,AS rfl]
  simp only [execOp,opAt,q7];rfl
 obtain ⟨A9,hA9⟩:∃A9,A9=A8.put (AC 13) (.int .i64 i):=⟨_,rfl⟩;refine (show wpListIn (Fr AD) 0 P _ _ _ (A8.put (AC 13) (.int .i64 i)) g from ?_);rw [<-hA9];have Z9:A9.tmps.size=32:=by rw [hA9,J5];exact Z8
 have D9:A9.defers=[]:=by rw [hA9,Jt];exact D8
 have G9:∀e,A9.tmps.getD e undef=if e=13 then .int .i64 i else A8.tmps.getD e undef:=λe=>by rw [hA9,Kd _ _ (by omega)]
 refine Jm rfl (by intro c;simp [opAt]) (cv:=.bool (decide (i<0))) (w':=g) ?_ ?_
 .have q13:A9.eval (.tmp 13)=.int .i64 i:=by show A9.tmps.getD 13 undef=_;rw [G9,AS rfl]
  simp only [execOp,opAt,q13,show A9.eval (.const (.int .i64 0))=.int .i64 0 from rfl];rw [Sem.run_bind,Sem.run_bind];simp [eqGuard,cmp (op:=.lss) (a:=i) (b:=0) (v:=decide (i<0)) rfl,Result.andThen]
 obtain ⟨A10,hA10⟩:∃A10,A10=A9.put (AC 14) (.bool (decide (i<0))):=⟨_,rfl⟩;refine (show wpListIn (Fr AD) 0 P _ _ _ (A9.put (AC 14) (.bool (decide (i<0)))) g from ?_);rw [<-hA10];have Z10:A10.tmps.size=32:=by rw [hA10,J5];exact Z9
 have D10:A10.defers=[]:=by rw [hA10,Jt];exact D9
 have G10:∀e,A10.tmps.getD e undef=if e=14 then .bool (decide (i<0)) else A9.tmps.getD e undef:=λe=>by rw [hA10,Kd _ _ (by omega)]
 refine wpListIn_nil (wpIn_cond_split (t:=decide (i<0)) (by show A10.tmps.getD 14 undef=_;rw [G10,AS rfl]) (λl=>?_) λl=>?_)
 .have l:i<0:=of_decide_eq_true l;refine wpIn_seq (wpIn_region_list ?_);refine Jm rfl (by intro c;simp [opAt]) (cv:=.bool AF) (w':=g) ?_ ?_
  .simp only [execOp,opAt];rfl
  obtain ⟨A11,hA11⟩:∃A11,A11=A10.put (AC 6) (.bool AF):=⟨_,rfl⟩;refine (show wpListIn (Fr AD) 0 P _ _ _ (A10.put (AC 6) (.bool AF)) g from ?_);rw [<-hA11];have Z11:A11.tmps.size=32:=by rw [hA11,J5];exact Z10
  have D11:A11.defers=[]:=by rw [hA11,Jt];exact D10
  have G11:∀e,A11.tmps.getD e undef=if e=6 then .bool AF else A10.tmps.getD e undef:=λe=>by rw [hA11,Kd _ _ (by omega)]
  refine wpListIn_nil (wpIn_ret ?_);refine ⟨D11,.bool AF,?_,kneg l⟩;have L:A11.tmps.getD 6 undef=.bool AF:=by rw [G11,AS rfl]
  rw [Aa] at L;simp [results,O,L]
 have l:0<=i:=by have:=of_decide_eq_false l;omega
 obtain ⟨Al,n,cp,Y,k1,kn⟩:=kpos l;refine wpIn_skip (wpIn_seq (wpIn_seq (wpIn_region_list ?_)));refine Jm rfl (by intro c;simp [opAt]) (cv:=c0) (w':=g) ?_ ?_
 .have N:A10.eval (.tmp 0)=c0:=by show A10.tmps.getD 0 undef=_;rw [G10,AR (by decide),G9,AR (by decide),G8,AR (by decide),G7,AR (by decide),G6,AR (by decide),G5,AR (by decide),G4,AR (by decide),G3,AR (by decide),G2,AR (by decide),G1,AR (by decide)];exact E0
  simp only [execOp,opAt,N];rfl
 obtain ⟨A11,hA11⟩:∃A11,A11=A10.put (AC 15) (c0):=⟨_,rfl⟩;refine (show wpListIn (Fr AD) 0 P _ _ _ (A10.put (AC 15) (c0)) g from ?_);rw [<-hA11];have Z11:A11.tmps.size=32:=by rw [hA11,J5];exact Z10
 have D11:A11.defers=[]:=by rw [hA11,Jt];exact D10
 have G11:∀e,A11.tmps.getD e undef=if e=15 then c0 else A10.tmps.getD e undef:=λe=>by rw [hA11,Kd _ _ (by omega)]
 refine Jm rfl (by intro c;simp [opAt]) (cv:=CG (x,y)) (w':=g) ?_ ?_
 .have M:A11.eval (.tmp 4)=.pointer (AC ⟨w.heap.size,0,AD⟩):=by show A11.tmps.getD 4 undef=_;rw [G11,AR (by decide),G10,AR (by decide),G9,AR (by decide),G8,AR (by decide),G7,AR (by decide),G6,AR (by decide),G5,AR (by decide),G4,AR (by decide),G3,AR (by decide),G2,AR (by decide),G1,AS rfl]
  simp only [execOp,opAt,M];rw [Sem.run_bind,xJ H m hB2];rfl
 obtain ⟨A12,hA12⟩:∃A12,A12=A11.put (AC 16) (CG (x,y)):=⟨_,rfl⟩;refine (show wpListIn (Fr AD) 0 P _ _ _ (A11.put (AC 16) (CG (x,y))) g from ?_);rw [<-hA12];have Z12:A12.tmps.size=32:=by rw [hA12,J5];exact Z11
 have D12:A12.defers=[]:=by rw [hA12,Jt];exact D11
 have G12:∀e,A12.tmps.getD e undef=if e=16 then CG (x,y) else A11.tmps.getD e undef:=λe=>by rw [hA12,Kd _ _ (by omega)]
 refine Jm rfl (by intro c;simp [opAt]) (cv:=.slice Al n cp) (w':=g) ?_ ?_
 .have q15:A12.eval (.tmp 15)=c0:=by show A12.tmps.getD 15 undef=_;rw [G12,AR (by decide),G11,AS rfl]
  have q16:A12.eval (.tmp 16)=CG (x,y):=by show A12.tmps.getD 16 undef=_;rw [G12,AS rfl]
  simp only [execOp,opAt,q15,q16];rw [Sem.run_bind,Y];rfl
 obtain ⟨A13,hA13⟩:∃A13,A13=A12.put (AC 17) (.slice Al n cp):=⟨_,rfl⟩;refine (show wpListIn (Fr AD) 0 P _ _ _ (A12.put (AC 17) (.slice Al n cp)) g from ?_);rw [<-hA13];have Z13:A13.tmps.size=32:=by rw [hA13,J5];exact Z12
 have D13:A13.defers=[]:=by rw [hA13,Jt];exact D12
 have G13:∀e,A13.tmps.getD e undef=if e=17 then .slice Al n cp else A12.tmps.getD e undef:=λe=>by rw [hA13,Kd _ _ (by omega)]
 refine Jm rfl (by intro c;simp [opAt]) (cv:=.int .i64 (n:AI)) (w':=g) ?_ ?_
 .have q17:A13.eval (.tmp 17)=.slice Al n cp:=by show A13.tmps.getD 17 undef=_;rw [G13,AS rfl]
  simp [execOp,opAt,resolve,invoke,builtin,q17,Builtin.len_,run_underlying hsT,Builtin.lenOf,goInt]
 obtain ⟨A14,hA14⟩:∃A14,A14=A13.put (AC 18) (.int .i64 (n:AI)):=⟨_,rfl⟩;refine (show wpListIn (Fr AD) 0 P _ _ _ (A13.put (AC 18) (.int .i64 (n:AI))) g from ?_);rw [<-hA14];have Z14:A14.tmps.size=32:=by rw [hA14,J5];exact Z13
 have D14:A14.defers=[]:=by rw [hA14,Jt];exact D13
 have G14:∀e,A14.tmps.getD e undef=if e=18 then .int .i64 (n:AI) else A13.tmps.getD e undef:=λe=>by rw [hA14,Kd _ _ (by omega)]
 refine Jm rfl (by intro c;simp [opAt]) (cv:=.bool (decide ((n:AI)=1))) (w':=g) ?_ ?_
 .have q18:A14.eval (.tmp 18)=.int .i64 (n:AI):=by show A14.tmps.getD 18 undef=_;rw [G14,AS rfl]
  simp only [execOp,opAt,q18,show A14.eval (.const (.int .i64 1))=.int .i64 1 from rfl];rw [Sem.run_bind,Sem.run_bind];simp [eqGuard,run_underlying hiT,cmp (op:=.eql) (a:=(n:AI)) (b:=1) (v:=decide ((n:AI)=1)) rfl,Result.andThen]
 obtain ⟨A15,hA15⟩:∃A15,A15=A14.put (AC 19) (.bool (decide ((n:AI)=1))):=⟨_,rfl⟩;refine (show wpListIn (Fr AD) 0 P _ _ _ (A14.put (AC 19) (.bool (decide ((n:AI)=1)))) g from ?_);rw [<-hA15];have Z15:A15.tmps.size=32:=by rw [hA15,J5];exact Z14
 have D15:A15.defers=[]:=by rw [hA15,Jt];exact D14
 have G15:∀e,A15.tmps.getD e undef=if e=19 then .bool (decide ((n:AI)=1)) else A14.tmps.getD e undef:=λe=>by rw [hA15,Kd _ _ (by omega)]
 have last:∀ {A:Act} {G:World},A.tmps.size=32->A.defers=[]->R (.returned (.bool AE)) G->(Code.seq (.region 7 #[opAt (r 7) 0 (AC 6) (.assign (.const (.bool AE)))] AF) .ret).wpIn (Fr AD) 0 P (bodyPost P fn R) A G:=λ{A G} hz hd hR=>by
  refine wpIn_seq (wpIn_region_list (Jm rfl (by intro c;simp [opAt]) (cv:=.bool AE) (w':=G) (by simp only [execOp,opAt];rfl) (wpListIn_nil (wpIn_ret ⟨?_,.bool AE,?_,hR⟩))))
  .show (A.put (AC 6) _).defers=[];rw [Jt];exact hd
  .have L:(A.put (AC 6) (.bool AE)).tmps.getD 6 undef=.bool AE:=by rw [Kd _ _ (by omega),AS rfl]
   rw [Aa] at L;show (results fn (A.put (AC 6) (.bool AE)).tmps).run P G=_;simp [results,O,L]
 refine wpListIn_nil (wpIn_cond_split (t:=decide ((n:AI)=1)) (by show A15.tmps.getD 19 undef=_;rw [G15,AS rfl]) (λK=>?_) λK=>?_)
 .have K:(n:AI)=1:=of_decide_eq_true K;refine wpIn_region_list ?_;refine Jm rfl (by intro c;simp [opAt]) (cv:=c0) (w':=g) ?_ ?_
  .have N:A15.eval (.tmp 0)=c0:=by show A15.tmps.getD 0 undef=_;rw [G15,AR (by decide),G14,AR (by decide),G13,AR (by decide),G12,AR (by decide),G11,AR (by decide),G10,AR (by decide),G9,AR (by decide),G8,AR (by decide),G7,AR (by decide),G6,AR (by decide),G5,AR (by decide),G4,AR (by decide),G3,AR (by decide),G2,AR (by decide),G1,AR (by decide)];exact E0
   simp only [execOp,opAt,N];rfl
  obtain ⟨A16,hA16⟩:∃A16,A16=A15.put (AC 20) (c0):=⟨_,rfl⟩;refine (show wpListIn (Fr AD) 0 P _ _ _ (A15.put (AC 20) (c0)) g from ?_);rw [<-hA16];have Z16:A16.tmps.size=32:=by rw [hA16,J5];exact Z15
  have D16:A16.defers=[]:=by rw [hA16,Jt];exact D15
  have G16:∀e,A16.tmps.getD e undef=if e=20 then c0 else A15.tmps.getD e undef:=λe=>by rw [hA16,Kd _ _ (by omega)]
  refine Jm rfl (by intro c;simp [opAt]) (cv:=CG (x,y)) (w':=g) ?_ ?_
  .have M:A16.eval (.tmp 4)=.pointer (AC ⟨w.heap.size,0,AD⟩):=by show A16.tmps.getD 4 undef=_;rw [G16,AR (by decide),G15,AR (by decide),G14,AR (by decide),G13,AR (by decide),G12,AR (by decide),G11,AR (by decide),G10,AR (by decide),G9,AR (by decide),G8,AR (by decide),G7,AR (by decide),G6,AR (by decide),G5,AR (by decide),G4,AR (by decide),G3,AR (by decide),G2,AR (by decide),G1,AS rfl]
   simp only [execOp,opAt,M];rw [Sem.run_bind,xJ H m hB2];rfl
  obtain ⟨A17,hA17⟩:∃A17,A17=A16.put (AC 21) (CG (x,y)):=⟨_,rfl⟩;refine (show wpListIn (Fr AD) 0 P _ _ _ (A16.put (AC 21) (CG (x,y))) g from ?_);rw [<-hA17];have Z17:A17.tmps.size=32:=by rw [hA17,J5];exact Z16
  have D17:A17.defers=[]:=by rw [hA17,Jt];exact D16
  have G17:∀e,A17.tmps.getD e undef=if e=21 then CG (x,y) else A16.tmps.getD e undef:=λe=>by rw [hA17,Kd _ _ (by omega)]
  obtain ⟨G,rd,hR⟩:=k1 (by omega) ((r 5)[2]?.getD default).type;refine Jm rfl (by intro c;simp [opAt]) (cv:=.tuple #[]) (w':=G) ?_ ?_
  .have q20:A17.eval (.tmp 20)=c0:=by show A17.tmps.getD 20 undef=_;rw [G17,AR (by decide),G16,AS rfl]
   have q21:A17.eval (.tmp 21)=CG (x,y):=by show A17.tmps.getD 21 undef=_;rw [G17,AS rfl]
   simp [execOp,opAt,resolve,invoke,builtin,q20,q21,rd]
  .exact wpListIn_nil (last Z17 D17 hR)
 .have K:n≠1:=λe=>by have:=of_decide_eq_false K;omega
  obtain ⟨PD,PC,PL,Bx,lv2,x1,x2,x3,x4,x5,x6,x7,x8,x9⟩:=kn K;refine reg6 hm hiT H m hcl hdl (B:=w.heap.size) (x:=x) (y:=y) (i:=i) (cm:=c0) (by rw [Z15];exact Ah _) (by rw [G15,AR (by decide),G14,AR (by decide),G13,AR (by decide),G12,AR (by decide),G11,AR (by decide),G10,AR (by decide),G9,AR (by decide),G8,AR (by decide),G7,AR (by decide),G6,AR (by decide),G5,AR (by decide),G4,AR (by decide),G3,AR (by decide),G2,AR (by decide),G1,AR (by decide)];exact E0) (by rw [G15,AR (by decide),G14,AR (by decide),G13,AR (by decide),G12,AR (by decide),G11,AR (by decide),G10,AR (by decide),G9,AR (by decide),G8,AR (by decide),G7,AR (by decide),G6,AR (by decide),G5,AR (by decide),G4,AR (by decide),G3,AR (by decide),G2,AR (by decide),G1,AS rfl]) (by rw [G15,AR (by decide),G14,AR (by decide),G13,AR (by decide),G12,AR (by decide),G11,AR (by decide),G10,AR (by decide),G9,AR (by decide),G8,AS rfl]) (λc a d v w q=>?_) x1 x2 x3 x4 (λw dv hq=>?_) x6 x7 x8 x9 6
  .simp only [Exit.then] at q ⊢;exact ⟨by have:=q.1;rw [Jt] at this;exact this,q.2⟩
  .obtain ⟨G,r1,r2⟩:=x5 w dv hq;exact ⟨G,r1,λa' hT=>last (by rw [hT.sz,Z15]) (by rw [hT.df,D15]) r2⟩
end
section
variable {nt:AM} {w w':World} {S:AM->Prop} {s:Dn.S Ty.T} {μ:Gh} {a:Act} {fs:AG Fm}
theorem BG.pin(hF:BG nt w S s μ a fs)(o:Old w w'){b:AM}(r:w.heap.size<=b)(m:b<w'.heap.size):BG nt w' (λq=>S q\/q=b) s μ a fs/\CY w S (AA s) μ w' (λq=>S q\/q=b) (AA s) μ:=by
 have ev:CY w S (AA s) μ w' (λq=>S q\/q=b) (AA s) μ:=
  ⟨o.os,o.tape,o.output,o.size,λb r _=>o.keep b r,λb cs el z v=>⟨cs,(o.keep b (Ab.1 v).1).trans v,rfl⟩,λ_ h=>.inl h,λq h=>by rcases h with h|rfl;exact .inl h;exact .inr (.inl r),λ_ h=>.inl h,rfl⟩
 have A:BJ w' (λq=>S q\/q=b) (AA s) μ:=by
  refine ⟨λg ob f=>(hF.fr.hp.ob g ob f).Cz hF.fr.hp ev (.refl _ _) λhl=>o.keep _ ((hF.fr.hp.ob g ob f).lt hl),hF.fr.hp.inj,λg ob f y hl hs=>?_,λq l=>?_⟩
  .rcases hs with hs|hs
   .exact hF.fr.hp.own g ob f y hl hs
   .have:=(hF.fr.hp.ob g ob f).lt hl;omega
  .rcases l with l|rfl
   .exact Ad (hF.fr.hp.lt q l) o.size
   .exact m
 exact ⟨hF.step rfl ⟨λd=>(hF.fr.fr d).Cz hF.fr.hp ev (.refl _ _),A,hF.fr.hp.marks hF.fr.df ev,hF.fr.sz⟩ (.refl s) hF.iv ev (.refl _ _),ev⟩
theorem BG.mp(hF:BG nt w S s μ a fs){g ver:AM}{kt vt:Ty}{es es':AG (kt.T×vt.T)}(r:look g s.ob=AC (.mp ver kt vt es))(hr:Ran w S (AA s) μ (.Cb []) (upd (AA s) g (AC (.map ver (Cm kt vt es') AF))) (.tuple #[]) w') :
  ∃S' μ',BG nt w' S' (s.obj g (.mp ver kt vt es')) μ' a fs/\CY w S (AA s) μ w' S' (AA (s.obj g (.mp ver kt vt es'))) μ':=by
 obtain ⟨S',μ',-,m,ev,vv⟩:=hr;have st:CQ s (s.obj g (.mp ver kt vt es')):=Zh λy f=>by rw [r] at f;injection f with f;subst f;exact ⟨rfl,rfl⟩
 have iv:Inv (s.obj g (.mp ver kt vt es')):=MV hF.iv st (λl=>Qb g l _) (λc v=>by cases v) (hF.iv.free r);have h:=jf hF.iv st (λl=>Qb g l _);have h:AA (s.obj g (.mp ver kt vt es'))=upd (AA s) g (AC (.map ver (Cm kt vt es') AF)):=h;rw [<-h] at m ev vv;refine ⟨S',μ',hF.step rfl ⟨λd=>?_,m,hF.fr.hp.marks hF.fr.df ev,hF.fr.sz⟩ st.on iv ev vv,ev⟩;rw [NM hF.iv st];exact (hF.fr.fr d).Cz hF.fr.hp ev vv
theorem J9m{w1 f d:World}(a:Old w1 f)(b:Old f d):Old w1 d:=
 ⟨b.os.trans a.os,b.tape.trans a.tape,⟨b.output.1.trans a.output.1,Am a.output.2 b.output.2⟩,Am a.size b.size,λq g=>(b.keep q (Ad g a.size)).trans (a.keep q g)⟩
theorem O4{w:World}:Old w { w with drawn:=w.drawn+1 }:=⟨rfl,rfl,⟨rfl,Nat.le_succ _⟩,Ah _,λ_ _=>rfl⟩
end
open Go.Proofs Go.Shelf in
theorem J8j{P:Program}{ρ:Ren}(L:SlLaysE.n45 P ρ)(v23:∀w,(zeroValue (ρ.t 23)).run P w=.ok (.int .i64 0) w){i0:TypeInfo}(hi0:P.info? (ρ.t 23)=AC i0)(hz1:i0.size=1)(hdl:C9 P (ρ.f 45))
  {id ix cl:FuncId} {mt kT hT sT iT bT:TypeId} {bytes:AM} {fn:AG AI×AI->AH AI} {cfn:AG AI->AH (AG AI)} (F:SS P id ix cl (ρ.f 45) mt kT hT sT iT bT) (T:AddT P mt kT hT sT bytes) (hm:P.follows .mixedOrders=AE) (hiT:P.underlying iT=AC (.int .i64)) (gix:Good P (ixC ix fn))
  (goc:Mq P ⟨cl,[(.one,.ls I)],hT,I,cfn⟩) (hcfn:∀l:AG AI,((l.length:AM):AI) * bytes<=room/\((l.length:AM):AI)<=9223372036854775807->cfn l=AC l):Mw P id (takeB bytes ix fn):=by
 refine ⟨F.lt,?_,λ{α base vs s k r} hd {n0 w S μ a0 fr fs cargs} hF okv hsz E {R} hR=>?_⟩
 .obtain ⟨f0,c,hf,hb,hc,hnt,hrs,Q⟩:=F.fn;exact ⟨f0,hf,by rw [hb];rfl,Q⟩
 simp only [takeB] at hd;split at hd
 .rename_i g ver kv hv;split at hd
  .rename_i wv' es ho;obtain ⟨e1,hd2⟩:=ZC hd;subst e1;obtain ⟨kk,hk,hd3⟩:=Ji hd2;obtain ⟨hh,hhv,hd4⟩:=Ji hd3;have hkv:=cB (s:=s) rfl hk;have hhv:=cB (s:=s) rfl hhv;obtain ⟨x,y⟩:=kk;obtain ⟨es',Z⟩:∃es':AG ((Ty.p I I).T×AG AI),es'=es:=⟨_,rfl⟩;obtain ⟨n,Q⟩:∃n:AI,n=hh:=⟨_,rfl⟩;obtain ⟨l,hl⟩:∃l:AG AI,l=mL (x,y) es':=⟨_,rfl⟩;have hd5:Hz (fn (l,n)) (λi=>Nq val s g wv' bytes es (x,y) l i (Wi .add .i64 i 1) k)=AC r:=by rw [hl,Z,Q];exact hd4
   obtain ⟨i,hfi,hd6⟩:=Jm7 hd5;have H:look g s.ob=AC (.mp wv' (.p I I) (.ls I) es'):=by rw [Z];exact ho
   have eG:AA s g=AC (.map wv' (Cm (.p I I) (.ls I) es') AF):=by rw [Jj H];rfl
   have a0r:=E 0 _ rfl;have a1r:=E 1 _ rfl;have a2r:=E 2 _ rfl;rw [hkv] at a1r;rw [hhv] at a2r;have a0r:AX w S (AA s) μ (.map g wv') (cargs.getD 0 undef):=a0r;have e0:cargs.getD 0 undef=.map (AC (μ.b g)):=a0r.I6 eG;have e1:cargs.getD 1 undef=CG (x,y):=by
    have a1r:AX w S (AA s) μ (.agg [.int .i64 x,.int .i64 y]) (cargs.getD 1 undef):=a1r;obtain ⟨cs,e,hl,B⟩:=a1r.CB;rw [e];have q0:=(B 0 _ rfl).1.BI;have q1:=(B 1 _ rfl).1.BI;simp at hl;show Value.agg cs=Value.agg #[.int .i64 x,.int .i64 y]
    congr 1
    apply Aq
    .simp [<-hl]
    .intro j B h2
     match j,B with
     | 0,B=>simpa [Aa,B] using q0
     | 1,B=>simpa [Aa,B] using q1
     | j+2,B=>omega
   have e2:cargs.getD 2 undef=.int .i64 n:=by rw [Q];have a2r:AX w S (AA s) μ (.int .i64 hh) (cargs.getD 2 undef):=a2r;exact a2r.BI
   have hsz:cargs.size=3:=hsz;have ec:cargs=#[.map (AC (μ.b g)),CG (x,y),.int .i64 n]:=by
    apply Aq
    .rw [hsz];rfl
    .intro j B h2;have gd:cargs[j]=cargs.getD j undef:=by simp [Aa,B]
     rw [gd]
     match j,B with
     | 0,_=>exact e0
     | 1,_=>exact e1
     | 2,_=>exact e2
     | j+3,B=>omega
   have M:∀ {w:World} {S:AM->Prop},AY w S (EA (.p I I) (x,y)) (CG (x,y)):=λ{w S}=>by
    refine .agg _ _ rfl (λi y hi=>?_) λi y hi=>?_
    .match i,hi with
     | 0,hi=>rfl
     | 1,hi=>rfl
    .match i,hi with
     | 0,hi=>injection hi with hi;subst hi;exact .int _ _
     | 1,hi=>injection hi with hi;subst hi;exact .int _ _
   have hlt:=(hF.fr.hp.ob g _ eG).lt rfl;have mapR:∀ {w1:World},Old w w1->AX w1 S (AA s) μ (.map g wv') (.map (AC (μ.b g))):=λ{w1} o=>by
    have:AX w S (AA s) μ (.map g wv') (.map (AC (μ.b g))):=by rw [<-e0];exact a0r
    exact this.Cz hF.fr.hp (bP o) (.refl _ _)
   have LK:∀ {w1:World},Old w w1->∃lv,(Instr.lookup mt (.map (AC (μ.b g))) (CG (x,y)) AF).run P w1=.ok lv w1/\AY w1 S (.CF l.length (l.map (AV.int .i64))) lv:=λ{w1} o=>by
    have B:=hF.old o;have he:=Ph (kt:=.p I I) (vt:=.ls I) J3e rfl es' (x,y) [] (zv:=.CF 0 []) rfl AF;obtain ⟨lv,r1,r2⟩:=Jsz (P:=P) B.fr.hp T.ht T.hsh T.hag T.hzs (mapR o) (.pure M) (x:=.map g wv') (k:=EA (.p I I) (x,y)) (ok:=AF) (v:=.CF l.length (l.map (AV.int .i64))) (by
     have hc:JC (AA s) (.map g wv')=AC (Cm (.p I I) (.ls I) es'):=uL H;refine (AT (oG AF AE [AF,AF] (.CF 0 []) (EA (.p I I) (x,y))) hc).trans (he.trans ?_);rw [hl];exact AT AC (by show AV.CF (mL (x,y) es').length (Ae (α:=I.T) (Ty.cs I) (mL (x,y) es'))=_;rw [z7]))
    exact ⟨lv,r1,r2.flat rfl⟩
   have sl:∀ {w1:World} {lv:Value},AY w1 S (.CF l.length (l.map (AV.int .i64))) lv->∃A c,lv=.slice A l.length c:=λ{w1 lv} h=>by
    generalize Y:l.length=q at h;generalize l.map (AV.int .i64)=C at h;cases h with
    | FQ=>exact ⟨_,_,rfl⟩
    | CF _ _ a cap cv=>exact ⟨_,_,rfl⟩
   have hbx:w.heap.size<(w.alloc (.cells #[.int .i64 x,.int .i64 y] kT)).heap.size:=by show w.heap.size<(w.heap.push _).size;simp
   have o1:Old w (w.alloc (.cells #[.int .i64 x,.int .i64 y] kT)):=sO _;have hB1:(w.alloc (.cells #[.int .i64 x,.int .i64 y] kT)).heap[w.heap.size]?=AC (.cells #[.int .i64 x,.int .i64 y] kT (0,0)):=by show (w.heap.push _)[w.heap.size]?=_;simp
   obtain ⟨w1,hw1⟩:∃w1,w1=w.alloc (.cells #[.int .i64 x,.int .i64 y] kT):=⟨_,rfl⟩;rw [<-hw1] at hbx o1 hB1;obtain ⟨lv,hlk,hlv⟩:=LK o1;rw [ec];have hS1:∀b,S b->b<w1.heap.size:=λb hb=>Ad (hF.fr.hp.lt b hb) o1.size;refine J56 F hm hiT T.hu T.hag T.hsz gix.fn goc.fn hdl (c0:=.map (AC (μ.b g))) (lv:=lv) (by rw [<-hw1];exact hlk) (by
    rw [<-hw1];refine (gix.run (l,n) i hfi w1 S #[lv,.int .i64 n] hS1 rfl λq z f=>?_).mono λe w2 ⟨cv,he,J,hold⟩=>?_
    .match q,f with
     | 0,f=>
      injection f with f;subst f;have:(AV.CF (List.length (α:=I.T) l) (Ae (α:=I.T) (Ty.cs I) l))=.CF l.length (l.map (AV.int .i64)):=by rw [z7];rfl
      show AY w1 S (AV.CF (List.length (α:=I.T) l) (Ae (α:=I.T) (Ty.cs I) l)) lv;rw [this];exact hlv
     | 1,f=>injection f with f;subst f;exact .int _ _
    .have hcv:cv=.int .i64 i:=by have J:AY w2 (zb S w1 w2) (.int .i64 i) cv:=J;cases J;rfl
     subst hcv;refine ⟨i,he,?_⟩;have o2:Old w w2:=J9m o1 hold;have hB2:w2.heap[w.heap.size]?=AC (.cells #[.int .i64 x,.int .i64 y] kT (0,0)):=(hold.keep _ hbx).trans hB1;have fin:∀ {G:World} {S3:AM->Prop} {μ3:Gh} {s3:Dn.S Ty.T} {b:AN},BG n0 G S3 s3 μ3 a0 (fr::fs)->CY w S (AA s) μ G S3 (AA s3) μ3->k (.c (.kb b)) s3.pop=AC r->R (.returned (.bool b)) G:=λ{G S3 μ3 s3 b} h3 ev hk=>by
      have eh:AA s3.pop=AA s3:=by
       unfold Dn.S.pop;split
       .exact Zd rfl rfl
       .rfl
      exact hR G S3 μ3 (.c (.kb b)) s3.pop (.bool b) h3.pop (Xe λq Y=>by cases Y) (.pure (.bool b)) (by rw [eh];exact ev) hk
     unfold Nq at hd6;rcases Sv hd6 with ⟨c1,hd7⟩|⟨c1,hd7⟩
     .have c1:i<0:=of_decide_eq_true (show decide (i<0)=AE from c1);exact ⟨hB2,λ_=>fin (hF.old o2) (bP o2) hd7,λh=>by omega⟩
     have c1:¬i<0:=of_decide_eq_false (show decide (i<0)=AF from c1);refine ⟨hB2,λh=>(c1 h).elim,λ_=>?_⟩;obtain ⟨lv2,hlk2,hlv2⟩:=LK o2;obtain ⟨A,c,rfl⟩:=sl hlv2;refine ⟨A,l.length,c,hlk2,λB ty=>?_,λB=>?_⟩
     .rcases Sv hd7 with ⟨X,O⟩|⟨X,O⟩
      .have h2:=hF.old o2;have hde:=J7k (kt:=.p I I) (vt:=.ls I) J3e H (x,y);obtain ⟨G,r1,r2⟩:=Jsb (P:=P) (ty:=ty) (ts:=#[mt,kT]) (t:=mt) h2.fr.hp rfl T.ht T.hsh T.hag (mapR o2) (.pure M) (x:=.map g wv') (k:=EA (.p I I) (x,y)) hde;obtain ⟨S3,μ3,h3,ev3⟩:=h2.mp H r2;refine ⟨G,r1,fin h3 ((bP o2).trans ev3) ?_⟩;rw [Z];exact O
      .exfalso;have X:(((l.length:AM):AI)==1)=AF:=X;rw [B] at X;exact absurd X (by decide)
     .rcases Sv hd7 with ⟨X,O⟩|⟨X,O⟩
      .exfalso;have X:(((l.length:AM):AI)==1)=AE:=X;have:((l.length:AM):AI)=1:=by simpa using X
       exact B (by omega)
      obtain ⟨N,hd9⟩:=Kl O;have N:=bF N;have N:((l.length:AM):AI) * bytes<=room/\((l.length:AM):AI)<=9223372036854775807:=N;obtain ⟨hg,hd10⟩:=Kl hd9;obtain ⟨j,hj⟩:∃j:AI,j=IntKind.wrap .i64 (i+1):=⟨_,rfl⟩;have hg:(decide (0<=i/\i<((l.length:AM):AI))&&(decide (i+1<=j)&&decide (j<=((l.length:AM):AI))))=AE:=by rw [hj];exact hg
      simp only [Bool.and_eq_true,decide_eq_true_eq] at hg;obtain ⟨⟨g1,g2⟩,g3,g4⟩:=hg;obtain ⟨m,hmd⟩:∃m:AG AI,m=l.take i.toNat++l.drop j.toNat:=⟨_,rfl⟩;have hmm:(((l.drop (0:AI).toNat).take i.toNat)++((l.drop j.toNat).take (((l.length:AM):AI) - j).toNat))=m:=by
       rw [hmd]
       congr 1
       rw [List.take_of_length_le (by simp;omega)]
      have hd11:k (.c (.kb AE)) (s.obj g (.mp wv' (.p I I) (.ls I) (mS (x,y) m es'))).pop=AC r:=by rw [<-hmm,Z,hj];exact hd10
      obtain ⟨Bx,hBx⟩:∃Bx:World->Prop,Bx=λw'=>Old w w'/\w'.heap[w.heap.size]?=AC (.cells #[.int .i64 x,.int .i64 y] kT (0,0)):=⟨_,rfl⟩;have o3:Old w { w2 with drawn:=w2.drawn+1 }:=J9m o2 O4;obtain ⟨lv3,hlk3,hlv3⟩:=LK o3;refine ⟨λw' dv=>Bx w'/\∃b,w.heap.size<=b/\b<w'.heap.size/\AY w' (λq=>S q\/q=b) (.CF m.length (m.map (AV.int .i64))) dv,
       λw' cv=>Bx w'/\∃(b o cap:AM) (cs:Array Value),w.heap.size<b/\cv=.slice (AC ⟨b,o,AD⟩) l.length cap/\(l.length<=cap/\cap<=9223372036854775807)/\w'.heap[b]?=AC (.cells cs hT (0,0))/\o+cap<=cs.size/\∀(q:AM) (z:AI),l[q]?=AC z->cs.getD (o+q) undef=.int .i64 z,
       λw' lv=>Bx w'/\AY w' S (.CF l.length (l.map (AV.int .i64))) lv,Bx,lv3,λw' h=>by rw [hBx] at h;exact h.2,λ_ _ h=>h.1,λ_ _ h=>h.1,λ_ _ h=>h.1,?_,?_,?_,hlk3,by rw [hBx];exact ⟨o3,hB2⟩,hlv3⟩
      .rintro G dv ⟨d,b,b1,b2,b3⟩;rw [hBx] at d;obtain ⟨h3,ev3⟩:=hF.pin d.1 b1 b2;have hse:=J7n (kt:=.p I I) (vt:=.ls I) J3e H (x,y) m;have hmapR:AX G (λq=>S q\/q=b) (AA s) μ (.map g wv') (.map (AC (μ.b g))):=by
        have:AX w S (AA s) μ (.map g wv') (.map (AC (μ.b g))):=by rw [<-e0];exact a0r
        exact this.Cz hF.fr.hp ev3 (.refl _ _)
       obtain ⟨w4,r1,r2⟩:=Jmp (P:=P) (t:=mt) h3.fr.hp T.ht T.hsh T.hag hmapR (.pure M) (.pure b3) (x:=.map g wv') (k:=EA (.p I I) (x,y)) (v:=.CF m.length (m.map (AV.int .i64))) (h':=upd (AA s) g (AC (.map wv' (Cm (.p I I) (.ls I) (mS (x,y) m es')) AF))) (by
        refine Eq.trans ?_ hse;have:(AV.CF m.length (m.map (AV.int .i64)))=EA (.ls I) m:=by show _=AV.CF (List.length (α:=I.T) m) (Ae (α:=I.T) (Ty.cs I) m);rw [z7];rfl
        rw [this];rfl)
       obtain ⟨S4,μ4,h4,ev4⟩:=h3.mp H r2;exact ⟨w4,r1,fin h4 (ev3.trans ev4) hd11⟩
      .rintro G cv ⟨d,b,o,cap,cs,b1,rfl,b2,b3,b4,b5⟩;rw [hBx] at d;have run:=W9 L v23 hi0 hz1 (i:=i.toNat) (j:=j.toNat) b3 b4 b2.1 b2.2 b5 (by omega) (by omega);rw [show ((i.toNat:AM):AI)=i by omega,show ((j.toNat:AM):AI)=j by omega,hj] at run;refine run.mono λe w4 ⟨e0',r1,r2,r3,r4,r5,cs',r6,r7,r8⟩=>⟨_,e0',?_,b,by omega,Ad (Ab.1 b3).1 r4,?_⟩
       .rw [hBx];exact ⟨⟨r1.trans d.1.os,r2.trans d.1.tape,⟨r3.1.trans d.1.output.1,Am d.1.output.2 r3.2⟩,Am d.1.size r4,λq Y=>(r5 q (Ad Y d.1.size) (by omega)).trans (d.1.keep q Y)⟩,(r5 _ (Ab.1 d.2).1 (by omega)).trans d.2⟩
       .rw [<-hj] at r8;rw [<-hmd] at r8;have hml:m.length=l.length - (j.toNat - i.toNat):=by rw [hmd];simp;omega
        rw [<-hj,<-hml];have cell:∀(q:AM) (z:AV),(m.map (AV.int .i64))[q]?=AC z->∃n,m[q]?=AC n/\z=.int .i64 n:=λq z f=>by
         rw [List.getElem?_map] at f;cases Y:m[q]? with
         | none=>rw [Y] at f;cases f
         | some n=>rw [Y] at f;injection f with f;exact ⟨n,rfl,f.symm⟩
        refine .CF _ _ ⟨b,o,AD⟩ cap (λq=>cs'.getD (o+q) undef) (λ_=>.inr rfl) (by omega) (λq z f=>?_) (λq z f=>?_) λq z f=>?_
        .obtain ⟨n,Q,-⟩:=cell q z f;have Y:=(Ag.1 Q).1;rw [jP r6,getD_some (by omega)]
        .obtain ⟨n,Q,rfl⟩:=cell q z f;rw [r8 q n Q];rfl
        .obtain ⟨n,Q,rfl⟩:=cell q z f;show AY _ _ _ (cs'.getD (o+q) undef);rw [r8 q n Q];exact .int _ _
      .rintro G lw ⟨d,hlw⟩;rw [hBx] at d;have hS3:∀b,S b->b<G.heap.size:=λb hb=>Ad (hF.fr.hp.lt b hb) d.1.size;refine (goc.run l l (hcfn l N) G S #[lw] hS3 rfl λq z f=>?_).mono λe w4 ⟨cv,he,K,hown⟩=>⟨cv,he,?_,?_⟩
       .match q,f with
        | 0,f=>
         injection f with f;subst f;have:(AV.CF (List.length (α:=I.T) l) (Ae (α:=I.T) (Ty.cs I) l))=.CF l.length (l.map (AV.int .i64)):=by rw [z7];rfl
         show AY G S (AV.CF (List.length (α:=I.T) l) (Ae (α:=I.T) (Ty.cs I) l)) lw;rw [this];exact hlw
       .rw [hBx];exact ⟨J9m d.1 K,(K.keep _ (Ab.1 d.2).1).trans d.2⟩
       .rcases hown with ⟨q,-⟩|⟨-,b,o,cap,cs,q1,q2,q3,q4,q5,q6⟩
        .have q:l=[]:=q;subst q;simp at g2;omega
        .refine ⟨b,o,cap,cs,Ad (Ab.1 d.2).1 q1,q2,q3,q4,by have q5:o+cap * 1<=cs.size:=q5;omega,λq z f=>?_⟩
         have:(Ae (α:=I.T) (Ty.cs I) l)[q]?=AC (.int .i64 z):=by rw [z7,List.getElem?_map,f];rfl
         have hx:=(q6 q _ this).1;generalize cs.getD (o+q) undef=v at hx ⊢;cases hx;rfl)
  .cases hd
 .cases hd
end Go.Dn
