/- Rows that were made elsewhere; the keys of a map in a list. Conditions: none. -/
import Derived.Test.YtmfagdfkpjgeiaaGreatFA
import Derived.Maps.RangeRun
import Derived.Scope
set_option linter.unusedVariables false
set_option linter.unusedSimpArgs false
namespace Go.Dn
open Go Go.Vv
open List renaming getElem?_map -> Aa, mem_singleton -> Ab, mem_cons_self -> Ad, eq_nil_of_length_eq_zero -> Ag, mem_of_getElem? -> Ai, mem_map -> Am, mem_cons_of_mem -> Ap, all_eq_true -> Aq, map_cons -> Ar, getElem?_eq_some_iff -> As, all_cons -> Au, mem_cons -> Aw, length_map -> Ay, mapM_cons -> Bb, getElem?_eq_none_iff -> Bc, getElem?_eq_getElem -> Bf, mem_append -> Bj, drop_zero -> Bl, all_nil -> Bo
open _root_.Array renaming getElem?_eq_some_iff -> Ac, getD_eq_getD_getElem? -> Ae, getElem?_setIfInBounds -> Ba, toList_inj -> Bg, replicate -> Bk, ext -> Bp
open Bool renaming and_eq_true -> Af, and_true -> Bm
open Nat renaming eq_of_beq_eq_true -> Ah, le_refl -> Aj, ble_eq_true_of_le -> Ao, zero_add -> Av, mul_le_mul_right -> Ax, zero_mul -> Az, ble -> Bd, le_add_right -> Bh, add_zero -> Bn, zero_le -> Bq
open Option renaming bind_some -> Ak, isSome_iff_exists -> Be
def gU(w w':World)(S:Nat->Prop)(el:TypeId)(t:Ty)(r:List t.T)(cv:Value):Prop:=
 (r=[]/\∃A,cv=.slice A 0 0) \/
 (r≠[]/\∃(b o cap:Nat) (cs:Array Value),w.heap.size<=b/\cv=.slice (some ⟨b,o,none⟩) r.length cap/\(r.length<=cap/\cap<=9223372036854775807)/\w'.heap[b]?=some (.cells cs el (0,0))/\o+cap * t.sz<=cs.size /\
  ∀(i:Nat) (x:AV),(r.flatMap t.cs)[i]?=some x->BD w' (λq=>JV S w w' q/\q≠b) x (cs.getD (o+i) undef)/\(cs.getD (o+i) undef).oneCell'=true)
section
variable {w w':World} {S S':Nat->Prop} {h:Heap} {μ:Gh}
theorem adopt(l:BK w S h μ)(o:Old w w'){g b k esz:Nat}{el:TypeId}{cells:List AV}(P:h g=none)(hS1:∀q,S q->S' q)(hS2:∀q,S' q->JV S w w' q)(hS3:cells≠[]->¬S' b)
  (G:cells≠[]->w.heap.size<=b) (Q:cells≠[]->∃cs,w'.heap[b]?=some (.cells cs el (0,0))/\k+cells.length<=cs.size/\∀(i:Nat) (x:AV),cells[i]?=some x->BD w' S' x (cs.getD (k+i) undef)/\(cs.getD (k+i) undef).oneCell'=true) :
  BK w' S' (upd h g (some (.arr 0 esz el cells false))) (μ.set g b k)/\Ci w S h μ w' S' (upd h g (some (.arr 0 esz el cells false))) (μ.set g b k)/\Cj h μ (upd h g (some (.arr 0 esz el cells false))) (μ.set g b k):=by
 have mb:∀ {d},d≠g->(μ.set g b k).b d=μ.b d/\(μ.set g b k).o d=μ.o d:=λN=>⟨Je _ _ _ _ N,Je _ _ _ _ N⟩;have ne:∀ {d o'},h d=some o'->d≠g:=λM e=>by subst e;rw [P] at M;cases M
 have vv:Cj h μ (upd h g (some (.arr 0 esz el cells false))) (μ.set g b k):=λd o' a=>
  ⟨o',by rw [Je _ _ _ _ (ne a)];exact a,Aj _,λ_=>⟨mb (ne a),.refl o'⟩⟩
 have ev:Ci w S h μ w' S' (upd h g (some (.arr 0 esz el cells false))) (μ.set g b k):=by
  refine ⟨o.os,o.tape,o.output,o.size,λq m _=>o.keep q m,λq cs e z m=>⟨cs,(o.keep q (Ac.1 m).1).trans m,rfl⟩,hS1,λq m=>?_,?_,rfl⟩
  ·rcases hS2 q m with x|x
   ·exact .inl x
   ·exact .inr (.inl x.1)
  ·rintro q ⟨d,o',a,E,hl,e⟩;by_cases f:d=g
   ·subst f;rw [Jj] at a;injection a with a;subst a;simp only [Gh.set,Jj] at e;exact .inr (e▸G (Qj.1 hl))
   ·rw [Je _ _ _ _ f] at a;rw [(mb f).1] at e;exact .inl ⟨d,o',a,E,hl,e⟩
 refine ⟨⟨λd o' a=>?_,λJ H L K v r B A e=>?_,λd o' a E hl hs=>?_,λq m=>?_⟩,ev,vv⟩
 ·by_cases f:d=g
  ·subst f;rw [Jj] at a;injection a with a;subst a;simp only [Gh.set,Jj];intro F;obtain ⟨cs,X,R,O⟩:=Q F;exact ⟨cs,X,R,λi x hi=>⟨.pure (O i x hi).1,(O i x hi).2⟩,λq=>by cases q⟩
  ·rw [Je _ _ _ _ f] at a;rw [(mb f).1,(mb f).2];exact (l.ob d o' a).DK l ev vv λhl=>o.keep _ ((l.ob d o' a).lt hl)
 ·by_cases f:J=g<;>by_cases y:H=g
  ·rw [f,y]
  ·subst f;rw [Jj] at v;injection v with v;subst v;rw [Je _ _ _ _ y] at r;rw [(mb y).1] at e;simp only [Gh.set,Jj] at e;have:=(l.ob H K r).lt A;have:=G (Qj.1 B);omega
  ·subst y;rw [Jj] at r;injection r with r;subst r;rw [Je _ _ _ _ f] at v;rw [(mb f).1] at e;simp only [Gh.set,Jj] at e;have:=(l.ob J L v).lt B;have:=G (Qj.1 A);omega
  ·rw [Je _ _ _ _ f] at v;rw [Je _ _ _ _ y] at r;rw [(mb f).1,(mb y).1] at e;exact l.inj J H L K v r B A e
 ·by_cases f:d=g
  ·subst f;rw [Jj] at a;injection a with a;subst a;simp only [Gh.set,Jj] at hs;exact hS3 (Qj.1 hl) hs
  ·rw [Je _ _ _ _ f] at a;rw [(mb f).1] at hs;rcases hS2 _ hs with x|x
   ·exact l.own d o' a E hl x
   ·have:=(l.ob d o' a).lt hl;omega
 ·rcases hS2 q m with x|x
  ·exact Nat.lt_of_lt_of_le (l.lt q x) o.size
  ·exact x.2
end
theorem RL{t:Ty}(h:0<t.sz)(l:List t.T):l.flatMap t.cs=[]↔l=[]:=by
 constructor
 ·intro e;have d:=Kj l;rw [e] at d;rcases Nat.mul_eq_zero.1 d.symm with a|a
  ·exact Ag a
  ·omega
 ·intro e;subst e;rfl
def Cm(g0:Nat)(ob:Option AZ):Heap:=λg=>if g=g0 then ob else none
theorem TF{g0:Nat}{ob:Option AZ}:Cm g0 ob g0=ob:=by simp [Cm]
theorem Xb{g0 g:Nat}{ob:Option AZ}{o:AZ}(h:Cm g0 ob g=some o):g=g0/\ob=some o:=by
 unfold Cm at h;split at h
 ·exact ⟨by assumption,h⟩
 ·cases h
theorem aW{g0:Nat}{ob:Option AZ}{x:Option AZ}:upd (Cm g0 ob) g0 x=Cm g0 x:=by
 funext g;by_cases e:g=g0
 ·subst e;rw [Jj,TF]
 ·rw [Je _ _ _ _ e];simp [Cm,e]
def IU(l:List AV):Prop:=∀x∈l,∃k n,x=.int k n
theorem IU.rep{l:List AV}(hl:IU l){i:Nat}{x:AV}(hi:l[i]?=some x){w:World}{S S':Nat->Prop}{h:Heap}{μ:Gh}{v:Value}(hr:BF w S h μ x v){w':World}:BD w' S' x v:=by obtain ⟨k,n,rfl⟩:=hl x (Ai hi);rw [hr.BI];exact .int _ _
section
variable {P:Program} {w:World}
theorem uS(ob:Obj):Old w (w.alloc ob):=⟨rfl,rfl,⟨rfl,Aj _⟩,by simp,λb a=>by first|exact heap_alloc_old w ob a|exact heap_alloc_old w ob b a⟩
theorem Ji{ro:Option Nat}{P:Program}{ops:Array Oper}{Q:Exit->Act->World->Prop}{a:Act}{w w':World}{rest:List Oper}{o:Oper}{cv:Value}(g:o.guard=none)(f:∀c,o.op≠.defer c)(d:(execOp a.eval o).run P w=.ok (.value cv) w')
  (h:wpListIn (Fr ro) 0 P ops Q rest (a.put o.dst cv) w'):wpListIn (Fr ro) 0 P ops Q (o::rest) a w:=
 wpListIn_plain g λK hK=>aH f (Vv.CG d (hK _ _ h))
theorem Jug{ro:Option Nat}{P:Program}{ops:Array Oper}{Q:Exit->Act->World->Prop}{a:Act}{w w':World}{rest:List Oper}{o:Oper}(g:o.guard=none)(f:∀c,o.op≠.defer c)(d:(execOp a.eval o).run P w=.ok .skip w')
  (h:wpListIn (Fr ro) 0 P ops Q rest (a.put o.dst undef) w'):wpListIn (Fr ro) 0 P ops Q (o::rest) a w:=
 wpListIn_plain g λK hK=>aH f (Vv.wp_skip d (hK _ _ h))
end
theorem dF{k:FX}{o:Op}(h:k.is o=true):o=k.op:=by
 have nb:∀ {a b:Nat},Nat.beq a b=true->a=b:=λh=>Ah h;cases k with
 | mv x=>cases o with
  | move y=>cases y with
   | tmp y=>rw [nb h];rfl
   | _=>cases h
  | _=>cases h
 | uD x=>cases o with
  | assign y=>cases y with
   | tmp y=>rw [nb h];rfl
   | _=>cases h
  | _=>cases h
 | range t x=>cases o with
  | range u y=>cases y with
   | tmp y=>
    simp only [FX.is,Af] at h;rw [nb h.1,nb h.2];rfl
   | _=>cases h
  | _=>cases h
 | next x=>cases o with
  | next y b=>cases y with
   | tmp y=>
    cases b with
    | true=>cases h
    | false=>rw [nb h];rfl
   | _=>cases h
  | _=>cases h
 | ext x i=>cases o with
  | extract y j=>cases y with
   | tmp y=>
    simp only [FX.is,Af] at h;rw [nb h.1,nb h.2];rfl
   | _=>cases h
  | _=>cases h
 | entry x=>cases o with
  | entry y=>cases y with
   | tmp y=>rw [nb h];rfl
   | _=>cases h
  | _=>cases h
 | alloc t=>cases o with
  | alloc u=>rw [nb h];rfl
  | _=>cases h
 | store t x y=>cases o with
  | store u p q=>cases p with
   | tmp p=>cases q with
    | tmp q=>
     simp only [FX.is,Af] at h;rw [nb h.1.1,nb h.1.2,nb h.2];rfl
    | _=>cases h
   | _=>cases h
  | _=>cases h
 | load t x=>cases o with
  | load u y=>cases y with
   | tmp y=>
    simp only [FX.is,Af] at h;rw [nb h.1,nb h.2];rfl
   | _=>cases h
  | _=>cases h
 | lit t x=>cases o with
  | buildSlice u n ps=>
   simp only [FX.is,Af] at h;obtain ⟨⟨A,w⟩,d⟩:=h;split at d
   ·rename_i y e;have:ps=#[(0,.tmp y)]:=by rw [<-Bg];exact e
    rw [nb A,nb w,nb d,this];rfl
   ·cases d
  | _=>cases h
 | app t x y=>cases o with
  | call c=>
   obtain ⟨f,as,ts⟩:=c;cases f with
   | builtin b=>
    cases b with
    | append=>
     simp only [FX.is] at h;split at h
     ·rename_i l g u m E B;simp only [Af] at h;have v:as=#[.tmp l,.tmp g]:=by rw [<-Bg];exact E
      have r:ts=#[u,m]:=by rw [<-Bg];exact B
      obtain ⟨⟨⟨G,F⟩,a3⟩,a4⟩:=h;rw [v,r,nb G,nb F,<-nb a3,<-nb a4];rfl
     ·cases h
    | _=>cases h
   | _=>cases h
  | _=>cases h
theorem fJ{a b:Option Nat}(h:Rq a b=true):b=a:=by
 unfold Rq at h;split at h
 ·rfl
 ·rw [Ah h]
 ·cases h
theorem NK{p:Option Nat×FX}{l:List (Option Nat×FX)}{os:List Oper}(h:YH (p::l) os=true):∃o r,os=o::r/\o.dst=p.1/\o.op=p.2.op/\o.guard=none/\YH l r=true:=by
 cases os with
 | nil=>cases h
 | cons o r=>
  simp only [YH,Af] at h;refine ⟨o,r,rfl,fJ h.1.1.1,dF h.1.1.2,?_,h.2⟩;have:=h.1.2;split at this
  ·assumption
  ·cases this
theorem uY{os:List Oper}(h:YH [] os=true):os=[]:=by
 cases os with
 | nil=>rfl
 | cons o r=>cases h
def CK(k:Int×Int):Value:=.agg #[.int .i64 k.1,.int .i64 k.2]
def IZ(ks:List (Int×Int)):List AV:=List.flatMap (α:=(Ty.p I I).T) (Ty.p I I).cs ks
def Acc(w w':World)(el:TypeId)(ks:List (Int×Int))(cv:Value):Prop:=
 (ks=[]/\cv=.slice none 0 0) \/
 (ks≠[]/\∃(b o cap:Nat) (cs:Array Value),w.heap.size<=b/\cv=.slice (some ⟨b,o,none⟩) ks.length cap/\(ks.length<=cap/\cap<=9223372036854775807)/\w'.heap[b]?=some (.cells cs el (0,0))/\o+cap * 2<=cs.size /\
  ∀(i:Nat) (x:AV),(IZ ks)[i]?=some x->∃n,x=.int .i64 n/\cs.getD (o+i) undef=.int .i64 n)
theorem R3:∀(ks:List (Int×Int)) (k:Int×Int),IZ (ks++[k])=IZ ks++[.int .i64 k.1,.int .i64 k.2]
 | [],k=>rfl
 | a::r,k=>congrArg (λl=>AV.int .i64 a.1::.int .i64 a.2::l) (R3 r k)
theorem P5:∀(ks:List (Int×Int)),(IZ ks).length=ks.length * 2
 | []=>rfl
 | a::r=>by have:=P5 r;show (IZ r).length+1+1=(r.length+1) * 2;omega
theorem J81:∀ks:List (Int×Int),IU (IZ ks)
 | [],x,hx=>by cases hx
 | k::r,x,hx=>by
  have hx:x∈[AV.int .i64 k.1,.int .i64 k.2]++IZ r:=hx;rcases Bj.1 hx with hx|hx
  ·simp at hx;rcases hx with rfl|rfl<;>exact ⟨_,_,rfl⟩
  ·exact J81 r x hx
section
variable {P:Program} {w w1:World}
theorem Acc.own{el:TypeId}{ks:List (Int×Int)}{cv:Value}{S:Nat->Prop}(h:Acc w w1 el ks cv):gU w w1 S el (.p I I) ks cv:=by
 rcases h with ⟨rfl,rfl⟩|⟨a,b,o,cap,cs,r,m,l,g,f,d⟩
 ·exact .inl ⟨rfl,none,rfl⟩
 ·refine .inr ⟨a,b,o,cap,cs,r,m,l,g,f,λi x hi=>?_⟩;obtain ⟨n,rfl,e⟩:=d i x hi;rw [e];exact ⟨.int _ _,rfl⟩
theorem XG{el rT:TypeId}{i:TypeInfo}{z:List AV}(hu:P.underlying rT=some (.slice el))(hi:P.info? el=some i)(hz:zc P el=some z)(hs:i.size=2){ks:List (Int×Int)}{cv:Value}(h:Acc w w1 el ks cv)(hsz:w.heap.size<=w1.heap.size){k:Int×Int}{L:Nat}
  (hL:w1.heap[L]?=some (.cells #[.int .i64 k.1,.int .i64 k.2] el (0,0))) (hLw:w.heap.size<=L) (hdis:∀A c,cv=.slice (some A) ks.length c->A.block≠L) (B:(ks.length+1) * i.bytes<=room/\ks.length+1<=9223372036854775807) (ty:TypeId) :
  ∃cv' d,(Builtin.append_ #[rT,rT] ty #[cv,.slice (some ⟨L,0,none⟩) 1 1]).run P w1=.ok cv' d/\Acc w d el (ks++[k]) cv'/\d.os=w1.os/\d.tape=w1.tape/\(d.output=w1.output/\w1.drawn<=d.drawn)/\w1.heap.size<=d.heap.size /\
   (∀q,q<w1.heap.size->(q<w.heap.size\/∀cs e z,w1.heap[q]?≠some (.cells cs e z))->d.heap[q]?=w1.heap[q]?)/\(∀A c,cv'=.slice (some A) (ks.length+1) c->(A.block<w1.heap.size/\∃A' c',cv=.slice (some A') ks.length c'/\A'.block=A.block)\/w1.heap.size<=A.block):=by
 have hLlt:L<w1.heap.size:=(Ac.1 hL).1;have hy:BD w1 (λq=>q=L) (.CB 1 [.int .i64 k.1,.int .i64 k.2]) (.slice (some ⟨L,0,none⟩) 1 1):=by
  refine .CB 1 [.int .i64 k.1,.int .i64 k.2] ⟨L,0,none⟩ 1 (λj=>if j=0 then .int .i64 k.1 else .int .i64 k.2) (λ_=>rfl) (Aj _) (λi x hi=>?_) (λi x hi=>?_) (λi x hi=>?_)
  ·match i,hi with
   | 0,_=>simp [Addr.add,World.cell?,hL]
   | 1,_=>simp [Addr.add,World.cell?,hL]
  ·match i,hi with
   | 0,_=>rfl
   | 1,_=>rfl
  ·match i,hi with
   | 0,hi=>injection hi with hi;subst hi;exact .int _ _
   | 1,hi=>injection hi with hi;subst hi;exact .int _ _
 have m:∀H:Heap,C9 H (.CB 1 [.int .i64 k.1,.int .i64 k.2])=some 1/\Ii H 2 (.CB 1 [.int .i64 k.1,.int .i64 k.2])=some [.int .i64 k.1,.int .i64 k.2]:=λH=>⟨rfl,rfl⟩;have fin:∀ {μ:Gh} {ob:Option AZ} {ver:Nat} {cv':Value} {d:World},(∀o,ob=some o->o.live=true/\o.fz=false/\w.heap.size<=μ.b 0/\μ.b 0<w1.heap.size/\(∃cs e z,w1.heap[μ.b 0]?=some (.cells cs e z))/\∃A' c',cv=.slice (some A') ks.length c'/\A'.block=μ.b 0) ->
   Ran w1 (λq=>q=L) (Cm 0 ob) μ (.arr 0 ver 0 (ks.length+1)) (Cm 0 (some (.arr ver 2 el (IZ (ks++[k])) false))) cv' d ->
   Acc w d el (ks++[k]) cv'/\d.os=w1.os/\d.tape=w1.tape/\(d.output=w1.output/\w1.drawn<=d.drawn)/\w1.heap.size<=d.heap.size /\
   (∀q,q<w1.heap.size->(q<w.heap.size\/∀cs e z,w1.heap[q]?≠some (.cells cs e z))->d.heap[q]?=w1.heap[q]?)/\(∀A c,cv'=.slice (some A) (ks.length+1) c->(A.block<w1.heap.size/\∃A' c',cv=.slice (some A') ks.length c'/\A'.block=A.block)\/w1.heap.size<=A.block):=by
  intro μ ob ver cv' d J ⟨S2,μ2,r1,r2,N,r4⟩;have y:IZ (ks++[k])≠[]:=by rw [R3];simp
  have e0:Cm 0 (some (AZ.arr ver 2 el (IZ (ks++[k])) false)) 0=some (.arr ver 2 el (IZ (ks++[k])) false):=TF;obtain ⟨A,cap,cs0,el0,z0,rfl,hcap,E,Q,hA⟩:=r1.EB e0 y;obtain ⟨cs,O,hsz,X,-⟩:=r2.ob 0 _ e0 y;rw [O] at E;injection E with E;injection E with q1 q2 q3;subst q1;have hA:=hA (by omega);rw [Az,Bn] at hA;subst hA;have F:(μ2.b 0=μ.b 0/\∃o,ob=some o)\/w1.heap.size<=μ2.b 0:=by
   rcases N.ow _ ⟨0,_,e0,rfl,Qj.2 y,rfl⟩ with ⟨g,o,a,-,-,e⟩|q
   ·obtain ⟨rfl,rfl⟩:=Xb a;exact .inl ⟨e.symm,o,rfl⟩
   ·exact .inr q
  refine ⟨.inr ⟨by simp,μ2.b 0,μ2.o 0,cap,cs,?_,by simp,by simpa using hcap,O,by simpa using Q,λi x hx=>?_⟩,N.os,N.tape,N.output,N.size,λq hq Z=>N.keep q hq ?_,λA c e=>?_⟩
  ·rcases F with ⟨e,o,a⟩|q
   ·rw [e];exact (J o a).2.2.1
   ·omega
  ·have R:=(X i x hx).1;obtain ⟨kk,n,rfl⟩:=J81 _ x (Ai hx);have hk:kk=.i64:=by
    have:∀(l:List (Int×Int)),∀x∈IZ l,∃n,x=AV.int .i64 n:=λl=>by
     induction l with
     | nil=>intro x hx;cases hx
     | cons p r ih=>
      intro x hx;have hx:x∈[AV.int .i64 p.1,.int .i64 p.2]++IZ r:=hx;rcases Bj.1 hx with hx|hx
      ·simp at hx;rcases hx with rfl|rfl<;>exact ⟨_,rfl⟩
      ·exact ih x hx
    obtain ⟨n',e⟩:=this _ _ (Ai hx);injection e
   subst hk;exact ⟨n,rfl,R.BI⟩
  ·rintro ⟨g,o,a,hz,hl,e⟩;obtain ⟨rfl,rfl⟩:=Xb a;obtain ⟨-,-,h3,M,⟨cs,e',z,h5⟩,-⟩:=J o rfl;rw [<-e] at Z;rcases Z with Z|Z
   ·omega
   ·exact Z _ _ _ h5
  ·injection e with e;injection e with e;subst e;rcases F with ⟨e,o,a⟩|q
   ·obtain ⟨-,-,h3,M,-,A',c',h6,h7⟩:=J o a;exact .inl ⟨by rw [e];exact M,A',c',h6,by rw [h7];exact e.symm⟩
   ·exact .inr q
 rcases h with ⟨rfl,rfl⟩|⟨y,b,o,cap,cs,h1,rfl,h3,M,h5,h6⟩
 ·have G:BK w1 (λq=>q=L) (Cm 0 none) ⟨λ_=>0,λ_=>0,λ_=>0⟩:=⟨λg o a=>(by obtain ⟨-,e⟩:=Xb a;cases e),λg g' o o' a=>(by obtain ⟨-,e⟩:=Xb a;cases e),λg o a=>(by obtain ⟨-,e⟩:=Xb a;cases e),λb O=>by rw [O];exact hLlt⟩;have K:EN (Cm 0 none) 0 i.size i.bytes el .BM (.CB 1 [.int .i64 k.1,.int .i64 k.2])=some (.arr 0 1 0 1,Cm 0 (some (.arr 1 2 el [.int .i64 k.1,.int .i64 k.2] false))):=by
   rw [hs];unfold EN;rw [(m _).1,(m _).2];have h2:(1:Int) * (i.bytes:Int)<=(room:Nat):=by have:=B.1;simp at this;omega
   simp only [List.cons_ne_nil,if_false,Int.toNat_one,Kg,TF,aW];rw [if_pos ⟨h2,by decide⟩]
  obtain ⟨cv',d,ra,v⟩:=vZ (P:=P) G (t:=rT) (ty:=ty) hu hi hz (by omega) (.pure .BM) (.pure hy) K;exact ⟨cv',d,ra,fin (ob:=none) (λo a=>by cases a) v⟩
 ·have hrow:∀ {S:Nat->Prop},BK w1 S (Cm 0 (some (.arr 1 2 el (IZ ks) false))) ⟨λ_=>b,λ_=>o,λ_=>0⟩->True:=λ_=>trivial;have hbL:b≠L:=hdis _ _ rfl;have f:=P5 ks;have Y:IZ ks≠[]:=λq=>by rw [q] at f;simp at f;exact y (Ag (by omega))
  have G:BK w1 (λq=>q=L) (Cm 0 (some (.arr 1 2 el (IZ ks) false))) ⟨λ_=>b,λ_=>o,λ_=>0⟩:=by refine ⟨λg ob a=>?_,λg g' o o' a ho' _ _ _=>by rw [(Xb a).1,(Xb ho').1],λg ob a _ _=>hbL,λb O=>by rw [O];exact hLlt⟩;obtain ⟨rfl,e⟩:=Xb a;injection e with e;subst e;intro _;refine ⟨cs,M,by rw [f];show o+ks.length * 2<=cs.size;have:=Ax 2 h3.1;omega,λi x hx=>?_,λq=>by cases q⟩;obtain ⟨n,rfl,e⟩:=h6 i x hx;rw [e];exact ⟨.pure (.int _ _),rfl⟩
  have K:EN (Cm 0 (some (.arr 1 2 el (IZ ks) false))) 0 i.size i.bytes el (.arr 0 1 0 ks.length) (.CB 1 [.int .i64 k.1,.int .i64 k.2])=some (.arr 0 2 0 (ks.length+1),Cm 0 (some (.arr 2 2 el (IZ (ks++[k])) false))):=by
   rw [hs];unfold EN;rw [(m _).1,(m _).2];simp only [TF,aW];have h2:(((ks.length:Nat):Int)+1) * (i.bytes:Int)<=(room:Nat):=by exact_mod_cast B.1
   refine (if_pos ⟨trivial,trivial,trivial,by rw [f];simp,h2,by have:=B.2;omega⟩).trans ((if_neg (by simp)).trans ?_);have hcut:cut (IZ ks) (0 * 2) (ks.length * 2)=IZ ks:=by simp only [cut,Az,Bl];rw [<-f,List.take_length]
   rw [hcut,R3];rfl
  have hx:BF w1 (λq=>q=L) (Cm 0 (some (.arr 1 2 el (IZ ks) false))) ⟨λ_=>b,λ_=>o,λ_=>0⟩ (.arr 0 1 0 ks.length) (.slice (some ⟨b,o,none⟩) ks.length cap):=
   .arr 0 1 0 ks.length _ _ TF (Aj _) rfl λ_=>⟨2,el,_,false,rfl,λq=>(Y q).elim,λ_=>⟨⟨b,o,none⟩,cap,cs,el,(0,0),rfl,h3,M,by rw [Av];exact h5,λ_=>by simp⟩⟩
  obtain ⟨cv',d,ra,v⟩:=vZ (P:=P) G (t:=rT) (ty:=ty) hu hi hz (by omega) hx (.pure hy) K;refine ⟨cv',d,ra,fin (ob:=some _) (λob a=>?_) v⟩;injection a with a;subst a;exact ⟨Qj.2 Y,rfl,h1,(Ac.1 M).1,⟨_,_,_,M⟩,_,_,rfl,rfl⟩
end
def ZI:Value->Int×Int
 | .agg cs=>(match cs.toList with | [.int _ x,.int _ y]=>(x,y)|_=>(0,0))
 | _=>(0,0)
theorem J27(k:Int×Int):ZI (CK k)=k:=rfl
theorem J4(a:Act)(d:Option Nat)(v:Value):(a.put d v).tmps.size=a.tmps.size:=by cases d<;>simp [Act.put]
theorem Jy(a:Act)(d:Option Nat)(v:Value):(a.put d v).defers=a.defers:=by cases d<;>rfl
theorem Kd(a:Act){d:Nat}(v:Value)(h:d<a.tmps.size)(e:Nat):(a.put (some d) v).tmps.getD e undef=if e=d then v else a.tmps.getD e undef:=by
 simp only [Act.put,Ae,Ba];by_cases hd:d=e
 ·subst hd;simp [h]
 ·rw [if_neg hd,if_neg (λq=>hd q.symm)]
theorem Ot(a:Act)(v:Value):a.put none v=a:=rfl
theorem J5n{P:Program}{mt kT rT:TypeId}{b:Nat}(h:QD P mt kT rT=some b):(∃x y,P.underlying mt=some (.map x y))/\P.underlying rT=some (.slice kT)/\∃i z zv,P.info? kT=some i/\i.size=2/\i.bytes=b/\i.zero=some zv/\zc P kT=some z/\Ct P kT=some true:=by
 unfold QD at h;split at h
 ·rename_i x y e i o f m l;split at h
  ·rename_i d;simp only [Af] at d;obtain ⟨⟨⟨A,w⟩,v⟩,r⟩:=d;injection h with h;obtain ⟨zv,a⟩:=Be.1 v;obtain ⟨z,g⟩:=Be.1 r;rw [Ah A] at f;exact ⟨⟨x,y,o⟩,f,i,z,zv,m,Ah w,h,a,g,l⟩
  ·cases h
 ·cases h
theorem Acc.mono{w w1 d:World}{el:TypeId}{ks:List (Int×Int)}{cv:Value}(h:Acc w w1 el ks cv)(g:∀(q:Nat) cs e z,w1.heap[q]?=some (Obj.cells cs e z)->d.heap[q]?=w1.heap[q]?):Acc w d el ks cv:=by
 rcases h with h|⟨a,b,o,cap,cs,y,v,r,f,m,l⟩
 ·exact .inl h
 ·exact .inr ⟨a,b,o,cap,cs,y,v,r,(g _ _ _ _ f).trans f,m,l⟩
theorem RY(f:Nat->Value)(x y:Int):Instr.fill (λi=>some (i * 2,2)) ((Array.range (1 * 2)).map f) [(0,.agg #[.int .i64 x,.int .i64 y])]=some #[.int .i64 x,.int .i64 y]:=by
 have:∀f:Nat->Value,(((Array.range 2).map f).setIfInBounds 0 (.int .i64 x)).setIfInBounds 1 (.int .i64 y)=#[.int .i64 x,.int .i64 y]:=λf=>by
  apply Bp
  ·simp
  ·intro j d a;have a:j<2:=by simpa using a
   match j,a with
   | 0,_=>simp
   | 1,_=>simp
 simp [Instr.fill,Value.cells,this]
theorem Jwf{w:World}{r:Nat}{o:Obj}(h:r<w.heap.size):(Go.ChangeMaps.setBlock w r o).heap[r]?=some o/\∀q,q≠r->(Go.ChangeMaps.setBlock w r o).heap[q]?=w.heap[q]?:=by
 constructor
 ·simp [Go.ChangeMaps.setBlock,h]
 ·intro q a;simp only [Go.ChangeMaps.setBlock,Ba];rw [if_neg (λe=>a e.symm)]
section
variable {P:Program} {ro:Option Nat}
structure pO (a0:Act) (w0:World) (bm clock r:Nat) (es:Array MapEntry) (el:TypeId) (a:Act) (w:World):Prop where
 sz:a.tmps.size=a0.tmps.size
 df:a.defers=a0.defers
 fr:∀d,d∉YC->a.tmps.getD d undef=a0.tmps.getD d undef
 it:a.tmps.getD 15 undef=.pointer (some ⟨r,0,none⟩)
 old:Old w0 w
 st:∃(seen:Array Nat) (vis rest:List MapEntry),w.heap[r]?=some (.mapIter (some bm) clock seen clock)/\seen.toList=vis.map (·.born)/\(vis++rest).Perm es.toList/\Acc w0 w el (vis.map λe=>ZI e.key) (a.tmps.getD 4 undef)
theorem J9u(w:World)(ty:TypeId)(r bm clock:Nat)(seen:Array Nat)(es:Array MapEntry)(vis rest:List MapEntry)(hr:w.heap[r]?=some (.mapIter (some bm) clock seen clock))(o:w.heap[bm]?=some (.map es clock))(hB:Fu es clock)(hs:seen.toList=vis.map (·.born))(m:(vis++rest).Perm es.toList) :
  (rest=[]/\(Instr.next (.pointer (some ⟨r,0,none⟩)) false ty).run P w=.ok (.tuple #[.bool false]) w) \/
  ∃e l h,rest=l++e::h/\e∈es.toList/\∃w1,(w1=w\/w1=w.drew)/\(Instr.next (.pointer (some ⟨r,0,none⟩)) false ty).run P w=.ok (.tuple #[.bool true,e.key,e.val]) (Go.ChangeMaps.setBlock w1 r (.mapIter (some bm) clock (seen.push e.born) clock)):=by
 have g:((vis++rest).map (·.born)).Nodup:=(m.map _).nodup_iff.2 hB.2;have a:∀e,e∈(leftOf es seen).toList↔e∈es.toList/\e.born∉vis.map (·.born):=λe=>by unfold leftOf;rw [<-hs];simp
 rcases run_next_at (P:=P) w ty r bm clock clock seen es clock hr o hB.1 (Aj _) with ⟨y,v⟩|⟨e,y,w1,v,F⟩
 ·refine .inl ⟨?_,v⟩;have f:(leftOf es seen).toList=[]:=Ag (by simpa using y);cases rest with
  | nil=>rfl
  | cons e r=>
   exfalso;have B:e∈es.toList:=m.subset (List.mem_append_right _ Ad);have o:e.born∉vis.map (·.born):=λq=>by rw [List.map_append,Ar] at g;exact (List.nodup_append.1 g).2.2 _ q _ Ad rfl
   have:=(a e).2 ⟨B,o⟩;rw [f] at this;cases this
 ·obtain ⟨A,E⟩:=(a e).1 y;have:e∈vis++rest:=m.symm.subset A;rcases Bj.1 this with q|q
  ·exact (E (Am.2 ⟨e,q,rfl⟩)).elim
  ·obtain ⟨l,h,d⟩:=List.append_of_mem q;exact .inr ⟨e,l,h,d,A,w1,v,F⟩
theorem J8u{nt:Nat}{x y:Code}{lc:LC}(J:pz P nt x y=some lc):∃i5 el by',lc=.keys i5 el by'/\24<=nt/\∀ {a:Act} {w:World} {bm clock:Nat} {es:Array MapEntry},
  nt<=a.tmps.size->a.tmps.getD 3 undef=.map (some bm)->w.heap[bm]?=some (.map es clock)->Fu es clock->(∀e∈es.toList,e.key=CK (ZI e.key))->a.tmps.getD 4 undef=.slice none 0 0->(es.size * by'<=room/\es.size<=9223372036854775807)->∀ {Q:Exit->Act->World->Prop},
   (∀a' w' l cv,a'.tmps.size=a.tmps.size->a'.defers=a.defers->(∀d,d∉YC->a'.tmps.getD d undef=a.tmps.getD d undef)->a'.tmps.getD 4 undef=cv->l.Perm (es.toList.map λe=>ZI e.key)->Old w w'->Acc w w' el l cv->Q .normal a' w') ->
   (Code.seq x y).wpIn (Fr ro) 0 P Q a w:=by
 unfold pz at J;split at J
 ·rename_i i5 o5 n i6 o6 c n' n2 i7 o7 i8 o8;split at J
  ·rename_i bts hT;split at J
   ·rename_i hc;injection J with J;simp only [Af] at hc;obtain ⟨⟨⟨⟨⟨⟨⟨c1,c2⟩,c3⟩,c4⟩,c5⟩,c6⟩,Y⟩,M⟩:=hc;have c1:c=17:=Ah c1;have c2:n=n':=Ah c2;have c4:24<=nt:=Nat.le_of_ble_eq_true c4;subst c1;subst c2;refine ⟨i5,_,bts,J.symm,c4,?_⟩;obtain ⟨⟨mx,my,hmt⟩,hu,i,z,zv,hi,hs,hby,hzv,hz,hag⟩:=J5n hT;generalize NC o5.toList 1=mt at *
    generalize NC o7.toList 2=kT at *
    generalize NC o8.toList 2=rT at *
    subst hby;obtain ⟨p1,q,e5,d1,K,g1,c5⟩:=NK c5;obtain ⟨p2,q,rfl,d2,h2,g2,c5⟩:=NK c5;obtain rfl:=uY c5;obtain ⟨p3,q,e6,d3,h3,g3,c6⟩:=NK c6;obtain ⟨p4,q,rfl,d4,h4,g4,c6⟩:=NK c6;obtain rfl:=uY c6;obtain ⟨p5,q,e7,d5,h5,g5,Y⟩:=NK Y;obtain ⟨p6,q,rfl,d6,h6,g6,Y⟩:=NK Y;obtain ⟨p7,q,rfl,d7,h7,g7,Y⟩:=NK Y;obtain ⟨p8,q,rfl,d8,h8,g8,Y⟩:=NK Y;obtain rfl:=uY Y;obtain ⟨p9,q,e8,d9,h9,g9,M⟩:=NK M;obtain ⟨p10,q,rfl,d10,h10,g10,M⟩:=NK M;obtain ⟨p11,q,rfl,d11,h11,g11,M⟩:=NK M;obtain ⟨p12,q,rfl,d12,h12,g12,M⟩:=NK M;obtain ⟨p13,q,rfl,d13,h13,g13,M⟩:=NK M;obtain rfl:=uY M;simp only at d1 K d2 h2 d3 h3 d4 h4 d5 h5 d6 h6 d7 h7 d8 h8 d9 h9 d10 h10 d11 h11 d12 h12 d13 h13;intro a w bm clock es hsz h3m hb hB hkeys h4n hfit Q hQ;have nd:∀ {o:Oper} {k:FX},o.op=k.op->∀c,o.op≠.defer c:=λe c q=>by rw [e] at q;cases ‹FX›<;>cases q
    have hlt:=(Ac.1 hb).1;refine wpIn_seq (wpIn_region_list ?_);rw [e5];refine Ji g1 (nd K) (cv:=.map (some bm)) (w':=w) (by rw [<-h3m];simp only [execOp,K,FX.op,Act.eval];rfl) ?_;rw [d1];refine Ji g2 (nd h2) (cv:=.pointer (some ⟨w.heap.size,0,none⟩)) (w':=w.alloc (.mapIter (some bm) clock #[] clock)) ?_ ?_
    ·have:(a.put (some 14) (.map (some bm))).eval (.tmp 14)=.map (some bm):=by show (a.put (some 14) (.map (some bm))).tmps.getD 14 undef=_;rw [Kd _ _ (by omega),if_pos rfl]
     simp [execOp,h2,FX.op,this,Instr.range,run_underlying hmt,MapKept.run_getObj_map hb,newObj,Result.andThen];rfl
    rw [d2];obtain ⟨a1,X⟩:∃a1,a1=(a.put (some 14) (.map (some bm))).put (some 15) (.pointer (some ⟨w.heap.size,0,none⟩)):=⟨_,rfl⟩;have hsz1:a1.tmps.size=a.tmps.size:=by rw [X,J4,J4]
    have get1:∀d,a1.tmps.getD d undef=if d=15 then .pointer (some ⟨w.heap.size,0,none⟩) else if d=14 then .map (some bm) else a.tmps.getD d undef:=λd=>by rw [X,Kd _ _ (by rw [J4];omega),Kd _ _ (by omega)]
    rw [<-X];refine wpListIn_nil (wpIn_block (wpIn_loop (pO a w bm clock w.heap.size es kT) (λ_ w'=>es.size - (w'.iterSeen w.heap.size).size) ?_ ?_))
    ·have hnew:(w.alloc (.mapIter (some bm) clock #[] clock)).heap[w.heap.size]?=some (.mapIter (some bm) clock #[] clock):=by show (w.heap.push _)[w.heap.size]?=_;simp
     refine ⟨hsz1,by rw [X,Jy,Jy],λd hd=>?_,by rw [get1,if_pos rfl],uS _,#[],[],es.toList,hnew,rfl,.refl _,.inl ⟨rfl,?_⟩⟩
     ·rw [get1,if_neg (λe=>hd (by subst e;decide)),if_neg (λe=>hd (by subst e;decide))]
     ·rw [get1,if_neg (by decide),if_neg (by decide)];exact h4n
    intro f E ⟨s1,s2,s3,s4,s5,seen,vis,rest,s6,s7,s8,s9⟩;have hb2:E.heap[bm]?=some (.map es clock):=(s5.keep bm hlt).trans hb;have ev15:f.eval (.tmp 15)=.pointer (some ⟨w.heap.size,0,none⟩):=s4;rcases J9u (P:=P) E p3.type w.heap.size bm clock seen es vis rest s6 hb2 hB s7 s8 with ⟨rfl,O⟩|⟨e,r1,r2,rfl,hem,Z,hw3,O⟩
    ·-- nothing is left
     refine wpIn_seq (wpIn_region_list ?_);rw [e6];refine Ji g3 (nd h3) (cv:=.tuple #[.bool false]) (w':=E) (by simp only [execOp,h3,FX.op,ev15];rw [Sem.run_bind,O];rfl) ?_;rw [d3];refine Ji g4 (nd h4) (cv:=.bool false) (w':=E) ?_ ?_
     ·have:(f.put (some 16) (.tuple #[.bool false])).eval (.tmp 16)=.tuple #[.bool false]:=by show (f.put (some 16) _).tmps.getD 16 undef=_;rw [Kd _ _ (by omega),if_pos rfl]
      simp [execOp,h4,FX.op,this,Instr.extract]
     rw [d4];refine wpListIn_nil (wpIn_seq (wpIn_cond_false ?_ (wpIn_exit ?_)))
     ·show ((f.put (some 16) _).put (some 17) _).tmps.getD 17 undef=_;rw [Kd _ _ (by rw [J4];omega),if_pos rfl]
     ·show (if n=n then Q .normal _ _ else _);rw [if_pos rfl];rw [List.append_nil] at s8;refine hQ _ E _ _ (by rw [J4,J4,s1]) (by rw [Jy,Jy,s2]) (λd hd=>?_) rfl (s8.map _) s5 ?_
      ·rw [Kd _ _ (by rw [J4];omega),Kd _ _ (by omega),if_neg (λe=>hd (by subst e;decide)),if_neg (λe=>hd (by subst e;decide))];exact s3 d hd
      ·rw [Kd _ _ (by rw [J4];omega),Kd _ _ (by omega),if_neg (by decide),if_neg (by decide)];exact s9
    ·-- a key
     have G:Z.heap=E.heap/\Z.os=E.os/\Z.tape=E.tape/\Z.output=E.output/\E.drawn<=Z.drawn:=by
      rcases hw3 with rfl|rfl
      ·exact ⟨rfl,rfl,rfl,rfl,Aj _⟩
      ·exact ⟨rfl,rfl,rfl,rfl,Nat.le_succ _⟩
     have hrlt:w.heap.size<E.heap.size:=(Ac.1 s6).1;obtain ⟨B,F⟩:∃B,B=Go.ChangeMaps.setBlock Z w.heap.size (.mapIter (some bm) clock (seen.push e.born) clock):=⟨_,rfl⟩;rw [<-F] at O;have b4:B.heap[w.heap.size]?=some (.mapIter (some bm) clock (seen.push e.born) clock)/\∀q,q≠w.heap.size->B.heap[q]?=E.heap[q]?:=by have:=Jwf (w:=Z) (r:=w.heap.size) (o:=.mapIter (some bm) clock (seen.push e.born) clock) (by rw [G.1];exact hrlt);rw [<-F] at this;exact ⟨this.1,λq H=>(this.2 q H).trans (by rw [G.1])⟩
     have z4:B.heap.size=E.heap.size:=by rw [F];simp [Go.ChangeMaps.setBlock,G.1]
     have hb4:B.heap[bm]?=some (.map es clock):=(b4.2 bm (by omega)).trans hb2;have hke:e.key=CK (ZI e.key):=hkeys e hem;obtain ⟨kx,ky,hkk⟩:∃kx ky,ZI e.key=(kx,ky):=⟨_,_,rfl⟩;have hrep:∀ {w:World} {S:Nat->Prop},BD w S (.agg [.int .i64 kx,.int .i64 ky]) e.key:=λ{w S}=>by
      rw [hke,hkk];refine .agg _ _ rfl (λi y hi=>?_) λi y hi=>?_
      ·match i,hi with
       | 0,hi=>rfl
       | 1,hi=>rfl
      ·match i,hi with
       | 0,hi=>injection hi with hi;subst hi;exact .int _ _
       | 1,hi=>injection hi with hi;subst hi;exact .int _ _
     have hp0:BK B (λ_=>False) (Cm 0 none) ⟨λ_=>0,λ_=>0,λ_=>0⟩:=⟨λg o ho=>(by obtain ⟨-,e⟩:=Xb ho;cases e),λg g' o o' ho=>(by obtain ⟨-,e⟩:=Xb ho;cases e),λg o ho=>(by obtain ⟨-,e⟩:=Xb ho;cases e),λb hb=>hb.elim⟩;obtain ⟨p,w5,ral,S5,μ5,q1,q2,q3,q4⟩:=Jsr (P:=P) hp0 hz 0;have hzl:z.length=2:=by obtain ⟨i',zv',R,hzv',hl',hn',hs'⟩:=gu hz;rw [hi] at R;injection R with R;subst R;omega
     have hsz2:E8 P kT=some 2:=by simp [E8,hi,hs]
     obtain ⟨m,rst,S6,μ6,-,t2,t3,t4⟩:=Jqq (P:=P) q2 hsz2 q1 (.pure hrep) (h':=upd (Cm 0 none) 0 (some (.box 0 [.int .i64 kx,.int .i64 ky]))) (by simp [Sn,AV.cells,Kg,Cm,upd,hzl,paste];rw [aW,aW,aW,List.drop_eq_nil_of_le (by omega)])
     simp only [aW] at q1 q2 q3 q4 t2 t3 t4;have o46:Ci B (λ_=>False) (Cm 0 none) ⟨λ_=>0,λ_=>0,λ_=>0⟩ m S6 (Cm 0 (some (.box 0 [.int .i64 kx,.int .i64 ky]))) μ6:=q3.trans t3;have k46:∀q,q<B.heap.size->m.heap[q]?=B.heap[q]?:=λq H=>o46.keep q H λ⟨g,o,ho,_⟩=>by obtain ⟨-,e⟩:=Xb ho;cases e
     have q1':BF m S6 (Cm 0 (some (.box 0 [.int .i64 kx,.int .i64 ky]))) μ6 (.ptr 0 0 0) p:=by have:=q1.DK q2 t3 t4;exact this
     obtain ⟨ck,rld,q5⟩:=rF (P:=P) t2 hag hsz2 (.inl rfl) q1' (v:=.agg [.int .i64 kx,.int .i64 ky]) (by simp [IQ,JK,pack,Cm,cut]);have hck:ck=.agg #[.int .i64 kx,.int .i64 ky]:=by
      obtain ⟨cs,rfl,hl,hh⟩:=q5.CP;have e0:=(hh 0 _ rfl).1.BI;have e1:=(hh 1 _ rfl).1.BI;simp at hl
      congr 1
      apply Bp
      ·simp [<-hl]
      ·intro j K h2
       match j,K with
       | 0,K=>simpa [Ae,K] using e0
       | 1,K=>simpa [Ae,K] using e1
       | j+2,K=>omega
     have hpow:¬(1 * i.size > 2 ^ 24):=by rw [hs];decide
     have rlit:=run_buildSlice (P:=P) m rT kT 1 #[(0,.agg #[.int .i64 kx,.int .i64 ky])] #[.int .i64 kx,.int .i64 ky] i zv hu hi hzv hpow (by rw [hs];decide) (by rw [hs];exact RY _ _ _);obtain ⟨N,hw7⟩:∃N,N=m.alloc (.cells #[.int .i64 kx,.int .i64 ky] kT):=⟨_,rfl⟩;rw [<-hw7] at rlit;have o67:Old m N:=by rw [hw7];exact uS _
     have hL:N.heap[m.heap.size]?=some (.cells #[.int .i64 kx,.int .i64 ky] kT (0,0)):=by rw [hw7];show (m.heap.push _)[m.heap.size]?=_;simp
     have k47:∀q,q<B.heap.size->N.heap[q]?=B.heap[q]?:=λq H=>(o67.keep q (Nat.lt_of_lt_of_le H o46.size)).trans (k46 q H);have acc7:Acc w N kT (vis.map λe=>ZI e.key) (f.tmps.getD 4 undef):=s9.mono λq cs e z H=>by
      have hqr:q≠w.heap.size:=λe=>by subst e;rw [s6] at H;cases H
      have hq2:=(Ac.1 H).1;rw [k47 q (by omega),b4.2 q hqr]
     have hvl:vis.length+1<=es.size:=by have:=s8.length_eq;simp at this;omega
     have hL7:m.heap.size<N.heap.size:=(Ac.1 hL).1;have z46:B.heap.size<=m.heap.size:=o46.size;obtain ⟨cv',w8,rapp,acc8,f1,f2,f3,f4,f5,-⟩:=XG (P:=P) (k:=(kx,ky)) (L:=m.heap.size) hu hi hz hs acc7 (by omega) hL (by omega) (λA c hA e=>by
      rcases s9 with ⟨q,-⟩|⟨-,b,o,cap,cs,K,h2,h3,h4,h5,h6⟩
      ·rcases acc7 with ⟨-,q2⟩|⟨q2,-⟩
       ·rw [q2] at hA;cases hA
       ·exact q2 q
      ·rw [h2] at hA;injection hA with hA;injection hA with hA;subst hA;have:=(Ac.1 h4).1;have e:b=m.heap.size:=e;omega) (by rw [Ay];exact ⟨Nat.le_trans (Ax _ hvl) hfit.1,Nat.le_trans hvl hfit.2⟩) p12.type
     refine wpIn_seq (wpIn_region_list ?_);rw [e6];refine Ji g3 (nd h3) (cv:=.tuple #[.bool true,e.key,e.val]) (w':=B) (by simp only [execOp,h3,FX.op,ev15];rw [Sem.run_bind,O];rfl) ?_;rw [d3];obtain ⟨A1,hA1⟩:∃A1,A1=f.put (some 16) (.tuple #[.bool true,e.key,e.val]):=⟨_,rfl⟩;rw [<-hA1];have Z1:A1.tmps.size=f.tmps.size:=by rw [hA1,J4]
     refine Ji g4 (nd h4) (cv:=.bool true) (w':=B) ?_ ?_
     ·have:A1.eval (.tmp 16)=.tuple #[.bool true,e.key,e.val]:=by show A1.tmps.getD 16 undef=_;rw [hA1,Kd _ _ (by omega),if_pos rfl]
      simp [execOp,h4,FX.op,this,Instr.extract]
     rw [d4];obtain ⟨A2,hA2⟩:∃A2,A2=A1.put (some 17) (.bool true):=⟨_,rfl⟩;rw [<-hA2];have Z2:A2.tmps.size=f.tmps.size:=by rw [hA2,J4,Z1]
     refine wpListIn_nil (wpIn_seq (wpIn_cond_true ?_ (wpIn_skip ?_)))
     ·show A2.tmps.getD 17 undef=_;rw [hA2,Kd _ _ (by omega),if_pos rfl]
     have G2:∀d,A2.tmps.getD d undef=if d=17 then .bool true else if d=16 then .tuple #[.bool true,e.key,e.val] else f.tmps.getD d undef:=λd=>by rw [hA2,Kd _ _ (by omega),hA1,Kd _ _ (by omega)]
     refine wpIn_block (wpIn_seq (wpIn_region_list ?_));rw [e7];refine Ji g5 (nd h5) (cv:=.tuple #[e.key,e.val]) (w':=B) ?_ ?_
     ·have:A2.eval (.tmp 15)=.pointer (some ⟨w.heap.size,0,none⟩):=by show A2.tmps.getD 15 undef=_;rw [G2,if_neg (by decide),if_neg (by decide)];exact s4
      simp only [execOp,h5,FX.op,this];rw [Sem.run_bind,run_entry_at B w.heap.size bm clock seen es clock e b4.1 hb4 hem hB.2];rfl
     rw [d5];obtain ⟨A3,hA3⟩:∃A3,A3=A2.put (some 18) (.tuple #[e.key,e.val]):=⟨_,rfl⟩;rw [<-hA3];have Z3:A3.tmps.size=f.tmps.size:=by rw [hA3,J4,Z2]
     have G3:∀d,A3.tmps.getD d undef=if d=18 then .tuple #[e.key,e.val] else A2.tmps.getD d undef:=λd=>by rw [hA3,Kd _ _ (by omega)]
     refine Ji g6 (nd h6) (cv:=e.key) (w':=B) ?_ ?_
     ·have:A3.eval (.tmp 18)=.tuple #[e.key,e.val]:=by show A3.tmps.getD 18 undef=_;rw [G3,if_pos rfl]
      simp [execOp,h6,FX.op,this,Instr.extract]
     rw [d6];obtain ⟨A4,hA4⟩:∃A4,A4=A3.put (some 19) (e.key):=⟨_,rfl⟩;rw [<-hA4];have Z4:A4.tmps.size=f.tmps.size:=by rw [hA4,J4,Z3]
     have G4:∀d,A4.tmps.getD d undef=if d=19 then e.key else A3.tmps.getD d undef:=λd=>by rw [hA4,Kd _ _ (by omega)]
     refine Ji g7 (nd h7) (cv:=p) (w':=w5) ?_ ?_
     ·simp only [execOp,h7,FX.op];rw [Sem.run_bind,ral];rfl
     rw [d7];obtain ⟨A5,hA5⟩:∃A5,A5=A4.put (some 5) (p):=⟨_,rfl⟩;rw [<-hA5];have Z5:A5.tmps.size=f.tmps.size:=by rw [hA5,J4,Z4]
     have G5:∀d,A5.tmps.getD d undef=if d=5 then p else A4.tmps.getD d undef:=λd=>by rw [hA5,Kd _ _ (by omega)]
     refine Jug g8 (nd h8) (w':=m) ?_ ?_
     ·have e1:A5.eval (.tmp 5)=p:=by show A5.tmps.getD 5 undef=_;rw [G5,if_pos rfl]
      have e2:A5.eval (.tmp 19)=e.key:=by show A5.tmps.getD 19 undef=_;rw [G5,if_neg (by decide),G4,if_pos rfl]
      simp only [execOp,h8,FX.op,e1,e2];rw [Sem.run_bind,rst];rfl
     rw [d8,Ot];refine wpListIn_nil (wpIn_region_list ?_);rw [e8];refine Ji g9 (nd h9) (cv:=f.tmps.getD 4 undef) (w':=m) ?_ ?_
     ·have:A5.eval (.tmp 4)=f.tmps.getD 4 undef:=by show A5.tmps.getD 4 undef=_;rw [G5,if_neg (by decide),G4,if_neg (by decide),G3,if_neg (by decide),G2,if_neg (by decide),if_neg (by decide)]
      simp only [execOp,h9,FX.op,this];rfl
     rw [d9];obtain ⟨A6,hA6⟩:∃A6,A6=A5.put (some 20) (f.tmps.getD 4 undef):=⟨_,rfl⟩;rw [<-hA6];have Z6:A6.tmps.size=f.tmps.size:=by rw [hA6,J4,Z5]
     have G6:∀d,A6.tmps.getD d undef=if d=20 then f.tmps.getD 4 undef else A5.tmps.getD d undef:=λd=>by rw [hA6,Kd _ _ (by omega)]
     refine Ji g10 (nd h10) (cv:=.agg #[.int .i64 kx,.int .i64 ky]) (w':=m) ?_ ?_
     ·have:A6.eval (.tmp 5)=p:=by show A6.tmps.getD 5 undef=_;rw [G6,if_neg (by decide),G5,if_pos rfl]
      simp only [execOp,h10,FX.op,this];rw [Sem.run_bind,rld,hck];rfl
     rw [d10];obtain ⟨A7,hA7⟩:∃A7,A7=A6.put (some 21) (.agg #[.int .i64 kx,.int .i64 ky]):=⟨_,rfl⟩;rw [<-hA7];have Z7:A7.tmps.size=f.tmps.size:=by rw [hA7,J4,Z6]
     have G7:∀d,A7.tmps.getD d undef=if d=21 then .agg #[.int .i64 kx,.int .i64 ky] else A6.tmps.getD d undef:=λd=>by rw [hA7,Kd _ _ (by omega)]
     refine Ji g11 (nd h11) (cv:=.slice (some ⟨m.heap.size,0,none⟩) 1 1) (w':=N) ?_ ?_
     ·have:A7.eval (.tmp 21)=.agg #[.int .i64 kx,.int .i64 ky]:=by show A7.tmps.getD 21 undef=_;rw [G7,if_pos rfl]
      simp [execOp,h11,FX.op,this,rlit]
     rw [d11];obtain ⟨A8,hA8⟩:∃A8,A8=A7.put (some 22) (.slice (some ⟨m.heap.size,0,none⟩) 1 1):=⟨_,rfl⟩;rw [<-hA8];have Z8:A8.tmps.size=f.tmps.size:=by rw [hA8,J4,Z7]
     have G8:∀d,A8.tmps.getD d undef=if d=22 then .slice (some ⟨m.heap.size,0,none⟩) 1 1 else A7.tmps.getD d undef:=λd=>by rw [hA8,Kd _ _ (by omega)]
     refine Ji g12 (nd h12) (cv:=cv') (w':=w8) ?_ ?_
     ·have e1:A8.eval (.tmp 20)=f.tmps.getD 4 undef:=by show A8.tmps.getD 20 undef=_;rw [G8,if_neg (by decide),G7,if_neg (by decide),G6,if_pos rfl]
      have e2:A8.eval (.tmp 22)=.slice (some ⟨m.heap.size,0,none⟩) 1 1:=by show A8.tmps.getD 22 undef=_;rw [G8,if_pos rfl]
      have rapp':=rapp;rw [Ae] at rapp';simp [execOp,h12,FX.op,resolve,invoke,builtin,e1,e2,rapp']
     rw [d12];obtain ⟨A9,hA9⟩:∃A9,A9=A8.put (some 23) (cv'):=⟨_,rfl⟩;rw [<-hA9];have Z9:A9.tmps.size=f.tmps.size:=by rw [hA9,J4,Z8]
     have G9:∀d,A9.tmps.getD d undef=if d=23 then cv' else A8.tmps.getD d undef:=λd=>by rw [hA9,Kd _ _ (by omega)]
     refine Ji g13 (nd h13) (cv:=cv') (w':=w8) ?_ ?_
     ·have:A9.eval (.tmp 23)=cv':=by show A9.tmps.getD 23 undef=_;rw [G9,if_pos rfl]
      simp only [execOp,h13,FX.op,this];rfl
     rw [d13];obtain ⟨A10,hA10⟩:∃A10,A10=A9.put (some 4) (cv'):=⟨_,rfl⟩;rw [<-hA10];have Z10:A10.tmps.size=f.tmps.size:=by rw [hA10,J4,Z9]
     have G10:∀d,A10.tmps.getD d undef=if d=4 then cv' else A9.tmps.getD d undef:=λd=>by rw [hA10,Kd _ _ (by omega)]
     have k48:w8.heap[w.heap.size]?=some (.mapIter (some bm) clock (seen.push e.born) clock):=by have hx:N.heap[w.heap.size]?=some (.mapIter (some bm) clock (seen.push e.born) clock):=(k47 _ (by omega)).trans b4.1;exact (f5 _ (Ac.1 hx).1 (.inr λcs e' z q=>by rw [hx] at q;cases q)).trans hx
     refine wpListIn_nil ?_;show pO a w bm clock w.heap.size es kT A10 w8/\_;refine ⟨⟨by omega,?_,λd hd=>?_,?_,?_,seen.push e.born,vis++[e],r1++r2,k48,by simp [s7],?_,?_⟩,?_⟩
     ·rw [hA10,Jy,hA9,Jy,hA8,Jy,hA7,Jy,hA6,Jy,hA5,Jy,hA4,Jy,hA3,Jy,hA2,Jy,hA1,Jy,s2]
     ·have h:∀k∈YC,d≠k:=λk J e=>hd (e▸J);rw [G10,if_neg (h 4 (by decide)),G9,if_neg (h 23 (by decide)),G8,if_neg (h 22 (by decide)),G7,if_neg (h 21 (by decide)),G6,if_neg (h 20 (by decide)),G5,if_neg (h 5 (by decide)),G4,if_neg (h 19 (by decide)),G3,if_neg (h 18 (by decide)),G2,if_neg (h 17 (by decide)),if_neg (h 16 (by decide))];exact s3 d hd
     ·rw [G10,if_neg (by decide),G9,if_neg (by decide),G8,if_neg (by decide),G7,if_neg (by decide),G6,if_neg (by decide),G5,if_neg (by decide),G4,if_neg (by decide),G3,if_neg (by decide),G2,if_neg (by decide),if_neg (by decide)];exact s4
     ·refine ⟨?_,?_,⟨?_,?_⟩,?_,λq H=>?_⟩
      ·rw [f1,o67.os,o46.os,<-s5.os,<-G.2.1,F];rfl
      ·rw [f2,o67.tape,o46.tape,<-s5.tape,<-G.2.2.1,F];rfl
      ·rw [f3.1,o67.output.1,o46.output.1,<-s5.output.1,<-G.2.2.2.1,F];rfl
      ·have:=f3.2;have:=o67.output.2;have:=o46.output.2;have:=s5.output.2;have:B.drawn=Z.drawn:=by rw [F];rfl
       have:=G.2.2.2.2;omega
      ·have:=o67.size;omega
      ·rw [f5 q (by have:=o67.size;omega) (.inl H),k47 q (by omega),b4.2 q (by omega),s5.keep q H]
     ·refine List.Perm.trans ?_ s8;rw [List.append_assoc];exact List.Perm.append_left _ (by rw [List.singleton_append];exact List.perm_middle.symm)
     ·rw [G10,if_pos rfl,List.map_append,List.map_singleton,hkk];exact acc8
     ·have i1:(w8.iterSeen w.heap.size).size=seen.size+1:=by unfold World.iterSeen;rw [k48];simp
      have i2:(E.iterSeen w.heap.size).size=seen.size:=by unfold World.iterSeen;rw [s6]
      have hsn:seen.size=vis.length:=by rw [<-Array.length_toList,s7,Ay]
      show es.size - (w8.iterSeen w.heap.size).size<es.size - (E.iterSeen w.heap.size).size;omega
   ·cases J
  ·cases J
 ·cases J
end
section
variable {h h':Heap} {θ:Nat->Option Nat} {R:List Nat} {s s':Dn.S Ty.T}
theorem Jrh{c:C Ty.T}(a:TV c=true):AB s' c=AB s c/\GR h h' θ R (AB s c) (AB s c):=by
 have fl:∀ {y:AV},y.flat=true->GR h h' θ R y y:=λd=>.flat d;cases c with
 | any=>exact ⟨rfl,.any _⟩
 | lf t y=>exact ⟨rfl,.one y⟩
 | kb b=>exact ⟨rfl,fl rfl⟩
 | rp t y o=>exact ⟨rfl,fl rfl⟩
 | k v=>exact ⟨rfl,fl a⟩
 | _=>cases a
theorem vR{l:List (C Ty.T)}(hl:l.all TV=true):l.map (AB s')=l.map (AB s)/\Ev h h' θ R (l.map (AB s)) (l.map (AB s)):=
 ⟨List.map_congr_left λc a=>(Jrh (h:=h) (h':=h') (θ:=θ) (R:=R) (Aq.1 hl c a)).1,.map λc a=>(Jrh (s':=s) (Aq.1 hl c a)).2⟩
theorem J0o{o:Ob Ty.T}(d:o.kids.all TV=true)(g:Nat):BG s' o=BG s o/\GO h h' θ R g (BG s o) (BG s o):=by
 cases o with
 | box v cs=>
  have d:cs.all TV=true:=d;obtain ⟨a,b⟩:=vR (s:=s) (s':=s') (h:=h) (h':=h') (θ:=θ) (R:=R) d;exact ⟨by show AZ.box v (cs.map (AB s'))=_;rw [a];rfl,.box b⟩
 | lit v e el cs z=>
  have d:cs.all TV=true:=d;obtain ⟨a,b⟩:=vR (s:=s) (s':=s') (h:=h) (h':=h') (θ:=θ) (R:=R) d;exact ⟨by show AZ.arr v e el (cs.map (AB s')) z=_;rw [a];rfl,.arr b (λq=>.inl q) λq=>q⟩
 | mp v kt vt es=>
  refine ⟨rfl,.map rfl λi p q m f=>?_⟩;rw [m] at f;injection f with f;subst f;exact ⟨rfl,J18 m⟩
 | em v kt vt el=>exact ⟨rfl,.map rfl λi p q m=>by simp at m⟩
 | row v e el t l x nest z=>
  cases nest with
  | none=>
   have d:x.all TV=true:=by simpa [Ob.kids] using d
   obtain ⟨a,b⟩:=vR (s:=s) (s':=s') (h:=h) (h':=h') (θ:=θ) (R:=R) d;exact ⟨by simp only [BG,a,Zs],.arr (.append (.flat (Mh t l)) b) (λq=>.inl q) λq=>q⟩
  | some p=>
   have d:TV p.2=true/\x.all TV=true:=by simpa [Ob.kids] using d
   obtain ⟨a,b⟩:=vR (s:=s) (s':=s') (h:=h) (h':=h') (θ:=θ) (R:=R) d.2;obtain ⟨w,r⟩:=Jrh (s:=s) (s':=s') (h:=h) (h':=h') (θ:=θ) (R:=R) d.1;exact ⟨by simp only [BG,a,Zs,w],.arr (.append (.set (.flat (Mh t l)) r _) b) (λq=>.inl q) λq=>q⟩
theorem J33{kt vt:Ty}(es:List (kt.T×vt.T)):(Cq kt vt es).length=es.length:=by simp [Cq]
theorem Wd{kt vt:Ty}{es:List (kt.T×vt.T)}{i:Nat}{q:AV×AV}(h:(Cq kt vt es)[i]?=some q):∃e,Iw es i=some e/\q=(EA kt e.1,EA vt e.2):=by
 unfold Cq at h;rw [Aa] at h;cases a:es[i]? with
 | none=>rw [a] at h;cases h
 | some e=>rw [a] at h;injection h with h;exact ⟨e,a,h.symm⟩
theorem J3k{kt vt:Ty}:∀(k:Nat) (l:List (kt.T×List vt.T)),(F8 kt vt k l).length=l.length
 | k,[]=>rfl
 | k,e::r=>by simp only [F8,List.length_cons,J3k (k+1) r]
theorem Jxi{α β:Type}{f:α->β}{d:Nat}:∀ {l:List (Nat×α)},look d (l.map λp=>(p.1,f p.2))=(look d l).map f
 | []=>rfl
 | (n,v)::r=>by
  rw [Ar,Q0,Q0];split
  ·rfl
  ·exact Jxi
end
section
variable {nt:Nat} {w:World} {S:Nat->Prop} {s s':Dn.S Ty.T} {μ:Gh} {a:Act} {fs:List Fm}
theorem UC(h:BO nt w S s μ a fs)(G:bS s=some s'):Goes nt w S s μ a fs s':=by
 unfold bS at G;split at G
 ·injection G with G;subst G;exact ⟨S,μ,h,.refl⟩
 ·rename_i m hm;split at G
  ·rename_i hk;injection G with G;have hi:=h.iv;obtain ⟨m1,m2,m3⟩:=hi.mo m hm;have F:∀n,look n s'.ob=if m.g=n then some (.mp 0 m.kt (.ls m.vt) m.es) else look n s.ob:=λn=>by subst G;exact Q0 _ _ _ _
   have hmo:s'.mo=none:=by subst G;rfl
   have hgm:look m.g s.ob=none:=qp hi (by simp [FB,hm]);have eG:AA s m.g=some (.map 0 (F8 m.kt m.vt 0 m.es) false):=by simp [AA,hgm,hm,Ec,Mo.at]
   have eG':AA s' m.g=some (.map 0 (Cq m.kt (.ls m.vt) m.es) false):=by
    have:look m.g s'.ob=some (.mp 0 m.kt (.ls m.vt) m.es):=by rw [F,if_pos rfl]
    rw [Jn this];rfl
   have old:∀ {n:Nat} {o:Ob Ty.T},look n s.ob=some o->n≠m.g/\n<mB/\AA s n=some (BG s o)/\AA s' n=some (BG s o)/\o.kids.all TV=true:=λ{n o} A=>by
    have hf:=m3 n o A;have hne:n≠m.g:=λe=>by subst e;rw [hgm] at A;cases A
    have hkk:=Aq.1 hk (n,o) (Mg A);refine ⟨hne,?_,Jn A,?_,hkk⟩
    ·rw [hm] at hf;simp only [FB,Bool.or_eq_false_iff] at hf;have:=hf.2;rcases Nat.lt_or_ge n mB with q|q
     ·exact q
     ·rw [Ao q] at this;cases this
    ·have:look n s'.ob=some o:=by rw [F,if_neg (λe=>hne e.symm)];exact A
     rw [Jn this,(J0o (s:=s) (s':=s') (h:=AA s) (h':=AA s) (θ:=some) (R:=[]) hkk n).1]
   have Y:∀i,AA s' (mB+i)=none:=λi=>by
    have Q:look (mB+i) s.ob=none:=by
     cases B:look (mB+i) s.ob with
     | none=>rfl
     | some o=>have:=(old B).2.1;omega
    have P:look (mB+i) s'.ob=none:=by rw [F,if_neg (by omega)];exact Q
    simp only [AA,P,hmo,Ec]
   have N:∀ {i:Nat} {e:m.kt.T×List m.vt.T},Iw (α:=m.kt.T×List m.vt.T) m.es i=some e->AA s (mB+i)=some (JE m.vt m.el e.2):=λ{i e} he=>by have:=J45 m1 he;rw [<-hm] at this;rw [AA,qp hi (by simp [FB,hm,Ao (Bh mB i)])];exact this
   obtain ⟨R,hR⟩:∃R:List Nat,R=(List.range (List.length (α:=m.kt.T×List m.vt.T) m.es)).map (mB+·):=⟨_,rfl⟩;have hRm:∀g,g∈R↔∃i,i<List.length (α:=m.kt.T×List m.vt.T) m.es/\g=mB+i:=λg=>by rw [hR,Am];exact ⟨λ⟨i,a,b⟩=>⟨i,List.mem_range.1 a,b.symm⟩,λ⟨i,a,b⟩=>⟨i,List.mem_range.2 a,b.symm⟩⟩
   have hobj:∀n o',AA s' n=some o'->∃o,AA s n=some o/\GO (AA s) (AA s') some R n o o':=λn o' A=>by
    rcases uj A with ⟨ob,X,rfl⟩|⟨-,hx⟩
    ·rw [F] at X;split at X
     ·rename_i e;subst e;rw [eG'] at A;refine ⟨_,eG,?_⟩;injection A with A;rw [<-A];refine .map ?_ λi p q hp B=>?_
      ·exact (J33 (kt:=m.kt) (vt:=.ls m.vt) m.es).trans (J3k (kt:=m.kt) (vt:=m.vt) 0 m.es).symm
      ·obtain ⟨e,Q,P⟩:=J1z hp;obtain ⟨e',M,h4⟩:=Wd (kt:=m.kt) (vt:=.ls m.vt) B;have he:some e=some e':=Q.symm.trans M;injection he with he;subst P;subst h4;subst he;have hi1:i<List.length (α:=m.kt.T×List m.vt.T) m.es:=(As.1 Q).1;refine ⟨rfl,?_⟩;have hr:=N Q;have O:(e.2.flatMap m.vt.cs).length=e.2.length * m.vt.sz:=Kj e.2;have hs:Vv.snap (AA s) 1 (.arr (mB+(0+i)) e.2.length 0 e.2.length)=some (.CB e.2.length (e.2.flatMap m.vt.cs),[mB+(0+i)]):=by
        rw [Av];simp only [Vv.snap,hr,JE];have hcut:Vv.cut (e.2.flatMap m.vt.cs) (0 * m.vt.sz) (e.2.length * m.vt.sz)=e.2.flatMap m.vt.cs:=by simp only [Vv.cut,Az,Bl];rw [<-O,List.take_length]
        rw [hcut,if_pos ⟨trivial,by rw [O,Av];exact Aj _⟩,if_pos (Mh m.vt e.2)]
       refine .snap 1 hs (λg hg=>?_) (.refl _);have:=Ab.1 hg;subst this;exact (hRm _).2 ⟨i,hi1,by rw [Av]⟩
     ·obtain ⟨x1,x2,x3,x4,x5⟩:=old X;rw [x4] at A;injection A with A;exact ⟨_,x3,A▸(J0o (s:=s) (s':=s) x5 n).2⟩
    ·rw [hmo] at hx;cases hx
   have hgr:∀ {c:C Ty.T},FR s c->FR s' (IY m.g c)/\GR (AA s) (AA s') some R (AB s c) (AB s' (IY m.g c)):=λ{c} ok=>by
    have at':∀ {g v:Nat},(g,v)∈refs c->∃o,look g s.ob=some o/\v<=o.ver/\AA s g=some (BG s o)/\AA s' g=some (BG s o)/\look g s'.ob=some o/\Yk s' g v=Yk s g v:=λ{g v} hr=>by
     obtain ⟨o,A,E⟩:=ok _ hr;obtain ⟨x1,x2,x3,x4,x5⟩:=old A;have hl:look g s'.ob=some o:=by rw [F,if_neg (λe=>x1 e.symm)];exact A
     refine ⟨o,A,E,x3,x4,hl,?_⟩;have hln:s'.ln=s.ln:=by subst G;rfl
     simp only [Yk,A,hl,hln]
    have okk:∀ {c':C Ty.T},(∀r∈refs c',r∈refs c)->FR s' c':=λhsub r hr=>by obtain ⟨o,A,E,-,-,hl,-⟩:=at' (hsub r hr);exact ⟨o,hl,E⟩
    have nofl:∀(v:AV),v.flat=true->GR (AA s) (AA s') some R v v:=λv hf=>.flat hf;have ptr:∀ {g v off:Nat},(g,v)∈refs c->GR (AA s) (AA s') some R (.ptr g v off) (.ptr g v off):=λ{g v off} hr=>by
     obtain ⟨o,A,E,a1,a2,-,-⟩:=at' hr;have J:v<=(BG s o).ver:=by rw [Mj];exact E
     exact .ptr a1 a2 J rfl λe=>e
    have arr:∀ {g v off len:Nat},(g,v)∈refs c->GR (AA s) (AA s') some R (.arr g v off len) (.arr g v off len):=λ{g v off len} hr=>by
     obtain ⟨o,A,E,a1,a2,-,-⟩:=at' hr;have J:v<=(BG s o).ver:=by rw [Mj];exact E
     exact .arr a1 a2 J rfl λe=>⟨e,λe' el c z q=>⟨c,z,q,Iff.rfl⟩⟩
    cases c with
    | any=>exact ⟨okk λr hr=>hr,.any _⟩
    | lf t y=>exact ⟨okk λr hr=>hr,.one y⟩
    | kb b=>exact ⟨okk λr hr=>hr,nofl _ rfl⟩
    | rp t y o=>exact ⟨okk λr hr=>hr,nofl _ rfl⟩
    | own g v=>
     obtain ⟨o,A,E,a1,a2,-,hl⟩:=at' (g:=g) (v:=v) Ad;refine ⟨okk λr hr=>hr,?_⟩;show GR _ _ _ _ (.arr g v 0 (Yk s g v)) (.arr g v 0 (Yk s' g v));rw [hl];exact arr Ad
    | part g v a b=>exact ⟨okk λr hr=>hr,arr Ad⟩
    | ptr g v o=>exact ⟨okk λr hr=>hr,ptr Ad⟩
    | Fy g v e i o=>exact ⟨okk λr hr=>hr,ptr Ad⟩
    | map g v=>
     obtain ⟨o,A,E,a1,a2,-,-⟩:=at' (g:=g) (v:=v) Ad;have J:v<=(BG s o).ver:=by rw [Mj];exact E
     exact ⟨okk λr hr=>hr,.map a1 a2 J rfl λe=>e⟩
    | fn f l=>
     refine ⟨okk λr hr=>hr,.fn f _ _ rfl λi x y hx H=>?_⟩;rw [hx] at H;injection H with H;subst H;rw [Aa] at hx;cases B:l[i]? with
     | none=>rw [B] at hx;cases hx
     | some p=>
      rw [B] at hx;injection hx with hx;subst hx;exact ptr (Am.2 ⟨p,Ai B,rfl⟩)
    | yl j=>exact ⟨okk λr hr=>hr,.Hf j⟩
    | k v=>
     have key:(IY m.g (.k v:C Ty.T)=.k v/\v.flat=true)\/IY m.g (.k v:C Ty.T)=.any\/(v=.map m.g 0/\IY m.g (.k v:C Ty.T)=.map m.g 0):=by
      cases v with
      | map g' ver=>
       cases ver with
       | zero=>
        cases hb:Nat.beq g' m.g with
        | true=>exact .inr (.inr ⟨by rw [Ah hb],by simp [IY,AV.flat,hb]⟩)
        | false=>exact .inr (.inl (by simp [IY,AV.flat,hb]))
       | succ n=>exact .inr (.inl rfl)
      | _=>first|exact .inl ⟨rfl,rfl⟩|exact .inr (.inl rfl)
     rcases key with ⟨e,hf⟩|e|⟨rfl,e⟩
     ·rw [e];exact ⟨okk λr hr=>hr,nofl v hf⟩
     ·rw [e];exact ⟨λr hr=>(by cases hr),.any _⟩
     ·rw [e];refine ⟨λr hr=>?_,.map eG eG' (Aj _) rfl λe=>e⟩;have:=Ab.1 hr;subst this;exact ⟨_,by rw [F,if_pos rfl],Aj _⟩
   have L:∀ {v:V Ty.T},okV s v->okV s' (Ml m.g v)/\GR (AA s) (AA s') some R (AQ s v) (AQ s' (Ml m.g v)):=λ{v} ok=>by
    cases v with
    | c x=>
     obtain ⟨a,b⟩:=hgr (c:=x) (ok x Ad);exact ⟨λc K=>by have:=Ab.1 K;subst this;exact a,b⟩
    | ag l=>
     refine ⟨λc K=>?_,.agg _ _ (by simp) λi x y hx H=>?_⟩
     ·obtain ⟨c0,h0,rfl⟩:=Am.1 (show c∈l.map (IY m.g) from K);exact (hgr (ok c0 h0)).1
     ·rw [Aa] at hx H;rw [Aa] at H;cases B:l[i]? with
      | none=>rw [B] at hx;cases hx
      | some c0=>
       rw [B] at hx H;injection hx with hx;injection H with H;subst hx;subst H;exact (hgr (ok c0 (Ai B))).2
    | tp l=>
     cases l with
     | nil=>exact ⟨λc K=>(by cases K),.Cn _ _ rfl λi x y hx=>by simp at hx⟩
     | cons p r=>exact ⟨λc K=>(by have:=Ab.1 K;subst this;intro r hr;cases hr),.any _⟩
   have hsl:s'.sl=s.sl.map λp=>(p.1,Ml m.g p.2):=by subst G;rfl
   have Z:s'.lo=s.lo.map λl=>l.map λp=>(p.1,Ml m.g p.2):=by subst G;rfl
   refine h.ghost (θ:=some) (R:=R) ⟨⟨λn o' A=>.inr ?_,λn n' g e1 e2 _ _=>?_,λn g o' e A _ _ hg=>?_,λg hg=>?_⟩,λd v E=>?_,by rw [Z,Ay],λi l l' d v' Q P M=>?_,λp hp=>?_,λl hl p hp=>?_,λg o A=>?_,λm' hm'=>by rw [hmo] at hm';cases hm'⟩
   ·obtain ⟨o,a,b⟩:=hobj n o' A;exact ⟨n,o,rfl,a,b⟩
   ·injection e1 with e1;injection e2 with e2;rw [e1,e2]
   ·injection e with e;subst e;obtain ⟨i,-,rfl⟩:=(hRm _).1 hg;rw [Y] at A;cases A
   ·obtain ⟨i,hi',rfl⟩:=(hRm _).1 hg;have:Iw (α:=m.kt.T×List m.vt.T) m.es i=some (List.get (α:=m.kt.T×List m.vt.T) m.es ⟨i,hi'⟩):=Bf hi';exact ⟨_,N this,rfl⟩
   ·rw [hsl,Jxi] at E;unfold Dn.S.at;cases B:look d s.sl with
    | none=>rw [B] at E;cases E
    | some v0=>
     rw [B] at E;injection E with E;subst E;exact (L (hi.sl (d,v0) (Mg B))).2
   ·rw [Z,Aa,Q] at P;injection P with P;subst P;rw [Jxi] at M;cases B:look d l with
    | none=>rw [B] at M;cases M
    | some v0=>
     rw [B] at M;injection M with M;subst M;exact (L (hi.lo l (Ai Q) (d,v0) (Mg B))).2
   ·rw [hsl] at hp;obtain ⟨q,B,rfl⟩:=Am.1 hp;exact (L (hi.sl q B)).1
   ·rw [Z] at hl;obtain ⟨l0,hl0,rfl⟩:=Am.1 hl;obtain ⟨q,B,rfl⟩:=Am.1 hp;exact (L (hi.lo l0 hl0 q B)).1
   ·rw [F] at A;split at A
    ·injection A with A;subst A;intro c K;cases K
    ·obtain ⟨-,-,-,-,x5⟩:=old A;intro c K r hr;have:=Aq.1 x5 c K;cases c<;>first|(cases hr;done)|(cases this;done)
  ·cases G
end
theorem J7u{d:Nat}:∀(ks:List Nat) (s:Dn.S Ty.T),(Dn.S.kill ks s).at d=if d∈ks then .c .any else s.at d
 | [],s=>by simp [S.kill]
 | x::r,s=>by
  rw [S.kill,J7u r];by_cases h:d∈r
  ·rw [if_pos h,if_pos (Ap _ h)]
  ·rw [if_neg h];have:(s.put (some x) (.c .any)).at d=if d=x then .c .any else s.at d:=by
    unfold Dn.S.at Dn.S.put;simp only [Q0];by_cases e:x=d
    ·subst e;simp
    ·rw [if_neg e,if_neg (λq=>e q.symm)]
   rw [this];by_cases e:d=x
   ·subst e;rw [if_pos rfl,if_pos Ad]
   ·rw [if_neg e,if_neg (λq=>by rcases Aw.1 q with q|q;exact e q;exact h q)]
theorem J1i:∀(ks:List Nat) (s:Dn.S Ty.T),(Dn.S.kill ks s).ob=s.ob/\(Dn.S.kill ks s).ln=s.ln/\(Dn.S.kill ks s).mo=s.mo/\(Dn.S.kill ks s).lo=s.lo
 | [],s=>⟨rfl,rfl,rfl,rfl⟩
 | x::r,s=>J1i r (s.put (some x) (.c .any))
theorem J4c:∀(ks:List Nat) {s:Dn.S Ty.T},Inv s->Inv (Dn.S.kill ks s)
 | [],s,h=>h
 | x::r,s,h=>J4c r (h.put (v:=.c .any) (λc a=>by have:=Ab.1 a;subst this;intro r hr;cases hr) (some x))
theorem Rp{kt vt:Ty}{es:List (kt.T×vt.T)}{i:Nat}{e:kt.T×vt.T}(h:es[i]?=some e):(Cq kt vt es)[i]?=some (EA kt e.1,EA vt e.2):=by unfold Cq;rw [Aa,h];rfl
theorem Oq(a:Act){d:Nat}{v:Value}(hd:d<a.tmps.size)(h:a.tmps.getD d undef=v):a.put (some d) v=a:=by
 obtain ⟨t,f⟩:=a;show (⟨t.setIfInBounds d v,f⟩:Act)=⟨t,f⟩
 congr 1
 apply Bp
 ·simp
 ·intro i l g;rw [Array.getElem_setIfInBounds g];split
  ·rename_i e;subst e;have h:t.getD d undef=v:=h;rw [<-h];simp [Ae,g]
  ·rfl
section
variable {nt:Nat} {w w':World} {S:Nat->Prop} {s:Dn.S Ty.T} {μ:Gh} {a a':Act} {fs:List Fm}
theorem BO.kill(h:BO nt w S s μ a fs)(ks:List Nat)(hs:a'.tmps.size=a.tmps.size)(hd:a'.defers=a.defers)(v:∀d,d∉ks->a'.tmps.getD d undef=a.tmps.getD d undef):BO nt w S (Dn.S.kill ks s) μ a' fs:=by
 obtain ⟨f,g,o,m⟩:=J1i ks s;have eh:AA (Dn.S.kill ks s)=AA s:=Na f g o;have ec:AB (Dn.S.kill ks s)=AB s:=J2q f g;refine h.step hd ⟨λd=>?_,by show BK w S (AA _) μ;rw [eh];exact h.fr.hp,by rw [hd];exact h.fr.df,by rw [hs];exact h.fr.sz⟩ ⟨m,λc y=>⟨λr hr=>by rw [f];exact y r hr,by rw [ec]⟩⟩ (J4c ks h.iv) (by rw [eh];exact .refl) (by rw [eh];exact .refl _ _);show BF w S (AA _) μ (AQ _ ((Dn.S.kill ks s).at d)) _;rw [eh,uX f g,J7u];by_cases l:d∈ks
 ·rw [if_pos l];exact .any _
 ·rw [if_neg l,v d l];exact h.fr.fr d
theorem Nt(hF:BO nt w S s μ a fs)(B:Old w w'){t:Ty}(H:0<t.sz){el:TypeId}{l:List t.T}{cv:Value}(G:gU w w' S el t l cv){base:Nat}(Q:s.has base=false) :
  ∃S2 μ2,BO nt w' S2 (s.obj base (.row 0 t.sz el t l [] none false)) μ2 a fs/\Ci w S (AA s) μ w' S2 (AA (s.obj base (.row 0 t.sz el t l [] none false))) μ2/\okV (s.obj base (.row 0 t.sz el t l [] none false)) (.c (.own base 0)) /\
   BF w' S2 (AA (s.obj base (.row 0 t.sz el t l [] none false))) μ2 (AQ (s.obj base (.row 0 t.sz el t l [] none false)) (.c (.own base 0))) cv:=by
 have K:AA s base=none:=Jqj Q;have P:(l.flatMap t.cs).length=l.length * t.sz:=Kj l;have h:l.flatMap t.cs=[]↔l=[]:=RL H l;have key:∃(b o:Nat) (S2:Nat->Prop),BK w' S2 (upd (AA s) base (some (.arr 0 t.sz el (l.flatMap t.cs) false))) (μ.set base b o) /\
   Ci w S (AA s) μ w' S2 (upd (AA s) base (some (.arr 0 t.sz el (l.flatMap t.cs) false))) (μ.set base b o) /\
   Cj (AA s) μ (upd (AA s) base (some (.arr 0 t.sz el (l.flatMap t.cs) false))) (μ.set base b o)/\KU w' (l.flatMap t.cs) b o t.sz 0 l.length cv:=by
  rcases G with ⟨e,A,rfl⟩|⟨e,b,o,cap,cs,q1,rfl,X,R,q4,q5⟩
  ·subst e;obtain ⟨F,y,a3⟩:=adopt (S':=JV S w w') (g:=base) (b:=0) (k:=0) (esz:=t.sz) (el:=el) (cells:=[]) hF.fr.hp B K (λq m=>.inl m) (λq m=>m) (λq=>(q rfl).elim) (λq=>(q rfl).elim) (λq=>(q rfl).elim);exact ⟨0,0,_,F,y,a3,λ_=>⟨rfl,rfl,A,rfl⟩,λq=>(q rfl).elim⟩
  ·have Y:l.length * t.sz<=cap * t.sz:=Ax _ X.1;obtain ⟨F,y,a3⟩:=adopt (S':=λq=>JV S w w' q/\q≠b) (g:=base) (b:=b) (k:=o) (esz:=t.sz) (el:=el) (cells:=l.flatMap t.cs) hF.fr.hp B K
    (λq m=>⟨.inl m,λe=>by subst e;have:=hF.fr.hp.lt q m;omega⟩) (λq m=>m.1) (λ_ q=>q.2 rfl) (λ_=>q1) (λ_=>⟨cs,R,by rw [P];omega,q5⟩)
   refine ⟨b,o,_,F,y,a3,λq=>(e (h.1 q)).elim,λ_=>⟨⟨b,o,none⟩,cap,cs,el,(0,0),rfl,X,R,by rw [Av];exact q4,λ_=>by rw [Az,Bn]⟩⟩
 obtain ⟨b,o,S2,F,y,a3,a4⟩:=key;obtain ⟨f,r⟩:∃f,f=s.obj base (.row 0 t.sz el t l [] none false):=⟨_,rfl⟩;rw [<-r];have E:look base s.ob=none:=Sz Q;have st:CX s f:=by subst r;exact Mf λo0 Z=>by rw [E] at Z;cases Z
 have v:∀L,look L f.ob=if base=L then some (.row 0 t.sz el t l [] none false) else look L s.ob:=λL=>by subst r;exact Qv base L _
 have J:f.mo=s.mo:=by subst r;rfl
 have iv:Inv f:=NJ hF.iv st v (λc hc=>by cases hc) (yN Q) J;have N:=NM hF.iv st v J;have O:Dn.BG f (.row 0 t.sz el t l [] none false)=.arr 0 t.sz el (l.flatMap t.cs) false:=by simp [Dn.BG,Zs]
 rw [O] at N;rw [<-N] at F y a3;have hF2:BO nt w' S2 f (μ.set base b o) a fs:=by refine hF.step rfl ⟨λd=>?_,F,hF.fr.hp.marks hF.fr.df y,hF.fr.sz⟩ st.on iv y a3;rw [Sy hF.iv st];exact (hF.fr.fr d).DK hF.fr.hp y a3
 have M:Yk f base 0=l.length:=by simp [Yk,v,Ob.ver,Ob.CO]
 refine ⟨S2,_,hF2,y,Zm λq m=>?_,?_⟩
 ·have:=Ab.1 m;subst this;exact ⟨_,by rw [v,if_pos rfl],Aj _⟩
 ·show BF w' S2 (AA f) _ (AB f (.own base 0)) cv;simp only [AB,M];refine .arr base 0 0 l.length cv _ (by rw [N,Jj]) (Aj _) ?_ λ_=>⟨t.sz,el,_,false,rfl,?_⟩
  ·by_cases e:l=[]
   ·obtain ⟨-,-,A,rfl⟩:=a4.1 (h.2 e);rfl
   ·obtain ⟨_,_,_,_,_,rfl,_⟩:=a4.2 (λq=>e (h.1 q));rfl
  ·simp only [Gh.set,Jj];exact a4
theorem Pf{α β:Type}{l:List α}{k:List α->Option β}{r:β}(h:jW l k=some r){p:List α}(a:p.Perm l):k p=some r:=by
 unfold jW at h;split at h
 ·rename_i hx;have:=hx.choose_spec p a;injection h with h;rw [this,h]
 ·cases h
theorem J9d{α β:Type}{l:List α}{k:List α->Option β}{r:β}(h:∀p:List α,p.Perm l->k p=some r):jW l k=some r:=by unfold jW;have hx:∃v,∀p:List α,p.Perm l->k p=some v:=⟨r,h⟩;rw [dif_pos hx];have:=hx.choose_spec l (.refl l);rw [h l (.refl l)] at this;exact this.symm
theorem QB{P:Program}{ro:Option Nat}{x y:Code}{i5:Nat}{el:TypeId}{by' base:Nat}(hk:pz P nt x y=some (.keys i5 el by'))(h:BO nt w S s μ a fs){α:Type}{k:Dn.S Ty.T->Option α}{r:α}(hd:QE val base el by' s k=some r)
  {Q:Exit->Act->World->Prop} (hQ:∀a' w' S' μ' s',BO nt w' S' s' μ' a' fs->Ci w S (AA s) μ w' S' (AA s') μ'->k s'=some r->Q .normal a' w'):(Code.seq x y).wpIn (Fr ro) 0 P Q a w:=by
 unfold QE at hd;obtain ⟨f,hu,hd⟩:=Jk hd;obtain ⟨S1,μ1,A,ev1⟩:=UC h hu;split at hd
 ·rename_i g ver vt es Z M;obtain ⟨H,G⟩:=qw Z;have H:f.at 3=.c (.map g ver):=H;have G:look g f.ob=some (.mp ver (.p I I) vt es):=G;split at hd
  ·cases hd
  rename_i m;have m:f.has (base+23)=false:=by simpa using m
  obtain ⟨o,hd⟩:=Km hd;obtain ⟨es',K⟩:∃es':List ((Int×Int)×vt.T),es'=es:=⟨_,rfl⟩;have o:=aI o;have o:((es'.length:Nat):Int) * by'<=room/\((es'.length:Nat):Int)<=9223372036854775807:=by rw [K];exact o
  have hd:jW (es'.map (·.1)) (λl:List (Int×Int)=>k (((Dn.S.kill YC f).obj (base+23) (.row 0 2 el (.p I I) l [] none false)).put (some 4) (.c (.own (base+23) 0))))=some r:=by rw [K];exact hd
  have hfN:es'.length * by'<=room/\es'.length<=9223372036854775807:=by
   have O:((es'.length * by':Nat):Int)<=((room:Nat):Int):=by rw [Int.natCast_mul];exact o.1
   have:=o.2;exact ⟨Int.ofNat_le.1 O,by omega⟩
  have eG:AA f g=some (.map ver (Cq (.p I I) vt es') false):=by rw [Jn G,K];rfl
  have X:=A.fr.fr 3;have X:BF w S1 (AA f) μ1 (.map g ver) (a.tmps.getD 3 undef):=by have:BF w S1 (AA f) μ1 (AQ f (f.at 3)) (a.tmps.getD 3 undef):=X;rw [H] at this;exact this
  have e3:a.tmps.getD 3 undef=.map (some (μ1.b g)):=X.Iy eG;have r4:BF w S1 (AA f) μ1 (AQ f (f.at 4)) (a.tmps.getD 4 undef):=A.fr.fr 4;rw [M] at r4;have e4:a.tmps.getD 4 undef=.slice none 0 0:=BF.Cg (h:=AA f) r4;obtain ⟨mes,clock,b1,⟨R,b3⟩,-,b4⟩:=A.fr.hp.ob g _ eG;have R:mes.size=es'.length:=R.trans (J33 (kt:=.p I I) es');have B:∀(i:Nat) (e:(Int×Int)×vt.T),es'[i]?=some e->∃me,mes[i]?=some me/\me.key=CK e.1:=λi e L=>by
   have:(Cq (.p I I) vt es')[i]?=some (EA (.p I I) e.1,EA vt e.2):=Rp (kt:=.p I I) L;obtain ⟨me,F,E,-⟩:=b4 i _ _ this;refine ⟨me,F,?_⟩;have E:BD w S1 (.agg [.int .i64 e.1.1,.int .i64 e.1.2]) me.key:=E;generalize me.key=mk at E;cases E with
   | agg _ cs hl g1 g2=>
    have q0:=g2 0 _ rfl;have Y:=g2 1 _ rfl;simp at hl;show Value.agg cs=Value.agg #[.int .i64 e.1.1,.int .i64 e.1.2]
    congr 1
    apply Bp
    ·simp [<-hl]
    ·intro j A O
     match j,A with
     | 0,A=>
      have:BD w S1 (.int .i64 e.1.1) (cs[0]):=by simpa [Ae,A] using q0
      generalize cs[0]=v at this ⊢;cases this;rfl
     | 1,A=>
      have:BD w S1 (.int .i64 e.1.2) (cs[1]):=by simpa [Ae,A] using Y
      generalize cs[1]=v at this ⊢;cases this;rfl
     | j+2,A=>omega
  have J:mes.toList.map (λe=>ZI e.key)=es'.map (·.1):=by
   apply List.ext_getElem?;intro i;rw [Aa,Aa];cases L:es'[i]? with
   | none=>
    have:mes.toList[i]?=none:=by rw [Bc] at L ⊢;simp;omega
    rw [this];rfl
   | some e=>
    obtain ⟨me,F,E⟩:=B i e L;have:mes.toList[i]?=some me:=by simpa using F
    rw [this,Option.map_some,Option.map_some,E,J27]
  obtain ⟨i5',el',b5,e5,hnt,run⟩:=J8u (P:=P) (ro:=ro) hk;injection e5 with e51 e52 e53;subst e51;subst e52;subst e53;refine run A.fr.sz e3 b1 b3 (λe L=>?_) e4 ⟨by rw [R];exact hfN.1,by rw [R];exact hfN.2⟩ λa' w' l cv t1 t2 t3 t4 t5 t6 t7=>?_
  ·obtain ⟨i,hi⟩:=List.getElem?_of_mem L;have N:mes[i]?=some e:=by simpa using hi
   have hlt:=(Ac.1 N).1;obtain ⟨me,F,E⟩:=B i es'[i] (Bf (by omega));rw [N] at F;injection F with F;subst F;rw [E,J27]
  ·rw [J] at t5;have hk2:=Pf hd t5;have O:=A.kill YC t1 t2 t3;obtain ⟨k1,k2,k3,k4⟩:=J1i YC f;have hb2:(Dn.S.kill YC f).has (base+23)=false:=by unfold Dn.S.has at m ⊢;rw [k1,k3];exact m
   have eh:AA (Dn.S.kill YC f)=AA f:=Na k1 k2 k3;obtain ⟨S2,μ2,Y,q2,q3,q4⟩:=Nt O t6 (t:=.p I I) (by decide) (t7.own (S:=S1)) hb2;have h4:4<a'.tmps.size:=by rw [t1];have:=A.fr.sz;omega
   have q5:=Y.put (d:=some 4) (by simp [mM];omega) q3 q4;rw [Oq a' h4 t4] at q5;refine hQ a' w' S2 μ2 _ q5 ?_ hk2;rw [iQ];rw [eh] at q2;exact ev1.trans q2
 ·cases hd
end
def LE.is:LE->Exit->Prop
 | .normal,.normal=>True
 | .exit i,.exit j=>i=j
 | .ret,.ret=>True
 | _,_=>False
theorem Jlm(p:Nat->Prop)(h:∃k,p k):∃k,p k/\∀j,p j->k<=j:=by
 obtain ⟨k,l⟩:=h
 induction k using Nat.strongRecOn with
 | _ k g=>
  by_cases f:∃j,j<k/\p j
  ·obtain ⟨j,o,m⟩:=f;exact g j o m
  ·exact ⟨k,l,λj a=>Nat.le_of_not_lt λd=>f ⟨j,d,a⟩⟩
open Classical in
noncomputable def qW(p:Nat->Prop):Nat:=if h:∃k,p k then Classical.choose (Jlm p h) else 0
theorem Jpi{p:Nat->Prop}(h:∃k,p k):p (qW p)/\∀j,p j->qW p<=j:=by unfold qW;rw [dif_pos h];exact Classical.choose_spec (Jlm p h)
theorem Joi{α β:Type}{x:Option α}{k:α->Option β}{r:β}(h:JG x k=some r):∃y,x=some y/\k y=some r:=by
 cases x with
 | none=>cases h
 | some y=>exact ⟨y,rfl,h⟩
theorem vN{α:Type}{k:LE->Dn.S Ty.T->Option α}{r:α}{e:LE}{s:Dn.S Ty.T}:∀ {xs:List (LE×S U)} {h:Ex Ty.T xs},I7 (dL wv) xs e s=some h->mU k xs h=some r->∃(p:S U) (hl:HL Ty.T p.lt),p.fit (dL wv) s=some hl/\k e (p.mk' hl)=some r
 | [],h,hi,_=>by cases hi
 | [(a,p)],h,hi,f=>by simp only [I7] at hi;have l:=aU hi;clear hi;obtain ⟨g,hi⟩:=l;subst g;exact ⟨p,h,hi,f⟩
 | (a,p)::q::r',h,hi,f=>by
  simp only [I7] at hi;split at hi
  ·rename_i g;subst g;cases d:p.fit (dL wv) s with
   | none=>rw [d] at hi;cases hi
   | some hl=>
    rw [d] at hi;injection hi with hi;subst hi;exact ⟨p,hl,d,f⟩
  ·cases d:I7 (dL wv) (q::r') e s with
   | none=>rw [d] at hi;cases hi
   | some m=>
    rw [d] at hi;injection hi with hi;subst hi;exact vN (h:=m) d f
section
variable {P:Program} {nt:Nat} {call:Vv.Call} {base:Nat} {cx:Cx} {mk:Cx->Tn} {fs:List Fm} {ro:Option Nat}
theorem Juh(cx:Cx):∀l:List (Nat×AX),(qA cx l).1++(qA cx l).2=l
 | []=>rfl
 | p::r=>by
  have a:=Juh cx r;simp only [qA];split
  ·rfl
  ·simp only [List.cons_append,a]
theorem lW{P:Program}{b:Frame}{a:Act}{k:List Item}{cs:List Frame}{w:World}{c:Code}:step P (lone (b.atR a (.code (.scope c)::k)) cs w)=.next (lone (b.atR a (.code c::.inScope c::k)) cs w):=
 step_lone_go (by simp [stepG,stepG.exec,Frame.atR])
theorem Jwh{P:Program}{b:Frame}{a:Act}{k:List Item}{cs:List Frame}{w:World}{c:Code}:step P (lone (b.atR a (.inScope c::k)) cs w)=.next (lone (b.atR a k) cs w):=
 step_lone_go (by simp [stepG,stepG.exec,Frame.atR])
theorem J57{F:Fence}{n:Nat}{P:Program}{Q:Exit->Act->World->Prop}{a:Act}{w:World}{c:Code}(h:c.wpIn F n P (Exit.noGoto Q) a w):(Code.scope c).wpIn F n P Q a w:=by
 intro b k cs m v hr;have g:(lone (b.atR a (.code (.scope c)::k)) cs w).fenced P F:=fenced_calm v hr rfl;obtain ⟨e,a₁,w₁,f,d⟩:=h b (.inScope c::k) cs m v hr;cases e with
 | normal=>exact ⟨.normal,a₁,w₁,f,.head g lW (StepsIn.trans d (.one (fenced_calm v hr rfl) Jwh))⟩
 | exit id=>
  have hx:exitTo id (.inScope c::k)=exitTo id k:=by simp [exitTo]
  exact ⟨.exit id,a₁,w₁,f,λk' r=>.head g lW (d.1 k' (by rw [hx];exact r)),λo r=>let ⟨k₁,A,y⟩:=d.2 o (by rw [hx];exact r);⟨k₁,A,.head g lW y⟩⟩
 | goto l=>exact f.elim
 | ret=>exact ⟨_,a₁,w₁,f,.of_steps (.one g lW) d⟩
 | panic ch=>exact ⟨_,a₁,w₁,f,.of_steps (.one g lW) d⟩
 | outgrown=>exact ⟨_,a₁,w₁,f,.of_steps (.one g lW) d⟩
theorem fK(hC:Md call cx.ct)(E:Lm P call)(hI:∀hs,sM P hs (mk { cx with hs:=hs,rd:=false }))(hm:P.follows .mixedOrders=true)(hso:Lh P cx)(hro:cx.rd=false->ro=none)(hh:Lu P cx.hs fs)(hfs:Il fs):∀(c:Code) {lc:LC} (f:Ig P nt c=some lc) {n:List Nat} {ex:List (Nat×List Nat)} {rt:List Nat} {α:Type} {k:LE->Dn.S Ty.T->Option α} {r:α}
  {w:World} {S:Nat->Prop} {s:Dn.S Ty.T} {μ:Gh} {a:Act} {Q:Exit->Act->World->Prop},BO nt w S s μ a fs->EF mk cx base lc n ex rt val s k=some r ->
  (∀e x a' w' S' μ' s',LE.is e x->BO nt w' S' s' μ' a' fs->Ci w S (AA s) μ w' S' (AA s') μ'->k e s'=some r->Q x a' w')->c.wpIn (Fr ro) 0 P Q a w:=by
 intro c
 induction c with
 | skip=>
  intro lc f n ex rt α k r w S s μ a Q h hd hQ;injection f with f;subst f;exact Go.wpIn_skip (hQ .normal .normal _ _ _ _ _ trivial h .refl hd)
 | region id ops draw=>
  intro lc f n ex rt α k r w S s μ a Q h hd hQ;simp only [Ig] at f;obtain ⟨L,hL,rfl⟩:=zi f;simp only [EF] at hd;have fin:∀ {a' w' S' μ' s'},BO nt w' S' s' μ' a' fs->Ci w S (AA s) μ w' S' (AA s') μ'->k .normal (kM val cx.ty (cx.keep id) s.ob.length s')=some r->Q .normal a' w':=λv o g=>by obtain ⟨S2,μ2,M,F⟩:=J8j cx.ty (cx.keep id) s.ob.length v;exact hQ .normal .normal _ _ _ _ _ trivial M (o.trans F) g
  cases draw with
  | true=>
   rw [if_pos rfl] at hd;split at hd
   ·refine Rs hC E hm h hL hd (λL' L2 s' H=>?_) λa' w' S' μ' s' L' L2 v o g=>?_
    ·split at H
     ·rename_i G;rcases Bool.or_eq_true_iff.1 G with q|q
      ·exact .inl q
      ·exact .inr q
     ·cases H
    ·split at g
     ·exact fin v o g
     ·cases g
   ·rename_i A p R hsp;have hAB:L=A++(p::R):=by rw [<-Juh cx L,hsp]
    rw [hAB] at hL;refine J7a hC E hm h hL hd (λL' L2 s' H=>?_) λa' w' S' μ' s' L' L2 os v o g r4 r5=>?_
    ·split at H
     ·assumption
     ·cases H
    ·split at g
     ·exact J07 hC E (hI cx.hs) hso hh hfs r4 r5 v g λa2 w2 S2 μ2 s2 M F K=>fin M (o.trans F) K
     ·cases g
  | false=>
   rw [if_neg (by decide)] at hd;refine wpIn_region_list (J07 hC E (hI cx.hs) hso hh hfs hL ?_ h hd λa' w' S' μ' s' v o g=>fin v o g);apply List.ext_getElem?;intro i;simp only [Aa,Array.getElem?_toList];by_cases hi:i<ops.size
   ·rw [List.getElem?_range hi];simp [hi]
   ·rw [List.getElem?_eq_none (by simpa using hi)];simp [hi]
 | seq x y X O=>
  intro lc f n ex rt α k r w S s μ a Q h hd hQ;simp only [Ig] at f;cases Z:pz P nt x y with
  | some lk=>
   rw [Z] at f;injection f with f;subst f;obtain ⟨i5,el,by',rfl,-,-⟩:=J8u (P:=P) (ro:=ro) Z;simp only [EF] at hd;exact QB Z h hd λa' w' S' μ' s' v o g=>hQ .normal .normal _ _ _ _ _ trivial v o g
  | none=>
  rw [Z] at f;simp only at f;cases hx:Ig P nt x with
  | none=>rw [hx] at f;cases f
  | some lx=>
   rw [hx] at f;simp only [Ak] at f;obtain ⟨ly,hy,rfl⟩:=zi f;simp only [EF] at hd;split at hd
   case h_2=>
    generalize ZJ (EF mk cx base lx (Ic ly n ex rt) ex rt (α:=Unit) stat (tu s) λe s'=>[(e,Lj stat (NS (JQ (Ic ly n ex rt)) ex rt e) s')])=xs at hd
    replace hd:JG (EF mk cx base lx (Ic ly n ex rt) ex rt val s λe s'=>I7 (dL wv) xs e (Lj val (NS (JQ (Ic ly n ex rt)) ex rt e) s')) (mU (λe s'=>match e with|.normal=>EF mk cx base ly n ex rt val s' k|e=>k e s') xs)=some r:=hd
    obtain ⟨e0,G,hex⟩:=Joi hd;refine wpIn_seq (X hx h G λe x' a' w' S' μ' s' is v o g=>?_);obtain ⟨S3,μ3,d1,d2⟩:=Ju9 (NS (JQ (Ic ly n ex rt)) ex rt e) v;obtain ⟨p,hp,g1,g2⟩:=vN g hex;obtain ⟨S4,μ4,d3,d4⟩:=pR d1 g1;cases e with
    | normal=>
     cases x'<;>simp only [LE.is] at is;exact O hy d3 g2 λe2 x2 a2 w2 S2 μ2 s2 is2 M F K=>hQ e2 x2 _ _ _ _ _ is2 M (o.trans (d2.trans (d4.trans F))) K
    | exit i=>
     cases x'<;>simp only [LE.is] at is;subst is;exact hQ (.exit i) (.exit i) _ _ _ _ _ rfl d3 (o.trans (d2.trans d4)) g2
    | ret=>
     cases x'<;>simp only [LE.is] at is;exact hQ .ret .ret _ _ _ _ _ trivial d3 (o.trans (d2.trans d4)) g2
   refine wpIn_seq (X hx h hd λe x' a' w' S' μ' s' is v o g=>?_);cases e with
   | normal=>
    cases x'<;>simp only [LE.is] at is;exact O hy v g λe2 x2 a2 w2 S2 μ2 s2 is2 M F K=>hQ e2 x2 _ _ _ _ _ is2 M (o.trans F) K
   | exit i=>
    cases x'<;>simp only [LE.is] at is;subst is;exact hQ (.exit i) (.exit i) _ _ _ _ _ rfl v o g
   | ret=>
    cases x'<;>simp only [LE.is] at is;exact hQ .ret .ret _ _ _ _ _ trivial v o g
 | cond c x y X O=>
  intro lc f n ex rt α k r w S s μ a Q h hd hQ;simp only [Ig] at f;cases hcc:EG c with
  | none=>rw [hcc] at f;cases f
  | some c'=>
   rw [hcc] at f;simp only [Ak] at f;cases hx:Ig P nt x with
   | none=>rw [hx] at f;cases f
   | some lx=>
    rw [hx] at f;simp only [Ak] at f;obtain ⟨ly,hy,rfl⟩:=zi f;simp only [EF] at hd;have G:=Jx h.fr hcc;rw [Ku] at G;split at hd
    ·rename_i t ht;rw [ht] at G;have G:BF w S (AA s) μ (.bool t) (a.eval c):=G;refine wpIn_cond G.Ch ?_;cases t with
     | true=>rw [if_pos rfl] at hd ⊢;exact X hx h hd hQ
     | false=>rw [if_neg (by decide)] at hd ⊢;exact O hy h hd hQ
    ·rename_i t ht;rw [ht] at G;obtain ⟨t,rfl⟩:∃T:Bool,(show Ty.T .bool from T)=t:=⟨t,rfl⟩;have G:BF w S (AA s) μ (.bool t) (a.eval c):=G;refine wpIn_cond G.Ch ?_;split at hd
     ·rename_i d;have hf:∀q:Bool,(t:Bool)=q->(enc s).f d=.bool q:=λq e=>by have:s.at d=.c (.lf .bool t):=ht;rw [yP this,<-e];rfl
      have al:∀q:Bool,(t:Bool)=q->BO nt w S (s.put (some d) (.c (.kb q))) μ a fs:=λq e=>h.alike (iO (hf q e)) (.put s _ _) (h.iv.put LZ _);have eh:∀q:Bool,AA (s.put (some d) (.c (.kb q)))=AA s:=λq=>iQ _ _ _;rcases Sv hd with ⟨e,hd⟩|⟨e,hd⟩
      ·have e:t=true:=e;rw [if_pos e];exact X hx (al true e) hd λe2 x2 a2 w2 S2 μ2 s2 is2 M F K=>hQ e2 x2 _ _ _ _ _ is2 M (by rw [eh] at F;exact F) K
      ·have e:t=false:=e;rw [if_neg (by rw [e];decide)];exact O hy (al false e) hd λe2 x2 a2 w2 S2 μ2 s2 is2 M F K=>hQ e2 x2 _ _ _ _ _ is2 M (by rw [eh] at F;exact F) K
     ·cases hd
    ·cases hd
 | scope b ih=>
  intro lc f n ex rt α k r w S s μ a Q h hd hQ;simp only [Ig] at f;refine J57 (ih f h hd λe x a' w' S' μ' s' is v o g=>?_);have:=hQ e x a' w' S' μ' s' is v o g;cases x<;>first|exact this|(cases e<;>cases is)
 | label l=>
  intro lc f n ex rt α k r w S s μ a Q h hd hQ;simp only [Ig] at f;injection f with f;subst f;exact Go.wpIn_label (hQ .normal .normal _ _ _ _ _ trivial h .refl hd)
 | block id b ih=>
  intro lc f n ex rt α k r w S s μ a Q h hd hQ;simp only [Ig] at f;obtain ⟨lb,G,rfl⟩:=zi f;simp only [EF] at hd;refine wpIn_block (ih G h hd λe x a' w' S' μ' s' is v o g=>?_);cases e with
  | normal=>
   cases x<;>simp only [LE.is] at is;rw [if_neg (by intro q;cases q)] at g;exact hQ .normal .normal _ _ _ _ _ trivial v o g
  | ret=>
   cases x<;>simp only [LE.is] at is;rw [if_neg (by intro q;cases q)] at g;exact hQ .ret .ret _ _ _ _ _ trivial v o g
  | exit i=>
   cases x<;>simp only [LE.is] at is;subst is;simp only [Exit.inBlock];by_cases hi:i=id
   ·subst hi;rw [if_pos rfl] at g ⊢;exact hQ .normal .normal _ _ _ _ _ trivial v o g
   ·rw [if_neg (by intro q;injection q with q;exact hi q)] at g;rw [if_neg hi];exact hQ (.exit i) (.exit i) _ _ _ _ _ rfl v o g
 | loop b ih=>
  intro lc f n ex rt α k r w S s μ a Q h hd hQ;simp only [Ig] at f;obtain ⟨lb,G,rfl⟩:=zi f;simp only [EF] at hd;generalize fC (λsh=>EF mk cx base lb (JQ (Ic lb [] ex rt)) ex rt (α:=Unit) stat sh λe s'=>[(e,Lj stat (NS (JQ (Ic lb [] ex rt)) ex rt e) s')]) 4 (tu (Lj val (JQ (Ic lb [] ex rt)) s))=fx at hd;obtain ⟨sh,xs⟩:=fx;simp only at hd;generalize hh:JQ (Ic lb [] ex rt)=H at hd
  replace hd:Px wv (dL wv) sh xs (λe s'=>Lj val (NS H ex rt e) s') (λs' k'=>EF mk cx base lb H ex rt val s' k') (Lj val H s) k=some r:=hd
  unfold Px at hd;split at hd
  ·cases hd
  ·rename_i h0 hf0;generalize hB:(λh=>EF mk cx base lb H ex rt val (sh.mk' h) λe s'=>(match e with
    | .normal=>(sh.fit (dL wv) (Lj val (NS H ex rt .normal) s')).map Nx.go
    | e=>(I7 (dL wv) xs e (Lj val (NS H ex rt e) s')).map Nx.out:Option (Nx (HL Ty.T sh.lt) (Ex Ty.T xs))))=B
   have hd:JG (X0 B CU h0) (mU k xs)=some r:=by rw [<-hB];exact hd
   obtain ⟨e,hl,hex⟩:=Joi hd;obtain ⟨S0,μ0,c1,c2⟩:=Ju9 H h;obtain ⟨S1,μ1,c3,c4⟩:=pR c1 hf0;let J:Nat->Act->World->Prop:=λm a1 w1=>∃hm Sm μm,X0 B m hm=some e/\BO nt w1 Sm (sh.mk' hm) μm a1 fs/\Ci w S (AA s) μ w1 Sm (AA (sh.mk' hm)) μm;refine wpIn_loop (λa1 w1=>∃m,J m a1 w1) (λa1 w1=>qW λm=>J m a1 w1) ⟨CU,h0,S1,μ1,hl,c3,c2.trans c4⟩ λa1 w1 hI'=>?_;have hmin:=(Jpi hI').1;generalize (qW λm=>J m a1 w1)=m at hmin ⊢;obtain ⟨hm',Sm,μm,N,j2,j3⟩:=hmin;cases m with
   | zero=>cases N
   | succ m=>
    simp only [X0] at N;cases hBm:B hm' with
    | none=>rw [hBm] at N;cases N
    | some nx=>
     rw [hBm] at N;have hbd:=hBm;rw [<-hB] at hbd;refine ih G j2 hbd λe1 x1 a2 w2 S2 μ2 s2 is M F K=>?_;obtain ⟨S3,μ3,d1,d2⟩:=Ju9 (NS H ex rt e1) M;cases e1 with
     | normal=>
      cases x1<;>simp only [LE.is] at is;obtain ⟨h',Y,rfl⟩:=zi K;obtain ⟨S4,μ4,d3,d4⟩:=pR d1 Y;simp only [Exit.then];have hJ:J m a2 w2:=⟨h',S4,μ4,N,d3,j3.trans (F.trans (d2.trans d4))⟩;exact ⟨⟨m,hJ⟩,Nat.lt_succ_of_le ((Jpi ⟨m,hJ⟩).2 m hJ)⟩
     | exit i=>
      cases x1<;>simp only [LE.is] at is;subst is;obtain ⟨h',Y,rfl⟩:=zi K;injection N with N;subst N;obtain ⟨p,hp,g1,g2⟩:=vN Y hex;obtain ⟨S4,μ4,d3,d4⟩:=pR d1 g1;exact hQ (.exit i) (.exit i) _ _ _ _ _ rfl d3 (j3.trans (F.trans (d2.trans d4))) g2
     | ret=>
      cases x1<;>simp only [LE.is] at is;obtain ⟨h',Y,rfl⟩:=zi K;injection N with N;subst N;obtain ⟨p,hp,g1,g2⟩:=vN Y hex;obtain ⟨S4,μ4,d3,d4⟩:=pR d1 g1;exact hQ .ret .ret _ _ _ _ _ trivial d3 (j3.trans (F.trans (d2.trans d4))) g2
 | exit id=>
  intro lc f n ex rt α k r w S s μ a Q h hd hQ;injection f with f;subst f;exact wpIn_exit (hQ (.exit id) (.exit id) _ _ _ _ _ rfl h .refl hd)
 | ret=>
  intro lc f n ex rt α k r w S s μ a Q h hd hQ;injection f with f;subst f;exact wpIn_ret (hQ .ret .ret _ _ _ _ _ trivial h .refl hd)
 | _=>intro lc f;cases f
end
def pV(a:Act):ResultVar->Sem Value
 | .tmp t=>pure (a.tmps.getD t undef)
 | .cell b t=>do loadVar t (<-asAddr (a.tmps.getD b undef))
section
variable {P:Program} {w:World} {S:Nat->Prop} {σ:St} {μ:Gh} {a:Act} {nt:Nat}
theorem Kag(hs:DR nt w S σ μ a):∀ {l:List ResultVar} {rs:List RV} {vs:List AV},FT (kJ P) l=some rs->rs.mapM (RV.get σ)=some vs ->
  ∃cs:List Value,(l.mapM (pV a)).run P w=.ok cs w/\cs.length=vs.length/\∀i x,vs[i]?=some x->BF w S σ.h μ x (cs.getD i undef)
 | [],rs,vs,g,f=>by injection g with g;subst g;simp at f;subst f;exact ⟨[],by simp,rfl,λi x hi=>by simp at hi⟩
 | r::l,rs,vs,g,f=>by
  simp only [FT] at g;cases hx:kJ P r with
  | none=>rw [hx] at g;cases g
  | some x=>
   rw [hx] at g;simp only [Ak] at g;obtain ⟨m,J,rfl⟩:=zi g;rw [Bb] at f;cases d:RV.get σ x with
   | none=>rw [d] at f;cases f
   | some v=>
    cases o:m.mapM (RV.get σ) with
    | none=>rw [d,o] at f;cases f
    | some us=>
     rw [d,o] at f;injection f with f;subst f;obtain ⟨cs,M,L,K⟩:=Kag hs J o;have one:∃cv,(pV a r).run P w=.ok cv w/\BF w S σ.h μ v cv:=by
      cases r with
      | tmp t=>
       simp [kJ] at hx;subst hx;simp [RV.get] at d;subst d;exact ⟨_,by simp [pV],hs.fr t⟩
      | cell b t=>
       simp only [kJ] at hx;cases h:Ct P t with
       | none=>rw [h] at hx;cases hx
       | some ag=>
        cases B:E8 P t with
        | none=>rw [h,B] at hx;cases hx
        | some n=>
         rw [h,B] at hx;simp only [Ak] at hx;have hx:=aU hx;obtain ⟨A,hx⟩:=hx;injection hx with hx;subst hx;simp only [RV.get] at d;have hd:∃ad,a.tmps.getD b undef=.pointer (some ad):=by
          unfold IQ at d;split at d
          ·rename_i N off hd;obtain ⟨ad,e,_⟩:=Jst hs.hp (hs.fr b) hd;exact ⟨ad,e⟩
          ·cases d
         obtain ⟨ad,e⟩:=hd;obtain ⟨cv,E,F⟩:=rF (P:=P) hs.hp h B A (hs.fr b) d;refine ⟨cv,?_,F⟩;rw [e] at E;simp only [pV,e];simpa [Instr.loadAt,Instr.sureAddr,asAddr] using E
     obtain ⟨cv,H,G⟩:=one;refine ⟨cv::cs,?_,by simp [L],λi y hi=>?_⟩
     ·rw [Bb];simp only [Sem.run_bind,H,M,Result.andThen_ok,Sem.run_pure]
     ·cases i with
      | zero=>simp at hi;subst hi;simpa using G
      | succ i=>simpa using K i y (by simpa using hi)
theorem Jqk{s:Dn.S Ty.T}(hi:Inv s){α:Type}{r:α}:∀ {rs:List RV} {k:List (V Ty.T)->Option α},KD val s rs k=some r->∃l,rs.mapM (RV.get (enc s))=some (l.map (AQ s))/\(∀v∈l,okV s v)/\k l=some r
 | [],k,h=>⟨[],rfl,λv d=>(by cases d),h⟩
 | .tmp t::rs,k,h=>by
  simp only [KD] at h;obtain ⟨l,a,b,c⟩:=Jqk hi h;refine ⟨s.at t::l,?_,λv d=>?_,c⟩
  ·rw [Bb,a];rfl
  ·rcases Aw.1 d with rfl|d
   ·exact hi.at t
   ·exact b v d
 | .cell t ag n::rs,k,h=>by
  simp only [KD] at h;obtain ⟨v,v1,v2,h⟩:=J47 hi (hi.at t) h;obtain ⟨l,a,b,c⟩:=Jqk hi h;refine ⟨v::l,?_,λu f=>?_,c⟩
  ·rw [Bb,a];have:RV.get (enc s) (.cell t ag n)=some (AQ s v):=v1;rw [this];rfl
  ·rcases Aw.1 f with rfl|f
   ·exact v2
   ·exact b u f
theorem Ka3(s:Dn.S Ty.T)(l:List (V Ty.T))(ok:∀v∈l,okV s v){cs:List Value}(hl:cs.length=l.length)(hr:∀(i:Nat) (x:AV),(l.map (AQ s))[i]?=some x->BF w S (AA s) μ x (cs.getD i undef)) :
  okV s (aD l)/\BF w S (AA s) μ (AQ s (aD l)) (if h:cs.toArray.size=1 then cs.toArray[0] else .tuple cs.toArray):=by
 have tp:okV s (.tp (l.map V.toP))/\BF w S (AA s) μ (AQ s (.tp (l.map V.toP))) (.tuple cs.toArray):=by
  refine ⟨λc d=>?_,?_⟩
  ·simp only [V.all,List.mem_flatMap,Am] at d;obtain ⟨p,⟨v,a,rfl⟩,d⟩:=d;cases v with
   | c x=>exact ok _ a c d
   | ag l=>exact ok _ a c d
   | tp l=>cases d
  ·refine .Cn _ _ (by simp [hl]) λi x hx=>?_;rw [Aa,Aa] at hx;cases a:l[i]? with
   | none=>rw [a] at hx;cases hx
   | some v=>
    rw [a] at hx;injection hx with hx;have:=hr i (AQ s v) (by rw [Aa,a];rfl);have e:cs.toArray.getD i undef=cs.getD i undef:=by simp
    rw [e,<-hx];cases v with
    | c y=>exact this
    | ag m=>exact this
    | tp m=>exact .any _
 match l,hl,tp with
 | [],hl,tp=>
  have:cs=[]:=Ag hl;subst this;exact ⟨tp.1,tp.2⟩
 | [v],hl,tp=>
  match cs,hl with
  | [c],_=>exact ⟨ok v (Ab.2 rfl),by simpa [aD] using hr 0 _ rfl⟩
 | u::v::m,hl,tp=>
  have f:¬cs.toArray.size=1:=by simp at hl ⊢;omega
  rw [dif_neg f];exact tp
theorem J12{s:Dn.S Ty.T}(hs:DR nt w S (enc s) μ a)(hi:Inv s){fn:Func}{rs:List RV}{α:Type}{r:α}{k:List (V Ty.T)->Option α}(m:FT (kJ P) fn.results.toList=some rs)(g:KD val s rs k=some r) :
  ∃l cv,(results fn a.tmps).run P w=.ok cv w/\okV s (aD l)/\BF w S (AA s) μ (AQ s (aD l)) cv/\k l=some r:=by
 obtain ⟨l,B,A,a3⟩:=Jqk hi g;obtain ⟨cs,y,v,o⟩:=Kag hs m B;obtain ⟨f,d⟩:=Ka3 (w:=w) (S:=S) (μ:=μ) s l A (by simpa using v) o;refine ⟨l,_,?_,f,d,a3⟩;have e:results fn a.tmps=(do let vs <-fn.results.mapM (pV a);pure (if h:vs.size=1 then vs[0] else .tuple vs)):=by
  unfold results
  congr 2
 rw [e,Array.mapM_eq_mapM_toList];simp only [Sem.run_bind,Sem.run_map,y,Result.andThen_ok,Sem.run_pure]
end
def tC(P:Program)(cx:Cx):Prop:=∀f lf,cx.code f=some lf->MS P f=some lf
theorem Juf:∀ {vs:List (V Ty.T)} {j d:Nat},look d (TW j vs)=if j<=d then vs[d - j]? else none
 | [],j,d=>by simp [TW,look]
 | v::r,j,d=>by
  simp only [TW];rw [Q0,Juf];by_cases f:j=d
  ·subst f;simp
  ·rw [if_neg f];by_cases a:j<=d
   ·rw [if_pos (by omega),if_pos a,show d - j=(d - (j+1))+1 by omega,List.getElem?_cons_succ]
   ·rw [if_neg (by omega),if_neg a]
theorem Jyg:∀ {vs:List (V Ty.T)} {j:Nat} {p:Nat×V Ty.T},p∈TW j vs->p.2∈vs
 | [],j,p,h=>by cases h
 | v::r,j,p,h=>by
  rcases Aw.1 h with rfl|h
  ·exact Ad
  ·exact Ap _ (Jyg h)
structure YU (D:Nat) (w w':World):Prop where
 os:w'.os=w.os
 tape:w'.tape=w.tape
 output:w'.output=w.output
 drawn:w'.drawn=w.drawn
 size:w'.heap.size=w.heap.size
 low:∀b,b<D->w'.heap[b]?=w.heap[b]?
 cells:∀(b:Nat) (cs:Array Value) (el:TypeId) (z:Nat×Nat),w.heap[b]?=some (.cells cs el z)->w'.heap[b]?=some (.cells cs el z)
theorem YU.refl(D:Nat)(w:World):YU D w w:=⟨rfl,rfl,rfl,rfl,rfl,λ_ _=>rfl,λ_ _ _ _ h=>h⟩
theorem YU.trans{D:Nat}{a b c:World}(h:YU D a b)(k:YU D b c):YU D a c:=
 ⟨k.os.trans h.os,k.tape.trans h.tape,k.output.trans h.output,k.drawn.trans h.drawn,k.size.trans h.size,λb d=>(k.low b d).trans (h.low b d),λb cs el z f=>k.cells b cs el z (h.cells b cs el z f)⟩
theorem WX{w w' a:World}{S S':Nat->Prop}{h h':Heap}{μ μ':Gh}(ev:Ci w S h μ w' S' h' μ')(b:YU w.heap.size w' a):Ci w S h μ a S' h' μ':=
 ⟨b.os.trans ev.os,b.tape.trans ev.tape,⟨b.output.trans ev.output.1,by rw [b.drawn];exact ev.output.2⟩,by rw [b.size];exact ev.size,λk d f=>(b.low k d).trans (ev.keep k d f),λk cs el z g=>by obtain ⟨cs',m,l⟩:=ev.shape k cs el z g;exact ⟨cs',b.cells _ _ _ _ m,l⟩,ev.st,ev.st2,ev.ow,ev.lp⟩
section
variable {P:Program} {nt:Nat} {S:Nat->Prop} {s:Dn.S Ty.T} {μ:Gh} {f:Fm} {fs:List Fm} {tmps:Array Value}
theorem Jpa{fn:Func}{R:Ending->World->Prop}:∀(ds:List Deferred) {w:World},BO nt w S s μ { tmps:=tmps,defers:=ds } (f::fs) ->
  (∀y,BO nt y S s μ { tmps:=tmps,defers:=[] } (f::fs)->YU f.d w y->LeavesIn (Fr none) 0 P fn tmps R [] .returning y)->LeavesInM (Fr none) 0 P fn tmps R ds .returning w
 | [],w,h,hR=>hR w h (.refl _ _)
 | d::ds,w,h,hR=>by
  obtain ⟨r,e,hr,hs⟩:=h.fr.df.2 d Ad;obtain ⟨q,o,hq⟩:=h.md.1 d Ad;have G:q=r:=by rw [e] at o;injection o with o;injection o with o;exact o.symm
  subst G;have A:=List.nodup_cons.1 h.fr.df.1;have a:∀g ob,AA s g=some ob->ob.live=true->μ.b g≠q:=by
   rintro g ob Y hl rfl;have:=h.fr.hp.ob g ob Y;cases ob with
   | box v cells=>obtain ⟨cs,el,x,_⟩:=this;rw [hr] at x;cases x
   | arr v e t cells z=>obtain ⟨cs,x,_⟩:=this (Qj.1 hl);rw [hr] at x;cases x
   | map v es z=>obtain ⟨es',clock,x,_⟩:=this;rw [hr] at x;cases x
  have mput:∀ {l:List Deferred},(({ target:=.collected q,args:=#[] }:Deferred)∉l)->Marks w S l->Marks (w.putObj q (.deferred none)) S l:=λ{l} Z L=>⟨L.1,λx hx=>by obtain ⟨b,M,B,J⟩:=L.2 x hx;refine ⟨b,M,(YO λe3=>Z ?_).trans B,J⟩;rw [<-e3,<-M];exact hx⟩
  have K:BO nt (w.putObj q (.deferred none)) S s μ { tmps:=tmps,defers:=ds } (f::fs):=by
   refine ⟨⟨λd=>qV hs a (h.fr.fr d),Od hs a h.fr.hp,mput (e▸A.1) ⟨A.2,λx hx=>h.fr.df.2 x (Ap _ hx)⟩,h.fr.sz⟩,h.len,λi Q b h1 K d v X=>qV hs a (h.lo i Q b h1 K d v X),
    λp m=>⟨mput (λx=>?_) (h.sz p m).1,(h.sz p m).2.1,by simpa using (h.sz p m).2.2⟩,⟨λd hd=>h.md.1 d (Ap _ hd),h.md.2⟩,λp m j r hj=>?_,h.iv⟩
   ·have:=h.md.lt p m q x;omega
   ·obtain ⟨E,O,N⟩:=h.lp p m j r hj;exact ⟨(YO λe=>by rw [e,hr] at E;cases E).trans E,O,N⟩
  have b1:YU f.d w (w.putObj q (.deferred none)):=⟨rfl,rfl,rfl,rfl,by simp,λb B=>YO (by omega),λb cs el z H=>(YO λe=>by rw [e,hr] at H;cases H).trans H⟩;refine ⟨(by intro h;cases h),.inl ⟨q,w.putObj q (.deferred none),by rw [e],run_takeDeferred hr,Jpa ds K λy F B=>hR y F (b1.trans B)⟩⟩
end
section
variable {P:Program} {call:Vv.Call} {cx:Cx} {mk:Cx->Tn}
theorem Wz(hC:Md call cx.ct)(A:Lm P call)(hm:P.follows .mixedOrders=true)(X:Lh P cx)(hcd:tC P cx)(hI:∀hs,sM P hs (mk { cx with hs:=hs,rd:=false }))(hrd:cx.rd=false)
  {α:Type} {f:FuncId} {base:Nat} {vs:List (V Ty.T)} {s:S Ty.T} {k:V Ty.T->S Ty.T->Option α} {r:α} (G:Bd yB f=false) (hd:aA mk cx val f base vs s k=some r) :
  DT P f/\∀ {n0:Nat} {w:World} {S:Nat->Prop} {μ:Gh} {a0:Act} {fr:Fm} {fs:List Fm} {cargs:Array Value},BO n0 w S s μ a0 (fr::fs)->Lu P cx.hs (fr::fs)->Il (fr::fs)->(∀v∈vs,okV s v)->cargs.size=vs.length ->
   (∀(i:Nat) (x:V Ty.T),vs[i]?=some x->BF w S (AA s) μ (AQ s x) (cargs.getD i undef))->∀ {R:Ending->World->Prop},fr.d=w.heap.size ->
   (∀w' S' μ' v s' cv,BO fr.nt w' S' s' μ' fr.act fs->okV s' v->BF w' S' (AA s') μ' (AQ s' v) cv->Ci w S (AA s) μ w' S' (AA s') μ'->k v s'=some r->R (.returned cv) w')->Calls P f cargs w R:=by
 simp only [aA,G] at hd;cases y:cx.code f with
 | none=>rw [y] at hd;cases hd
 | some lf=>
  rw [y] at hd;simp only at hd;have h:=hcd f lf y;unfold MS at h;cases M:P.funcs[f]? with
  | none=>rw [M] at h;cases h
  | some fn=>
   rw [M] at h;simp only [Ak] at h;cases G:fn.body with
   | none=>rw [G] at h;cases h
   | some c=>
    rw [G] at h;simp only [Ak] at h;split at h
    ·cases h
    ·rename_i m;cases o:Ig P fn.ntmps c with
     | none=>rw [o] at h;cases h
     | some b=>
      rw [o] at h;simp only [Ak] at h;obtain ⟨rs,Y,rfl⟩:=zi h;split at hd
      ·rename_i hnp;refine ⟨⟨fn,M,by rw [G];rfl,by simpa using m⟩,λ{n0 w S μ a0 fr fs cargs} a hh hfs okv hsz B {R} hd0 hR=>?_⟩;have L:AA (⟨TW 0 vs,s.lo,s.ob,s.ln,s.mo⟩:Dn.S Ty.T)=AA s:=Na rfl rfl;have hv:∀v,AQ (⟨TW 0 vs,s.lo,s.ob,s.ln,s.mo⟩:Dn.S Ty.T) v=AQ s v:=λv=>uX rfl rfl v;have K:DR fn.ntmps w S (enc (⟨TW 0 vs,s.lo,s.ob,s.ln,s.mo⟩:Dn.S Ty.T)) μ { tmps:=cargs++Bk (fn.ntmps - cargs.size) undef,defers:=[] }:=by
        refine ⟨λd=>?_,by show BK w S (AA _) μ;rw [L];exact a.fr.hp,.nil,by simp;omega⟩;show BF w S (AA _) μ (AQ _ (Dn.S.at _ d)) _;rw [L];unfold Dn.S.at;simp only [Juf,Bq,if_true,Nat.sub_zero];cases J:vs[d]? with
        | none=>exact .any _
        | some v=>
         simp only;rw [hv];have hlt:d<cargs.size:=by have:=(As.1 J).1;omega
         have e:(cargs++Bk (fn.ntmps - cargs.size) undef).getD d undef=cargs.getD d undef:=by simp only [Ae];rw [Array.getElem?_append_left hlt]
         rw [e];exact B d v J
       have hF:BO fn.ntmps w S (⟨TW 0 vs,s.lo,s.ob,s.ln,s.mo⟩:Dn.S Ty.T) μ { tmps:=cargs++Bk (fn.ntmps - cargs.size) undef,defers:=[] } (fr::fs):=
        ⟨K,a.len,λi l b hl hb' d v hd'=>by rw [L,hv];exact a.lo i l b hl hb' d v hd',a.sz,⟨λd hd=>(by cases hd),a.md.2⟩,a.lp,λp Z=>okv _ (Jyg Z),a.iv.lo,a.iv.ob,a.iv.mo⟩
       refine callsIn_wide.1 (callsIn_of_wp_marks (F:=Fr none) (n:=0) M G trivial (wpIn_mono (fK hC A hI hm X (λ_=>rfl) hh hfs c o hF hd (Q:=bodyPostM (Fr none) 0 P fn R) λe x a' w' S' μ' s' is H r2 N=>?_) λ_ _ _ q=>q));have fin:KD val s' rs (λl=>k (aD l) s'.pop)=some r->bodyPostM (Fr none) 0 P fn R .ret a' w':=λh3=>by
        have O:BO fn.ntmps w' S' s' μ' { tmps:=a'.tmps,defers:=a'.defers } (fr::fs):=H;refine Jpa a'.defers O λw2 H g=>?_;obtain ⟨l,cv,q1,q2,q3,q4⟩:=J12 (P:=P) H.fr H.iv Y h3;have Z:=H.pop;have E:s'.pop.ob=s'.ob/\s'.pop.ln=s'.ln:=by unfold Dn.S.pop;split<;>exact ⟨rfl,rfl⟩
        rw [hd0] at g;refine ⟨cv,q1,hR w2 S' μ' (aD l) s'.pop cv Z (λc hc=>?_) ?_ ?_ q4⟩
        ·have:=q2 c hc;intro r hr;rw [E.1];exact this r hr
        ·rw [Na E.1 E.2 (Ow _),uX E.1 E.2];exact q3
        ·rw [Na E.1 E.2 (Ow _)];rw [L] at r2;exact WX r2 g
       cases e with
       | exit i=>cases N
       | normal=>cases x<;>simp only [LE.is] at is;exact fin N
       | ret=>cases x<;>simp only [LE.is] at is;exact fin N
      ·cases hd
end
section
variable {P:Program} {call:Vv.Call} {cx:Cx} {mk:Cx->Tn}
end
structure TY (P:Program) (f:FuncId) (B:Bi):Prop where
 lt:Bd yB f=false
 fn:DT P f
 run:∀ {α:Type} {base:Nat} {vs:List (V Ty.T)} {s:S Ty.T} {k:V Ty.T->S Ty.T->Option α} {r:α},B.run val f base vs s k=some r ->
  ∀ {n0:Nat} {w:World} {S:Nat->Prop} {μ:Gh} {a0:Act} {fr:Fm} {fs:List Fm} {cargs:Array Value},BO n0 w S s μ a0 (fr::fs)->(∀v∈vs,okV s v)->cargs.size=vs.length ->
   (∀(i:Nat) (x:V Ty.T),vs[i]?=some x->BF w S (AA s) μ (AQ s x) (cargs.getD i undef))->∀ {R:Ending->World->Prop},
   (∀w' S' μ' v s' cv,BO fr.nt w' S' s' μ' fr.act fs->okV s' v->BF w' S' (AA s') μ' (AQ s' v) cv->Ci w S (AA s) μ w' S' (AA s') μ'->k v s'=some r->R (.returned cv) w')->Calls P f cargs w R
def jQ(P:Program)(cx:Cx):Prop:=∀f B,cx.bi f=some B->TY P f B
section
variable {P:Program} {call:Vv.Call}
theorem Ru(A:Lm P call)(L:P.follows .mixedOrders=true)(n:Nat):∀ {cx:Cx} (hC:Md call cx.ct) (m:Lh P cx) (E:jQ P cx) (y:tC P cx) (F:cx.rd=false),sM P cx.hs (den n cx):=by
 induction n with
 | zero=>intro cx _ _ _ _ _ α f base vs s k r h;cases h
 | succ n K=>
  intro cx hC m E y F α f base vs s k r hd;have hd:(match cx.bi f with|some B=>B.run val f base vs s k|none=>aA (den n) cx val f base vs s k)=some r:=hd;have hI:∀hs,sM P hs (den n { cx with hs:=hs,rd:=false }):=λhs=>K (cx:={ cx with hs:=hs,rd:=false }) hC m E y rfl;cases hB:cx.bi f with
  | some B=>
   rw [hB] at hd;have g:=E f B hB;refine ⟨λ_=>g.fn,λ{J w S μ a0 fr fs cargs} d H o okv l a {R} v hR=>⟨λ_=>g.run hd d okv l a hR,λj e=>?_⟩⟩;subst e;have:=g.lt;rw [Ao (Bh _ _)] at this;cases this
  | none=>
  rw [hB] at hd;have hd:aA (den n) cx val f base vs s k=some r:=hd;cases G:Bd yB f with
  | false=>
   obtain ⟨O,N⟩:=Wz hC A L m y hI F G hd;refine ⟨λ_=>O,λ{J w S μ a0 fr fs cargs} d H o okv l a {R} v hR=>⟨λ_=>N d H o okv l a v hR,λj e=>?_⟩⟩;subst e;rw [Ao (Bh _ _)] at G;cases G
  | true=>
   refine ⟨λq=>(by cases q),λ{J w S μ a0 fr fs cargs} d H o okv l a {R} v hR=>⟨λq=>(by cases q),λj e M=>?_⟩⟩;subst e;unfold aA at hd;rw [G] at hd;cases hd
end
structure Good (P:Program) (c:BS):Prop where
 fn:DT P c.id
 ok:c.ok=true
 rk:c.rs.all Fb=true
 run:∀x r,c.fn x=some r->∀(w:World) (S:Nat->Prop) (cargs:Array Value),(∀b,S b->b<w.heap.size)->cargs.size=(GY c.as x).length->(∀(i:Nat) (y:AV),(GY c.as x)[i]?=some y->BD w S y (cargs.getD i undef)) ->
  Calls P c.id cargs w λe w'=>∃cv,e=.returned cv/\BD w' (JV S w w') (GQ c.rs r) cv/\Old w w'
def TR(P:Program)(Γ:FuncId->Option BS):Prop:=∀f c,Γ f=some c->c.id=f/\Good P c
theorem Jzk{P:Program}{Γ:FuncId->Option BS}(hΓ:TR P Γ):Lm P (jL Γ):=by
 refine ⟨λf vs m r h=>?_,λf vs v h' h w S cargs hS a B=>?_⟩
 ·obtain ⟨v,h'⟩:=r;obtain ⟨c,x,r,d,-⟩:=Jt6 h;obtain ⟨rfl,g⟩:=hΓ f c d;exact g.fn
 ·obtain ⟨c,x,r,d,-,l,hr,rfl⟩:=Jt6 h;obtain ⟨rfl,g⟩:=hΓ f c d;refine g.run x r hr w S cargs hS (by rw [a,l.len]) λi y A=>?_;obtain ⟨z,o,up⟩:=l.back A;exact up.rep (B i z o)
theorem J3y{P:Program}{Γ:FuncId->Option BS}(hΓ:TR P Γ):Md (jL Γ) Γ:=SB λf c h=>⟨(hΓ f c h).2.ok,(hΓ f c h).2.rk⟩
def NR:(rs:List (Bool×Ty))->(Jan (rs.map (·.2))).T->List AV
 | [],_=>[]
 | [a],x=>[FW (rk a) x]
 | a::b::r,(x,y)=>FW (rk a) x::NR (b::r) y
section
variable {s:S Ty.T}
theorem Kat(p:Bool×List (C Ty.T)):AQ s (Sq p)=if p.1 then .agg (p.2.map (AB s)) else zk (p.2.map (AB s)):=by
 obtain ⟨b,l⟩:=p;cases b with
 | true=>rfl
 | false=>
  match l with
  | []=>rfl
  | [c]=>rfl
  | _::_::_=>rfl
theorem Jn5{a:Bool×Ty}{v:V Ty.T}{α:Type}{k:(rk a).2.T->Option α}{r:α}(h:IJ val s.ob (rk a) v k=some r):jN v=false:=by
 obtain ⟨b,t⟩:=a;cases v with
 | ag l=>rfl
 | tp l=>rfl
 | c c=>
  cases c with
  | ptr g ver off=>
   exfalso;cases b with
   | true=>simp only [IJ,rk,if_true] at h;cases h
   | false=>
    simp only [IJ,rk,Bool.false_eq_true,if_false,VK] at h;obtain ⟨x,hx,-⟩:=Jk h;simp [Eo,HV] at hx
  | _=>rfl
theorem Jts{α:Type}{r:α}:∀ {rs:List (Bool×Ty)} (d:rs.all Fb=true) {vs:List (V Ty.T)} {k:(Jan (rs.map (·.2))).T->Option α},MF val s.ob rs vs k=some r ->
  ∃x,k x=some r/\∃N,FP (AA s) depth (vs.map (AQ s)) (NR rs x) N
 | [],d,[],k,h=>⟨(),h,[],.nil⟩
 | [a],d,[v],k,h=>by
  have h:IJ val s.ob (rk a) v k=some r:=h;have o:Fq (rk a)=true:=by
   simp only [Au,Bo,Bm] at d;unfold Fb at d;unfold rk Fq;cases w:a.1 with
   | true=>rfl
   | false=>rw [w] at d;simpa using d
  obtain ⟨x,hx,u,ns,-,m,l⟩:=wC o h;obtain ⟨g,f⟩:=l (Jn5 h);exact ⟨x,hx,_,.cons g m f .nil⟩
 | a::b::rs,d,v::vs,k,h=>by
  have h:IJ val s.ob (rk a) v (λx=>MF val s.ob (b::rs) vs λy=>k (val.pr x y))=some r:=h;have A:=d;rw [Au,Af] at d;have o:Fq (rk a)=true:=by
   have d:=d.1;unfold Fb at d;unfold rk Fq;cases w:a.1 with
   | true=>rfl
   | false=>rw [w] at d;simpa using d
  obtain ⟨x,hx,u,ns,-,m,l⟩:=wC o h;obtain ⟨g,f⟩:=l (Jn5 h);obtain ⟨y,B,N,hN⟩:=Jts d.2 hx;exact ⟨_,B,_,.cons g m f hN⟩
 | [],d,_::_,k,h=>by cases h
 | [a],d,[],k,h=>by cases h
 | [a],d,_::_::_,k,h=>by cases h
 | a::b::rs,d,[],k,h=>by cases h
theorem J7t{a:Bool×Ty}(d:Fb a=true)(x:a.2.T):(if a.1 then AV.agg ((expl val a.2 x).map (AB s)) else zk ((expl val a.2 x).map (AB s)))=FW (rk a) x:=by
 obtain ⟨b,t⟩:=a;cases b with
 | true=>simp only [if_true,rk,FW];rw [Yx]
 | false=>simp only [Bool.false_eq_true,if_false,rk,FW];rw [Yx]
theorem Jr1:∀ {rs:List (Bool×Ty)} (d:rs.all Fb=true) (x:(Jan (rs.map (·.2))).T),(LH val rs x).map (λp=>if p.1 then AV.agg (p.2.map (AB s)) else zk (p.2.map (AB s)))=NR rs x
 | [],d,x=>rfl
 | [a],d,x=>by simp only [Au,Bo,Bm] at d;simp only [LH,Ar,List.map_nil,NR,TN];exact congrArg (λv=>[v]) (J7t d x)
 | a::b::rs,d,(x,y)=>by rw [Au,Af] at d;simp only [LH,Ar,NR,TN];have e:=Jr1 d.2 y;exact (congrArg (λl=>_::l) e).trans (congrArg (λv=>v::NR (b::rs) y) (J7t d.1 x))
theorem J7n{rs:List (Bool×Ty)}(a:rs.all Fb=true)(x:(Jan (rs.map (·.2))).T):GQ rs x=(match NR rs x with | [v]=>v|l=>.Cn l):=by
 unfold GQ NH;have e:=Jr1 (s:=⟨[],[],[],[],none⟩) a x;rw [<-e];split
 ·rename_i p f;rw [f];exact Kat p
 ·rename_i l hl;cases d:LH val rs x with
  | nil=>rfl
  | cons p m=>
   cases m with
   | nil=>exact (hl p d).elim
   | cons q m=>rfl
theorem J0x:∀(rs:List (Bool×Ty)) (x:(Jan (rs.map (·.2))).T),(NR rs x).length=rs.length
 | [],x=>rfl
 | [a],x=>rfl
 | a::b::rs,(x,y)=>by simp only [NR,List.length_cons];rw [J0x (b::rs) y];rfl
theorem J3z(a:AK×Ty)(x:a.2.T)(h:Fq a=true):AQ s (KL val a x)=FW a x:=by
 obtain ⟨k,t⟩:=a;cases k with
 | one=>
  simp only [KL,FW];have h:t.one=true:=h;have:=Yx s t x;split
  ·rename_i c f;rw [f] at this;rw [<-this];rfl
  ·rename_i d;exfalso;obtain ⟨v,g⟩:=kK h x;have hl:=Tj t x;have:(expl val t x).length=1:=by rw [hl,<-IV t x,g];rfl
   obtain ⟨c,f⟩:=List.length_eq_one_iff.1 this;exact d c f
 | ag=>simp only [KL,FW,AQ];rw [Yx]
 | rp=>simp only [KL,FW,AQ,AB,Bl]
theorem Js4:∀ {as:List (AK×Ty)} (h:as.all Fq=true) (x:(Jan (as.map (·.2))).T),(TS val as x).map (AQ s)=GY as x
 | [],h,x=>rfl
 | [a],h,x=>by simp only [Au,Bo,Bm] at h;simp only [TS,Ar,List.map_nil,GY];exact congrArg (λv=>[v]) (J3z a x h)
 | a::b::r,h,(x,y)=>by rw [Au,Af] at h;simp only [TS,Ar,GY];rw [show (TS val (b::r) (val.sn (x,y))).map (AQ s)=GY (b::r) y from Js4 h.2 y];exact congrArg (λv=>v::GY (b::r) y) (J3z a x h.1)
theorem J7j(a:AK×Ty)(x:a.2.T):okV s (KL val a x):=by
 obtain ⟨k,t⟩:=a;cases k with
 | one=>
  simp only [KL];split
  ·rename_i c d;exact Zm (Sr s t x c (by rw [d];exact Ab.2 rfl))
  ·exact Zm (Kh s rfl)
 | ag=>exact Sr s t x
 | rp=>exact Zm (Kh s rfl)
theorem Jxt:∀ {as:List (AK×Ty)} (x:(Jan (as.map (·.2))).T),∀v∈TS val as x,okV s v
 | [],x,v,h=>by cases h
 | [a],x,v,h=>by have:=Ab.1 h;subst this;exact J7j a x
 | a::b::r,x,v,h=>by
  rcases Aw.1 h with rfl|h
  ·exact J7j a _
  ·exact Jxt _ v h
end
theorem Juq{w:World}{S:Nat->Prop}(hS:∀b,S b->b<w.heap.size)(μ:Gh):BK w S (λ_=>none) μ:=
 ⟨λ_ _ a=>(by cases a),λ_ _ _ _ a=>(by cases a),λ_ _ a=>(by cases a),hS⟩
theorem WQ{P:Program}{cx:Cx}{Γ:FuncId->Option BS}(hct:cx.ct=Γ)(hΓ:TR P Γ)(hm:P.follows .mixedOrders=true)(hso:Lh P cx)(hbi:jQ P cx)(hcd:tC P cx)(hhs:cx.hs=[])(hrd:cx.rd=false){c:BS}{n:Nat}(hok:c.ok=true)(X:c.rs.all Fb=true)(hfn:DT P c.id)
  (hf:∀x r,c.fn x=some r->CY val cx n c.id c.as c.rs x=some r):Good P c:=by
 subst hct;refine ⟨hfn,hok,X,λx r hr w S cargs hS hsz ha=>?_⟩;have hd:=hf x r hr;unfold CY at hd;obtain ⟨-,hcl⟩:=Ru (Jzk hΓ) hm n (J3y hΓ) hso hbi hcd hrd hd;have hs0:AA (⟨[],[[]],[],[],none⟩:Dn.S Ty.T)=λ_=>none:=rfl;have Z:BO 0 w S (⟨[],[[]],[],[],none⟩:Dn.S Ty.T) ⟨λ_=>0,λ_=>0,λ_=>0⟩ M0 [⟨0,M0,none,w.heap.size⟩]:=
  ⟨cO (Juq hS _),rfl,λi l b hl L d v hv=>by
   cases i with
   | zero=>simp at hl;subst hl;cases hv
   | succ i=>simp at hl,λp G=>(by have:=Ab.1 G;subst this;exact ⟨.nil,Bq _,Aj _⟩),⟨λd hd=>(by cases hd),λq hq=>(by cases hq),λp G=>(by cases G),trivial⟩,λp G j r hj=>(by have:=Ab.1 G;subst this;cases hj),λp G=>(by cases G),λl hl p G=>(by have:=Ab.1 hl;subst this;cases G),λg o ho=>(by cases ho),λm hm=>(by cases hm)⟩
 have enc:=Js4 (s:=⟨[],[[]],[],[],none⟩) hok x;have hble:Bd yB c.id=false:=by
  cases L:Bd yB c.id with
  | false=>rfl
  | true=>
   exfalso;cases n with
   | zero=>cases hd
   | succ n=>
    have hd:(match cx.bi c.id with|some B=>B.run val c.id 0 (TS val c.as x) ⟨[],[[]],[],[],none⟩ (λv s=>VB val s.ob c.rs v some)|none=>aA (den n) cx val c.id 0 (TS val c.as x) ⟨[],[[]],[],[],none⟩ (λv s=>VB val s.ob c.rs v some))=some r:=hd;cases hB:cx.bi c.id with
    | some B=>rw [(hbi _ B hB).lt] at L;cases L
    | none=>
     rw [hB] at hd;simp only [aA,L,hhs] at hd;cases hd
 refine (hcl Z (by rw [hhs];intro j h hl;cases hl) (by
  intro pre f post e j q hj;cases pre with
  | nil=>injection e with e1 e2;subst e1;cases hj
  | cons p pre=>injection e with e1 e2;simp at e2) (Jxt x) (by rw [hsz,<-enc];simp) (λi v hv=>?_) rfl λw' S' μ' v s' cv r1 r2 r3 O r5=>?_).1 hble
 ·refine .pure (ha i _ ?_);rw [<-enc,Aa,hv];rfl
 ·refine ⟨cv,rfl,?_,?_⟩
  ·have noOwn:∀b,¬Own (λ_=>none) (⟨λ_=>0,λ_=>0,λ_=>0⟩:Gh) b:=λb ⟨g,o,ho,_⟩=>by cases ho
   have hS':∀b,S' b->JV S w w' b:=λb L=>by
    rcases O.st2 b L with F|F|F
    ·exact .inl F
    ·exact .inr ⟨F,r1.fr.hp.lt b L⟩
    ·exact (noOwn b F).elim
   have met:∀ {k:Nat} {v u:AV} {ns:List Nat},snap (AA s') k v=some (u,ns)->Met (JV S w w') (AA s') μ' ns:=λhsn g hg o1 K Y=>by
    obtain ⟨o2,J,hfz⟩:=iq _ hsn g hg;rw [K] at J;injection J with J;subst J;cases H:o1.fz with
    | true=>
     have hob:=r1.fr.hp.ob g _ K;cases o1 with
     | box v c=>cases H
     | arr v e t c z=>obtain ⟨_,_,_,_,h4⟩:=hob (Qj.1 Y);exact hS' _ (h4 H)
     | map v es z=>obtain ⟨_,_,_,_,h4,_⟩:=hob;exact hS' _ (h4 H)
    | false=>
     rcases O.ow (μ'.b g) ⟨g,_,K,H,Y,rfl⟩ with F|F
     ·exact (noOwn _ F).elim
     ·exact .inr ⟨F,(r1.fr.hp.ob g _ K).lt Y⟩
   have piece:∀ {v:AV} {y:AV} {cv:Value},(∃u ns,snap (AA s') depth v=some (u,ns)/\Up u y)->BF w' S' (AA s') μ' v cv->BD w' (JV S w w') y cv:=λ⟨u,ns,F,h2⟩ h3=>h2.rep (iw r1.fr.hp hS' depth F h3 (met F));unfold VB at r5;obtain ⟨y,hy,N,ps,hN,Q,-⟩:=Jts X r5;injection hy with hy;subst hy;obtain ⟨m1,m2⟩:=Tk hN;have item:∀(i:Nat) (u:V Ty.T) (z:AV),(aF c.rs v)[i]?=some u->(NR c.rs y)[i]?=some z->∃u' ns,snap (AA s') depth (AQ s' u)=some (u',ns)/\Up u' z:=λi u z hu hz=>by obtain ⟨p,p1,p2⟩:=m2 i (AQ s' u) (by rw [Aa,hu];rfl);exact ⟨p.1,p.2,p2,Q.at' i p.1 z (by rw [Aa,p1];rfl) hz⟩
   have M:=J0x c.rs y;have E:(aF c.rs v).length=(NR c.rs y).length:=by have:=Q.len;simp only [Ay] at this m1;omega
   rw [J7n X];generalize hA:NR c.rs y=A at item M E;clear Q hN m1 m2 r5
   match R:c.rs,A,M with
   | [a],[z],_=>
    rw [R] at item;exact piece (item 0 v z rfl rfl) r3
   | [],[],_=>
    rw [R] at E;cases v with
    | tp l=>
     have:l=[]:=Ag (by simpa [aF] using E);subst this;obtain ⟨cs,e,F,h2⟩:=r3.FY;subst e;exact .Cn [] cs F λi x hi=>by simp at hi
    | _=>simp [aF] at E
   | a::b::rs,z1::z2::zs,hl=>
    rw [R] at item E;cases v with
    | tp l=>
     have h3:BF w' S' (AA s') μ' (.Cn (l.map λp=>if p.1 then .agg (p.2.map (AB s')) else zk (p.2.map (AB s')))) cv:=r3;obtain ⟨cs,e,F,h2⟩:=h3.FY;subst e;have hll:l.length=(z1::z2::zs).length:=by simpa [aF] using E
     refine .Cn _ cs (by rw [<-hll];simpa using F) λi z hi=>?_;cases G:l[i]? with
     | none=>
      have:=(As.1 hi).1;rw [Bc] at G;omega
     | some p=>
      refine piece (item i (Sq p) z (by show (l.map Sq)[i]?=_;rw [Aa,G];rfl) hi) ?_;rw [Kat];exact h2 i _ (by rw [Aa,G];rfl)
    | c x=>simp [aF] at E
    | ag l=>simp [aF] at E
  ·exact ⟨O.os,O.tape,O.output,O.size,λb L=>O.keep b L λ⟨g,o,ho,_⟩=>by cases ho⟩
structure MV (P:Program) (c:ZV):Prop where
 lt:Bd yB c.id=false
 fn:DT P c.id
 ok:c.as.all Fq=true
 pos:0<c.t.sz
 run:∀x r,c.fn x=some r->∀(w:World) (S:Nat->Prop) (cargs:Array Value),(∀b,S b->b<w.heap.size)->cargs.size=(GY c.as x).length->(∀(i:Nat) (y:AV),(GY c.as x)[i]?=some y->BD w S y (cargs.getD i undef)) ->
  Calls P c.id cargs w λe w'=>∃cv,e=.returned cv/\Old w w'/\gU w w' S c.el c.t r cv
theorem Rz{P:Program}{c:BS}(g:Good P c)(L:Bd yB c.id=false):TY P c.id c.bi:=by
 refine ⟨L,g.fn,λ{α base vs s k r} hd {n0 w S μ a0 fr fs cargs} hF okv H A {R} hR=>?_⟩;obtain ⟨x,hx,-,J⟩:=Joz g.ok hd;split at hx
 ·cases hx
 rename_i m;have E:vs.any jN=false:=by simpa using m
 have hx:JG (c.fn x) (λr=>k (NH val c.rs r) (Qi s (YA s vs)).pop)=some r:=hx;cases K:c.fn x with
 | none=>rw [K] at hx;cases hx
 | some l=>
 rw [K] at hx;have hx:k (NH val c.rs l) (Qi s (YA s vs)).pop=some r:=hx;obtain ⟨ps,s1,O,Z⟩:=J E;have hs:KO (AA s) (vs.map (AQ s))=some (ps.map (·.1),ps.flatMap (·.2)):=by simp only [KO,s1]
 obtain ⟨M,X,Q⟩:=vg (h:=AA s) hF.fr.hp (wS hs);obtain ⟨h1,h2⟩:=Jmg (h:=AA s) hF.fr.hp (S':=λb=>S b\/MW (AA s) μ (ps.flatMap (·.2)) b) (λb hb=>.inl hb) hs (λg hg o ho hl=>.inr ⟨g,hg,o,ho,hl,rfl⟩);obtain ⟨N,Y,t3⟩:=lT (YA s vs) hF.iv (Jzt hF.iv okv);have efz:Jl (AA s) (ps.flatMap (·.2))=AA (Qi s (YA s vs)):=by rw [t3];exact Jud Z
 rw [efz] at M X Q;refine (g.run x l K w _ cargs M.lt (by rw [H,<-O.len];simp at h1 ⊢;omega) λi y hy=>?_).mono λe w' ⟨cv,he,B,F⟩=>?_
 ·obtain ⟨z,hz,up⟩:=O.back hy;obtain ⟨v,f,G⟩:=h2 i z hz;refine up.rep (G _ ?_);rw [Aa] at f;cases a:vs[i]? with
  | none=>rw [a] at f;cases f
  | some u=>
   rw [a] at f;injection f with f;subst f;exact A i u a
 ·subst he;obtain ⟨S2,μ2,r1,r2,r3,r4⟩:=iI M F B;have ev:=X.trans r3;have vv:=Q.trans r4;have hF2:BO n0 w' S2 (Qi s (YA s vs)) μ2 a0 (fr::fs):=by refine hF.step rfl ⟨λd=>?_,r2,hF.fr.hp.marks hF.fr.df ev,hF.fr.sz⟩ N.on Y ev vv;rw [Sy hF.iv N];exact (hF.fr.fr d).DK hF.fr.hp ev vv
  have eh:AA (Qi s (YA s vs)).pop=AA (Qi s (YA s vs)):=by
   unfold Dn.S.pop;split
   ·exact Na rfl rfl
   ·rfl
  refine hR w' S2 _ _ _ cv hF2.pop (vT _ c.rs l) ?_ (by rw [eh];exact ev) hx;rw [eh,wO];exact r1
theorem J7y{s:S Ty.T}{t:Ty}{el:TypeId}{α:Type}{v:V Ty.T}{k:List t.T->Option α}{r:α}(h:cK val s.ob t el v k=some r) :
  (v=.c (.k .BM)/\k []=some r)\/∃(g ver:Nat) (l:List t.T),v=.c (.own g ver)/\look g s.ob=some (.row ver t.sz el t l [] none false)/\0<t.sz/\k l=some r:=by
 unfold cK at h;split at h
 ·exact .inl ⟨rfl,h⟩
 ·rename_i g ver;split at h
  ·rename_i v e el' G l o;obtain ⟨⟨F,E,B,A⟩,w⟩:=su h;subst F;subst E;subst A;obtain ⟨m,f,y⟩:=Jk w;obtain ⟨et,d⟩:=Y7 f;injection et with et;subst et;have a:m=l:=d;subst a;exact .inr ⟨g,v,m,rfl,o,B,y⟩
  ·cases h
 ·cases h
theorem dB{P:Program}{cx:Cx}{Γ:FuncId->Option BS}(hct:cx.ct=Γ)(hΓ:TR P Γ)(hm:P.follows .mixedOrders=true)(hso:Lh P cx)(hbi:jQ P cx)(hcd:tC P cx)(hhs:cx.hs=[])(hrd:cx.rd=false){c:ZV}{n:Nat}(hok:c.as.all Fq=true)(M:0<c.t.sz)(hfn:DT P c.id)(hlt:Bd yB c.id=false)
  (hf:∀x r,c.fn x=some r->tq val cx n c.id c.as c.t c.el x=some r):MV P c:=by
 subst hct;refine ⟨hlt,hfn,hok,M,λx r hr w S cargs hS hsz ha=>?_⟩;have hd:=hf x r hr;unfold tq at hd;obtain ⟨-,hcl⟩:=Ru (Jzk hΓ) hm n (J3y hΓ) hso hbi hcd hrd hd;have hrep:BO 0 w S (⟨[],[[]],[],[],none⟩:Dn.S Ty.T) ⟨λ_=>0,λ_=>0,λ_=>0⟩ M0 [⟨0,M0,none,w.heap.size⟩]:=
  ⟨cO (Juq hS _),rfl,λi l b hl R d v hv=>by
   cases i with
   | zero=>simp at hl;subst hl;cases hv
   | succ i=>simp at hl,λp B=>(by have:=Ab.1 B;subst this;exact ⟨.nil,Bq _,Aj _⟩),⟨λd hd=>(by cases hd),λq hq=>(by cases hq),λp B=>(by cases B),trivial⟩,λp B j r hj=>(by have:=Ab.1 B;subst this;cases hj),λp B=>(by cases B),λl hl p B=>(by have:=Ab.1 hl;subst this;cases B),λg o O=>(by cases O),λm hm=>(by cases hm)⟩
 have enc:=Js4 (s:=⟨[],[[]],[],[],none⟩) hok x;refine (hcl hrep (by rw [hhs];intro j h hl;cases hl) (by
  intro pre f post e j q hj;cases pre with
  | nil=>injection e with e1 Y;subst e1;cases hj
  | cons p pre=>injection e with e1 Y;simp at Y) (Jxt x) (by rw [hsz,<-enc];simp) (λi v hv=>?_) rfl λw' S' μ' v s' cv r1 r2 Z X r5=>?_).1 hlt
 ·refine .pure (ha i _ ?_);rw [<-enc,Aa,hv];rfl
 ·have noOwn:∀b,¬Own (λ_=>none) (⟨λ_=>0,λ_=>0,λ_=>0⟩:Gh) b:=λb ⟨g,o,O,_⟩=>by cases O
  have hS':∀b,S' b->JV S w w' b:=λb R=>by
   rcases X.st2 b R with K|K|K
   ·exact .inl K
   ·exact .inr ⟨K,r1.fr.hp.lt b R⟩
   ·exact (noOwn b K).elim
  refine ⟨cv,rfl,⟨X.os,X.tape,X.output,X.size,λb R=>X.keep b R λ⟨g,o,O,_⟩=>by cases O⟩,?_⟩;rcases J7y r5 with ⟨rfl,e⟩|⟨g,v,a,rfl,O,e1,Y⟩
  ·injection e with e;subst e;exact .inl ⟨rfl,none,BF.Cg (h:=AA s') Z⟩
  ·injection Y with Y;subst Y
   ·
    have hg:AA s' g=some (.arr v c.t.sz c.el (a.flatMap c.t.cs) false):=by rw [Jn O];simp [Dn.BG,Zs]
    have hl0:Yk s' g v=a.length:=by simp [Yk,O,Ob.ver,Ob.CO]
    have Z:BF w' S' (AA s') μ' (AB s' (.own g v)) cv:=Z;simp only [AB,hl0] at Z;have hcl:(a.flatMap c.t.cs).length=a.length * c.t.sz:=Kj a;have Q:a.flatMap c.t.cs=[]↔a=[]:=RL M a;cases Z with
    | pure B=>cases B
    | arr _ _ _ _ _ o1 H hv1 h11 hr1=>
     rw [hg] at H;injection H with H;subst H;obtain ⟨esz,el2,cells,fz,eo,hk⟩:=hr1 rfl;injection eo with eo1 eo2 eo3 eo4 eo5;subst eo2;subst eo4;by_cases F:a=[]
     ·obtain ⟨-,-,A,rfl⟩:=hk.1 (Q.2 F);exact .inl ⟨F,A,rfl⟩
     ·have E:a.flatMap c.t.cs≠[]:=λq=>F (Q.1 q);obtain ⟨A,cap,cs0,el0,z0,rfl,hcap,J,L,hA⟩:=hk.2 E;obtain ⟨cs,R,hsz1,N,-⟩:=r1.fr.hp.ob g _ hg E;rw [R] at J;injection J with J;injection J with q1 q2 q3;subst q1;have hlp:0<a.length:=List.length_pos_iff.2 F;have hA:=hA (by omega);rw [Az,Bn] at hA;subst hA;have G:(AZ.arr v c.t.sz c.el (a.flatMap c.t.cs) false).live=true:=Qj.2 E;refine .inr ⟨F,μ'.b g,μ'.o g,cap,cs,?_,rfl,hcap,R,by rw [Av] at L;exact L,λi y hy=>?_⟩
      ·rcases X.ow _ ⟨g,_,hg,rfl,G,rfl⟩ with K|K
       ·exact (noOwn _ K).elim
       ·exact K
      ·have hfl:y.flat=true:=Aq.1 (Mh c.t a) y (Ai hy);refine ⟨((N i y hy).1.flat hfl).mono (λq hq=>⟨hS' q hq,λe=>?_⟩) (λ_ _=>rfl),(N i y hy).2⟩;subst e;exact r1.fr.hp.own g _ hg rfl G hq
end Go.Dn
