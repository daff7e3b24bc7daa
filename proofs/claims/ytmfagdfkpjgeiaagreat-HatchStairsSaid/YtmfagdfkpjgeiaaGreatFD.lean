/- Rows that were made elsewhere; the keys of a map in a list. Conditions: none. -/
import Derived.Test.YtmfagdfkpjgeiaaGreatFA
import Derived.Maps.RangeRun
import Derived.Scope
set_option linter.unusedVariables false
set_option linter.unusedSimpArgs false
namespace Go.Dn
open Go Go.Vv
open _root_.Array renaming getElem?_eq_some_iff -> Aa, getD_eq_getD_getElem? -> Ae, getElem?_setIfInBounds -> Bc, toList_inj -> Bk, replicate -> Bo, getElem?_toList -> Bp, ext -> Bv
open List renaming mem_cons_of_mem -> Ab, mem_cons_self -> Ac, getElem?_map -> Ad, mem_singleton -> Af, mem_cons -> Ag, eq_nil_of_length_eq_zero -> Ak, mem_of_getElem? -> Am, mem_map -> Ao, all_eq_true -> Aq, map_cons -> Ar, getElem?_eq_some_iff -> Av, all_cons -> Aw, length_cons -> Ay, mem_append -> Ba, length_map -> Bb, mapM_cons -> Bd, append_of_mem -> Be, getElem?_eq_none_iff -> Bf, getElem?_eq_getElem -> Bj, getElem?_cons_succ -> Bm, nodup_cons -> Bn, drop_zero -> Bq, all_nil -> Bu
open Bool renaming and_eq_true -> Ah, and_true -> Bs
open Option renaming bind_some -> Ai, isSome_iff_exists -> Bh
open Nat renaming le_refl -> Aj, eq_of_beq_eq_true -> Al, ble_eq_true_of_le -> Ap, zero_add -> As, mul_le_mul_right -> Au, zero_mul -> Ax, le_add_right -> Az, ble -> Bg, add_zero -> Bl, blt -> Br, le_trans -> Bt, zero_le -> Bw
def OwnR(w w':World)(S:Nat->Prop)(el:TypeId)(t:Ty)(r:List t.T)(cv:Value):Prop:=
 (r=[]/\∃A,cv=.slice A 0 0) \/
 (r≠[]/\∃(b o cap:Nat) (cs:Array Value),w.heap.size<=b/\cv=.slice (some ⟨b,o,none⟩) r.length cap/\(r.length<=cap/\cap<=9223372036854775807)/\w'.heap[b]?=some (.cells cs el (0,0))/\o+cap * t.sz<=cs.size /\
  ∀(i:Nat) (x:AV),(r.flatMap t.cs)[i]?=some x->RepP w' (λq=>Zu S w w' q/\q≠b) x (cs.getD (o+i) undef)/\(cs.getD (o+i) undef).oneCell'=true)
section
variable {w w':World} {S S':Nat->Prop} {h:Heap} {μ:Gh}
theorem adopt(l:RepH w S h μ)(o:Old w w'){g b k esz:Nat}{el:TypeId}{cells:List AV}(Q:h g=none)(hS1:∀q,S q->S' q)(hS2:∀q,S' q->Zu S w w' q)(hS3:cells≠[]->¬S' b)
  (G:cells≠[]->w.heap.size<=b) (R:cells≠[]->∃cs,w'.heap[b]?=some (.cells cs el (0,0))/\k+cells.length<=cs.size/\∀(i:Nat) (x:AV),cells[i]?=some x->RepP w' S' x (cs.getD (k+i) undef)/\(cs.getD (k+i) undef).oneCell'=true) :
  RepH w' S' (upd h g (some (.arr 0 esz el cells false))) (μ.set g b k)/\Evo w S h μ w' S' (upd h g (some (.arr 0 esz el cells false))) (μ.set g b k)/\EvoV h μ (upd h g (some (.arr 0 esz el cells false))) (μ.set g b k):=by
 have mb:∀ {d},d≠g->(μ.set g b k).b d=μ.b d/\(μ.set g b k).o d=μ.o d:=λN=>⟨Jc _ _ _ _ N,Jc _ _ _ _ N⟩;have ne:∀ {d o'},h d=some o'->d≠g:=λM e=>by subst e;rw [Q] at M;cases M
 have vv:EvoV h μ (upd h g (some (.arr 0 esz el cells false))) (μ.set g b k):=λd o' a=>
  ⟨o',by rw [Jc _ _ _ _ (ne a)];exact a,Aj _,λ_=>⟨mb (ne a),.refl o'⟩⟩
 have ev:Evo w S h μ w' S' (upd h g (some (.arr 0 esz el cells false))) (μ.set g b k):=by
  refine ⟨o.os,o.tape,o.output,o.size,λq m _=>o.keep q m,λq cs e z m=>⟨cs,(o.keep q (Aa.1 m).1).trans m,rfl⟩,hS1,λq m=>?_,?_,rfl⟩
  ·rcases hS2 q m with x|x
   ·exact .inl x
   ·exact .inr (.inl x.1)
  ·rintro q ⟨d,o',a,E,hl,e⟩;by_cases f:d=g
   ·subst f;rw [Jh] at a;injection a with a;subst a;simp only [Gh.set,Jh] at e;exact .inr (e▸G (Ki.1 hl))
   ·rw [Jc _ _ _ _ f] at a;rw [(mb f).1] at e;exact .inl ⟨d,o',a,E,hl,e⟩
 refine ⟨⟨λd o' a=>?_,λJ H L K v r B A e=>?_,λd o' a E hl hs=>?_,λq m=>?_⟩,ev,vv⟩
 ·by_cases f:d=g
  ·subst f;rw [Jh] at a;injection a with a;subst a;simp only [Gh.set,Jh];intro F;obtain ⟨cs,Y,X,P⟩:=R F;exact ⟨cs,Y,X,λi x O=>⟨.pure (P i x O).1,(P i x O).2⟩,λq=>by cases q⟩
  ·rw [Jc _ _ _ _ f] at a;rw [(mb f).1,(mb f).2];exact (l.ob d o' a).evo l ev vv λhl=>o.keep _ ((l.ob d o' a).lt hl)
 ·by_cases f:J=g<;>by_cases y:H=g
  ·rw [f,y]
  ·subst f;rw [Jh] at v;injection v with v;subst v;rw [Jc _ _ _ _ y] at r;rw [(mb y).1] at e;simp only [Gh.set,Jh] at e;have:=(l.ob H K r).lt A;have:=G (Ki.1 B);omega
  ·subst y;rw [Jh] at r;injection r with r;subst r;rw [Jc _ _ _ _ f] at v;rw [(mb f).1] at e;simp only [Gh.set,Jh] at e;have:=(l.ob J L v).lt B;have:=G (Ki.1 A);omega
  ·rw [Jc _ _ _ _ f] at v;rw [Jc _ _ _ _ y] at r;rw [(mb f).1,(mb y).1] at e;exact l.inj J H L K v r B A e
 ·by_cases f:d=g
  ·subst f;rw [Jh] at a;injection a with a;subst a;simp only [Gh.set,Jh] at hs;exact hS3 (Ki.1 hl) hs
  ·rw [Jc _ _ _ _ f] at a;rw [(mb f).1] at hs;rcases hS2 _ hs with x|x
   ·exact l.own d o' a E hl x
   ·have:=(l.ob d o' a).lt hl;omega
 ·rcases hS2 q m with x|x
  ·exact Nat.lt_of_lt_of_le (l.lt q x) o.size
  ·exact x.2
end
theorem Jyq{t:Ty}(h:0<t.sz)(l:List t.T):l.flatMap t.cs=[]↔l=[]:=by
 constructor
 ·intro e;have d:=Jj l;rw [e] at d;rcases Nat.mul_eq_zero.1 d.symm with a|a
  ·exact Ak a
  ·omega
 ·intro e;subst e;rfl
def oneH(g0:Nat)(ob:Option AObj):Heap:=λg=>if g=g0 then ob else none
theorem Jc8{g0:Nat}{ob:Option AObj}:oneH g0 ob g0=ob:=by simp [oneH]
theorem Zh{g0 g:Nat}{ob:Option AObj}{o:AObj}(h:oneH g0 ob g=some o):g=g0/\ob=some o:=by
 unfold oneH at h;split at h
 ·exact ⟨by assumption,h⟩
 ·cases h
theorem Jd4{g0:Nat}{ob:Option AObj}{x:Option AObj}:upd (oneH g0 ob) g0 x=oneH g0 x:=by
 funext g;by_cases e:g=g0
 ·subst e;rw [Jh,Jc8]
 ·rw [Jc _ _ _ _ e];simp [oneH,e]
def IntsL(l:List AV):Prop:=∀x∈l,∃k n,x=.int k n
theorem IntsL.rep{l:List AV}(hl:IntsL l){i:Nat}{x:AV}(d:l[i]?=some x){w:World}{S S':Nat->Prop}{h:Heap}{μ:Gh}{v:Value}(a:Rep w S h μ x v){w':World}:RepP w' S' x v:=by obtain ⟨k,n,rfl⟩:=hl x (Am d);rw [a.int_inv];exact .int _ _
section
variable {P:Program} {w:World}
theorem Jsb(ob:Obj):Old w (w.alloc ob):=⟨rfl,rfl,⟨rfl,Aj _⟩,by simp,λb a=>by first|exact heap_alloc_old w ob a|exact heap_alloc_old w ob b a⟩
theorem Kr{ro:Option Nat}{P:Program}{ops:Array Oper}{Q:Exit->Act->World->Prop}{a:Act}{w w':World}{rest:List Oper}{o:Oper}{cv:Value}(f:o.guard=none)(e:∀c,o.op≠.defer c)(d:(execOp a.eval o).run P w=.ok (.value cv) w')
  (h:wpListIn (Fr ro) 0 P ops Q rest (a.put o.dst cv) w'):wpListIn (Fr ro) 0 P ops Q (o::rest) a w:=
 wpListIn_plain f λK hK=>Js3 e (Vv.wp_value d (hK _ _ h))
theorem Ju4{ro:Option Nat}{P:Program}{ops:Array Oper}{Q:Exit->Act->World->Prop}{a:Act}{w w':World}{rest:List Oper}{o:Oper}(f:o.guard=none)(e:∀c,o.op≠.defer c)(d:(execOp a.eval o).run P w=.ok .skip w')
  (h:wpListIn (Fr ro) 0 P ops Q rest (a.put o.dst undef) w'):wpListIn (Fr ro) 0 P ops Q (o::rest) a w:=
 wpListIn_plain f λK hK=>Js3 e (Vv.wp_skip d (hK _ _ h))
end
theorem opK_is{k:OpK}{o:Op}(h:k.is o=true):o=k.op:=by
 have nb:∀ {a b:Nat},Nat.beq a b=true->a=b:=λh=>Al h;cases k with
 | mv x=>cases o with
  | move y=>cases y with
   | tmp y=>rw [nb h];rfl
   | _=>cases h
  | _=>cases h
 | asg x=>cases o with
  | assign y=>cases y with
   | tmp y=>rw [nb h];rfl
   | _=>cases h
  | _=>cases h
 | range t x=>cases o with
  | range u y=>cases y with
   | tmp y=>
    simp only [OpK.is,Ah] at h;rw [nb h.1,nb h.2];rfl
   | _=>cases h
  | _=>cases h
 | next x=>cases o with
  | next y b=>cases y with
   | tmp y=>
    cases b with
    | true=>cases h
    | false=>rw [nb h];rfl
   | _=>cases h
  | _=>cases h
 | ext x i=>cases o with
  | extract y j=>cases y with
   | tmp y=>
    simp only [OpK.is,Ah] at h;rw [nb h.1,nb h.2];rfl
   | _=>cases h
  | _=>cases h
 | entry x=>cases o with
  | entry y=>cases y with
   | tmp y=>rw [nb h];rfl
   | _=>cases h
  | _=>cases h
 | alloc t=>cases o with
  | alloc u=>rw [nb h];rfl
  | _=>cases h
 | store t x y=>cases o with
  | store u p q=>cases p with
   | tmp p=>cases q with
    | tmp q=>
     simp only [OpK.is,Ah] at h;rw [nb h.1.1,nb h.1.2,nb h.2];rfl
    | _=>cases h
   | _=>cases h
  | _=>cases h
 | load t x=>cases o with
  | load u y=>cases y with
   | tmp y=>
    simp only [OpK.is,Ah] at h;rw [nb h.1,nb h.2];rfl
   | _=>cases h
  | _=>cases h
 | lit t x=>cases o with
  | buildSlice u n ps=>
   simp only [OpK.is,Ah] at h;obtain ⟨⟨A,w⟩,d⟩:=h;split at d
   ·rename_i y e;have:ps=#[(0,.tmp y)]:=by rw [<-Bk];exact e
    rw [nb A,nb w,nb d,this];rfl
   ·cases d
  | _=>cases h
 | app t x y=>cases o with
  | call c=>
   obtain ⟨f,as,ts⟩:=c;cases f with
   | builtin b=>
    cases b with
    | append=>
     simp only [OpK.is] at h;split at h
     ·rename_i l g u m E B;simp only [Ah] at h;have v:as=#[.tmp l,.tmp g]:=by rw [<-Bk];exact E
      have r:ts=#[u,m]:=by rw [<-Bk];exact B
      obtain ⟨⟨⟨G,F⟩,a3⟩,a4⟩:=h;rw [v,r,nb G,nb F,<-nb a3,<-nb a4];rfl
     ·cases h
    | _=>cases h
   | _=>cases h
  | _=>cases h
theorem dst_is{a b:Option Nat}(h:dstIs a b=true):b=a:=by
 unfold dstIs at h;split at h
 ·rfl
 ·rw [Al h]
 ·cases h
theorem jo{p:Option Nat×OpK}{l:List (Option Nat×OpK)}{os:List Oper}(h:Jfk (p::l) os=true):∃o r,os=o::r/\o.dst=p.1/\o.op=p.2.op/\o.guard=none/\Jfk l r=true:=by
 cases os with
 | nil=>cases h
 | cons o r=>
  simp only [Jfk,Ah] at h;refine ⟨o,r,rfl,dst_is h.1.1.1,opK_is h.1.1.2,?_,h.2⟩;have:=h.1.2;split at this
  ·assumption
  ·cases this
theorem Jov{os:List Oper}(h:Jfk [] os=true):os=[]:=by
 cases os with
 | nil=>rfl
 | cons o r=>cases h
def keyV(k:Int×Int):Value:=.agg #[.int .i64 k.1,.int .i64 k.2]
def ptC(ks:List (Int×Int)):List AV:=List.flatMap (α:=(Ty.p I I).T) (Ty.p I I).cs ks
def Acc(w w':World)(el:TypeId)(ks:List (Int×Int))(cv:Value):Prop:=
 (ks=[]/\cv=.slice none 0 0) \/
 (ks≠[]/\∃(b o cap:Nat) (cs:Array Value),w.heap.size<=b/\cv=.slice (some ⟨b,o,none⟩) ks.length cap/\(ks.length<=cap/\cap<=9223372036854775807)/\w'.heap[b]?=some (.cells cs el (0,0))/\o+cap * 2<=cs.size /\
  ∀(i:Nat) (x:AV),(ptC ks)[i]?=some x->∃n,x=.int .i64 n/\cs.getD (o+i) undef=.int .i64 n)
theorem cs_pt:∀(ks:List (Int×Int)) (k:Int×Int),ptC (ks++[k])=ptC ks++[.int .i64 k.1,.int .i64 k.2]
 | [],k=>rfl
 | a::r,k=>congrArg (λl=>AV.int .i64 a.1::.int .i64 a.2::l) (cs_pt r k)
theorem len_pt:∀(ks:List (Int×Int)),(ptC ks).length=ks.length * 2
 | []=>rfl
 | a::r=>by have:=len_pt r;show (ptC r).length+1+1=(r.length+1) * 2;omega
theorem Jz7:∀ks:List (Int×Int),IntsL (ptC ks)
 | [],x,hx=>by cases hx
 | k::r,x,hx=>by
  have hx:x∈[AV.int .i64 k.1,.int .i64 k.2]++ptC r:=hx;rcases Ba.1 hx with hx|hx
  ·simp at hx;rcases hx with rfl|rfl<;>exact ⟨_,_,rfl⟩
  ·exact Jz7 r x hx
section
variable {P:Program} {w w1:World}
theorem Acc.own{el:TypeId}{ks:List (Int×Int)}{cv:Value}{S:Nat->Prop}(h:Acc w w1 el ks cv):OwnR w w1 S el (.p I I) ks cv:=by
 rcases h with ⟨rfl,rfl⟩|⟨a,b,o,cap,cs,v,r,m,l,g,f⟩
 ·exact .inl ⟨rfl,none,rfl⟩
 ·refine .inr ⟨a,b,o,cap,cs,v,r,m,l,g,λi x d=>?_⟩;obtain ⟨n,rfl,e⟩:=f i x d;rw [e];exact ⟨.int _ _,rfl⟩
theorem acc_app{el rT:TypeId}{i:TypeInfo}{z:List AV}(hu:P.underlying rT=some (.slice el))(m:P.info? el=some i)(hz:zc P el=some z)(hs:i.size=2){ks:List (Int×Int)}{cv:Value}(h:Acc w w1 el ks cv)(hsz:w.heap.size<=w1.heap.size){k:Int×Int}{L:Nat}
  (hL:w1.heap[L]?=some (.cells #[.int .i64 k.1,.int .i64 k.2] el (0,0))) (hLw:w.heap.size<=L) (hdis:∀A c,cv=.slice (some A) ks.length c->A.block≠L) (E:(ks.length+1) * i.bytes<=room/\ks.length+1<=9223372036854775807) (ty:TypeId) :
  ∃cv' d,(Builtin.append_ #[rT,rT] ty #[cv,.slice (some ⟨L,0,none⟩) 1 1]).run P w1=.ok cv' d/\Acc w d el (ks++[k]) cv'/\d.os=w1.os/\d.tape=w1.tape/\(d.output=w1.output/\w1.drawn<=d.drawn)/\w1.heap.size<=d.heap.size /\
   (∀q,q<w1.heap.size->(q<w.heap.size\/∀cs e z,w1.heap[q]?≠some (.cells cs e z))->d.heap[q]?=w1.heap[q]?)/\(∀A c,cv'=.slice (some A) (ks.length+1) c->(A.block<w1.heap.size/\∃A' c',cv=.slice (some A') ks.length c'/\A'.block=A.block)\/w1.heap.size<=A.block):=by
 have hLlt:L<w1.heap.size:=(Aa.1 hL).1;have hy:RepP w1 (λq=>q=L) (.lst 1 [.int .i64 k.1,.int .i64 k.2]) (.slice (some ⟨L,0,none⟩) 1 1):=by
  refine .lst 1 [.int .i64 k.1,.int .i64 k.2] ⟨L,0,none⟩ 1 (λj=>if j=0 then .int .i64 k.1 else .int .i64 k.2) (λ_=>rfl) (Aj _) (λi x m=>?_) (λi x m=>?_) (λi x m=>?_)
  ·match i,m with
   | 0,_=>simp [Addr.add,World.cell?,hL]
   | 1,_=>simp [Addr.add,World.cell?,hL]
  ·match i,m with
   | 0,_=>rfl
   | 1,_=>rfl
  ·match i,m with
   | 0,m=>injection m with m;subst m;exact .int _ _
   | 1,m=>injection m with m;subst m;exact .int _ _
 have v:∀H:Heap,lenV H (.lst 1 [.int .i64 k.1,.int .i64 k.2])=some 1/\Zj H 2 (.lst 1 [.int .i64 k.1,.int .i64 k.2])=some [.int .i64 k.1,.int .i64 k.2]:=λH=>⟨rfl,rfl⟩;have fin:∀ {μ:Gh} {ob:Option AObj} {ver:Nat} {cv':Value} {d:World},(∀o,ob=some o->o.live=true/\o.fz=false/\w.heap.size<=μ.b 0/\μ.b 0<w1.heap.size/\(∃cs e z,w1.heap[μ.b 0]?=some (.cells cs e z))/\∃A' c',cv=.slice (some A') ks.length c'/\A'.block=μ.b 0) ->
   Ran w1 (λq=>q=L) (oneH 0 ob) μ (.arr 0 ver 0 (ks.length+1)) (oneH 0 (some (.arr ver 2 el (ptC (ks++[k])) false))) cv' d ->
   Acc w d el (ks++[k]) cv'/\d.os=w1.os/\d.tape=w1.tape/\(d.output=w1.output/\w1.drawn<=d.drawn)/\w1.heap.size<=d.heap.size /\
   (∀q,q<w1.heap.size->(q<w.heap.size\/∀cs e z,w1.heap[q]?≠some (.cells cs e z))->d.heap[q]?=w1.heap[q]?)/\(∀A c,cv'=.slice (some A) (ks.length+1) c->(A.block<w1.heap.size/\∃A' c',cv=.slice (some A') ks.length c'/\A'.block=A.block)\/w1.heap.size<=A.block):=by
  intro μ ob ver cv' d K ⟨S2,μ2,r1,r2,O,r4⟩;have B:ptC (ks++[k])≠[]:=by rw [cs_pt];simp
  have e0:oneH 0 (some (AObj.arr ver 2 el (ptC (ks++[k])) false)) 0=some (.arr ver 2 el (ptC (ks++[k])) false):=Jc8;obtain ⟨A,cap,cs0,el0,z0,rfl,hcap,F,R,hA⟩:=r1.arr_inv e0 B;obtain ⟨cs,Q,hsz,Y,-⟩:=r2.ob 0 _ e0 B;rw [Q] at F;injection F with F;injection F with q1 q2 q3;subst q1;have hA:=hA (by omega);rw [Ax,Bl] at hA;subst hA;have G:(μ2.b 0=μ.b 0/\∃o,ob=some o)\/w1.heap.size<=μ2.b 0:=by
   rcases O.ow _ ⟨0,_,e0,rfl,Ki.2 B,rfl⟩ with ⟨g,o,a,-,-,e⟩|q
   ·obtain ⟨rfl,rfl⟩:=Zh a;exact .inl ⟨e.symm,o,rfl⟩
   ·exact .inr q
  refine ⟨.inr ⟨by simp,μ2.b 0,μ2.o 0,cap,cs,?_,by simp,by simpa using hcap,Q,by simpa using R,λi x hx=>?_⟩,O.os,O.tape,O.output,O.size,λq hq hn=>O.keep q hq ?_,λA c e=>?_⟩
  ·rcases G with ⟨e,o,a⟩|q
   ·rw [e];exact (K o a).2.2.1
   ·omega
  ·have X:=(Y i x hx).1;obtain ⟨kk,n,rfl⟩:=Jz7 _ x (Am hx);have hk:kk=.i64:=by
    have:∀(l:List (Int×Int)),∀x∈ptC l,∃n,x=AV.int .i64 n:=λl=>by
     induction l with
     | nil=>intro x hx;cases hx
     | cons p r ih=>
      intro x hx;have hx:x∈[AV.int .i64 p.1,.int .i64 p.2]++ptC r:=hx;rcases Ba.1 hx with hx|hx
      ·simp at hx;rcases hx with rfl|rfl<;>exact ⟨_,rfl⟩
      ·exact ih x hx
    obtain ⟨n',e⟩:=this _ _ (Am hx);injection e
   subst hk;exact ⟨n,rfl,X.int_inv⟩
  ·rintro ⟨g,o,a,hz,hl,e⟩;obtain ⟨rfl,rfl⟩:=Zh a;obtain ⟨-,-,h3,N,⟨cs,e',z,h5⟩,-⟩:=K o rfl;rw [<-e] at hn;rcases hn with hn|hn
   ·omega
   ·exact hn _ _ _ h5
  ·injection e with e;injection e with e;subst e;rcases G with ⟨e,o,a⟩|q
   ·obtain ⟨-,-,h3,N,-,A',c',h6,h7⟩:=K o a;exact .inl ⟨by rw [e];exact N,A',c',h6,by rw [h7];exact e.symm⟩
   ·exact .inr q
 rcases h with ⟨rfl,rfl⟩|⟨B,b,o,cap,cs,h1,rfl,h3,N,h5,h6⟩
 ·have J:RepH w1 (λq=>q=L) (oneH 0 none) ⟨λ_=>0,λ_=>0,λ_=>0⟩:=⟨λg o a=>(by obtain ⟨-,e⟩:=Zh a;cases e),λg g' o o' a=>(by obtain ⟨-,e⟩:=Zh a;cases e),λg o a=>(by obtain ⟨-,e⟩:=Zh a;cases e),λb Q=>by rw [Q];exact hLlt⟩;have M:appV (oneH 0 none) 0 i.size i.bytes el .nils (.lst 1 [.int .i64 k.1,.int .i64 k.2])=some (.arr 0 1 0 1,oneH 0 (some (.arr 1 2 el [.int .i64 k.1,.int .i64 k.2] false))):=by
   rw [hs];unfold appV;rw [(v _).1,(v _).2];have h2:(1:Int) * (i.bytes:Int)<=(room:Nat):=by have:=E.1;simp at this;omega
   simp only [List.cons_ne_nil,if_false,Int.toNat_one,Jv,Jc8,Jd4];rw [if_pos ⟨h2,by decide⟩]
  obtain ⟨cv',d,ra,y⟩:=Jiv (P:=P) J (t:=rT) (ty:=ty) hu m hz (by omega) (.pure .nils) (.pure hy) M;exact ⟨cv',d,ra,fin (ob:=none) (λo a=>by cases a) y⟩
 ·have hrow:∀ {S:Nat->Prop},RepH w1 S (oneH 0 (some (.arr 1 2 el (ptC ks) false))) ⟨λ_=>b,λ_=>o,λ_=>0⟩->True:=λ_=>trivial;have hbL:b≠L:=hdis _ _ rfl;have f:=len_pt ks;have Z:ptC ks≠[]:=λq=>by rw [q] at f;simp at f;exact B (Ak (by omega))
  have J:RepH w1 (λq=>q=L) (oneH 0 (some (.arr 1 2 el (ptC ks) false))) ⟨λ_=>b,λ_=>o,λ_=>0⟩:=by refine ⟨λg ob a=>?_,λg g' o o' a ho' _ _ _=>by rw [(Zh a).1,(Zh ho').1],λg ob a _ _=>hbL,λb Q=>by rw [Q];exact hLlt⟩;obtain ⟨rfl,e⟩:=Zh a;injection e with e;subst e;intro _;refine ⟨cs,N,by rw [f];show o+ks.length * 2<=cs.size;have:=Au 2 h3.1;omega,λi x hx=>?_,λq=>by cases q⟩;obtain ⟨n,rfl,e⟩:=h6 i x hx;rw [e];exact ⟨.pure (.int _ _),rfl⟩
  have M:appV (oneH 0 (some (.arr 1 2 el (ptC ks) false))) 0 i.size i.bytes el (.arr 0 1 0 ks.length) (.lst 1 [.int .i64 k.1,.int .i64 k.2])=some (.arr 0 2 0 (ks.length+1),oneH 0 (some (.arr 2 2 el (ptC (ks++[k])) false))):=by
   rw [hs];unfold appV;rw [(v _).1,(v _).2];simp only [Jc8,Jd4];have h2:(((ks.length:Nat):Int)+1) * (i.bytes:Int)<=(room:Nat):=by exact_mod_cast E.1
   refine (if_pos ⟨trivial,trivial,trivial,by rw [f];simp,h2,by have:=E.2;omega⟩).trans ((if_neg (by simp)).trans ?_);have hcut:cut (ptC ks) (0 * 2) (ks.length * 2)=ptC ks:=by simp only [cut,Ax,Bq];rw [<-f,List.take_length]
   rw [hcut,cs_pt];rfl
  have hx:Rep w1 (λq=>q=L) (oneH 0 (some (.arr 1 2 el (ptC ks) false))) ⟨λ_=>b,λ_=>o,λ_=>0⟩ (.arr 0 1 0 ks.length) (.slice (some ⟨b,o,none⟩) ks.length cap):=
   .arr 0 1 0 ks.length _ _ Jc8 (Aj _) rfl λ_=>⟨2,el,_,false,rfl,λq=>(Z q).elim,λ_=>⟨⟨b,o,none⟩,cap,cs,el,(0,0),rfl,h3,N,by rw [As];exact h5,λ_=>by simp⟩⟩
  obtain ⟨cv',d,ra,y⟩:=Jiv (P:=P) J (t:=rT) (ty:=ty) hu m hz (by omega) hx (.pure hy) M;refine ⟨cv',d,ra,fin (ob:=some _) (λob a=>?_) y⟩;injection a with a;subst a;exact ⟨Ki.2 Z,rfl,h1,(Aa.1 N).1,⟨_,_,_,N⟩,_,_,rfl,rfl⟩
end
def kOf:Value->Int×Int
 | .agg cs=>(match cs.toList with | [.int _ x,.int _ y]=>(x,y)|_=>(0,0))
 | _=>(0,0)
theorem Jti(k:Int×Int):kOf (keyV k)=k:=rfl
theorem Qk(a:Act)(d:Option Nat)(v:Value):(a.put d v).tmps.size=a.tmps.size:=by cases d<;>simp [Act.put]
theorem K3(a:Act)(d:Option Nat)(v:Value):(a.put d v).defers=a.defers:=by cases d<;>rfl
theorem Qs(a:Act){d:Nat}(v:Value)(h:d<a.tmps.size)(e:Nat):(a.put (some d) v).tmps.getD e undef=if e=d then v else a.tmps.getD e undef:=by
 simp only [Act.put,Ae,Bc];by_cases hd:d=e
 ·subst hd;simp [h]
 ·rw [if_neg hd,if_neg (λq=>hd q.symm)]
theorem put_none(a:Act)(v:Value):a.put none v=a:=rfl
theorem Jv4{P:Program}{mt kT rT:TypeId}{b:Nat}(h:keysT P mt kT rT=some b):(∃x y,P.underlying mt=some (.map x y))/\P.underlying rT=some (.slice kT)/\∃i z zv,P.info? kT=some i/\i.size=2/\i.bytes=b/\i.zero=some zv/\zc P kT=some z/\aggT P kT=some true:=by
 unfold keysT at h;split at h
 ·rename_i x y e i o f m l;split at h
  ·rename_i d;simp only [Ah] at d;obtain ⟨⟨⟨A,w⟩,v⟩,r⟩:=d;injection h with h;obtain ⟨zv,a⟩:=Bh.1 v;obtain ⟨z,g⟩:=Bh.1 r;rw [Al A] at f;exact ⟨⟨x,y,o⟩,f,i,z,zv,m,Al w,h,a,g,l⟩
  ·cases h
 ·cases h
theorem Acc.mono{w w1 d:World}{el:TypeId}{ks:List (Int×Int)}{cv:Value}(h:Acc w w1 el ks cv)(g:∀(q:Nat) cs e z,w1.heap[q]?=some (Obj.cells cs e z)->d.heap[q]?=w1.heap[q]?):Acc w d el ks cv:=by
 rcases h with h|⟨a,b,o,cap,cs,y,v,r,f,m,l⟩
 ·exact .inl h
 ·exact .inr ⟨a,b,o,cap,cs,y,v,r,(g _ _ _ _ f).trans f,m,l⟩
theorem fill_two(f:Nat->Value)(x y:Int):Instr.fill (λi=>some (i * 2,2)) ((Array.range (1 * 2)).map f) [(0,.agg #[.int .i64 x,.int .i64 y])]=some #[.int .i64 x,.int .i64 y]:=by
 have:∀f:Nat->Value,(((Array.range 2).map f).setIfInBounds 0 (.int .i64 x)).setIfInBounds 1 (.int .i64 y)=#[.int .i64 x,.int .i64 y]:=λf=>by
  apply Bv
  ·simp
  ·intro j d a;have a:j<2:=by simpa using a
   match j,a with
   | 0,_=>simp
   | 1,_=>simp
 simp [Instr.fill,Value.cells,this]
theorem Jos{w:World}{r:Nat}{o:Obj}(h:r<w.heap.size):(Go.ChangeMaps.setBlock w r o).heap[r]?=some o/\∀q,q≠r->(Go.ChangeMaps.setBlock w r o).heap[q]?=w.heap[q]?:=by
 constructor
 ·simp [Go.ChangeMaps.setBlock,h]
 ·intro q a;simp only [Go.ChangeMaps.setBlock,Bc];rw [if_neg (λe=>a e.symm)]
section
variable {P:Program} {ro:Option Nat}
structure KInv (a0:Act) (w0:World) (bm clock r:Nat) (es:Array MapEntry) (el:TypeId) (a:Act) (w:World):Prop where
 sz:a.tmps.size=a0.tmps.size
 df:a.defers=a0.defers
 fr:∀d,d∉Jnz->a.tmps.getD d undef=a0.tmps.getD d undef
 it:a.tmps.getD 15 undef=.pointer (some ⟨r,0,none⟩)
 old:Old w0 w
 st:∃(seen:Array Nat) (vis rest:List MapEntry),w.heap[r]?=some (.mapIter (some bm) clock seen clock)/\seen.toList=vis.map (·.born)/\(vis++rest).Perm es.toList/\Acc w0 w el (vis.map λe=>kOf e.key) (a.tmps.getD 4 undef)
theorem Jy4(w:World)(ty:TypeId)(r bm clock:Nat)(seen:Array Nat)(es:Array MapEntry)(vis rest:List MapEntry)(B:w.heap[r]?=some (.mapIter (some bm) clock seen clock))(o:w.heap[bm]?=some (.map es clock))(hB:Born es clock)(hs:seen.toList=vis.map (·.born))(m:(vis++rest).Perm es.toList) :
  (rest=[]/\(Instr.next (.pointer (some ⟨r,0,none⟩)) false ty).run P w=.ok (.tuple #[.bool false]) w) \/
  ∃e l h,rest=l++e::h/\e∈es.toList/\∃w1,(w1=w\/w1=w.drew)/\(Instr.next (.pointer (some ⟨r,0,none⟩)) false ty).run P w=.ok (.tuple #[.bool true,e.key,e.val]) (Go.ChangeMaps.setBlock w1 r (.mapIter (some bm) clock (seen.push e.born) clock)):=by
 have g:((vis++rest).map (·.born)).Nodup:=(m.map _).nodup_iff.2 hB.2;have a:∀e,e∈(leftOf es seen).toList↔e∈es.toList/\e.born∉vis.map (·.born):=λe=>by unfold leftOf;rw [<-hs];simp
 rcases run_next_at (P:=P) w ty r bm clock clock seen es clock B o hB.1 (Aj _) with ⟨y,v⟩|⟨e,y,w1,v,G⟩
 ·refine .inl ⟨?_,v⟩;have f:(leftOf es seen).toList=[]:=Ak (by simpa using y);cases rest with
  | nil=>rfl
  | cons e r=>
   exfalso;have E:e∈es.toList:=m.subset (List.mem_append_right _ Ac);have o:e.born∉vis.map (·.born):=λq=>by rw [List.map_append,Ar] at g;exact (List.nodup_append.1 g).2.2 _ q _ Ac rfl
   have:=(a e).2 ⟨E,o⟩;rw [f] at this;cases this
 ·obtain ⟨A,F⟩:=(a e).1 y;have:e∈vis++rest:=m.symm.subset A;rcases Ba.1 this with q|q
  ·exact (F (Ao.2 ⟨e,q,rfl⟩)).elim
  ·obtain ⟨l,h,d⟩:=Be q;exact .inr ⟨e,l,h,d,A,w1,v,G⟩
theorem Jsv{nt:Nat}{x y:Code}{lc:LC}(K:Jl2 P nt x y=some lc):∃i5 el by',lc=.keys i5 el by'/\24<=nt/\∀ {a:Act} {w:World} {bm clock:Nat} {es:Array MapEntry},
  nt<=a.tmps.size->a.tmps.getD 3 undef=.map (some bm)->w.heap[bm]?=some (.map es clock)->Born es clock->(∀e∈es.toList,e.key=keyV (kOf e.key))->a.tmps.getD 4 undef=.slice none 0 0->(es.size * by'<=room/\es.size<=9223372036854775807)->∀ {Q:Exit->Act->World->Prop},
   (∀a' w' l cv,a'.tmps.size=a.tmps.size->a'.defers=a.defers->(∀d,d∉Jnz->a'.tmps.getD d undef=a.tmps.getD d undef)->a'.tmps.getD 4 undef=cv->l.Perm (es.toList.map λe=>kOf e.key)->Old w w'->Acc w w' el l cv->Q .normal a' w') ->
   (Code.seq x y).wpIn (Fr ro) 0 P Q a w:=by
 unfold Jl2 at K;split at K
 ·rename_i i5 o5 n i6 o6 c n' n2 i7 o7 i8 o8;split at K
  ·rename_i bts hT;split at K
   ·rename_i hc;injection K with K;simp only [Ah] at hc;obtain ⟨⟨⟨⟨⟨⟨⟨c1,c2⟩,c3⟩,c4⟩,c5⟩,c6⟩,Z⟩,N⟩:=hc;have c1:c=17:=Al c1;have c2:n=n':=Al c2;have c4:24<=nt:=Nat.le_of_ble_eq_true c4;subst c1;subst c2;refine ⟨i5,_,bts,K.symm,c4,?_⟩;obtain ⟨⟨mx,my,hmt⟩,hu,i,z,zv,E,hs,hby,hzv,hz,hag⟩:=Jv4 hT;generalize Jge o5.toList 1=mt at *
    generalize Jge o7.toList 2=kT at *
    generalize Jge o8.toList 2=rT at *
    subst hby;obtain ⟨p1,q,e5,d1,M,g1,c5⟩:=jo c5;obtain ⟨p2,q,rfl,d2,h2,g2,c5⟩:=jo c5;obtain rfl:=Jov c5;obtain ⟨p3,q,e6,d3,h3,g3,c6⟩:=jo c6;obtain ⟨p4,q,rfl,d4,h4,g4,c6⟩:=jo c6;obtain rfl:=Jov c6;obtain ⟨p5,q,e7,d5,h5,g5,Z⟩:=jo Z;obtain ⟨p6,q,rfl,d6,h6,g6,Z⟩:=jo Z;obtain ⟨p7,q,rfl,d7,h7,g7,Z⟩:=jo Z;obtain ⟨p8,q,rfl,d8,h8,g8,Z⟩:=jo Z;obtain rfl:=Jov Z;obtain ⟨p9,q,e8,d9,h9,g9,N⟩:=jo N;obtain ⟨p10,q,rfl,d10,h10,g10,N⟩:=jo N;obtain ⟨p11,q,rfl,d11,h11,g11,N⟩:=jo N;obtain ⟨p12,q,rfl,d12,h12,g12,N⟩:=jo N;obtain ⟨p13,q,rfl,d13,h13,g13,N⟩:=jo N;obtain rfl:=Jov N;simp only at d1 M d2 h2 d3 h3 d4 h4 d5 h5 d6 h6 d7 h7 d8 h8 d9 h9 d10 h10 d11 h11 d12 h12 d13 h13;intro a w bm clock es hsz h3m hb hB hkeys h4n hfit Q hQ;have nd:∀ {o:Oper} {k:OpK},o.op=k.op->∀c,o.op≠.defer c:=λe c q=>by rw [e] at q;cases ‹OpK›<;>cases q
    have hlt:=(Aa.1 hb).1;refine wpIn_seq (wpIn_region_list ?_);rw [e5];refine Kr g1 (nd M) (cv:=.map (some bm)) (w':=w) (by rw [<-h3m];simp only [execOp,M,OpK.op,Act.eval];rfl) ?_;rw [d1];refine Kr g2 (nd h2) (cv:=.pointer (some ⟨w.heap.size,0,none⟩)) (w':=w.alloc (.mapIter (some bm) clock #[] clock)) ?_ ?_
    ·have:(a.put (some 14) (.map (some bm))).eval (.tmp 14)=.map (some bm):=by show (a.put (some 14) (.map (some bm))).tmps.getD 14 undef=_;rw [Qs _ _ (by omega),if_pos rfl]
     simp [execOp,h2,OpK.op,this,Instr.range,run_underlying hmt,MapKept.run_getObj_map hb,newObj,Result.andThen];rfl
    rw [d2];obtain ⟨a1,Y⟩:∃a1,a1=(a.put (some 14) (.map (some bm))).put (some 15) (.pointer (some ⟨w.heap.size,0,none⟩)):=⟨_,rfl⟩;have hsz1:a1.tmps.size=a.tmps.size:=by rw [Y,Qk,Qk]
    have get1:∀d,a1.tmps.getD d undef=if d=15 then .pointer (some ⟨w.heap.size,0,none⟩) else if d=14 then .map (some bm) else a.tmps.getD d undef:=λd=>by rw [Y,Qs _ _ (by rw [Qk];omega),Qs _ _ (by omega)]
    rw [<-Y];refine wpListIn_nil (wpIn_block (wpIn_loop (KInv a w bm clock w.heap.size es kT) (λ_ w'=>es.size - (w'.iterSeen w.heap.size).size) ?_ ?_))
    ·have hnew:(w.alloc (.mapIter (some bm) clock #[] clock)).heap[w.heap.size]?=some (.mapIter (some bm) clock #[] clock):=by show (w.heap.push _)[w.heap.size]?=_;simp
     refine ⟨hsz1,by rw [Y,K3,K3],λd hd=>?_,by rw [get1,if_pos rfl],Jsb _,#[],[],es.toList,hnew,rfl,.refl _,.inl ⟨rfl,?_⟩⟩
     ·rw [get1,if_neg (λe=>hd (by subst e;decide)),if_neg (λe=>hd (by subst e;decide))]
     ·rw [get1,if_neg (by decide),if_neg (by decide)];exact h4n
    intro f F ⟨s1,s2,s3,s4,s5,seen,vis,rest,s6,s7,s8,s9⟩;have hb2:F.heap[bm]?=some (.map es clock):=(s5.keep bm hlt).trans hb;have ev15:f.eval (.tmp 15)=.pointer (some ⟨w.heap.size,0,none⟩):=s4;rcases Jy4 (P:=P) F p3.type w.heap.size bm clock seen es vis rest s6 hb2 hB s7 s8 with ⟨rfl,R⟩|⟨e,r1,r2,rfl,hem,w3,hw3,R⟩
    ·-- nothing is left
     refine wpIn_seq (wpIn_region_list ?_);rw [e6];refine Kr g3 (nd h3) (cv:=.tuple #[.bool false]) (w':=F) (by simp only [execOp,h3,OpK.op,ev15];rw [Sem.run_bind,R];rfl) ?_;rw [d3];refine Kr g4 (nd h4) (cv:=.bool false) (w':=F) ?_ ?_
     ·have:(f.put (some 16) (.tuple #[.bool false])).eval (.tmp 16)=.tuple #[.bool false]:=by show (f.put (some 16) _).tmps.getD 16 undef=_;rw [Qs _ _ (by omega),if_pos rfl]
      simp [execOp,h4,OpK.op,this,Instr.extract]
     rw [d4];refine wpListIn_nil (wpIn_seq (wpIn_cond_false ?_ (wpIn_exit ?_)))
     ·show ((f.put (some 16) _).put (some 17) _).tmps.getD 17 undef=_;rw [Qs _ _ (by rw [Qk];omega),if_pos rfl]
     ·show (if n=n then Q .normal _ _ else _);rw [if_pos rfl];rw [List.append_nil] at s8;refine hQ _ F _ _ (by rw [Qk,Qk,s1]) (by rw [K3,K3,s2]) (λd hd=>?_) rfl (s8.map _) s5 ?_
      ·rw [Qs _ _ (by rw [Qk];omega),Qs _ _ (by omega),if_neg (λe=>hd (by subst e;decide)),if_neg (λe=>hd (by subst e;decide))];exact s3 d hd
      ·rw [Qs _ _ (by rw [Qk];omega),Qs _ _ (by omega),if_neg (by decide),if_neg (by decide)];exact s9
    ·-- a key
     have H:w3.heap=F.heap/\w3.os=F.os/\w3.tape=F.tape/\w3.output=F.output/\F.drawn<=w3.drawn:=by
      rcases hw3 with rfl|rfl
      ·exact ⟨rfl,rfl,rfl,rfl,Aj _⟩
      ·exact ⟨rfl,rfl,rfl,rfl,Nat.le_succ _⟩
     have hrlt:w.heap.size<F.heap.size:=(Aa.1 s6).1;obtain ⟨B,G⟩:∃B,B=Go.ChangeMaps.setBlock w3 w.heap.size (.mapIter (some bm) clock (seen.push e.born) clock):=⟨_,rfl⟩;rw [<-G] at R;have b4:B.heap[w.heap.size]?=some (.mapIter (some bm) clock (seen.push e.born) clock)/\∀q,q≠w.heap.size->B.heap[q]?=F.heap[q]?:=by have:=Jos (w:=w3) (r:=w.heap.size) (o:=.mapIter (some bm) clock (seen.push e.born) clock) (by rw [H.1];exact hrlt);rw [<-G] at this;exact ⟨this.1,λq J=>(this.2 q J).trans (by rw [H.1])⟩
     have z4:B.heap.size=F.heap.size:=by rw [G];simp [Go.ChangeMaps.setBlock,H.1]
     have hb4:B.heap[bm]?=some (.map es clock):=(b4.2 bm (by omega)).trans hb2;have hke:e.key=keyV (kOf e.key):=hkeys e hem;obtain ⟨kx,ky,hkk⟩:∃kx ky,kOf e.key=(kx,ky):=⟨_,_,rfl⟩;have hrep:∀ {w:World} {S:Nat->Prop},RepP w S (.agg [.int .i64 kx,.int .i64 ky]) e.key:=λ{w S}=>by
      rw [hke,hkk];refine .agg _ _ rfl (λi y E=>?_) λi y E=>?_
      ·match i,E with
       | 0,E=>rfl
       | 1,E=>rfl
      ·match i,E with
       | 0,E=>injection E with E;subst E;exact .int _ _
       | 1,E=>injection E with E;subst E;exact .int _ _
     have hp0:RepH B (λ_=>False) (oneH 0 none) ⟨λ_=>0,λ_=>0,λ_=>0⟩:=⟨λg o ho=>(by obtain ⟨-,e⟩:=Zh ho;cases e),λg g' o o' ho=>(by obtain ⟨-,e⟩:=Zh ho;cases e),λg o ho=>(by obtain ⟨-,e⟩:=Zh ho;cases e),λb hb=>hb.elim⟩;obtain ⟨p,w5,ral,S5,μ5,q1,q2,q3,q4⟩:=Jif (P:=P) hp0 hz 0;have hzl:z.length=2:=by obtain ⟨i',zv',X,hzv',hl',hn',hs'⟩:=Jjw hz;rw [E] at X;injection X with X;subst X;omega
     have hsz2:szT P kT=some 2:=by simp [szT,E,hs]
     obtain ⟨m,rst,S6,μ6,-,t2,t3,t4⟩:=Ji2 (P:=P) q2 hsz2 q1 (.pure hrep) (h':=upd (oneH 0 none) 0 (some (.box 0 [.int .i64 kx,.int .i64 ky]))) (by simp [Jcz,AV.cells,Jv,oneH,upd,hzl,paste];rw [Jd4,Jd4,Jd4,List.drop_eq_nil_of_le (by omega)])
     simp only [Jd4] at q1 q2 q3 q4 t2 t3 t4;have o46:Evo B (λ_=>False) (oneH 0 none) ⟨λ_=>0,λ_=>0,λ_=>0⟩ m S6 (oneH 0 (some (.box 0 [.int .i64 kx,.int .i64 ky]))) μ6:=q3.trans t3;have k46:∀q,q<B.heap.size->m.heap[q]?=B.heap[q]?:=λq J=>o46.keep q J λ⟨g,o,ho,_⟩=>by obtain ⟨-,e⟩:=Zh ho;cases e
     have q1':Rep m S6 (oneH 0 (some (.box 0 [.int .i64 kx,.int .i64 ky]))) μ6 (.ptr 0 0 0) p:=by have:=q1.evo q2 t3 t4;exact this
     obtain ⟨ck,rld,q5⟩:=Jgq (P:=P) t2 hag hsz2 (.inl rfl) q1' (v:=.agg [.int .i64 kx,.int .i64 ky]) (by simp [Jbg,zp,pack,oneH,cut]);have hck:ck=.agg #[.int .i64 kx,.int .i64 ky]:=by
      obtain ⟨cs,rfl,hl,hh⟩:=q5.agg_inv;have e0:=(hh 0 _ rfl).1.int_inv;have e1:=(hh 1 _ rfl).1.int_inv;simp at hl
      congr 1
      apply Bv
      ·simp [<-hl]
      ·intro j M h2
       match j,M with
       | 0,M=>simpa [Ae,M] using e0
       | 1,M=>simpa [Ae,M] using e1
       | j+2,M=>omega
     have hpow:¬(1 * i.size > 2 ^ 24):=by rw [hs];decide
     have rlit:=run_buildSlice (P:=P) m rT kT 1 #[(0,.agg #[.int .i64 kx,.int .i64 ky])] #[.int .i64 kx,.int .i64 ky] i zv hu E hzv hpow (by rw [hs];decide) (by rw [hs];exact fill_two _ _ _);obtain ⟨O,hw7⟩:∃O,O=m.alloc (.cells #[.int .i64 kx,.int .i64 ky] kT):=⟨_,rfl⟩;rw [<-hw7] at rlit;have o67:Old m O:=by rw [hw7];exact Jsb _
     have hL:O.heap[m.heap.size]?=some (.cells #[.int .i64 kx,.int .i64 ky] kT (0,0)):=by rw [hw7];show (m.heap.push _)[m.heap.size]?=_;simp
     have k47:∀q,q<B.heap.size->O.heap[q]?=B.heap[q]?:=λq J=>(o67.keep q (Nat.lt_of_lt_of_le J o46.size)).trans (k46 q J);have acc7:Acc w O kT (vis.map λe=>kOf e.key) (f.tmps.getD 4 undef):=s9.mono λq cs e z J=>by
      have hqr:q≠w.heap.size:=λe=>by subst e;rw [s6] at J;cases J
      have hq2:=(Aa.1 J).1;rw [k47 q (by omega),b4.2 q hqr]
     have hvl:vis.length+1<=es.size:=by have:=s8.length_eq;simp at this;omega
     have hL7:m.heap.size<O.heap.size:=(Aa.1 hL).1;have z46:B.heap.size<=m.heap.size:=o46.size;obtain ⟨cv',w8,rapp,acc8,f1,f2,f3,f4,f5,-⟩:=acc_app (P:=P) (k:=(kx,ky)) (L:=m.heap.size) hu E hz hs acc7 (by omega) hL (by omega) (λA c hA e=>by
      rcases s9 with ⟨q,-⟩|⟨-,b,o,cap,cs,M,h2,h3,h4,h5,h6⟩
      ·rcases acc7 with ⟨-,q2⟩|⟨q2,-⟩
       ·rw [q2] at hA;cases hA
       ·exact q2 q
      ·rw [h2] at hA;injection hA with hA;injection hA with hA;subst hA;have:=(Aa.1 h4).1;have e:b=m.heap.size:=e;omega) (by rw [Bb];exact ⟨Bt (Au _ hvl) hfit.1,Bt hvl hfit.2⟩) p12.type
     refine wpIn_seq (wpIn_region_list ?_);rw [e6];refine Kr g3 (nd h3) (cv:=.tuple #[.bool true,e.key,e.val]) (w':=B) (by simp only [execOp,h3,OpK.op,ev15];rw [Sem.run_bind,R];rfl) ?_;rw [d3];obtain ⟨A1,hA1⟩:∃A1,A1=f.put (some 16) (.tuple #[.bool true,e.key,e.val]):=⟨_,rfl⟩;rw [<-hA1];have Z1:A1.tmps.size=f.tmps.size:=by rw [hA1,Qk]
     refine Kr g4 (nd h4) (cv:=.bool true) (w':=B) ?_ ?_
     ·have:A1.eval (.tmp 16)=.tuple #[.bool true,e.key,e.val]:=by show A1.tmps.getD 16 undef=_;rw [hA1,Qs _ _ (by omega),if_pos rfl]
      simp [execOp,h4,OpK.op,this,Instr.extract]
     rw [d4];obtain ⟨A2,hA2⟩:∃A2,A2=A1.put (some 17) (.bool true):=⟨_,rfl⟩;rw [<-hA2];have Z2:A2.tmps.size=f.tmps.size:=by rw [hA2,Qk,Z1]
     refine wpListIn_nil (wpIn_seq (wpIn_cond_true ?_ (wpIn_skip ?_)))
     ·show A2.tmps.getD 17 undef=_;rw [hA2,Qs _ _ (by omega),if_pos rfl]
     have G2:∀d,A2.tmps.getD d undef=if d=17 then .bool true else if d=16 then .tuple #[.bool true,e.key,e.val] else f.tmps.getD d undef:=λd=>by rw [hA2,Qs _ _ (by omega),hA1,Qs _ _ (by omega)]
     refine wpIn_block (wpIn_seq (wpIn_region_list ?_));rw [e7];refine Kr g5 (nd h5) (cv:=.tuple #[e.key,e.val]) (w':=B) ?_ ?_
     ·have:A2.eval (.tmp 15)=.pointer (some ⟨w.heap.size,0,none⟩):=by show A2.tmps.getD 15 undef=_;rw [G2,if_neg (by decide),if_neg (by decide)];exact s4
      simp only [execOp,h5,OpK.op,this];rw [Sem.run_bind,run_entry_at B w.heap.size bm clock seen es clock e b4.1 hb4 hem hB.2];rfl
     rw [d5];obtain ⟨A3,hA3⟩:∃A3,A3=A2.put (some 18) (.tuple #[e.key,e.val]):=⟨_,rfl⟩;rw [<-hA3];have Z3:A3.tmps.size=f.tmps.size:=by rw [hA3,Qk,Z2]
     have G3:∀d,A3.tmps.getD d undef=if d=18 then .tuple #[e.key,e.val] else A2.tmps.getD d undef:=λd=>by rw [hA3,Qs _ _ (by omega)]
     refine Kr g6 (nd h6) (cv:=e.key) (w':=B) ?_ ?_
     ·have:A3.eval (.tmp 18)=.tuple #[e.key,e.val]:=by show A3.tmps.getD 18 undef=_;rw [G3,if_pos rfl]
      simp [execOp,h6,OpK.op,this,Instr.extract]
     rw [d6];obtain ⟨A4,hA4⟩:∃A4,A4=A3.put (some 19) (e.key):=⟨_,rfl⟩;rw [<-hA4];have Z4:A4.tmps.size=f.tmps.size:=by rw [hA4,Qk,Z3]
     have G4:∀d,A4.tmps.getD d undef=if d=19 then e.key else A3.tmps.getD d undef:=λd=>by rw [hA4,Qs _ _ (by omega)]
     refine Kr g7 (nd h7) (cv:=p) (w':=w5) ?_ ?_
     ·simp only [execOp,h7,OpK.op];rw [Sem.run_bind,ral];rfl
     rw [d7];obtain ⟨A5,hA5⟩:∃A5,A5=A4.put (some 5) (p):=⟨_,rfl⟩;rw [<-hA5];have Z5:A5.tmps.size=f.tmps.size:=by rw [hA5,Qk,Z4]
     have G5:∀d,A5.tmps.getD d undef=if d=5 then p else A4.tmps.getD d undef:=λd=>by rw [hA5,Qs _ _ (by omega)]
     refine Ju4 g8 (nd h8) (w':=m) ?_ ?_
     ·have e1:A5.eval (.tmp 5)=p:=by show A5.tmps.getD 5 undef=_;rw [G5,if_pos rfl]
      have e2:A5.eval (.tmp 19)=e.key:=by show A5.tmps.getD 19 undef=_;rw [G5,if_neg (by decide),G4,if_pos rfl]
      simp only [execOp,h8,OpK.op,e1,e2];rw [Sem.run_bind,rst];rfl
     rw [d8,put_none];refine wpListIn_nil (wpIn_region_list ?_);rw [e8];refine Kr g9 (nd h9) (cv:=f.tmps.getD 4 undef) (w':=m) ?_ ?_
     ·have:A5.eval (.tmp 4)=f.tmps.getD 4 undef:=by show A5.tmps.getD 4 undef=_;rw [G5,if_neg (by decide),G4,if_neg (by decide),G3,if_neg (by decide),G2,if_neg (by decide),if_neg (by decide)]
      simp only [execOp,h9,OpK.op,this];rfl
     rw [d9];obtain ⟨A6,hA6⟩:∃A6,A6=A5.put (some 20) (f.tmps.getD 4 undef):=⟨_,rfl⟩;rw [<-hA6];have Z6:A6.tmps.size=f.tmps.size:=by rw [hA6,Qk,Z5]
     have G6:∀d,A6.tmps.getD d undef=if d=20 then f.tmps.getD 4 undef else A5.tmps.getD d undef:=λd=>by rw [hA6,Qs _ _ (by omega)]
     refine Kr g10 (nd h10) (cv:=.agg #[.int .i64 kx,.int .i64 ky]) (w':=m) ?_ ?_
     ·have:A6.eval (.tmp 5)=p:=by show A6.tmps.getD 5 undef=_;rw [G6,if_neg (by decide),G5,if_pos rfl]
      simp only [execOp,h10,OpK.op,this];rw [Sem.run_bind,rld,hck];rfl
     rw [d10];obtain ⟨A7,hA7⟩:∃A7,A7=A6.put (some 21) (.agg #[.int .i64 kx,.int .i64 ky]):=⟨_,rfl⟩;rw [<-hA7];have Z7:A7.tmps.size=f.tmps.size:=by rw [hA7,Qk,Z6]
     have G7:∀d,A7.tmps.getD d undef=if d=21 then .agg #[.int .i64 kx,.int .i64 ky] else A6.tmps.getD d undef:=λd=>by rw [hA7,Qs _ _ (by omega)]
     refine Kr g11 (nd h11) (cv:=.slice (some ⟨m.heap.size,0,none⟩) 1 1) (w':=O) ?_ ?_
     ·have:A7.eval (.tmp 21)=.agg #[.int .i64 kx,.int .i64 ky]:=by show A7.tmps.getD 21 undef=_;rw [G7,if_pos rfl]
      simp [execOp,h11,OpK.op,this,rlit]
     rw [d11];obtain ⟨A8,hA8⟩:∃A8,A8=A7.put (some 22) (.slice (some ⟨m.heap.size,0,none⟩) 1 1):=⟨_,rfl⟩;rw [<-hA8];have Z8:A8.tmps.size=f.tmps.size:=by rw [hA8,Qk,Z7]
     have G8:∀d,A8.tmps.getD d undef=if d=22 then .slice (some ⟨m.heap.size,0,none⟩) 1 1 else A7.tmps.getD d undef:=λd=>by rw [hA8,Qs _ _ (by omega)]
     refine Kr g12 (nd h12) (cv:=cv') (w':=w8) ?_ ?_
     ·have e1:A8.eval (.tmp 20)=f.tmps.getD 4 undef:=by show A8.tmps.getD 20 undef=_;rw [G8,if_neg (by decide),G7,if_neg (by decide),G6,if_pos rfl]
      have e2:A8.eval (.tmp 22)=.slice (some ⟨m.heap.size,0,none⟩) 1 1:=by show A8.tmps.getD 22 undef=_;rw [G8,if_pos rfl]
      have rapp':=rapp;rw [Ae] at rapp';simp [execOp,h12,OpK.op,resolve,invoke,builtin,e1,e2,rapp']
     rw [d12];obtain ⟨A9,hA9⟩:∃A9,A9=A8.put (some 23) (cv'):=⟨_,rfl⟩;rw [<-hA9];have Z9:A9.tmps.size=f.tmps.size:=by rw [hA9,Qk,Z8]
     have G9:∀d,A9.tmps.getD d undef=if d=23 then cv' else A8.tmps.getD d undef:=λd=>by rw [hA9,Qs _ _ (by omega)]
     refine Kr g13 (nd h13) (cv:=cv') (w':=w8) ?_ ?_
     ·have:A9.eval (.tmp 23)=cv':=by show A9.tmps.getD 23 undef=_;rw [G9,if_pos rfl]
      simp only [execOp,h13,OpK.op,this];rfl
     rw [d13];obtain ⟨A10,hA10⟩:∃A10,A10=A9.put (some 4) (cv'):=⟨_,rfl⟩;rw [<-hA10];have Z10:A10.tmps.size=f.tmps.size:=by rw [hA10,Qk,Z9]
     have G10:∀d,A10.tmps.getD d undef=if d=4 then cv' else A9.tmps.getD d undef:=λd=>by rw [hA10,Qs _ _ (by omega)]
     have k48:w8.heap[w.heap.size]?=some (.mapIter (some bm) clock (seen.push e.born) clock):=by have hx:O.heap[w.heap.size]?=some (.mapIter (some bm) clock (seen.push e.born) clock):=(k47 _ (by omega)).trans b4.1;exact (f5 _ (Aa.1 hx).1 (.inr λcs e' z q=>by rw [hx] at q;cases q)).trans hx
     refine wpListIn_nil ?_;show KInv a w bm clock w.heap.size es kT A10 w8/\_;refine ⟨⟨by omega,?_,λd hd=>?_,?_,?_,seen.push e.born,vis++[e],r1++r2,k48,by simp [s7],?_,?_⟩,?_⟩
     ·rw [hA10,K3,hA9,K3,hA8,K3,hA7,K3,hA6,K3,hA5,K3,hA4,K3,hA3,K3,hA2,K3,hA1,K3,s2]
     ·have h:∀k∈Jnz,d≠k:=λk K e=>hd (e▸K);rw [G10,if_neg (h 4 (by decide)),G9,if_neg (h 23 (by decide)),G8,if_neg (h 22 (by decide)),G7,if_neg (h 21 (by decide)),G6,if_neg (h 20 (by decide)),G5,if_neg (h 5 (by decide)),G4,if_neg (h 19 (by decide)),G3,if_neg (h 18 (by decide)),G2,if_neg (h 17 (by decide)),if_neg (h 16 (by decide))];exact s3 d hd
     ·rw [G10,if_neg (by decide),G9,if_neg (by decide),G8,if_neg (by decide),G7,if_neg (by decide),G6,if_neg (by decide),G5,if_neg (by decide),G4,if_neg (by decide),G3,if_neg (by decide),G2,if_neg (by decide),if_neg (by decide)];exact s4
     ·refine ⟨?_,?_,⟨?_,?_⟩,?_,λq J=>?_⟩
      ·rw [f1,o67.os,o46.os,<-s5.os,<-H.2.1,G];rfl
      ·rw [f2,o67.tape,o46.tape,<-s5.tape,<-H.2.2.1,G];rfl
      ·rw [f3.1,o67.output.1,o46.output.1,<-s5.output.1,<-H.2.2.2.1,G];rfl
      ·have:=f3.2;have:=o67.output.2;have:=o46.output.2;have:=s5.output.2;have:B.drawn=w3.drawn:=by rw [G];rfl
       have:=H.2.2.2.2;omega
      ·have:=o67.size;omega
      ·rw [f5 q (by have:=o67.size;omega) (.inl J),k47 q (by omega),b4.2 q (by omega),s5.keep q J]
     ·refine List.Perm.trans ?_ s8;rw [List.append_assoc];exact List.Perm.append_left _ (by rw [List.singleton_append];exact List.perm_middle.symm)
     ·rw [G10,if_pos rfl,List.map_append,List.map_singleton,hkk];exact acc8
     ·have i1:(w8.iterSeen w.heap.size).size=seen.size+1:=by unfold World.iterSeen;rw [k48];simp
      have i2:(F.iterSeen w.heap.size).size=seen.size:=by unfold World.iterSeen;rw [s6]
      have hsn:seen.size=vis.length:=by rw [<-Array.length_toList,s7,Bb]
      show es.size - (w8.iterSeen w.heap.size).size<es.size - (F.iterSeen w.heap.size).size;omega
   ·cases K
  ·cases K
 ·cases K
end
section
variable {h h':Heap} {θ:Nat->Option Nat} {R:List Nat} {s s':Dn.S Ty.T}
theorem Jki{c:C Ty.T}(a:Jk6 c=true):encC s' c=encC s c/\GR h h' θ R (encC s c) (encC s c):=by
 have fl:∀ {y:AV},y.flat=true->GR h h' θ R y y:=λd=>.flat d;cases c with
 | any=>exact ⟨rfl,.any _⟩
 | lf t y=>exact ⟨rfl,.one y⟩
 | kb b=>exact ⟨rfl,fl rfl⟩
 | rp t y o=>exact ⟨rfl,fl rfl⟩
 | k v=>exact ⟨rfl,fl a⟩
 | _=>cases a
theorem Jfz{l:List (C Ty.T)}(hl:l.all Jk6=true):l.map (encC s')=l.map (encC s)/\GRL h h' θ R (l.map (encC s)) (l.map (encC s)):=
 ⟨List.map_congr_left λc a=>(Jki (h:=h) (h':=h') (θ:=θ) (R:=R) (Aq.1 hl c a)).1,.map λc a=>(Jki (s':=s) (Aq.1 hl c a)).2⟩
theorem Jqd{o:Ob Ty.T}(d:o.kids.all Jk6=true)(g:Nat):encO s' o=encO s o/\GO h h' θ R g (encO s o) (encO s o):=by
 cases o with
 | box v cs=>
  have d:cs.all Jk6=true:=d;obtain ⟨a,b⟩:=Jfz (s:=s) (s':=s') (h:=h) (h':=h') (θ:=θ) (R:=R) d;exact ⟨by show AObj.box v (cs.map (encC s'))=_;rw [a];rfl,.box b⟩
 | lit v e el cs z=>
  have d:cs.all Jk6=true:=d;obtain ⟨a,b⟩:=Jfz (s:=s) (s':=s') (h:=h) (h':=h') (θ:=θ) (R:=R) d;exact ⟨by show AObj.arr v e el (cs.map (encC s')) z=_;rw [a];rfl,.arr b (λq=>.inl q) λq=>q⟩
 | mp v kt vt es=>
  refine ⟨rfl,.map rfl λi p q m f=>?_⟩;rw [m] at f;injection f with f;subst f;exact ⟨rfl,Jrx m⟩
 | em v kt vt el=>exact ⟨rfl,.map rfl λi p q m=>by simp at m⟩
 | row v e el t l x nest z=>
  cases nest with
  | none=>
   have d:x.all Jk6=true:=by simpa [Ob.kids] using d
   obtain ⟨a,b⟩:=Jfz (s:=s) (s':=s') (h:=h) (h':=h') (θ:=θ) (R:=R) d;exact ⟨by simp only [encO,a,Qr],.arr (.append (.flat (Q3 t l)) b) (λq=>.inl q) λq=>q⟩
  | some p=>
   have d:Jk6 p.2=true/\x.all Jk6=true:=by simpa [Ob.kids] using d
   obtain ⟨a,b⟩:=Jfz (s:=s) (s':=s') (h:=h) (h':=h') (θ:=θ) (R:=R) d.2;obtain ⟨w,r⟩:=Jki (s:=s) (s':=s') (h:=h) (h':=h') (θ:=θ) (R:=R) d.1;exact ⟨by simp only [encO,a,Qr,w],.arr (.append (.set (.flat (Q3 t l)) r _) b) (λq=>.inl q) λq=>q⟩
theorem Jt1{kt vt:Ty}(es:List (kt.T×vt.T)):(encE kt vt es).length=es.length:=by simp [encE]
theorem encE_at{kt vt:Ty}{es:List (kt.T×vt.T)}{i:Nat}{q:AV×AV}(h:(encE kt vt es)[i]?=some q):∃e,nthL es i=some e/\q=(avT kt e.1,avT vt e.2):=by
 unfold encE at h;rw [Ad] at h;cases a:es[i]? with
 | none=>rw [a] at h;cases h
 | some e=>rw [a] at h;injection h with h;exact ⟨e,a,h.symm⟩
theorem Js8{kt vt:Ty}:∀(k:Nat) (l:List (kt.T×List vt.T)),(moEs kt vt k l).length=l.length
 | k,[]=>rfl
 | k,e::r=>by simp only [moEs,Ay,Js8 (k+1) r]
theorem Jhv{α β:Type}{f:α->β}{d:Nat}:∀ {l:List (Nat×α)},look d (l.map λp=>(p.1,f p.2))=(look d l).map f
 | []=>rfl
 | (n,v)::r=>by
  rw [Ar,J0,J0];split
  ·rfl
  ·exact Jhv
end
section
variable {nt:Nat} {w:World} {S:Nat->Prop} {s s':Dn.S Ty.T} {μ:Gh} {a:Act} {fs:List Fm}
theorem unmo_ok(h:RepF nt w S s μ a fs)(H:unmo s=some s'):Goes nt w S s μ a fs s':=by
 unfold unmo at H;split at H
 ·injection H with H;subst H;exact ⟨S,μ,h,.refl⟩
 ·rename_i m hm;split at H
  ·rename_i hk;injection H with H;have hi:=h.iv;obtain ⟨m1,m2,m3⟩:=hi.mo m hm;have G:∀n,look n s'.ob=if m.g=n then some (.mp 0 m.kt (.ls m.vt) m.es) else look n s.ob:=λn=>by subst H;exact J0 _ _ _ _
   have hmo:s'.mo=none:=by subst H;rfl
   have hgm:look m.g s.ob=none:=Jdd hi (by simp [moN,hm]);have eG:encH s m.g=some (.map 0 (moEs m.kt m.vt 0 m.es) false):=by simp [encH,hgm,hm,moAt,Mo.at]
   have eG':encH s' m.g=some (.map 0 (encE m.kt (.ls m.vt) m.es) false):=by
    have:look m.g s'.ob=some (.mp 0 m.kt (.ls m.vt) m.es):=by rw [G,if_pos rfl]
    rw [Jf this];rfl
   have old:∀ {n:Nat} {o:Ob Ty.T},look n s.ob=some o->n≠m.g/\n<mB/\encH s n=some (encO s o)/\encH s' n=some (encO s o)/\o.kids.all Jk6=true:=λ{n o} B=>by
    have hf:=m3 n o B;have hne:n≠m.g:=λe=>by subst e;rw [hgm] at B;cases B
    have hkk:=Aq.1 hk (n,o) (Qn B);refine ⟨hne,?_,Jf B,?_,hkk⟩
    ·rw [hm] at hf;simp only [moN,Bool.or_eq_false_iff] at hf;have:=hf.2;rcases Nat.lt_or_ge n mB with q|q
     ·exact q
     ·rw [Ap q] at this;cases this
    ·have:look n s'.ob=some o:=by rw [G,if_neg (λe=>hne e.symm)];exact B
     rw [Jf this,(Jqd (s:=s) (s':=s') (h:=encH s) (h':=encH s) (θ:=some) (R:=[]) hkk n).1]
   have Z:∀i,encH s' (mB+i)=none:=λi=>by
    have X:look (mB+i) s.ob=none:=by
     cases E:look (mB+i) s.ob with
     | none=>rfl
     | some o=>have:=(old E).2.1;omega
    have Q:look (mB+i) s'.ob=none:=by rw [G,if_neg (by omega)];exact X
    simp only [encH,Q,hmo,moAt]
   have O:∀ {i:Nat} {e:m.kt.T×List m.vt.T},nthL (α:=m.kt.T×List m.vt.T) m.es i=some e->encH s (mB+i)=some (Jz0 m.vt m.el e.2):=λ{i e} he=>by have:=Js6 m1 he;rw [<-hm] at this;rw [encH,Jdd hi (by simp [moN,hm,Ap (Az mB i)])];exact this
   obtain ⟨R,hR⟩:∃R:List Nat,R=(List.range (List.length (α:=m.kt.T×List m.vt.T) m.es)).map (mB+·):=⟨_,rfl⟩;have hRm:∀g,g∈R↔∃i,i<List.length (α:=m.kt.T×List m.vt.T) m.es/\g=mB+i:=λg=>by rw [hR,Ao];exact ⟨λ⟨i,a,b⟩=>⟨i,List.mem_range.1 a,b.symm⟩,λ⟨i,a,b⟩=>⟨i,List.mem_range.2 a,b.symm⟩⟩
   have hobj:∀n o',encH s' n=some o'->∃o,encH s n=some o/\GO (encH s) (encH s') some R n o o':=λn o' B=>by
    rcases Jfq B with ⟨ob,Y,rfl⟩|⟨-,hx⟩
    ·rw [G] at Y;split at Y
     ·rename_i e;subst e;rw [eG'] at B;refine ⟨_,eG,?_⟩;injection B with B;rw [<-B];refine .map ?_ λi p q hp E=>?_
      ·exact (Jt1 (kt:=m.kt) (vt:=.ls m.vt) m.es).trans (Js8 (kt:=m.kt) (vt:=m.vt) 0 m.es).symm
      ·obtain ⟨e,X,Q⟩:=Jm4 hp;obtain ⟨e',N,h4⟩:=encE_at (kt:=m.kt) (vt:=.ls m.vt) E;have he:some e=some e':=X.symm.trans N;injection he with he;subst Q;subst h4;subst he;have hi1:i<List.length (α:=m.kt.T×List m.vt.T) m.es:=(Av.1 X).1;refine ⟨rfl,?_⟩;have A:=O X;have P:(e.2.flatMap m.vt.cs).length=e.2.length * m.vt.sz:=Jj e.2;have hs:Vv.snap (encH s) 1 (.arr (mB+(0+i)) e.2.length 0 e.2.length)=some (.lst e.2.length (e.2.flatMap m.vt.cs),[mB+(0+i)]):=by
        rw [As];simp only [Vv.snap,A,Jz0];have hcut:Vv.cut (e.2.flatMap m.vt.cs) (0 * m.vt.sz) (e.2.length * m.vt.sz)=e.2.flatMap m.vt.cs:=by simp only [Vv.cut,Ax,Bq];rw [<-P,List.take_length]
        rw [hcut,if_pos ⟨trivial,by rw [P,As];exact Aj _⟩,if_pos (Q3 m.vt e.2)]
       refine .snap 1 hs (λg hg=>?_) (.refl _);have:=Af.1 hg;subst this;exact (hRm _).2 ⟨i,hi1,by rw [As]⟩
     ·obtain ⟨x1,x2,x3,x4,x5⟩:=old Y;rw [x4] at B;injection B with B;exact ⟨_,x3,B▸(Jqd (s:=s) (s':=s) x5 n).2⟩
    ·rw [hmo] at hx;cases hx
   have hgr:∀ {c:C Ty.T},okC s c->okC s' (unkC m.g c)/\GR (encH s) (encH s') some R (encC s c) (encC s' (unkC m.g c)):=λ{c} ok=>by
    have at':∀ {g v:Nat},(g,v)∈refs c->∃o,look g s.ob=some o/\v<=o.ver/\encH s g=some (encO s o)/\encH s' g=some (encO s o)/\look g s'.ob=some o/\K9 s' g v=K9 s g v:=λ{g v} A=>by
     obtain ⟨o,B,F⟩:=ok _ A;obtain ⟨x1,x2,x3,x4,x5⟩:=old B;have hl:look g s'.ob=some o:=by rw [G,if_neg (λe=>x1 e.symm)];exact B
     refine ⟨o,B,F,x3,x4,hl,?_⟩;have hln:s'.ln=s.ln:=by subst H;rfl
     simp only [K9,B,hl,hln]
    have okk:∀ {c':C Ty.T},(∀r∈refs c',r∈refs c)->okC s' c':=λhsub r A=>by obtain ⟨o,B,F,-,-,hl,-⟩:=at' (hsub r A);exact ⟨o,hl,F⟩
    have nofl:∀(v:AV),v.flat=true->GR (encH s) (encH s') some R v v:=λv hf=>.flat hf;have ptr:∀ {g v off:Nat},(g,v)∈refs c->GR (encH s) (encH s') some R (.ptr g v off) (.ptr g v off):=λ{g v off} A=>by
     obtain ⟨o,B,F,a1,a2,-,-⟩:=at' A;have K:v<=(encO s o).ver:=by rw [Ya];exact F
     exact .ptr a1 a2 K rfl λe=>e
    have arr:∀ {g v off len:Nat},(g,v)∈refs c->GR (encH s) (encH s') some R (.arr g v off len) (.arr g v off len):=λ{g v off len} A=>by
     obtain ⟨o,B,F,a1,a2,-,-⟩:=at' A;have K:v<=(encO s o).ver:=by rw [Ya];exact F
     exact .arr a1 a2 K rfl λe=>⟨e,λe' el c z q=>⟨c,z,q,Iff.rfl⟩⟩
    cases c with
    | any=>exact ⟨okk λr A=>A,.any _⟩
    | lf t y=>exact ⟨okk λr A=>A,.one y⟩
    | kb b=>exact ⟨okk λr A=>A,nofl _ rfl⟩
    | rp t y o=>exact ⟨okk λr A=>A,nofl _ rfl⟩
    | own g v=>
     obtain ⟨o,B,F,a1,a2,-,hl⟩:=at' (g:=g) (v:=v) Ac;refine ⟨okk λr A=>A,?_⟩;show GR _ _ _ _ (.arr g v 0 (K9 s g v)) (.arr g v 0 (K9 s' g v));rw [hl];exact arr Ac
    | part g v a b=>exact ⟨okk λr A=>A,arr Ac⟩
    | ptr g v o=>exact ⟨okk λr A=>A,ptr Ac⟩
    | pti g v e i o=>exact ⟨okk λr A=>A,ptr Ac⟩
    | map g v=>
     obtain ⟨o,B,F,a1,a2,-,-⟩:=at' (g:=g) (v:=v) Ac;have K:v<=(encO s o).ver:=by rw [Ya];exact F
     exact ⟨okk λr A=>A,.map a1 a2 K rfl λe=>e⟩
    | fn f l=>
     refine ⟨okk λr A=>A,.fn f _ _ rfl λi x y hx J=>?_⟩;rw [hx] at J;injection J with J;subst J;rw [Ad] at hx;cases E:l[i]? with
     | none=>rw [E] at hx;cases hx
     | some p=>
      rw [E] at hx;injection hx with hx;subst hx;exact ptr (Ao.2 ⟨p,Am E,rfl⟩)
    | yl j=>exact ⟨okk λr A=>A,.yld j⟩
    | k v=>
     have key:(unkC m.g (.k v:C Ty.T)=.k v/\v.flat=true)\/unkC m.g (.k v:C Ty.T)=.any\/(v=.map m.g 0/\unkC m.g (.k v:C Ty.T)=.map m.g 0):=by
      cases v with
      | map g' ver=>
       cases ver with
       | zero=>
        cases hb:Nat.beq g' m.g with
        | true=>exact .inr (.inr ⟨by rw [Al hb],by simp [unkC,AV.flat,hb]⟩)
        | false=>exact .inr (.inl (by simp [unkC,AV.flat,hb]))
       | succ n=>exact .inr (.inl rfl)
      | _=>first|exact .inl ⟨rfl,rfl⟩|exact .inr (.inl rfl)
     rcases key with ⟨e,hf⟩|e|⟨rfl,e⟩
     ·rw [e];exact ⟨okk λr A=>A,nofl v hf⟩
     ·rw [e];exact ⟨λr A=>(by cases A),.any _⟩
     ·rw [e];refine ⟨λr A=>?_,.map eG eG' (Aj _) rfl λe=>e⟩;have:=Af.1 A;subst this;exact ⟨_,by rw [G,if_pos rfl],Aj _⟩
   have M:∀ {v:V Ty.T},okV s v->okV s' (unkV m.g v)/\GR (encH s) (encH s') some R (encV s v) (encV s' (unkV m.g v)):=λ{v} ok=>by
    cases v with
    | c x=>
     obtain ⟨a,b⟩:=hgr (c:=x) (ok x Ac);exact ⟨λc L=>by have:=Af.1 L;subst this;exact a,b⟩
    | ag l=>
     refine ⟨λc L=>?_,.agg _ _ (by simp) λi x y hx J=>?_⟩
     ·obtain ⟨c0,h0,rfl⟩:=Ao.1 (show c∈l.map (unkC m.g) from L);exact (hgr (ok c0 h0)).1
     ·rw [Ad] at hx J;rw [Ad] at J;cases E:l[i]? with
      | none=>rw [E] at hx;cases hx
      | some c0=>
       rw [E] at hx J;injection hx with hx;injection J with J;subst hx;subst J;exact (hgr (ok c0 (Am E))).2
    | tp l=>
     cases l with
     | nil=>exact ⟨λc L=>(by cases L),.tup _ _ rfl λi x y hx=>by simp at hx⟩
     | cons p r=>exact ⟨λc L=>(by have:=Af.1 L;subst this;intro r A;cases A),.any _⟩
   have hsl:s'.sl=s.sl.map λp=>(p.1,unkV m.g p.2):=by subst H;rfl
   have hlo:s'.lo=s.lo.map λl=>l.map λp=>(p.1,unkV m.g p.2):=by subst H;rfl
   refine h.ghost (θ:=some) (R:=R) ⟨⟨λn o' B=>.inr ?_,λn n' g e1 e2 _ _=>?_,λn g o' e B _ _ hg=>?_,λg hg=>?_⟩,λd v F=>?_,by rw [hlo,Bb],λi l l' d v' X Q N=>?_,λp hp=>?_,λl hl p hp=>?_,λg o B=>?_,λm' hm'=>by rw [hmo] at hm';cases hm'⟩
   ·obtain ⟨o,a,b⟩:=hobj n o' B;exact ⟨n,o,rfl,a,b⟩
   ·injection e1 with e1;injection e2 with e2;rw [e1,e2]
   ·injection e with e;subst e;obtain ⟨i,-,rfl⟩:=(hRm _).1 hg;rw [Z] at B;cases B
   ·obtain ⟨i,hi',rfl⟩:=(hRm _).1 hg;have:nthL (α:=m.kt.T×List m.vt.T) m.es i=some (List.get (α:=m.kt.T×List m.vt.T) m.es ⟨i,hi'⟩):=Bj hi';exact ⟨_,O this,rfl⟩
   ·rw [hsl,Jhv] at F;unfold Dn.S.at;cases E:look d s.sl with
    | none=>rw [E] at F;cases F
    | some v0=>
     rw [E] at F;injection F with F;subst F;exact (M (hi.sl (d,v0) (Qn E))).2
   ·rw [hlo,Ad,X] at Q;injection Q with Q;subst Q;rw [Jhv] at N;cases E:look d l with
    | none=>rw [E] at N;cases N
    | some v0=>
     rw [E] at N;injection N with N;subst N;exact (M (hi.lo l (Am X) (d,v0) (Qn E))).2
   ·rw [hsl] at hp;obtain ⟨q,E,rfl⟩:=Ao.1 hp;exact (M (hi.sl q E)).1
   ·rw [hlo] at hl;obtain ⟨l0,hl0,rfl⟩:=Ao.1 hl;obtain ⟨q,E,rfl⟩:=Ao.1 hp;exact (M (hi.lo l0 hl0 q E)).1
   ·rw [G] at B;split at B
    ·injection B with B;subst B;intro c L;cases L
    ·obtain ⟨-,-,-,-,x5⟩:=old B;intro c L r A;have:=Aq.1 x5 c L;cases c<;>first|(cases A;done)|(cases this;done)
  ·cases H
end
theorem Jz4{d:Nat}:∀(ks:List Nat) (s:Dn.S Ty.T),(Dn.S.kill ks s).at d=if d∈ks then .c .any else s.at d
 | [],s=>by simp [S.kill]
 | x::r,s=>by
  rw [S.kill,Jz4 r];by_cases h:d∈r
  ·rw [if_pos h,if_pos (Ab _ h)]
  ·rw [if_neg h];have:(s.put (some x) (.c .any)).at d=if d=x then .c .any else s.at d:=by
    unfold Dn.S.at Dn.S.put;simp only [J0];by_cases e:x=d
    ·subst e;simp
    ·rw [if_neg e,if_neg (λq=>e q.symm)]
   rw [this];by_cases e:d=x
   ·subst e;rw [if_pos rfl,if_pos Ac]
   ·rw [if_neg e,if_neg (λq=>by rcases Ag.1 q with q|q;exact e q;exact h q)]
theorem Jrh:∀(ks:List Nat) (s:Dn.S Ty.T),(Dn.S.kill ks s).ob=s.ob/\(Dn.S.kill ks s).ln=s.ln/\(Dn.S.kill ks s).mo=s.mo/\(Dn.S.kill ks s).lo=s.lo
 | [],s=>⟨rfl,rfl,rfl,rfl⟩
 | x::r,s=>Jrh r (s.put (some x) (.c .any))
theorem Js7:∀(ks:List Nat) {s:Dn.S Ty.T},Inv s->Inv (Dn.S.kill ks s)
 | [],s,h=>h
 | x::r,s,h=>Js7 r (h.put (v:=.c .any) (λc d=>by have:=Af.1 d;subst this;intro r a;cases a) (some x))
theorem encE_get{kt vt:Ty}{es:List (kt.T×vt.T)}{i:Nat}{e:kt.T×vt.T}(h:es[i]?=some e):(encE kt vt es)[i]?=some (avT kt e.1,avT vt e.2):=by unfold encE;rw [Ad,h];rfl
theorem put_self(a:Act){d:Nat}{v:Value}(hd:d<a.tmps.size)(h:a.tmps.getD d undef=v):a.put (some d) v=a:=by
 obtain ⟨t,f⟩:=a;show (⟨t.setIfInBounds d v,f⟩:Act)=⟨t,f⟩
 congr 1
 apply Bv
 ·simp
 ·intro i l g;rw [Array.getElem_setIfInBounds g];split
  ·rename_i e;subst e;have h:t.getD d undef=v:=h;rw [<-h];simp [Ae,g]
  ·rfl
section
variable {nt:Nat} {w w':World} {S:Nat->Prop} {s:Dn.S Ty.T} {μ:Gh} {a a':Act} {fs:List Fm}
theorem RepF.kill(h:RepF nt w S s μ a fs)(ks:List Nat)(hs:a'.tmps.size=a.tmps.size)(hd:a'.defers=a.defers)(v:∀d,d∉ks->a'.tmps.getD d undef=a.tmps.getD d undef):RepF nt w S (Dn.S.kill ks s) μ a' fs:=by
 obtain ⟨e,f,m,l⟩:=Jrh ks s;have eh:encH (Dn.S.kill ks s)=encH s:=Zi e f m;have ec:encC (Dn.S.kill ks s)=encC s:=Jmu e f;refine h.step hd ⟨λd=>?_,by show RepH w S (encH _) μ;rw [eh];exact h.fr.hp,by rw [hd];exact h.fr.df,by rw [hs];exact h.fr.sz⟩ ⟨l,λc y=>⟨λr o=>by rw [e];exact y r o,by rw [ec]⟩⟩ (Js7 ks h.iv) (by rw [eh];exact .refl) (by rw [eh];exact .refl _ _);show Rep w S (encH _) μ (encV _ ((Dn.S.kill ks s).at d)) _;rw [eh,Jc3 e f,Jz4];by_cases g:d∈ks
 ·rw [if_pos g];exact .any _
 ·rw [if_neg g,v d g];exact h.fr.fr d
theorem take_row(hF:RepF nt w S s μ a fs)(B:Old w w'){t:Ty}(H:0<t.sz){el:TypeId}{l:List t.T}{cv:Value}(G:OwnR w w' S el t l cv){base:Nat}(Q:s.has base=false) :
  ∃S2 μ2,RepF nt w' S2 (s.obj base (.row 0 t.sz el t l [] none false)) μ2 a fs/\Evo w S (encH s) μ w' S2 (encH (s.obj base (.row 0 t.sz el t l [] none false))) μ2/\okV (s.obj base (.row 0 t.sz el t l [] none false)) (.c (.own base 0)) /\
   Rep w' S2 (encH (s.obj base (.row 0 t.sz el t l [] none false))) μ2 (encV (s.obj base (.row 0 t.sz el t l [] none false)) (.c (.own base 0))) cv:=by
 have K:encH s base=none:=Jcv Q;have P:(l.flatMap t.cs).length=l.length * t.sz:=Jj l;have h:l.flatMap t.cs=[]↔l=[]:=Jyq H l;have key:∃(b o:Nat) (S2:Nat->Prop),RepH w' S2 (upd (encH s) base (some (.arr 0 t.sz el (l.flatMap t.cs) false))) (μ.set base b o) /\
   Evo w S (encH s) μ w' S2 (upd (encH s) base (some (.arr 0 t.sz el (l.flatMap t.cs) false))) (μ.set base b o) /\
   EvoV (encH s) μ (upd (encH s) base (some (.arr 0 t.sz el (l.flatMap t.cs) false))) (μ.set base b o)/\ArrV w' (l.flatMap t.cs) b o t.sz 0 l.length cv:=by
  rcases G with ⟨e,A,rfl⟩|⟨e,b,o,cap,cs,q1,rfl,X,R,q4,q5⟩
  ·subst e;obtain ⟨F,y,a3⟩:=adopt (S':=Zu S w w') (g:=base) (b:=0) (k:=0) (esz:=t.sz) (el:=el) (cells:=[]) hF.fr.hp B K (λq m=>.inl m) (λq m=>m) (λq=>(q rfl).elim) (λq=>(q rfl).elim) (λq=>(q rfl).elim);exact ⟨0,0,_,F,y,a3,λ_=>⟨rfl,rfl,A,rfl⟩,λq=>(q rfl).elim⟩
  ·have Y:l.length * t.sz<=cap * t.sz:=Au _ X.1;obtain ⟨F,y,a3⟩:=adopt (S':=λq=>Zu S w w' q/\q≠b) (g:=base) (b:=b) (k:=o) (esz:=t.sz) (el:=el) (cells:=l.flatMap t.cs) hF.fr.hp B K
    (λq m=>⟨.inl m,λe=>by subst e;have:=hF.fr.hp.lt q m;omega⟩) (λq m=>m.1) (λ_ q=>q.2 rfl) (λ_=>q1) (λ_=>⟨cs,R,by rw [P];omega,q5⟩)
   refine ⟨b,o,_,F,y,a3,λq=>(e (h.1 q)).elim,λ_=>⟨⟨b,o,none⟩,cap,cs,el,(0,0),rfl,X,R,by rw [As];exact q4,λ_=>by rw [Ax,Bl]⟩⟩
 obtain ⟨b,o,S2,F,y,a3,a4⟩:=key;obtain ⟨f,r⟩:∃f,f=s.obj base (.row 0 t.sz el t l [] none false):=⟨_,rfl⟩;rw [<-r];have E:look base s.ob=none:=Zd Q;have st:Stab s f:=by subst r;exact X0 λo0 Z=>by rw [E] at Z;cases Z
 have v:∀L,look L f.ob=if base=L then some (.row 0 t.sz el t l [] none false) else look L s.ob:=λL=>by subst r;exact Ke base L _
 have J:f.mo=s.mo:=by subst r;rfl
 have iv:Inv f:=ju hF.iv st v (λc hc=>by cases hc) (Jl5 Q) J;have N:=Yw hF.iv st v J;have O:Dn.encO f (.row 0 t.sz el t l [] none false)=.arr 0 t.sz el (l.flatMap t.cs) false:=by simp [Dn.encO,Qr]
 rw [O] at N;rw [<-N] at F y a3;have hF2:RepF nt w' S2 f (μ.set base b o) a fs:=by refine hF.step rfl ⟨λd=>?_,F,hF.fr.hp.marks hF.fr.df y,hF.fr.sz⟩ st.on iv y a3;rw [Jbe hF.iv st];exact (hF.fr.fr d).evo hF.fr.hp y a3
 have M:K9 f base 0=l.length:=by simp [K9,v,Ob.ver,Ob.lenO]
 refine ⟨S2,_,hF2,y,Qi λq m=>?_,?_⟩
 ·have:=Af.1 m;subst this;exact ⟨_,by rw [v,if_pos rfl],Aj _⟩
 ·show Rep w' S2 (encH f) _ (encC f (.own base 0)) cv;simp only [encC,M];refine .arr base 0 0 l.length cv _ (by rw [N,Jh]) (Aj _) ?_ λ_=>⟨t.sz,el,_,false,rfl,?_⟩
  ·by_cases e:l=[]
   ·obtain ⟨-,-,A,rfl⟩:=a4.1 (h.2 e);rfl
   ·obtain ⟨_,_,_,_,_,rfl,_⟩:=a4.2 (λq=>e (h.1 q));rfl
  ·simp only [Gh.set,Jh];exact a4
theorem mqv_some{α β:Type}{l:List α}{k:List α->Option β}{r:β}(h:mqv l k=some r){p:List α}(a:p.Perm l):k p=some r:=by
 unfold mqv at h;split at h
 ·rename_i hx;have:=hx.choose_spec p a;injection h with h;rw [this,h]
 ·cases h
theorem keys_den{P:Program}{ro:Option Nat}{x y:Code}{i5:Nat}{el:TypeId}{by' base:Nat}(hk:Jl2 P nt x y=some (.keys i5 el by'))(h:RepF nt w S s μ a fs){α:Type}{k:Dn.S Ty.T->Option α}{r:α}(hd:keysD val base el by' s k=some r)
  {Q:Exit->Act->World->Prop} (hQ:∀a' w' S' μ' s',RepF nt w' S' s' μ' a' fs->Evo w S (encH s) μ w' S' (encH s') μ'->k s'=some r->Q .normal a' w'):(Code.seq x y).wpIn (Fr ro) 0 P Q a w:=by
 unfold keysD at hd;obtain ⟨f,hu,hd⟩:=Je hd;obtain ⟨S1,μ1,A,ev1⟩:=unmo_ok h hu;split at hd
 ·rename_i g ver vt es Z M;obtain ⟨H,G⟩:=Jcw Z;have H:f.at 3=.c (.map g ver):=H;have G:look g f.ob=some (.mp ver (.p I I) vt es):=G;split at hd
  ·cases hd
  rename_i m;have m:f.has (base+23)=false:=by simpa using m
  obtain ⟨o,hd⟩:=Jz hd;obtain ⟨es',K⟩:∃es':List ((Int×Int)×vt.T),es'=es:=⟨_,rfl⟩;have o:=Jkh o;have o:((es'.length:Nat):Int) * by'<=room/\((es'.length:Nat):Int)<=9223372036854775807:=by rw [K];exact o
  have hd:mqv (es'.map (·.1)) (λl:List (Int×Int)=>k (((Dn.S.kill Jnz f).obj (base+23) (.row 0 2 el (.p I I) l [] none false)).put (some 4) (.c (.own (base+23) 0))))=some r:=by rw [K];exact hd
  have hfN:es'.length * by'<=room/\es'.length<=9223372036854775807:=by
   have O:((es'.length * by':Nat):Int)<=((room:Nat):Int):=by rw [Int.natCast_mul];exact o.1
   have:=o.2;exact ⟨Int.ofNat_le.1 O,by omega⟩
  have eG:encH f g=some (.map ver (encE (.p I I) vt es') false):=by rw [Jf G,K];rfl
  have X:=A.fr.fr 3;have X:Rep w S1 (encH f) μ1 (.map g ver) (a.tmps.getD 3 undef):=by have:Rep w S1 (encH f) μ1 (encV f (f.at 3)) (a.tmps.getD 3 undef):=X;rw [H] at this;exact this
  have e3:a.tmps.getD 3 undef=.map (some (μ1.b g)):=X.map_inv eG;have r4:Rep w S1 (encH f) μ1 (encV f (f.at 4)) (a.tmps.getD 4 undef):=A.fr.fr 4;rw [M] at r4;have e4:a.tmps.getD 4 undef=.slice none 0 0:=Rep.nils_inv (h:=encH f) r4;obtain ⟨mes,clock,b1,⟨R,b3⟩,-,b4⟩:=A.fr.hp.ob g _ eG;have R:mes.size=es'.length:=R.trans (Jt1 (kt:=.p I I) es');have B:∀(i:Nat) (e:(Int×Int)×vt.T),es'[i]?=some e->∃me,mes[i]?=some me/\me.key=keyV e.1:=λi e L=>by
   have:(encE (.p I I) vt es')[i]?=some (avT (.p I I) e.1,avT vt e.2):=encE_get (kt:=.p I I) L;obtain ⟨me,F,E,-⟩:=b4 i _ _ this;refine ⟨me,F,?_⟩;have E:RepP w S1 (.agg [.int .i64 e.1.1,.int .i64 e.1.2]) me.key:=E;generalize me.key=mk at E;cases E with
   | agg _ cs hl g1 g2=>
    have q0:=g2 0 _ rfl;have Y:=g2 1 _ rfl;simp at hl;show Value.agg cs=Value.agg #[.int .i64 e.1.1,.int .i64 e.1.2]
    congr 1
    apply Bv
    ·simp [<-hl]
    ·intro j A O
     match j,A with
     | 0,A=>
      have:RepP w S1 (.int .i64 e.1.1) (cs[0]):=by simpa [Ae,A] using q0
      generalize cs[0]=v at this ⊢;cases this;rfl
     | 1,A=>
      have:RepP w S1 (.int .i64 e.1.2) (cs[1]):=by simpa [Ae,A] using Y
      generalize cs[1]=v at this ⊢;cases this;rfl
     | j+2,A=>omega
  have J:mes.toList.map (λe=>kOf e.key)=es'.map (·.1):=by
   apply List.ext_getElem?;intro i;rw [Ad,Ad];cases L:es'[i]? with
   | none=>
    have:mes.toList[i]?=none:=by rw [Bf] at L ⊢;simp;omega
    rw [this];rfl
   | some e=>
    obtain ⟨me,F,E⟩:=B i e L;have:mes.toList[i]?=some me:=by simpa using F
    rw [this,Option.map_some,Option.map_some,E,Jti]
  obtain ⟨i5',el',b5,e5,hnt,run⟩:=Jsv (P:=P) (ro:=ro) hk;injection e5 with e51 e52 e53;subst e51;subst e52;subst e53;refine run A.fr.sz e3 b1 b3 (λe L=>?_) e4 ⟨by rw [R];exact hfN.1,by rw [R];exact hfN.2⟩ λa' w' l cv t1 t2 t3 t4 t5 t6 t7=>?_
  ·obtain ⟨i,hi⟩:=List.getElem?_of_mem L;have N:mes[i]?=some e:=by simpa using hi
   have hlt:=(Aa.1 N).1;obtain ⟨me,F,E⟩:=B i es'[i] (Bj (by omega));rw [N] at F;injection F with F;subst F;rw [E,Jti]
  ·rw [J] at t5;have hk2:=mqv_some hd t5;have O:=A.kill Jnz t1 t2 t3;obtain ⟨k1,k2,k3,k4⟩:=Jrh Jnz f;have hb2:(Dn.S.kill Jnz f).has (base+23)=false:=by unfold Dn.S.has at m ⊢;rw [k1,k3];exact m
   have eh:encH (Dn.S.kill Jnz f)=encH f:=Zi k1 k2 k3;obtain ⟨S2,μ2,Y,q2,q3,q4⟩:=take_row O t6 (t:=.p I I) (by decide) (t7.own (S:=S1)) hb2;have h4:4<a'.tmps.size:=by rw [t1];have:=A.fr.sz;omega
   have q5:=Y.put (d:=some 4) (by simp [Jvl];omega) q3 q4;rw [put_self a' h4 t4] at q5;refine hQ a' w' S2 μ2 _ q5 ?_ hk2;rw [Jb1];rw [eh] at q2;exact ev1.trans q2
 ·cases hd
end
def LE.is:LE->Exit->Prop
 | .normal,.normal=>True
 | .exit i,.exit j=>i=j
 | .ret,.ret=>True
 | _,_=>False
theorem least(p:Nat->Prop)(h:∃k,p k):∃k,p k/\∀j,p j->k<=j:=by
 obtain ⟨k,g⟩:=h
 induction k using Nat.strongRecOn with
 | _ k f=>
  by_cases e:∃j,j<k/\p j
  ·obtain ⟨j,m,l⟩:=e;exact f j m l
  ·exact ⟨k,g,λj a=>Nat.le_of_not_lt λd=>e ⟨j,d,a⟩⟩
open Classical in
noncomputable def Jje(p:Nat->Prop):Nat:=if h:∃k,p k then Classical.choose (least p h) else 0
theorem Jhg{p:Nat->Prop}(h:∃k,p k):p (Jje p)/\∀j,p j->Jje p<=j:=by unfold Jje;rw [dif_pos h];exact Classical.choose_spec (least p h)
theorem Jlo{α β:Type}{x:Option α}{k:α->Option β}{r:β}(h:Jam x k=some r):∃y,x=some y/\k y=some r:=by
 cases x with
 | none=>cases h
 | some y=>exact ⟨y,rfl,h⟩
theorem Jhx{α:Type}{k:LE->Dn.S Ty.T->Option α}{r:α}{e:LE}{s:Dn.S Ty.T}:∀ {xs:List (LE×S U)} {h:Ex Ty.T xs},exIn (dL wv) xs e s=some h->Jvv k xs h=some r->∃(p:S U) (hl:HL Ty.T p.lt),p.fit (dL wv) s=some hl/\k e (p.mk' hl)=some r
 | [],h,d,_=>by cases d
 | [(a,p)],h,d,g=>by simp only [exIn] at d;have m:=j6 d;clear d;obtain ⟨l,d⟩:=m;subst l;exact ⟨p,h,d,g⟩
 | (a,p)::q::r',h,d,g=>by
  simp only [exIn] at d;split at d
  ·rename_i l;subst l;cases f:p.fit (dL wv) s with
   | none=>rw [f] at d;cases d
   | some hl=>
    rw [f] at d;injection d with d;subst d;exact ⟨p,hl,f,g⟩
  ·cases f:exIn (dL wv) (q::r') e s with
   | none=>rw [f] at d;cases d
   | some o=>
    rw [f] at d;injection d with d;subst d;exact Jhx (h:=o) f g
theorem Jxn{w:World}{S:Nat->Prop}{s:Dn.S Ty.T}{μ μ':Gh}{h':Heap}{w':World}{caps:List (Nat×Nat×Nat)}{cs:Array Value}{y:Value}(hl:(caps.map λc=>AV.ptr c.1 c.2.1 c.2.2).length=cs.size)
  (f:∀(i:Nat) (x:AV),(caps.map λc=>AV.ptr c.1 c.2.1 c.2.2)[i]?=some x->Rep w S (encH s) μ x (cs.getD i undef)) (tr:∀ {g v o:Nat} {cv:Value},Rep w S (encH s) μ (.ptr g v o) cv->Rep w' S h' μ' (.ptr g v o) cv) {j:Nat} (d:Rep w' S h' μ' (.yld j) y) :
  (#[y]++cs).size=(V.c (ι:=Ty.T) (.yl j)::caps.map λc=>V.c (C.ptr c.1 c.2.1 c.2.2)).length/\∀(i:Nat) (x:V Ty.T),(V.c (ι:=Ty.T) (.yl j)::caps.map λc=>V.c (C.ptr c.1 c.2.1 c.2.2))[i]?=some x->∀s',Rep w' S h' μ' (encV s' x) ((#[y]++cs).getD i undef):=by
 refine ⟨by simp at hl ⊢;omega,λi x hx s'=>?_⟩;cases i with
 | zero=>
  simp only [List.getElem?_cons_zero,Option.some.injEq] at hx;subst hx;have e:(#[y]++cs).getD 0 undef=y:=by simp [Ae,Array.getElem?_append]
  rw [e];exact d
 | succ i=>
  simp only [Bm,Ad] at hx;have e:(#[y]++cs).getD (i+1) undef=cs.getD i undef:=by simp only [Ae];rw [Array.getElem?_append_right (by simp)];simp
  rw [e];cases a:caps[i]? with
  | none=>rw [a] at hx;cases hx
  | some c=>
   rw [a] at hx;injection hx with hx;subst hx;exact tr (f i _ (by rw [Ad,a];rfl))
section
variable {P:Program} {nt:Nat} {call:Vv.Call} {base:Nat} {cx:Cx} {mk:Cx->Inl} {fs:List Fm} {ro:Option Nat}
theorem rng_den(hC:Yg call cx.ct)(hcall:jg P call)(hI:∀hs,Jnf P hs (mk { cx with hs:=hs,rd:=false }))(hso:SoOK P cx)(X:cx.rd=false->ro=none)(hh:HsOK P cx.hs fs)(hfs:FsOK fs){g:Operand}{ps:Array Tmp}{x y:Code}{lc:LC}(l:Y8 P nt (.rangeFunc g ps x y)=some lc){n:List Nat}{ex:List (Nat×List Nat)}{rt:List Nat}{α:Type}{k:LE->Dn.S Ty.T->Option α}{r:α}
  {w:World} {S:Nat->Prop} {s:Dn.S Ty.T} {μ:Gh} {a:Act} {Q:Exit->Act->World->Prop} (h:RepF nt w S s μ a fs) (hd:denC mk cx base lc n ex rt val s k=some r)
  (hQ:∀e x a' w' S' μ' s',LE.is e x->RepF nt w' S' s' μ' a' fs->Evo w S (encH s) μ w' S' (encH s') μ'->k e s'=some r->Q x a' w'):(Code.rangeFunc g ps x y).wpIn (Fr ro) 0 P Q a w:=by
 simp only [Y8] at l;cases hg:cLO g with
 | none=>rw [hg] at l;cases l
 | some g'=>
  rw [hg] at l;simp only [Ai] at l;cases hx:Y8 P nt x with
  | none=>rw [hx] at l;cases l
  | some lx=>
   rw [hx] at l;simp only [Ai] at l;cases hy:Y8 P nt y with
   | none=>rw [hy] at l;cases l
   | some ly=>
    rw [hy] at l;simp only [Ai] at l;have l:=j6 l;obtain ⟨Y,l⟩:=l;injection l with l;subst l;simp only [Ah] at Y;have hps1:∀t∈ps.toList,t<nt:=λt ht=>by
     have:=Aq.1 Y.1 t ht;have:t+1<=nt:=by simpa [Br] using this
     exact this
    simp only [denC] at hd;split at hd
    ·rename_i f caps hv;have hd:=Jmi hd;obtain ⟨⟨hrd,O,hny⟩,hd⟩:=hd;have X:=X hrd;subst X;have B:=Ji h.fr hg;rw [Jw,hv] at B;have B:Rep w S (encH s) μ (.fn f (caps.map λc=>.ptr c.1 c.2.1 c.2.2)) (a.eval g):=B;obtain ⟨cs,ea,c1,c2⟩:=B.fn_inv;have M:=h.len;refine wpIn_rangeFunc λfn _=>?_;obtain ⟨rc,A⟩:∃rc:Loop,rc={ state:=.ready,pending:=none,fn,tmps:=a.tmps,params:=ps,assign:=x,body:=y,defers:=w.heap.size }:=⟨_,rfl⟩;obtain ⟨w1,H⟩:∃w1:World,w1=(w.alloc (.deferred (some []))).alloc (.loop rc):=⟨_,rfl⟩;obtain ⟨L,Z⟩:∃L:Act,L={ a with defers:=[{ target:=.collected w.heap.size,args:=#[] }]++a.defers }:=⟨_,rfl⟩;obtain ⟨hfk,hcl⟩:=hI _ hd;have hF1:RepF nt w1 S s μ a fs:=H▸(h.lay _).lay _;have ev1:Evo w S (encH s) μ w1 S (encH s) μ:=H▸(Jgc _).trans (Jgc _);have hb0:w1.heap[w.heap.size]?=some (.deferred (some [])):=by rw [H,(Jsb _).keep _ (by simp)];exact World.alloc_heap_new w _
     have F:w1.heap[w.heap.size+1]?=some (.loop rc):=by have:=World.alloc_heap_new (w.alloc (.deferred (some []))) (.loop rc);rw [World.size_alloc] at this;rw [H];exact this
     have K:∀d∈a.defers,d≠{ target:=.collected w.heap.size,args:=#[] }:=λd hd e=>by obtain ⟨q,e2,hq,-⟩:=h.fr.df.2 d hd;rw [e2] at e;injection e with e;injection e with e;have:=(Aa.1 hq).1;omega
     have hF1':RepF nt w1 S s μ L fs:=by
      rw [Z];refine ⟨⟨hF1.fr.fr,hF1.fr.hp,⟨Bn.2 ⟨λq=>K _ q rfl,hF1.fr.df.1⟩,λd hd=>?_⟩,hF1.fr.sz⟩,hF1.len,hF1.lo,hF1.sz,?_,hF1.lp,hF1.iv⟩
      ·rcases Ag.1 hd with hd|hd
       ·exact ⟨_,hd,hb0,λq=>by have:=h.fr.hp.lt _ q;omega⟩
       ·exact hF1.fr.df.2 d hd
      ·cases fs with
       | nil=>trivial
       | cons f fs=>
        refine ⟨λd hd=>?_,h.md.2⟩;rcases Ag.1 hd with hd|hd
        ·exact ⟨_,hd,(h.sz f Ac).2.2⟩
        ·exact h.md.1 d hd
     have E:∀p∈fs,∀i q,p.lo=some (i,q)->i≠s.lo.length/\μ.l i≠w.heap.size+1:=λp G i q m=>by
      obtain ⟨pre,post,e⟩:=Be G;have h1:=hfs pre p post e i q m;have h2:fs.length=pre.length+(post.length+1):=by rw [e];simp
      have h3:=(Aa.1 (h.lp p G i q m).1).1;omega
     have hF2:RepF nt w1 S s (Gh.lab μ s.lo.length (w.heap.size+1)) L fs:=hF1'.lab hny λp G i q m=>(E p G i q m).1;have N:(Gh.lab μ s.lo.length (w.heap.size+1)).l s.lo.length=w.heap.size+1:=Jh _ _ _;have hnS:¬S (w.heap.size+1):=λq=>by have:=h.fr.hp.lt _ q;omega
     have eh2:encH (s.push (Jaz (adds ((Y1 lx (Y1 ly [] [] []) [] []).filter λx=>!memN x ps.toList) n)) [])=encH s:=Zi rfl rfl;have J:RepF 0 w1 S (s.push (Jaz (adds ((Y1 lx (Y1 ly [] [] []) [] []).filter λx=>!memN x ps.toList) n)) []) (Gh.lab μ s.lo.length (w.heap.size+1)) act0 (⟨nt,L,some (s.lo.length,rc),w1.heap.size⟩::fs):=
      hF2.push (λp G=>by cases G) (λi q m=>by injection m with m;injection m with e1 e2;subst e1;subst e2;rw [N];exact ⟨F,hnS,λp' hp' i' q' hq' hne=>by simp only [Gh.lab,Jc _ _ _ _ hne];exact (E p' hp' i' q' hq').2⟩) (by rw [Jwz];have:encH (⟨[],kept s.sl (Jaz (adds ((Y1 lx (Y1 ly [] [] []) [] []).filter λx=>!memN x ps.toList) n))::s.lo,s.ob,s.ln,s.mo⟩:Dn.S Ty.T)=encH s:=Zi rfl rfl;rw [this];exact rep0 hF2.fr.hp) rfl
     have hhs:HsOK P ((s.lo.length,⟨base,ps.toList,lx,ly⟩)::cx.hs) (⟨nt,L,some (s.lo.length,rc),w1.heap.size⟩::fs):=by
      intro i hd' m;rw [J0] at m;split at m
      ·rename_i e;injection m with m;subst m;subst e;exact ⟨[],_,fs,rc,rfl,M,rfl,by rw [A],by rw [A],by rw [A,Z],by rw [A],by rw [A];exact hx,by rw [A];exact hy,hps1,Jdy Y.2⟩
      ·exact (hh.push _) i hd' m
     have hfs2:FsOK (⟨nt,L,some (s.lo.length,rc),w1.heap.size⟩::fs):=hfs.push λi q m=>by injection m with m;injection m with e1 e2;rw [<-e1,M]
     have hyl:Rep w1 S (encH s) (Gh.lab μ s.lo.length (w.heap.size+1)) (.yld s.lo.length) (.func (.yield (w.heap.size+1)) #[] #[]):=by have:=Rep.yld (w:=w1) (S:=S) (h:=encH s) (μ:=Gh.lab μ s.lo.length (w.heap.size+1)) s.lo.length;rw [N] at this;exact this
     obtain ⟨as1,as2⟩:=Jxn (s:=s) c1 c2 (λ{g v o cv} hr=>Jgv (s:=s) (j:=s.lo.length) (x:=w.heap.size+1) (c:=.ptr g v o) rfl (hr.evo h.fr.hp ev1 (.refl _ _))) hyl;have okf:okC s (.fn f caps):=by have:=Jen h.iv g';rw [hv] at this;exact this _ (Af.2 rfl)
     have okv:∀v∈(V.c (ι:=Ty.T) (.yl s.lo.length)::caps.map λc=>V.c (C.ptr c.1 c.2.1 c.2.2)),okV s v:=λv hv=>by
      rcases Ag.1 hv with rfl|hv
      ·exact Qi (Jo s rfl)
      ·obtain ⟨c,l,rfl⟩:=Ao.1 hv;refine Qi λr hr=>?_;have:=Af.1 hr;subst this;exact okf (c.1,c.2.1) (Ao.2 ⟨c,l,rfl⟩)
     have hcs:=(hcl J hhs hfs2 okv as1 (λi x hx=>by rw [eh2];exact as2 i x hx _) (R:=rangePost (Fr none) 0 P (w.heap.size+1) Q L) rfl λw' S' μ' v s' cv r1 r2 r3 r4 r5=>?_).1 O
     ·have hres:(resolve a.eval (rangeCall g (w.heap.size+1)) 0).run P w1=.ok { target:=.fn (.func f) cs,args:=#[.func (.yield (w.heap.size+1)) #[] #[]] } w1:=by
       have e1:resolve a.eval (rangeCall g (w.heap.size+1)) 0=Deferred.ofValue (a.eval g) #[.func (.yield (w.heap.size+1)) #[] #[]]:=by simp [resolve,rangeCall,Act.eval]
       rw [e1,ea];rfl
      have hent:(Instr.enterLoop fn a.tmps ps x y (Fr none).round).run P w=.ok (w.heap.size+1,[{ target:=.collected w.heap.size,args:=#[] }]) w1:=by rw [H,A];exact run_enterLoop_outer fn a.tmps ps x y
      rw [Z] at hcs;exact ⟨w.heap.size+1,[{ target:=.collected w.heap.size,args:=#[] }],w1,_,w1,f,_,w1,hent,hres,λ_ _=>trivial,Qb (hfk O) _ _,λq=>(by cases q),Juc hcs⟩
     ·-- the function has returned
      have hl1:w'.heap[w.heap.size+1]?=some (.loop rc):=(r4.keep _ (Aa.1 F).1 (J.fr.hp.no_own F (by intros;simp) (by intros;simp))).trans F;have hnS':¬S' (w.heap.size+1):=λq=>by
       rcases r4.st2 _ q with q|q|q
       ·exact hnS q
       ·have:=(Aa.1 F).1;omega
       ·exact J.fr.hp.no_own F (by intros;simp) (by intros;simp) q
      have r5:=Jmi r5;obtain ⟨hny',r5⟩:=r5;have hμ:Gh.lab μ' s.lo.length (μ.l s.lo.length)=⟨μ'.b,μ'.o,μ.l⟩:=by
       unfold Gh.lab
       congr 1
       funext i;rw [r4.lp];simp only [Gh.lab,upd];split
       ·rename_i e;rw [e]
       ·rfl
      have r1':RepF nt w' S' s' ⟨μ'.b,μ'.o,μ.l⟩ L fs:=hμ▸r1.lab hny' λp G i q m=>(E p G i q m).1;have r1'':=r1'.putL hl1 hnS' (λp G i q m=>(E p G i q m).2) (.loop { rc with state:=.exhausted });refine ⟨none,w'.putObj (w.heap.size+1) (.loop { rc with state:=.exhausted }),?_,?_⟩
      ·have G:rc.pending=none:=by rw [A]
       have:=run_endLoop (P:=P) hl1 (by rw [A];intro q;cases q);rw [this,G]
      have ev2:Evo w S (encH s) μ w' S' (encH s') ⟨μ'.b,μ'.o,μ.l⟩:=ev1.trans (by have:=evo_lab μ.l r4;rw [eh2] at this;exact this);refine hQ .normal .normal _ _ _ _ _ trivial r1'' ⟨ev2.os,ev2.tape,ev2.output,by simpa using ev2.size,λb hb hn=>(Q4 (by omega)).trans (ev2.keep b hb hn),λb cs el z l=>?_,ev2.st,ev2.st2,ev2.ow,ev2.lp⟩ r5;obtain ⟨cs',q1,q2⟩:=ev2.shape b cs el z l;exact ⟨cs',(Q4 (by have:=(Aa.1 l).1;omega)).trans q1,q2⟩
    ·cases hd
theorem Jli(cx:Cx):∀l:List (Nat×LOper),(Jo7 cx l).1++(Jo7 cx l).2=l
 | []=>rfl
 | p::r=>by
  have a:=Jli cx r;simp only [Jo7];split
  ·rfl
  ·simp only [List.cons_append,a]
theorem jw{P:Program}{b:Frame}{a:Act}{k:List Item}{cs:List Frame}{w:World}{c:Code}:step P (lone (b.atR a (.code (.scope c)::k)) cs w)=.next (lone (b.atR a (.code c::.inScope c::k)) cs w):=
 step_lone_go (by simp [stepG,stepG.exec,Frame.atR])
theorem Jor{P:Program}{b:Frame}{a:Act}{k:List Item}{cs:List Frame}{w:World}{c:Code}:step P (lone (b.atR a (.inScope c::k)) cs w)=.next (lone (b.atR a k) cs w):=
 step_lone_go (by simp [stepG,stepG.exec,Frame.atR])
theorem Ju8{F:Fence}{n:Nat}{P:Program}{Q:Exit->Act->World->Prop}{a:Act}{w:World}{c:Code}(h:c.wpIn F n P (Exit.noGoto Q) a w):(Code.scope c).wpIn F n P Q a w:=by
 intro b k cs m y r;have g:(lone (b.atR a (.code (.scope c)::k)) cs w).fenced P F:=fenced_calm y r rfl;obtain ⟨e,a₁,w₁,f,d⟩:=h b (.inScope c::k) cs m y r;cases e with
 | normal=>exact ⟨.normal,a₁,w₁,f,.head g jw (StepsIn.trans d (.one (fenced_calm y r rfl) Jor))⟩
 | exit id=>
  have hx:exitTo id (.inScope c::k)=exitTo id k:=by simp [exitTo]
  exact ⟨.exit id,a₁,w₁,f,λk' v=>.head g jw (d.1 k' (by rw [hx];exact v)),λo v=>let ⟨k₁,B,A⟩:=d.2 o (by rw [hx];exact v);⟨k₁,B,.head g jw A⟩⟩
 | goto l=>exact f.elim
 | ret=>exact ⟨_,a₁,w₁,f,.of_steps (.one g jw) d⟩
 | panic ch=>exact ⟨_,a₁,w₁,f,.of_steps (.one g jw) d⟩
 | outgrown=>exact ⟨_,a₁,w₁,f,.of_steps (.one g jw) d⟩
theorem Jtx(hC:Yg call cx.ct)(E:jg P call)(hI:∀hs,Jnf P hs (mk { cx with hs:=hs,rd:=false }))(hm:P.follows .mixedOrders=true)(hso:SoOK P cx)(hro:cx.rd=false->ro=none)(hh:HsOK P cx.hs fs)(hfs:FsOK fs):∀(c:Code) {lc:LC} (f:Y8 P nt c=some lc) {n:List Nat} {ex:List (Nat×List Nat)} {rt:List Nat} {α:Type} {k:LE->Dn.S Ty.T->Option α} {r:α}
  {w:World} {S:Nat->Prop} {s:Dn.S Ty.T} {μ:Gh} {a:Act} {Q:Exit->Act->World->Prop},RepF nt w S s μ a fs->denC mk cx base lc n ex rt val s k=some r ->
  (∀e x a' w' S' μ' s',LE.is e x->RepF nt w' S' s' μ' a' fs->Evo w S (encH s) μ w' S' (encH s') μ'->k e s'=some r->Q x a' w')->c.wpIn (Fr ro) 0 P Q a w:=by
 intro c
 induction c with
 | skip=>
  intro lc f n ex rt α k r w S s μ a Q h hd hQ;injection f with f;subst f;exact Go.wpIn_skip (hQ .normal .normal _ _ _ _ _ trivial h .refl hd)
 | region id ops draw=>
  intro lc f n ex rt α k r w S s μ a Q h hd hQ;simp only [Y8] at f;obtain ⟨L,hL,rfl⟩:=Qy f;simp only [denC] at hd;have fin:∀ {a' w' S' μ' s'},RepF nt w' S' s' μ' a' fs->Evo w S (encH s) μ w' S' (encH s') μ'->k .normal (Jl3 val cx.ty (cx.keep id) s.ob.length s')=some r->Q .normal a' w':=λF v o=>by obtain ⟨S2,μ2,N,G⟩:=Jw8 cx.ty (cx.keep id) s.ob.length F;exact hQ .normal .normal _ _ _ _ _ trivial N (v.trans G) o
  cases draw with
  | true=>
   rw [if_pos rfl] at hd;split at hd
   ·refine draw_den hC E hm h hL hd (λL' L2 s' K=>?_) λa' w' S' μ' s' L' L2 F v o=>?_
    ·split at K
     ·rename_i H;rcases Bool.or_eq_true_iff.1 H with q|q
      ·exact .inl q
      ·exact .inr q
     ·cases K
    ·split at o
     ·exact fin F v o
     ·cases o
   ·rename_i A p R hsp;have hAB:L=A++(p::R):=by rw [<-Jli cx L,hsp]
    rw [hAB] at hL;refine Jxp hC E hm h hL hd (λL' L2 s' K=>?_) λa' w' S' μ' s' L' L2 os F v o r4 r5=>?_
    ·split at K
     ·assumption
     ·cases K
    ·split at o
     ·exact Jsm hC E (hI cx.hs) hso hh hfs r4 r5 F o λa2 w2 S2 μ2 s2 N G M=>fin N (v.trans G) M
     ·cases o
  | false=>
   rw [if_neg (by decide)] at hd;refine wpIn_region_list (Jsm hC E (hI cx.hs) hso hh hfs hL ?_ h hd λa' w' S' μ' s' F v o=>fin F v o);apply List.ext_getElem?;intro i;simp only [Ad,Bp];by_cases hi:i<ops.size
   ·rw [List.getElem?_range hi];simp [hi]
   ·rw [List.getElem?_eq_none (by simpa using hi)];simp [hi]
 | seq x y X O=>
  intro lc f n ex rt α k r w S s μ a Q h hd hQ;simp only [Y8] at f;cases hks:Jl2 P nt x y with
  | some lk=>
   rw [hks] at f;injection f with f;subst f;obtain ⟨i5,el,by',rfl,-,-⟩:=Jsv (P:=P) (ro:=ro) hks;simp only [denC] at hd;exact keys_den hks h hd λa' w' S' μ' s' F v o=>hQ .normal .normal _ _ _ _ _ trivial F v o
  | none=>
  rw [hks] at f;simp only at f;cases hx:Y8 P nt x with
  | none=>rw [hx] at f;cases f
  | some lx=>
   rw [hx] at f;simp only [Ai] at f;obtain ⟨ly,hy,rfl⟩:=Qy f;simp only [denC] at hd;split at hd
   case h_2=>
    generalize joinX (denC mk cx base lx (Y1 ly n ex rt) ex rt (α:=Unit) stat (erS s) λe s'=>[(e,Je0 stat (Jhq (Jaz (Y1 ly n ex rt)) ex rt e) s')])=xs at hd
    replace hd:Jam (denC mk cx base lx (Y1 ly n ex rt) ex rt val s λe s'=>exIn (dL wv) xs e (Je0 val (Jhq (Jaz (Y1 ly n ex rt)) ex rt e) s')) (Jvv (λe s'=>match e with|.normal=>denC mk cx base ly n ex rt val s' k|e=>k e s') xs)=some r:=hd
    obtain ⟨e0,H,hex⟩:=Jlo hd;refine wpIn_seq (X hx h H λe x' a' w' S' μ' s' is F v o=>?_);obtain ⟨S3,μ3,d1,d2⟩:=Jn7 (Jhq (Jaz (Y1 ly n ex rt)) ex rt e) F;obtain ⟨p,hp,g1,g2⟩:=Jhx o hex;obtain ⟨S4,μ4,d3,d4⟩:=Jpe d1 g1;cases e with
    | normal=>
     cases x'<;>simp only [LE.is] at is;exact O hy d3 g2 λe2 x2 a2 w2 S2 μ2 s2 is2 N G M=>hQ e2 x2 _ _ _ _ _ is2 N (v.trans (d2.trans (d4.trans G))) M
    | exit i=>
     cases x'<;>simp only [LE.is] at is;subst is;exact hQ (.exit i) (.exit i) _ _ _ _ _ rfl d3 (v.trans (d2.trans d4)) g2
    | ret=>
     cases x'<;>simp only [LE.is] at is;exact hQ .ret .ret _ _ _ _ _ trivial d3 (v.trans (d2.trans d4)) g2
   refine wpIn_seq (X hx h hd λe x' a' w' S' μ' s' is F v o=>?_);cases e with
   | normal=>
    cases x'<;>simp only [LE.is] at is;exact O hy F o λe2 x2 a2 w2 S2 μ2 s2 is2 N G M=>hQ e2 x2 _ _ _ _ _ is2 N (v.trans G) M
   | exit i=>
    cases x'<;>simp only [LE.is] at is;subst is;exact hQ (.exit i) (.exit i) _ _ _ _ _ rfl F v o
   | ret=>
    cases x'<;>simp only [LE.is] at is;exact hQ .ret .ret _ _ _ _ _ trivial F v o
 | cond c x y X O=>
  intro lc f n ex rt α k r w S s μ a Q h hd hQ;simp only [Y8] at f;cases hcc:cLO c with
  | none=>rw [hcc] at f;cases f
  | some c'=>
   rw [hcc] at f;simp only [Ai] at f;cases hx:Y8 P nt x with
   | none=>rw [hx] at f;cases f
   | some lx=>
    rw [hx] at f;simp only [Ai] at f;obtain ⟨ly,hy,rfl⟩:=Qy f;simp only [denC] at hd;have H:=Ji h.fr hcc;rw [Jw] at H;split at hd
    ·rename_i t ht;rw [ht] at H;have H:Rep w S (encH s) μ (.bool t) (a.eval c):=H;refine wpIn_cond H.bool_inv ?_;cases t with
     | true=>rw [if_pos rfl] at hd ⊢;exact X hx h hd hQ
     | false=>rw [if_neg (by decide)] at hd ⊢;exact O hy h hd hQ
    ·rename_i t ht;rw [ht] at H;obtain ⟨t,rfl⟩:∃T:Bool,(show Ty.T .bool from T)=t:=⟨t,rfl⟩;have H:Rep w S (encH s) μ (.bool t) (a.eval c):=H;refine wpIn_cond H.bool_inv ?_;split at hd
     ·rename_i d;have hf:∀q:Bool,(t:Bool)=q->(enc s).f d=.bool q:=λq e=>by have:s.at d=.c (.lf .bool t):=ht;rw [Jta this,<-e];rfl
      have al:∀q:Bool,(t:Bool)=q->RepF nt w S (s.put (some d) (.c (.kb q))) μ a fs:=λq e=>h.alike (Jb6 (hf q e)) (.put s _ _) (h.iv.put okKb _);have eh:∀q:Bool,encH (s.put (some d) (.c (.kb q)))=encH s:=λq=>Jb1 _ _ _;rcases Jc5 hd with ⟨e,hd⟩|⟨e,hd⟩
      ·have e:t=true:=e;rw [if_pos e];exact X hx (al true e) hd λe2 x2 a2 w2 S2 μ2 s2 is2 N G M=>hQ e2 x2 _ _ _ _ _ is2 N (by rw [eh] at G;exact G) M
      ·have e:t=false:=e;rw [if_neg (by rw [e];decide)];exact O hy (al false e) hd λe2 x2 a2 w2 S2 μ2 s2 is2 N G M=>hQ e2 x2 _ _ _ _ _ is2 N (by rw [eh] at G;exact G) M
     ·cases hd
    ·cases hd
 | scope b ih=>
  intro lc f n ex rt α k r w S s μ a Q h hd hQ;simp only [Y8] at f;refine Ju8 (ih f h hd λe x a' w' S' μ' s' is F v o=>?_);have:=hQ e x a' w' S' μ' s' is F v o;cases x<;>first|exact this|(cases e<;>cases is)
 | label l=>
  intro lc f n ex rt α k r w S s μ a Q h hd hQ;simp only [Y8] at f;injection f with f;subst f;exact Go.wpIn_label (hQ .normal .normal _ _ _ _ _ trivial h .refl hd)
 | block id b ih=>
  intro lc f n ex rt α k r w S s μ a Q h hd hQ;simp only [Y8] at f;obtain ⟨lb,H,rfl⟩:=Qy f;simp only [denC] at hd;refine wpIn_block (ih H h hd λe x a' w' S' μ' s' is F v o=>?_);cases e with
  | normal=>
   cases x<;>simp only [LE.is] at is;rw [if_neg (by intro q;cases q)] at o;exact hQ .normal .normal _ _ _ _ _ trivial F v o
  | ret=>
   cases x<;>simp only [LE.is] at is;rw [if_neg (by intro q;cases q)] at o;exact hQ .ret .ret _ _ _ _ _ trivial F v o
  | exit i=>
   cases x<;>simp only [LE.is] at is;subst is;simp only [Exit.inBlock];by_cases hi:i=id
   ·subst hi;rw [if_pos rfl] at o ⊢;exact hQ .normal .normal _ _ _ _ _ trivial F v o
   ·rw [if_neg (by intro q;injection q with q;exact hi q)] at o;rw [if_neg hi];exact hQ (.exit i) (.exit i) _ _ _ _ _ rfl F v o
 | loop b ih=>
  intro lc f n ex rt α k r w S s μ a Q h hd hQ;simp only [Y8] at f;obtain ⟨lb,H,rfl⟩:=Qy f;simp only [denC] at hd;generalize fixS (λsh=>denC mk cx base lb (Jaz (Y1 lb [] ex rt)) ex rt (α:=Unit) stat sh λe s'=>[(e,Je0 stat (Jhq (Jaz (Y1 lb [] ex rt)) ex rt e) s')]) 4 (erS (Je0 val (Jaz (Y1 lb [] ex rt)) s))=fx at hd;obtain ⟨sh,xs⟩:=fx;simp only at hd;generalize hh:Jaz (Y1 lb [] ex rt)=K at hd
  replace hd:loopV wv (dL wv) sh xs (λe s'=>Je0 val (Jhq K ex rt e) s') (λs' k'=>denC mk cx base lb K ex rt val s' k') (Je0 val K s) k=some r:=hd
  unfold loopV at hd;split at hd
  ·cases hd
  ·rename_i h0 hf0;generalize hB:(λh=>denC mk cx base lb K ex rt val (sh.mk' h) λe s'=>(match e with
    | .normal=>(sh.fit (dL wv) (Je0 val (Jhq K ex rt .normal) s')).map Nx.go
    | e=>(exIn (dL wv) xs e (Je0 val (Jhq K ex rt e) s')).map Nx.out:Option (Nx (HL Ty.T sh.lt) (Ex Ty.T xs))))=B
   have hd:Jam (Xu B bigN h0) (Jvv k xs)=some r:=by rw [<-hB];exact hd
   obtain ⟨e,hl,hex⟩:=Jlo hd;obtain ⟨S0,μ0,c1,c2⟩:=Jn7 K h;obtain ⟨S1,μ1,c3,c4⟩:=Jpe c1 hf0;let J:Nat->Act->World->Prop:=λm a1 w1=>∃hm Sm μm,Xu B m hm=some e/\RepF nt w1 Sm (sh.mk' hm) μm a1 fs/\Evo w S (encH s) μ w1 Sm (encH (sh.mk' hm)) μm;refine wpIn_loop (λa1 w1=>∃m,J m a1 w1) (λa1 w1=>Jje λm=>J m a1 w1) ⟨bigN,h0,S1,μ1,hl,c3,c2.trans c4⟩ λa1 w1 hI'=>?_;have hmin:=(Jhg hI').1;generalize (Jje λm=>J m a1 w1)=m at hmin ⊢;obtain ⟨hm',Sm,μm,Y,j2,j3⟩:=hmin;cases m with
   | zero=>cases Y
   | succ m=>
    simp only [Xu] at Y;cases hBm:B hm' with
    | none=>rw [hBm] at Y;cases Y
    | some nx=>
     rw [hBm] at Y;have hbd:=hBm;rw [<-hB] at hbd;refine ih H j2 hbd λe1 x1 a2 w2 S2 μ2 s2 is N G M=>?_;obtain ⟨S3,μ3,d1,d2⟩:=Jn7 (Jhq K ex rt e1) N;cases e1 with
     | normal=>
      cases x1<;>simp only [LE.is] at is;obtain ⟨h',Z,rfl⟩:=Qy M;obtain ⟨S4,μ4,d3,d4⟩:=Jpe d1 Z;simp only [Exit.then];have hJ:J m a2 w2:=⟨h',S4,μ4,Y,d3,j3.trans (G.trans (d2.trans d4))⟩;exact ⟨⟨m,hJ⟩,Nat.lt_succ_of_le ((Jhg ⟨m,hJ⟩).2 m hJ)⟩
     | exit i=>
      cases x1<;>simp only [LE.is] at is;subst is;obtain ⟨h',Z,rfl⟩:=Qy M;injection Y with Y;subst Y;obtain ⟨p,hp,g1,g2⟩:=Jhx Z hex;obtain ⟨S4,μ4,d3,d4⟩:=Jpe d1 g1;exact hQ (.exit i) (.exit i) _ _ _ _ _ rfl d3 (j3.trans (G.trans (d2.trans d4))) g2
     | ret=>
      cases x1<;>simp only [LE.is] at is;obtain ⟨h',Z,rfl⟩:=Qy M;injection Y with Y;subst Y;obtain ⟨p,hp,g1,g2⟩:=Jhx Z hex;obtain ⟨S4,μ4,d3,d4⟩:=Jpe d1 g1;exact hQ .ret .ret _ _ _ _ _ trivial d3 (j3.trans (G.trans (d2.trans d4))) g2
 | exit id=>
  intro lc f n ex rt α k r w S s μ a Q h hd hQ;injection f with f;subst f;exact wpIn_exit (hQ (.exit id) (.exit id) _ _ _ _ _ rfl h .refl hd)
 | ret=>
  intro lc f n ex rt α k r w S s μ a Q h hd hQ;injection f with f;subst f;exact wpIn_ret (hQ .ret .ret _ _ _ _ _ trivial h .refl hd)
 | rangeFunc g ps x y X O=>
  intro lc f n ex rt α k r w S s μ a Q h hd hQ;exact rng_den hC E hI hso hro hh hfs f h hd hQ
 | _=>intro lc f;cases f
end
def Jq7(a:Act):ResultVar->Sem Value
 | .tmp t=>pure (a.tmps.getD t undef)
 | .cell b t=>do loadVar t (<-asAddr (a.tmps.getD b undef))
section
variable {P:Program} {w:World} {S:Nat->Prop} {σ:St} {μ:Gh} {a:Act} {nt:Nat}
theorem Jyw(hs:RepS nt w S σ μ a):∀ {l:List ResultVar} {rs:List RV} {vs:List AV},mapL (Jlz P) l=some rs->rs.mapM (RV.get σ)=some vs ->
  ∃cs:List Value,(l.mapM (Jq7 a)).run P w=.ok cs w/\cs.length=vs.length/\∀i x,vs[i]?=some x->Rep w S σ.h μ x (cs.getD i undef)
 | [],rs,vs,g,f=>by injection g with g;subst g;simp at f;subst f;exact ⟨[],by simp,rfl,λi x B=>by simp at B⟩
 | r::l,rs,vs,g,f=>by
  simp only [mapL] at g;cases hx:Jlz P r with
  | none=>rw [hx] at g;cases g
  | some x=>
   rw [hx] at g;simp only [Ai] at g;obtain ⟨m,K,rfl⟩:=Qy g;rw [Bd] at f;cases d:RV.get σ x with
   | none=>rw [d] at f;cases f
   | some v=>
    cases o:m.mapM (RV.get σ) with
    | none=>rw [d,o] at f;cases f
    | some us=>
     rw [d,o] at f;injection f with f;subst f;obtain ⟨cs,N,M,L⟩:=Jyw hs K o;have one:∃cv,(Jq7 a r).run P w=.ok cv w/\Rep w S σ.h μ v cv:=by
      cases r with
      | tmp t=>
       simp [Jlz] at hx;subst hx;simp [RV.get] at d;subst d;exact ⟨_,by simp [Jq7],hs.fr t⟩
      | cell b t=>
       simp only [Jlz] at hx;cases h:aggT P t with
       | none=>rw [h] at hx;cases hx
       | some ag=>
        cases E:szT P t with
        | none=>rw [h,E] at hx;cases hx
        | some n=>
         rw [h,E] at hx;simp only [Ai] at hx;have hx:=j6 hx;obtain ⟨A,hx⟩:=hx;injection hx with hx;subst hx;simp only [RV.get] at d;have hd:∃ad,a.tmps.getD b undef=.pointer (some ad):=by
          unfold Jbg at d;split at d
          ·rename_i O off hd;obtain ⟨ad,e,_⟩:=Jj2 hs.hp (hs.fr b) hd;exact ⟨ad,e⟩
          ·cases d
         obtain ⟨ad,e⟩:=hd;obtain ⟨cv,F,G⟩:=Jgq (P:=P) hs.hp h E A (hs.fr b) d;refine ⟨cv,?_,G⟩;rw [e] at F;simp only [Jq7,e];simpa [Instr.loadAt,Instr.sureAddr,asAddr] using F
     obtain ⟨cv,J,H⟩:=one;refine ⟨cv::cs,?_,by simp [M],λi y B=>?_⟩
     ·rw [Bd];simp only [Sem.run_bind,J,N,Result.andThen_ok,Sem.run_pure]
     ·cases i with
      | zero=>simp at B;subst B;simpa using H
      | succ i=>simpa using L i y (by simpa using B)
theorem Jjl{s:Dn.S Ty.T}(e:Inv s){α:Type}{r:α}:∀ {rs:List RV} {k:List (V Ty.T)->Option α},resD val s rs k=some r->∃l,rs.mapM (RV.get (enc s))=some (l.map (encV s))/\(∀v∈l,okV s v)/\k l=some r
 | [],k,h=>⟨[],rfl,λv d=>(by cases d),h⟩
 | .tmp t::rs,k,h=>by
  simp only [resD] at h;obtain ⟨l,a,b,c⟩:=Jjl e h;refine ⟨s.at t::l,?_,λv d=>?_,c⟩
  ·rw [Bd,a];rfl
  ·rcases Ag.1 d with rfl|d
   ·exact e.at t
   ·exact b v d
 | .cell t ag n::rs,k,h=>by
  simp only [resD] at h;obtain ⟨v,v1,v2,h⟩:=Jul e (e.at t) h;obtain ⟨l,a,b,c⟩:=Jjl e h;refine ⟨v::l,?_,λu f=>?_,c⟩
  ·rw [Bd,a];have:RV.get (enc s) (.cell t ag n)=some (encV s v):=v1;rw [this];rfl
  ·rcases Ag.1 f with rfl|f
   ·exact v2
   ·exact b u f
theorem Jw3(s:Dn.S Ty.T)(l:List (V Ty.T))(ok:∀v∈l,okV s v){cs:List Value}(hl:cs.length=l.length)(g:∀(i:Nat) (x:AV),(l.map (encV s))[i]?=some x->Rep w S (encH s) μ x (cs.getD i undef)) :
  okV s (Jla l)/\Rep w S (encH s) μ (encV s (Jla l)) (if h:cs.toArray.size=1 then cs.toArray[0] else .tuple cs.toArray):=by
 have tp:okV s (.tp (l.map V.toP))/\Rep w S (encH s) μ (encV s (.tp (l.map V.toP))) (.tuple cs.toArray):=by
  refine ⟨λc d=>?_,?_⟩
  ·simp only [V.all,List.mem_flatMap,Ao] at d;obtain ⟨p,⟨v,a,rfl⟩,d⟩:=d;cases v with
   | c x=>exact ok _ a c d
   | ag l=>exact ok _ a c d
   | tp l=>cases d
  ·refine .tup _ _ (by simp [hl]) λi x hx=>?_;rw [Ad,Ad] at hx;cases a:l[i]? with
   | none=>rw [a] at hx;cases hx
   | some v=>
    rw [a] at hx;injection hx with hx;have:=g i (encV s v) (by rw [Ad,a];rfl);have e:cs.toArray.getD i undef=cs.getD i undef:=by simp
    rw [e,<-hx];cases v with
    | c y=>exact this
    | ag m=>exact this
    | tp m=>exact .any _
 match l,hl,tp with
 | [],hl,tp=>
  have:cs=[]:=Ak hl;subst this;exact ⟨tp.1,tp.2⟩
 | [v],hl,tp=>
  match cs,hl with
  | [c],_=>exact ⟨ok v (Af.2 rfl),by simpa [Jla] using g 0 _ rfl⟩
 | u::v::m,hl,tp=>
  have f:¬cs.toArray.size=1:=by simp at hl ⊢;omega
  rw [dif_neg f];exact tp
theorem Jkn{s:Dn.S Ty.T}(hs:RepS nt w S (enc s) μ a)(m:Inv s){fn:Func}{rs:List RV}{α:Type}{r:α}{k:List (V Ty.T)->Option α}(o:mapL (Jlz P) fn.results.toList=some rs)(g:resD val s rs k=some r) :
  ∃l cv,(results fn a.tmps).run P w=.ok cv w/\okV s (Jla l)/\Rep w S (encH s) μ (encV s (Jla l)) cv/\k l=some r:=by
 obtain ⟨l,E,B,a3⟩:=Jjl m g;obtain ⟨cs,A,y,v⟩:=Jyw hs o E;obtain ⟨f,d⟩:=Jw3 (w:=w) (S:=S) (μ:=μ) s l B (by simpa using y) v;refine ⟨l,_,?_,f,d,a3⟩;have e:results fn a.tmps=(do let vs <-fn.results.mapM (Jq7 a);pure (if h:vs.size=1 then vs[0] else .tuple vs)):=by
  unfold results
  congr 2
 rw [e,Array.mapM_eq_mapM_toList];simp only [Sem.run_bind,Sem.run_map,A,Result.andThen_ok,Sem.run_pure]
end
def Jl9(P:Program)(cx:Cx):Prop:=∀f lf,cx.code f=some lf->Jyf P f=some lf
theorem Jg7:∀ {vs:List (V Ty.T)} {j d:Nat},look d (Jgo j vs)=if j<=d then vs[d - j]? else none
 | [],j,d=>by simp [Jgo,look]
 | v::r,j,d=>by
  simp only [Jgo];rw [J0,Jg7];by_cases e:j=d
  ·subst e;simp
  ·rw [if_neg e];by_cases a:j<=d
   ·rw [if_pos (by omega),if_pos a,show d - j=(d - (j+1))+1 by omega,Bm]
   ·rw [if_neg (by omega),if_neg a]
theorem Jim:∀ {vs:List (V Ty.T)} {j:Nat} {p:Nat×V Ty.T},p∈Jgo j vs->p.2∈vs
 | [],j,p,h=>by cases h
 | v::r,j,p,h=>by
  rcases Ag.1 h with rfl|h
  ·exact Ac
  ·exact Ab _ (Jim h)
structure Beh (D:Nat) (w w':World):Prop where
 os:w'.os=w.os
 tape:w'.tape=w.tape
 output:w'.output=w.output
 drawn:w'.drawn=w.drawn
 size:w'.heap.size=w.heap.size
 low:∀b,b<D->w'.heap[b]?=w.heap[b]?
 cells:∀(b:Nat) (cs:Array Value) (el:TypeId) (z:Nat×Nat),w.heap[b]?=some (.cells cs el z)->w'.heap[b]?=some (.cells cs el z)
theorem Beh.refl(D:Nat)(w:World):Beh D w w:=⟨rfl,rfl,rfl,rfl,rfl,λ_ _=>rfl,λ_ _ _ _ h=>h⟩
theorem Beh.trans{D:Nat}{a b c:World}(h:Beh D a b)(k:Beh D b c):Beh D a c:=
 ⟨k.os.trans h.os,k.tape.trans h.tape,k.output.trans h.output,k.drawn.trans h.drawn,k.size.trans h.size,λb d=>(k.low b d).trans (h.low b d),λb cs el z e=>k.cells b cs el z (h.cells b cs el z e)⟩
theorem evo_beh{w w' a:World}{S S':Nat->Prop}{h h':Heap}{μ μ':Gh}(ev:Evo w S h μ w' S' h' μ')(b:Beh w.heap.size w' a):Evo w S h μ a S' h' μ':=
 ⟨b.os.trans ev.os,b.tape.trans ev.tape,⟨b.output.trans ev.output.1,by rw [b.drawn];exact ev.output.2⟩,by rw [b.size];exact ev.size,λk d e=>(b.low k d).trans (ev.keep k d e),λk cs el z f=>by obtain ⟨cs',l,g⟩:=ev.shape k cs el z f;exact ⟨cs',b.cells _ _ _ _ l,g⟩,ev.st,ev.st2,ev.ow,ev.lp⟩
section
variable {P:Program} {nt:Nat} {S:Nat->Prop} {s:Dn.S Ty.T} {μ:Gh} {f:Fm} {fs:List Fm} {tmps:Array Value}
theorem Jcy{fn:Func}{R:Ending->World->Prop}:∀(ds:List Deferred) {w:World},RepF nt w S s μ { tmps:=tmps,defers:=ds } (f::fs) ->
  (∀A,RepF nt A S s μ { tmps:=tmps,defers:=[] } (f::fs)->Beh f.d w A->LeavesIn (Fr none) 0 P fn tmps R [] .returning A)->LeavesInM (Fr none) 0 P fn tmps R ds .returning w
 | [],w,h,hR=>hR w h (.refl _ _)
 | d::ds,w,h,hR=>by
  obtain ⟨r,e,m,hs⟩:=h.fr.df.2 d Ac;obtain ⟨q,y,hq⟩:=h.md.1 d Ac;have H:q=r:=by rw [e] at y;injection y with y;injection y with y;exact y.symm
  subst H;have B:=Bn.1 h.fr.df.1;have a:∀g ob,encH s g=some ob->ob.live=true->μ.b g≠q:=by
   rintro g ob Z hl rfl;have:=h.fr.hp.ob g ob Z;cases ob with
   | box v cells=>obtain ⟨cs,el,x,_⟩:=this;rw [m] at x;cases x
   | arr v e t cells z=>obtain ⟨cs,x,_⟩:=this (Ki.1 hl);rw [m] at x;cases x
   | map v es z=>obtain ⟨es',clock,x,_⟩:=this;rw [m] at x;cases x
  have mput:∀ {l:List Deferred},(({ target:=.collected q,args:=#[] }:Deferred)∉l)->Marks w S l->Marks (w.putObj q (.deferred none)) S l:=λ{l} hn M=>⟨M.1,λx hx=>by obtain ⟨b,N,E,K⟩:=M.2 x hx;refine ⟨b,N,(Q4 λe3=>hn ?_).trans E,K⟩;rw [<-e3,<-N];exact hx⟩
  have L:RepF nt (w.putObj q (.deferred none)) S s μ { tmps:=tmps,defers:=ds } (f::fs):=by
   refine ⟨⟨λd=>Je3 hs a (h.fr.fr d),Jtl hs a h.fr.hp,mput (e▸B.1) ⟨B.2,λx hx=>h.fr.df.2 x (Ab _ hx)⟩,h.fr.sz⟩,h.len,λi X b h1 L d v Y=>Je3 hs a (h.lo i X b h1 L d v Y),
    λp o=>⟨mput (λx=>?_) (h.sz p o).1,(h.sz p o).2.1,by simpa using (h.sz p o).2.2⟩,⟨λd hd=>h.md.1 d (Ab _ hd),h.md.2⟩,λp o j r hj=>?_,h.iv⟩
   ·have:=h.md.lt p o q x;omega
   ·obtain ⟨F,Q,O⟩:=h.lp p o j r hj;exact ⟨(Q4 λe=>by rw [e,m] at F;cases F).trans F,Q,O⟩
  have b1:Beh f.d w (w.putObj q (.deferred none)):=⟨rfl,rfl,rfl,rfl,by simp,λb E=>Q4 (by omega),λb cs el z J=>(Q4 λe=>by rw [e,m] at J;cases J).trans J⟩;refine ⟨(by intro h;cases h),.inl ⟨q,w.putObj q (.deferred none),by rw [e],run_takeDeferred m,Jcy ds L λA G E=>hR A G (b1.trans E)⟩⟩
end
section
variable {P:Program} {call:Vv.Call} {cx:Cx} {mk:Cx->Inl}
theorem body_fn(hC:Yg call cx.ct)(A:jg P call)(hm:P.follows .mixedOrders=true)(X:SoOK P cx)(hcd:Jl9 P cx)(hI:∀hs,Jnf P hs (mk { cx with hs:=hs,rd:=false }))(hrd:cx.rd=false)
  {α:Type} {f:FuncId} {base:Nat} {vs:List (V Ty.T)} {s:S Ty.T} {k:V Ty.T->S Ty.T->Option α} {r:α} (G:Bg yB f=false) (hd:Jof mk cx val f base vs s k=some r) :
  FnOK P f/\∀ {n0:Nat} {w:World} {S:Nat->Prop} {μ:Gh} {a0:Act} {fr:Fm} {fs:List Fm} {cargs:Array Value},RepF n0 w S s μ a0 (fr::fs)->HsOK P cx.hs (fr::fs)->FsOK (fr::fs)->(∀v∈vs,okV s v)->cargs.size=vs.length ->
   (∀(i:Nat) (x:V Ty.T),vs[i]?=some x->Rep w S (encH s) μ (encV s x) (cargs.getD i undef))->∀ {R:Ending->World->Prop},fr.d=w.heap.size ->
   (∀w' S' μ' v s' cv,RepF fr.nt w' S' s' μ' fr.act fs->okV s' v->Rep w' S' (encH s') μ' (encV s' v) cv->Evo w S (encH s) μ w' S' (encH s') μ'->k v s'=some r->R (.returned cv) w')->Calls P f cargs w R:=by
 simp only [Jof,G] at hd;cases y:cx.code f with
 | none=>rw [y] at hd;cases hd
 | some lf=>
  rw [y] at hd;simp only at hd;have h:=hcd f lf y;unfold Jyf at h;cases M:P.funcs[f]? with
  | none=>rw [M] at h;cases h
  | some fn=>
   rw [M] at h;simp only [Ai] at h;cases G:fn.body with
   | none=>rw [G] at h;cases h
   | some c=>
    rw [G] at h;simp only [Ai] at h;split at h
    ·cases h
    ·rename_i m;cases o:Y8 P fn.ntmps c with
     | none=>rw [o] at h;cases h
     | some b=>
      rw [o] at h;simp only [Ai] at h;obtain ⟨rs,Y,rfl⟩:=Qy h;split at hd
      ·rename_i hnp;refine ⟨⟨fn,M,by rw [G];rfl,by simpa using m⟩,λ{n0 w S μ a0 fr fs cargs} a hh hfs okv hsz B {R} hd0 hR=>?_⟩;have L:encH (⟨Jgo 0 vs,s.lo,s.ob,s.ln,s.mo⟩:Dn.S Ty.T)=encH s:=Zi rfl rfl;have hv:∀v,encV (⟨Jgo 0 vs,s.lo,s.ob,s.ln,s.mo⟩:Dn.S Ty.T) v=encV s v:=λv=>Jc3 rfl rfl v;have K:RepS fn.ntmps w S (enc (⟨Jgo 0 vs,s.lo,s.ob,s.ln,s.mo⟩:Dn.S Ty.T)) μ { tmps:=cargs++Bo (fn.ntmps - cargs.size) undef,defers:=[] }:=by
        refine ⟨λd=>?_,by show RepH w S (encH _) μ;rw [L];exact a.fr.hp,.nil,by simp;omega⟩;show Rep w S (encH _) μ (encV _ (Dn.S.at _ d)) _;rw [L];unfold Dn.S.at;simp only [Jg7,Bw,if_true,Nat.sub_zero];cases J:vs[d]? with
        | none=>exact .any _
        | some v=>
         simp only;rw [hv];have hlt:d<cargs.size:=by have:=(Av.1 J).1;omega
         have e:(cargs++Bo (fn.ntmps - cargs.size) undef).getD d undef=cargs.getD d undef:=by simp only [Ae];rw [Array.getElem?_append_left hlt]
         rw [e];exact B d v J
       have hF:RepF fn.ntmps w S (⟨Jgo 0 vs,s.lo,s.ob,s.ln,s.mo⟩:Dn.S Ty.T) μ { tmps:=cargs++Bo (fn.ntmps - cargs.size) undef,defers:=[] } (fr::fs):=
        ⟨K,a.len,λi l b hl hb' d v hd'=>by rw [L,hv];exact a.lo i l b hl hb' d v hd',a.sz,⟨λd hd=>(by cases hd),a.md.2⟩,a.lp,λp Z=>okv _ (Jim Z),a.iv.lo,a.iv.ob,a.iv.mo⟩
       refine callsIn_wide.1 (callsIn_of_wp_marks (F:=Fr none) (n:=0) M G trivial (wpIn_mono (Jtx hC A hI hm X (λ_=>rfl) hh hfs c o hF hd (Q:=bodyPostM (Fr none) 0 P fn R) λe x a' w' S' μ' s' is H r2 N=>?_) λ_ _ _ q=>q));have fin:resD val s' rs (λl=>k (Jla l) s'.pop)=some r->bodyPostM (Fr none) 0 P fn R .ret a' w':=λh3=>by
        have O:RepF fn.ntmps w' S' s' μ' { tmps:=a'.tmps,defers:=a'.defers } (fr::fs):=H;refine Jcy a'.defers O λw2 H g=>?_;obtain ⟨l,cv,q1,q2,q3,q4⟩:=Jkn (P:=P) H.fr H.iv Y h3;have Z:=H.pop;have E:s'.pop.ob=s'.ob/\s'.pop.ln=s'.ln:=by unfold Dn.S.pop;split<;>exact ⟨rfl,rfl⟩
        rw [hd0] at g;refine ⟨cv,q1,hR w2 S' μ' (Jla l) s'.pop cv Z (λc hc=>?_) ?_ ?_ q4⟩
        ·have:=q2 c hc;intro r hr;rw [E.1];exact this r hr
        ·rw [Zi E.1 E.2 (Jt9 _),Jc3 E.1 E.2];exact q3
        ·rw [Zi E.1 E.2 (Jt9 _)];rw [L] at r2;exact evo_beh r2 g
       cases e with
       | exit i=>cases N
       | normal=>cases x<;>simp only [LE.is] at is;exact fin N
       | ret=>cases x<;>simp only [LE.is] at is;exact fin N
      ·cases hd
end
theorem Jtr:∀(l:List (Nat×Value)) (T:Array Value) (d:Nat),(l.map (·.1)).Nodup->(∀p∈l,p.1<T.size) ->
  (l.foldl (λt p=>t.setIfInBounds p.1 p.2) T).size=T.size/\(l.foldl (λt p=>t.setIfInBounds p.1 p.2) T).getD d undef=(match look d l with|some v=>v|none=>T.getD d undef)
 | [],T,d,_,_=>⟨rfl,rfl⟩
 | (p,v)::l,T,d,a,hs=>by
  simp only [Ar,Bn] at a;obtain ⟨f,e⟩:=Jtr l (T.setIfInBounds p v) d a.2 (λx hx=>by simpa using hs x (Ab _ hx));simp only [List.foldl_cons];refine ⟨by rw [f];simp,?_⟩;rw [e,J0];by_cases hd:p=d
  ·subst hd;rw [if_pos rfl];have:look p l=none:=by
    cases hl:look p l with
    | none=>rfl
    | some u=>exact (a.1 (Ao.2 ⟨(p,u),Qn hl,rfl⟩)).elim
   rw [this];have:=hs (p,v) Ac;simp at this;simp [this]
  ·rw [if_neg hd];cases look d l with
   | some u=>rfl
   | none=>simp [Ae,Array.getElem?_setIfInBounds_ne hd]
theorem Jys:∀(ps:List Nat) (vs:List (V Ty.T)) (cl:List Value),ps.length=vs.length->cl.length=vs.length->∀d,(look d (psSl ps vs)=none/\look d (ps.zip cl)=none)\/∃(i:Nat) (v:V Ty.T) (cv:Value),vs[i]?=some v/\cl[i]?=some cv/\look d (psSl ps vs)=some v/\look d (ps.zip cl)=some cv
 | [],_,_,_,_,d=>.inl ⟨by simp [psSl,look],by simp [look]⟩
 | p::ps,[],_,h,_,d=>by simp at h
 | p::ps,v::vs,[],_,h,d=>by simp at h
 | p::ps,v::vs,c::cl,m,l,d=>by
  simp only [psSl,List.zip_cons_cons];rw [J0,J0];by_cases hd:p=d
  ·rw [if_pos hd,if_pos hd];exact .inr ⟨0,v,c,rfl,rfl,rfl,rfl⟩
  ·rw [if_neg hd,if_neg hd];rcases Jys ps vs cl (by simpa using m) (by simpa using l) d with h|⟨i,g,c',a,b,e,f⟩
   ·exact .inl h
   ·exact .inr ⟨i+1,g,c',by simpa using a,by simpa using b,e,f⟩
theorem Jkk{α:Type}{d:Nat}:∀ {a b:List (Nat×α)},look d (a++b)=(match look d a with|some v=>some v|none=>look d b)
 | [],b=>rfl
 | (k,v)::a,b=>by
  rw [List.cons_append,J0,J0];split
  ·rfl
  ·exact Jkk
theorem Jek{α:Type}{i j:Nat}{h:α}:∀ {l:List (Nat×α)},look i (l.filter λp=>Br p.1 j)=some h->look i l=some h/\i<j
 | [],hl=>by cases hl
 | (k,v)::l,hl=>by
  rw [List.filter_cons] at hl;split at hl
  ·rename_i a;rw [J0] at hl ⊢;split at hl
   ·rename_i e;rw [if_pos e];have a:k+1<=j:=by simpa [Br] using a
    exact ⟨hl,by omega⟩
   ·rename_i e;rw [if_neg e];exact Jek hl
  ·rename_i a;obtain ⟨f,d⟩:=Jek hl;rw [J0];refine ⟨?_,d⟩;rw [if_neg (λe=>a ?_)]
   ·exact f
   ·subst e;exact Ap d
theorem Jv8{α:Type}{x y f:α}{p q:List α}:∀ {pre:List α},x::y::p=pre++f::q->q.length<p.length->∃pre2,p=pre2++f::q
 | [],e,h=>by injection e with l d;subst d;simp at h;omega
 | [a],e,h=>by injection e with l d;injection d with d g;subst g;omega
 | a::b::pre,e,h=>by injection e with l d;injection d with d g;exact ⟨pre,g⟩
theorem Jzt{w w1 m:World}{S S1 S2:Nat->Prop}{h A v:Heap}{μ μ1 μ2:Gh}{l:Nat}{q:Loop}{X:Obj}(d:Evo w S h μ w1 S1 A μ1)(f:Evo (w1.putObj l X) S1 A μ1 m S2 v μ2)(hl:w.heap[l]?=some (.loop q)) :
  Evo w S h μ (m.putObj l (.loop q)) S2 v μ2:=by
 have sz1:w.heap.size<=w1.heap.size:=d.size;have sz2:w1.heap.size<=m.heap.size:=by simpa using f.size
 have J:=(Aa.1 hl).1;refine ⟨f.os.trans d.os,f.tape.trans d.tape,⟨f.output.1.trans d.output.1,Bt d.output.2 f.output.2⟩,by simp;omega,λb g r=>?_,λb cs el z o=>?_,λb g=>f.st b (d.st b g),λb g=>?_,λb g=>?_,f.lp.trans d.lp⟩
 ·by_cases a:b=l
  ·subst a;rw [World.putObj_heap_same (by omega),hl]
  ·rw [Q4 a,f.keep b (by simp;omega) (λH=>(d.ow b H).elim r (by omega)),Q4 a];exact d.keep b g r
 ·have a:b≠l:=λe=>by subst e;rw [hl] at o;cases o
  obtain ⟨L,G,F⟩:=d.shape b cs el z o;obtain ⟨K,E,B⟩:=f.shape b L el z ((Q4 a).trans G);exact ⟨K,(Q4 a).trans E,B.trans F⟩
 ·rcases f.st2 b g with x|x|x
  ·exact d.st2 b x
  ·exact .inr (.inl (by simp at x;omega))
  ·rcases d.ow b x with y|y
   ·exact .inr (.inr y)
   ·exact .inr (.inl y)
 ·rcases f.ow b g with x|x
  ·exact d.ow b x
  ·exact .inr (by simp at x;omega)
section
variable {P:Program} {call:Vv.Call} {cx:Cx} {mk:Cx->Inl}
theorem Jvw(hC:Yg call cx.ct)(hcall:jg P call)(hm:P.follows .mixedOrders=true)(hso:SoOK P cx)(hI:∀hs,Jnf P hs (mk { cx with hs:=hs,rd:=false }))
  {α:Type} {j base:Nat} {vs:List (V Ty.T)} {s:S Ty.T} {k:V Ty.T->S Ty.T->Option α} {r:α} (hd:Jof mk cx val (yB+j) base vs s k=some r)
  {n0:Nat} {w:World} {S:Nat->Prop} {μ:Gh} {a0:Act} {fr:Fm} {fs:List Fm} {cargs:Array Value} (m:RepF n0 w S s μ a0 (fr::fs)) (hh:HsOK P cx.hs (fr::fs)) (hfs:FsOK (fr::fs)) (okv:∀v∈vs,okV s v) (hsz:cargs.size=vs.length)
  (G:∀(i:Nat) (x:V Ty.T),vs[i]?=some x->Rep w S (encH s) μ (encV s x) (cargs.getD i undef)) {R:Ending->World->Prop}
  (hR:∀w' S' μ' v s' cv,RepF fr.nt w' S' s' μ' fr.act fs->okV s' v->Rep w' S' (encH s') μ' (encV s' v) cv->Evo w S (encH s) μ w' S' (encH s') μ'->k v s'=some r->R (.returned cv) w') (hlo:fr.lo=none) :
  ∃q,w.heap[μ.l j]?=some (.loop q)/\cargs.size=q.params.size/\RoundIn Fence.wide 0 P (μ.l j) q.fn ((q.params.zip cargs).foldl (λtmps (t,a)=>tmps.setIfInBounds t a) q.tmps) q.assign q.body w R:=by
 have K:Bg yB (yB+j)=true:=Ap (Az _ _);simp only [Jof,K,Nat.add_sub_cancel_left] at hd;cases hlk:look j cx.hs with
 | none=>rw [hlk] at hd;cases hd
 | some h=>
  obtain ⟨pre,fr2,post,q,efs,epost,elo,eready,epend,etmps,eps,eas,ebd,epn,epnd⟩:=hh j h hlk;rw [hlk] at hd;obtain ⟨sl,lo,ob,ln,mo⟩:=s
  match lo,hd,m,okv,G,hR with
  | [],hd,m,okv,G,hR=>cases hd
  | [_],hd,m,okv,G,hR=>cases hd
  | l0::c::lr,hd,m,okv,G,hR=>
   have hd:(if lr.length=j/\vs.length=h.ps.length then
    Jxf mk { cx with hs:=cx.hs.filter (λp=>Br p.1 j),rd:=true } h.base h.a h.b val ⟨psSl h.ps vs++c,l0::c::lr,ob,ln,mo⟩ λe s'=>(match e with
     | .normal=>k (.c (.kb true)) s'.pop
     | _=>val.no) else val.no)=some r:=hd
   obtain ⟨⟨hlr,hvl⟩,hd⟩:=Jmi hd;have hlen:=m.len;simp only [Ay] at hlen;obtain ⟨rfl,rfl⟩:pre=[fr]/\fs=fr2::post:=by
    have M:(fr::fs).length=pre.length+(post.length+1):=by rw [efs];simp
    simp only [Ay] at M
    match pre,efs,M with
    | [],efs,M=>simp at M;omega
    | [x],efs,M=>injection efs with e2 e3;subst e2;exact ⟨rfl,e3⟩
    | x::y::z,efs,M=>simp at M;omega
   clear efs hlen;obtain ⟨H,hlp2,hlp3⟩:=m.lp fr2 (Ab _ Ac) j q elo;have O:∀p∈post,∀i J,p.lo=some (i,J)->i≠j/\μ.l i≠μ.l j:=λp o i J E=>by
    obtain ⟨pre2,post2,e⟩:=Be o;have h1:=hfs (fr::fr2::pre2) p post2 (by rw [e];rfl) i J E;have h2:post.length=pre2.length+(post2.length+1):=by rw [e];simp
    have:i≠j:=by omega
    exact ⟨this,hlp3 p (Ab _ (Ab _ o)) i J E this⟩
   have hsz2:=m.sz fr2 (Ab _ Ac);have epl:h.ps.length=q.params.size:=by rw [<-eps];simp
   refine ⟨q,H,by omega,?_⟩;obtain ⟨aR,haR⟩:∃aR:Act,aR={ tmps:=(q.params.zip cargs).foldl (λtmps (t,a)=>tmps.setIfInBounds t a) q.tmps,defers:=[] }:=⟨_,rfl⟩;obtain ⟨fr2',F⟩:∃f:Fm,f=⟨fr2.nt,fr2.act,none,fr2.d⟩:=⟨_,rfl⟩;have X:∀d,aR.tmps.size=fr2.act.tmps.size/\aR.tmps.getD d undef=(match look d (h.ps.zip cargs.toList) with|some v=>v|none=>fr2.act.tmps.getD d undef):=λd=>by
    have M:aR.tmps=(h.ps.zip cargs.toList).foldl (λt p=>t.setIfInBounds p.1 p.2) q.tmps:=by rw [haR,<-Array.foldl_toList,Array.toList_zip,eps]
    have hmap:(h.ps.zip cargs.toList).map (·.1)=h.ps:=List.map_fst_zip (by simp;omega);have:=Jtr (h.ps.zip cargs.toList) q.tmps d (by rw [hmap];exact epnd) λp o=>by
     have:p.1∈h.ps:=by rw [<-hmap];exact Ao.2 ⟨p,o,rfl⟩
     have:=epn _ this;rw [etmps];omega
    rw [M];refine ⟨by rw [this.1,etmps],by rw [this.2,etmps]⟩
   have eo:encH (⟨psSl h.ps vs++c,l0::c::lr,ob,ln,mo⟩:Dn.S Ty.T)=encH ⟨sl,l0::c::lr,ob,ln,mo⟩:=Zi rfl rfl;have ev:∀v,encV (⟨psSl h.ps vs++c,l0::c::lr,ob,ln,mo⟩:Dn.S Ty.T) v=encV ⟨sl,l0::c::lr,ob,ln,mo⟩ v:=λv=>Jc3 rfl rfl v;have hF:RepF fr2.nt w S (⟨psSl h.ps vs++c,l0::c::lr,ob,ln,mo⟩:Dn.S Ty.T) μ aR (fr::fr2'::post):=by
    refine ⟨⟨λd=>?_,by show RepH w S (encH _) μ;rw [eo];exact m.fr.hp,by rw [haR];exact .nil,by rw [(X 0).1];exact hsz2.2.1⟩,m.len,λi l b hl K d v hv=>?_,λp o=>?_,?_,λp o i J E=>?_,λp o=>?_,m.iv.lo,m.iv.ob,m.iv.mo⟩
    ·show Rep w S (encH _) μ (encV _ (Dn.S.at _ d)) _;rw [eo,ev,(X d).2];unfold Dn.S.at;simp only [Jkk];rcases Jys h.ps vs cargs.toList hvl.symm (by simpa using hsz) d with ⟨x1,x2⟩|⟨i,v,cv,x1,x2,x3,x4⟩
     ·rw [x1,x2];simp only;cases hc:look d c with
      | none=>exact .any _
      | some v=>exact m.lo 1 c fr2 rfl rfl d v hc
     ·rw [x3,x4];have:=G i v x1;have e2:cargs.getD i undef=cv:=by rw [Bp] at x2;simp [Ae,x2]
      rw [e2] at this;exact this
    ·rw [eo,ev]
     match i,hl,K with
     | 0,hl,K=>exact m.lo 0 l b hl K d v hv
     | 1,hl,K=>
      have K:fr2'=b:=by simpa using K
      subst K;rw [F];exact m.lo 1 l fr2 hl rfl d v hv
     | i+2,hl,K=>exact m.lo (i+2) l b hl (by simpa using K) d v hv
    ·rcases Ag.1 o with rfl|o
     ·exact m.sz _ Ac
     ·rcases Ag.1 o with rfl|o
      ·rw [F];exact hsz2
      ·exact m.sz p (Ab _ (Ab _ o))
    ·obtain ⟨m1,m2,m3,m4⟩:=m.md;rw [haR,F];refine ⟨λd hd=>(by cases hd),m2,λp o=>?_,m4⟩;rcases Ag.1 o with rfl|o
     ·exact m3 fr2 Ac
     ·exact m3 p (Ab _ o)
    ·have sub:∀L∈fr::fr2'::post,∀i J,L.lo=some (i,J)->L∈post:=λL A i J E=>by
      rcases Ag.1 A with rfl|A
      ·rw [hlo] at E;cases E
      ·rcases Ag.1 A with rfl|A
       ·rw [F] at E;cases E
       ·exact A
     have hp0:=sub p o i J E;obtain ⟨x1,x2,x3⟩:=m.lp p (Ab _ (Ab _ hp0)) i J E;exact ⟨x1,x2,λL A Z q'' B N=>x3 L (Ab _ (Ab _ (sub L A Z q'' B))) Z q'' B N⟩
    ·rcases Ba.1 o with o|o
     ·have:∀(ps:List Nat) (vs:List (V Ty.T)) (p:Nat×V Ty.T),p∈psSl ps vs->p.2∈vs:=by
       intro ps
       induction ps with
       | nil=>intro vs p o;cases o
       | cons a ps ih=>
        intro vs p o;cases vs with
        | nil=>cases o
        | cons v vs=>
         rcases Ag.1 o with rfl|o
         ·exact Ac
         ·exact Ab _ (ih vs p o)
      exact okv _ (this _ _ _ o)
     ·exact m.iv.lo c (Ab _ Ac) p o
   have hfs':FsOK (fr::fr2'::post):=by
    have h1:FsOK post:=hfs.tail.tail;have h2:FsOK (fr2'::post):=by rw [F];exact h1.push (by intro j r h;cases h)
    obtain ⟨nt,a,lo,d⟩:=fr;exact h2.push (by intro j r h;rw [show lo=none from hlo] at h;cases h)
   have hh':HsOK P (cx.hs.filter λp=>Br p.1 j) (fr::fr2'::post):=λi h' E=>by obtain ⟨hi1,hi2⟩:=Jek E;obtain ⟨pre,f',post',J,M,e2,rest⟩:=hh i h' hi1;obtain ⟨pre2,e3⟩:=Jv8 M (by omega);exact ⟨fr::fr2'::pre2,f',post',J,by rw [e3];rfl,e2,rest⟩
   unfold Jxf at hd;have hfrl:∀ {μ1:Gh},μ1.l=μ.l->∀p∈fr::fr2'::post,∀i J,p.lo=some (i,J)->μ1.l i≠μ.l j:=λe p o i J E=>by
    rw [e];rcases Ag.1 o with rfl|o
    ·rw [hlo] at E;cases E
    ·rcases Ag.1 o with rfl|o
     ·rw [F] at E;cases E
     ·exact (O p o i J E).2
   have run:=@Jtx P fr2.nt call h.base { cx with hs:=cx.hs.filter (λp=>Br p.1 j),rd:=true } mk (fr::fr2'::post) (some (μ.l j)) hC hcall (λhs=>hI hs) hm hso (λq=>by cases q) hh' hfs'
   suffices goal:q.assign.wpIn (Fr (some (μ.l j))) 0 P (Exit.then (λa₁ w₁=>∃w₂,(Instr.beginRound (μ.l j)).run P w₁=.ok () w₂/\q.body.wpIn (Fr (some (μ.l j))) 0 P (roundPost P (μ.l j) R) a₁ w₂) (λ_ _ _=>False)) aR w by rw [haR] at goal;exact roundIn_of_wpIn trivial goal
   refine run q.assign eas hF hd λe x a1 w1 S1 μ1 s1 is r1 r2 r3=>?_
   ·cases e with
    | exit i=>cases r3
    | ret=>cases r3
    | normal=>
     cases x<;>simp only [LE.is] at is;simp only [Exit.then];rw [eo] at r2;have hno:=m.fr.hp.no_own H (by intros;simp) (by intros;simp);have hl1:w1.heap[μ.l j]?=some (.loop q):=(r2.keep _ (Aa.1 H).1 hno).trans H;have hS1:¬S1 (μ.l j):=λx=>by
      rcases r2.st2 _ x with y|y|y
      ·exact hlp2 y
      ·have:=(Aa.1 H).1;omega
      ·exact hno y
     refine ⟨_,run_beginRound hl1 eready,?_⟩;have rb:=r1.putL hl1 hS1 (hfrl r2.lp) (.loop { q with state:=.busy });have Y:(w1.putObj (μ.l j) (.loop { q with state:=.busy })).heap[μ.l j]?=some (.loop { q with state:=.busy }):=World.putObj_heap_same (Aa.1 hl1).1;refine run q.body ebd rb r3 (Q:=roundPost P (μ.l j) R) λe2 x2 a2 w2 S2 μ2 s2 is2 q1 q2 q3=>?_;cases e2 with
     | exit i=>cases q3
     | ret=>cases q3
     | normal=>
      cases x2<;>simp only [LE.is] at is2;have hno2:=rb.fr.hp.no_own Y (by intros;simp) (by intros;simp);have hl2:w2.heap[μ.l j]?=some (.loop { q with state:=.busy }):=(q2.keep _ (Aa.1 Y).1 hno2).trans Y;have hS2:¬S2 (μ.l j):=λx=>by
       rcases q2.st2 _ x with y|y|y
       ·exact hS1 y
       ·have:=(Aa.1 Y).1;omega
       ·exact hno2 y
      have eq:({ ({ q with state:=.busy }:Loop) with state:=if (none:Option Code).isNone then .ready else .done,pending:=none }:Loop)=q:=by obtain ⟨a,b,c,d,e,f,g,i⟩:=q;simp only at eready epend;subst eready;subst epend;rfl
      have hend:=run_endRound (P:=P) none hl2;rw [eq] at hend;refine ⟨_,_,hend,?_⟩;have elp:μ2.l=μ.l:=q2.lp.trans r2.lp;have rc:=q1.putL hl2 hS2 (hfrl elp) (.loop q);have M:s2.pop.ob=s2.ob/\s2.pop.ln=s2.ln:=by unfold Dn.S.pop;split<;>exact ⟨rfl,rfl⟩
      have hl3:(w2.putObj (μ.l j) (.loop q)).heap[μ2.l j]?=some (.loop q):=by rw [elp];exact World.putObj_heap_same (Aa.1 hl2).1
      have rp:RepF fr.nt (w2.putObj (μ.l j) (.loop q)) S2 s2.pop μ2 fr.act (fr2'::post):=by obtain ⟨nt,a,lo,d⟩:=fr;exact rc.pop
      have rp2:RepF fr.nt (w2.putObj (μ.l j) (.loop q)) S2 s2.pop μ2 fr.act (fr2::post):=by
       rw [F] at rp;refine ⟨rp.fr,rp.len,λi l b hl K d v hv=>?_,λp o=>?_,⟨rp.md.1,rp.md.2.1,rp.md.2.2.1,rp.md.2.2.2⟩,λp o i J E=>?_,rp.iv⟩
       ·match i,hl,K with
        | 0,hl,K=>
         have K:fr2=b:=by simpa using K
         subst K;exact rp.lo 0 l _ hl rfl d v hv
        | i+1,hl,K=>exact rp.lo (i+1) l b hl (by simpa using K) d v hv
       ·rcases Ag.1 o with rfl|o
        ·exact rp.sz (⟨p.nt,p.act,none,p.d⟩:Fm) Ac
        ·exact rp.sz p (Ab _ o)
       ·have dist:∀L∈fr2::post,∀Z q'',L.lo=some (Z,q'')->L=fr2\/L∈post:=λL A _ _ _=>by
         rcases Ag.1 A with h|h
         ·exact .inl h
         ·exact .inr h
        rcases Ag.1 o with rfl|hpp
        ·rw [elo] at E;injection E with E;injection E with h1 h2;subst h1;subst h2;refine ⟨hl3,by rw [elp];exact hS2,λL A Z q'' B N=>?_⟩;rcases Ag.1 A with rfl|A
         ·rw [elo] at B;injection B with B;injection B with h1 h2;exact (N h1.symm).elim
         ·rw [elp];exact (O L A Z q'' B).2
        ·obtain ⟨x1,x2,x3⟩:=rp.lp p (Ab _ hpp) i J E;refine ⟨x1,x2,λL A Z q'' B N=>?_⟩;rcases Ag.1 A with rfl|A
         ·rw [elo] at B;injection B with B;injection B with h1 h2;subst h1;rw [elp];exact (O p hpp i J E).2.symm
         ·exact x3 L (Ab _ A) Z q'' B N
      refine hR _ S2 μ2 (.c (.kb true)) s2.pop (.bool true) rp2 (Qi (Jo _ rfl)) (.pure (.bool true)) ?_ q3;rw [Zi M.1 M.2 (Jt9 _)];exact Jzt r2 q2 H
end
structure Jln (P:Program) (f:FuncId) (B:Bi):Prop where
 lt:Bg yB f=false
 fn:FnOK P f
 run:∀ {α:Type} {base:Nat} {vs:List (V Ty.T)} {s:S Ty.T} {k:V Ty.T->S Ty.T->Option α} {r:α},B.run val f base vs s k=some r ->
  ∀ {n0:Nat} {w:World} {S:Nat->Prop} {μ:Gh} {a0:Act} {fr:Fm} {fs:List Fm} {cargs:Array Value},RepF n0 w S s μ a0 (fr::fs)->(∀v∈vs,okV s v)->cargs.size=vs.length ->
   (∀(i:Nat) (x:V Ty.T),vs[i]?=some x->Rep w S (encH s) μ (encV s x) (cargs.getD i undef))->∀ {R:Ending->World->Prop},
   (∀w' S' μ' v s' cv,RepF fr.nt w' S' s' μ' fr.act fs->okV s' v->Rep w' S' (encH s') μ' (encV s' v) cv->Evo w S (encH s) μ w' S' (encH s') μ'->k v s'=some r->R (.returned cv) w')->Calls P f cargs w R
def BiOK(P:Program)(cx:Cx):Prop:=∀f B,cx.bi f=some B->Jln P f B
section
variable {P:Program} {call:Vv.Call}
theorem Jyn(m:jg P call)(L:P.follows .mixedOrders=true)(n:Nat):∀ {cx:Cx} (hC:Yg call cx.ct) (o:SoOK P cx) (E:BiOK P cx) (A:Jl9 P cx) (F:cx.rd=false),Jnf P cx.hs (den n cx):=by
 induction n with
 | zero=>intro cx _ _ _ _ _ α f base vs s k r h;cases h
 | succ n M=>
  intro cx hC o E A F α f base vs s k r hd;have hd:(match cx.bi f with|some B=>B.run val f base vs s k|none=>Jof (den n) cx val f base vs s k)=some r:=hd;have hI:∀hs,Jnf P hs (den n { cx with hs:=hs,rd:=false }):=λhs=>M (cx:={ cx with hs:=hs,rd:=false }) hC o E A rfl;cases hB:cx.bi f with
  | some B=>
   rw [hB] at hd;have g:=E f B hB;refine ⟨λ_=>g.fn,λ{K w S μ a0 fr fs cargs} d G v okv l a {R} y hR=>⟨λ_=>g.run hd d okv l a hR,λj e=>?_⟩⟩;subst e;have:=g.lt;rw [Ap (Az _ _)] at this;cases this
  | none=>
  rw [hB] at hd;have hd:Jof (den n) cx val f base vs s k=some r:=hd;cases J:Bg yB f with
  | false=>
   obtain ⟨O,N⟩:=body_fn hC m L o A hI F J hd;refine ⟨λ_=>O,λ{K w S μ a0 fr fs cargs} d G v okv l a {R} y hR=>⟨λ_=>N d G v okv l a y hR,λj e=>?_⟩⟩;subst e;rw [Ap (Az _ _)] at J;cases J
  | true=>
   refine ⟨λq=>(by cases q),λ{K w S μ a0 fr fs cargs} d G v okv l a {R} y hR=>⟨λq=>(by cases q),λj e H=>?_⟩⟩;subst e;exact Jvw hC m L o hI hd d G v okv l a hR H
end
structure Good (P:Program) (c:Ctr):Prop where
 fn:FnOK P c.id
 ok:c.ok=true
 rk:c.rs.all rkOK=true
 run:∀x r,c.fn x=some r->∀(w:World) (S:Nat->Prop) (cargs:Array Value),(∀b,S b->b<w.heap.size)->cargs.size=(jd c.as x).length->(∀(i:Nat) (y:AV),(jd c.as x)[i]?=some y->RepP w S y (cargs.getD i undef)) ->
  Calls P c.id cargs w λe w'=>∃cv,e=.returned cv/\RepP w' (Zu S w w') (resA c.rs r) cv/\Old w w'
 fresh:c.fresh=true->∀x r,c.fn x=some r->∀(w:World) (S:Nat->Prop) (cargs:Array Value),(∀b,S b->b<w.heap.size)->cargs.size=(jd c.as x).length->(∀(i:Nat) (y:AV),(jd c.as x)[i]?=some y->RepP w S y (cargs.getD i undef)) ->
  Calls P c.id cargs w λe w'=>∃cv,e=.returned cv/\RepP w' (Zu (λ_=>False) w w') (resA c.rs r) cv/\Old w w'
def Ji8(P:Program)(Γ:FuncId->Option Ctr):Prop:=∀f c,Γ f=some c->c.id=f/\Good P c
theorem Jcm{P:Program}{Γ:FuncId->Option Ctr}(hΓ:Ji8 P Γ):jg P (Jrp Γ):=by
 refine ⟨λf vs m r h=>?_,λf vs v h' h w S cargs hS a F=>?_,λf vs v h' m p h G w S cargs hS a F=>?_⟩
 ·obtain ⟨v,h'⟩:=r;obtain ⟨c,x,r,d,-⟩:=Jdu h;obtain ⟨rfl,g⟩:=hΓ f c d;exact g.fn
 ·obtain ⟨c,x,r,d,-,e,B,rfl⟩:=Jdu h;obtain ⟨rfl,g⟩:=hΓ f c d;refine g.run x r B w S cargs hS (by rw [a,e.len]) λi y A=>?_;obtain ⟨z,o,up⟩:=e.back A;exact up.rep (F i z o)
 ·obtain ⟨c,x,r,d,-,e,B,rfl⟩:=Jdu h;obtain ⟨_,_,_,l,E,-⟩:=Jdu (m:=some m) (v:=p.1) (h':=p.2) G;rw [d] at l;injection l with l;subst l;obtain ⟨rfl,g⟩:=hΓ f c d;refine g.fresh E x r B w S cargs hS (by rw [a,e.len]) λi y A=>?_;obtain ⟨z,o,up⟩:=e.back A;exact up.rep (F i z o)
theorem Jfc{P:Program}{Γ:FuncId->Option Ctr}(hΓ:Ji8 P Γ):Yg (Jrp Γ) Γ:=call_sim λf c h=>⟨(hΓ f c h).2.ok,(hΓ f c h).2.rk⟩
def Jhs:(rs:List (Bool×Ty))->(Xq (rs.map (·.2))).T->List AV
 | [],_=>[]
 | [a],x=>[argA (rk a) x]
 | a::b::r,(x,y)=>argA (rk a) x::Jhs (b::r) y
section
variable {s:S Ty.T}
theorem Jxm(p:Bool×List (C Ty.T)):encV s (Jax p)=if p.1 then .agg (p.2.map (encC s)) else Qx (p.2.map (encC s)):=by
 obtain ⟨b,l⟩:=p;cases b with
 | true=>rfl
 | false=>
  match l with
  | []=>rfl
  | [c]=>rfl
  | _::_::_=>rfl
theorem Jf3{a:Bool×Ty}{v:V Ty.T}{α:Type}{k:(rk a).2.T->Option α}{r:α}(h:argL val s.ob (rk a) v k=some r):Jsk v=false:=by
 obtain ⟨b,t⟩:=a;cases v with
 | ag l=>rfl
 | tp l=>rfl
 | c c=>
  cases c with
  | ptr g ver off=>
   exfalso;cases b with
   | true=>simp only [argL,rk,if_true] at h;cases h
   | false=>
    simp only [argL,rk,Bool.false_eq_true,if_false,oneL] at h;obtain ⟨x,hx,-⟩:=Je h;simp [Xw,Yc] at hx
  | _=>rfl
theorem Jlk{α:Type}{r:α}:∀ {rs:List (Bool×Ty)} (d:rs.all rkOK=true) {vs:List (V Ty.T)} {k:(Xq (rs.map (·.2))).T->Option α},resGo val s.ob rs vs k=some r ->
  ∃x,k x=some r/\∃N,SnL (encH s) depth (vs.map (encV s)) (Jhs rs x) N
 | [],d,[],k,h=>⟨(),h,[],.nil⟩
 | [a],d,[v],k,h=>by
  have h:argL val s.ob (rk a) v k=some r:=h;have m:akOK (rk a)=true:=by
   simp only [Aw,Bu,Bs] at d;unfold rkOK at d;unfold rk akOK;cases o:a.1 with
   | true=>rfl
   | false=>rw [o] at d;simpa using d
  obtain ⟨x,hx,u,ns,-,l,g⟩:=Jf8 m h;obtain ⟨f,e⟩:=g (Jf3 h);exact ⟨x,hx,_,.cons f l e .nil⟩
 | a::b::rs,d,v::vs,k,h=>by
  have h:argL val s.ob (rk a) v (λx=>resGo val s.ob (b::rs) vs λy=>k (val.pr x y))=some r:=h;have w:=d;rw [Aw,Ah] at d;have m:akOK (rk a)=true:=by
   have d:=d.1;unfold rkOK at d;unfold rk akOK;cases o:a.1 with
   | true=>rfl
   | false=>rw [o] at d;simpa using d
  obtain ⟨x,hx,u,ns,-,l,g⟩:=Jf8 m h;obtain ⟨f,e⟩:=g (Jf3 h);obtain ⟨y,A,N,hN⟩:=Jlk d.2 hx;exact ⟨_,A,_,.cons f l e hN⟩
 | [],d,_::_,k,h=>by cases h
 | [a],d,[],k,h=>by cases h
 | [a],d,_::_::_,k,h=>by cases h
 | a::b::rs,d,[],k,h=>by cases h
theorem Jw7{a:Bool×Ty}(d:rkOK a=true)(x:a.2.T):(if a.1 then AV.agg ((expl val a.2 x).map (encC s)) else Qx ((expl val a.2 x).map (encC s)))=argA (rk a) x:=by
 obtain ⟨b,t⟩:=a;cases b with
 | true=>simp only [if_true,rk,argA];rw [Qg]
 | false=>simp only [Bool.false_eq_true,if_false,rk,argA];rw [Qg]
theorem Jke:∀ {rs:List (Bool×Ty)} (d:rs.all rkOK=true) (x:(Xq (rs.map (·.2))).T),(Y2 val rs x).map (λp=>if p.1 then AV.agg (p.2.map (encC s)) else Qx (p.2.map (encC s)))=Jhs rs x
 | [],d,x=>rfl
 | [a],d,x=>by simp only [Aw,Bu,Bs] at d;simp only [Y2,Ar,List.map_nil,Jhs,unL];exact congrArg (λv=>[v]) (Jw7 d x)
 | a::b::rs,d,(x,y)=>by rw [Aw,Ah] at d;simp only [Y2,Ar,Jhs,unL];have e:=Jke d.2 y;exact (congrArg (λl=>_::l) e).trans (congrArg (λv=>v::Jhs (b::rs) y) (Jw7 d.1 x))
theorem resA_eq{rs:List (Bool×Ty)}(a:rs.all rkOK=true)(x:(Xq (rs.map (·.2))).T):resA rs x=(match Jhs rs x with | [v]=>v|l=>.tup l):=by
 unfold resA Jcu;have e:=Jke (s:=⟨[],[],[],[],none⟩) a x;rw [<-e];split
 ·rename_i p f;rw [f];exact Jxm p
 ·rename_i l hl;cases d:Y2 val rs x with
  | nil=>rfl
  | cons p m=>
   cases m with
   | nil=>exact (hl p d).elim
   | cons q m=>rfl
theorem Jrb:∀(rs:List (Bool×Ty)) (x:(Xq (rs.map (·.2))).T),(Jhs rs x).length=rs.length
 | [],x=>rfl
 | [a],x=>rfl
 | a::b::rs,(x,y)=>by simp only [Jhs,Ay];rw [Jrb (b::rs) y];rfl
theorem Js5(a:AK×Ty)(x:a.2.T)(h:akOK a=true):encV s (argV val a x)=argA a x:=by
 obtain ⟨k,t⟩:=a;have one:t.one=true->encV s (argV val (AK.one,t) x)=argA (AK.one,t) x:=λh=>by
  simp only [argV,argA];have:=Qg s t x;split
  ·rename_i c e;rw [e] at this;rw [<-this];rfl
  ·rename_i d;exfalso;obtain ⟨v,f⟩:=Jmc h x;have hl:=jx t x;have:(expl val t x).length=1:=by rw [hl,<-Y0 t x,f];rfl
   obtain ⟨c,e⟩:=List.length_eq_one_iff.1 this;exact d c e
 cases k with
 | one=>exact one h
 | fr=>exact one h
 | ag=>simp only [argV,argA,encV];rw [Qg]
 | rp=>simp only [argV,argA,encV,encC,Bq]
theorem Jf4:∀ {as:List (AK×Ty)} (h:as.all akOK=true) (x:(Xq (as.map (·.2))).T),(Jeh val as x).map (encV s)=jd as x
 | [],h,x=>rfl
 | [a],h,x=>by simp only [Aw,Bu,Bs] at h;simp only [Jeh,Ar,List.map_nil,jd];exact congrArg (λv=>[v]) (Js5 a x h)
 | a::b::r,h,(x,y)=>by rw [Aw,Ah] at h;simp only [Jeh,Ar,jd];rw [show (Jeh val (b::r) (val.sn (x,y))).map (encV s)=jd (b::r) y from Jf4 h.2 y];exact congrArg (λv=>v::jd (b::r) y) (Js5 a x h.1)
theorem Jxb(a:AK×Ty)(x:a.2.T):okV s (argV val a x):=by
 obtain ⟨k,t⟩:=a;have one:okV s (argV val (AK.one,t) x):=by
  simp only [argV];split
  ·rename_i c d;exact Qi (Jay s t x c (by rw [d];exact Af.2 rfl))
  ·exact Qi (Jo s rfl)
 cases k with
 | one=>exact one
 | fr=>exact one
 | ag=>exact Jay s t x
 | rp=>exact Qi (Jo s rfl)
theorem Jh6:∀ {as:List (AK×Ty)} (x:(Xq (as.map (·.2))).T),∀v∈Jeh val as x,okV s v
 | [],x,v,h=>by cases h
 | [a],x,v,h=>by have:=Af.1 h;subst this;exact Jxb a x
 | a::b::r,x,v,h=>by
  rcases Ag.1 h with rfl|h
  ·exact Jxb a _
  ·exact Jh6 _ v h
end
theorem Jgm{w:World}{S:Nat->Prop}(hS:∀b,S b->b<w.heap.size)(μ:Gh):RepH w S (λ_=>none) μ:=
 ⟨λ_ _ a=>(by cases a),λ_ _ _ _ a=>(by cases a),λ_ _ a=>(by cases a),hS⟩
theorem Jyc{rs:List (Bool×Ty)}(F:rs.all rkOK=true){w':World}{S':Nat->Prop}{s':Dn.S Ty.T}{μ':Gh}(B:RepH w' S' (encH s') μ'){T:Nat->Prop}(hS':∀b,S' b->T b)(hT:∀b,Own (encH s') μ' b->T b){v:V Ty.T}{cv:Value}
  (M:Rep w' S' (encH s') μ' (encV s' v) cv) {r:(Xq (rs.map (·.2))).T} (L:resL val s'.ob rs v some=some r):RepP w' T (resA rs r) cv:=by
 have met:∀ {k:Nat} {v u:AV} {ns:List Nat},snap (encH s') k v=some (u,ns)->Met T (encH s') μ' ns:=λP g hg Z w H=>by
  obtain ⟨o2,h,hfz⟩:=jv _ P g hg;rw [w] at h;injection h with h;subst h;cases f:Z.fz with
  | true=>
   have G:=B.ob g _ w;cases Z with
   | box v c=>cases f
   | arr v e t c z=>obtain ⟨_,_,_,_,R⟩:=G (Ki.1 H);exact hS' _ (R f)
   | map v es z=>obtain ⟨_,_,_,_,R,_⟩:=G;exact hS' _ (R f)
  | false=>exact hT _ ⟨g,_,w,f,H,rfl⟩
 have piece:∀ {v:AV} {y:AV} {cv:Value},(∃u ns,snap (encH s') depth v=some (u,ns)/\Up u y)->Rep w' S' (encH s') μ' v cv->RepP w' T y cv:=λ⟨u,ns,E,K⟩ X=>K.rep (jk B hS' depth E X (met E));unfold resL at L;obtain ⟨y,O,N,ps,hN,o,-⟩:=Jlk F L;injection O with O;subst O;obtain ⟨m1,m2⟩:=za hN;have item:∀(i:Nat) (u:V Ty.T) (z:AV),(Jra rs v)[i]?=some u->(Jhs rs y)[i]?=some z->∃Y ns,snap (encH s') depth (encV s' u)=some (Y,ns)/\Up Y z:=λi u z hu hz=>by obtain ⟨p,p1,p2⟩:=m2 i (encV s' u) (by rw [Ad,hu];rfl);exact ⟨p.1,p.2,p2,o.at' i p.1 z (by rw [Ad,p1];rfl) hz⟩
 have m:=Jrb rs y;have d:(Jra rs v).length=(Jhs rs y).length:=by have:=o.len;simp only [Bb] at this m1;omega
 rw [resA_eq F];generalize hA:Jhs rs y=A at item m d;clear o hN m1 m2 L
 match rs,A,m with
 | [a],[z],_=>
  exact piece (item 0 v z rfl rfl) M
 | [],[],_=>
  cases v with
  | tp l=>
   have:l=[]:=Ak (by simpa [Jra] using d);subst this;obtain ⟨cs,e,E,K⟩:=M.tup_inv;subst e;exact .tup [] cs E λi x J=>by simp at J
  | _=>simp [Jra] at d
 | a::b::rs,z1::z2::zs,hl=>
  cases v with
  | tp l=>
   have X:Rep w' S' (encH s') μ' (.tup (l.map λp=>if p.1 then .agg (p.2.map (encC s')) else Qx (p.2.map (encC s')))) cv:=M;obtain ⟨cs,e,E,K⟩:=X.tup_inv;subst e;have Q:l.length=(z1::z2::zs).length:=by simpa [Jra] using d
   refine .tup _ cs (by rw [<-Q];simpa using E) λi z J=>?_;cases B:l[i]? with
   | none=>
    have:=(Av.1 J).1;rw [Bf] at B;omega
   | some p=>
    refine piece (item i (Jax p) z (by show (l.map Jax)[i]?=_;rw [Ad,B];rfl) J) ?_;rw [Jxm];exact K i _ (by rw [Ad,B];rfl)
  | c x=>simp [Jra] at d
  | ag l=>simp [Jra] at d
theorem good_of{P:Program}{cx:Cx}{Γ:FuncId->Option Ctr}(hct:cx.ct=Γ)(hΓ:Ji8 P Γ)(Z:P.follows .mixedOrders=true)(R:SoOK P cx)(M:BiOK P cx)(hcd:Jl9 P cx)(K:cx.hs=[])(X:cx.rd=false){c:Ctr}{n:Nat}(J:c.ok=true)(G:c.rs.all rkOK=true)(hfn:FnOK P c.id)(Y:c.fresh=false)
  (hf:∀x r,c.fn x=some r->fnD val cx n c.id c.as c.rs x=some r):Good P c:=by
 subst hct;refine ⟨hfn,J,G,λx r hr w S cargs hS Q ha=>?_,λq=>by rw [Y] at q;cases q⟩;have hd:=hf x r hr;unfold fnD at hd;obtain ⟨-,hcl⟩:=Jyn (Jcm hΓ) Z n (Jfc hΓ) R M hcd X hd;have hs0:encH (⟨[],[[]],[],[],none⟩:Dn.S Ty.T)=λ_=>none:=rfl;have H:RepF 0 w S (⟨[],[[]],[],[],none⟩:Dn.S Ty.T) ⟨λ_=>0,λ_=>0,λ_=>0⟩ act0 [⟨0,act0,none,w.heap.size⟩]:=
  ⟨rep0 (Jgm hS _),rfl,λi l b hl y d v O=>by
   cases i with
   | zero=>simp at hl;subst hl;cases O
   | succ i=>simp at hl,λp a=>(by have:=Af.1 a;subst this;exact ⟨.nil,Bw _,Aj _⟩),⟨λd hd=>(by cases hd),λq hq=>(by cases hq),λp a=>(by cases a),trivial⟩,λp a j r hj=>(by have:=Af.1 a;subst this;cases hj),λp a=>(by cases a),λl hl p a=>(by have:=Af.1 hl;subst this;cases a),λg o E=>(by cases E),λm Z=>(by cases Z)⟩
 have enc:=Jf4 (s:=⟨[],[[]],[],[],none⟩) J x;have L:Bg yB c.id=false:=by
  cases y:Bg yB c.id with
  | false=>rfl
  | true=>
   exfalso;cases n with
   | zero=>cases hd
   | succ n=>
    have hd:(match cx.bi c.id with|some B=>B.run val c.id 0 (Jeh val c.as x) ⟨[],[[]],[],[],none⟩ (λv s=>resL val s.ob c.rs v some)|none=>Jof (den n) cx val c.id 0 (Jeh val c.as x) ⟨[],[[]],[],[],none⟩ (λv s=>resL val s.ob c.rs v some))=some r:=hd;cases hB:cx.bi c.id with
    | some B=>rw [(M _ B hB).lt] at y;cases y
    | none=>
     rw [hB] at hd;simp only [Jof,y,K] at hd;cases hd
 refine (hcl H (by rw [K];intro j h hl;cases hl) (by
  intro pre f post e j q hj;cases pre with
  | nil=>injection e with e1 e2;subst e1;cases hj
  | cons p pre=>injection e with e1 e2;simp at e2) (Jh6 x) (by rw [Q,<-enc];simp) (λi v O=>?_) rfl λw' S' μ' v s' cv N r2 r3 F r5=>?_).1 L
 ·refine .pure (ha i _ ?_);rw [<-enc,Ad,O];rfl
 ·refine ⟨cv,rfl,?_,?_⟩
  ·have noOwn:∀b,¬Own (λ_=>none) (⟨λ_=>0,λ_=>0,λ_=>0⟩:Gh) b:=λb ⟨g,o,E,_⟩=>by cases E
   have hS':∀b,S' b->Zu S w w' b:=λb y=>by
    rcases F.st2 b y with A|A|A
    ·exact .inl A
    ·exact .inr ⟨A,N.fr.hp.lt b y⟩
    ·exact (noOwn b A).elim
   exact Jyc G N.fr.hp hS' (λb E=>(F.ow b E).elim (λA=>(noOwn _ A).elim) λA=>.inr ⟨A,by obtain ⟨g,o1,hg1,hz1,hl1,rfl⟩:=E;exact (N.fr.hp.ob g _ hg1).lt hl1⟩) r3 r5
  ·exact ⟨F.os,F.tape,F.output,F.size,λb y=>F.keep b y λ⟨g,o,E,_⟩=>by cases E⟩
structure Jsg (P:Program) (c:OCt):Prop where
 lt:Bg yB c.id=false
 fn:FnOK P c.id
 ok:c.as.all akOK=true
 pos:0<c.t.sz
 run:∀x r,c.fn x=some r->∀(w:World) (S:Nat->Prop) (cargs:Array Value),(∀b,S b->b<w.heap.size)->cargs.size=(jd c.as x).length->(∀(i:Nat) (y:AV),(jd c.as x)[i]?=some y->RepP w S y (cargs.getD i undef)) ->
  Calls P c.id cargs w λe w'=>∃cv,e=.returned cv/\Old w w'/\OwnR w w' S c.el c.t r cv
theorem Jug{P:Program}{c:OCt}(g:Jsg P c):Jln P c.id c.bi:=by
 refine ⟨g.lt,g.fn,λ{α base vs s k r} hd {n0 w S μ a0 fr fs cargs} hF okv hsz M {R} hR=>?_⟩;obtain ⟨x,hx,-,hsn⟩:=Jgk g.ok hd;simp only at hx;split at hx
 ·cases hx
 rename_i E;simp only [Bool.or_eq_true,not_or,Bool.not_eq_true] at E;obtain ⟨X,m⟩:=E;have hnone':s.has base=false:=m;have m:look base s.ob=none:=Zd hnone';have hx:Jam (c.fn x) (λl=>k (.c (.own base 0)) ((Ju s (Jbx s vs)).obj base (.row 0 c.t.sz c.el c.t l [] none false)).pop)=some r:=hx;cases f:c.fn x with
 | none=>rw [f] at hx;cases hx
 | some l=>
 rw [f] at hx;have hx:k (.c (.own base 0)) ((Ju s (Jbx s vs)).obj base (.row 0 c.t.sz c.el c.t l [] none false)).pop=some r:=hx;obtain ⟨ps,s1,s2,s3⟩:=hsn X;have hs:Jco (encH s) (vs.map (encV s))=some (ps.map (·.1),ps.flatMap (·.2)):=by simp only [Jco,s1]
 obtain ⟨f1,f2,f3⟩:=Jfn (h:=encH s) hF.fr.hp (Jcf hs);obtain ⟨h1,h2⟩:=Jey (h:=encH s) hF.fr.hp (S':=λb=>S b\/Liv (encH s) μ (ps.flatMap (·.2)) b) (λb hb=>.inl hb) hs (λg hg o ho hl=>.inr ⟨g,hg,o,ho,hl,rfl⟩);obtain ⟨t1,t2,t3⟩:=ji (Jbx s vs) hF.iv (Jp3 hF.iv okv);have efz:Jd (encH s) (ps.flatMap (·.2))=encH (Ju s (Jbx s vs)):=by rw [t3];exact Jmg s3
 rw [efz] at f1 f2 f3;have F:look base (Ju s (Jbx s vs)).ob=none:=by
  cases hq2:look base (Ju s (Jbx s vs)).ob with
  | none=>rfl
  | some o=>
   have:=Jf hq2;rw [t3] at this;unfold Jd at this;rw [Jcv hnone'] at this;split at this<;>cases this
 have hbh:encH (Ju s (Jbx s vs)) base=none:=Jcv (by unfold Dn.S.has;rw [F,Jdj,Jl5 hnone'];rfl);refine (g.run x l f w _ cargs f1.lt (by rw [hsz,<-s2.len];simp at h1 ⊢;omega) λi y hy=>?_).mono λe w' ⟨cv,he,J,Q⟩=>?_
 ·obtain ⟨z,hz,up⟩:=s2.back hy;obtain ⟨v,L,hvr⟩:=h2 i z hz;refine up.rep (hvr _ ?_);rw [Ad] at L;cases K:vs[i]? with
  | none=>rw [K] at L;cases L
  | some u=>
   rw [K] at L;injection L with L;subst L;exact M i u K
 ·subst he;have hcl:(l.flatMap c.t.cs).length=l.length * c.t.sz:=Jj l;have B:l.flatMap c.t.cs=[]↔l=[]:=Jyq g.pos l;have key:∃(b o:Nat) (S2:Nat->Prop),RepH w' S2 (upd (encH (Ju s (Jbx s vs))) base (some (.arr 0 c.t.sz c.el (l.flatMap c.t.cs) false))) (μ.set base b o) /\
    Evo w (λb=>S b\/Liv (encH s) μ (ps.flatMap (·.2)) b) (encH (Ju s (Jbx s vs))) μ w' S2 (upd (encH (Ju s (Jbx s vs))) base (some (.arr 0 c.t.sz c.el (l.flatMap c.t.cs) false))) (μ.set base b o) /\
    EvoV (encH (Ju s (Jbx s vs))) μ (upd (encH (Ju s (Jbx s vs))) base (some (.arr 0 c.t.sz c.el (l.flatMap c.t.cs) false))) (μ.set base b o)/\ArrV w' (l.flatMap c.t.cs) b o c.t.sz 0 l.length cv:=by
   rcases Q with ⟨e,A,rfl⟩|⟨e,b,o,cap,cs,q1,rfl,q2,q3,q4,q5⟩
   ·subst e;obtain ⟨O,N,a3⟩:=adopt (S':=Zu _ w w') (g:=base) (b:=0) (k:=0) (esz:=c.t.sz) (el:=c.el) (cells:=[]) f1 J hbh (λq f=>.inl f) (λq f=>f) (λq=>(q rfl).elim) (λq=>(q rfl).elim) (λq=>(q rfl).elim);exact ⟨0,0,_,O,N,a3,λ_=>⟨rfl,rfl,A,rfl⟩,λq=>(q rfl).elim⟩
   ·have hlen:l.length * c.t.sz<=cap * c.t.sz:=Au _ q2.1;obtain ⟨O,N,a3⟩:=adopt (S':=λq=>Zu _ w w' q/\q≠b) (g:=base) (b:=b) (k:=o) (esz:=c.t.sz) (el:=c.el) (cells:=l.flatMap c.t.cs) f1 J hbh
     (λq f=>⟨.inl f,λe=>by subst e;have:=f1.lt q f;omega⟩) (λq f=>f.1) (λ_ q=>q.2 rfl) (λ_=>q1) (λ_=>⟨cs,q3,by rw [hcl];omega,q5⟩)
    refine ⟨b,o,_,O,N,a3,λq=>(e (B.1 q)).elim,λ_=>⟨⟨b,o,none⟩,cap,cs,c.el,(0,0),rfl,q2,q3,by rw [As];exact q4,λ_=>by rw [Ax,Bl]⟩⟩
  obtain ⟨b,o,S2,O,N,a3,a4⟩:=key;obtain ⟨a,G⟩:∃a,a=(Ju s (Jbx s vs)).obj base (.row 0 c.t.sz c.el c.t l [] none false):=⟨_,rfl⟩;rw [<-G] at hx;have st:Stab (Ju s (Jbx s vs)) a:=by subst G;exact X0 λo0 h0=>by rw [F] at h0;cases h0
  have H:∀g',look g' a.ob=if base=g' then some (.row 0 c.t.sz c.el c.t l [] none false) else look g' (Ju s (Jbx s vs)).ob:=λg'=>by subst G;exact Ke base g' _
  have Z:a.mo=(Ju s (Jbx s vs)).mo:=by subst G;rfl
  have hfr:moN (Ju s (Jbx s vs)).mo base=false:=by rw [Jdj];exact Jl5 hnone'
  have iv:Inv a:=ju t2 st H (λc hc=>by cases hc) hfr Z;have hh:=Yw t2 st H Z;have he1:Dn.encO a (.row 0 c.t.sz c.el c.t l [] none false)=.arr 0 c.t.sz c.el (l.flatMap c.t.cs) false:=by simp [Dn.encO,Qr]
  rw [he1] at hh;rw [<-hh] at O N a3;have ev:=f2.trans N;have vv:=f3.trans a3;have st2:Stab s a:=t1.trans st;have hF2:RepF n0 w' S2 a (μ.set base b o) a0 (fr::fs):=by refine hF.step rfl ⟨λd=>?_,O,hF.fr.hp.marks hF.fr.df ev,hF.fr.sz⟩ st2.on iv ev vv;rw [Jbe hF.iv st2];exact (hF.fr.fr d).evo hF.fr.hp ev vv
  have Y:=hF2.pop;have eh:encH a.pop=encH a:=by
   unfold Dn.S.pop;split
   ·exact Zi rfl rfl
   ·rfl
  have ec:encC a.pop=encC a:=by
   unfold Dn.S.pop;split
   ·exact Jmu rfl rfl
   ·rfl
  have eob:a.pop.ob=a.ob:=by unfold Dn.S.pop;split<;>rfl
  have hl0:K9 a base 0=l.length:=by simp [K9,H,Ob.ver,Ob.lenO]
  refine hR w' S2 _ (.c (.own base 0)) _ cv Y (Qi λq f=>?_) ?_ (by rw [eh];exact ev) hx
  ·have:=Af.1 f;subst this;exact ⟨_,by rw [eob,H,if_pos rfl],Aj _⟩
  ·rw [eh];show Rep w' S2 (encH a) _ (encC a.pop (.own base 0)) cv;rw [ec];simp only [encC,hl0];refine .arr base 0 0 l.length cv _ (by rw [hh,Jh]) (Aj _) ?_ λ_=>⟨c.t.sz,c.el,_,false,rfl,?_⟩
   ·by_cases e:l=[]
    ·obtain ⟨-,-,A,rfl⟩:=a4.1 (B.2 e);rfl
    ·obtain ⟨_,_,_,_,_,rfl,_⟩:=a4.2 (λq=>e (B.1 q));rfl
   ·simp only [Gh.set,Jh];exact a4
theorem Jzd{s:S Ty.T}{t:Ty}{el:TypeId}{α:Type}{v:V Ty.T}{k:List t.T->Option α}{r:α}(h:resO val s.ob t el v k=some r) :
  (v=.c (.k .nils)/\k []=some r)\/∃(g ver:Nat) (l:List t.T),v=.c (.own g ver)/\look g s.ob=some (.row ver t.sz el t l [] none false)/\0<t.sz/\k l=some r:=by
 unfold resO at h;split at h
 ·exact .inl ⟨rfl,h⟩
 ·rename_i g ver;split at h
  ·rename_i v e el' G l o;obtain ⟨⟨F,E,B,A⟩,w⟩:=Jmi h;subst F;subst E;subst A;obtain ⟨m,f,y⟩:=Je w;obtain ⟨et,d⟩:=Qh f;injection et with et;subst et;have a:m=l:=d;subst a;exact .inr ⟨g,v,m,rfl,o,B,y⟩
  ·cases h
 ·cases h
theorem own_of{P:Program}{cx:Cx}{Γ:FuncId->Option Ctr}(hct:cx.ct=Γ)(hΓ:Ji8 P Γ)(hm:P.follows .mixedOrders=true)(hso:SoOK P cx)(hbi:BiOK P cx)(hcd:Jl9 P cx)(hhs:cx.hs=[])(hrd:cx.rd=false){c:OCt}{n:Nat}(hok:c.as.all akOK=true)(M:0<c.t.sz)(hfn:FnOK P c.id)(hlt:Bg yB c.id=false)
  (hf:∀x r,c.fn x=some r->fnO val cx n c.id c.as c.t c.el x=some r):Jsg P c:=by
 subst hct;refine ⟨hlt,hfn,hok,M,λx r hr w S cargs hS hsz ha=>?_⟩;have hd:=hf x r hr;unfold fnO at hd;obtain ⟨-,hcl⟩:=Jyn (Jcm hΓ) hm n (Jfc hΓ) hso hbi hcd hrd hd;have hrep:RepF 0 w S (⟨[],[[]],[],[],none⟩:Dn.S Ty.T) ⟨λ_=>0,λ_=>0,λ_=>0⟩ act0 [⟨0,act0,none,w.heap.size⟩]:=
  ⟨rep0 (Jgm hS _),rfl,λi l b hl R d v hv=>by
   cases i with
   | zero=>simp at hl;subst hl;cases hv
   | succ i=>simp at hl,λp B=>(by have:=Af.1 B;subst this;exact ⟨.nil,Bw _,Aj _⟩),⟨λd hd=>(by cases hd),λq hq=>(by cases hq),λp B=>(by cases B),trivial⟩,λp B j r hj=>(by have:=Af.1 B;subst this;cases hj),λp B=>(by cases B),λl hl p B=>(by have:=Af.1 hl;subst this;cases B),λg o O=>(by cases O),λm hm=>(by cases hm)⟩
 have enc:=Jf4 (s:=⟨[],[[]],[],[],none⟩) hok x;refine (hcl hrep (by rw [hhs];intro j h hl;cases hl) (by
  intro pre f post e j q hj;cases pre with
  | nil=>injection e with e1 Y;subst e1;cases hj
  | cons p pre=>injection e with e1 Y;simp at Y) (Jh6 x) (by rw [hsz,<-enc];simp) (λi v hv=>?_) rfl λw' S' μ' v s' cv r1 r2 Z X r5=>?_).1 hlt
 ·refine .pure (ha i _ ?_);rw [<-enc,Ad,hv];rfl
 ·have noOwn:∀b,¬Own (λ_=>none) (⟨λ_=>0,λ_=>0,λ_=>0⟩:Gh) b:=λb ⟨g,o,O,_⟩=>by cases O
  have hS':∀b,S' b->Zu S w w' b:=λb R=>by
   rcases X.st2 b R with K|K|K
   ·exact .inl K
   ·exact .inr ⟨K,r1.fr.hp.lt b R⟩
   ·exact (noOwn b K).elim
  refine ⟨cv,rfl,⟨X.os,X.tape,X.output,X.size,λb R=>X.keep b R λ⟨g,o,O,_⟩=>by cases O⟩,?_⟩;rcases Jzd r5 with ⟨rfl,e⟩|⟨g,v,a,rfl,O,e1,Y⟩
  ·injection e with e;subst e;exact .inl ⟨rfl,none,Rep.nils_inv (h:=encH s') Z⟩
  ·injection Y with Y;subst Y
   ·
    have hg:encH s' g=some (.arr v c.t.sz c.el (a.flatMap c.t.cs) false):=by rw [Jf O];simp [Dn.encO,Qr]
    have hl0:K9 s' g v=a.length:=by simp [K9,O,Ob.ver,Ob.lenO]
    have Z:Rep w' S' (encH s') μ' (encC s' (.own g v)) cv:=Z;simp only [encC,hl0] at Z;have hcl:(a.flatMap c.t.cs).length=a.length * c.t.sz:=Jj a;have Q:a.flatMap c.t.cs=[]↔a=[]:=Jyq M a;cases Z with
    | pure B=>cases B
    | arr _ _ _ _ _ o1 H hv1 h11 hr1=>
     rw [hg] at H;injection H with H;subst H;obtain ⟨esz,el2,cells,fz,eo,hk⟩:=hr1 rfl;injection eo with eo1 eo2 eo3 eo4 eo5;subst eo2;subst eo4;by_cases F:a=[]
     ·obtain ⟨-,-,A,rfl⟩:=hk.1 (Q.2 F);exact .inl ⟨F,A,rfl⟩
     ·have E:a.flatMap c.t.cs≠[]:=λq=>F (Q.1 q);obtain ⟨A,cap,cs0,el0,z0,rfl,hcap,J,L,hA⟩:=hk.2 E;obtain ⟨cs,R,hsz1,N,-⟩:=r1.fr.hp.ob g _ hg E;rw [R] at J;injection J with J;injection J with q1 q2 q3;subst q1;have hlp:0<a.length:=List.length_pos_iff.2 F;have hA:=hA (by omega);rw [Ax,Bl] at hA;subst hA;have G:(AObj.arr v c.t.sz c.el (a.flatMap c.t.cs) false).live=true:=Ki.2 E;refine .inr ⟨F,μ'.b g,μ'.o g,cap,cs,?_,rfl,hcap,R,by rw [As] at L;exact L,λi y hy=>?_⟩
      ·rcases X.ow _ ⟨g,_,hg,rfl,G,rfl⟩ with K|K
       ·exact (noOwn _ K).elim
       ·exact K
      ·have hfl:y.flat=true:=Aq.1 (Q3 c.t a) y (Am hy);refine ⟨((N i y hy).1.flat hfl).mono (λq hq=>⟨hS' q hq,λe=>?_⟩) (λ_ _=>rfl),(N i y hy).2⟩;subst e;exact r1.fr.hp.own g _ hg rfl G hq
end Go.Dn
