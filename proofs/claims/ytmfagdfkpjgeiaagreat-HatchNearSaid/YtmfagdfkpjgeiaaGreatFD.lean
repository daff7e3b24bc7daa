/- Rows that were made elsewhere; the keys of a map in a list. Conditions: none. -/
import Derived.Test.YtmfagdfkpjgeiaaGreatFA
import Derived.Maps.RangeRun
import Derived.Scope
open Option renaming some -> AC, none -> AD
open Bool renaming true -> AE, false -> AF
open _root_ renaming List -> AG, Option -> AH, Int -> AI, Nat -> AM, if_neg -> AR, if_pos -> AS, congrArg -> AT, Bool -> AN
set_option linter.unusedVariables false
set_option linter.unusedSimpArgs false
namespace Go.Dn
open Go Go.Vv
open _root_.Array renaming getElem?_eq_some_iff -> Aa, getD_eq_getD_getElem? -> Ae, getElem?_setIfInBounds -> Bd, toList_inj -> Bl, replicate -> Bp, getElem?_toList -> Bq, ext -> By
open List renaming mem_cons_of_mem -> Ab, mem_cons_self -> Ac, getElem?_map -> Ad, mem_singleton -> Af, mem_cons -> Ag, eq_nil_of_length_eq_zero -> Ak, mem_of_getElem? -> Ao, mem_map -> Ap, all_eq_true -> Ar, map_cons -> As, getElem?_eq_some_iff -> Aw, all_cons -> Ax, length_cons -> Az, mem_append -> Bb, length_map -> Bc, mapM_cons -> Bf, append_of_mem -> Bg, getElem?_eq_none_iff -> Bh, getElem?_eq_getElem -> Bk, getElem?_cons_succ -> Bn, nodup_cons -> Bo, drop_zero -> Br, all_nil -> Bw
open Bool renaming and_eq_true -> Ah, or_eq_true_iff -> Bt, and_true -> Bu
open Nat renaming eq_of_beq_eq_true -> Ai, le_refl -> Am, ble_eq_true_of_le -> Aq, zero_add -> Au, mul_le_mul_right -> Av, zero_mul -> Ay, le_add_right -> Ba, ble -> Be, add_zero -> Bm, blt -> Bs, le_trans -> Bv, zero_le -> Bz
open Option renaming bind_some -> Aj, isSome_iff_exists -> Bj
def YF(w w':World)(S:AM->Prop)(el:TypeId)(t:Ty)(r:AG t.T)(cv:Value):Prop:=
 (r=[]/\∃A,cv=.slice A 0 0) \/
 (r≠[]/\∃(b o cap:AM) (cs:Array Value),w.heap.size<=b/\cv=.slice (AC ⟨b,o,AD⟩) r.length cap/\(r.length<=cap/\cap<=9223372036854775807)/\w'.heap[b]?=AC (.cells cs el (0,0))/\o+cap * t.sz<=cs.size /\
  ∀(i:AM) (x:AV),(r.flatMap t.cs)[i]?=AC x->AY w' (λq=>zb S w w' q/\q≠b) x (cs.getD (o+i) undef)/\(cs.getD (o+i) undef).oneCell'=AE)
section
variable {w w':World} {S S':AM->Prop} {h:Heap} {μ:Gh}
end
theorem J4j{t:Ty}(h:0<t.sz)(l:AG t.T):l.flatMap t.cs=[]↔l=[]:=by
 constructor
 .intro e;have d:=Jv l;rw [e] at d;rcases Nat.mul_eq_zero.1 d.symm with a|a
  .exact Ak a
  .omega
 .intro e;subst e;rfl
def Ci(g0:AM)(ob:AH AU):Heap:=λg=>if g=g0 then ob else AD
theorem za{g0:AM}{ob:AH AU}:Ci g0 ob g0=ob:=by simp [Ci]
theorem Qq{g0 g:AM}{ob:AH AU}{o:AU}(h:Ci g0 ob g=AC o):g=g0/\ob=AC o:=by
 unfold Ci at h;split at h
 .exact ⟨by assumption,h⟩
 .cases h
theorem bZ{g0:AM}{ob:AH AU}{x:AH AU}:upd (Ci g0 ob) g0 x=Ci g0 x:=by
 funext g;by_cases e:g=g0
 .subst e;rw [Jg,za]
 .rw [Jd _ _ _ _ e];simp [Ci,e]
def IZ(l:AG AV):Prop:=∀x∈l,∃k n,x=.int k n
theorem IZ.rep{l:AG AV}(hl:IZ l){i:AM}{x:AV}(hi:l[i]?=AC x){w:World}{S S':AM->Prop}{h:Heap}{μ:Gh}{v:Value}(hr:AX w S h μ x v){w':World}:AY w' S' x v:=by obtain ⟨k,n,rfl⟩:=hl x (Ao hi);rw [hr.BI];exact .int _ _
section
variable {P:Program} {w:World}
theorem sO(ob:Obj):Old w (w.alloc ob):=⟨rfl,rfl,⟨rfl,Am _⟩,by simp,λb a=>by first|exact heap_alloc_old w ob a|exact heap_alloc_old w ob b a⟩
theorem Jm{ro:AH AM}{P:Program}{ops:Array Oper}{Q:Exit->Act->World->Prop}{a:Act}{w w':World}{rest:AG Oper}{o:Oper}{cv:Value}(g:o.guard=AD)(f:∀c,o.op≠.defer c)(d:(execOp a.eval o).run P w=.ok (.value cv) w')
  (h:wpListIn (Fr ro) 0 P ops Q rest (a.put o.dst cv) w'):wpListIn (Fr ro) 0 P ops Q (o::rest) a w:=
 wpListIn_plain g λK hK=>bJ f (Vv.BU d (hK _ _ h))
theorem Jsy{ro:AH AM}{P:Program}{ops:Array Oper}{Q:Exit->Act->World->Prop}{a:Act}{w w':World}{rest:AG Oper}{o:Oper}(g:o.guard=AD)(f:∀c,o.op≠.defer c)(d:(execOp a.eval o).run P w=.ok .skip w')
  (h:wpListIn (Fr ro) 0 P ops Q rest (a.put o.dst undef) w'):wpListIn (Fr ro) 0 P ops Q (o::rest) a w:=
 wpListIn_plain g λK hK=>bJ f (Vv.wp_skip d (hK _ _ h))
end
theorem eU{k:Fh}{o:Op}(h:k.is o=AE):o=k.op:=by
 have nb:∀ {a b:AM},Nat.beq a b=AE->a=b:=λh=>Ai h;cases k with
 | mv x=>cases o with
  | move y=>cases y with
   | tmp y=>rw [nb h];rfl
   | _=>cases h
  | _=>cases h
 | wC x=>cases o with
  | assign y=>cases y with
   | tmp y=>rw [nb h];rfl
   | _=>cases h
  | _=>cases h
 | range t x=>cases o with
  | range u y=>cases y with
   | tmp y=>
    simp only [Fh.is,Ah] at h;rw [nb h.1,nb h.2];rfl
   | _=>cases h
  | _=>cases h
 | next x=>cases o with
  | next y b=>cases y with
   | tmp y=>
    cases b with
    | true=>cases h
    | false=>rw [nb h];rfl
   | _=>cases h
  | _=>cases h
 | ext x i=>cases o with
  | extract y j=>cases y with
   | tmp y=>
    simp only [Fh.is,Ah] at h;rw [nb h.1,nb h.2];rfl
   | _=>cases h
  | _=>cases h
 | entry x=>cases o with
  | entry y=>cases y with
   | tmp y=>rw [nb h];rfl
   | _=>cases h
  | _=>cases h
 | alloc t=>cases o with
  | alloc u=>rw [nb h];rfl
  | _=>cases h
 | store t x y=>cases o with
  | store u p q=>cases p with
   | tmp p=>cases q with
    | tmp q=>
     simp only [Fh.is,Ah] at h;rw [nb h.1.1,nb h.1.2,nb h.2];rfl
    | _=>cases h
   | _=>cases h
  | _=>cases h
 | load t x=>cases o with
  | load u y=>cases y with
   | tmp y=>
    simp only [Fh.is,Ah] at h;rw [nb h.1,nb h.2];rfl
   | _=>cases h
  | _=>cases h
 | lit t x=>cases o with
  | buildSlice u n ps=>
   simp only [Fh.is,Ah] at h;obtain ⟨⟨A,w⟩,d⟩:=h;split at d
   .rename_i y e;have:ps=#[(0,.tmp y)]:=by rw [<-Bl];exact e
    rw [nb A,nb w,nb d,this];rfl
   .cases d
  | _=>cases h
 | app t x y=>cases o with
  | call c=>
   obtain ⟨f,as,ts⟩:=c;cases f with
   | builtin b=>
    cases b with
    | append=>
     simp only [Fh.is] at h;split at h
     .rename_i l g u m E B;simp only [Ah] at h;have v:as=#[.tmp l,.tmp g]:=by rw [<-Bl];exact E
      have r:ts=#[u,m]:=by rw [<-Bl];exact B
      obtain ⟨⟨⟨G,F⟩,a3⟩,a4⟩:=h;rw [v,r,nb G,nb F,<-nb a3,<-nb a4];rfl
     .cases h
    | _=>cases h
   | _=>cases h
  | _=>cases h
theorem gu{a b:AH AM}(h:Rk a b=AE):b=a:=by
 unfold Rk at h;split at h
 .rfl
 .rw [Ai h]
 .cases h
theorem M5{p:AH AM×Fh}{l:AG (AH AM×Fh)}{os:AG Oper}(h:ZB (p::l) os=AE):∃o r,os=o::r/\o.dst=p.1/\o.op=p.2.op/\o.guard=AD/\ZB l r=AE:=by
 cases os with
 | nil=>cases h
 | cons o r=>
  simp only [ZB,Ah] at h;refine ⟨o,r,rfl,gu h.1.1.1,eU h.1.1.2,?_,h.2⟩;have:=h.1.2;split at this
  .assumption
  .cases this
theorem wS{os:AG Oper}(h:ZB [] os=AE):os=[]:=by
 cases os with
 | nil=>rfl
 | cons o r=>cases h
def CG(k:AI×AI):Value:=.agg #[.int .i64 k.1,.int .i64 k.2]
def Ij(ks:AG (AI×AI)):AG AV:=List.flatMap (α:=(Ty.p I I).T) (Ty.p I I).cs ks
def Acc(w w':World)(el:TypeId)(ks:AG (AI×AI))(cv:Value):Prop:=
 (ks=[]/\cv=.slice AD 0 0) \/
 (ks≠[]/\∃(b o cap:AM) (cs:Array Value),w.heap.size<=b/\cv=.slice (AC ⟨b,o,AD⟩) ks.length cap/\(ks.length<=cap/\cap<=9223372036854775807)/\w'.heap[b]?=AC (.cells cs el (0,0))/\o+cap * 2<=cs.size /\
  ∀(i:AM) (x:AV),(Ij ks)[i]?=AC x->∃n,x=.int .i64 n/\cs.getD (o+i) undef=.int .i64 n)
theorem Rs:∀(ks:AG (AI×AI)) (k:AI×AI),Ij (ks++[k])=Ij ks++[.int .i64 k.1,.int .i64 k.2]
 | [],k=>rfl
 | a::r,k=>AT (λl=>AV.int .i64 a.1::.int .i64 a.2::l) (Rs r k)
theorem Pv:∀(ks:AG (AI×AI)),(Ij ks).length=ks.length * 2
 | []=>rfl
 | a::r=>by have:=Pv r;show (Ij r).length+1+1=(r.length+1) * 2;omega
theorem J9b:∀ks:AG (AI×AI),IZ (Ij ks)
 | [],x,hx=>by cases hx
 | k::r,x,hx=>by
  have hx:x∈[AV.int .i64 k.1,.int .i64 k.2]++Ij r:=hx;rcases Bb.1 hx with hx|hx
  .simp at hx;rcases hx with rfl|rfl<;>exact ⟨_,_,rfl⟩
  .exact J9b r x hx
section
variable {P:Program} {w w1:World}
theorem Acc.own{el:TypeId}{ks:AG (AI×AI)}{cv:Value}{S:AM->Prop}(h:Acc w w1 el ks cv):YF w w1 S el (.p I I) ks cv:=by
 rcases h with ⟨rfl,rfl⟩|⟨a,b,o,cap,cs,r,m,l,g,f,d⟩
 .exact .inl ⟨rfl,AD,rfl⟩
 .refine .inr ⟨a,b,o,cap,cs,r,m,l,g,f,λi x hi=>?_⟩;obtain ⟨n,rfl,e⟩:=d i x hi;rw [e];exact ⟨.int _ _,rfl⟩
theorem YC{el rT:TypeId}{i:TypeInfo}{z:AG AV}(hu:P.underlying rT=AC (.slice el))(hi:P.info? el=AC i)(hz:zc P el=AC z)(hs:i.size=2){ks:AG (AI×AI)}{cv:Value}(h:Acc w w1 el ks cv)(hsz:w.heap.size<=w1.heap.size){k:AI×AI}{L:AM}
  (hL:w1.heap[L]?=AC (.cells #[.int .i64 k.1,.int .i64 k.2] el (0,0))) (hLw:w.heap.size<=L) (hdis:∀A c,cv=.slice (AC A) ks.length c->A.block≠L) (B:(ks.length+1) * i.bytes<=room/\ks.length+1<=9223372036854775807) (ty:TypeId) :
  ∃cv' d,(Builtin.append_ #[rT,rT] ty #[cv,.slice (AC ⟨L,0,AD⟩) 1 1]).run P w1=.ok cv' d/\Acc w d el (ks++[k]) cv'/\d.os=w1.os/\d.tape=w1.tape/\(d.output=w1.output/\w1.drawn<=d.drawn)/\w1.heap.size<=d.heap.size /\
   (∀q,q<w1.heap.size->(q<w.heap.size\/∀cs e z,w1.heap[q]?≠AC (.cells cs e z))->d.heap[q]?=w1.heap[q]?)/\(∀A c,cv'=.slice (AC A) (ks.length+1) c->(A.block<w1.heap.size/\∃A' c',cv=.slice (AC A') ks.length c'/\A'.block=A.block)\/w1.heap.size<=A.block):=by
 have hLlt:L<w1.heap.size:=(Aa.1 hL).1;have hy:AY w1 (λq=>q=L) (.CF 1 [.int .i64 k.1,.int .i64 k.2]) (.slice (AC ⟨L,0,AD⟩) 1 1):=by
  refine .CF 1 [.int .i64 k.1,.int .i64 k.2] ⟨L,0,AD⟩ 1 (λj=>if j=0 then .int .i64 k.1 else .int .i64 k.2) (λ_=>rfl) (Am _) (λi x hi=>?_) (λi x hi=>?_) (λi x hi=>?_)
  .match i,hi with
   | 0,_=>simp [Addr.add,World.cell?,hL]
   | 1,_=>simp [Addr.add,World.cell?,hL]
  .match i,hi with
   | 0,_=>rfl
   | 1,_=>rfl
  .match i,hi with
   | 0,hi=>injection hi with hi;subst hi;exact .int _ _
   | 1,hi=>injection hi with hi;subst hi;exact .int _ _
 have m:∀H:Heap,Cw H (.CF 1 [.int .i64 k.1,.int .i64 k.2])=AC 1/\Iq H 2 (.CF 1 [.int .i64 k.1,.int .i64 k.2])=AC [.int .i64 k.1,.int .i64 k.2]:=λH=>⟨rfl,rfl⟩;have fin:∀ {μ:Gh} {ob:AH AU} {ver:AM} {cv':Value} {d:World},(∀o,ob=AC o->o.live=AE/\o.fz=AF/\w.heap.size<=μ.b 0/\μ.b 0<w1.heap.size/\(∃cs e z,w1.heap[μ.b 0]?=AC (.cells cs e z))/\∃A' c',cv=.slice (AC A') ks.length c'/\A'.block=μ.b 0) ->
   Ran w1 (λq=>q=L) (Ci 0 ob) μ (.arr 0 ver 0 (ks.length+1)) (Ci 0 (AC (.arr ver 2 el (Ij (ks++[k])) AF))) cv' d ->
   Acc w d el (ks++[k]) cv'/\d.os=w1.os/\d.tape=w1.tape/\(d.output=w1.output/\w1.drawn<=d.drawn)/\w1.heap.size<=d.heap.size /\
   (∀q,q<w1.heap.size->(q<w.heap.size\/∀cs e z,w1.heap[q]?≠AC (.cells cs e z))->d.heap[q]?=w1.heap[q]?)/\(∀A c,cv'=.slice (AC A) (ks.length+1) c->(A.block<w1.heap.size/\∃A' c',cv=.slice (AC A') ks.length c'/\A'.block=A.block)\/w1.heap.size<=A.block):=by
  intro μ ob ver cv' d J ⟨S2,μ2,r1,r2,N,r4⟩;have y:Ij (ks++[k])≠[]:=by rw [Rs];simp
  have e0:Ci 0 (AC (AU.arr ver 2 el (Ij (ks++[k])) AF)) 0=AC (.arr ver 2 el (Ij (ks++[k])) AF):=za;obtain ⟨A,cap,cs0,el0,z0,rfl,hcap,E,Q,hA⟩:=r1.EF e0 y;obtain ⟨cs,O,hsz,X,-⟩:=r2.ob 0 _ e0 y;rw [O] at E;injection E with E;injection E with q1 q2 q3;subst q1;have hA:=hA (by omega);rw [Ay,Bm] at hA;subst hA;have F:(μ2.b 0=μ.b 0/\∃o,ob=AC o)\/w1.heap.size<=μ2.b 0:=by
   rcases N.ow _ ⟨0,_,e0,rfl,Kz.2 y,rfl⟩ with ⟨g,o,a,-,-,e⟩|q
   .obtain ⟨rfl,rfl⟩:=Qq a;exact .inl ⟨e.symm,o,rfl⟩
   .exact .inr q
  refine ⟨.inr ⟨by simp,μ2.b 0,μ2.o 0,cap,cs,?_,by simp,by simpa using hcap,O,by simpa using Q,λi x hx=>?_⟩,N.os,N.tape,N.output,N.size,λq hq Z=>N.keep q hq ?_,λA c e=>?_⟩
  .rcases F with ⟨e,o,a⟩|q
   .rw [e];exact (J o a).2.2.1
   .omega
  .have R:=(X i x hx).1;obtain ⟨kk,n,rfl⟩:=J9b _ x (Ao hx);have hk:kk=.i64:=by
    have:∀(l:AG (AI×AI)),∀x∈Ij l,∃n,x=AV.int .i64 n:=λl=>by
     induction l with
     | nil=>intro x hx;cases hx
     | cons p r ih=>
      intro x hx;have hx:x∈[AV.int .i64 p.1,.int .i64 p.2]++Ij r:=hx;rcases Bb.1 hx with hx|hx
      .simp at hx;rcases hx with rfl|rfl<;>exact ⟨_,rfl⟩
      .exact ih x hx
    obtain ⟨n',e⟩:=this _ _ (Ao hx);injection e
   subst hk;exact ⟨n,rfl,R.BI⟩
  .rintro ⟨g,o,a,hz,hl,e⟩;obtain ⟨rfl,rfl⟩:=Qq a;obtain ⟨-,-,h3,M,⟨cs,e',z,h5⟩,-⟩:=J o rfl;rw [<-e] at Z;rcases Z with Z|Z
   .omega
   .exact Z _ _ _ h5
  .injection e with e;injection e with e;subst e;rcases F with ⟨e,o,a⟩|q
   .obtain ⟨-,-,h3,M,-,A',c',h6,h7⟩:=J o a;exact .inl ⟨by rw [e];exact M,A',c',h6,by rw [h7];exact e.symm⟩
   .exact .inr q
 rcases h with ⟨rfl,rfl⟩|⟨y,b,o,cap,cs,h1,rfl,h3,M,h5,h6⟩
 .have G:BJ w1 (λq=>q=L) (Ci 0 AD) ⟨λ_=>0,λ_=>0,λ_=>0⟩:=⟨λg o a=>(by obtain ⟨-,e⟩:=Qq a;cases e),λg g' o o' a=>(by obtain ⟨-,e⟩:=Qq a;cases e),λg o a=>(by obtain ⟨-,e⟩:=Qq a;cases e),λb O=>by rw [O];exact hLlt⟩;have K:EN (Ci 0 AD) 0 i.size i.bytes el .BK (.CF 1 [.int .i64 k.1,.int .i64 k.2])=AC (.arr 0 1 0 1,Ci 0 (AC (.arr 1 2 el [.int .i64 k.1,.int .i64 k.2] AF))):=by
   rw [hs];unfold EN;rw [(m _).1,(m _).2];have h2:(1:AI) * (i.bytes:AI)<=(room:AM):=by have:=B.1;simp at this;omega
   simp only [List.cons_ne_nil,if_false,Int.toNat_one,Kh,za,bZ];rw [AS ⟨h2,by decide⟩]
  obtain ⟨cv',d,ra,v⟩:=xS (P:=P) G (t:=rT) (ty:=ty) hu hi hz (by omega) (.pure .BK) (.pure hy) K;exact ⟨cv',d,ra,fin (ob:=AD) (λo a=>by cases a) v⟩
 .have hrow:∀ {S:AM->Prop},BJ w1 S (Ci 0 (AC (.arr 1 2 el (Ij ks) AF))) ⟨λ_=>b,λ_=>o,λ_=>0⟩->True:=λ_=>trivial;have hbL:b≠L:=hdis _ _ rfl;have f:=Pv ks;have Y:Ij ks≠[]:=λq=>by rw [q] at f;simp at f;exact y (Ak (by omega))
  have G:BJ w1 (λq=>q=L) (Ci 0 (AC (.arr 1 2 el (Ij ks) AF))) ⟨λ_=>b,λ_=>o,λ_=>0⟩:=by refine ⟨λg ob a=>?_,λg g' o o' a ho' _ _ _=>by rw [(Qq a).1,(Qq ho').1],λg ob a _ _=>hbL,λb O=>by rw [O];exact hLlt⟩;obtain ⟨rfl,e⟩:=Qq a;injection e with e;subst e;intro _;refine ⟨cs,M,by rw [f];show o+ks.length * 2<=cs.size;have:=Av 2 h3.1;omega,λi x hx=>?_,λq=>by cases q⟩;obtain ⟨n,rfl,e⟩:=h6 i x hx;rw [e];exact ⟨.pure (.int _ _),rfl⟩
  have K:EN (Ci 0 (AC (.arr 1 2 el (Ij ks) AF))) 0 i.size i.bytes el (.arr 0 1 0 ks.length) (.CF 1 [.int .i64 k.1,.int .i64 k.2])=AC (.arr 0 2 0 (ks.length+1),Ci 0 (AC (.arr 2 2 el (Ij (ks++[k])) AF))):=by
   rw [hs];unfold EN;rw [(m _).1,(m _).2];simp only [za,bZ];have h2:(((ks.length:AM):AI)+1) * (i.bytes:AI)<=(room:AM):=by exact_mod_cast B.1
   refine (AS ⟨trivial,trivial,trivial,by rw [f];simp,h2,by have:=B.2;omega⟩).trans ((AR (by simp)).trans ?_);have hcut:cut (Ij ks) (0 * 2) (ks.length * 2)=Ij ks:=by simp only [cut,Ay,Br];rw [<-f,List.take_length]
   rw [hcut,Rs];rfl
  have hx:AX w1 (λq=>q=L) (Ci 0 (AC (.arr 1 2 el (Ij ks) AF))) ⟨λ_=>b,λ_=>o,λ_=>0⟩ (.arr 0 1 0 ks.length) (.slice (AC ⟨b,o,AD⟩) ks.length cap):=
   .arr 0 1 0 ks.length _ _ za (Am _) rfl λ_=>⟨2,el,_,AF,rfl,λq=>(Y q).elim,λ_=>⟨⟨b,o,AD⟩,cap,cs,el,(0,0),rfl,h3,M,by rw [Au];exact h5,λ_=>by simp⟩⟩
  obtain ⟨cv',d,ra,v⟩:=xS (P:=P) G (t:=rT) (ty:=ty) hu hi hz (by omega) hx (.pure hy) K;refine ⟨cv',d,ra,fin (ob:=AC _) (λob a=>?_) v⟩;injection a with a;subst a;exact ⟨Kz.2 Y,rfl,h1,(Aa.1 M).1,⟨_,_,_,M⟩,_,_,rfl,rfl⟩
end
def aJ:Value->AI×AI
 | .agg cs=>(match cs.toList with | [.int _ x,.int _ y]=>(x,y)|_=>(0,0))
 | _=>(0,0)
theorem J4a(k:AI×AI):aJ (CG k)=k:=rfl
theorem J5(a:Act)(d:AH AM)(v:Value):(a.put d v).tmps.size=a.tmps.size:=by cases d<;>simp [Act.put]
theorem Jt(a:Act)(d:AH AM)(v:Value):(a.put d v).defers=a.defers:=by cases d<;>rfl
theorem Kd(a:Act){d:AM}(v:Value)(h:d<a.tmps.size)(e:AM):(a.put (AC d) v).tmps.getD e undef=if e=d then v else a.tmps.getD e undef:=by
 simp only [Act.put,Ae,Bd];by_cases hd:d=e
 .subst hd;simp [h]
 .rw [AR hd,AR (λq=>hd q.symm)]
theorem Om(a:Act)(v:Value):a.put AD v=a:=rfl
theorem J5b{P:Program}{mt kT rT:TypeId}{b:AM}(h:P7 P mt kT rT=AC b):(∃x y,P.underlying mt=AC (.map x y))/\P.underlying rT=AC (.slice kT)/\∃i z zv,P.info? kT=AC i/\i.size=2/\i.bytes=b/\i.zero=AC zv/\zc P kT=AC z/\Cn P kT=AC AE:=by
 unfold P7 at h;split at h
 .rename_i x y e i r f m l;split at h
  .rename_i d;simp only [Ah] at d;obtain ⟨⟨⟨B,A⟩,w⟩,v⟩:=d;injection h with h;obtain ⟨zv,a⟩:=Bj.1 w;obtain ⟨z,g⟩:=Bj.1 v;rw [Ai B] at f;exact ⟨⟨x,y,r⟩,f,i,z,zv,m,Ai A,h,a,g,l⟩
  .cases h
 .cases h
theorem Acc.mono{w w1 d:World}{el:TypeId}{ks:AG (AI×AI)}{cv:Value}(h:Acc w w1 el ks cv)(g:∀(q:AM) cs e z,w1.heap[q]?=AC (Obj.cells cs e z)->d.heap[q]?=w1.heap[q]?):Acc w d el ks cv:=by
 rcases h with h|⟨a,b,o,cap,cs,y,v,r,f,m,l⟩
 .exact .inl h
 .exact .inr ⟨a,b,o,cap,cs,y,v,r,(g _ _ _ _ f).trans f,m,l⟩
theorem RO(f:AM->Value)(x y:AI):Instr.fill (λi=>AC (i * 2,2)) ((Array.range (1 * 2)).map f) [(0,.agg #[.int .i64 x,.int .i64 y])]=AC #[.int .i64 x,.int .i64 y]:=by
 have:∀f:AM->Value,(((Array.range 2).map f).setIfInBounds 0 (.int .i64 x)).setIfInBounds 1 (.int .i64 y)=#[.int .i64 x,.int .i64 y]:=λf=>by
  apply By
  .simp
  .intro j d a;have a:j<2:=by simpa using a
   match j,a with
   | 0,_=>simp
   | 1,_=>simp
 simp [Instr.fill,Value.cells,this]
theorem Jvu{w:World}{r:AM}{o:Obj}(h:r<w.heap.size):(Go.ChangeMaps.setBlock w r o).heap[r]?=AC o/\∀q,q≠r->(Go.ChangeMaps.setBlock w r o).heap[q]?=w.heap[q]?:=by
 constructor
 .simp [Go.ChangeMaps.setBlock,h]
 .intro q a;simp only [Go.ChangeMaps.setBlock,Bd];rw [AR (λe=>a e.symm)]
section
variable {P:Program} {ro:AH AM}
structure rJ (a0:Act) (w0:World) (bm clock r:AM) (es:Array MapEntry) (el:TypeId) (a:Act) (w:World):Prop where
 sz:a.tmps.size=a0.tmps.size
 df:a.defers=a0.defers
 fr:∀d,d∉YN->a.tmps.getD d undef=a0.tmps.getD d undef
 it:a.tmps.getD 15 undef=.pointer (AC ⟨r,0,AD⟩)
 old:Old w0 w
 st:∃(seen:Array AM) (vis rest:AG MapEntry),w.heap[r]?=AC (.mapIter (AC bm) clock seen clock)/\seen.toList=vis.map (·.born)/\(vis++rest).Perm es.toList/\Acc w0 w el (vis.map λe=>aJ e.key) (a.tmps.getD 4 undef)
theorem J7c(w:World)(ty:TypeId)(r bm clock:AM)(seen:Array AM)(es:Array MapEntry)(vis rest:AG MapEntry)(hr:w.heap[r]?=AC (.mapIter (AC bm) clock seen clock))(v:w.heap[bm]?=AC (.map es clock))(hB:GJ es clock)(hs:seen.toList=vis.map (·.born))(m:(vis++rest).Perm es.toList) :
  (rest=[]/\(Instr.next (.pointer (AC ⟨r,0,AD⟩)) AF ty).run P w=.ok (.tuple #[.bool AF]) w) \/
  ∃e l h,rest=l++e::h/\e∈es.toList/\∃w1,(w1=w\/w1=w.drew)/\(Instr.next (.pointer (AC ⟨r,0,AD⟩)) AF ty).run P w=.ok (.tuple #[.bool AE,e.key,e.val]) (Go.ChangeMaps.setBlock w1 r (.mapIter (AC bm) clock (seen.push e.born) clock)):=by
 have g:((vis++rest).map (·.born)).Nodup:=(m.map _).nodup_iff.2 hB.2;have a:∀e,e∈(leftOf es seen).toList↔e∈es.toList/\e.born∉vis.map (·.born):=λe=>by unfold leftOf;rw [<-hs];simp
 rcases run_next_at (P:=P) w ty r bm clock clock seen es clock hr v hB.1 (Am _) with ⟨A,y⟩|⟨e,A,w1,y,G⟩
 .refine .inl ⟨?_,y⟩;have f:(leftOf es seen).toList=[]:=Ak (by simpa using A);cases rest with
  | nil=>rfl
  | cons e r=>
   exfalso;have E:e∈es.toList:=m.subset (List.mem_append_right _ Ac);have v:e.born∉vis.map (·.born):=λq=>by rw [List.map_append,As] at g;exact (List.nodup_append.1 g).2.2 _ q _ Ac rfl
   have:=(a e).2 ⟨E,v⟩;rw [f] at this;cases this
 .obtain ⟨B,F⟩:=(a e).1 A;have:e∈vis++rest:=m.symm.subset B;rcases Bb.1 this with q|q
  .exact (F (Ap.2 ⟨e,q,rfl⟩)).elim
  .obtain ⟨l,h,d⟩:=Bg q;exact .inr ⟨e,l,h,d,B,w1,y,G⟩
theorem J0z{nt:AM}{x y:Code}{lc:LC}(J:lg P nt x y=AC lc):∃i5 el by',lc=.keys i5 el by'/\24<=nt/\∀ {a:Act} {w:World} {bm clock:AM} {es:Array MapEntry},
  nt<=a.tmps.size->a.tmps.getD 3 undef=.map (AC bm)->w.heap[bm]?=AC (.map es clock)->GJ es clock->(∀e∈es.toList,e.key=CG (aJ e.key))->a.tmps.getD 4 undef=.slice AD 0 0->(es.size * by'<=room/\es.size<=9223372036854775807)->∀ {Q:Exit->Act->World->Prop},
   (∀a' w' l cv,a'.tmps.size=a.tmps.size->a'.defers=a.defers->(∀d,d∉YN->a'.tmps.getD d undef=a.tmps.getD d undef)->a'.tmps.getD 4 undef=cv->l.Perm (es.toList.map λe=>aJ e.key)->Old w w'->Acc w w' el l cv->Q .normal a' w') ->
   (Code.seq x y).wpIn (Fr ro) 0 P Q a w:=by
 unfold lg at J;split at J
 .rename_i i5 o5 n i6 o6 c n' n2 i7 o7 i8 o8;split at J
  .rename_i bts hT;split at J
   .rename_i hc;injection J with J;simp only [Ah] at hc;obtain ⟨⟨⟨⟨⟨⟨⟨c1,c2⟩,c3⟩,c4⟩,c5⟩,c6⟩,Y⟩,M⟩:=hc;have c1:c=17:=Ai c1;have c2:n=n':=Ai c2;have c4:24<=nt:=Nat.le_of_ble_eq_true c4;subst c1;subst c2;refine ⟨i5,_,bts,J.symm,c4,?_⟩;obtain ⟨⟨mx,my,hmt⟩,hu,i,z,zv,hi,hs,hby,hzv,hz,hag⟩:=J5b hT;generalize Mv o5.toList 1=mt at *
    generalize Mv o7.toList 2=kT at *
    generalize Mv o8.toList 2=rT at *
    subst hby;obtain ⟨p1,q,e5,d1,K,g1,c5⟩:=M5 c5;obtain ⟨p2,q,rfl,d2,h2,g2,c5⟩:=M5 c5;obtain rfl:=wS c5;obtain ⟨p3,q,e6,d3,h3,g3,c6⟩:=M5 c6;obtain ⟨p4,q,rfl,d4,h4,g4,c6⟩:=M5 c6;obtain rfl:=wS c6;obtain ⟨p5,q,e7,d5,h5,g5,Y⟩:=M5 Y;obtain ⟨p6,q,rfl,d6,h6,g6,Y⟩:=M5 Y;obtain ⟨p7,q,rfl,d7,h7,g7,Y⟩:=M5 Y;obtain ⟨p8,q,rfl,d8,h8,g8,Y⟩:=M5 Y;obtain rfl:=wS Y;obtain ⟨p9,q,e8,d9,h9,g9,M⟩:=M5 M;obtain ⟨p10,q,rfl,d10,h10,g10,M⟩:=M5 M;obtain ⟨p11,q,rfl,d11,h11,g11,M⟩:=M5 M;obtain ⟨p12,q,rfl,d12,h12,g12,M⟩:=M5 M;obtain ⟨p13,q,rfl,d13,h13,g13,M⟩:=M5 M;obtain rfl:=wS M;simp only at d1 K d2 h2 d3 h3 d4 h4 d5 h5 d6 h6 d7 h7 d8 h8 d9 h9 d10 h10 d11 h11 d12 h12 d13 h13;intro a w bm clock es hsz h3m hb hB hkeys h4n hfit Q hQ;have nd:∀ {o:Oper} {k:Fh},o.op=k.op->∀c,o.op≠.defer c:=λe c q=>by rw [e] at q;cases ‹Fh›<;>cases q
    have hlt:=(Aa.1 hb).1;refine wpIn_seq (wpIn_region_list ?_);rw [e5];refine Jm g1 (nd K) (cv:=.map (AC bm)) (w':=w) (by rw [<-h3m];simp only [execOp,K,Fh.op,Act.eval];rfl) ?_;rw [d1];refine Jm g2 (nd h2) (cv:=.pointer (AC ⟨w.heap.size,0,AD⟩)) (w':=w.alloc (.mapIter (AC bm) clock #[] clock)) ?_ ?_
    .have:(a.put (AC 14) (.map (AC bm))).eval (.tmp 14)=.map (AC bm):=by show (a.put (AC 14) (.map (AC bm))).tmps.getD 14 undef=_;rw [Kd _ _ (by omega),AS rfl]
     simp [execOp,h2,Fh.op,this,Instr.range,run_underlying hmt,MapKept.run_getObj_map hb,newObj,Result.andThen];rfl
    rw [d2];obtain ⟨a1,X⟩:∃a1,a1=(a.put (AC 14) (.map (AC bm))).put (AC 15) (.pointer (AC ⟨w.heap.size,0,AD⟩)):=⟨_,rfl⟩;have hsz1:a1.tmps.size=a.tmps.size:=by rw [X,J5,J5]
    have get1:∀d,a1.tmps.getD d undef=if d=15 then .pointer (AC ⟨w.heap.size,0,AD⟩) else if d=14 then .map (AC bm) else a.tmps.getD d undef:=λd=>by rw [X,Kd _ _ (by rw [J5];omega),Kd _ _ (by omega)]
    rw [<-X];refine wpListIn_nil (wpIn_block (wpIn_loop (rJ a w bm clock w.heap.size es kT) (λ_ w'=>es.size - (w'.iterSeen w.heap.size).size) ?_ ?_))
    .have hnew:(w.alloc (.mapIter (AC bm) clock #[] clock)).heap[w.heap.size]?=AC (.mapIter (AC bm) clock #[] clock):=by show (w.heap.push _)[w.heap.size]?=_;simp
     refine ⟨hsz1,by rw [X,Jt,Jt],λd hd=>?_,by rw [get1,AS rfl],sO _,#[],[],es.toList,hnew,rfl,.refl _,.inl ⟨rfl,?_⟩⟩
     .rw [get1,AR (λe=>hd (by subst e;decide)),AR (λe=>hd (by subst e;decide))]
     .rw [get1,AR (by decide),AR (by decide)];exact h4n
    intro f E ⟨s1,s2,s3,s4,s5,seen,vis,rest,s6,s7,s8,s9⟩;have hb2:E.heap[bm]?=AC (.map es clock):=(s5.keep bm hlt).trans hb;have ev15:f.eval (.tmp 15)=.pointer (AC ⟨w.heap.size,0,AD⟩):=s4;rcases J7c (P:=P) E p3.type w.heap.size bm clock seen es vis rest s6 hb2 hB s7 s8 with ⟨rfl,O⟩|⟨e,r1,r2,rfl,hem,Z,hw3,O⟩
    .-- nothing is left
     refine wpIn_seq (wpIn_region_list ?_);rw [e6];refine Jm g3 (nd h3) (cv:=.tuple #[.bool AF]) (w':=E) (by simp only [execOp,h3,Fh.op,ev15];rw [Sem.run_bind,O];rfl) ?_;rw [d3];refine Jm g4 (nd h4) (cv:=.bool AF) (w':=E) ?_ ?_
     .have:(f.put (AC 16) (.tuple #[.bool AF])).eval (.tmp 16)=.tuple #[.bool AF]:=by show (f.put (AC 16) _).tmps.getD 16 undef=_;rw [Kd _ _ (by omega),AS rfl]
      simp [execOp,h4,Fh.op,this,Instr.extract]
     rw [d4];refine wpListIn_nil (wpIn_seq (wpIn_cond_false ?_ (wpIn_exit ?_)))
     .show ((f.put (AC 16) _).put (AC 17) _).tmps.getD 17 undef=_;rw [Kd _ _ (by rw [J5];omega),AS rfl]
     .show (if n=n then Q .normal _ _ else _);rw [AS rfl];rw [List.append_nil] at s8;refine hQ _ E _ _ (by rw [J5,J5,s1]) (by rw [Jt,Jt,s2]) (λd hd=>?_) rfl (s8.map _) s5 ?_
      .rw [Kd _ _ (by rw [J5];omega),Kd _ _ (by omega),AR (λe=>hd (by subst e;decide)),AR (λe=>hd (by subst e;decide))];exact s3 d hd
      .rw [Kd _ _ (by rw [J5];omega),Kd _ _ (by omega),AR (by decide),AR (by decide)];exact s9
    .-- a key
     have G:Z.heap=E.heap/\Z.os=E.os/\Z.tape=E.tape/\Z.output=E.output/\E.drawn<=Z.drawn:=by
      rcases hw3 with rfl|rfl
      .exact ⟨rfl,rfl,rfl,rfl,Am _⟩
      .exact ⟨rfl,rfl,rfl,rfl,Nat.le_succ _⟩
     have hrlt:w.heap.size<E.heap.size:=(Aa.1 s6).1;obtain ⟨B,F⟩:∃B,B=Go.ChangeMaps.setBlock Z w.heap.size (.mapIter (AC bm) clock (seen.push e.born) clock):=⟨_,rfl⟩;rw [<-F] at O;have b4:B.heap[w.heap.size]?=AC (.mapIter (AC bm) clock (seen.push e.born) clock)/\∀q,q≠w.heap.size->B.heap[q]?=E.heap[q]?:=by have:=Jvu (w:=Z) (r:=w.heap.size) (o:=.mapIter (AC bm) clock (seen.push e.born) clock) (by rw [G.1];exact hrlt);rw [<-F] at this;exact ⟨this.1,λq H=>(this.2 q H).trans (by rw [G.1])⟩
     have z4:B.heap.size=E.heap.size:=by rw [F];simp [Go.ChangeMaps.setBlock,G.1]
     have hb4:B.heap[bm]?=AC (.map es clock):=(b4.2 bm (by omega)).trans hb2;have hke:e.key=CG (aJ e.key):=hkeys e hem;obtain ⟨kx,ky,hkk⟩:∃kx ky,aJ e.key=(kx,ky):=⟨_,_,rfl⟩;have hrep:∀ {w:World} {S:AM->Prop},AY w S (.agg [.int .i64 kx,.int .i64 ky]) e.key:=λ{w S}=>by
      rw [hke,hkk];refine .agg _ _ rfl (λi y hi=>?_) λi y hi=>?_
      .match i,hi with
       | 0,hi=>rfl
       | 1,hi=>rfl
      .match i,hi with
       | 0,hi=>injection hi with hi;subst hi;exact .int _ _
       | 1,hi=>injection hi with hi;subst hi;exact .int _ _
     have hp0:BJ B (λ_=>False) (Ci 0 AD) ⟨λ_=>0,λ_=>0,λ_=>0⟩:=⟨λg o ho=>(by obtain ⟨-,e⟩:=Qq ho;cases e),λg g' o o' ho=>(by obtain ⟨-,e⟩:=Qq ho;cases e),λg o ho=>(by obtain ⟨-,e⟩:=Qq ho;cases e),λb hb=>hb.elim⟩;obtain ⟨p,w5,ral,S5,μ5,q1,q2,q3,q4⟩:=Jpm (P:=P) hp0 hz 0;have hzl:z.length=2:=by obtain ⟨i',zv',R,hzv',hl',hn',hs'⟩:=jD hz;rw [hi] at R;injection R with R;subst R;omega
     have hsz2:FJ P kT=AC 2:=by simp [FJ,hi,hs]
     obtain ⟨m,rst,S6,μ6,-,t2,t3,t4⟩:=Jqn (P:=P) q2 hsz2 q1 (.pure hrep) (h':=upd (Ci 0 AD) 0 (AC (.box 0 [.int .i64 kx,.int .i64 ky]))) (by simp [Sl,AV.cells,Kh,Ci,upd,hzl,paste];rw [bZ,bZ,bZ,List.drop_eq_nil_of_le (by omega)])
     simp only [bZ] at q1 q2 q3 q4 t2 t3 t4;have o46:CY B (λ_=>False) (Ci 0 AD) ⟨λ_=>0,λ_=>0,λ_=>0⟩ m S6 (Ci 0 (AC (.box 0 [.int .i64 kx,.int .i64 ky]))) μ6:=q3.trans t3;have k46:∀q,q<B.heap.size->m.heap[q]?=B.heap[q]?:=λq H=>o46.keep q H λ⟨g,o,ho,_⟩=>by obtain ⟨-,e⟩:=Qq ho;cases e
     have q1':AX m S6 (Ci 0 (AC (.box 0 [.int .i64 kx,.int .i64 ky]))) μ6 (.ptr 0 0 0) p:=by have:=q1.Cz q2 t3 t4;exact this
     obtain ⟨ck,rld,q5⟩:=uJ (P:=P) t2 hag hsz2 (.inl rfl) q1' (v:=.agg [.int .i64 kx,.int .i64 ky]) (by simp [IY,JL,pack,Ci,cut]);have hck:ck=.agg #[.int .i64 kx,.int .i64 ky]:=by
      obtain ⟨cs,rfl,hl,hh⟩:=q5.CB;have e0:=(hh 0 _ rfl).1.BI;have e1:=(hh 1 _ rfl).1.BI;simp at hl
      congr 1
      apply By
      .simp [<-hl]
      .intro j K h2
       match j,K with
       | 0,K=>simpa [Ae,K] using e0
       | 1,K=>simpa [Ae,K] using e1
       | j+2,K=>omega
     have hpow:¬(1 * i.size > 2 ^ 24):=by rw [hs];decide
     have rlit:=run_buildSlice (P:=P) m rT kT 1 #[(0,.agg #[.int .i64 kx,.int .i64 ky])] #[.int .i64 kx,.int .i64 ky] i zv hu hi hzv hpow (by rw [hs];decide) (by rw [hs];exact RO _ _ _);obtain ⟨N,hw7⟩:∃N,N=m.alloc (.cells #[.int .i64 kx,.int .i64 ky] kT):=⟨_,rfl⟩;rw [<-hw7] at rlit;have o67:Old m N:=by rw [hw7];exact sO _
     have hL:N.heap[m.heap.size]?=AC (.cells #[.int .i64 kx,.int .i64 ky] kT (0,0)):=by rw [hw7];show (m.heap.push _)[m.heap.size]?=_;simp
     have k47:∀q,q<B.heap.size->N.heap[q]?=B.heap[q]?:=λq H=>(o67.keep q (Nat.lt_of_lt_of_le H o46.size)).trans (k46 q H);have acc7:Acc w N kT (vis.map λe=>aJ e.key) (f.tmps.getD 4 undef):=s9.mono λq cs e z H=>by
      have hqr:q≠w.heap.size:=λe=>by subst e;rw [s6] at H;cases H
      have hq2:=(Aa.1 H).1;rw [k47 q (by omega),b4.2 q hqr]
     have hvl:vis.length+1<=es.size:=by have:=s8.length_eq;simp at this;omega
     have hL7:m.heap.size<N.heap.size:=(Aa.1 hL).1;have z46:B.heap.size<=m.heap.size:=o46.size;obtain ⟨cv',w8,rapp,acc8,f1,f2,f3,f4,f5,-⟩:=YC (P:=P) (k:=(kx,ky)) (L:=m.heap.size) hu hi hz hs acc7 (by omega) hL (by omega) (λA c hA e=>by
      rcases s9 with ⟨q,-⟩|⟨-,b,o,cap,cs,K,h2,h3,h4,h5,h6⟩
      .rcases acc7 with ⟨-,q2⟩|⟨q2,-⟩
       .rw [q2] at hA;cases hA
       .exact q2 q
      .rw [h2] at hA;injection hA with hA;injection hA with hA;subst hA;have:=(Aa.1 h4).1;have e:b=m.heap.size:=e;omega) (by rw [Bc];exact ⟨Bv (Av _ hvl) hfit.1,Bv hvl hfit.2⟩) p12.type
     refine wpIn_seq (wpIn_region_list ?_);rw [e6];refine Jm g3 (nd h3) (cv:=.tuple #[.bool AE,e.key,e.val]) (w':=B) (by simp only [execOp,h3,Fh.op,ev15];rw [Sem.run_bind,O];rfl) ?_;rw [d3];obtain ⟨A1,hA1⟩:∃A1,A1=f.put (AC 16) (.tuple #[.bool AE,e.key,e.val]):=⟨_,rfl⟩;rw [<-hA1];have Z1:A1.tmps.size=f.tmps.size:=by rw [hA1,J5]
     refine Jm g4 (nd h4) (cv:=.bool AE) (w':=B) ?_ ?_
     .have:A1.eval (.tmp 16)=.tuple #[.bool AE,e.key,e.val]:=by show A1.tmps.getD 16 undef=_;rw [hA1,Kd _ _ (by omega),AS rfl]
      simp [execOp,h4,Fh.op,this,Instr.extract]
     rw [d4];obtain ⟨A2,hA2⟩:∃A2,A2=A1.put (AC 17) (.bool AE):=⟨_,rfl⟩;rw [<-hA2];have Z2:A2.tmps.size=f.tmps.size:=by rw [hA2,J5,Z1]
     refine wpListIn_nil (wpIn_seq (wpIn_cond_true ?_ (wpIn_skip ?_)))
     .show A2.tmps.getD 17 undef=_;rw [hA2,Kd _ _ (by omega),AS rfl]
     have G2:∀d,A2.tmps.getD d undef=if d=17 then .bool AE else if d=16 then .tuple #[.bool AE,e.key,e.val] else f.tmps.getD d undef:=λd=>by rw [hA2,Kd _ _ (by omega),hA1,Kd _ _ (by omega)]
     refine wpIn_block (wpIn_seq (wpIn_region_list ?_));rw [e7];refine Jm g5 (nd h5) (cv:=.tuple #[e.key,e.val]) (w':=B) ?_ ?_
     .have:A2.eval (.tmp 15)=.pointer (AC ⟨w.heap.size,0,AD⟩):=by show A2.tmps.getD 15 undef=_;rw [G2,AR (by decide),AR (by decide)];exact s4
      simp only [execOp,h5,Fh.op,this];rw [Sem.run_bind,run_entry_at B w.heap.size bm clock seen es clock e b4.1 hb4 hem hB.2];rfl
     rw [d5];obtain ⟨A3,hA3⟩:∃A3,A3=A2.put (AC 18) (.tuple #[e.key,e.val]):=⟨_,rfl⟩;rw [<-hA3];have Z3:A3.tmps.size=f.tmps.size:=by rw [hA3,J5,Z2]
     have G3:∀d,A3.tmps.getD d undef=if d=18 then .tuple #[e.key,e.val] else A2.tmps.getD d undef:=λd=>by rw [hA3,Kd _ _ (by omega)]
     refine Jm g6 (nd h6) (cv:=e.key) (w':=B) ?_ ?_
     .have:A3.eval (.tmp 18)=.tuple #[e.key,e.val]:=by show A3.tmps.getD 18 undef=_;rw [G3,AS rfl]
      simp [execOp,h6,Fh.op,this,Instr.extract]
     rw [d6];obtain ⟨A4,hA4⟩:∃A4,A4=A3.put (AC 19) (e.key):=⟨_,rfl⟩;rw [<-hA4];have Z4:A4.tmps.size=f.tmps.size:=by rw [hA4,J5,Z3]
     have G4:∀d,A4.tmps.getD d undef=if d=19 then e.key else A3.tmps.getD d undef:=λd=>by rw [hA4,Kd _ _ (by omega)]
     refine Jm g7 (nd h7) (cv:=p) (w':=w5) ?_ ?_
     .simp only [execOp,h7,Fh.op];rw [Sem.run_bind,ral];rfl
     rw [d7];obtain ⟨A5,hA5⟩:∃A5,A5=A4.put (AC 5) (p):=⟨_,rfl⟩;rw [<-hA5];have Z5:A5.tmps.size=f.tmps.size:=by rw [hA5,J5,Z4]
     have G5:∀d,A5.tmps.getD d undef=if d=5 then p else A4.tmps.getD d undef:=λd=>by rw [hA5,Kd _ _ (by omega)]
     refine Jsy g8 (nd h8) (w':=m) ?_ ?_
     .have e1:A5.eval (.tmp 5)=p:=by show A5.tmps.getD 5 undef=_;rw [G5,AS rfl]
      have e2:A5.eval (.tmp 19)=e.key:=by show A5.tmps.getD 19 undef=_;rw [G5,AR (by decide),G4,AS rfl]
      simp only [execOp,h8,Fh.op,e1,e2];rw [Sem.run_bind,rst];rfl
     rw [d8,Om];refine wpListIn_nil (wpIn_region_list ?_);rw [e8];refine Jm g9 (nd h9) (cv:=f.tmps.getD 4 undef) (w':=m) ?_ ?_
     .have:A5.eval (.tmp 4)=f.tmps.getD 4 undef:=by show A5.tmps.getD 4 undef=_;rw [G5,AR (by decide),G4,AR (by decide),G3,AR (by decide),G2,AR (by decide),AR (by decide)]
      simp only [execOp,h9,Fh.op,this];rfl
     rw [d9];obtain ⟨A6,hA6⟩:∃A6,A6=A5.put (AC 20) (f.tmps.getD 4 undef):=⟨_,rfl⟩;rw [<-hA6];have Z6:A6.tmps.size=f.tmps.size:=by rw [hA6,J5,Z5]
     have G6:∀d,A6.tmps.getD d undef=if d=20 then f.tmps.getD 4 undef else A5.tmps.getD d undef:=λd=>by rw [hA6,Kd _ _ (by omega)]
     refine Jm g10 (nd h10) (cv:=.agg #[.int .i64 kx,.int .i64 ky]) (w':=m) ?_ ?_
     .have:A6.eval (.tmp 5)=p:=by show A6.tmps.getD 5 undef=_;rw [G6,AR (by decide),G5,AS rfl]
      simp only [execOp,h10,Fh.op,this];rw [Sem.run_bind,rld,hck];rfl
     rw [d10];obtain ⟨A7,hA7⟩:∃A7,A7=A6.put (AC 21) (.agg #[.int .i64 kx,.int .i64 ky]):=⟨_,rfl⟩;rw [<-hA7];have Z7:A7.tmps.size=f.tmps.size:=by rw [hA7,J5,Z6]
     have G7:∀d,A7.tmps.getD d undef=if d=21 then .agg #[.int .i64 kx,.int .i64 ky] else A6.tmps.getD d undef:=λd=>by rw [hA7,Kd _ _ (by omega)]
     refine Jm g11 (nd h11) (cv:=.slice (AC ⟨m.heap.size,0,AD⟩) 1 1) (w':=N) ?_ ?_
     .have:A7.eval (.tmp 21)=.agg #[.int .i64 kx,.int .i64 ky]:=by show A7.tmps.getD 21 undef=_;rw [G7,AS rfl]
      simp [execOp,h11,Fh.op,this,rlit]
     rw [d11];obtain ⟨A8,hA8⟩:∃A8,A8=A7.put (AC 22) (.slice (AC ⟨m.heap.size,0,AD⟩) 1 1):=⟨_,rfl⟩;rw [<-hA8];have Z8:A8.tmps.size=f.tmps.size:=by rw [hA8,J5,Z7]
     have G8:∀d,A8.tmps.getD d undef=if d=22 then .slice (AC ⟨m.heap.size,0,AD⟩) 1 1 else A7.tmps.getD d undef:=λd=>by rw [hA8,Kd _ _ (by omega)]
     refine Jm g12 (nd h12) (cv:=cv') (w':=w8) ?_ ?_
     .have e1:A8.eval (.tmp 20)=f.tmps.getD 4 undef:=by show A8.tmps.getD 20 undef=_;rw [G8,AR (by decide),G7,AR (by decide),G6,AS rfl]
      have e2:A8.eval (.tmp 22)=.slice (AC ⟨m.heap.size,0,AD⟩) 1 1:=by show A8.tmps.getD 22 undef=_;rw [G8,AS rfl]
      have rapp':=rapp;rw [Ae] at rapp';simp [execOp,h12,Fh.op,resolve,invoke,builtin,e1,e2,rapp']
     rw [d12];obtain ⟨A9,hA9⟩:∃A9,A9=A8.put (AC 23) (cv'):=⟨_,rfl⟩;rw [<-hA9];have Z9:A9.tmps.size=f.tmps.size:=by rw [hA9,J5,Z8]
     have G9:∀d,A9.tmps.getD d undef=if d=23 then cv' else A8.tmps.getD d undef:=λd=>by rw [hA9,Kd _ _ (by omega)]
     refine Jm g13 (nd h13) (cv:=cv') (w':=w8) ?_ ?_
     .have:A9.eval (.tmp 23)=cv':=by show A9.tmps.getD 23 undef=_;rw [G9,AS rfl]
      simp only [execOp,h13,Fh.op,this];rfl
     rw [d13];obtain ⟨A10,hA10⟩:∃A10,A10=A9.put (AC 4) (cv'):=⟨_,rfl⟩;rw [<-hA10];have Z10:A10.tmps.size=f.tmps.size:=by rw [hA10,J5,Z9]
     have G10:∀d,A10.tmps.getD d undef=if d=4 then cv' else A9.tmps.getD d undef:=λd=>by rw [hA10,Kd _ _ (by omega)]
     have k48:w8.heap[w.heap.size]?=AC (.mapIter (AC bm) clock (seen.push e.born) clock):=by have hx:N.heap[w.heap.size]?=AC (.mapIter (AC bm) clock (seen.push e.born) clock):=(k47 _ (by omega)).trans b4.1;exact (f5 _ (Aa.1 hx).1 (.inr λcs e' z q=>by rw [hx] at q;cases q)).trans hx
     refine wpListIn_nil ?_;show rJ a w bm clock w.heap.size es kT A10 w8/\_;refine ⟨⟨by omega,?_,λd hd=>?_,?_,?_,seen.push e.born,vis++[e],r1++r2,k48,by simp [s7],?_,?_⟩,?_⟩
     .rw [hA10,Jt,hA9,Jt,hA8,Jt,hA7,Jt,hA6,Jt,hA5,Jt,hA4,Jt,hA3,Jt,hA2,Jt,hA1,Jt,s2]
     .have h:∀k∈YN,d≠k:=λk J e=>hd (e▸J);rw [G10,AR (h 4 (by decide)),G9,AR (h 23 (by decide)),G8,AR (h 22 (by decide)),G7,AR (h 21 (by decide)),G6,AR (h 20 (by decide)),G5,AR (h 5 (by decide)),G4,AR (h 19 (by decide)),G3,AR (h 18 (by decide)),G2,AR (h 17 (by decide)),AR (h 16 (by decide))];exact s3 d hd
     .rw [G10,AR (by decide),G9,AR (by decide),G8,AR (by decide),G7,AR (by decide),G6,AR (by decide),G5,AR (by decide),G4,AR (by decide),G3,AR (by decide),G2,AR (by decide),AR (by decide)];exact s4
     .refine ⟨?_,?_,⟨?_,?_⟩,?_,λq H=>?_⟩
      .rw [f1,o67.os,o46.os,<-s5.os,<-G.2.1,F];rfl
      .rw [f2,o67.tape,o46.tape,<-s5.tape,<-G.2.2.1,F];rfl
      .rw [f3.1,o67.output.1,o46.output.1,<-s5.output.1,<-G.2.2.2.1,F];rfl
      .have:=f3.2;have:=o67.output.2;have:=o46.output.2;have:=s5.output.2;have:B.drawn=Z.drawn:=by rw [F];rfl
       have:=G.2.2.2.2;omega
      .have:=o67.size;omega
      .rw [f5 q (by have:=o67.size;omega) (.inl H),k47 q (by omega),b4.2 q (by omega),s5.keep q H]
     .refine List.Perm.trans ?_ s8;rw [List.append_assoc];exact List.Perm.append_left _ (by rw [List.singleton_append];exact List.perm_middle.symm)
     .rw [G10,AS rfl,List.map_append,List.map_singleton,hkk];exact acc8
     .have i1:(w8.iterSeen w.heap.size).size=seen.size+1:=by unfold World.iterSeen;rw [k48];simp
      have i2:(E.iterSeen w.heap.size).size=seen.size:=by unfold World.iterSeen;rw [s6]
      have hsn:seen.size=vis.length:=by rw [<-Array.length_toList,s7,Bc]
      show es.size - (w8.iterSeen w.heap.size).size<es.size - (E.iterSeen w.heap.size).size;omega
   .cases J
  .cases J
 .cases J
end
section
variable {h h':Heap} {θ:AM->AH AM} {R:AG AM} {s s':Dn.S Ty.T}
theorem Jpk{c:C Ty.T}(a:TK c=AE):AB s' c=AB s c/\GR h h' θ R (AB s c) (AB s c):=by
 have fl:∀ {y:AV},y.flat=AE->GR h h' θ R y y:=λd=>.flat d;cases c with
 | any=>exact ⟨rfl,.any _⟩
 | lf t y=>exact ⟨rfl,.one y⟩
 | kb b=>exact ⟨rfl,fl rfl⟩
 | rp t y o=>exact ⟨rfl,fl rfl⟩
 | k v=>exact ⟨rfl,fl a⟩
 | _=>cases a
theorem xZ{l:AG (C Ty.T)}(hl:l.all TK=AE):l.map (AB s')=l.map (AB s)/\Eu h h' θ R (l.map (AB s)) (l.map (AB s)):=
 ⟨List.map_congr_left λc a=>(Jpk (h:=h) (h':=h') (θ:=θ) (R:=R) (Ar.1 hl c a)).1,.map λc a=>(Jpk (s':=s) (Ar.1 hl c a)).2⟩
theorem Jw6{o:Ob Ty.T}(d:o.kids.all TK=AE)(g:AM):BD s' o=BD s o/\GO h h' θ R g (BD s o) (BD s o):=by
 cases o with
 | box v cs=>
  have d:cs.all TK=AE:=d;obtain ⟨a,b⟩:=xZ (s:=s) (s':=s') (h:=h) (h':=h') (θ:=θ) (R:=R) d;exact ⟨by show AU.box v (cs.map (AB s'))=_;rw [a];rfl,.box b⟩
 | lit v e el cs z=>
  have d:cs.all TK=AE:=d;obtain ⟨a,b⟩:=xZ (s:=s) (s':=s') (h:=h) (h':=h') (θ:=θ) (R:=R) d;exact ⟨by show AU.arr v e el (cs.map (AB s')) z=_;rw [a];rfl,.arr b (λq=>.inl q) λq=>q⟩
 | mp v kt vt es=>
  refine ⟨rfl,.map rfl λi p q m f=>?_⟩;rw [m] at f;injection f with f;subst f;exact ⟨rfl,J1k m⟩
 | em v kt vt el=>exact ⟨rfl,.map rfl λi p q m=>by simp at m⟩
 | row v e el t l x nest z=>
  cases nest with
  | none=>
   have d:x.all TK=AE:=by simpa [Ob.kids] using d
   obtain ⟨a,b⟩:=xZ (s:=s) (s':=s') (h:=h) (h':=h') (θ:=θ) (R:=R) d;exact ⟨by simp only [BD,a,Xm],.arr (.append (.flat (Yk t l)) b) (λq=>.inl q) λq=>q⟩
  | some p=>
   have d:TK p.2=AE/\x.all TK=AE:=by simpa [Ob.kids] using d
   obtain ⟨a,b⟩:=xZ (s:=s) (s':=s') (h:=h) (h':=h') (θ:=θ) (R:=R) d.2;obtain ⟨w,r⟩:=Jpk (s:=s) (s':=s') (h:=h) (h':=h') (θ:=θ) (R:=R) d.1;exact ⟨by simp only [BD,a,Xm,w],.arr (.append (.set (.flat (Yk t l)) r _) b) (λq=>.inl q) λq=>q⟩
theorem J1x{kt vt:Ty}(es:AG (kt.T×vt.T)):(Cm kt vt es).length=es.length:=by simp [Cm]
theorem Wy{kt vt:Ty}{es:AG (kt.T×vt.T)}{i:AM}{q:AV×AV}(h:(Cm kt vt es)[i]?=AC q):∃e,I5 es i=AC e/\q=(EA kt e.1,EA vt e.2):=by
 unfold Cm at h;rw [Ad] at h;cases a:es[i]? with
 | none=>rw [a] at h;cases h
 | some e=>rw [a] at h;injection h with h;exact ⟨e,a,h.symm⟩
theorem J3w{kt vt:Ty}:∀(k:AM) (l:AG (kt.T×AG vt.T)),(GZ kt vt k l).length=l.length
 | k,[]=>rfl
 | k,e::r=>by simp only [GZ,Az,J3w (k+1) r]
theorem wz{α β:Type}{f:α->β}{d:AM}:∀ {l:AG (AM×α)},look d (l.map λp=>(p.1,f p.2))=(look d l).map f
 | []=>rfl
 | (n,v)::r=>by
  rw [As,Kp,Kp];split
  .rfl
  .exact wz
end
section
variable {nt:AM} {w:World} {S:AM->Prop} {s s':Dn.S Ty.T} {μ:Gh} {a:Act} {fs:AG Fm}
theorem Tv(h:BG nt w S s μ a fs)(G:dN s=AC s'):Goes nt w S s μ a fs s':=by
 unfold dN at G;split at G
 .injection G with G;subst G;exact ⟨S,μ,h,.refl⟩
 .rename_i m hm;split at G
  .rename_i hk;injection G with G;have hi:=h.iv;obtain ⟨m1,m2,m3⟩:=hi.mo m hm;have F:∀n,look n s'.ob=if m.g=n then AC (.mp 0 m.kt (.ls m.vt) m.es) else look n s.ob:=λn=>by subst G;exact Kp _ _ _ _
   have hmo:s'.mo=AD:=by subst G;rfl
   have hgm:look m.g s.ob=AD:=tq hi (by simp [Ey,hm]);have eG:AA s m.g=AC (.map 0 (GZ m.kt m.vt 0 m.es) AF):=by simp [AA,hgm,hm,Ef,Mo.at]
   have eG':AA s' m.g=AC (.map 0 (Cm m.kt (.ls m.vt) m.es) AF):=by
    have:look m.g s'.ob=AC (.mp 0 m.kt (.ls m.vt) m.es):=by rw [F,AS rfl]
    rw [Jj this];rfl
   have old:∀ {n:AM} {o:Ob Ty.T},look n s.ob=AC o->n≠m.g/\n<mB/\AA s n=AC (BD s o)/\AA s' n=AC (BD s o)/\o.kids.all TK=AE:=λ{n o} A=>by
    have hf:=m3 n o A;have hne:n≠m.g:=λe=>by subst e;rw [hgm] at A;cases A
    have hkk:=Ar.1 hk (n,o) (Xq A);refine ⟨hne,?_,Jj A,?_,hkk⟩
    .rw [hm] at hf;simp only [Ey,Bool.or_eq_false_iff] at hf;have:=hf.2;rcases Nat.lt_or_ge n mB with q|q
     .exact q
     .rw [Aq q] at this;cases this
    .have:look n s'.ob=AC o:=by rw [F,AR (λe=>hne e.symm)];exact A
     rw [Jj this,(Jw6 (s:=s) (s':=s') (h:=AA s) (h':=AA s) (θ:=AC) (R:=[]) hkk n).1]
   have Y:∀i,AA s' (mB+i)=AD:=λi=>by
    have Q:look (mB+i) s.ob=AD:=by
     cases B:look (mB+i) s.ob with
     | none=>rfl
     | some o=>have:=(old B).2.1;omega
    have P:look (mB+i) s'.ob=AD:=by rw [F,AR (by omega)];exact Q
    simp only [AA,P,hmo,Ef]
   have N:∀ {i:AM} {e:m.kt.T×AG m.vt.T},I5 (α:=m.kt.T×AG m.vt.T) m.es i=AC e->AA s (mB+i)=AC (JI m.vt m.el e.2):=λ{i e} he=>by have:=J2s m1 he;rw [<-hm] at this;rw [AA,tq hi (by simp [Ey,hm,Aq (Ba mB i)])];exact this
   obtain ⟨R,hR⟩:∃R:AG AM,R=(List.range (List.length (α:=m.kt.T×AG m.vt.T) m.es)).map (mB+·):=⟨_,rfl⟩;have hRm:∀g,g∈R↔∃i,i<List.length (α:=m.kt.T×AG m.vt.T) m.es/\g=mB+i:=λg=>by rw [hR,Ap];exact ⟨λ⟨i,a,b⟩=>⟨i,List.mem_range.1 a,b.symm⟩,λ⟨i,a,b⟩=>⟨i,List.mem_range.2 a,b.symm⟩⟩
   have hobj:∀n o',AA s' n=AC o'->∃o,AA s n=AC o/\GO (AA s) (AA s') AC R n o o':=λn o' A=>by
    rcases tT A with ⟨ob,X,rfl⟩|⟨-,hx⟩
    .rw [F] at X;split at X
     .rename_i e;subst e;rw [eG'] at A;refine ⟨_,eG,?_⟩;injection A with A;rw [<-A];refine .map ?_ λi p q hp B=>?_
      .exact (J1x (kt:=m.kt) (vt:=.ls m.vt) m.es).trans (J3w (kt:=m.kt) (vt:=m.vt) 0 m.es).symm
      .obtain ⟨e,Q,P⟩:=wH hp;obtain ⟨e',M,h4⟩:=Wy (kt:=m.kt) (vt:=.ls m.vt) B;have he:AC e=AC e':=Q.symm.trans M;injection he with he;subst P;subst h4;subst he;have hi1:i<List.length (α:=m.kt.T×AG m.vt.T) m.es:=(Aw.1 Q).1;refine ⟨rfl,?_⟩;have hr:=N Q;have O:(e.2.flatMap m.vt.cs).length=e.2.length * m.vt.sz:=Jv e.2;have hs:Vv.snap (AA s) 1 (.arr (mB+(0+i)) e.2.length 0 e.2.length)=AC (.CF e.2.length (e.2.flatMap m.vt.cs),[mB+(0+i)]):=by
        rw [Au];simp only [Vv.snap,hr,JI];have hcut:Vv.cut (e.2.flatMap m.vt.cs) (0 * m.vt.sz) (e.2.length * m.vt.sz)=e.2.flatMap m.vt.cs:=by simp only [Vv.cut,Ay,Br];rw [<-O,List.take_length]
        rw [hcut,AS ⟨trivial,by rw [O,Au];exact Am _⟩,AS (Yk m.vt e.2)]
       refine .snap 1 hs (λg hg=>?_) (.refl _);have:=Af.1 hg;subst this;exact (hRm _).2 ⟨i,hi1,by rw [Au]⟩
     .obtain ⟨x1,x2,x3,x4,x5⟩:=old X;rw [x4] at A;injection A with A;exact ⟨_,x3,A▸(Jw6 (s:=s) (s':=s) x5 n).2⟩
    .rw [hmo] at hx;cases hx
   have hgr:∀ {c:C Ty.T},FV s c->FV s' (Ig m.g c)/\GR (AA s) (AA s') AC R (AB s c) (AB s' (Ig m.g c)):=λ{c} ok=>by
    have at':∀ {g v:AM},(g,v)∈refs c->∃o,look g s.ob=AC o/\v<=o.ver/\AA s g=AC (BD s o)/\AA s' g=AC (BD s o)/\look g s'.ob=AC o/\Q4 s' g v=Q4 s g v:=λ{g v} hr=>by
     obtain ⟨o,A,E⟩:=ok _ hr;obtain ⟨x1,x2,x3,x4,x5⟩:=old A;have hl:look g s'.ob=AC o:=by rw [F,AR (λe=>x1 e.symm)];exact A
     refine ⟨o,A,E,x3,x4,hl,?_⟩;have hln:s'.ln=s.ln:=by subst G;rfl
     simp only [Q4,A,hl,hln]
    have okk:∀ {c':C Ty.T},(∀r∈refs c',r∈refs c)->FV s' c':=λhsub r hr=>by obtain ⟨o,A,E,-,-,hl,-⟩:=at' (hsub r hr);exact ⟨o,hl,E⟩
    have nofl:∀(v:AV),v.flat=AE->GR (AA s) (AA s') AC R v v:=λv hf=>.flat hf;have ptr:∀ {g v off:AM},(g,v)∈refs c->GR (AA s) (AA s') AC R (.ptr g v off) (.ptr g v off):=λ{g v off} hr=>by
     obtain ⟨o,A,E,a1,a2,-,-⟩:=at' hr;have J:v<=(BD s o).ver:=by rw [ji];exact E
     exact .ptr a1 a2 J rfl λe=>e
    have arr:∀ {g v off len:AM},(g,v)∈refs c->GR (AA s) (AA s') AC R (.arr g v off len) (.arr g v off len):=λ{g v off len} hr=>by
     obtain ⟨o,A,E,a1,a2,-,-⟩:=at' hr;have J:v<=(BD s o).ver:=by rw [ji];exact E
     exact .arr a1 a2 J rfl λe=>⟨e,λe' el c z q=>⟨c,z,q,Iff.rfl⟩⟩
    cases c with
    | any=>exact ⟨okk λr hr=>hr,.any _⟩
    | lf t y=>exact ⟨okk λr hr=>hr,.one y⟩
    | kb b=>exact ⟨okk λr hr=>hr,nofl _ rfl⟩
    | rp t y o=>exact ⟨okk λr hr=>hr,nofl _ rfl⟩
    | own g v=>
     obtain ⟨o,A,E,a1,a2,-,hl⟩:=at' (g:=g) (v:=v) Ac;refine ⟨okk λr hr=>hr,?_⟩;show GR _ _ _ _ (.arr g v 0 (Q4 s g v)) (.arr g v 0 (Q4 s' g v));rw [hl];exact arr Ac
    | part g v a b=>exact ⟨okk λr hr=>hr,arr Ac⟩
    | ptr g v o=>exact ⟨okk λr hr=>hr,ptr Ac⟩
    | F5 g v e i o=>exact ⟨okk λr hr=>hr,ptr Ac⟩
    | map g v=>
     obtain ⟨o,A,E,a1,a2,-,-⟩:=at' (g:=g) (v:=v) Ac;have J:v<=(BD s o).ver:=by rw [ji];exact E
     exact ⟨okk λr hr=>hr,.map a1 a2 J rfl λe=>e⟩
    | fn f l=>
     refine ⟨okk λr hr=>hr,.fn f _ _ rfl λi x y hx H=>?_⟩;rw [hx] at H;injection H with H;subst H;rw [Ad] at hx;cases B:l[i]? with
     | none=>rw [B] at hx;cases hx
     | some p=>
      rw [B] at hx;injection hx with hx;subst hx;exact ptr (Ap.2 ⟨p,Ao B,rfl⟩)
    | yl j=>exact ⟨okk λr hr=>hr,.Fu j⟩
    | k v=>
     have key:(Ig m.g (.k v:C Ty.T)=.k v/\v.flat=AE)\/Ig m.g (.k v:C Ty.T)=.any\/(v=.map m.g 0/\Ig m.g (.k v:C Ty.T)=.map m.g 0):=by
      cases v with
      | map g' ver=>
       cases ver with
       | zero=>
        cases hb:Nat.beq g' m.g with
        | true=>exact .inr (.inr ⟨by rw [Ai hb],by simp [Ig,AV.flat,hb]⟩)
        | false=>exact .inr (.inl (by simp [Ig,AV.flat,hb]))
       | succ n=>exact .inr (.inl rfl)
      | _=>first|exact .inl ⟨rfl,rfl⟩|exact .inr (.inl rfl)
     rcases key with ⟨e,hf⟩|e|⟨rfl,e⟩
     .rw [e];exact ⟨okk λr hr=>hr,nofl v hf⟩
     .rw [e];exact ⟨λr hr=>(by cases hr),.any _⟩
     .rw [e];refine ⟨λr hr=>?_,.map eG eG' (Am _) rfl λe=>e⟩;have:=Af.1 hr;subst this;exact ⟨_,by rw [F,AS rfl],Am _⟩
   have L:∀ {v:V Ty.T},okV s v->okV s' (MZ m.g v)/\GR (AA s) (AA s') AC R (AL s v) (AL s' (MZ m.g v)):=λ{v} ok=>by
    cases v with
    | c x=>
     obtain ⟨a,b⟩:=hgr (c:=x) (ok x Ac);exact ⟨λc K=>by have:=Af.1 K;subst this;exact a,b⟩
    | ag l=>
     refine ⟨λc K=>?_,.agg _ _ (by simp) λi x y hx H=>?_⟩
     .obtain ⟨c0,h0,rfl⟩:=Ap.1 (show c∈l.map (Ig m.g) from K);exact (hgr (ok c0 h0)).1
     .rw [Ad] at hx H;rw [Ad] at H;cases B:l[i]? with
      | none=>rw [B] at hx;cases hx
      | some c0=>
       rw [B] at hx H;injection hx with hx;injection H with H;subst hx;subst H;exact (hgr (ok c0 (Ao B))).2
    | tp l=>
     cases l with
     | nil=>exact ⟨λc K=>(by cases K),.Cb _ _ rfl λi x y hx=>by simp at hx⟩
     | cons p r=>exact ⟨λc K=>(by have:=Af.1 K;subst this;intro r hr;cases hr),.any _⟩
   have hsl:s'.sl=s.sl.map λp=>(p.1,MZ m.g p.2):=by subst G;rfl
   have Z:s'.lo=s.lo.map λl=>l.map λp=>(p.1,MZ m.g p.2):=by subst G;rfl
   refine h.ghost (θ:=AC) (R:=R) ⟨⟨λn o' A=>.inr ?_,λn n' g e1 e2 _ _=>?_,λn g o' e A _ _ hg=>?_,λg hg=>?_⟩,λd v E=>?_,by rw [Z,Bc],λi l l' d v' Q P M=>?_,λp hp=>?_,λl hl p hp=>?_,λg o A=>?_,λm' hm'=>by rw [hmo] at hm';cases hm'⟩
   .obtain ⟨o,a,b⟩:=hobj n o' A;exact ⟨n,o,rfl,a,b⟩
   .injection e1 with e1;injection e2 with e2;rw [e1,e2]
   .injection e with e;subst e;obtain ⟨i,-,rfl⟩:=(hRm _).1 hg;rw [Y] at A;cases A
   .obtain ⟨i,hi',rfl⟩:=(hRm _).1 hg;have:I5 (α:=m.kt.T×AG m.vt.T) m.es i=AC (List.get (α:=m.kt.T×AG m.vt.T) m.es ⟨i,hi'⟩):=Bk hi';exact ⟨_,N this,rfl⟩
   .rw [hsl,wz] at E;unfold Dn.S.at;cases B:look d s.sl with
    | none=>rw [B] at E;cases E
    | some v0=>
     rw [B] at E;injection E with E;subst E;exact (L (hi.sl (d,v0) (Xq B))).2
   .rw [Z,Ad,Q] at P;injection P with P;subst P;rw [wz] at M;cases B:look d l with
    | none=>rw [B] at M;cases M
    | some v0=>
     rw [B] at M;injection M with M;subst M;exact (L (hi.lo l (Ao Q) (d,v0) (Xq B))).2
   .rw [hsl] at hp;obtain ⟨q,B,rfl⟩:=Ap.1 hp;exact (L (hi.sl q B)).1
   .rw [Z] at hl;obtain ⟨l0,hl0,rfl⟩:=Ap.1 hl;obtain ⟨q,B,rfl⟩:=Ap.1 hp;exact (L (hi.lo l0 hl0 q B)).1
   .rw [F] at A;split at A
    .injection A with A;subst A;intro c K;cases K
    .obtain ⟨-,-,-,-,x5⟩:=old A;intro c K r hr;have:=Ar.1 x5 c K;cases c<;>first|(cases hr;done)|(cases this;done)
  .cases G
end
theorem J7x{d:AM}:∀(ks:AG AM) (s:Dn.S Ty.T),(Dn.S.kill ks s).at d=if d∈ks then .c .any else s.at d
 | [],s=>by simp [S.kill]
 | x::r,s=>by
  rw [S.kill,J7x r];by_cases h:d∈r
  .rw [AS h,AS (Ab _ h)]
  .rw [AR h];have:(s.put (AC x) (.c .any)).at d=if d=x then .c .any else s.at d:=by
    unfold Dn.S.at Dn.S.put;simp only [Kp];by_cases e:x=d
    .subst e;simp
    .rw [AR e,AR (λq=>e q.symm)]
   rw [this];by_cases e:d=x
   .subst e;rw [AS rfl,AS Ac]
   .rw [AR e,AR (λq=>by rcases Ag.1 q with q|q;exact e q;exact h q)]
theorem Jz0:∀(ks:AG AM) (s:Dn.S Ty.T),(Dn.S.kill ks s).ob=s.ob/\(Dn.S.kill ks s).ln=s.ln/\(Dn.S.kill ks s).mo=s.mo/\(Dn.S.kill ks s).lo=s.lo
 | [],s=>⟨rfl,rfl,rfl,rfl⟩
 | x::r,s=>Jz0 r (s.put (AC x) (.c .any))
theorem J23:∀(ks:AG AM) {s:Dn.S Ty.T},Inv s->Inv (Dn.S.kill ks s)
 | [],s,h=>h
 | x::r,s,h=>J23 r (h.put (v:=.c .any) (λc a=>by have:=Af.1 a;subst this;intro r hr;cases hr) (AC x))
theorem Ri{kt vt:Ty}{es:AG (kt.T×vt.T)}{i:AM}{e:kt.T×vt.T}(h:es[i]?=AC e):(Cm kt vt es)[i]?=AC (EA kt e.1,EA vt e.2):=by unfold Cm;rw [Ad,h];rfl
theorem Ol(a:Act){d:AM}{v:Value}(hd:d<a.tmps.size)(h:a.tmps.getD d undef=v):a.put (AC d) v=a:=by
 obtain ⟨t,f⟩:=a;show (⟨t.setIfInBounds d v,f⟩:Act)=⟨t,f⟩
 congr 1
 apply By
 .simp
 .intro i l g;rw [Array.getElem_setIfInBounds g];split
  .rename_i e;subst e;have h:t.getD d undef=v:=h;rw [<-h];simp [Ae,g]
  .rfl
section
variable {nt:AM} {w w':World} {S:AM->Prop} {s:Dn.S Ty.T} {μ:Gh} {a a':Act} {fs:AG Fm}
theorem BG.kill(h:BG nt w S s μ a fs)(ks:AG AM)(hs:a'.tmps.size=a.tmps.size)(hd:a'.defers=a.defers)(y:∀d,d∉ks->a'.tmps.getD d undef=a.tmps.getD d undef):BG nt w S (Dn.S.kill ks s) μ a' fs:=by
 obtain ⟨f,g,v,m⟩:=Jz0 ks s;have eh:AA (Dn.S.kill ks s)=AA s:=Zd f g v;have ec:AB (Dn.S.kill ks s)=AB s:=wM f g;refine h.step hd ⟨λd=>?_,by show BJ w S (AA _) μ;rw [eh];exact h.fr.hp,by rw [hd];exact h.fr.df,by rw [hs];exact h.fr.sz⟩ ⟨m,λc A=>⟨λr hr=>by rw [f];exact A r hr,by rw [ec]⟩⟩ (J23 ks h.iv) (by rw [eh];exact .refl) (by rw [eh];exact .refl _ _);show AX w S (AA _) μ (AL _ ((Dn.S.kill ks s).at d)) _;rw [eh,bQ f g,J7x];by_cases l:d∈ks
 .rw [AS l];exact .any _
 .rw [AR l,y d l];exact h.fr.fr d
theorem Np(hF:BG nt w S s μ a fs)(B:Old w w'){t:Ty}(H:0<t.sz){el:TypeId}{l:AG t.T}{cv:Value}(G:YF w w' S el t l cv){base:AM}(Q:s.has base=AF) :
  ∃S2 μ2,BG nt w' S2 (s.obj base (.row 0 t.sz el t l [] AD AF)) μ2 a fs/\CY w S (AA s) μ w' S2 (AA (s.obj base (.row 0 t.sz el t l [] AD AF))) μ2/\okV (s.obj base (.row 0 t.sz el t l [] AD AF)) (.c (.own base 0)) /\
   AX w' S2 (AA (s.obj base (.row 0 t.sz el t l [] AD AF))) μ2 (AL (s.obj base (.row 0 t.sz el t l [] AD AF)) (.c (.own base 0))) cv:=by
 have K:AA s base=AD:=nO Q;have P:(l.flatMap t.cs).length=l.length * t.sz:=Jv l;have h:l.flatMap t.cs=[]↔l=[]:=J4j H l;have key:∃(b o:AM) (S2:AM->Prop),BJ w' S2 (upd (AA s) base (AC (.arr 0 t.sz el (l.flatMap t.cs) AF))) (μ.set base b o) /\
   CY w S (AA s) μ w' S2 (upd (AA s) base (AC (.arr 0 t.sz el (l.flatMap t.cs) AF))) (μ.set base b o) /\
   Cg (AA s) μ (upd (AA s) base (AC (.arr 0 t.sz el (l.flatMap t.cs) AF))) (μ.set base b o)/\JM w' (l.flatMap t.cs) b o t.sz 0 l.length cv:=by
  rcases G with ⟨e,A,rfl⟩|⟨e,b,o,cap,cs,q1,rfl,X,R,q4,q5⟩
  .subst e;obtain ⟨F,y,a3⟩:=oW (S':=zb S w w') (g:=base) (b:=0) (k:=0) (esz:=t.sz) (el:=el) (cells:=[]) hF.fr.hp B K (λq m=>.inl m) (λq m=>m) (λq=>(q rfl).elim) (λq=>(q rfl).elim) (λq=>(q rfl).elim);exact ⟨0,0,_,F,y,a3,λ_=>⟨rfl,rfl,A,rfl⟩,λq=>(q rfl).elim⟩
  .have Y:l.length * t.sz<=cap * t.sz:=Av _ X.1;obtain ⟨F,y,a3⟩:=oW (S':=λq=>zb S w w' q/\q≠b) (g:=base) (b:=b) (k:=o) (esz:=t.sz) (el:=el) (cells:=l.flatMap t.cs) hF.fr.hp B K
    (λq m=>⟨.inl m,λe=>by subst e;have:=hF.fr.hp.lt q m;omega⟩) (λq m=>m.1) (λ_ q=>q.2 rfl) (λ_=>q1) (λ_=>⟨cs,R,by rw [P];omega,q5⟩)
   refine ⟨b,o,_,F,y,a3,λq=>(e (h.1 q)).elim,λ_=>⟨⟨b,o,AD⟩,cap,cs,el,(0,0),rfl,X,R,by rw [Au];exact q4,λ_=>by rw [Ay,Bm]⟩⟩
 obtain ⟨b,o,S2,F,y,a3,a4⟩:=key;obtain ⟨f,r⟩:∃f,f=s.obj base (.row 0 t.sz el t l [] AD AF):=⟨_,rfl⟩;rw [<-r];have E:look base s.ob=AD:=NP Q;have st:CQ s f:=by subst r;exact Zh λo0 Z=>by rw [E] at Z;cases Z
 have v:∀L,look L f.ob=if base=L then AC (.row 0 t.sz el t l [] AD AF) else look L s.ob:=λL=>by subst r;exact Qb base L _
 have J:f.mo=s.mo:=by subst r;rfl
 have iv:Inv f:=MV hF.iv st v (λc hc=>by cases hc) (lJ Q) J;have N:=jf hF.iv st v J;have O:Dn.BD f (.row 0 t.sz el t l [] AD AF)=.arr 0 t.sz el (l.flatMap t.cs) AF:=by simp [Dn.BD,Xm]
 rw [O] at N;rw [<-N] at F y a3;have hF2:BG nt w' S2 f (μ.set base b o) a fs:=by refine hF.step rfl ⟨λd=>?_,F,hF.fr.hp.marks hF.fr.df y,hF.fr.sz⟩ st.on iv y a3;rw [NM hF.iv st];exact (hF.fr.fr d).Cz hF.fr.hp y a3
 have M:Q4 f base 0=l.length:=by simp [Q4,v,Ob.ver,Ob.CJ]
 refine ⟨S2,_,hF2,y,Xe λq m=>?_,?_⟩
 .have:=Af.1 m;subst this;exact ⟨_,by rw [v,AS rfl],Am _⟩
 .show AX w' S2 (AA f) _ (AB f (.own base 0)) cv;simp only [AB,M];refine .arr base 0 0 l.length cv _ (by rw [N,Jg]) (Am _) ?_ λ_=>⟨t.sz,el,_,AF,rfl,?_⟩
  .by_cases e:l=[]
   .obtain ⟨-,-,A,rfl⟩:=a4.1 (h.2 e);rfl
   .obtain ⟨_,_,_,_,_,rfl,_⟩:=a4.2 (λq=>e (h.1 q));rfl
  .simp only [Gh.set,Jg];exact a4
theorem PV{α β:Type}{l:AG α}{k:AG α->AH β}{r:β}(h:kg l k=AC r){p:AG α}(a:p.Perm l):k p=AC r:=by
 unfold kg at h;split at h
 .rename_i hx;have:=hx.choose_spec p a;injection h with h;rw [this,h]
 .cases h
theorem J8t{α β:Type}{l:AG α}{k:AG α->AH β}{r:β}(h:∀p:AG α,p.Perm l->k p=AC r):kg l k=AC r:=by unfold kg;have hx:∃v,∀p:AG α,p.Perm l->k p=AC v:=⟨r,h⟩;rw [dif_pos hx];have:=hx.choose_spec l (.refl l);rw [h l (.refl l)] at this;exact this.symm
theorem P5{P:Program}{ro:AH AM}{x y:Code}{i5:AM}{el:TypeId}{by' base:AM}(hk:lg P nt x y=AC (.keys i5 el by'))(h:BG nt w S s μ a fs){α:Type}{k:Dn.S Ty.T->AH α}{r:α}(hd:P8 val base el by' s k=AC r)
  {Q:Exit->Act->World->Prop} (hQ:∀a' w' S' μ' s',BG nt w' S' s' μ' a' fs->CY w S (AA s) μ w' S' (AA s') μ'->k s'=AC r->Q .normal a' w'):(Code.seq x y).wpIn (Fr ro) 0 P Q a w:=by
 unfold P8 at hd;obtain ⟨f,hu,hd⟩:=Ji hd;obtain ⟨S1,μ1,B,ev1⟩:=Tv h hu;split at hd
 .rename_i g ver vt es hmp N;obtain ⟨J,H⟩:=tX hmp;have J:f.at 3=.c (.map g ver):=J;have H:look g f.ob=AC (.mp ver (.p I I) vt es):=H;split at hd
  .cases hd
  rename_i m;have m:f.has (base+23)=AF:=by simpa using m
  obtain ⟨A,hd⟩:=Kl hd;obtain ⟨es',L⟩:∃es':AG ((AI×AI)×vt.T),es'=es:=⟨_,rfl⟩;have A:=bF A;have A:((es'.length:AM):AI) * by'<=room/\((es'.length:AM):AI)<=9223372036854775807:=by rw [L];exact A
  have hd:kg (es'.map (·.1)) (λl:AG (AI×AI)=>k (((Dn.S.kill YN f).obj (base+23) (.row 0 2 el (.p I I) l [] AD AF)).put (AC 4) (.c (.own (base+23) 0))))=AC r:=by rw [L];exact hd
  have hfN:es'.length * by'<=room/\es'.length<=9223372036854775807:=by
   have R:((es'.length * by':AM):AI)<=((room:AM):AI):=by rw [Int.natCast_mul];exact A.1
   have:=A.2;exact ⟨Int.ofNat_le.1 R,by omega⟩
  have eG:AA f g=AC (.map ver (Cm (.p I I) vt es') AF):=by rw [Jj H,L];rfl
  have Y:=B.fr.fr 3;have Y:AX w S1 (AA f) μ1 (.map g ver) (a.tmps.getD 3 undef):=by have:AX w S1 (AA f) μ1 (AL f (f.at 3)) (a.tmps.getD 3 undef):=Y;rw [J] at this;exact this
  have e3:a.tmps.getD 3 undef=.map (AC (μ1.b g)):=Y.I6 eG;have r4:AX w S1 (AA f) μ1 (AL f (f.at 4)) (a.tmps.getD 4 undef):=B.fr.fr 4;rw [N] at r4;have e4:a.tmps.getD 4 undef=.slice AD 0 0:=AX.CW (h:=AA f) r4;obtain ⟨mes,clock,b1,⟨X,b3⟩,-,b4⟩:=B.fr.hp.ob g _ eG;have X:mes.size=es'.length:=X.trans (J1x (kt:=.p I I) es');have E:∀(i:AM) (e:(AI×AI)×vt.T),es'[i]?=AC e->∃me,mes[i]?=AC me/\me.key=CG e.1:=λi e M=>by
   have:(Cm (.p I I) vt es')[i]?=AC (EA (.p I I) e.1,EA vt e.2):=Ri (kt:=.p I I) M;obtain ⟨me,G,F,-⟩:=b4 i _ _ this;refine ⟨me,G,?_⟩;have F:AY w S1 (.agg [.int .i64 e.1.1,.int .i64 e.1.2]) me.key:=F;generalize me.key=mk at F;cases F with
   | agg _ cs hl g1 g2=>
    have q0:=g2 0 _ rfl;have Z:=g2 1 _ rfl;simp at hl;show Value.agg cs=Value.agg #[.int .i64 e.1.1,.int .i64 e.1.2]
    congr 1
    apply By
    .simp [<-hl]
    .intro j B R
     match j,B with
     | 0,B=>
      have:AY w S1 (.int .i64 e.1.1) (cs[0]):=by simpa [Ae,B] using q0
      generalize cs[0]=v at this ⊢;cases this;rfl
     | 1,B=>
      have:AY w S1 (.int .i64 e.1.2) (cs[1]):=by simpa [Ae,B] using Z
      generalize cs[1]=v at this ⊢;cases this;rfl
     | j+2,B=>omega
  have K:mes.toList.map (λe=>aJ e.key)=es'.map (·.1):=by
   apply List.ext_getElem?;intro i;rw [Ad,Ad];cases M:es'[i]? with
   | none=>
    have:mes.toList[i]?=AD:=by rw [Bh] at M ⊢;simp;omega
    rw [this];rfl
   | some e=>
    obtain ⟨me,G,F⟩:=E i e M;have:mes.toList[i]?=AC me:=by simpa using G
    rw [this,Option.map_some,Option.map_some,F,J4a]
  obtain ⟨i5',el',b5,e5,hnt,run⟩:=J0z (P:=P) (ro:=ro) hk;injection e5 with e51 e52 e53;subst e51;subst e52;subst e53;refine run B.fr.sz e3 b1 b3 (λe M=>?_) e4 ⟨by rw [X];exact hfN.1,by rw [X];exact hfN.2⟩ λa' w' l cv t1 t2 t3 t4 t5 t6 t7=>?_
  .obtain ⟨i,hi⟩:=List.getElem?_of_mem M;have O:mes[i]?=AC e:=by simpa using hi
   have hlt:=(Aa.1 O).1;obtain ⟨me,G,F⟩:=E i es'[i] (Bk (by omega));rw [O] at G;injection G with G;subst G;rw [F,J4a]
  .rw [K] at t5;have hk2:=PV hd t5;have R:=B.kill YN t1 t2 t3;obtain ⟨k1,k2,k3,k4⟩:=Jz0 YN f;have hb2:(Dn.S.kill YN f).has (base+23)=AF:=by unfold Dn.S.has at m ⊢;rw [k1,k3];exact m
   have eh:AA (Dn.S.kill YN f)=AA f:=Zd k1 k2 k3;obtain ⟨S2,μ2,Z,q2,q3,q4⟩:=Np R t6 (t:=.p I I) (by decide) (t7.own (S:=S1)) hb2;have h4:4<a'.tmps.size:=by rw [t1];have:=B.fr.sz;omega
   have q5:=Z.put (d:=AC 4) (by simp [oL];omega) q3 q4;rw [Ol a' h4 t4] at q5;refine hQ a' w' S2 μ2 _ q5 ?_ hk2;rw [jO];rw [eh] at q2;exact ev1.trans q2
 .cases hd
end
def LE.is:LE->Exit->Prop
 | .normal,.normal=>True
 | .exit i,.exit j=>i=j
 | .ret,.ret=>True
 | _,_=>False
theorem Jk4(p:AM->Prop)(h:∃k,p k):∃k,p k/\∀j,p j->k<=j:=by
 obtain ⟨k,l⟩:=h
 induction k using Nat.strongRecOn with
 | _ k g=>
  by_cases f:∃j,j<k/\p j
  .obtain ⟨j,r,m⟩:=f;exact g j r m
  .exact ⟨k,l,λj a=>Nat.le_of_not_lt λd=>f ⟨j,d,a⟩⟩
open Classical in
noncomputable def sI(p:AM->Prop):AM:=if h:∃k,p k then Classical.choose (Jk4 p h) else 0
theorem Jnr{p:AM->Prop}(h:∃k,p k):p (sI p)/\∀j,p j->sI p<=j:=by unfold sI;rw [dif_pos h];exact Classical.choose_spec (Jk4 p h)
theorem Jm7{α β:Type}{x:AH α}{k:α->AH β}{r:β}(h:Hz x k=AC r):∃y,x=AC y/\k y=AC r:=by
 cases x with
 | none=>cases h
 | some y=>exact ⟨y,rfl,h⟩
theorem xI{α:Type}{k:LE->Dn.S Ty.T->AH α}{r:α}{e:LE}{s:Dn.S Ty.T}:∀ {xs:AG (LE×S U)} {h:Ex Ty.T xs},JB (dL wv) xs e s=AC h->oP k xs h=AC r->∃(p:S U) (hl:HL Ty.T p.lt),p.fit (dL wv) s=AC hl/\k e (p.mk' hl)=AC r
 | [],h,hi,_=>by cases hi
 | [(a,p)],h,hi,f=>by simp only [JB] at hi;have l:=TV hi;clear hi;obtain ⟨g,hi⟩:=l;subst g;exact ⟨p,h,hi,f⟩
 | (a,p)::q::r',h,hi,f=>by
  simp only [JB] at hi;split at hi
  .rename_i g;subst g;cases d:p.fit (dL wv) s with
   | none=>rw [d] at hi;cases hi
   | some hl=>
    rw [d] at hi;injection hi with hi;subst hi;exact ⟨p,hl,d,f⟩
  .cases d:JB (dL wv) (q::r') e s with
   | none=>rw [d] at hi;cases hi
   | some m=>
    rw [d] at hi;injection hi with hi;subst hi;exact xI (h:=m) d f
theorem J69{w:World}{S:AM->Prop}{s:Dn.S Ty.T}{μ μ':Gh}{h':Heap}{w':World}{caps:AG (AM×AM×AM)}{cs:Array Value}{y:Value}(hl:(caps.map λc=>AV.ptr c.1 c.2.1 c.2.2).length=cs.size)
  (hr:∀(i:AM) (x:AV),(caps.map λc=>AV.ptr c.1 c.2.1 c.2.2)[i]?=AC x->AX w S (AA s) μ x (cs.getD i undef)) (tr:∀ {g v o:AM} {cv:Value},AX w S (AA s) μ (.ptr g v o) cv->AX w' S h' μ' (.ptr g v o) cv) {j:AM} (d:AX w' S h' μ' (.Fu j) y) :
  (#[y]++cs).size=(V.c (ι:=Ty.T) (.yl j)::caps.map λc=>V.c (C.ptr c.1 c.2.1 c.2.2)).length/\∀(i:AM) (x:V Ty.T),(V.c (ι:=Ty.T) (.yl j)::caps.map λc=>V.c (C.ptr c.1 c.2.1 c.2.2))[i]?=AC x->∀s',AX w' S h' μ' (AL s' x) ((#[y]++cs).getD i undef):=by
 refine ⟨by simp at hl ⊢;omega,λi x hx s'=>?_⟩;cases i with
 | zero=>
  simp only [List.getElem?_cons_zero,Option.some.injEq] at hx;subst hx;have e:(#[y]++cs).getD 0 undef=y:=by simp [Ae,Array.getElem?_append]
  rw [e];exact d
 | succ i=>
  simp only [Bn,Ad] at hx;have e:(#[y]++cs).getD (i+1) undef=cs.getD i undef:=by simp only [Ae];rw [Array.getElem?_append_right (by simp)];simp
  rw [e];cases a:caps[i]? with
  | none=>rw [a] at hx;cases hx
  | some c=>
   rw [a] at hx;injection hx with hx;subst hx;exact tr (hr i _ (by rw [Ad,a];rfl))
section
variable {P:Program} {nt:AM} {call:Vv.Call} {base:AM} {cx:Cx} {mk:Cx->M6} {fs:AG Fm} {ro:AH AM}
theorem VA(hC:j6 call cx.ct)(hcall:JJ P call)(hI:∀hs,ZA P hs (mk { cx with hs:=hs,rd:=AF }))(hso:IX P cx)(O:cx.rd=AF->ro=AD)(hh:He P cx.hs fs)(hfs:Ew fs){g:Operand}{ps:Array Tmp}{x y:Code}{lc:LC}(l:FY P nt (.rangeFunc g ps x y)=AC lc){n:AG AM}{ex:AG (AM×AG AM)}{rt:AG AM}{α:Type}{k:LE->Dn.S Ty.T->AH α}{r:α}
  {w:World} {S:AM->Prop} {s:Dn.S Ty.T} {μ:Gh} {a:Act} {Q:Exit->Act->World->Prop} (h:BG nt w S s μ a fs) (hd:C8 mk cx base lc n ex rt val s k=AC r)
  (hQ:∀e x a' w' S' μ' s',LE.is e x->BG nt w' S' s' μ' a' fs->CY w S (AA s) μ w' S' (AA s') μ'->k e s'=AC r->Q x a' w'):(Code.rangeFunc g ps x y).wpIn (Fr ro) 0 P Q a w:=by
 simp only [FY] at l;cases hg:ED g with
 | none=>rw [hg] at l;cases l
 | some g'=>
  rw [hg] at l;simp only [Aj] at l;cases hx:FY P nt x with
  | none=>rw [hx] at l;cases l
  | some lx=>
   rw [hx] at l;simp only [Aj] at l;cases hy:FY P nt y with
   | none=>rw [hy] at l;cases l
   | some ly=>
    rw [hy] at l;simp only [Aj] at l;have l:=TV l;obtain ⟨X,l⟩:=l;injection l with l;subst l;simp only [Ah] at X;have hps1:∀t∈ps.toList,t<nt:=λt ht=>by
     have:=Ar.1 X.1 t ht;have:t+1<=nt:=by simpa [Bs] using this
     exact this
    simp only [C8] at hd;split at hd
    .rename_i f caps Z;have hd:=ZC hd;obtain ⟨⟨hrd,N,hny⟩,hd⟩:=hd;have O:=O hrd;subst O;have A:=Jr h.fr hg;rw [Ko,Z] at A;have A:AX w S (AA s) μ (.fn f (caps.map λc=>.ptr c.1 c.2.1 c.2.2)) (a.eval g):=A;obtain ⟨cs,ea,c1,c2⟩:=A.EZ;have L:=h.len;refine wpIn_rangeFunc λfn _=>?_;obtain ⟨rc,m⟩:∃rc:Loop,rc={ state:=.ready,pending:=AD,fn,tmps:=a.tmps,params:=ps,assign:=x,body:=y,defers:=w.heap.size }:=⟨_,rfl⟩;obtain ⟨w1,G⟩:∃w1:World,w1=(w.alloc (.deferred (AC []))).alloc (.loop rc):=⟨_,rfl⟩;obtain ⟨K,Y⟩:∃K:Act,K={ a with defers:=[{ target:=.collected w.heap.size,args:=#[] }]++a.defers }:=⟨_,rfl⟩;obtain ⟨hfk,hcl⟩:=hI _ hd;have hF1:BG nt w1 S s μ a fs:=G▸(h.lay _).lay _;have ev1:CY w S (AA s) μ w1 S (AA s) μ:=G▸(mO _).trans (mO _);have hb0:w1.heap[w.heap.size]?=AC (.deferred (AC [])):=by rw [G,(sO _).keep _ (by simp)];exact World.alloc_heap_new w _
     have E:w1.heap[w.heap.size+1]?=AC (.loop rc):=by have:=World.alloc_heap_new (w.alloc (.deferred (AC []))) (.loop rc);rw [World.size_alloc] at this;rw [G];exact this
     have J:∀d∈a.defers,d≠{ target:=.collected w.heap.size,args:=#[] }:=λd hd e=>by obtain ⟨q,e2,hq,-⟩:=h.fr.df.2 d hd;rw [e2] at e;injection e with e;injection e with e;have:=(Aa.1 hq).1;omega
     have hF1':BG nt w1 S s μ K fs:=by
      rw [Y];refine ⟨⟨hF1.fr.fr,hF1.fr.hp,⟨Bo.2 ⟨λq=>J _ q rfl,hF1.fr.df.1⟩,λd hd=>?_⟩,hF1.fr.sz⟩,hF1.len,hF1.lo,hF1.sz,?_,hF1.lp,hF1.iv⟩
      .rcases Ag.1 hd with hd|hd
       .exact ⟨_,hd,hb0,λq=>by have:=h.fr.hp.lt _ q;omega⟩
       .exact hF1.fr.df.2 d hd
      .cases fs with
       | nil=>trivial
       | cons f fs=>
        refine ⟨λd hd=>?_,h.md.2⟩;rcases Ag.1 hd with hd|hd
        .exact ⟨_,hd,(h.sz f Ac).2.2⟩
        .exact h.md.1 d hd
     have B:∀p∈fs,∀i q,p.lo=AC (i,q)->i≠s.lo.length/\μ.l i≠w.heap.size+1:=λp F i q hi=>by
      obtain ⟨pre,post,e⟩:=Bg F;have h1:=hfs pre p post e i q hi;have h2:fs.length=pre.length+(post.length+1):=by rw [e];simp
      have h3:=(Aa.1 (h.lp p F i q hi).1).1;omega
     have hF2:BG nt w1 S s (Gh.lab μ s.lo.length (w.heap.size+1)) K fs:=hF1'.lab hny λp F i q hi=>(B p F i q hi).1;have M:(Gh.lab μ s.lo.length (w.heap.size+1)).l s.lo.length=w.heap.size+1:=Jg _ _ _;have hnS:¬S (w.heap.size+1):=λq=>by have:=h.fr.hp.lt _ q;omega
     have eh2:AA (s.push (Ib (adds ((FT lx (FT ly [] [] []) [] []).filter λx=>!EY x ps.toList) n)) [])=AA s:=Zd rfl rfl;have H:BG 0 w1 S (s.push (Ib (adds ((FT lx (FT ly [] [] []) [] []).filter λx=>!EY x ps.toList) n)) []) (Gh.lab μ s.lo.length (w.heap.size+1)) KO (⟨nt,K,AC (s.lo.length,rc),w1.heap.size⟩::fs):=
      hF2.push (λp F=>by cases F) (λi q hi=>by injection hi with hi;injection hi with e1 e2;subst e1;subst e2;rw [M];exact ⟨E,hnS,λp' hp' i' q' hq' hne=>by simp only [Gh.lab,Jd _ _ _ _ hne];exact (B p' hp' i' q' hq').2⟩) (by rw [J9j];have:AA (⟨[],kept s.sl (Ib (adds ((FT lx (FT ly [] [] []) [] []).filter λx=>!EY x ps.toList) n))::s.lo,s.ob,s.ln,s.mo⟩:Dn.S Ty.T)=AA s:=Zd rfl rfl;rw [this];exact VE hF2.fr.hp) rfl
     have hhs:He P ((s.lo.length,⟨base,ps.toList,lx,ly⟩)::cx.hs) (⟨nt,K,AC (s.lo.length,rc),w1.heap.size⟩::fs):=by
      intro i hd' hi;rw [Kp] at hi;split at hi
      .rename_i e;injection hi with hi;subst hi;subst e;exact ⟨[],_,fs,rc,rfl,L,rfl,by rw [m],by rw [m],by rw [m,Y],by rw [m],by rw [m];exact hx,by rw [m];exact hy,hps1,yL X.2⟩
      .exact (hh.push _) i hd' hi
     have hfs2:Ew (⟨nt,K,AC (s.lo.length,rc),w1.heap.size⟩::fs):=hfs.push λi q hi=>by injection hi with hi;injection hi with e1 e2;rw [<-e1,L]
     have hyl:AX w1 S (AA s) (Gh.lab μ s.lo.length (w.heap.size+1)) (.Fu s.lo.length) (.func (.yield (w.heap.size+1)) #[] #[]):=by have:=AX.Fu (w:=w1) (S:=S) (h:=AA s) (μ:=Gh.lab μ s.lo.length (w.heap.size+1)) s.lo.length;rw [M] at this;exact this
     obtain ⟨as1,as2⟩:=J69 (s:=s) c1 c2 (λ{g v o cv} hr=>mZ (s:=s) (j:=s.lo.length) (x:=w.heap.size+1) (c:=.ptr g v o) rfl (hr.Cz h.fr.hp ev1 (.refl _ _))) hyl;have okf:FV s (.fn f caps):=by have:=Lh h.iv g';rw [Z] at this;exact this _ (Af.2 rfl)
     have okv:∀v∈(V.c (ι:=Ty.T) (.yl s.lo.length)::caps.map λc=>V.c (C.ptr c.1 c.2.1 c.2.2)),okV s v:=λv Z=>by
      rcases Ag.1 Z with rfl|Z
      .exact Xe (Ka s rfl)
      .obtain ⟨c,l,rfl⟩:=Ap.1 Z;refine Xe λr hr=>?_;have:=Af.1 hr;subst this;exact okf (c.1,c.2.1) (Ap.2 ⟨c,l,rfl⟩)
     have hcs:=(hcl H hhs hfs2 okv as1 (λi x hx=>by rw [eh2];exact as2 i x hx _) (R:=rangePost (Fr AD) 0 P (w.heap.size+1) Q K) rfl λw' S' μ' v s' cv r1 r2 r3 r4 r5=>?_).1 N
     .have hres:(resolve a.eval (rangeCall g (w.heap.size+1)) 0).run P w1=.ok { target:=.fn (.func f) cs,args:=#[.func (.yield (w.heap.size+1)) #[] #[]] } w1:=by
       have e1:resolve a.eval (rangeCall g (w.heap.size+1)) 0=Deferred.ofValue (a.eval g) #[.func (.yield (w.heap.size+1)) #[] #[]]:=by simp [resolve,rangeCall,Act.eval]
       rw [e1,ea];rfl
      have hent:(Instr.enterLoop fn a.tmps ps x y (Fr AD).round).run P w=.ok (w.heap.size+1,[{ target:=.collected w.heap.size,args:=#[] }]) w1:=by rw [G,m];exact run_enterLoop_outer fn a.tmps ps x y
      rw [Y] at hcs;exact ⟨w.heap.size+1,[{ target:=.collected w.heap.size,args:=#[] }],w1,_,w1,f,_,w1,hent,hres,λ_ _=>trivial,Kx (hfk N) _ _,λq=>(by cases q),J3t hcs⟩
     .-- the function has returned
      have hl1:w'.heap[w.heap.size+1]?=AC (.loop rc):=(r4.keep _ (Aa.1 E).1 (H.fr.hp.GX E (by intros;simp) (by intros;simp))).trans E;have hnS':¬S' (w.heap.size+1):=λq=>by
       rcases r4.st2 _ q with q|q|q
       .exact hnS q
       .have:=(Aa.1 E).1;omega
       .exact H.fr.hp.GX E (by intros;simp) (by intros;simp) q
      have r5:=ZC r5;obtain ⟨hny',r5⟩:=r5;have hμ:Gh.lab μ' s.lo.length (μ.l s.lo.length)=⟨μ'.b,μ'.o,μ.l⟩:=by
       unfold Gh.lab
       congr 1
       funext i;rw [r4.lp];simp only [Gh.lab,upd];split
       .rename_i e;rw [e]
       .rfl
      have r1':BG nt w' S' s' ⟨μ'.b,μ'.o,μ.l⟩ K fs:=hμ▸r1.lab hny' λp F i q hi=>(B p F i q hi).1;have r1'':=r1'.eO hl1 hnS' (λp F i q hi=>(B p F i q hi).2) (.loop { rc with state:=.exhausted });refine ⟨AD,w'.putObj (w.heap.size+1) (.loop { rc with state:=.exhausted }),?_,?_⟩
      .have F:rc.pending=AD:=by rw [m]
       have:=run_endLoop (P:=P) hl1 (by rw [m];intro q;cases q);rw [this,F]
      have ev2:CY w S (AA s) μ w' S' (AA s') ⟨μ'.b,μ'.o,μ.l⟩:=ev1.trans (by have:=Wv μ.l r4;rw [eh2] at this;exact this);refine hQ .normal .normal _ _ _ _ _ trivial r1'' ⟨ev2.os,ev2.tape,ev2.output,by simpa using ev2.size,λb hb hn=>(Yh (by omega)).trans (ev2.keep b hb hn),λb cs el z l=>?_,ev2.st,ev2.st2,ev2.ow,ev2.lp⟩ r5;obtain ⟨cs',q1,q2⟩:=ev2.shape b cs el z l;exact ⟨cs',(Yh (by have:=(Aa.1 l).1;omega)).trans q1,q2⟩
    .cases hd
theorem Jtm(cx:Cx):∀l:AG (AM×AP),(rV cx l).1++(rV cx l).2=l
 | []=>rfl
 | p::r=>by
  have a:=Jtm cx r;simp only [rV];split
  .rfl
  .simp only [List.cons_append,a]
theorem nu{P:Program}{b:Frame}{a:Act}{k:AG Item}{cs:AG Frame}{w:World}{c:Code}:step P (lone (b.atR a (.code (.scope c)::k)) cs w)=.next (lone (b.atR a (.code c::.inScope c::k)) cs w):=
 step_lone_go (by simp [stepG,stepG.exec,Frame.atR])
theorem Juf{P:Program}{b:Frame}{a:Act}{k:AG Item}{cs:AG Frame}{w:World}{c:Code}:step P (lone (b.atR a (.inScope c::k)) cs w)=.next (lone (b.atR a k) cs w):=
 step_lone_go (by simp [stepG,stepG.exec,Frame.atR])
theorem J46{F:Fence}{n:AM}{P:Program}{Q:Exit->Act->World->Prop}{a:Act}{w:World}{c:Code}(h:c.wpIn F n P (Exit.noGoto Q) a w):(Code.scope c).wpIn F n P Q a w:=by
 intro b k cs m y hr;have g:(lone (b.atR a (.code (.scope c)::k)) cs w).fenced P F:=fenced_calm y hr rfl;obtain ⟨e,a₁,w₁,f,d⟩:=h b (.inScope c::k) cs m y hr;cases e with
 | normal=>exact ⟨.normal,a₁,w₁,f,.head g nu (StepsIn.trans d (.one (fenced_calm y hr rfl) Juf))⟩
 | exit id=>
  have hx:exitTo id (.inScope c::k)=exitTo id k:=by simp [exitTo]
  exact ⟨.exit id,a₁,w₁,f,λk' v=>.head g nu (d.1 k' (by rw [hx];exact v)),λr v=>let ⟨k₁,B,A⟩:=d.2 r (by rw [hx];exact v);⟨k₁,B,.head g nu A⟩⟩
 | goto l=>exact f.elim
 | ret=>exact ⟨_,a₁,w₁,f,.of_steps (.one g nu) d⟩
 | panic ch=>exact ⟨_,a₁,w₁,f,.of_steps (.one g nu) d⟩
 | outgrown=>exact ⟨_,a₁,w₁,f,.of_steps (.one g nu) d⟩
theorem J2b(hC:j6 call cx.ct)(F:JJ P call)(hI:∀hs,ZA P hs (mk { cx with hs:=hs,rd:=AF }))(hm:P.follows .mixedOrders=AE)(hso:IX P cx)(hro:cx.rd=AF->ro=AD)(hh:He P cx.hs fs)(hfs:Ew fs):∀(c:Code) {lc:LC} (f:FY P nt c=AC lc) {n:AG AM} {ex:AG (AM×AG AM)} {rt:AG AM} {α:Type} {k:LE->Dn.S Ty.T->AH α} {r:α}
  {w:World} {S:AM->Prop} {s:Dn.S Ty.T} {μ:Gh} {a:Act} {Q:Exit->Act->World->Prop},BG nt w S s μ a fs->C8 mk cx base lc n ex rt val s k=AC r ->
  (∀e x a' w' S' μ' s',LE.is e x->BG nt w' S' s' μ' a' fs->CY w S (AA s) μ w' S' (AA s') μ'->k e s'=AC r->Q x a' w')->c.wpIn (Fr ro) 0 P Q a w:=by
 intro c
 induction c with
 | skip=>
  intro lc f n ex rt α k r w S s μ a Q h hd hQ;injection f with f;subst f;exact Go.wpIn_skip (hQ .normal .normal _ _ _ _ _ trivial h .refl hd)
 | region id ops draw=>
  intro lc f n ex rt α k r w S s μ a Q h hd hQ;simp only [FY] at f;obtain ⟨L,hL,rfl⟩:=Yd f;simp only [C8] at hd;have fin:∀ {a' w' S' μ' s'},BG nt w' S' s' μ' a' fs->CY w S (AA s) μ w' S' (AA s') μ'->k .normal (mD val cx.ty (cx.keep id) s.ob.length s')=AC r->Q .normal a' w':=λG E v=>by obtain ⟨S2,μ2,O,K⟩:=J9o cx.ty (cx.keep id) s.ob.length G;exact hQ .normal .normal _ _ _ _ _ trivial O (E.trans K) v
  cases draw with
  | true=>
   rw [AS rfl] at hd;split at hd
   .refine Rl hC F hm h hL hd (λL' L2 s' M=>?_) λa' w' S' μ' s' L' L2 G E v=>?_
    .split at M
     .rename_i H;rcases Bt.1 H with q|q
      .exact .inl q
      .exact .inr q
     .cases M
    .split at v
     .exact fin G E v
     .cases v
   .rename_i A p R hsp;have hAB:L=A++(p::R):=by rw [<-Jtm cx L,hsp]
    rw [hAB] at hL;refine J7s hC F hm h hL hd (λL' L2 s' M=>?_) λa' w' S' μ' s' L' L2 os G E v r4 r5=>?_
    .split at M
     .rename_i H;rcases Bt.1 H with q|q
      .exact .inl q
      .exact .inr q
     .cases M
    .split at v
     .exact Jzx hC F (hI cx.hs) hso hh hfs r4 r5 G v λa2 w2 S2 μ2 s2 O K N=>fin O (E.trans K) N
     .cases v
  | false=>
   rw [AR (by decide)] at hd;refine wpIn_region_list (Jzx hC F (hI cx.hs) hso hh hfs hL ?_ h hd λa' w' S' μ' s' G E v=>fin G E v);apply List.ext_getElem?;intro i;simp only [Ad,Bq];by_cases hi:i<ops.size
   .rw [List.getElem?_range hi];simp [hi]
   .rw [List.getElem?_eq_none (by simpa using hi)];simp [hi]
 | seq x y Y X=>
  intro lc f n ex rt α k r w S s μ a Q h hd hQ;simp only [FY] at f;cases hks:lg P nt x y with
  | some lk=>
   rw [hks] at f;injection f with f;subst f;obtain ⟨i5,el,by',rfl,-,-⟩:=J0z (P:=P) (ro:=ro) hks;simp only [C8] at hd;exact P5 hks h hd λa' w' S' μ' s' G E v=>hQ .normal .normal _ _ _ _ _ trivial G E v
  | none=>
  rw [hks] at f;simp only at f;cases hx:FY P nt x with
  | none=>rw [hx] at f;cases f
  | some lx=>
   rw [hx] at f;simp only [Aj] at f;obtain ⟨ly,hy,rfl⟩:=Yd f;simp only [C8] at hd;split at hd
   case h_2=>
    generalize aK (C8 mk cx base lx (FT ly n ex rt) ex rt (α:=Unit) stat (wB s) λe s'=>[(e,Lf stat (NG (Ib (FT ly n ex rt)) ex rt e) s')])=xs at hd
    replace hd:Hz (C8 mk cx base lx (FT ly n ex rt) ex rt val s λe s'=>JB (dL wv) xs e (Lf val (NG (Ib (FT ly n ex rt)) ex rt e) s')) (oP (λe s'=>match e with|.normal=>C8 mk cx base ly n ex rt val s' k|e=>k e s') xs)=AC r:=hd
    obtain ⟨e0,H,hex⟩:=Jm7 hd;refine wpIn_seq (Y hx h H λe x' a' w' S' μ' s' is G E v=>?_);obtain ⟨S3,μ3,d1,d2⟩:=Jvf (NG (Ib (FT ly n ex rt)) ex rt e) G;obtain ⟨p,hp,g1,g2⟩:=xI v hex;obtain ⟨S4,μ4,d3,d4⟩:=rY d1 g1;cases e with
    | normal=>
     cases x'<;>simp only [LE.is] at is;exact X hy d3 g2 λe2 x2 a2 w2 S2 μ2 s2 is2 O K N=>hQ e2 x2 _ _ _ _ _ is2 O (E.trans (d2.trans (d4.trans K))) N
    | exit i=>
     cases x'<;>simp only [LE.is] at is;subst is;exact hQ (.exit i) (.exit i) _ _ _ _ _ rfl d3 (E.trans (d2.trans d4)) g2
    | ret=>
     cases x'<;>simp only [LE.is] at is;exact hQ .ret .ret _ _ _ _ _ trivial d3 (E.trans (d2.trans d4)) g2
   refine wpIn_seq (Y hx h hd λe x' a' w' S' μ' s' is G E v=>?_);cases e with
   | normal=>
    cases x'<;>simp only [LE.is] at is;exact X hy G v λe2 x2 a2 w2 S2 μ2 s2 is2 O K N=>hQ e2 x2 _ _ _ _ _ is2 O (E.trans K) N
   | exit i=>
    cases x'<;>simp only [LE.is] at is;subst is;exact hQ (.exit i) (.exit i) _ _ _ _ _ rfl G E v
   | ret=>
    cases x'<;>simp only [LE.is] at is;exact hQ .ret .ret _ _ _ _ _ trivial G E v
 | cond c x y Y X=>
  intro lc f n ex rt α k r w S s μ a Q h hd hQ;simp only [FY] at f;cases hcc:ED c with
  | none=>rw [hcc] at f;cases f
  | some c'=>
   rw [hcc] at f;simp only [Aj] at f;cases hx:FY P nt x with
   | none=>rw [hx] at f;cases f
   | some lx=>
    rw [hx] at f;simp only [Aj] at f;obtain ⟨ly,hy,rfl⟩:=Yd f;simp only [C8] at hd;have H:=Jr h.fr hcc;rw [Ko] at H;split at hd
    .rename_i t ht;rw [ht] at H;have H:AX w S (AA s) μ (.bool t) (a.eval c):=H;refine wpIn_cond H.Ca ?_;cases t with
     | true=>rw [AS rfl] at hd ⊢;exact Y hx h hd hQ
     | false=>rw [AR (by decide)] at hd ⊢;exact X hy h hd hQ
    .rename_i t ht;rw [ht] at H;obtain ⟨t,rfl⟩:∃T:AN,(show Ty.T .bool from T)=t:=⟨t,rfl⟩;have H:AX w S (AA s) μ (.bool t) (a.eval c):=H;refine wpIn_cond H.Ca ?_;split at hd
     .rename_i d;have hf:∀q:AN,(t:AN)=q->(enc s).f d=.bool q:=λq e=>by have:s.at d=.c (.lf .bool t):=ht;rw [J2t this,<-e];rfl
      have al:∀q:AN,(t:AN)=q->BG nt w S (s.put (AC d) (.c (.kb q))) μ a fs:=λq e=>h.alike (jR (hf q e)) (.put s _ _) (h.iv.put LV _);have eh:∀q:AN,AA (s.put (AC d) (.c (.kb q)))=AA s:=λq=>jO _ _ _;rcases Sv hd with ⟨e,hd⟩|⟨e,hd⟩
      .have e:t=AE:=e;rw [AS e];exact Y hx (al AE e) hd λe2 x2 a2 w2 S2 μ2 s2 is2 O K N=>hQ e2 x2 _ _ _ _ _ is2 O (by rw [eh] at K;exact K) N
      .have e:t=AF:=e;rw [AR (by rw [e];decide)];exact X hy (al AF e) hd λe2 x2 a2 w2 S2 μ2 s2 is2 O K N=>hQ e2 x2 _ _ _ _ _ is2 O (by rw [eh] at K;exact K) N
     .cases hd
    .cases hd
 | scope b ih=>
  intro lc f n ex rt α k r w S s μ a Q h hd hQ;simp only [FY] at f;refine J46 (ih f h hd λe x a' w' S' μ' s' is G E v=>?_);have:=hQ e x a' w' S' μ' s' is G E v;cases x<;>first|exact this|(cases e<;>cases is)
 | label l=>
  intro lc f n ex rt α k r w S s μ a Q h hd hQ;simp only [FY] at f;injection f with f;subst f;exact Go.wpIn_label (hQ .normal .normal _ _ _ _ _ trivial h .refl hd)
 | block id b ih=>
  intro lc f n ex rt α k r w S s μ a Q h hd hQ;simp only [FY] at f;obtain ⟨lb,H,rfl⟩:=Yd f;simp only [C8] at hd;refine wpIn_block (ih H h hd λe x a' w' S' μ' s' is G E v=>?_);cases e with
  | normal=>
   cases x<;>simp only [LE.is] at is;rw [AR (by intro q;cases q)] at v;exact hQ .normal .normal _ _ _ _ _ trivial G E v
  | ret=>
   cases x<;>simp only [LE.is] at is;rw [AR (by intro q;cases q)] at v;exact hQ .ret .ret _ _ _ _ _ trivial G E v
  | exit i=>
   cases x<;>simp only [LE.is] at is;subst is;simp only [Exit.inBlock];by_cases hi:i=id
   .subst hi;rw [AS rfl] at v ⊢;exact hQ .normal .normal _ _ _ _ _ trivial G E v
   .rw [AR (by intro q;injection q with q;exact hi q)] at v;rw [AR hi];exact hQ (.exit i) (.exit i) _ _ _ _ _ rfl G E v
 | loop b ih=>
  intro lc f n ex rt α k r w S s μ a Q h hd hQ;simp only [FY] at f;obtain ⟨lb,H,rfl⟩:=Yd f;simp only [C8] at hd;generalize gP (λsh=>C8 mk cx base lb (Ib (FT lb [] ex rt)) ex rt (α:=Unit) stat sh λe s'=>[(e,Lf stat (NG (Ib (FT lb [] ex rt)) ex rt e) s')]) 4 (wB (Lf val (Ib (FT lb [] ex rt)) s))=fx at hd;obtain ⟨sh,xs⟩:=fx;simp only at hd;generalize hh:Ib (FT lb [] ex rt)=M at hd
  replace hd:Pp wv (dL wv) sh xs (λe s'=>Lf val (NG M ex rt e) s') (λs' k'=>C8 mk cx base lb M ex rt val s' k') (Lf val M s) k=AC r:=hd
  unfold Pp at hd;split at hd
  .cases hd
  .rename_i h0 hf0;generalize hB:(λh=>C8 mk cx base lb M ex rt val (sh.mk' h) λe s'=>(match e with
    | .normal=>(sh.fit (dL wv) (Lf val (NG M ex rt .normal) s')).map Nx.go
    | e=>(JB (dL wv) xs e (Lf val (NG M ex rt e) s')).map Nx.out:AH (Nx (HL Ty.T sh.lt) (Ex Ty.T xs))))=B
   have hd:Hz (Qm B CK h0) (oP k xs)=AC r:=by rw [<-hB];exact hd
   obtain ⟨e,hl,hex⟩:=Jm7 hd;obtain ⟨S0,μ0,c1,c2⟩:=Jvf M h;obtain ⟨S1,μ1,c3,c4⟩:=rY c1 hf0;let J:AM->Act->World->Prop:=λm a1 w1=>∃hm Sm μm,Qm B m hm=AC e/\BG nt w1 Sm (sh.mk' hm) μm a1 fs/\CY w S (AA s) μ w1 Sm (AA (sh.mk' hm)) μm;refine wpIn_loop (λa1 w1=>∃m,J m a1 w1) (λa1 w1=>sI λm=>J m a1 w1) ⟨CK,h0,S1,μ1,hl,c3,c2.trans c4⟩ λa1 w1 hI'=>?_;have hmin:=(Jnr hI').1;generalize (sI λm=>J m a1 w1)=m at hmin ⊢;obtain ⟨hm',Sm,μm,Z,j2,j3⟩:=hmin;cases m with
   | zero=>cases Z
   | succ m=>
    simp only [Qm] at Z;cases hBm:B hm' with
    | none=>rw [hBm] at Z;cases Z
    | some nx=>
     rw [hBm] at Z;have hbd:=hBm;rw [<-hB] at hbd;refine ih H j2 hbd λe1 x1 a2 w2 S2 μ2 s2 is O K N=>?_;obtain ⟨S3,μ3,d1,d2⟩:=Jvf (NG M ex rt e1) O;cases e1 with
     | normal=>
      cases x1<;>simp only [LE.is] at is;obtain ⟨h',hf',rfl⟩:=Yd N;obtain ⟨S4,μ4,d3,d4⟩:=rY d1 hf';simp only [Exit.then];have hJ:J m a2 w2:=⟨h',S4,μ4,Z,d3,j3.trans (K.trans (d2.trans d4))⟩;exact ⟨⟨m,hJ⟩,Nat.lt_succ_of_le ((Jnr ⟨m,hJ⟩).2 m hJ)⟩
     | exit i=>
      cases x1<;>simp only [LE.is] at is;subst is;obtain ⟨h',hf',rfl⟩:=Yd N;injection Z with Z;subst Z;obtain ⟨p,hp,g1,g2⟩:=xI hf' hex;obtain ⟨S4,μ4,d3,d4⟩:=rY d1 g1;exact hQ (.exit i) (.exit i) _ _ _ _ _ rfl d3 (j3.trans (K.trans (d2.trans d4))) g2
     | ret=>
      cases x1<;>simp only [LE.is] at is;obtain ⟨h',hf',rfl⟩:=Yd N;injection Z with Z;subst Z;obtain ⟨p,hp,g1,g2⟩:=xI hf' hex;obtain ⟨S4,μ4,d3,d4⟩:=rY d1 g1;exact hQ .ret .ret _ _ _ _ _ trivial d3 (j3.trans (K.trans (d2.trans d4))) g2
 | exit id=>
  intro lc f n ex rt α k r w S s μ a Q h hd hQ;injection f with f;subst f;exact wpIn_exit (hQ (.exit id) (.exit id) _ _ _ _ _ rfl h .refl hd)
 | ret=>
  intro lc f n ex rt α k r w S s μ a Q h hd hQ;injection f with f;subst f;exact wpIn_ret (hQ .ret .ret _ _ _ _ _ trivial h .refl hd)
 | rangeFunc g ps x y Y X=>
  intro lc f n ex rt α k r w S s μ a Q h hd hQ;exact VA hC F hI hso hro hh hfs f h hd hQ
 | _=>intro lc f;cases f
end
def rU(a:Act):ResultVar->Sem Value
 | .tmp t=>pure (a.tmps.getD t undef)
 | .cell b t=>do loadVar t (<-asAddr (a.tmps.getD b undef))
section
variable {P:Program} {w:World} {S:AM->Prop} {σ:St} {μ:Gh} {a:Act} {nt:AM}
theorem J8o(hs:DN nt w S σ μ a):∀ {l:AG ResultVar} {rs:AG RV} {vs:AG AV},Fa (lV P) l=AC rs->rs.mapM (RV.get σ)=AC vs ->
  ∃cs:AG Value,(l.mapM (rU a)).run P w=.ok cs w/\cs.length=vs.length/\∀i x,vs[i]?=AC x->AX w S σ.h μ x (cs.getD i undef)
 | [],rs,vs,g,f=>by injection g with g;subst g;simp at f;subst f;exact ⟨[],by simp,rfl,λi x hi=>by simp at hi⟩
 | r::l,rs,vs,g,f=>by
  simp only [Fa] at g;cases hx:lV P r with
  | none=>rw [hx] at g;cases g
  | some x=>
   rw [hx] at g;simp only [Aj] at g;obtain ⟨m,K,rfl⟩:=Yd g;rw [Bf] at f;cases d:RV.get σ x with
   | none=>rw [d] at f;cases f
   | some v=>
    cases A:m.mapM (RV.get σ) with
    | none=>rw [d,A] at f;cases f
    | some us=>
     rw [d,A] at f;injection f with f;subst f;obtain ⟨cs,N,M,L⟩:=J8o hs K A;have one:∃cv,(rU a r).run P w=.ok cv w/\AX w S σ.h μ v cv:=by
      cases r with
      | tmp t=>
       simp [lV] at hx;subst hx;simp [RV.get] at d;subst d;exact ⟨_,by simp [rU],hs.fr t⟩
      | cell b t=>
       simp only [lV] at hx;cases h:Cn P t with
       | none=>rw [h] at hx;cases hx
       | some ag=>
        cases E:FJ P t with
        | none=>rw [h,E] at hx;cases hx
        | some n=>
         rw [h,E] at hx;simp only [Aj] at hx;have hx:=TV hx;obtain ⟨B,hx⟩:=hx;injection hx with hx;subst hx;simp only [RV.get] at d;have hd:∃ad,a.tmps.getD b undef=.pointer (AC ad):=by
          unfold IY at d;split at d
          .rename_i O off hd;obtain ⟨ad,e,_⟩:=Jp1 hs.hp (hs.fr b) hd;exact ⟨ad,e⟩
          .cases d
         obtain ⟨ad,e⟩:=hd;obtain ⟨cv,F,G⟩:=uJ (P:=P) hs.hp h E B (hs.fr b) d;refine ⟨cv,?_,G⟩;rw [e] at F;simp only [rU,e];simpa [Instr.loadAt,Instr.sureAddr,asAddr] using F
     obtain ⟨cv,J,H⟩:=one;refine ⟨cv::cs,?_,by simp [M],λi y hi=>?_⟩
     .rw [Bf];simp only [Sem.run_bind,J,N,Result.andThen_ok,Sem.run_pure]
     .cases i with
      | zero=>simp at hi;subst hi;simpa using H
      | succ i=>simpa using L i y (by simpa using hi)
theorem Jqp{s:Dn.S Ty.T}(hi:Inv s){α:Type}{r:α}:∀ {rs:AG RV} {k:AG (V Ty.T)->AH α},Ii val s rs k=AC r->∃l,rs.mapM (RV.get (enc s))=AC (l.map (AL s))/\(∀v∈l,okV s v)/\k l=AC r
 | [],k,h=>⟨[],rfl,λv d=>(by cases d),h⟩
 | .tmp t::rs,k,h=>by
  simp only [Ii] at h;obtain ⟨l,a,b,c⟩:=Jqp hi h;refine ⟨s.at t::l,?_,λv d=>?_,c⟩
  .rw [Bf,a];rfl
  .rcases Ag.1 d with rfl|d
   .exact hi.at t
   .exact b v d
 | .cell t ag n::rs,k,h=>by
  simp only [Ii] at h;obtain ⟨v,v1,v2,h⟩:=J20 hi (hi.at t) h;obtain ⟨l,a,b,c⟩:=Jqp hi h;refine ⟨v::l,?_,λu f=>?_,c⟩
  .rw [Bf,a];have:RV.get (enc s) (.cell t ag n)=AC (AL s v):=v1;rw [this];rfl
  .rcases Ag.1 f with rfl|f
   .exact v2
   .exact b u f
theorem Kah(s:Dn.S Ty.T)(l:AG (V Ty.T))(ok:∀v∈l,okV s v){cs:AG Value}(hl:cs.length=l.length)(hr:∀(i:AM) (x:AV),(l.map (AL s))[i]?=AC x->AX w S (AA s) μ x (cs.getD i undef)) :
  okV s (TR l)/\AX w S (AA s) μ (AL s (TR l)) (if h:cs.toArray.size=1 then cs.toArray[0] else .tuple cs.toArray):=by
 have tp:okV s (.tp (l.map V.toP))/\AX w S (AA s) μ (AL s (.tp (l.map V.toP))) (.tuple cs.toArray):=by
  refine ⟨λc d=>?_,?_⟩
  .simp only [V.all,List.mem_flatMap,Ap] at d;obtain ⟨p,⟨v,a,rfl⟩,d⟩:=d;cases v with
   | c x=>exact ok _ a c d
   | ag l=>exact ok _ a c d
   | tp l=>cases d
  .refine .Cb _ _ (by simp [hl]) λi x hx=>?_;rw [Ad,Ad] at hx;cases a:l[i]? with
   | none=>rw [a] at hx;cases hx
   | some v=>
    rw [a] at hx;injection hx with hx;have:=hr i (AL s v) (by rw [Ad,a];rfl);have e:cs.toArray.getD i undef=cs.getD i undef:=by simp
    rw [e,<-hx];cases v with
    | c y=>exact this
    | ag m=>exact this
    | tp m=>exact .any _
 match l,hl,tp with
 | [],hl,tp=>
  have:cs=[]:=Ak hl;subst this;exact ⟨tp.1,tp.2⟩
 | [v],hl,tp=>
  match cs,hl with
  | [c],_=>exact ⟨ok v (Af.2 rfl),by simpa [TR] using hr 0 _ rfl⟩
 | u::v::m,hl,tp=>
  have f:¬cs.toArray.size=1:=by simp at hl ⊢;omega
  rw [dif_neg f];exact tp
theorem Jq8{s:Dn.S Ty.T}(hs:DN nt w S (enc s) μ a)(hi:Inv s){fn:Func}{rs:AG RV}{α:Type}{r:α}{k:AG (V Ty.T)->AH α}(m:Fa (lV P) fn.results.toList=AC rs)(g:Ii val s rs k=AC r) :
  ∃l cv,(results fn a.tmps).run P w=.ok cv w/\okV s (TR l)/\AX w S (AA s) μ (AL s (TR l)) cv/\k l=AC r:=by
 obtain ⟨l,E,B,a3⟩:=Jqp hi g;obtain ⟨cs,A,y,v⟩:=J8o hs m E;obtain ⟨f,d⟩:=Kah (w:=w) (S:=S) (μ:=μ) s l B (by simpa using y) v;refine ⟨l,_,?_,f,d,a3⟩;have e:results fn a.tmps=(do let vs <-fn.results.mapM (rU a);pure (if h:vs.size=1 then vs[0] else .tuple vs)):=by
  unfold results
  congr 2
 rw [e,Array.mapM_eq_mapM_toList];simp only [Sem.run_bind,Sem.run_map,A,Result.andThen_ok,Sem.run_pure]
end
def mF(P:Program)(cx:Cx):Prop:=∀f lf,cx.code f=AC lf->vM P f=AC lf
theorem Jm0:∀ {vs:AG (V Ty.T)} {j d:AM},look d (Ms j vs)=if j<=d then vs[d - j]? else AD
 | [],j,d=>by simp [Ms,look]
 | v::r,j,d=>by
  simp only [Ms];rw [Kp,Jm0];by_cases f:j=d
  .subst f;simp
  .rw [AR f];by_cases a:j<=d
   .rw [AS (by omega),AS a,show d - j=(d - (j+1))+1 by omega,Bn]
   .rw [AR (by omega),AR a]
theorem Jp9:∀ {vs:AG (V Ty.T)} {j:AM} {p:AM×V Ty.T},p∈Ms j vs->p.2∈vs
 | [],j,p,h=>by cases h
 | v::r,j,p,h=>by
  rcases Ag.1 h with rfl|h
  .exact Ac
  .exact Ab _ (Jp9 h)
structure ZV (D:AM) (w w':World):Prop where
 os:w'.os=w.os
 tape:w'.tape=w.tape
 output:w'.output=w.output
 drawn:w'.drawn=w.drawn
 size:w'.heap.size=w.heap.size
 low:∀b,b<D->w'.heap[b]?=w.heap[b]?
 cells:∀(b:AM) (cs:Array Value) (el:TypeId) (z:AM×AM),w.heap[b]?=AC (.cells cs el z)->w'.heap[b]?=AC (.cells cs el z)
theorem ZV.refl(D:AM)(w:World):ZV D w w:=⟨rfl,rfl,rfl,rfl,rfl,λ_ _=>rfl,λ_ _ _ _ h=>h⟩
theorem ZV.trans{D:AM}{a b c:World}(h:ZV D a b)(k:ZV D b c):ZV D a c:=
 ⟨k.os.trans h.os,k.tape.trans h.tape,k.output.trans h.output,k.drawn.trans h.drawn,k.size.trans h.size,λb d=>(k.low b d).trans (h.low b d),λb cs el z f=>k.cells b cs el z (h.cells b cs el z f)⟩
theorem Ww{w w' a:World}{S S':AM->Prop}{h h':Heap}{μ μ':Gh}(ev:CY w S h μ w' S' h' μ')(b:ZV w.heap.size w' a):CY w S h μ a S' h' μ':=
 ⟨b.os.trans ev.os,b.tape.trans ev.tape,⟨b.output.trans ev.output.1,by rw [b.drawn];exact ev.output.2⟩,by rw [b.size];exact ev.size,λk d f=>(b.low k d).trans (ev.keep k d f),λk cs el z g=>by obtain ⟨cs',m,l⟩:=ev.shape k cs el z g;exact ⟨cs',b.cells _ _ _ _ m,l⟩,ev.st,ev.st2,ev.ow,ev.lp⟩
section
variable {P:Program} {nt:AM} {S:AM->Prop} {s:Dn.S Ty.T} {μ:Gh} {f:Fm} {fs:AG Fm} {tmps:Array Value}
theorem Jim{fn:Func}{R:Ending->World->Prop}:∀(ds:AG Deferred) {w:World},BG nt w S s μ { tmps:=tmps,defers:=ds } (f::fs) ->
  (∀A,BG nt A S s μ { tmps:=tmps,defers:=[] } (f::fs)->ZV f.d w A->LeavesIn (Fr AD) 0 P fn tmps R [] .returning A)->LeavesInM (Fr AD) 0 P fn tmps R ds .returning w
 | [],w,h,hR=>hR w h (.refl _ _)
 | d::ds,w,h,hR=>by
  obtain ⟨r,e,hr,hs⟩:=h.fr.df.2 d Ac;obtain ⟨q,y,hq⟩:=h.md.1 d Ac;have H:q=r:=by rw [e] at y;injection y with y;injection y with y;exact y.symm
  subst H;have B:=Bo.1 h.fr.df.1;have a:∀g ob,AA s g=AC ob->ob.live=AE->μ.b g≠q:=by
   rintro g ob Z hl rfl;have:=h.fr.hp.ob g ob Z;cases ob with
   | box v cells=>obtain ⟨cs,el,x,_⟩:=this;rw [hr] at x;cases x
   | arr v e t cells z=>obtain ⟨cs,x,_⟩:=this (Kz.1 hl);rw [hr] at x;cases x
   | map v es z=>obtain ⟨es',clock,x,_⟩:=this;rw [hr] at x;cases x
  have mput:∀ {l:AG Deferred},(({ target:=.collected q,args:=#[] }:Deferred)∉l)->Marks w S l->Marks (w.putObj q (.deferred AD)) S l:=λ{l} hn M=>⟨M.1,λx hx=>by obtain ⟨b,N,E,K⟩:=M.2 x hx;refine ⟨b,N,(Yh λe3=>hn ?_).trans E,K⟩;rw [<-e3,<-N];exact hx⟩
  have L:BG nt (w.putObj q (.deferred AD)) S s μ { tmps:=tmps,defers:=ds } (f::fs):=by
   refine ⟨⟨λd=>jK hs a (h.fr.fr d),J3a hs a h.fr.hp,mput (e▸B.1) ⟨B.2,λx hx=>h.fr.df.2 x (Ab _ hx)⟩,h.fr.sz⟩,h.len,λi X b h1 L d v Y=>jK hs a (h.lo i X b h1 L d v Y),
    λp m=>⟨mput (λx=>?_) (h.sz p m).1,(h.sz p m).2.1,by simpa using (h.sz p m).2.2⟩,⟨λd hd=>h.md.1 d (Ab _ hd),h.md.2⟩,λp m j r hj=>?_,h.iv⟩
   .have:=h.md.lt p m q x;omega
   .obtain ⟨F,Q,O⟩:=h.lp p m j r hj;exact ⟨(Yh λe=>by rw [e,hr] at F;cases F).trans F,Q,O⟩
  have b1:ZV f.d w (w.putObj q (.deferred AD)):=⟨rfl,rfl,rfl,rfl,by simp,λb E=>Yh (by omega),λb cs el z J=>(Yh λe=>by rw [e,hr] at J;cases J).trans J⟩;refine ⟨(by intro h;cases h),.inl ⟨q,w.putObj q (.deferred AD),by rw [e],run_takeDeferred hr,Jim ds L λA G E=>hR A G (b1.trans E)⟩⟩
end
section
variable {P:Program} {call:Vv.Call} {cx:Cx} {mk:Cx->M6}
theorem XT(hC:j6 call cx.ct)(B:JJ P call)(hm:P.follows .mixedOrders=AE)(Y:IX P cx)(hcd:mF P cx)(hI:∀hs,ZA P hs (mk { cx with hs:=hs,rd:=AF }))(hrd:cx.rd=AF)
  {α:Type} {f:FuncId} {base:AM} {vs:AG (V Ty.T)} {s:S Ty.T} {k:V Ty.T->S Ty.T->AH α} {r:α} (H:Be yB f=AF) (hd:YZ mk cx val f base vs s k=AC r) :
  C9 P f/\∀ {n0:AM} {w:World} {S:AM->Prop} {μ:Gh} {a0:Act} {fr:Fm} {fs:AG Fm} {cargs:Array Value},BG n0 w S s μ a0 (fr::fs)->He P cx.hs (fr::fs)->Ew (fr::fs)->(∀v∈vs,okV s v)->cargs.size=vs.length ->
   (∀(i:AM) (x:V Ty.T),vs[i]?=AC x->AX w S (AA s) μ (AL s x) (cargs.getD i undef))->∀ {R:Ending->World->Prop},fr.d=w.heap.size ->
   (∀w' S' μ' v s' cv,BG fr.nt w' S' s' μ' fr.act fs->okV s' v->AX w' S' (AA s') μ' (AL s' v) cv->CY w S (AA s) μ w' S' (AA s') μ'->k v s'=AC r->R (.returned cv) w')->Calls P f cargs w R:=by
 simp only [YZ,H] at hd;cases A:cx.code f with
 | none=>rw [A] at hd;cases hd
 | some lf=>
  rw [A] at hd;simp only at hd;have h:=hcd f lf A;unfold vM at h;cases N:P.funcs[f]? with
  | none=>rw [N] at h;cases h
  | some fn=>
   rw [N] at h;simp only [Aj] at h;cases H:fn.body with
   | none=>rw [H] at h;cases h
   | some c=>
    rw [H] at h;simp only [Aj] at h;split at h
    .cases h
    .rename_i m;cases y:FY P fn.ntmps c with
     | none=>rw [y] at h;cases h
     | some b=>
      rw [y] at h;simp only [Aj] at h;obtain ⟨rs,Z,rfl⟩:=Yd h;split at hd
      .rename_i hnp;refine ⟨⟨fn,N,by rw [H];rfl,by simpa using m⟩,λ{n0 w S μ a0 fr fs cargs} a hh hfs okv hsz E {R} hd0 hR=>?_⟩;have M:AA (⟨Ms 0 vs,s.lo,s.ob,s.ln,s.mo⟩:Dn.S Ty.T)=AA s:=Zd rfl rfl;have hv:∀v,AL (⟨Ms 0 vs,s.lo,s.ob,s.ln,s.mo⟩:Dn.S Ty.T) v=AL s v:=λv=>bQ rfl rfl v;have L:DN fn.ntmps w S (enc (⟨Ms 0 vs,s.lo,s.ob,s.ln,s.mo⟩:Dn.S Ty.T)) μ { tmps:=cargs++Bp (fn.ntmps - cargs.size) undef,defers:=[] }:=by
        refine ⟨λd=>?_,by show BJ w S (AA _) μ;rw [M];exact a.fr.hp,.nil,by simp;omega⟩;show AX w S (AA _) μ (AL _ (Dn.S.at _ d)) _;rw [M];unfold Dn.S.at;simp only [Jm0,Bz,if_true,Nat.sub_zero];cases K:vs[d]? with
        | none=>exact .any _
        | some v=>
         simp only;rw [hv];have hlt:d<cargs.size:=by have:=(Aw.1 K).1;omega
         have e:(cargs++Bp (fn.ntmps - cargs.size) undef).getD d undef=cargs.getD d undef:=by simp only [Ae];rw [Array.getElem?_append_left hlt]
         rw [e];exact E d v K
       have hF:BG fn.ntmps w S (⟨Ms 0 vs,s.lo,s.ob,s.ln,s.mo⟩:Dn.S Ty.T) μ { tmps:=cargs++Bp (fn.ntmps - cargs.size) undef,defers:=[] } (fr::fs):=
        ⟨L,a.len,λi l b hl hb' d v hd'=>by rw [M,hv];exact a.lo i l b hl hb' d v hd',a.sz,⟨λd hd=>(by cases hd),a.md.2⟩,a.lp,λp hp=>okv _ (Jp9 hp),a.iv.lo,a.iv.ob,a.iv.mo⟩
       refine callsIn_wide.1 (callsIn_of_wp_marks (F:=Fr AD) (n:=0) N H trivial (wpIn_mono (J2b hC B hI hm Y (λ_=>rfl) hh hfs c y hF hd (Q:=bodyPostM (Fr AD) 0 P fn R) λe x a' w' S' μ' s' is J r2 O=>?_) λ_ _ _ q=>q));have fin:Ii val s' rs (λl=>k (TR l) s'.pop)=AC r->bodyPostM (Fr AD) 0 P fn R .ret a' w':=λh3=>by
        have X:BG fn.ntmps w' S' s' μ' { tmps:=a'.tmps,defers:=a'.defers } (fr::fs):=J;refine Jim a'.defers X λw2 J g=>?_;obtain ⟨l,cv,q1,q2,q3,q4⟩:=Jq8 (P:=P) J.fr J.iv Z h3;have hp:=J.pop;have G:s'.pop.ob=s'.ob/\s'.pop.ln=s'.ln:=by unfold Dn.S.pop;split<;>exact ⟨rfl,rfl⟩
        rw [hd0] at g;refine ⟨cv,q1,hR w2 S' μ' (TR l) s'.pop cv hp (λc hc=>?_) ?_ ?_ q4⟩
        .have:=q2 c hc;intro r hr;rw [G.1];exact this r hr
        .rw [Zd G.1 G.2 (J2v _),bQ G.1 G.2];exact q3
        .rw [Zd G.1 G.2 (J2v _)];rw [M] at r2;exact Ww r2 g
       cases e with
       | exit i=>cases O
       | normal=>cases x<;>simp only [LE.is] at is;exact fin O
       | ret=>cases x<;>simp only [LE.is] at is;exact fin O
      .cases hd
end
theorem J19:∀(l:AG (AM×Value)) (T:Array Value) (d:AM),(l.map (·.1)).Nodup->(∀p∈l,p.1<T.size) ->
  (l.foldl (λt p=>t.setIfInBounds p.1 p.2) T).size=T.size/\(l.foldl (λt p=>t.setIfInBounds p.1 p.2) T).getD d undef=(match look d l with|some v=>v|none=>T.getD d undef)
 | [],T,d,_,_=>⟨rfl,rfl⟩
 | (p,v)::l,T,d,a,hs=>by
  simp only [As,Bo] at a;obtain ⟨g,f⟩:=J19 l (T.setIfInBounds p v) d a.2 (λx hx=>by simpa using hs x (Ab _ hx));simp only [List.foldl_cons];refine ⟨by rw [g];simp,?_⟩;rw [f,Kp];by_cases hd:p=d
  .subst hd;rw [AS rfl];have:look p l=AD:=by
    cases hl:look p l with
    | none=>rfl
    | some u=>exact (a.1 (Ap.2 ⟨(p,u),Xq hl,rfl⟩)).elim
   rw [this];have:=hs (p,v) Ac;simp at this;simp [this]
  .rw [AR hd];cases look d l with
   | some u=>rfl
   | none=>simp [Ae,Array.getElem?_setIfInBounds_ne hd]
theorem J7m:∀(ps:AG AM) (vs:AG (V Ty.T)) (cl:AG Value),ps.length=vs.length->cl.length=vs.length->∀d,(look d (H9 ps vs)=AD/\look d (ps.zip cl)=AD)\/∃(i:AM) (v:V Ty.T) (cv:Value),vs[i]?=AC v/\cl[i]?=AC cv/\look d (H9 ps vs)=AC v/\look d (ps.zip cl)=AC cv
 | [],_,_,_,_,d=>.inl ⟨by simp [H9,look],by simp [look]⟩
 | p::ps,[],_,h,_,d=>by simp at h
 | p::ps,v::vs,[],_,h,d=>by simp at h
 | p::ps,v::vs,c::cl,m,l,d=>by
  simp only [H9,List.zip_cons_cons];rw [Kp,Kp];by_cases hd:p=d
  .rw [AS hd,AS hd];exact .inr ⟨0,v,c,rfl,rfl,rfl,rfl⟩
  .rw [AR hd,AR hd];rcases J7m ps vs cl (by simpa using m) (by simpa using l) d with h|⟨i,g,c',a,b,e,f⟩
   .exact .inl h
   .exact .inr ⟨i+1,g,c',by simpa using a,by simpa using b,e,f⟩
theorem Jq0{α:Type}{d:AM}:∀ {a b:AG (AM×α)},look d (a++b)=(match look d a with|some v=>AC v|none=>look d b)
 | [],b=>rfl
 | (k,v)::a,b=>by
  rw [List.cons_append,Kp,Kp];split
  .rfl
  .exact Jq0
theorem Jkc{α:Type}{i j:AM}{h:α}:∀ {l:AG (AM×α)},look i (l.filter λp=>Bs p.1 j)=AC h->look i l=AC h/\i<j
 | [],hl=>by cases hl
 | (k,v)::l,hl=>by
  rw [List.filter_cons] at hl;split at hl
  .rename_i a;rw [Kp] at hl ⊢;split at hl
   .rename_i e;rw [AS e];have a:k+1<=j:=by simpa [Bs] using a
    exact ⟨hl,by omega⟩
   .rename_i e;rw [AR e];exact Jkc hl
  .rename_i a;obtain ⟨f,d⟩:=Jkc hl;rw [Kp];refine ⟨?_,d⟩;rw [AR (λe=>a ?_)]
   .exact f
   .subst e;exact Aq d
theorem J5o{α:Type}{x y f:α}{p q:AG α}:∀ {pre:AG α},x::y::p=pre++f::q->q.length<p.length->∃pre2,p=pre2++f::q
 | [],e,h=>by injection e with l d;subst d;simp at h;omega
 | [a],e,h=>by injection e with l d;injection d with d g;subst g;omega
 | a::b::pre,e,h=>by injection e with l d;injection d with d g;exact ⟨pre,g⟩
theorem J9h{w w1 m:World}{S S1 S2:AM->Prop}{h B A:Heap}{μ μ1 μ2:Gh}{l:AM}{q:Loop}{X:Obj}(d:CY w S h μ w1 S1 B μ1)(f:CY (w1.putObj l X) S1 B μ1 m S2 A μ2)(hl:w.heap[l]?=AC (.loop q)) :
  CY w S h μ (m.putObj l (.loop q)) S2 A μ2:=by
 have sz1:w.heap.size<=w1.heap.size:=d.size;have sz2:w1.heap.size<=m.heap.size:=by simpa using f.size
 have K:=(Aa.1 hl).1;refine ⟨f.os.trans d.os,f.tape.trans d.tape,⟨f.output.1.trans d.output.1,Bv d.output.2 f.output.2⟩,by simp;omega,λb g v=>?_,λb cs el z r=>?_,λb g=>f.st b (d.st b g),λb g=>?_,λb g=>?_,f.lp.trans d.lp⟩
 .by_cases a:b=l
  .subst a;rw [World.putObj_heap_same (by omega),hl]
  .rw [Yh a,f.keep b (by simp;omega) (λJ=>(d.ow b J).elim v (by omega)),Yh a];exact d.keep b g v
 .have a:b≠l:=λe=>by subst e;rw [hl] at r;cases r
  obtain ⟨M,H,G⟩:=d.shape b cs el z r;obtain ⟨L,F,E⟩:=f.shape b M el z ((Yh a).trans H);exact ⟨L,(Yh a).trans F,E.trans G⟩
 .rcases f.st2 b g with x|x|x
  .exact d.st2 b x
  .exact .inr (.inl (by simp at x;omega))
  .rcases d.ow b x with y|y
   .exact .inr (.inr y)
   .exact .inr (.inl y)
 .rcases f.ow b g with x|x
  .exact d.ow b x
  .exact .inr (by simp at x;omega)
section
variable {P:Program} {call:Vv.Call} {cx:Cx} {mk:Cx->M6}
theorem J58(hC:j6 call cx.ct)(hcall:JJ P call)(hm:P.follows .mixedOrders=AE)(hso:IX P cx)(hI:∀hs,ZA P hs (mk { cx with hs:=hs,rd:=AF }))
  {α:Type} {j base:AM} {vs:AG (V Ty.T)} {s:S Ty.T} {k:V Ty.T->S Ty.T->AH α} {r:α} (hd:YZ mk cx val (yB+j) base vs s k=AC r)
  {n0:AM} {w:World} {S:AM->Prop} {μ:Gh} {a0:Act} {fr:Fm} {fs:AG Fm} {cargs:Array Value} (m:BG n0 w S s μ a0 (fr::fs)) (hh:He P cx.hs (fr::fs)) (hfs:Ew (fr::fs)) (okv:∀v∈vs,okV s v) (hsz:cargs.size=vs.length)
  (G:∀(i:AM) (x:V Ty.T),vs[i]?=AC x->AX w S (AA s) μ (AL s x) (cargs.getD i undef)) {R:Ending->World->Prop}
  (hR:∀w' S' μ' v s' cv,BG fr.nt w' S' s' μ' fr.act fs->okV s' v->AX w' S' (AA s') μ' (AL s' v) cv->CY w S (AA s) μ w' S' (AA s') μ'->k v s'=AC r->R (.returned cv) w') (hlo:fr.lo=AD) :
  ∃q,w.heap[μ.l j]?=AC (.loop q)/\cargs.size=q.params.size/\RoundIn Fence.wide 0 P (μ.l j) q.fn ((q.params.zip cargs).foldl (λtmps (t,a)=>tmps.setIfInBounds t a) q.tmps) q.assign q.body w R:=by
 have K:Be yB (yB+j)=AE:=Aq (Ba _ _);simp only [YZ,K,Nat.add_sub_cancel_left] at hd;cases hlk:look j cx.hs with
 | none=>rw [hlk] at hd;cases hd
 | some h=>
  obtain ⟨pre,fr2,post,q,efs,epost,elo,eready,epend,etmps,eps,eas,ebd,epn,epnd⟩:=hh j h hlk;rw [hlk] at hd;obtain ⟨sl,lo,ob,ln,mo⟩:=s
  match lo,hd,m,okv,G,hR with
  | [],hd,m,okv,G,hR=>cases hd
  | [_],hd,m,okv,G,hR=>cases hd
  | l0::c::lr,hd,m,okv,G,hR=>
   have hd:(if lr.length=j/\vs.length=h.ps.length then
    Kat mk { cx with hs:=cx.hs.filter (λp=>Bs p.1 j),rd:=AE } h.base h.a h.b val ⟨H9 h.ps vs++c,l0::c::lr,ob,ln,mo⟩ λe s'=>(match e with
     | .normal=>k (.c (.kb AE)) s'.pop
     | _=>val.no) else val.no)=AC r:=hd
   obtain ⟨⟨hlr,hvl⟩,hd⟩:=ZC hd;have hlen:=m.len;simp only [Az] at hlen;obtain ⟨rfl,rfl⟩:pre=[fr]/\fs=fr2::post:=by
    have M:(fr::fs).length=pre.length+(post.length+1):=by rw [efs];simp
    simp only [Az] at M
    match pre,efs,M with
    | [],efs,M=>simp at M;omega
    | [x],efs,M=>injection efs with e2 e3;subst e2;exact ⟨rfl,e3⟩
    | x::y::z,efs,M=>simp at M;omega
   clear efs hlen;obtain ⟨H,hlp2,hlp3⟩:=m.lp fr2 (Ab _ Ac) j q elo;have O:∀p∈post,∀i J,p.lo=AC (i,J)->i≠j/\μ.l i≠μ.l j:=λp A i J hi=>by
    obtain ⟨pre2,post2,e⟩:=Bg A;have h1:=hfs (fr::fr2::pre2) p post2 (by rw [e];rfl) i J hi;have h2:post.length=pre2.length+(post2.length+1):=by rw [e];simp
    have:i≠j:=by omega
    exact ⟨this,hlp3 p (Ab _ (Ab _ A)) i J hi this⟩
   have hsz2:=m.sz fr2 (Ab _ Ac);have epl:h.ps.length=q.params.size:=by rw [<-eps];simp
   refine ⟨q,H,by omega,?_⟩;obtain ⟨aR,haR⟩:∃aR:Act,aR={ tmps:=(q.params.zip cargs).foldl (λtmps (t,a)=>tmps.setIfInBounds t a) q.tmps,defers:=[] }:=⟨_,rfl⟩;obtain ⟨fr2',F⟩:∃f:Fm,f=⟨fr2.nt,fr2.act,AD,fr2.d⟩:=⟨_,rfl⟩;have X:∀d,aR.tmps.size=fr2.act.tmps.size/\aR.tmps.getD d undef=(match look d (h.ps.zip cargs.toList) with|some v=>v|none=>fr2.act.tmps.getD d undef):=λd=>by
    have M:aR.tmps=(h.ps.zip cargs.toList).foldl (λt p=>t.setIfInBounds p.1 p.2) q.tmps:=by rw [haR,<-Array.foldl_toList,Array.toList_zip,eps]
    have hmap:(h.ps.zip cargs.toList).map (·.1)=h.ps:=List.map_fst_zip (by simp;omega);have:=J19 (h.ps.zip cargs.toList) q.tmps d (by rw [hmap];exact epnd) λp A=>by
     have:p.1∈h.ps:=by rw [<-hmap];exact Ap.2 ⟨p,A,rfl⟩
     have:=epn _ this;rw [etmps];omega
    rw [M];refine ⟨by rw [this.1,etmps],by rw [this.2,etmps]⟩
   have eo:AA (⟨H9 h.ps vs++c,l0::c::lr,ob,ln,mo⟩:Dn.S Ty.T)=AA ⟨sl,l0::c::lr,ob,ln,mo⟩:=Zd rfl rfl;have ev:∀v,AL (⟨H9 h.ps vs++c,l0::c::lr,ob,ln,mo⟩:Dn.S Ty.T) v=AL ⟨sl,l0::c::lr,ob,ln,mo⟩ v:=λv=>bQ rfl rfl v;have hF:BG fr2.nt w S (⟨H9 h.ps vs++c,l0::c::lr,ob,ln,mo⟩:Dn.S Ty.T) μ aR (fr::fr2'::post):=by
    refine ⟨⟨λd=>?_,by show BJ w S (AA _) μ;rw [eo];exact m.fr.hp,by rw [haR];exact .nil,by rw [(X 0).1];exact hsz2.2.1⟩,m.len,λi l b hl K d v hv=>?_,λp A=>?_,?_,λp A i J hi=>?_,λp A=>?_,m.iv.lo,m.iv.ob,m.iv.mo⟩
    .show AX w S (AA _) μ (AL _ (Dn.S.at _ d)) _;rw [eo,ev,(X d).2];unfold Dn.S.at;simp only [Jq0];rcases J7m h.ps vs cargs.toList hvl.symm (by simpa using hsz) d with ⟨x1,x2⟩|⟨i,v,cv,x1,x2,x3,x4⟩
     .rw [x1,x2];simp only;cases hc:look d c with
      | none=>exact .any _
      | some v=>exact m.lo 1 c fr2 rfl rfl d v hc
     .rw [x3,x4];have:=G i v x1;have e2:cargs.getD i undef=cv:=by rw [Bq] at x2;simp [Ae,x2]
      rw [e2] at this;exact this
    .rw [eo,ev]
     match i,hl,K with
     | 0,hl,K=>exact m.lo 0 l b hl K d v hv
     | 1,hl,K=>
      have K:fr2'=b:=by simpa using K
      subst K;rw [F];exact m.lo 1 l fr2 hl rfl d v hv
     | i+2,hl,K=>exact m.lo (i+2) l b hl (by simpa using K) d v hv
    .rcases Ag.1 A with rfl|A
     .exact m.sz _ Ac
     .rcases Ag.1 A with rfl|A
      .rw [F];exact hsz2
      .exact m.sz p (Ab _ (Ab _ A))
    .obtain ⟨m1,m2,m3,m4⟩:=m.md;rw [haR,F];refine ⟨λd hd=>(by cases hd),m2,λp A=>?_,m4⟩;rcases Ag.1 A with rfl|A
     .exact m3 fr2 Ac
     .exact m3 p (Ab _ A)
    .have sub:∀L∈fr::fr2'::post,∀i J,L.lo=AC (i,J)->L∈post:=λL B i J hi=>by
      rcases Ag.1 B with rfl|B
      .rw [hlo] at hi;cases hi
      .rcases Ag.1 B with rfl|B
       .rw [F] at hi;cases hi
       .exact B
     have hp0:=sub p A i J hi;obtain ⟨x1,x2,x3⟩:=m.lp p (Ab _ (Ab _ hp0)) i J hi;exact ⟨x1,x2,λL B Z q'' E N=>x3 L (Ab _ (Ab _ (sub L B Z q'' E))) Z q'' E N⟩
    .rcases Bb.1 A with A|A
     .have:∀(ps:AG AM) (vs:AG (V Ty.T)) (p:AM×V Ty.T),p∈H9 ps vs->p.2∈vs:=by
       intro ps
       induction ps with
       | nil=>intro vs p A;cases A
       | cons a ps ih=>
        intro vs p A;cases vs with
        | nil=>cases A
        | cons v vs=>
         rcases Ag.1 A with rfl|A
         .exact Ac
         .exact Ab _ (ih vs p A)
      exact okv _ (this _ _ _ A)
     .exact m.iv.lo c (Ab _ Ac) p A
   have hfs':Ew (fr::fr2'::post):=by
    have h1:Ew post:=hfs.tail.tail;have h2:Ew (fr2'::post):=by rw [F];exact h1.push (by intro j r h;cases h)
    obtain ⟨nt,a,lo,d⟩:=fr;exact h2.push (by intro j r h;rw [show lo=AD from hlo] at h;cases h)
   have hh':He P (cx.hs.filter λp=>Bs p.1 j) (fr::fr2'::post):=λi h' hi=>by obtain ⟨hi1,hi2⟩:=Jkc hi;obtain ⟨pre,f',post',J,M,e2,rest⟩:=hh i h' hi1;obtain ⟨pre2,e3⟩:=J5o M (by omega);exact ⟨fr::fr2'::pre2,f',post',J,by rw [e3];rfl,e2,rest⟩
   unfold Kat at hd;have hfrl:∀ {μ1:Gh},μ1.l=μ.l->∀p∈fr::fr2'::post,∀i J,p.lo=AC (i,J)->μ1.l i≠μ.l j:=λe p A i J hi=>by
    rw [e];rcases Ag.1 A with rfl|A
    .rw [hlo] at hi;cases hi
    .rcases Ag.1 A with rfl|A
     .rw [F] at hi;cases hi
     .exact (O p A i J hi).2
   have run:=@J2b P fr2.nt call h.base { cx with hs:=cx.hs.filter (λp=>Bs p.1 j),rd:=AE } mk (fr::fr2'::post) (AC (μ.l j)) hC hcall (λhs=>hI hs) hm hso (λq=>by cases q) hh' hfs'
   suffices goal:q.assign.wpIn (Fr (AC (μ.l j))) 0 P (Exit.then (λa₁ w₁=>∃w₂,(Instr.beginRound (μ.l j)).run P w₁=.ok () w₂/\q.body.wpIn (Fr (AC (μ.l j))) 0 P (roundPost P (μ.l j) R) a₁ w₂) (λ_ _ _=>False)) aR w by rw [haR] at goal;exact roundIn_of_wpIn trivial goal
   refine run q.assign eas hF hd λe x a1 w1 S1 μ1 s1 is r1 r2 r3=>?_
   .cases e with
    | exit i=>cases r3
    | ret=>cases r3
    | normal=>
     cases x<;>simp only [LE.is] at is;simp only [Exit.then];rw [eo] at r2;have hno:=m.fr.hp.GX H (by intros;simp) (by intros;simp);have hl1:w1.heap[μ.l j]?=AC (.loop q):=(r2.keep _ (Aa.1 H).1 hno).trans H;have hS1:¬S1 (μ.l j):=λx=>by
      rcases r2.st2 _ x with y|y|y
      .exact hlp2 y
      .have:=(Aa.1 H).1;omega
      .exact hno y
     refine ⟨_,run_beginRound hl1 eready,?_⟩;have rb:=r1.eO hl1 hS1 (hfrl r2.lp) (.loop { q with state:=.busy });have Y:(w1.putObj (μ.l j) (.loop { q with state:=.busy })).heap[μ.l j]?=AC (.loop { q with state:=.busy }):=World.putObj_heap_same (Aa.1 hl1).1;refine run q.body ebd rb r3 (Q:=roundPost P (μ.l j) R) λe2 x2 a2 w2 S2 μ2 s2 is2 q1 q2 q3=>?_;cases e2 with
     | exit i=>cases q3
     | ret=>cases q3
     | normal=>
      cases x2<;>simp only [LE.is] at is2;have hno2:=rb.fr.hp.GX Y (by intros;simp) (by intros;simp);have hl2:w2.heap[μ.l j]?=AC (.loop { q with state:=.busy }):=(q2.keep _ (Aa.1 Y).1 hno2).trans Y;have hS2:¬S2 (μ.l j):=λx=>by
       rcases q2.st2 _ x with y|y|y
       .exact hS1 y
       .have:=(Aa.1 Y).1;omega
       .exact hno2 y
      have eq:({ ({ q with state:=.busy }:Loop) with state:=if (AD:AH Code).isNone then .ready else .done,pending:=AD }:Loop)=q:=by obtain ⟨a,b,c,d,e,f,g,i⟩:=q;simp only at eready epend;subst eready;subst epend;rfl
      have hend:=run_endRound (P:=P) AD hl2;rw [eq] at hend;refine ⟨_,_,hend,?_⟩;have elp:μ2.l=μ.l:=q2.lp.trans r2.lp;have rc:=q1.eO hl2 hS2 (hfrl elp) (.loop q);have M:s2.pop.ob=s2.ob/\s2.pop.ln=s2.ln:=by unfold Dn.S.pop;split<;>exact ⟨rfl,rfl⟩
      have hl3:(w2.putObj (μ.l j) (.loop q)).heap[μ2.l j]?=AC (.loop q):=by rw [elp];exact World.putObj_heap_same (Aa.1 hl2).1
      have rp:BG fr.nt (w2.putObj (μ.l j) (.loop q)) S2 s2.pop μ2 fr.act (fr2'::post):=by obtain ⟨nt,a,lo,d⟩:=fr;exact rc.pop
      have rp2:BG fr.nt (w2.putObj (μ.l j) (.loop q)) S2 s2.pop μ2 fr.act (fr2::post):=by
       rw [F] at rp;refine ⟨rp.fr,rp.len,λi l b hl K d v hv=>?_,λp A=>?_,⟨rp.md.1,rp.md.2.1,rp.md.2.2.1,rp.md.2.2.2⟩,λp A i J hi=>?_,rp.iv⟩
       .match i,hl,K with
        | 0,hl,K=>
         have K:fr2=b:=by simpa using K
         subst K;exact rp.lo 0 l _ hl rfl d v hv
        | i+1,hl,K=>exact rp.lo (i+1) l b hl (by simpa using K) d v hv
       .rcases Ag.1 A with rfl|A
        .exact rp.sz (⟨p.nt,p.act,AD,p.d⟩:Fm) Ac
        .exact rp.sz p (Ab _ A)
       .have dist:∀L∈fr2::post,∀Z q'',L.lo=AC (Z,q'')->L=fr2\/L∈post:=λL B _ _ _=>by
         rcases Ag.1 B with h|h
         .exact .inl h
         .exact .inr h
        rcases Ag.1 A with rfl|hpp
        .rw [elo] at hi;injection hi with hi;injection hi with h1 h2;subst h1;subst h2;refine ⟨hl3,by rw [elp];exact hS2,λL B Z q'' E N=>?_⟩;rcases Ag.1 B with rfl|B
         .rw [elo] at E;injection E with E;injection E with h1 h2;exact (N h1.symm).elim
         .rw [elp];exact (O L B Z q'' E).2
        .obtain ⟨x1,x2,x3⟩:=rp.lp p (Ab _ hpp) i J hi;refine ⟨x1,x2,λL B Z q'' E N=>?_⟩;rcases Ag.1 B with rfl|B
         .rw [elo] at E;injection E with E;injection E with h1 h2;subst h1;rw [elp];exact (O p hpp i J hi).2.symm
         .exact x3 L (Ab _ B) Z q'' E N
      refine hR _ S2 μ2 (.c (.kb AE)) s2.pop (.bool AE) rp2 (Xe (Ka _ rfl)) (.pure (.bool AE)) ?_ q3;rw [Zd M.1 M.2 (J2v _)];exact J9h r2 q2 H
end
structure Mw (P:Program) (f:FuncId) (B:Bi):Prop where
 lt:Be yB f=AF
 fn:C9 P f
 run:∀ {α:Type} {base:AM} {vs:AG (V Ty.T)} {s:S Ty.T} {k:V Ty.T->S Ty.T->AH α} {r:α},B.run val f base vs s k=AC r ->
  ∀ {n0:AM} {w:World} {S:AM->Prop} {μ:Gh} {a0:Act} {fr:Fm} {fs:AG Fm} {cargs:Array Value},BG n0 w S s μ a0 (fr::fs)->(∀v∈vs,okV s v)->cargs.size=vs.length ->
   (∀(i:AM) (x:V Ty.T),vs[i]?=AC x->AX w S (AA s) μ (AL s x) (cargs.getD i undef))->∀ {R:Ending->World->Prop},
   (∀w' S' μ' v s' cv,BG fr.nt w' S' s' μ' fr.act fs->okV s' v->AX w' S' (AA s') μ' (AL s' v) cv->CY w S (AA s) μ w' S' (AA s') μ'->k v s'=AC r->R (.returned cv) w')->Calls P f cargs w R
def ZU(P:Program)(cx:Cx):Prop:=∀f B,cx.bi f=AC B->Mw P f B
section
variable {P:Program} {call:Vv.Call}
theorem J6q(m:JJ P call)(M:P.follows .mixedOrders=AE)(n:AM):∀ {cx:Cx} (hC:j6 call cx.ct) (v:IX P cx) (F:ZU P cx) (E:mF P cx) (G:cx.rd=AF),ZA P cx.hs (den n cx):=by
 induction n with
 | zero=>intro cx _ _ _ _ _ α f base vs s k r h;cases h
 | succ n N=>
  intro cx hC v F E G α f base vs s k r hd;have hd:(match cx.bi f with|some B=>B.run val f base vs s k|none=>YZ (den n) cx val f base vs s k)=AC r:=hd;have hI:∀hs,ZA P hs (den n { cx with hs:=hs,rd:=AF }):=λhs=>N (cx:={ cx with hs:=hs,rd:=AF }) hC v F E rfl;cases hB:cx.bi f with
  | some B=>
   rw [hB] at hd;have g:=F f B hB;refine ⟨λ_=>g.fn,λ{L w S μ a0 fr fs cargs} d H y okv l a {R} A hR=>⟨λ_=>g.run hd d okv l a hR,λj e=>?_⟩⟩;subst e;have:=g.lt;rw [Aq (Ba _ _)] at this;cases this
  | none=>
  rw [hB] at hd;have hd:YZ (den n) cx val f base vs s k=AC r:=hd;cases K:Be yB f with
  | false=>
   obtain ⟨Q,O⟩:=XT hC m M v E hI G K hd;refine ⟨λ_=>Q,λ{L w S μ a0 fr fs cargs} d H y okv l a {R} A hR=>⟨λ_=>O d H y okv l a A hR,λj e=>?_⟩⟩;subst e;rw [Aq (Ba _ _)] at K;cases K
  | true=>
   refine ⟨λq=>(by cases q),λ{L w S μ a0 fr fs cargs} d H y okv l a {R} A hR=>⟨λq=>(by cases q),λj e J=>?_⟩⟩;subst e;exact J58 hC m M v hI hd d H y okv l a hR J
end
structure Good (P:Program) (c:BQ):Prop where
 fn:C9 P c.id
 ok:c.ok=AE
 rk:c.rs.all FN=AE
 run:∀x r,c.fn x=AC r->∀(w:World) (S:AM->Prop) (cargs:Array Value),(∀b,S b->b<w.heap.size)->cargs.size=(Fq c.as x).length->(∀(i:AM) (y:AV),(Fq c.as x)[i]?=AC y->AY w S y (cargs.getD i undef)) ->
  Calls P c.id cargs w λe w'=>∃cv,e=.returned cv/\AY w' (zb S w w') (E8 c.rs r) cv/\Old w w'
 fresh:c.fresh=AE->∀x r,c.fn x=AC r->∀(w:World) (S:AM->Prop) (cargs:Array Value),(∀b,S b->b<w.heap.size)->cargs.size=(Fq c.as x).length->(∀(i:AM) (y:AV),(Fq c.as x)[i]?=AC y->AY w S y (cargs.getD i undef)) ->
  Calls P c.id cargs w λe w'=>∃cv,e=.returned cv/\AY w' (zb (λ_=>False) w w') (E8 c.rs r) cv/\Old w w'
 own:∀el,c.own=AC el->∃t,c.rs=[(AF,.ls t)]/\∀x r,c.fn x=AC r->∀(w:World) (S:AM->Prop) (cargs:Array Value),(∀b,S b->b<w.heap.size)->cargs.size=(Fq c.as x).length->(∀(i:AM) (y:AV),(Fq c.as x)[i]?=AC y->AY w S y (cargs.getD i undef)) ->
  Calls P c.id cargs w λe w'=>∃cv n L,e=.returned cv/\Old w w'/\E8 c.rs r=.CF n L/\iY w w' S el t.sz n L cv
def NA(P:Program)(Γ:FuncId->AH BQ):Prop:=∀f c,Γ f=AC c->c.id=f/\Good P c
theorem uD{P:Program}{Γ:FuncId->AH BQ}(hΓ:NA P Γ):JJ P (kM Γ):=by
 refine ⟨λf vs m r h=>?_,λf vs v h' h w S cargs hS a K=>?_,λf vs v h' p h E w S cargs hS a K=>?_,λf vs n L h' esz el h w S cargs hS a K=>?_⟩
 .obtain ⟨v,h'⟩:=r;obtain ⟨c,x,r,l,-⟩:=uI h;obtain ⟨rfl,g⟩:=hΓ f c l;exact g.fn
 .obtain ⟨c,x,r,l,-,d,hr,rfl⟩:=uI h;obtain ⟨rfl,g⟩:=hΓ f c l;refine g.run x r hr w S cargs hS (by rw [a,d.len]) λi y G=>?_;obtain ⟨z,F,up⟩:=d.back G;exact up.rep (K i z F)
 .obtain ⟨c,x,r,l,-,d,hr,rfl⟩:=uI h;obtain ⟨_,_,_,M,O,-⟩:=uI (m:=AC (λ_=>AD,0)) (v:=p.1) (h':=p.2) E;rw [l] at M;injection M with M;subst M;obtain ⟨rfl,g⟩:=hΓ f c l;refine g.fresh O x r hr w S cargs hS (by rw [a,d.len]) λi y G=>?_;obtain ⟨z,F,up⟩:=d.back G;exact up.rep (K i z F)
 .obtain ⟨c,x,r,l,E,d,hr,Z⟩:=uI h;obtain ⟨rfl,g⟩:=hΓ f c l;simp only [ko,oH] at E;split at E
  case h_2=>cases E
  rename_i e he;rw [Ah] at E;obtain ⟨B,A⟩:=E;have B:=Ai B;have A:=Ai A;subst B;obtain ⟨t,N,J⟩:=g.own e he;have H:Oz c.rs=t.sz:=by rw [N];rfl
  refine (J x r hr w S cargs hS (by rw [a,d.len]) λi y G=>?_).mono λe2 w' ⟨cv,n',L',Y,X,Q,R⟩=>⟨cv,Y,X,?_⟩
  .obtain ⟨z,F,up⟩:=d.back G;exact up.rep (K i z F)
  .rw [<-Z] at Q;injection Q with e3 e4;subst e3;subst e4;rw [A,H];exact R
theorem tO{P:Program}{Γ:FuncId->AH BQ}(hΓ:NA P Γ):j6 (kM Γ) Γ:=R6 λf c h=>⟨(hΓ f c h).2.ok,(hΓ f c h).2.rk⟩
def NC:(rs:AG (AN×Ty))->(Y3 (rs.map (·.2))).T->AG AV
 | [],_=>[]
 | [a],x=>[FR (rk a) x]
 | a::b::r,(x,y)=>FR (rk a) x::NC (b::r) y
section
variable {s:S Ty.T}
theorem J8e(p:AN×AG (C Ty.T)):AL s (Sq p)=if p.1 then .agg (p.2.map (AB s)) else Yb (p.2.map (AB s)):=by
 obtain ⟨b,l⟩:=p;cases b with
 | true=>rfl
 | false=>
  match l with
  | []=>rfl
  | [c]=>rfl
  | _::_::_=>rfl
theorem Jk7{a:AN×Ty}{v:V Ty.T}{α:Type}{k:(rk a).2.T->AH α}{r:α}(h:IV val s.ob (rk a) v k=AC r):YS v=AF:=by
 obtain ⟨b,t⟩:=a;cases v with
 | ag l=>rfl
 | tp l=>rfl
 | c c=>
  cases c with
  | ptr g ver off=>
   exfalso;cases b with
   | true=>simp only [IV,rk,if_true] at h;cases h
   | false=>
    simp only [IV,rk,Bool.false_eq_true,if_false,LU] at h;obtain ⟨x,hx,-⟩:=Ji h;simp [Zg,jj] at hx
  | _=>rfl
theorem Jsd{α:Type}{r:α}:∀ {rs:AG (AN×Ty)} (d:rs.all FN=AE) {vs:AG (V Ty.T)} {k:(Y3 (rs.map (·.2))).T->AH α},L8 val s.ob rs vs k=AC r ->
  ∃x,k x=AC r/\∃N,FX (AA s) depth (vs.map (AL s)) (NC rs x) N
 | [],d,[],k,h=>⟨(),h,[],.nil⟩
 | [a],d,[v],k,h=>by
  have h:IV val s.ob (rk a) v k=AC r:=h;have w:GH (rk a)=AE:=by
   simp only [Ax,Bw,Bu] at d;unfold FN at d;unfold rk GH;cases A:a.1 with
   | true=>rfl
   | false=>rw [A] at d;simpa using d
  obtain ⟨x,hx,u,ns,-,m,l⟩:=xX w h;obtain ⟨g,f⟩:=l (Jk7 h);exact ⟨x,hx,_,.cons g m f .nil⟩
 | a::b::rs,d,v::vs,k,h=>by
  have h:IV val s.ob (rk a) v (λx=>L8 val s.ob (b::rs) vs λy=>k (val.pr x y))=AC r:=h;have B:=d;rw [Ax,Ah] at d;have w:GH (rk a)=AE:=by
   have d:=d.1;unfold FN at d;unfold rk GH;cases A:a.1 with
   | true=>rfl
   | false=>rw [A] at d;simpa using d
  obtain ⟨x,hx,u,ns,-,m,l⟩:=xX w h;obtain ⟨g,f⟩:=l (Jk7 h);obtain ⟨y,E,N,hN⟩:=Jsd d.2 hx;exact ⟨_,E,_,.cons g m f hN⟩
 | [],d,_::_,k,h=>by cases h
 | [a],d,[],k,h=>by cases h
 | [a],d,_::_::_,k,h=>by cases h
 | a::b::rs,d,[],k,h=>by cases h
theorem Kav{a:AN×Ty}(d:FN a=AE)(x:a.2.T):(if a.1 then AV.agg ((expl val a.2 x).map (AB s)) else Yb ((expl val a.2 x).map (AB s)))=FR (rk a) x:=by
 obtain ⟨b,t⟩:=a;cases b with
 | true=>simp only [if_true,rk,FR];rw [Xh]
 | false=>simp only [Bool.false_eq_true,if_false,rk,FR];rw [Xh]
theorem Joz:∀ {rs:AG (AN×Ty)} (d:rs.all FN=AE) (x:(Y3 (rs.map (·.2))).T),(z8 val rs x).map (λp=>if p.1 then AV.agg (p.2.map (AB s)) else Yb (p.2.map (AB s)))=NC rs x
 | [],d,x=>rfl
 | [a],d,x=>by simp only [Ax,Bw,Bu] at d;simp only [z8,As,List.map_nil,NC,TG];exact AT (λv=>[v]) (Kav d x)
 | a::b::rs,d,(x,y)=>by rw [Ax,Ah] at d;simp only [z8,As,NC,TG];have e:=Joz d.2 y;exact (AT (λl=>_::l) e).trans (AT (λv=>v::NC (b::rs) y) (Kav d.1 x))
theorem VD{rs:AG (AN×Ty)}(a:rs.all FN=AE)(x:(Y3 (rs.map (·.2))).T):E8 rs x=(match NC rs x with | [v]=>v|l=>.Cb l):=by
 unfold E8 MU;have e:=Joz (s:=⟨[],[],[],[],AD⟩) a x;rw [<-e];split
 .rename_i p f;rw [f];exact J8e p
 .rename_i l hl;cases d:z8 val rs x with
  | nil=>rfl
  | cons p m=>
   cases m with
   | nil=>exact (hl p d).elim
   | cons q m=>rfl
theorem Jx6:∀(rs:AG (AN×Ty)) (x:(Y3 (rs.map (·.2))).T),(NC rs x).length=rs.length
 | [],x=>rfl
 | [a],x=>rfl
 | a::b::rs,(x,y)=>by simp only [NC,Az];rw [Jx6 (b::rs) y];rfl
theorem J39(a:AK×Ty)(x:a.2.T)(h:GH a=AE):AL s (Ip val a x)=FR a x:=by
 obtain ⟨k,t⟩:=a;have one:t.one=AE->AL s (Ip val (AK.one,t) x)=FR (AK.one,t) x:=λh=>by
  simp only [Ip,FR];have:=Xh s t x;split
  .rename_i c f;rw [f] at this;rw [<-this];rfl
  .rename_i d;exfalso;obtain ⟨v,g⟩:=lK h x;have hl:=TY t x;have:(expl val t x).length=1:=by rw [hl,<-zy t x,g];rfl
   obtain ⟨c,f⟩:=List.length_eq_one_iff.1 this;exact d c f
 cases k with
 | one=>exact one h
 | fr=>exact one h
 | ow el=>exact one h
 | ag=>simp only [Ip,FR,AL];rw [Xh]
 | rp=>simp only [Ip,FR,AL,AB,Br]
theorem xU:∀ {as:AG (AK×Ty)} (h:as.all GH=AE) (x:(Y3 (as.map (·.2))).T),(KW val as x).map (AL s)=Fq as x
 | [],h,x=>rfl
 | [a],h,x=>by simp only [Ax,Bw,Bu] at h;simp only [KW,As,List.map_nil,Fq];exact AT (λv=>[v]) (J39 a x h)
 | a::b::r,h,(x,y)=>by rw [Ax,Ah] at h;simp only [KW,As,Fq];rw [show (KW val (b::r) (val.sn (x,y))).map (AL s)=Fq (b::r) y from xU h.2 y];exact AT (λv=>v::Fq (b::r) y) (J39 a x h.1)
theorem J74(a:AK×Ty)(x:a.2.T):okV s (Ip val a x):=by
 obtain ⟨k,t⟩:=a;have one:okV s (Ip val (AK.one,t) x):=by
  simp only [Ip];split
  .rename_i c d;exact Xe (Sr s t x c (by rw [d];exact Af.2 rfl))
  .exact Xe (Ka s rfl)
 cases k with
 | one=>exact one
 | fr=>exact one
 | ow el=>exact one
 | ag=>exact Sr s t x
 | rp=>exact Xe (Ka s rfl)
theorem xA:∀ {as:AG (AK×Ty)} (x:(Y3 (as.map (·.2))).T),∀v∈KW val as x,okV s v
 | [],x,v,h=>by cases h
 | [a],x,v,h=>by have:=Af.1 h;subst this;exact J74 a x
 | a::b::r,x,v,h=>by
  rcases Ag.1 h with rfl|h
  .exact J74 a _
  .exact xA _ v h
end
theorem Jne{w:World}{S:AM->Prop}(hS:∀b,S b->b<w.heap.size)(μ:Gh):BJ w S (λ_=>AD) μ:=
 ⟨λ_ _ a=>(by cases a),λ_ _ _ _ a=>(by cases a),λ_ _ a=>(by cases a),hS⟩
theorem J6y{rs:AG (AN×Ty)}(G:rs.all FN=AE){w':World}{S':AM->Prop}{s':Dn.S Ty.T}{μ':Gh}(E:BJ w' S' (AA s') μ'){T:AM->Prop}(hS':∀b,S' b->T b)(hT:∀b,Own (AA s') μ' b->T b){v:V Ty.T}{cv:Value}
  (M:AX w' S' (AA s') μ' (AL s' v) cv) {r:(Y3 (rs.map (·.2))).T} (L:LP val s'.ob rs v AC=AC r):AY w' T (E8 rs r) cv:=by
 have met:∀ {k:AM} {v u:AV} {ns:AG AM},snap (AA s') k v=AC (u,ns)->Met T (AA s') μ' ns:=λP g hg Z B J=>by
  obtain ⟨o2,h,hfz⟩:=kF _ P g hg;rw [B] at h;injection h with h;subst h;cases f:Z.fz with
  | true=>
   have H:=E.ob g _ B;cases Z with
   | box v c=>cases f
   | arr v e t c z=>obtain ⟨_,_,_,_,R⟩:=H (Kz.1 J);exact hS' _ (R f)
   | map v es z=>obtain ⟨_,_,_,_,R,_⟩:=H;exact hS' _ (R f)
  | false=>exact hT _ ⟨g,_,B,f,J,rfl⟩
 have piece:∀ {v:AV} {y:AV} {cv:Value},(∃u ns,snap (AA s') depth v=AC (u,ns)/\Up u y)->AX w' S' (AA s') μ' v cv->AY w' T y cv:=λ⟨u,ns,F,K⟩ X=>K.rep (kD E hS' depth F X (met F));unfold LP at L;obtain ⟨y,O,N,ps,hN,w,-⟩:=Jsd G L;injection O with O;subst O;obtain ⟨m1,m2⟩:=TW hN;have item:∀(i:AM) (u:V Ty.T) (z:AV),(bE rs v)[i]?=AC u->(NC rs y)[i]?=AC z->∃Y ns,snap (AA s') depth (AL s' u)=AC (Y,ns)/\Up Y z:=λi u z hu hz=>by obtain ⟨p,p1,p2⟩:=m2 i (AL s' u) (by rw [Ad,hu];rfl);exact ⟨p.1,p.2,p2,w.at' i p.1 z (by rw [Ad,p1];rfl) hz⟩
 have m:=Jx6 rs y;have d:(bE rs v).length=(NC rs y).length:=by have:=w.len;simp only [Bc] at this m1;omega
 rw [VD G];generalize hA:NC rs y=A at item m d;clear w hN m1 m2 L
 match rs,A,m with
 | [a],[z],_=>
  exact piece (item 0 v z rfl rfl) M
 | [],[],_=>
  cases v with
  | tp l=>
   have:l=[]:=Ak (by simpa [bE] using d);subst this;obtain ⟨cs,e,F,K⟩:=M.FI;subst e;exact .Cb [] cs F λi x hi=>by simp at hi
  | _=>simp [bE] at d
 | a::b::rs,z1::z2::zs,hl=>
  cases v with
  | tp l=>
   have X:AX w' S' (AA s') μ' (.Cb (l.map λp=>if p.1 then .agg (p.2.map (AB s')) else Yb (p.2.map (AB s')))) cv:=M;obtain ⟨cs,e,F,K⟩:=X.FI;subst e;have Q:l.length=(z1::z2::zs).length:=by simpa [bE] using d
   refine .Cb _ cs (by rw [<-Q];simpa using F) λi z hi=>?_;cases E:l[i]? with
   | none=>
    have:=(Aw.1 hi).1;rw [Bh] at E;omega
   | some p=>
    refine piece (item i (Sq p) z (by show (l.map Sq)[i]?=_;rw [Ad,E];rfl) hi) ?_;rw [J8e];exact K i _ (by rw [Ad,E];rfl)
  | c x=>simp [bE] at d
  | ag l=>simp [bE] at d
theorem Wn{P:Program}{cx:Cx}{Γ:FuncId->AH BQ}(hct:cx.ct=Γ)(hΓ:NA P Γ)(hm:P.follows .mixedOrders=AE)(R:IX P cx)(M:ZU P cx)(hcd:mF P cx)(K:cx.hs=[])(X:cx.rd=AF){c:BQ}{n:AM}(J:c.ok=AE)(G:c.rs.all FN=AE)(hfn:C9 P c.id)(Z:c.fresh=AF)(Y:c.own=AD)
  (hf:∀x r,c.fn x=AC r->Cv val cx n c.id c.as c.rs x=AC r):Good P c:=by
 subst hct;refine ⟨hfn,J,G,λx r hr w S cargs hS Q ha=>?_,λq=>(by rw [Z] at q;cases q),λel q=>(by rw [Y] at q;cases q)⟩;have hd:=hf x r hr;unfold Cv at hd;obtain ⟨-,hcl⟩:=J6q (uD hΓ) hm n (tO hΓ) R M hcd X hd;have hs0:AA (⟨[],[[]],[],[],AD⟩:Dn.S Ty.T)=λ_=>AD:=rfl;have H:BG 0 w S (⟨[],[[]],[],[],AD⟩:Dn.S Ty.T) ⟨λ_=>0,λ_=>0,λ_=>0⟩ KO [⟨0,KO,AD,w.heap.size⟩]:=
  ⟨VE (Jne hS _),rfl,λi l b hl y d v O=>by
   cases i with
   | zero=>simp at hl;subst hl;cases O
   | succ i=>simp at hl,λp a=>(by have:=Af.1 a;subst this;exact ⟨.nil,Bz _,Am _⟩),⟨λd hd=>(by cases hd),λq hq=>(by cases hq),λp a=>(by cases a),trivial⟩,λp a j r hj=>(by have:=Af.1 a;subst this;cases hj),λp a=>(by cases a),λl hl p a=>(by have:=Af.1 hl;subst this;cases a),λg o E=>(by cases E),λm hm=>(by cases hm)⟩
 have enc:=xU (s:=⟨[],[[]],[],[],AD⟩) J x;have L:Be yB c.id=AF:=by
  cases y:Be yB c.id with
  | false=>rfl
  | true=>
   exfalso;cases n with
   | zero=>cases hd
   | succ n=>
    have hd:(match cx.bi c.id with|some B=>B.run val c.id 0 (KW val c.as x) ⟨[],[[]],[],[],AD⟩ (λv s=>LP val s.ob c.rs v AC)|none=>YZ (den n) cx val c.id 0 (KW val c.as x) ⟨[],[[]],[],[],AD⟩ (λv s=>LP val s.ob c.rs v AC))=AC r:=hd;cases hB:cx.bi c.id with
    | some B=>rw [(M _ B hB).lt] at y;cases y
    | none=>
     rw [hB] at hd;simp only [YZ,y,K] at hd;cases hd
 refine (hcl H (by rw [K];intro j h hl;cases hl) (by
  intro pre f post e j q hj;cases pre with
  | nil=>injection e with e1 e2;subst e1;cases hj
  | cons p pre=>injection e with e1 e2;simp at e2) (xA x) (by rw [Q,<-enc];simp) (λi v O=>?_) rfl λw' S' μ' v s' cv N r2 r3 F r5=>?_).1 L
 .refine .pure (ha i _ ?_);rw [<-enc,Ad,O];rfl
 .refine ⟨cv,rfl,?_,?_⟩
  .have noOwn:∀b,¬Own (λ_=>AD) (⟨λ_=>0,λ_=>0,λ_=>0⟩:Gh) b:=λb ⟨g,o,E,_⟩=>by cases E
   have hS':∀b,S' b->zb S w w' b:=λb y=>by
    rcases F.st2 b y with A|A|A
    .exact .inl A
    .exact .inr ⟨A,N.fr.hp.lt b y⟩
    .exact (noOwn b A).elim
   exact J6y G N.fr.hp hS' (λb E=>(F.ow b E).elim (λA=>(noOwn _ A).elim) λA=>.inr ⟨A,by obtain ⟨g,o1,hg1,hz1,hl1,rfl⟩:=E;exact (N.fr.hp.ob g _ hg1).lt hl1⟩) r3 r5
  .exact ⟨F.os,F.tape,F.output,F.size,λb y=>F.keep b y λ⟨g,o,E,_⟩=>by cases E⟩
structure Mq (P:Program) (c:KP):Prop where
 lt:Be yB c.id=AF
 fn:C9 P c.id
 ok:c.as.all GH=AE
 pos:0<c.t.sz
 run:∀x r,c.fn x=AC r->∀(w:World) (S:AM->Prop) (cargs:Array Value),(∀b,S b->b<w.heap.size)->cargs.size=(Fq c.as x).length->(∀(i:AM) (y:AV),(Fq c.as x)[i]?=AC y->AY w S y (cargs.getD i undef)) ->
  Calls P c.id cargs w λe w'=>∃cv,e=.returned cv/\Old w w'/\YF w w' S c.el c.t r cv
theorem ZG{P:Program}{c:KP}(g:Mq P c):Mw P c.id c.bi:=by
 refine ⟨g.lt,g.fn,λ{α base vs s k r} hd {n0 w S μ a0 fr fs cargs} hF okv hsz M {R} hR=>?_⟩;obtain ⟨x,hx,-,hsn⟩:=yH g.ok hd;simp only at hx;split at hx
 .cases hx
 rename_i E;simp only [Bool.or_eq_true,not_or,Bool.not_eq_true] at E;obtain ⟨X,m⟩:=E;have hnone':s.has base=AF:=m;have m:look base s.ob=AD:=NP hnone';have hx:Hz (c.fn x) (λl=>k (.c (.own base 0)) ((J8 s (Hl s vs)).obj base (.row 0 c.t.sz c.el c.t l [] AD AF)).pop)=AC r:=hx;cases f:c.fn x with
 | none=>rw [f] at hx;cases hx
 | some l=>
 rw [f] at hx;have hx:k (.c (.own base 0)) ((J8 s (Hl s vs)).obj base (.row 0 c.t.sz c.el c.t l [] AD AF)).pop=AC r:=hx;obtain ⟨ps,s1,s2,s3⟩:=hsn X;have hs:Hg (AA s) (vs.map (AL s))=AC (ps.map (·.1),ps.flatMap (·.2)):=by simp only [Hg,s1]
 obtain ⟨f1,f2,f3⟩:=tY (h:=AA s) hF.fr.hp (uX hs);obtain ⟨h1,h2⟩:=uV (h:=AA s) hF.fr.hp (S':=λb=>S b\/KQ (AA s) μ (ps.flatMap (·.2)) b) (λb hb=>.inl hb) hs (λg hg o ho hl=>.inr ⟨g,hg,o,ho,hl,rfl⟩);obtain ⟨t1,t2,t3⟩:=kJ (Hl s vs) hF.iv (Jq4 hF.iv okv);have efz:Jh (AA s) (ps.flatMap (·.2))=AA (J8 s (Hl s vs)):=by rw [t3];exact Jnb s3
 rw [efz] at f1 f2 f3;have F:look base (J8 s (Hl s vs)).ob=AD:=by
  cases hq2:look base (J8 s (Hl s vs)).ob with
  | none=>rfl
  | some o=>
   have:=Jj hq2;rw [t3] at this;unfold Jh at this;rw [nO hnone'] at this;split at this<;>cases this
 have hbh:AA (J8 s (Hl s vs)) base=AD:=nO (by unfold Dn.S.has;rw [F,yM,lJ hnone'];rfl);refine (g.run x l f w _ cargs f1.lt (by rw [hsz,<-s2.len];simp at h1 ⊢;omega) λi y hy=>?_).mono λe w' ⟨cv,he,J,Q⟩=>?_
 .obtain ⟨z,hz,up⟩:=s2.back hy;obtain ⟨v,L,hvr⟩:=h2 i z hz;refine up.rep (hvr _ ?_);rw [Ad] at L;cases K:vs[i]? with
  | none=>rw [K] at L;cases L
  | some u=>
   rw [K] at L;injection L with L;subst L;exact M i u K
 .subst he;have hcl:(l.flatMap c.t.cs).length=l.length * c.t.sz:=Jv l;have B:l.flatMap c.t.cs=[]↔l=[]:=J4j g.pos l;have key:∃(b o:AM) (S2:AM->Prop),BJ w' S2 (upd (AA (J8 s (Hl s vs))) base (AC (.arr 0 c.t.sz c.el (l.flatMap c.t.cs) AF))) (μ.set base b o) /\
    CY w (λb=>S b\/KQ (AA s) μ (ps.flatMap (·.2)) b) (AA (J8 s (Hl s vs))) μ w' S2 (upd (AA (J8 s (Hl s vs))) base (AC (.arr 0 c.t.sz c.el (l.flatMap c.t.cs) AF))) (μ.set base b o) /\
    Cg (AA (J8 s (Hl s vs))) μ (upd (AA (J8 s (Hl s vs))) base (AC (.arr 0 c.t.sz c.el (l.flatMap c.t.cs) AF))) (μ.set base b o)/\JM w' (l.flatMap c.t.cs) b o c.t.sz 0 l.length cv:=by
   rcases Q with ⟨e,A,rfl⟩|⟨e,b,o,cap,cs,q1,rfl,q2,q3,q4,q5⟩
   .subst e;obtain ⟨O,N,a3⟩:=oW (S':=zb _ w w') (g:=base) (b:=0) (k:=0) (esz:=c.t.sz) (el:=c.el) (cells:=[]) f1 J hbh (λq f=>.inl f) (λq f=>f) (λq=>(q rfl).elim) (λq=>(q rfl).elim) (λq=>(q rfl).elim);exact ⟨0,0,_,O,N,a3,λ_=>⟨rfl,rfl,A,rfl⟩,λq=>(q rfl).elim⟩
   .have hlen:l.length * c.t.sz<=cap * c.t.sz:=Av _ q2.1;obtain ⟨O,N,a3⟩:=oW (S':=λq=>zb _ w w' q/\q≠b) (g:=base) (b:=b) (k:=o) (esz:=c.t.sz) (el:=c.el) (cells:=l.flatMap c.t.cs) f1 J hbh
     (λq f=>⟨.inl f,λe=>by subst e;have:=f1.lt q f;omega⟩) (λq f=>f.1) (λ_ q=>q.2 rfl) (λ_=>q1) (λ_=>⟨cs,q3,by rw [hcl];omega,q5⟩)
    refine ⟨b,o,_,O,N,a3,λq=>(e (B.1 q)).elim,λ_=>⟨⟨b,o,AD⟩,cap,cs,c.el,(0,0),rfl,q2,q3,by rw [Au];exact q4,λ_=>by rw [Ay,Bm]⟩⟩
  obtain ⟨b,o,S2,O,N,a3,a4⟩:=key;obtain ⟨a,G⟩:∃a,a=(J8 s (Hl s vs)).obj base (.row 0 c.t.sz c.el c.t l [] AD AF):=⟨_,rfl⟩;rw [<-G] at hx;have st:CQ (J8 s (Hl s vs)) a:=by subst G;exact Zh λo0 h0=>by rw [F] at h0;cases h0
  have H:∀g',look g' a.ob=if base=g' then AC (.row 0 c.t.sz c.el c.t l [] AD AF) else look g' (J8 s (Hl s vs)).ob:=λg'=>by subst G;exact Qb base g' _
  have Z:a.mo=(J8 s (Hl s vs)).mo:=by subst G;rfl
  have hfr:Ey (J8 s (Hl s vs)).mo base=AF:=by rw [yM];exact lJ hnone'
  have iv:Inv a:=MV t2 st H (λc hc=>by cases hc) hfr Z;have hh:=jf t2 st H Z;have he1:Dn.BD a (.row 0 c.t.sz c.el c.t l [] AD AF)=.arr 0 c.t.sz c.el (l.flatMap c.t.cs) AF:=by simp [Dn.BD,Xm]
  rw [he1] at hh;rw [<-hh] at O N a3;have ev:=f2.trans N;have vv:=f3.trans a3;have st2:CQ s a:=t1.trans st;have hF2:BG n0 w' S2 a (μ.set base b o) a0 (fr::fs):=by refine hF.step rfl ⟨λd=>?_,O,hF.fr.hp.marks hF.fr.df ev,hF.fr.sz⟩ st2.on iv ev vv;rw [NM hF.iv st2];exact (hF.fr.fr d).Cz hF.fr.hp ev vv
  have Y:=hF2.pop;have eh:AA a.pop=AA a:=by
   unfold Dn.S.pop;split
   .exact Zd rfl rfl
   .rfl
  have ec:AB a.pop=AB a:=by
   unfold Dn.S.pop;split
   .exact wM rfl rfl
   .rfl
  have eob:a.pop.ob=a.ob:=by unfold Dn.S.pop;split<;>rfl
  have hl0:Q4 a base 0=l.length:=by simp [Q4,H,Ob.ver,Ob.CJ]
  refine hR w' S2 _ (.c (.own base 0)) _ cv Y (Xe λq f=>?_) ?_ (by rw [eh];exact ev) hx
  .have:=Af.1 f;subst this;exact ⟨_,by rw [eob,H,AS rfl],Am _⟩
  .rw [eh];show AX w' S2 (AA a) _ (AB a.pop (.own base 0)) cv;rw [ec];simp only [AB,hl0];refine .arr base 0 0 l.length cv _ (by rw [hh,Jg]) (Am _) ?_ λ_=>⟨c.t.sz,c.el,_,AF,rfl,?_⟩
   .by_cases e:l=[]
    .obtain ⟨-,-,A,rfl⟩:=a4.1 (B.2 e);rfl
    .obtain ⟨_,_,_,_,_,rfl,_⟩:=a4.2 (λq=>e (B.1 q));rfl
   .simp only [Gh.set,Jg];exact a4
theorem Rq{P:Program}{c:BQ}(g:Good P c)(L:Be yB c.id=AF):Mw P c.id c.bi:=by
 refine ⟨L,g.fn,λ{α base vs s k r} hd {n0 w S μ a0 fr fs cargs} hF okv H A {R} hR=>?_⟩;obtain ⟨x,hx,-,J⟩:=yH g.ok hd;split at hx
 .cases hx
 rename_i m;have E:vs.any YS=AF:=by simpa using m
 have hx:Hz (c.fn x) (λr=>k (MU val c.rs r) (J8 s (Hl s vs)).pop)=AC r:=hx;cases K:c.fn x with
 | none=>rw [K] at hx;cases hx
 | some l=>
 rw [K] at hx;have hx:k (MU val c.rs l) (J8 s (Hl s vs)).pop=AC r:=hx;obtain ⟨ps,s1,O,Z⟩:=J E;have hs:Hg (AA s) (vs.map (AL s))=AC (ps.map (·.1),ps.flatMap (·.2)):=by simp only [Hg,s1]
 obtain ⟨M,X,Q⟩:=tY (h:=AA s) hF.fr.hp (uX hs);obtain ⟨h1,h2⟩:=uV (h:=AA s) hF.fr.hp (S':=λb=>S b\/KQ (AA s) μ (ps.flatMap (·.2)) b) (λb hb=>.inl hb) hs (λg hg o ho hl=>.inr ⟨g,hg,o,ho,hl,rfl⟩);obtain ⟨N,Y,t3⟩:=kJ (Hl s vs) hF.iv (Jq4 hF.iv okv);have efz:Jh (AA s) (ps.flatMap (·.2))=AA (J8 s (Hl s vs)):=by rw [t3];exact Jnb Z
 rw [efz] at M X Q;refine (g.run x l K w _ cargs M.lt (by rw [H,<-O.len];simp at h1 ⊢;omega) λi y hy=>?_).mono λe w' ⟨cv,he,B,F⟩=>?_
 .obtain ⟨z,hz,up⟩:=O.back hy;obtain ⟨v,f,G⟩:=h2 i z hz;refine up.rep (G _ ?_);rw [Ad] at f;cases a:vs[i]? with
  | none=>rw [a] at f;cases f
  | some u=>
   rw [a] at f;injection f with f;subst f;exact A i u a
 .subst he;obtain ⟨S2,μ2,r1,r2,r3,r4⟩:=ZL M F B;have ev:=X.trans r3;have vv:=Q.trans r4;have hF2:BG n0 w' S2 (J8 s (Hl s vs)) μ2 a0 (fr::fs):=by refine hF.step rfl ⟨λd=>?_,r2,hF.fr.hp.marks hF.fr.df ev,hF.fr.sz⟩ N.on Y ev vv;rw [NM hF.iv N];exact (hF.fr.fr d).Cz hF.fr.hp ev vv
  have eh:AA (J8 s (Hl s vs)).pop=AA (J8 s (Hl s vs)):=by
   unfold Dn.S.pop;split
   .exact Zd rfl rfl
   .rfl
  refine hR w' S2 _ _ _ cv hF2.pop (xg _ c.rs l) ?_ (by rw [eh];exact ev) hx;rw [eh,yN];exact r1
theorem Ka3{s:S Ty.T}{t:Ty}{el:TypeId}{α:Type}{v:V Ty.T}{k:AG t.T->AH α}{r:α}(h:eF val s.ob t el v k=AC r) :
  (v=.c (.k .BK)/\k []=AC r)\/∃(g ver:AM) (l:AG t.T),v=.c (.own g ver)/\look g s.ob=AC (.row ver t.sz el t l [] AD AF)/\0<t.sz/\k l=AC r:=by
 unfold eF at h;split at h
 .exact .inl ⟨rfl,h⟩
 .rename_i g ver;split at h
  .rename_i v e el' H l w;obtain ⟨⟨G,F,E,B⟩,y⟩:=ZC h;subst G;subst F;subst B;obtain ⟨m,f,A⟩:=Ji y;obtain ⟨et,d⟩:=Xo f;injection et with et;subst et;have a:m=l:=d;subst a;exact .inr ⟨g,v,m,rfl,w,E,A⟩
  .cases h
 .cases h
theorem eP{P:Program}{cx:Cx}{Γ:FuncId->AH BQ}(hct:cx.ct=Γ)(hΓ:NA P Γ)(hm:P.follows .mixedOrders=AE)(hso:IX P cx)(hbi:ZU P cx)(hcd:mF P cx)(hhs:cx.hs=[])(hrd:cx.rd=AF){c:KP}{n:AM}(hok:c.as.all GH=AE)(M:0<c.t.sz)(hfn:C9 P c.id)(hlt:Be yB c.id=AF)
  (hf:∀x r,c.fn x=AC r->M9 val cx n c.id c.as c.t c.el x=AC r):Mq P c:=by
 subst hct;refine ⟨hlt,hfn,hok,M,λx r hr w S cargs hS hsz ha=>?_⟩;have hd:=hf x r hr;unfold M9 at hd;obtain ⟨-,hcl⟩:=J6q (uD hΓ) hm n (tO hΓ) hso hbi hcd hrd hd;have hrep:BG 0 w S (⟨[],[[]],[],[],AD⟩:Dn.S Ty.T) ⟨λ_=>0,λ_=>0,λ_=>0⟩ KO [⟨0,KO,AD,w.heap.size⟩]:=
  ⟨VE (Jne hS _),rfl,λi l b hl R d v hv=>by
   cases i with
   | zero=>simp at hl;subst hl;cases hv
   | succ i=>simp at hl,λp B=>(by have:=Af.1 B;subst this;exact ⟨.nil,Bz _,Am _⟩),⟨λd hd=>(by cases hd),λq hq=>(by cases hq),λp B=>(by cases B),trivial⟩,λp B j r hj=>(by have:=Af.1 B;subst this;cases hj),λp B=>(by cases B),λl hl p B=>(by have:=Af.1 hl;subst this;cases B),λg o O=>(by cases O),λm hm=>(by cases hm)⟩
 have enc:=xU (s:=⟨[],[[]],[],[],AD⟩) hok x;refine (hcl hrep (by rw [hhs];intro j h hl;cases hl) (by
  intro pre f post e j q hj;cases pre with
  | nil=>injection e with e1 Y;subst e1;cases hj
  | cons p pre=>injection e with e1 Y;simp at Y) (xA x) (by rw [hsz,<-enc];simp) (λi v hv=>?_) rfl λw' S' μ' v s' cv r1 r2 Z X r5=>?_).1 hlt
 .refine .pure (ha i _ ?_);rw [<-enc,Ad,hv];rfl
 .have noOwn:∀b,¬Own (λ_=>AD) (⟨λ_=>0,λ_=>0,λ_=>0⟩:Gh) b:=λb ⟨g,o,O,_⟩=>by cases O
  have hS':∀b,S' b->zb S w w' b:=λb R=>by
   rcases X.st2 b R with K|K|K
   .exact .inl K
   .exact .inr ⟨K,r1.fr.hp.lt b R⟩
   .exact (noOwn b K).elim
  refine ⟨cv,rfl,⟨X.os,X.tape,X.output,X.size,λb R=>X.keep b R λ⟨g,o,O,_⟩=>by cases O⟩,?_⟩;rcases Ka3 r5 with ⟨rfl,e⟩|⟨g,v,a,rfl,O,e1,Y⟩
  .injection e with e;subst e;exact .inl ⟨rfl,AD,AX.CW (h:=AA s') Z⟩
  .injection Y with Y;subst Y
   .
    have hg:AA s' g=AC (.arr v c.t.sz c.el (a.flatMap c.t.cs) AF):=by rw [Jj O];simp [Dn.BD,Xm]
    have hl0:Q4 s' g v=a.length:=by simp [Q4,O,Ob.ver,Ob.CJ]
    have Z:AX w' S' (AA s') μ' (AB s' (.own g v)) cv:=Z;simp only [AB,hl0] at Z;have hcl:(a.flatMap c.t.cs).length=a.length * c.t.sz:=Jv a;have Q:a.flatMap c.t.cs=[]↔a=[]:=J4j M a;cases Z with
    | pure B=>cases B
    | arr _ _ _ _ _ o1 H hv1 h11 hr1=>
     rw [hg] at H;injection H with H;subst H;obtain ⟨esz,el2,cells,fz,eo,hk⟩:=hr1 rfl;injection eo with eo1 eo2 eo3 eo4 eo5;subst eo2;subst eo4;by_cases F:a=[]
     .obtain ⟨-,-,A,rfl⟩:=hk.1 (Q.2 F);exact .inl ⟨F,A,rfl⟩
     .have E:a.flatMap c.t.cs≠[]:=λq=>F (Q.1 q);obtain ⟨A,cap,cs0,el0,z0,rfl,hcap,J,L,hA⟩:=hk.2 E;obtain ⟨cs,R,hsz1,N,-⟩:=r1.fr.hp.ob g _ hg E;rw [R] at J;injection J with J;injection J with q1 q2 q3;subst q1;have hlp:0<a.length:=List.length_pos_iff.2 F;have hA:=hA (by omega);rw [Ay,Bm] at hA;subst hA;have G:(AU.arr v c.t.sz c.el (a.flatMap c.t.cs) AF).live=AE:=Kz.2 E;refine .inr ⟨F,μ'.b g,μ'.o g,cap,cs,?_,rfl,hcap,R,by rw [Au] at L;exact L,λi y hy=>?_⟩
      .rcases X.ow _ ⟨g,_,hg,rfl,G,rfl⟩ with K|K
       .exact (noOwn _ K).elim
       .exact K
      .have hfl:y.flat=AE:=Ar.1 (Yk c.t a) y (Ao hy);refine ⟨((N i y hy).1.flat hfl).mono (λq hq=>⟨hS' q hq,λe=>?_⟩) (λ_ _=>rfl),(N i y hy).2⟩;subst e;exact r1.fr.hp.own g _ hg rfl G hq
end Go.Dn
