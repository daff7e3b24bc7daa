/- What came in, as typed values: by the layout of its type. Conditions: none. -/
import Derived.Test.YtmfagdfkpjgeiaaGreatFD
import Derived.OpenShut
import Derived.ChangeArms
import Derived.Deep.Slices
import Derived.Carry
import Derived.Test.YtmfagdfkpjgeiaaGreatFB
import Derived.Test.YtmfagdfkpjgeiaaGreatDA
open Option renaming some -> AC, none -> AD
open Bool renaming true -> AE, false -> AF
open _root_ renaming List -> AG, Option -> AH, Int -> AI, Nat -> AM, Bool -> AN, if_neg -> AR, congrArg -> AT
set_option linter.unusedVariables false
set_option linter.unusedSimpArgs false
open _root_.Array renaming getD_eq_getD_getElem? → Aa, getElem?_append_left → Ao
open List renaming getElem?_eq_some_iff → Ab, mem_of_getElem? → Ac, length_eq_one_iff → Ad, eq_nil_of_length_eq_zero → Ae, getElem?_append_right → Af, getElem?_append_left → Ag, length_append → Ah, mem_singleton → Ai, all_eq_true → Ak, getElem?_take_of_lt → Ap, length_map → Aq, take_append_drop → Au, flatMap → Av
open Option.some renaming injEq → Aj
open Option renaming bind_some → Am
open Nat renaming add_mul → Ar, le_refl → As, one_mul → Aw
namespace Go.Vv
open Go Go.RowKit
inductive H6 where
 | b
 | i (k:IntKind)
 | s
 | sl (l:AG H6)
inductive Sd:H6->AV->Prop where
 | bool (x:AN):Sd .b (.bool x)
 | int (k:IntKind) (n:AI) (h:(Lit.int k n).wf=AE):Sd (.i k) (.int k n)
 | str (s:ByteArray):Sd .s (.str s)
 | BK (l:AG H6):Sd (.sl l) .BK
 | CF (l:AG H6) (n:AM) (L:AG AV) (hl:L.length=n * l.length) (hn:n<=maxLen)
   (h:∀i j x y,i<n->l[j]?=AC x->L[i * l.length+j]?=AC y->Sd x y):Sd (.sl l) (.CF n L)
def UJ(P:Program)(sh:TypeId->AH (AG H6)):AM->AG Field->AH (AG H6)
 | _,[]=>AC []
 | off,f::r=>
  if f.offset=off then
   match sh f.type with
   | some l=>if l.length=P.cellsOf f.type then (match UJ P sh (off+l.length) r with|some m=>AC (l++m)|none=>AD) else AD
   | none=>AD
  else AD
def UH(P:Program):AM->TypeId->AH (AG H6)
 | 0,_=>AD
 | k+1,t=>
  match P.underlying t with
  | some .bool=>AC [.b]
  | some (.int q)=>AC [.i q]
  | some .string=>AC [.s]
  | some (.slice e)=>match UH P k e with
   | some l=>if l.length=P.cellsOf e then AC [.sl l] else AD
   | none=>AD
  | some (.struct fs)=>match UJ P (UH P k) 0 fs.toList with
   | some l=>if l.length=P.cellsOf t then AC l else AD
   | none=>AD
  | _=>AD
inductive Reads (W:World) (S:AM->Prop):AG H6->AG AV->AG Value->Prop where
 | nil:Reads W S [] [] []
 | cons {x:H6} {y:AV} {v:Value} {xs:AG H6} {ys:AG AV} {vs:AG Value} (ho:Sd x y) (hr:AY W S y v) (h1:v.oneCell'=AE) (h:Reads W S xs ys vs):Reads W S (x::xs) (y::ys) (v::vs)
section
variable {W:World} {S:AM->Prop}
theorem Reads.append{xs:AG H6}{ys:AG AV}{vs:AG Value}(h:Reads W S xs ys vs){xs':AG H6}{ys':AG AV}{vs':AG Value}(h':Reads W S xs' ys' vs'):Reads W S (xs++xs') (ys++ys') (vs++vs'):=by
 induction h with
 | nil=>exact h'
 | cons d hr f _ a=>exact .cons d hr f a
theorem Reads.len{xs:AG H6}{ys:AG AV}{vs:AG Value}(h:Reads W S xs ys vs):ys.length=xs.length/\vs.length=xs.length:=by
 induction h with
 | nil=>exact ⟨rfl,rfl⟩
 | cons _ _ _ _ a=>exact ⟨by simp [a.1],by simp [a.2]⟩
theorem Reads.get{xs:AG H6}{ys:AG AV}{vs:AG Value}(h:Reads W S xs ys vs):∀ {i:AM} {y:AV},ys[i]?=AC y->∃x v,xs[i]?=AC x/\vs[i]?=AC v/\Sd x y/\AY W S y v/\v.oneCell'=AE:=by
 induction h with
 | nil=>intro i y a;simp at a
 | @cons x l v xs ys vs f hr g _ d=>
  intro i y a;cases i with
  | zero=>simp at a;subst a;exact ⟨x,v,rfl,rfl,f,hr,g⟩
  | succ i=>simpa using d (by simpa using a)
end
theorem Jnq{P:Program}{W:World}{S:AM->Prop}{sh:TypeId->AH (AG H6)}{cs:AG Value} :
  ∀(r:AG Field) (off:AM) (l:AG H6),UJ P sh off r=AC l->off+l.length<=cs.length ->
  (∀f∈r,∀m,sh f.type=AC m->∃L,Reads W S m L ((cs.drop f.offset).take (P.cellsOf f.type)))->∃L,Reads W S l L ((cs.drop off).take l.length)
 | [],off,l,h,_,_=>by cases h;exact ⟨[],by simpa using Reads.nil⟩
 | f::r,off,l,h,hl,a=>by
  unfold UJ at h;split at h
  .rename_i v;split at h
   .rename_i m w;split at h
    .rename_i A;split at h
     .rename_i q d;cases h;obtain ⟨L,hL⟩:=a f (by simp) m w;simp only [Ah] at hl;obtain ⟨L',hL'⟩:=Jnq r _ q d (by omega) (λg y=>a g (by simp [y]));refine ⟨L++L',?_⟩;have e:(cs.drop off).take (m++q).length=(cs.drop off).take m.length++(cs.drop (off+m.length)).take q.length:=by rw [Ah,List.take_add,List.drop_drop]
      rw [e];rw [v,<-A] at hL;exact hL.append hL'
     .cases h
    .cases h
   .cases h
  .cases h
theorem XL{W:World}{a:Addr}{v:Value}(h:W.cell? a=AC v):a.block<W.heap.size:=by
 unfold World.cell? at h;split at h
 .rename_i c _ _ d;exact (Array.getElem?_eq_some_iff.1 d).1
 .cases h
theorem Jg5{H:Type}{enc:TypeId×Value->H}{P:Program}{W:World}{base:AM}{spare:AM->AN}{held:AN}:∀(k:AM) (t:TypeId) (sh:AG H6),UH P k t=AC sh ->
  ∀(fuel:AM) (cs:AG Value) (x:DataW H×AG MemPlace),DataW.trod enc P W base spare held fuel t cs=AC x->∃L,Reads W (λb=>b<W.heap.size) sh L cs
 | 0,_,_,h=>by cases h
 | k+1,t,sh,h=>by
  intro fuel cs x hx;unfold UH at h;split at h
  .rename_i B;cases h;obtain ⟨b,rfl,-⟩:=DataW.trod_bool B hx;exact ⟨[.bool b],.cons (.bool b) (.bool b) rfl .nil⟩
  .rename_i q B;cases h;obtain ⟨n,rfl,-,hw⟩:=DataW.trod_int B hx;exact ⟨[.int q n],.cons (.int q n hw) (.int q n) rfl .nil⟩
  .rename_i B;cases h;obtain ⟨s,rfl,-,-⟩:=DataW.trod_string B hx;exact ⟨[.str s],.cons (.str s) (.str s) rfl .nil⟩
  .rename_i e B;split at h
   .rename_i l hl;split at h
    .rename_i hc;cases h;rcases Go.Deep.open_slice B hx with ⟨rfl,-⟩|⟨a,len,cap,m,n,D,Pl,rfl,hb,Y,hm,X,-,hi⟩
     .exact ⟨[.BK],.cons (.BK l) .BK rfl .nil⟩
     .have hlm:len<=m:=by rw [X];split<;>omega
      have all:∀w,w<=len->∃L:AG AV,L.length=w * l.length/\(∀(p:AM) y,L[p]?=AC y->∃v,W.cell? (a.add p)=AC v/\AY W (λb=>b<W.heap.size) y v/\v.oneCell'=AE) /\
        (∀(i j:AM) x y,i<w->l[j]?=AC x->L[i * l.length+j]?=AC y->Sd x y):=by
       intro w
       induction w with
       | zero=>intro _;exact ⟨[],by simp,by simp,by omega⟩
       | succ w ih=>
        intro hn';obtain ⟨L,G,F,h3⟩:=ih (by omega);obtain ⟨cs',Z,ht⟩:=hi w (by omega);obtain ⟨M,hM⟩:=Jg5 k e l hl n cs' _ ht;obtain ⟨-,N,E⟩:=World.cells?_some Z;have hML:=hM.len.1;refine ⟨L++M,by rw [Ah,G,hML,Ar,Aw],λp y d=>?_,λi j x y hin hx d=>?_⟩
        .by_cases hp:p<L.length
         .rw [Ag hp] at d;exact F p y d
         .rw [Af (by omega)] at d;obtain ⟨x,v,hx,A,-,hr,h1'⟩:=hM.get d;have g:p - L.length<P.cellsOf e:=by have:=(Ab.1 A).1;omega
          have:=E (p - L.length) g;rw [wQ,<-hc,<-G,A,show L.length+(p - L.length)=p by omega] at this;exact ⟨v,this,hr,h1'⟩
        .have hj:=(Ab.1 hx).1;by_cases O:i<w
         .have g:i * l.length+j<L.length:=by rw [G];have:(i+1) * l.length<=w * l.length:=Nat.mul_le_mul_right _ O;rw [Ar] at this;omega
          rw [Ag g] at d;exact h3 i j x y O hx d
         .obtain rfl:i=w:=by omega
          rw [Af (by omega),G,Nat.add_sub_cancel_left] at d;obtain ⟨x',v,J,-,ho,-,-⟩:=hM.get d;rw [hx] at J;cases J;exact ho
      obtain ⟨L,G,F,h3⟩:=all len (As _);refine ⟨[.CF len L],.cons (.CF l len L G (by omega) h3) (.CF len L a cap (λp=>(W.cell? (a.add p)).getD undef) ?_ Y ?_ ?_ ?_) rfl .nil⟩
      .intro R;cases L with
       | nil=>exact absurd rfl R
       | cons y r=>
        obtain ⟨v,A,-⟩:=F 0 y rfl;have:=XL A;rwa [show (a.add 0).block=a.block by unfold Addr.add;split<;>rfl] at this
      .intro i y d;obtain ⟨v,A,-⟩:=F i y d;rw [A];rfl
      .intro i y d;obtain ⟨v,A,-,h⟩:=F i y d;rw [A];exact h
      .intro i y d;obtain ⟨v,A,h,-⟩:=F i y d;rw [A];exact h
    .cases h
   .cases h
  .rename_i fs B;split at h
   .rename_i l hl;split at h
    .rename_i hc;cases h;obtain ⟨xs,n,-,-,N,hxl,hf⟩:=DataW.trod_struct B hx;obtain ⟨L,hL⟩:=Jnq (cs:=cs) fs.toList 0 _ hl (by omega) (λf K m hm=>by
      obtain ⟨i,hi⟩:=List.getElem?_of_mem K;have Q:=hf i f (by simpa using hi);have g:i<xs.length:=by have:=(Ab.1 hi).1;simp at this;omega
      rw [List.getElem?_eq_getElem g] at Q;exact Jg5 k f.type m hm n _ _ Q)
     refine ⟨L,?_⟩;rwa [List.drop_zero,List.take_of_length_le (by omega)] at hL
    .cases h
   .cases h
  .cases h
section
variable {H:Type} {enc:TypeId×Value->H} {P:Program} {W:World} {base:AM} {spare:AM->AN} {held:AN} {t:TypeId} {d:DataW H} {p:AG MemPlace}
theorem XV{k:AM}{sh:AG H6}{cs:Array Value}(hs:UH P k t=AC sh)(h:DataW.Trod enc P W base spare held t (.agg cs) d p) :
  ∃L,Reads W (λb=>b<W.heap.size) sh L cs.toList/\AY W (λb=>b<W.heap.size) (.agg L) (.agg cs):=by
 obtain ⟨fuel,g⟩:=h;obtain ⟨L,hL⟩:=Jg5 k t _ hs fuel _ _ g;have hL':Reads W (λb=>b<W.heap.size) sh L cs.toList:=hL;have a:=hL'.len;refine ⟨L,hL',.agg L cs (by rw [a.1,<-a.2];simp) (λi x hx=>?_) (λi x hx=>?_)⟩
 .obtain ⟨c,v,-,f,-,-,l⟩:=hL'.get hx;have:cs[i]?=AC v:=by simpa using f
  rw [Aa,this];exact l
 .obtain ⟨c,v,-,f,-,hr,-⟩:=hL'.get hx;have:cs[i]?=AC v:=by simpa using f
  rw [Aa,this];exact hr
theorem Ju7{r:Reach}{g:AM}{fs:Array Field}{v:Value}(f:P.underlying t=AC (.struct fs))(a:Value.okWide P W r g t v):∃cs,v=.agg cs:=by unfold Value.okWide at a;rw [f] at a;obtain ⟨cs,d,-⟩:=a;exact ⟨cs,d⟩
end
section
variable {W:World} {S:AM->Prop} {x0 x1 x2 x3 x4 x5:AV} {v0 v1 v2 v3 v4 v5:Value}
theorem qc(g:AY W S x0 v0)(f:AY W S x1 v1)(d:AY W S x2 v2)(a:AY W S x3 v3):∀i x,[x0,x1,x2,x3][i]?=AC x->AY W S x ((#[v0,v1,v2,v3]:Array Value).getD i undef)
 | 0,_,hx=>by cases hx;exact g
 | 1,_,hx=>by cases hx;exact f
 | 2,_,hx=>by cases hx;exact d
 | 3,_,hx=>by cases hx;exact a
 | _+4,_,hx=>by simp at hx
end
end Go.Vv
namespace Go.Dn
open Go Go.Vv Go.RowKit
def Ty.M7:Ty->AH (AG H6)
 | .int k=>AC [.i k]
 | .bool=>AC [.b]
 | .str=>AC [.s]
 | .ls t=>t.M7.map λl=>[.sl l]
 | .u=>AC []
 | .p a b=>match a.M7,b.M7 with|some l,AC m=>AC (l++m)|_,_=>AD
 | .bf _ _=>AD
def Ty.wf:(t:Ty)->t.T->Prop
 | .int k,v=>(Lit.int k v).wf=AE
 | .bool,_=>True
 | .str,_=>True
 | .ls t,v=>List.length (α:=t.T) v<=maxLen/\∀x:t.T,List.Mem x v->t.wf x
 | .u,_=>True
 | .p a b,v=>a.wf v.1/\b.wf v.2
 | .bf _ _,_=>True
structure qm (l:AG H6) (L:AG AV):Prop where
 len:L.length=l.length
 at':∀(i:AM) (x:H6) (y:AV),l[i]?=AC x->L[i]?=AC y->Sd x y
theorem J8a{W:World}{S:AM->Prop}{xs:AG H6}{ys:AG AV}{vs:AG Value}(h:Reads W S xs ys vs):qm xs ys:=
 ⟨h.len.1,λi x y hx d=>by obtain ⟨g,v,a,-,f,-⟩:=h.get d;rw [hx] at a;injection a with a;subst a;exact f⟩
theorem VN{a b:AG H6}{L:AG AV}(h:qm (a++b) L):∃M N,L=M++N/\qm a M/\qm b N:=by
 have hl:=h.len;rw [Ah] at hl;refine ⟨L.take a.length,L.drop a.length,(Au _ _).symm,⟨by rw [List.length_take];omega,λi x y hx d=>?_⟩,by rw [List.length_drop];omega,λi x y hx d=>?_⟩
 .have hi:=(Ab.1 hx).1;rw [Ap hi] at d;exact h.at' i x y (by rw [Ag hi];exact hx) d
 .rw [List.getElem?_drop] at d;exact h.at' (a.length+i) x y (by rw [Af (by omega),show a.length+i - a.length=i by omega];exact hx) d
theorem ME:∀(t:Ty) {l:AG H6},t.M7=AC l->∀L,qm l L->∃v:t.T,t.wf v/\DW L (t.cs v)
 | .int k,l,hl,L,h=>by
  simp only [Ty.M7,Aj] at hl;subst hl;obtain ⟨y,rfl⟩:=Ad.1 h.len;have:=h.at' 0 _ y rfl rfl;cases this with
  | int _ n r=>exact ⟨n,r,.refl _⟩
 | .bool,l,hl,L,h=>by
  simp only [Ty.M7,Aj] at hl;subst hl;obtain ⟨y,rfl⟩:=Ad.1 h.len;have:=h.at' 0 _ y rfl rfl;cases this with
  | bool b=>exact ⟨b,trivial,.refl _⟩
 | .str,l,hl,L,h=>by
  simp only [Ty.M7,Aj] at hl;subst hl;obtain ⟨y,rfl⟩:=Ad.1 h.len;have:=h.at' 0 _ y rfl rfl;cases this with
  | str s=>exact ⟨s,trivial,.refl _⟩
 | .u,l,hl,L,h=>by simp only [Ty.M7,Aj] at hl;subst hl;have:=h.len;rw [List.length_nil] at this;rw [Ae this];exact ⟨(),trivial,.nil⟩
 | .p a b,l,hl,L,h=>by
  simp only [Ty.M7] at hl;split at hl
  .rename_i la lb H G;injection hl with hl;subst hl;obtain ⟨M,N,rfl,K,J⟩:=VN h;obtain ⟨x,wx,hx⟩:=ME a H M K;obtain ⟨y,wy,d⟩:=ME b G N J;exact ⟨(x,y),⟨wx,wy⟩,hx.append d⟩
  .cases hl
 | .ls t,l,hl,L,h=>by
  simp only [Ty.M7,Option.map_eq_some_iff] at hl;obtain ⟨m,F,rfl⟩:=hl;obtain ⟨y,rfl⟩:=Ad.1 h.len;have O:=h.at' 0 _ y rfl rfl;cases O with
  | BK=>exact ⟨([]:AG t.T),⟨by simp,λx hx=>by cases hx⟩,.cons .BK .nil⟩
  | CF _ n L hL r f=>
   have key:∀(n:AM) (L:AG AV),L.length=n * m.length->(∀i j x y,i<n->m[j]?=AC x->L[i * m.length+j]?=AC y->Sd x y)->∃l:AG t.T,l.length=n/\(∀x∈l,t.wf x)/\DW L (l.flatMap t.cs):=by
    intro n
    induction n with
    | zero=>
     intro L hL _;rw [Nat.zero_mul] at hL;rw [Ae hL];exact ⟨[],rfl,by simp,.nil⟩
    | succ n E=>
     intro L hL f;rw [Ar,Aw] at hL;obtain ⟨x,wx,hx⟩:=ME t F (L.take m.length) ⟨by rw [List.length_take];omega,λi x y hx d=>by have hi:=(Ab.1 hx).1;rw [Ap hi] at d;exact f 0 i x y (by omega) hx (by rw [Nat.zero_mul,Nat.zero_add];exact d)⟩
     obtain ⟨l,B,A,w⟩:=E (L.drop m.length) (by rw [List.length_drop];omega) (λi j x y hi hx d=>by rw [List.getElem?_drop] at d;refine f (i+1) j x y (by omega) hx ?_;rw [Ar,Aw,show i * m.length+m.length+j=m.length+(i * m.length+j) by omega];exact d)
     refine ⟨x::l,by simp [B],λz g=>?_,?_⟩
     .rcases List.mem_cons.1 g with rfl|g
      .exact wx
      .exact A z g
     .have:=hx.append w;rw [Au] at this;rwa [List.flatMap_cons]
   obtain ⟨l,B,A,w⟩:=key n L hL f;subst B;exact ⟨l,⟨r,A⟩,.cons w.Pf .nil⟩
 | .bf _ _,l,hl,_,_=>by cases hl
section
variable {H:Type} {enc:TypeId×Value->H} {P:Program} {W:World} {base:AM} {spare:AM->AN} {held:AN} {t:TypeId} {d:DataW H} {p:AG MemPlace}
theorem gL{k:AM}{ty:Ty}{cs:Array Value}(hs:(UH P k t).isSome=AE)(e:UH P k t=ty.M7)(h:DataW.Trod enc P W base spare held t (.agg cs) d p) :
  ∃x:ty.T,ty.wf x/\AY W (λb=>b<W.heap.size) (FR (.ag,ty) x) (.agg cs):=by obtain ⟨l,hl⟩:=Option.isSome_iff_exists.1 hs;obtain ⟨L,hL,hr⟩:=XV hl h;obtain ⟨x,wx,hx⟩:=ME ty (e.symm.trans hl) L (J8a hL);exact ⟨x,wx,hx.Pg.rep hr⟩
end
theorem J6o{w w':World}(h:Old w w'):Below w.heap.size w w':=⟨h.os,h.tape,h.output.1,h.size,h.keep⟩
theorem Nj{P:Program}{f:FuncId}{aks:AG (AK×Ty)}{fn:(Y3 (aks.map (·.2))).T->AH AN}(l:Good P ⟨f,aks,[(AF,.bool)],fn⟩){x:(Y3 (aks.map (·.2))).T}(hx:fn x=AC AE){W:World}{cargs:Array Value}(d:cargs.size=(Fq aks x).length)
  (hr:∀i y,(Fq aks x)[i]?=AC y->AY W (λb=>b<W.heap.size) y (cargs.getD i undef)):Calls P f cargs W λe w'=>e=.returned (.bool AE)/\Below W.heap.size W w':=by refine (l.run x AE hx W (λb=>b<W.heap.size) cargs (λ_ h=>h) d hr).mono λe w' ⟨cv,m,a,g⟩=>?_;have a:AY w' _ (.bool AE) cv:=a;cases a;exact ⟨m,J6o g⟩
end Go.Dn
namespace Go.Dn
open Go Go.Vv
noncomputable def iw(cf:AI->AI×AI->AI×AI->AI)(okw:AI->AN)(ok:AI×AI->AN)(d0:{x:AI×AI // ok x=AE})(p:AG (AI×AI)×AI):AH (AG (AI×AI)):=
 if h:p.1.length<4611686018427387904/\okw p.2=AE/\p.1.all ok=AE then AC ((haveI:Inhabited {x:AI×AI // ok x=AE}:=⟨d0⟩;Ht (Go.Proofs.ltOf λx y:{x:AI×AI // ok x=AE}=>cf p.2 x.1 y.1) (MS ok p.1 h.2.2)).map Subtype.val) else AD
theorem J5j{cf:AI->AI×AI->AI×AI->AI}{okw:AI->AN}{ok:AI×AI->AN}{d0:{x:AI×AI // ok x=AE}}(hO:∀n,okw n=AE->Go.Sort.SWO (Go.Proofs.ltOf λx y:{x:AI×AI // ok x=AE}=>cf n x.1 y.1)){l:AG (AI×AI)}{n:AI}(g:l.length<4611686018427387904)(d:okw n=AE)(f:∀x∈l,ok x=AE) :
  ∃r,iw cf okw ok d0 (l,n)=AC r/\r.Perm l:=by
 have a:l.all ok=AE:=Ak.2 f;unfold iw;rw [dif_pos ⟨g,d,a⟩]
 letI:Inhabited {x:AI×AI // ok x=AE}:=⟨d0⟩
 refine ⟨_,rfl,?_⟩;have:=(nP (hO n d) (MS ok l a)).map Subtype.val;rwa [kG a] at this
open Go.Proofs Go.Shelf in
theorem J65{P:Program}{g:FuncId}{fn:(AI×AI)×(AI×AI)×AI->AH AI}(F:Good P ⟨g,[(.ag,.p I I),(.ag,.p I I),(.rp,I)],[(AF,I)],fn⟩){cf:AI->AI×AI->AI×AI->AI}{ok:AI×AI->AN}[Inhabited {x:AI×AI // ok x=AE}]{n:AI}(r:∀x y,ok x=AE->ok y=AE->fn (x,y,n)=AC (cf n x y))
  {w:World} {S:AM->Prop} {cp:Value} (hS:∀b,S b->b<w.heap.size) (B:AY w S (.CP [.int .i64 n]) cp) {b:AM} (G:¬S b) (off m:AM) :
  CmpLays P g #[cp] (λx:{x:AI×AI // ok x=AE}=>Cj (t:=.p I I) x.1) (Ty.p I I).sz (λx y=>cf n x.1 y.1) b off m w:=λq os dk E x y=>by
 have a:∀(W:World) (x:(Ty.p I I).T),AY W S (.agg ((Ty.p I I).cs x)) (.agg (Cj x).toArray):=λW x=>by
  have at':∀(i:AM) (z:AV),((Ty.p I I).cs x)[i]?=AC z->(Cj x).toArray.getD i undef=MX z:=λi z hi=>by simp [Cj,Aa,hi]
  refine .agg _ _ (by simp [Cj]) (λi z hi=>?_) (λi z hi=>?_)
  .rw [at' i z hi];exact (mX (w:=W) (S:=λ_=>False) (Sw (t:=.p I I) rfl x z (Ac hi))).2
  .rw [at' i z hi];exact (mX (Sw (t:=.p I I) rfl x z (Ac hi))).1
 generalize hW:sortWorldK (λx:{x:AI×AI // ok x=AE}=>Cj (t:=.p I I) x.1) (Ty.p I I).sz w b off q dk os=W;have f:w.heap.size<=W.heap.size:=by subst hW;show w.heap.size<=((w.heap.modify b _)++os).size;simp
 have keep:∀k,S k->W.heap[k]?=w.heap[k]?:=λk d=>by subst hW;show ((w.heap.modify b _)++os)[k]?=_;rw [Ao (by simpa using hS k d),Array.getElem?_modify,AR (λe:b=k=>G (by rw [e];exact d))]
 have l:AY W S (.CP [.int .i64 n]) cp:=B.mono (λ_ h=>h) keep;refine (F.run (x.1,y.1,n) (cf n x.1 y.1) (r _ _ x.2 y.2) W S #[.agg (Cj (t:=.p I I) x.1).toArray,.agg (Cj (t:=.p I I) y.1).toArray,cp] (λk d=>Nat.lt_of_lt_of_le (hS k d) f) rfl λi z hi=>?_).mono λe w' ⟨cv,J,A,o⟩=>?_
 .match i,hi with
  | 0,hi=>injection hi with hi;subst hi;exact a W x.1
  | 1,hi=>injection hi with hi;subst hi;exact a W y.1
  | 2,hi=>injection hi with hi;subst hi;exact l
  | i+3,hi=>cases hi
 .have v:AY w' (zb S W w') (.int .i64 (cf n x.1 y.1)) cv:=A;have H:cv=.int .i64 (cf n x.1 y.1):=by cases v;rfl
  exact ⟨by rw [J,H],Jv7 o⟩
open Go.Proofs Go.Shelf in
theorem Nv{P:Program}{ρ:Ren}(L:SlLaysF0.n6 P ρ)(aE:∀w,(isAgg (ρ.t 24)).run P w=.ok AE w)(zE:∀w,(Go.sizeOf (ρ.t 24)).run P w=.ok 2 w){g:FuncId}{fn:(AI×AI)×(AI×AI)×AI->AH AI}(O:Good P ⟨g,[(.ag,.p I I),(.ag,.p I I),(.rp,I)],[(AF,I)],fn⟩)
  (cf:AI->AI×AI->AI×AI->AI) (okw:AI->AN) (ok:AI×AI->AN) (d0:{x:AI×AI // ok x=AE}) (hcf:∀n x y,okw n=AE->ok x=AE->ok y=AE->fn (x,y,n)=AC (cf n x y)) (hO:∀n,okw n=AE->Go.Sort.SWO (ltOf λx y:{x:AI×AI // ok x=AE}=>cf n x.1 y.1)) (hlt:Nat.ble yB (ρ.f 6)=AF) (hfk:C9 P (ρ.f 6)) :
  Mw P (ρ.f 6) (dV (ρ.f 6) g (iw cf okw ok d0)):=by
 refine ⟨hlt,hfk,λ{α base vs s k r} hd {n0 w S μ a0 fr fs cargs} hF okv E a {R} hR=>?_⟩;have popE:∀s2:Dn.S Ty.T,AA s2.pop=AA s2:=λs2=>by
  unfold Dn.S.pop;split
  .exact Zd rfl rfl
  .rfl
 have two:∀ {c0 c1:Value},cargs.size=2->cargs.getD 0 undef=c0->cargs.getD 1 undef=c1->cargs=#[c0,c1]:=λ{c0 c1} X h0 h1=>by
  apply Array.ext
  .rw [X];rfl
  .intro q H hq2;have gd:cargs[q]=cargs.getD q undef:=by simp [Aa,H]
   rw [gd]
   match q,hq2 with
   | 0,_=>exact h0
   | 1,_=>exact h1
 have Cb:∀ {w':World} {S':AM->Prop} {h':Heap} {μ':Gh},AX w' S' h' μ' (.Cb []) (.tuple #[]):=.Cb [] #[] rfl λi x hi=>by simp at hi
 simp only [dV] at hd;split at hd
 .rename_i g0 ver h gb vb;split at hd
  .rename_i v e el l v' n ho M;obtain ⟨⟨e1,e2,e3,e4⟩,hd2⟩:=ZC hd;subst e1;subst e2;subst e3;subst e4;obtain ⟨N,hN⟩:∃N:AI,N=n:=⟨_,rfl⟩;obtain ⟨d,J⟩:∃d:AG (AI×AI),d=l:=⟨_,rfl⟩;have hd:Hz (iw cf okw ok d0 (d,N)) (λm=>k (.tp []) (s.obj g0 (.row v 2 el (.p I I) m [] AD AF)).pop)=AC r:=by rw [J,hN];exact hd2
   cases F:iw cf okw ok d0 (d,N) with
   | none=>rw [F] at hd;cases hd
   | some m=>
   rw [F] at hd;have hd:k (.tp []) (s.obj g0 (.row v 2 el (.p I I) m [] AD AF)).pop=AC r:=hd;unfold iw at F;split at F
   case isFalse=>cases F
   rename_i hh;obtain ⟨h1,X,Q⟩:=hh;simp only at h1 X Q;injection F with F;have r0:=a 0 _ rfl;have r1:AX w S (AA s) μ (.fn h [.ptr gb v' 0]) (cargs.getD 1 undef):=a 1 _ rfl;obtain ⟨cs,f1,f2,f3⟩:=r1.EZ;have f2:cs.size=1:=f2.symm;obtain ⟨cp,hcp⟩:∃cp,cp=cs.getD 0 undef:=⟨_,rfl⟩;have ecs:cs=#[cp]:=by
    apply Array.ext
    .rw [f2];rfl
    .intro q H hq2;have:q=0:=by omega
     subst this;rw [hcp];simp [Aa,H]
   have rp:=f3 0 _ rfl;rw [<-hcp] at rp;rw [ecs] at f1;have hbx':look gb s.ob=AC (.box v' [.lf I N]):=by rw [hN];exact M
   have K:AA s gb=AC (.box v' [.int .i64 N]):=by rw [Jj hbx'];rfl
   have hg0:AA s g0=AC (.arr v 2 el (Av (α:=(Ty.p I I).T) (Ty.p I I).cs l) AF):=by rw [Jj ho];simp [Dn.BD,Xm]
   obtain ⟨S1,hS1⟩:∃S1:AM->Prop,S1=λb=>S b\/b=μ.b gb:=⟨_,rfl⟩;have hgl:μ.b gb<w.heap.size:=(hF.fr.hp.ob gb _ K).lt rfl;have hSl:∀b,S1 b->b<w.heap.size:=λb G=>by
    rw [hS1] at G;rcases G with G|rfl
    .exact hF.fr.hp.lt b G
    .exact hgl
   have hcpP:AY w S1 (.CP [.int .i64 N]) cp:=by
    refine Jj0 (h:=AA s) hF.fr.hp (S':=S1) (λb G=>by rw [hS1];exact .inl G) (ns:=[gb]) ?_ rp λg hg o ho' hl=>?_
    .simp [TS,Iz,K,AV.flat]
    .rw [Ai.1 hg,hS1];exact .inr rfl
   have hml:m.length=d.length:=by
    rw [<-F,Aq]
    letI:Inhabited {x:AI×AI // ok x=AE}:=⟨d0⟩
    have e:=AT List.length (kG Q);rw [Aq] at e;rw [(nP (hO N X) _).length_eq,e]
   have Y:iW P (ρ.f 6) (.p I I) #[.func (.func h) #[] #[cp]] w (λb=>¬S1 b) d m:=by
    refine ⟨rfl,hml,λhne b off cap cs el G hbb E hcap Z=>?_,λe A=>?_⟩
    .letI:Inhabited {x:AI×AI // ok x=AE}:=⟨d0⟩
     have hm:=kG Q;have hl:(MS ok d Q).length=d.length:=by have e:=AT List.length hm;rwa [Aq] at e
     have:=Jh2 (t:=.p I I) (cb:=#[cp]) L rfl aE zE (cf N) (α:={x:AI×AI // ok x=AE}) Subtype.val (hO N X) (MS ok d Q) (by rw [hl];exact h1) (cap:=cap) (λargs w=>Kx (f:=h) O.fn args w) (J65 O (λx y hx hy=>hcf N x y X hx hy) hSl hcpP G off _) hbb (by rw [hl];exact E) (λi v hi=>Z i v (by have e:List.map Subtype.val (MS ok d Q)=d:=hm;rw [<-e];exact hi))
     rw [hl] at this;rw [<-F];exact this
    .refine (AnyF.slices_SortFunc_none L A 0 (.func (.func h) #[] #[cp]) w).mono λe w' ⟨e1,e2⟩=>⟨e1,?_⟩;subst e2;exact ⟨rfl,rfl,⟨rfl,As _⟩,As _,λ_ _=>rfl⟩
   have hne:d≠[]->¬S1 (μ.b g0):=λhn hs=>by
    have B:(AU.arr v 2 el (Av (α:=(Ty.p I I).T) (Ty.p I I).cs l) AF).live=AE:=Kz.2 λq=>hn (by have hz:=(Jv (t:=.p I I) l).symm.trans (AT List.length q);have hz:List.length (α:=(Ty.p I I).T) l * 2=0:=hz;rw [J];exact Ae (by omega))
    rw [hS1] at hs;rcases hs with hs|hs
    .exact hF.fr.hp.own g0 _ hg0 rfl B hs
    .have:=hF.fr.hp.inj g0 gb _ _ hg0 K B rfl hs;subst this;rw [ho] at M;cases M
   rw [two E rfl f1];refine J24 (g:=g0) hF Y hne (by rw [J];exact ho) rfl (by decide) r0 λw' q1 q2=>?_;exact hR w' S μ (.tp []) _ (.tuple #[]) q1.pop (λc O=>by cases O) (by rw [popE];exact Cb) (by rw [popE];exact q2) hd
  .cases hd
 .rename_i u;have e0:cargs.getD 0 undef=.slice AD 0 0:=AX.CW (h:=AA s) (a 0 _ rfl);rw [two E e0 rfl];refine (AnyF.slices_SortFunc_none L AD 0 (cargs.getD 1 undef) w).mono λe w' ⟨e1,e2⟩=>?_;subst e1;subst e2;exact hR w' S μ (.tp []) s.pop _ hF.pop (λc O=>by cases O) (by rw [popE];exact Cb) (by rw [popE];exact .refl) hd
 .cases hd
def vF{ι:Ty->Type}:V ι->AN
 | .c (.own _ _)|.c (.ptr _ _ _)|.c (.k .BK)=>AE
 | _=>AF
def aP{ι:Ty->Type}:C ι->AN
 | .lf (.int _) _|.lf .bool _|.k .BK=>AE
 | _=>AF
def RF{ι:Ty->Type}:Ob ι->AN
 | .row _ _ _ t _ [] AD AF=>t.flat
 | .box _ cs=>cs.all aP
 | _=>AF
def XD{ι:Ty->Type}(s:S ι):AH (S ι):=match s.mo with
 | some _=>AD
 | none=>if s.ob.all (λp=>RF p.2)&&s.lo.all (·.isEmpty) then AC ⟨s.sl.map λp=>(p.1,if vF p.2 then p.2 else .c .any),s.lo,s.ob,s.ln,AD⟩ else AD
section
variable {ι:Ty->Type} {M:Type->Type} {α:Type} (mk:Cx->M6) (cx:Cx) (d:D ι M) (ex:AG (AM×AG AM)) (rt:AG AM) (k:LE->S ι->M α)
def rP:AM->LC->S ι->M α
 | 0,lc,s=>(match XD s with
  | some s=>C8 mk cx 0 lc rt ex rt d s k
  | none=>d.no)
 | m+1,.seq a b,s=>C8 mk cx 0 a (FT b rt ex rt) ex rt d s λe s'=>match e with
  | .normal=>rP m b s'
  | _=>d.no
 | _,_,_=>d.no
end
def RA(d:D Ty.T AH)(cx:Cx)(n m:AM)(f:FuncId)(ak:AG (AK×Ty))(rs:AG (AN×Ty))(a:(Y3 (ak.map (·.2))).T):AH (Y3 (rs.map (·.2))).T:=
 match cx.code f with
 | none=>AD
 | some lf=>if (KW d ak a).length=lf.np then rP (den n) cx d [] (lf.res.map RV.slot) (λe s'=>match e with
   | .exit _=>d.no
   | _=>Ii d s' lf.res λl=>LP d s'.pop.ob rs (TR l) AC) m lf.body ⟨Ms 0 (KW d ak a),[[]],[],[],AD⟩ else AD
def ML:AM->Code->AN
 | 0,_=>AE
 | m+1,.seq _ y=>ML m y
 | _,_=>AF
section
variable {P:Program} {nt:AM} {call:Vv.Call} {cx:Cx} {mk:Cx->M6} {fs:AG Fm}
theorem Ro(hC:j6 call cx.ct)(f:JJ P call)(hI:∀hs,ZA P hs (mk { cx with hs:=hs,rd:=AF }))(G:P.follows .mixedOrders=AE)(v:IX P cx)(J:He P cx.hs fs)(A:Ew fs){ex:AG (AM×AG AM)}{rt:AG AM}{α:Type}{k:LE->Dn.S Ty.T->AH α}{r:α} :
  ∀(m:AM) {c:Code} {lc:LC} (d:FY P nt c=AC lc) (B:ML m c=AE) {w:World} {S:AM->Prop} {s:Dn.S Ty.T} {μ:Gh} {a:Act} {Q:Exit->Act->World->Prop},BG nt w S s μ a fs->rP mk cx val ex rt k m lc s=AC r ->
   (∀c' lc' w' S' μ' s' a' l,FY P nt c'=AC lc'->BG nt w' S' s' μ' a' fs->CY w S (AA s) μ w' S' (AA s') μ'->XD s'=AC l->C8 mk cx 0 lc' rt ex rt val l k=AC r->c'.wpIn (Fr AD) 0 P Q a' w')->c.wpIn (Fr AD) 0 P Q a w
 | 0,c,lc,d,B,w,S,s,μ,a,Q,h,hd,H=>by
  simp only [rP] at hd;split at hd
  .rename_i l F;exact H c lc w S μ s a l d h .refl F hd
  .cases hd
 | m+1,c,lc,d,B,w,S,s,μ,a,Q,h,hd,H=>by
  cases c with
  | seq x y=>
   simp only [FY] at d;cases g:lg P nt x y with
   | some lk=>
    rw [g] at d;injection d with d;subst d;obtain ⟨i5,el,by',rfl,-,-⟩:=J0z (P:=P) (ro:=AD) g;cases hd
   | none=>
   rw [g] at d;simp only at d;cases hx:FY P nt x with
   | none=>rw [hx] at d;cases d
   | some lx=>
    rw [hx] at d;simp only [Am] at d;obtain ⟨ly,hy,rfl⟩:=Yd d;simp only [rP] at hd;refine wpIn_seq (J2b hC f hI G v (λ_=>rfl) J A x hx h hd λe K a' w' S' μ' s' is O N E=>?_);cases e with
    | normal=>
     cases K<;>simp only [LE.is] at is;exact Ro hC f hI G v J A m hy B O E λc' lc' L S2 μ2 l a2 M q1 Z Y X R=>H c' lc' L S2 μ2 l a2 M q1 Z (N.trans Y) X R
    | exit i=>cases E
    | ret=>cases E
  | _=>cases B
end
theorem XB{nt:AM}{w:World}{S:AM->Prop}{s O:Dn.S Ty.T}{μ:Gh}{a:Act}{fs:AG Fm}(h:BG nt w S s μ a fs)(A:XD s=AC O):BG nt w (λ_=>False) O μ a fs/\AA O=AA s/\O.lo=s.lo:=by
 unfold XD at A;split at A
 .cases A
 rename_i hmo;obtain ⟨Y,A⟩:=TV A;injection A with A;subst A;rw [Bool.and_eq_true] at Y;obtain ⟨Q,X⟩:=Y;have eh:AA (⟨s.sl.map λp=>(p.1,if vF p.2 then p.2 else .c .any),s.lo,s.ob,s.ln,AD⟩:Dn.S Ty.T)=AA s:=Zd rfl rfl hmo.symm;have ev:∀v,AL (⟨s.sl.map λp=>(p.1,if vF p.2 then p.2 else .c .any),s.lo,s.ob,s.ln,AD⟩:Dn.S Ty.T) v=AL s v:=λv=>bQ rfl rfl v;have marks:∀ {ds:AG Deferred},Marks w S ds->Marks w (λ_=>False) ds:=λ⟨E,B⟩=>⟨E,λd hd=>by obtain ⟨r,e1,e2,-⟩:=B d hd;exact ⟨r,e1,e2,id⟩⟩;have BK:∀ {v:Value},AX w S (AA s) μ .BK v->AX w (λ_=>False) (AA s) μ .BK v:=λhr=>by rw [hr.CW];exact .pure .BK
 have scal:∀ {x:AV} {v:Value},Mj x->AX w S (AA s) μ x v->AX w (λ_=>False) (AA s) μ x v:=λhx hr=>by
  rcases hx with ⟨b,rfl⟩|⟨k,n,rfl⟩|⟨y,rfl⟩
  .rw [hr.Ca];exact .pure (.bool b)
  .rw [hr.BI];exact .pure (.int k n)
  .rw [hr.Iy];exact .pure (.str y)
 have objs:∀g o,AA s g=AC o->∃q,look g s.ob=AC q/\o=Dn.BD s q/\RF q=AE:=λg o G=>by
  unfold AA at G;cases hl:look g s.ob with
  | none=>rw [hl,hmo] at G;cases G
  | some q=>
   rw [hl] at G;injection G with G;exact ⟨q,rfl,G.symm,Ak.1 Q (g,q) (Xq hl)⟩
 refine ⟨⟨⟨λd=>?_,⟨λg o M=>?_,λg g' o o' E B=>?_,λ_ _ _ _ _=>id,λ_ q=>q.elim⟩,marks h.fr.df,h.fr.sz⟩,h.len,λi l b hl Y d v P=>?_,λp F=>⟨marks (h.sz p F).1,(h.sz p F).2⟩,h.md,λp F j r hj=>?_,λp F=>?_,h.iv.lo,h.iv.ob,λm hm=>by cases hm⟩,eh,rfl⟩
 .show AX w _ (AA _) μ (AL _ (Dn.S.at _ d)) _;rw [eh,ev];have hd:AX w S (AA s) μ (AL s (s.at d)) (a.tmps.getD d undef):=h.fr.fr d;unfold Dn.S.at at hd ⊢;simp only;rw [wz (f:=λv:V Ty.T=>if vF v then v else .c .any)];cases P:look d s.sl with
  | none=>exact .any _
  | some v=>
   rw [P] at hd;simp only [Option.map_some];split
   .rename_i K;unfold vF at K;split at K
    .rename_i g ver;have hd:AX w S (AA s) μ (.arr g ver 0 (Q4 s g ver)) (a.tmps.getD d undef):=hd;show AX w _ (AA s) μ (.arr g ver 0 (Q4 s g ver)) _;cases hd with
     | pure F=>cases F
     | arr _ _ _ _ _ o E B H Z=>exact .arr _ _ _ _ _ o E B H Z
    .rename_i g ver off;have hd:AX w S (AA s) μ (.ptr g ver off) (a.tmps.getD d undef):=hd;show AX w _ (AA s) μ (.ptr g ver off) _;cases hd with
     | pure F=>cases F
     | ptr _ _ _ _ o E B H Z=>exact .ptr _ _ _ _ o E B H Z
    .exact BK hd
    .cases K
   .exact .any _
 .have G:AA s g=AC o:=by rw [<-eh];exact M
  clear M;show ER w _ (AA _) μ _ _ o;rw [eh];have hr:=h.fr.hp.ob g o G;obtain ⟨q,hq,rfl,N⟩:=objs g o G;unfold RF at N;split at N
  .rename_i v e el t l;have e1:Dn.BD s (.row v e el t l [] AD AF)=.arr v e el (Av (α:=t.T) t.cs l) AF:=by simp [Dn.BD,Xm]
   rw [e1] at hr ⊢;intro R;obtain ⟨cs,E,B,H,-⟩:=hr R;refine ⟨cs,E,B,λi x hx=>⟨scal ?_ (H i x hx).1,(H i x hx).2⟩,λq=>by cases q⟩;obtain ⟨u,_,hu⟩:=List.mem_flatMap.1 (Ac hx);exact Sw N u x hu
  .rename_i v cs0;obtain ⟨cs,el,E,B,H⟩:=hr;refine ⟨cs,el,E,B,λi x hx=>⟨?_,(H i x hx).2⟩⟩;have J:=(H i x hx).1;rw [List.getElem?_map] at hx;cases A:cs0[i]? with
   | none=>rw [A] at hx;cases hx
   | some c=>
    rw [A] at hx;injection hx with hx;subst hx;have L:=Ak.1 N c (Ac A);unfold aP at L;split at L
    .exact scal (.inr (.inl ⟨_,_,rfl⟩)) J
    .exact scal (.inl ⟨_,rfl⟩) J
    .exact BK J
    .cases L
  .cases N
 .exact h.fr.hp.inj g g' o o' ((congrFun eh g).symm.trans E) ((congrFun eh g').symm.trans B)
 .have:=Ak.1 X l (Ac hl);rw [List.isEmpty_iff] at this;subst this;cases P
 .obtain ⟨l1,-,l3⟩:=h.lp p F j r hj;exact ⟨l1,id,l3⟩
 .obtain ⟨q,hq,rfl⟩:=List.mem_map.1 F;simp only;split
  .exact h.iv.sl q hq
  .exact Xe (Ka _ rfl)
theorem QZ{P:Program}{cx:Cx}{Γ:FuncId->AH BQ}(hct:cx.ct=Γ)(hΓ:NA P Γ)(hm:P.follows .mixedOrders=AE)(O:IX P cx)(hbi:ZU P cx)(hcd:mF P cx)(hhs:cx.hs=[])(hrd:cx.rd=AF){c:BQ}{n m:AM}(hok:c.ok=AE)(hrk:c.rs.all FN=AE)
  (hsq:∀fn body,P.funcs[c.id]?=AC fn->fn.body=AC body->ML m body=AE) (hf:∀x r,c.fn x=AC r->RA val cx n m c.id c.as c.rs x=AC r) :
  ∀x r,c.fn x=AC r->∀(w:World) (S:AM->Prop) (cargs:Array Value),(∀b,S b->b<w.heap.size)->cargs.size=(Fq c.as x).length->(∀(i:AM) (y:AV),(Fq c.as x)[i]?=AC y->AY w S y (cargs.getD i undef)) ->
   Calls P c.id cargs w λe w'=>∃cv,e=.returned cv/\AY w' (zb (λ_=>False) w w') (E8 c.rs r) cv/\Old w w':=by
 subst hct;intro x r hr w S cargs hS hsz ha;have hd:=hf x r hr;unfold RA at hd;cases Y:cx.code c.id with
 | none=>rw [Y] at hd;cases hd
 | some lf=>
 rw [Y] at hd;simp only at hd;have h:=hcd c.id lf Y;unfold vM at h;cases H:P.funcs[c.id]? with
 | none=>rw [H] at h;cases h
 | some fn=>
 rw [H] at h;simp only [Am] at h;cases B:fn.body with
 | none=>rw [B] at h;cases h
 | some body=>
 rw [B] at h;simp only [Am] at h;split at h
 .cases h
 cases R:FY P fn.ntmps body with
 | none=>rw [R] at h;cases h
 | some b=>
 rw [R] at h;simp only [Am] at h;obtain ⟨rs,hrs,rfl⟩:=Yd h;split at hd
 case isFalse=>cases hd
 rename_i hnp;obtain ⟨fr,X⟩:∃fr:Fm,fr=⟨0,KO,AD,w.heap.size⟩:=⟨_,rfl⟩;obtain ⟨μ0,hμ0⟩:∃μ0:Gh,μ0=⟨λ_=>0,λ_=>0,λ_=>0⟩:=⟨_,rfl⟩;have enc:=xU (s:=⟨[],[[]],[],[],AD⟩) hok x;have h0:AA (⟨Ms 0 (KW val c.as x),[[]],[],[],AD⟩:Dn.S Ty.T)=λ_=>AD:=rfl;have hln:cargs.size=(KW val c.as x).length:=by rw [hsz,<-enc];simp
 have K:He P cx.hs [fr]:=by rw [hhs];intro j h hl;cases hl
 have L:Ew [fr]:=by
  intro pre f post e j q hj;cases pre with
  | nil=>injection e with Z e2;subst Z;rw [X] at hj;cases hj
  | cons p pre=>injection e with Z e2;simp at e2
 have hF:BG fn.ntmps w S (⟨Ms 0 (KW val c.as x),[[]],[],[],AD⟩:Dn.S Ty.T) μ0 { tmps:=cargs++Array.replicate (fn.ntmps - cargs.size) undef,defers:=[] } [fr]:=by
  subst X;refine ⟨⟨λd=>?_,Jne hS _,.nil,by simp;omega⟩,rfl,λi l b hl B d v hv=>by
   cases i with
   | zero=>simp at hl;subst hl;cases hv
   | succ i=>simp at hl,λp G=>(by have:=Ai.1 G;subst this;exact ⟨.nil,Nat.zero_le _,As _⟩),⟨λd hd=>(by cases hd),λq hq=>(by cases hq),λp G=>(by cases G),trivial⟩,λp G j r hj=>(by have:=Ai.1 G;subst this;cases hj),λp G=>xA x _ (Jp9 G),λl hl p G=>(by have:=Ai.1 hl;subst this;cases G),λg o ho=>(by cases ho),λm hm=>(by cases hm)⟩
  show AX w S (λ_=>AD) μ0 (AL _ (Dn.S.at _ d)) _;unfold Dn.S.at;simp only [Jm0,Nat.zero_le,if_true,Nat.sub_zero];cases hvd:(KW val c.as x)[d]? with
  | none=>exact .any _
  | some v=>
   simp only;have A:d<cargs.size:=by have:=(Ab.1 hvd).1;omega
   have e:(cargs++Array.replicate (fn.ntmps - cargs.size) undef).getD d undef=cargs.getD d undef:=by simp only [Aa];rw [Ao A]
   rw [e];refine .pure (ha d _ ?_);have:=AT (·[d]?) enc;simp only [List.getElem?_map,hvd,Option.map_some] at this;rw [<-this];exact AT AC (bQ rfl rfl v)
 have hI:∀hs,ZA P hs (den n { cx with hs:=hs,rd:=AF }):=λhs=>J6q (uD hΓ) hm n (cx:={ cx with hs:=hs,rd:=AF }) (tO hΓ) O hbi hcd rfl;refine callsIn_wide.1 (callsIn_of_wp_marks (F:=Fr AD) (n:=0) H B trivial (wpIn_mono (Ro (tO hΓ) (uD hΓ) hI hm O K L m R (hsq fn body H B) hF hd (Q:=bodyPostM (Fr AD) 0 P fn _) λc' lc' w1 S1 μ1 s1 a1 s2 q1 q2 N q4 q5=>?_) λ_ _ _ q=>q));obtain ⟨g1,g2,g3⟩:=XB q2 q4;have newOwn:∀b,Own (AA s2) μ1 b->w.heap.size<=b:=λb ho=>by
  rw [g2] at ho;rcases N.ow b ho with E|E
  .obtain ⟨g,o,hg,-⟩:=E;cases hg
  .exact E
 refine J2b (tO hΓ) (uD hΓ) hI hm O (λ_=>rfl) K L c' q1 g1 q5 λe x' a' w' S' μ' s' is M J r3=>?_;have fin:(Ii val s' rs λl=>LP val s'.pop.ob c.rs (TR l) AC)=AC r->bodyPostM (Fr AD) 0 P fn (λe w'=>∃cv,e=.returned cv/\AY w' (zb (λ_=>False) w w') (E8 c.rs r) cv/\Old w w') .ret a' w':=λh3=>by
  have r1':BG fn.ntmps w' S' s' μ' { tmps:=a'.tmps,defers:=a'.defers } [fr]:=M;refine Jim a'.defers r1' λw2 M a=>?_;rw [X] at a;obtain ⟨l,cv,p1,p2,p3,p4⟩:=Jq8 (P:=P) M.fr M.iv hrs h3;have Z:s'.pop.ob=s'.ob/\s'.pop.ln=s'.ln:=by unfold Dn.S.pop;split<;>exact ⟨rfl,rfl⟩
  have eh:AA s'.pop=AA s':=Zd Z.1 Z.2 (J2v _);have hw1:w.heap.size<=w1.heap.size:=N.size;refine ⟨cv,p1,cv,rfl,?_,(a.os.trans J.os).trans N.os,(a.tape.trans J.tape).trans N.tape,⟨(a.output.trans J.output.1).trans N.output.1,by have:=J.output.2;have:=N.output.2;rw [a.drawn];omega⟩,by rw [a.size];have:=J.size;omega,λb B=>?_⟩
  .refine J6y (s':=s'.pop) (S':=S') hrk (by rw [eh];exact M.fr.hp) (λb B=>?_) (λb B=>?_) (by rw [eh,bQ Z.1 Z.2];exact p3) p4
   .have A:=M.fr.hp.lt b B;rcases J.st2 b B with E|E|E
    .exact E.elim
    .exact .inr ⟨by omega,A⟩
    .exact .inr ⟨newOwn b E,A⟩
   .rw [eh] at B;have A:b<w2.heap.size:=by obtain ⟨g,o1,hg1,hz1,hl1,rfl⟩:=B;exact (M.fr.hp.ob g _ hg1).lt hl1
    rcases J.ow b B with E|E
    .exact .inr ⟨newOwn b E,A⟩
    .exact .inr ⟨by omega,A⟩
  .rw [a.low b B,J.keep b (by omega) λho=>by have:=newOwn b ho;omega,N.keep b B λ⟨g,o,hg,_⟩=>by cases hg]
 cases e with
 | exit i=>cases r3
 | normal=>cases x'<;>simp only [LE.is] at is;exact fin r3
 | ret=>cases x'<;>simp only [LE.is] at is;exact fin r3
theorem VI{w w':World}{S:AM->Prop}{el:TypeId}{t:Ty}{r:AG t.T}{cv:Value}(a:0<t.sz)(h:YF w w' S el t r cv):iY w w' S el t.sz (List.length r) (r.flatMap t.cs) cv:=by
 rcases h with ⟨e,A,rfl⟩|⟨e,b,o,cap,cs,m,rfl,l,g,f,d⟩
 .subst e;exact .inl ⟨rfl,rfl,A,rfl⟩
 .exact .inr ⟨λq=>e ((J4j a r).1 q),b,o,cap,cs,m,rfl,l,g,f,Jv r,d⟩
end Go.Dn
