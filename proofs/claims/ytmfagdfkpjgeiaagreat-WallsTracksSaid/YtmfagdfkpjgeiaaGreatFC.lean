/- What came in, as typed values: by the layout of its type. Conditions: none. -/
import Derived.Test.YtmfagdfkpjgeiaaGreatFD
import Derived.OpenShut
import Derived.ChangeArms
import Derived.Deep.Slices
import Derived.Carry
set_option linter.unusedVariables false
set_option linter.unusedSimpArgs false
open List renaming getElem?_eq_some_iff → Aa, length_eq_one_iff → Ab, getElem?_append_right → Ac, getElem?_append_left → Ad, length_append → Ae, eq_nil_of_length_eq_zero → Ag, getElem?_take_of_lt → Ai, take_append_drop → Ak
open Option.some renaming injEq → Af
open _root_.Array renaming getD_eq_getD_getElem? → Ah
open Nat renaming add_mul → Aj, one_mul → Am
namespace Go.Vv
open Go Go.RowKit
inductive HY where
 | b
 | i (k:IntKind)
 | s
 | sl (l:List HY)
inductive Sj:HY->AV->Prop where
 | bool (x:Bool):Sj .b (.bool x)
 | int (k:IntKind) (n:Int) (h:(Lit.int k n).wf=true):Sj (.i k) (.int k n)
 | str (s:ByteArray):Sj .s (.str s)
 | BM (l:List HY):Sj (.sl l) .BM
 | CB (l:List HY) (n:Nat) (L:List AV) (hl:L.length=n * l.length) (hn:n<=maxLen)
   (h:∀i j x y,i<n->l[j]?=some x->L[i * l.length+j]?=some y->Sj x y):Sj (.sl l) (.CB n L)
def UN(P:Program)(sh:TypeId->Option (List HY)):Nat->List Field->Option (List HY)
 | _,[]=>some []
 | off,f::r=>
  if f.offset=off then
   match sh f.type with
   | some l=>if l.length=P.cellsOf f.type then (match UN P sh (off+l.length) r with|some m=>some (l++m)|none=>none) else none
   | none=>none
  else none
def UM(P:Program):Nat->TypeId->Option (List HY)
 | 0,_=>none
 | k+1,t=>
  match P.underlying t with
  | some .bool=>some [.b]
  | some (.int q)=>some [.i q]
  | some .string=>some [.s]
  | some (.slice e)=>match UM P k e with
   | some l=>if l.length=P.cellsOf e then some [.sl l] else none
   | none=>none
  | some (.struct fs)=>match UN P (UM P k) 0 fs.toList with
   | some l=>if l.length=P.cellsOf t then some l else none
   | none=>none
  | _=>none
inductive Reads (W:World) (S:Nat->Prop):List HY->List AV->List Value->Prop where
 | nil:Reads W S [] [] []
 | cons {x:HY} {y:AV} {v:Value} {xs:List HY} {ys:List AV} {vs:List Value} (ho:Sj x y) (hr:BD W S y v) (h1:v.oneCell'=true) (h:Reads W S xs ys vs):Reads W S (x::xs) (y::ys) (v::vs)
section
variable {W:World} {S:Nat->Prop}
theorem Reads.append{xs:List HY}{ys:List AV}{vs:List Value}(h:Reads W S xs ys vs){xs':List HY}{ys':List AV}{vs':List Value}(h':Reads W S xs' ys' vs'):Reads W S (xs++xs') (ys++ys') (vs++vs'):=by
 induction h with
 | nil=>exact h'
 | cons d hr f _ a=>exact .cons d hr f a
theorem Reads.len{xs:List HY}{ys:List AV}{vs:List Value}(h:Reads W S xs ys vs):ys.length=xs.length/\vs.length=xs.length:=by
 induction h with
 | nil=>exact ⟨rfl,rfl⟩
 | cons _ _ _ _ a=>exact ⟨by simp [a.1],by simp [a.2]⟩
theorem Reads.get{xs:List HY}{ys:List AV}{vs:List Value}(h:Reads W S xs ys vs):∀ {i:Nat} {y:AV},ys[i]?=some y->∃x v,xs[i]?=some x/\vs[i]?=some v/\Sj x y/\BD W S y v/\v.oneCell'=true:=by
 induction h with
 | nil=>intro i y a;simp at a
 | @cons x l v xs ys vs f hr g _ d=>
  intro i y a;cases i with
  | zero=>simp at a;subst a;exact ⟨x,v,rfl,rfl,f,hr,g⟩
  | succ i=>simpa using d (by simpa using a)
end
theorem Jpk{P:Program}{W:World}{S:Nat->Prop}{sh:TypeId->Option (List HY)}{cs:List Value} :
  ∀(r:List Field) (off:Nat) (l:List HY),UN P sh off r=some l->off+l.length<=cs.length ->
  (∀f∈r,∀m,sh f.type=some m->∃L,Reads W S m L ((cs.drop f.offset).take (P.cellsOf f.type)))->∃L,Reads W S l L ((cs.drop off).take l.length)
 | [],off,l,h,_,_=>by cases h;exact ⟨[],by simpa using Reads.nil⟩
 | f::r,off,l,h,hl,a=>by
  unfold UN at h;split at h
  ·rename_i o;split at h
   ·rename_i m v;split at h
    ·rename_i y;split at h
     ·rename_i q d;cases h;obtain ⟨L,hL⟩:=a f (by simp) m v;simp only [Ae] at hl;obtain ⟨L',hL'⟩:=Jpk r _ q d (by omega) (λg w=>a g (by simp [w]));refine ⟨L++L',?_⟩;have e:(cs.drop off).take (m++q).length=(cs.drop off).take m.length++(cs.drop (off+m.length)).take q.length:=by rw [Ae,List.take_add,List.drop_drop]
      rw [e];rw [o,<-y] at hL;exact hL.append hL'
     ·cases h
    ·cases h
   ·cases h
  ·cases h
theorem Wu{W:World}{a:Addr}{v:Value}(h:W.cell? a=some v):a.block<W.heap.size:=by
 unfold World.cell? at h;split at h
 ·rename_i c _ _ d;exact (Array.getElem?_eq_some_iff.1 d).1
 ·cases h
theorem Jhm{H:Type}{enc:TypeId×Value->H}{P:Program}{W:World}{base:Nat}{spare:Nat->Bool}{held:Bool}:∀(k:Nat) (t:TypeId) (sh:List HY),UM P k t=some sh ->
  ∀(fuel:Nat) (cs:List Value) (x:DataW H×List MemPlace),DataW.trod enc P W base spare held fuel t cs=some x->∃L,Reads W (λb=>b<W.heap.size) sh L cs
 | 0,_,_,h=>by cases h
 | k+1,t,sh,h=>by
  intro fuel cs x hx;unfold UM at h;split at h
  ·rename_i A;cases h;obtain ⟨b,rfl,-⟩:=DataW.trod_bool A hx;exact ⟨[.bool b],.cons (.bool b) (.bool b) rfl .nil⟩
  ·rename_i q A;cases h;obtain ⟨n,rfl,-,hw⟩:=DataW.trod_int A hx;exact ⟨[.int q n],.cons (.int q n hw) (.int q n) rfl .nil⟩
  ·rename_i A;cases h;obtain ⟨s,rfl,-,-⟩:=DataW.trod_string A hx;exact ⟨[.str s],.cons (.str s) (.str s) rfl .nil⟩
  ·rename_i e A;split at h
   ·rename_i l hl;split at h
    ·rename_i hc;cases h;rcases Go.Deep.open_slice A hx with ⟨rfl,-⟩|⟨a,len,cap,m,n,D,Pl,rfl,hb,X,hm,R,-,hi⟩
     ·exact ⟨[.BM],.cons (.BM l) .BM rfl .nil⟩
     ·have hlm:len<=m:=by rw [R];split<;>omega
      have all:∀o,o<=len->∃L:List AV,L.length=o * l.length/\(∀(p:Nat) y,L[p]?=some y->∃v,W.cell? (a.add p)=some v/\BD W (λb=>b<W.heap.size) y v/\v.oneCell'=true) /\
        (∀(i j:Nat) x y,i<o->l[j]?=some x->L[i * l.length+j]?=some y->Sj x y):=by
       intro o
       induction o with
       | zero=>intro _;exact ⟨[],by simp,by simp,by omega⟩
       | succ o ih=>
        intro hn';obtain ⟨L,F,E,Z⟩:=ih (by omega);obtain ⟨cs',Y,ht⟩:=hi o (by omega);obtain ⟨M,hM⟩:=Jhm k e l hl n cs' _ ht;obtain ⟨-,K,B⟩:=World.cells?_some Y;have hML:=hM.len.1;refine ⟨L++M,by rw [Ae,F,hML,Aj,Am],λp y d=>?_,λi j x y hin hx d=>?_⟩
        ·by_cases hp:p<L.length
         ·rw [Ad hp] at d;exact E p y d
         ·rw [Ac (by omega)] at d;obtain ⟨x,v,hx,w,-,hr,h1'⟩:=hM.get d;have g:p - L.length<P.cellsOf e:=by have:=(Aa.1 w).1;omega
          have:=B (p - L.length) g;rw [ug,<-hc,<-F,w,show L.length+(p - L.length)=p by omega] at this;exact ⟨v,this,hr,h1'⟩
        ·have hj:=(Aa.1 hx).1;by_cases N:i<o
         ·have g:i * l.length+j<L.length:=by rw [F];have:(i+1) * l.length<=o * l.length:=Nat.mul_le_mul_right _ N;rw [Aj] at this;omega
          rw [Ad g] at d;exact Z i j x y N hx d
         ·obtain rfl:i=o:=by omega
          rw [Ac (by omega),F,Nat.add_sub_cancel_left] at d;obtain ⟨x',v,G,-,ho,-,-⟩:=hM.get d;rw [hx] at G;cases G;exact ho
      obtain ⟨L,F,E,Z⟩:=all len (Nat.le_refl _);refine ⟨[.CB len L],.cons (.CB l len L F (by omega) Z) (.CB len L a cap (λp=>(W.cell? (a.add p)).getD undef) ?_ X ?_ ?_ ?_) rfl .nil⟩
      ·intro Q;cases L with
       | nil=>exact absurd rfl Q
       | cons y r=>
        obtain ⟨v,w,-⟩:=E 0 y rfl;have:=Wu w;rwa [show (a.add 0).block=a.block by unfold Addr.add;split<;>rfl] at this
      ·intro i y d;obtain ⟨v,w,-⟩:=E i y d;rw [w];rfl
      ·intro i y d;obtain ⟨v,w,-,h⟩:=E i y d;rw [w];exact h
      ·intro i y d;obtain ⟨v,w,h,-⟩:=E i y d;rw [w];exact h
    ·cases h
   ·cases h
  ·rename_i fs A;split at h
   ·rename_i l hl;split at h
    ·rename_i hc;cases h;obtain ⟨xs,n,-,-,K,hxl,hf⟩:=DataW.trod_struct A hx;obtain ⟨L,hL⟩:=Jpk (cs:=cs) fs.toList 0 _ hl (by omega) (λf J m hm=>by
      obtain ⟨i,hi⟩:=List.getElem?_of_mem J;have O:=hf i f (by simpa using hi);have g:i<xs.length:=by have:=(Aa.1 hi).1;simp at this;omega
      rw [List.getElem?_eq_getElem g] at O;exact Jhm k f.type m hm n _ _ O)
     refine ⟨L,?_⟩;rwa [List.drop_zero,List.take_of_length_le (by omega)] at hL
    ·cases h
   ·cases h
  ·cases h
section
variable {H:Type} {enc:TypeId×Value->H} {P:Program} {W:World} {base:Nat} {spare:Nat->Bool} {held:Bool} {t:TypeId} {d:DataW H} {p:List MemPlace}
theorem XA{k:Nat}{sh:List HY}{cs:Array Value}(hs:UM P k t=some sh)(h:DataW.Trod enc P W base spare held t (.agg cs) d p) :
  ∃L,Reads W (λb=>b<W.heap.size) sh L cs.toList/\BD W (λb=>b<W.heap.size) (.agg L) (.agg cs):=by
 obtain ⟨fuel,g⟩:=h;obtain ⟨L,hL⟩:=Jhm k t _ hs fuel _ _ g;have hL':Reads W (λb=>b<W.heap.size) sh L cs.toList:=hL;have a:=hL'.len;refine ⟨L,hL',.agg L cs (by rw [a.1,<-a.2];simp) (λi x hx=>?_) (λi x hx=>?_)⟩
 ·obtain ⟨c,v,-,f,-,-,l⟩:=hL'.get hx;have:cs[i]?=some v:=by simpa using f
  rw [Ah,this];exact l
 ·obtain ⟨c,v,-,f,-,hr,-⟩:=hL'.get hx;have:cs[i]?=some v:=by simpa using f
  rw [Ah,this];exact hr
theorem Jwr{r:Reach}{g:Nat}{fs:Array Field}{v:Value}(f:P.underlying t=some (.struct fs))(a:Value.okWide P W r g t v):∃cs,v=.agg cs:=by unfold Value.okWide at a;rw [f] at a;obtain ⟨cs,d,-⟩:=a;exact ⟨cs,d⟩
end
section
variable {W:World} {S:Nat->Prop} {x0 x1 x2 x3 x4 x5:AV} {v0 v1 v2 v3 v4 v5:Value}
theorem args2(d:BD W S x0 v0)(a:BD W S x1 v1):∀i x,[x0,x1][i]?=some x->BD W S x ((#[v0,v1]:Array Value).getD i undef)
 | 0,_,hx=>by cases hx;exact d
 | 1,_,hx=>by cases hx;exact a
 | _+2,_,hx=>by simp at hx
end
end Go.Vv
namespace Go.Dn
open Go Go.Vv Go.RowKit
def Ty.NP:Ty->Option (List HY)
 | .int k=>some [.i k]
 | .bool=>some [.b]
 | .str=>some [.s]
 | .ls t=>t.NP.map λl=>[.sl l]
 | .u=>some []
 | .p a b=>match a.NP,b.NP with|some l,some m=>some (l++m)|_,_=>none
 | .bf _ _=>none
def Ty.wf:(t:Ty)->t.T->Prop
 | .int k,v=>(Lit.int k v).wf=true
 | .bool,_=>True
 | .str,_=>True
 | .ls t,v=>List.length (α:=t.T) v<=maxLen/\∀x:t.T,List.Mem x v->t.wf x
 | .u,_=>True
 | .p a b,v=>a.wf v.1/\b.wf v.2
 | .bf _ _,_=>True
structure og (l:List HY) (L:List AV):Prop where
 len:L.length=l.length
 at':∀(i:Nat) (x:HY) (y:AV),l[i]?=some x->L[i]?=some y->Sj x y
theorem J7x{W:World}{S:Nat->Prop}{xs:List HY}{ys:List AV}{vs:List Value}(h:Reads W S xs ys vs):og xs ys:=
 ⟨h.len.1,λi x y hx d=>by obtain ⟨g,v,a,-,f,-⟩:=h.get d;rw [hx] at a;injection a with a;subst a;exact f⟩
theorem VN{a b:List HY}{L:List AV}(h:og (a++b) L):∃M N,L=M++N/\og a M/\og b N:=by
 have hl:=h.len;rw [Ae] at hl;refine ⟨L.take a.length,L.drop a.length,(Ak _ _).symm,⟨by rw [List.length_take];omega,λi x y hx d=>?_⟩,by rw [List.length_drop];omega,λi x y hx d=>?_⟩
 ·have hi:=(Aa.1 hx).1;rw [Ai hi] at d;exact h.at' i x y (by rw [Ad hi];exact hx) d
 ·rw [List.getElem?_drop] at d;exact h.at' (a.length+i) x y (by rw [Ac (by omega),show a.length+i - a.length=i by omega];exact hx) d
theorem MI:∀(t:Ty) {l:List HY},t.NP=some l->∀L,og l L->∃v:t.T,t.wf v/\DX L (t.cs v)
 | .int k,l,hl,L,h=>by
  simp only [Ty.NP,Af] at hl;subst hl;obtain ⟨y,rfl⟩:=Ab.1 h.len;have:=h.at' 0 _ y rfl rfl;cases this with
  | int _ n o=>exact ⟨n,o,.refl _⟩
 | .bool,l,hl,L,h=>by
  simp only [Ty.NP,Af] at hl;subst hl;obtain ⟨y,rfl⟩:=Ab.1 h.len;have:=h.at' 0 _ y rfl rfl;cases this with
  | bool b=>exact ⟨b,trivial,.refl _⟩
 | .str,l,hl,L,h=>by
  simp only [Ty.NP,Af] at hl;subst hl;obtain ⟨y,rfl⟩:=Ab.1 h.len;have:=h.at' 0 _ y rfl rfl;cases this with
  | str s=>exact ⟨s,trivial,.refl _⟩
 | .u,l,hl,L,h=>by simp only [Ty.NP,Af] at hl;subst hl;have:=h.len;rw [List.length_nil] at this;rw [Ag this];exact ⟨(),trivial,.nil⟩
 | .p a b,l,hl,L,h=>by
  simp only [Ty.NP] at hl;split at hl
  ·rename_i la lb G F;injection hl with hl;subst hl;obtain ⟨M,N,rfl,J,H⟩:=VN h;obtain ⟨x,wx,hx⟩:=MI a G M J;obtain ⟨y,wy,d⟩:=MI b F N H;exact ⟨(x,y),⟨wx,wy⟩,hx.append d⟩
  ·cases hl
 | .ls t,l,hl,L,h=>by
  simp only [Ty.NP,Option.map_eq_some_iff] at hl;obtain ⟨m,E,rfl⟩:=hl;obtain ⟨y,rfl⟩:=Ab.1 h.len;have K:=h.at' 0 _ y rfl rfl;cases K with
  | BM=>exact ⟨([]:List t.T),⟨by simp,λx hx=>by cases hx⟩,.cons .BM .nil⟩
  | CB _ n L hL o f=>
   have key:∀(n:Nat) (L:List AV),L.length=n * m.length->(∀i j x y,i<n->m[j]?=some x->L[i * m.length+j]?=some y->Sj x y)->∃l:List t.T,l.length=n/\(∀x∈l,t.wf x)/\DX L (l.flatMap t.cs):=by
    intro n
    induction n with
    | zero=>
     intro L hL _;rw [Nat.zero_mul] at hL;rw [Ag hL];exact ⟨[],rfl,by simp,.nil⟩
    | succ n B=>
     intro L hL f;rw [Aj,Am] at hL;obtain ⟨x,wx,hx⟩:=MI t E (L.take m.length) ⟨by rw [List.length_take];omega,λi x y hx d=>by have hi:=(Aa.1 hx).1;rw [Ai hi] at d;exact f 0 i x y (by omega) hx (by rw [Nat.zero_mul,Nat.zero_add];exact d)⟩
     obtain ⟨l,A,w,r⟩:=B (L.drop m.length) (by rw [List.length_drop];omega) (λi j x y hi hx d=>by rw [List.getElem?_drop] at d;refine f (i+1) j x y (by omega) hx ?_;rw [Aj,Am,show i * m.length+m.length+j=m.length+(i * m.length+j) by omega];exact d)
     refine ⟨x::l,by simp [A],λz g=>?_,?_⟩
     ·rcases List.mem_cons.1 g with rfl|g
      ·exact wx
      ·exact w z g
     ·have:=hx.append r;rw [Ak] at this;rwa [List.flatMap_cons]
   obtain ⟨l,A,w,r⟩:=key n L hL f;subst A;exact ⟨l,⟨o,w⟩,.cons r.Pn .nil⟩
 | .bf _ _,l,hl,_,_=>by cases hl
section
variable {H:Type} {enc:TypeId×Value->H} {P:Program} {W:World} {base:Nat} {spare:Nat->Bool} {held:Bool} {t:TypeId} {d:DataW H} {p:List MemPlace}
theorem fA{k:Nat}{ty:Ty}{cs:Array Value}(hs:(UM P k t).isSome=true)(e:UM P k t=ty.NP)(h:DataW.Trod enc P W base spare held t (.agg cs) d p) :
  ∃x:ty.T,ty.wf x/\BD W (λb=>b<W.heap.size) (FW (.ag,ty) x) (.agg cs):=by obtain ⟨l,hl⟩:=Option.isSome_iff_exists.1 hs;obtain ⟨L,hL,hr⟩:=XA hl h;obtain ⟨x,wx,hx⟩:=MI ty (e.symm.trans hl) L (J7x hL);exact ⟨x,wx,hx.Po.rep hr⟩
end
theorem J7c{w w':World}(h:Old w w'):Below w.heap.size w w':=⟨h.os,h.tape,h.output.1,h.size,h.keep⟩
theorem Nr{P:Program}{f:FuncId}{aks:List (AK×Ty)}{fn:(Jan (aks.map (·.2))).T->Option Bool}(l:Good P ⟨f,aks,[(false,.bool)],fn⟩){x:(Jan (aks.map (·.2))).T}(hx:fn x=some true){W:World}{cargs:Array Value}(d:cargs.size=(GY aks x).length)
  (hr:∀i y,(GY aks x)[i]?=some y->BD W (λb=>b<W.heap.size) y (cargs.getD i undef)):Calls P f cargs W λe w'=>e=.returned (.bool true)/\Below W.heap.size W w':=by refine (l.run x true hx W (λb=>b<W.heap.size) cargs (λ_ h=>h) d hr).mono λe w' ⟨cv,m,a,g⟩=>?_;have a:BD w' _ (.bool true) cv:=a;cases a;exact ⟨m,J7c g⟩
end Go.Dn
