/- What came in, as typed values: by the layout of its type. Conditions: none. -/
import Derived.Test.YtmfagdfkpjgeiaaGreatFD
import Derived.OpenShut
import Derived.ChangeArms
import Derived.Deep.Slices
import Derived.Carry
import Derived.Test.YtmfagdfkpjgeiaaGreatFB
import Derived.Test.YtmfagdfkpjgeiaaGreatDA
set_option linter.unusedVariables false
set_option linter.unusedSimpArgs false
open _root_.Array renaming getD_eq_getD_getElem? → Aa, getElem?_append_left → Am
open List renaming getElem?_eq_some_iff → Ab, mem_of_getElem? → Ac, length_eq_one_iff → Ad, eq_nil_of_length_eq_zero → Ae, getElem?_append_right → Af, getElem?_append_left → Ag, length_append → Ah, mem_singleton → Ai, all_eq_true → Ak, getElem?_take_of_lt → Ao, length_map → Ap, take_append_drop → As, flatMap → Au
open Option.some renaming injEq → Aj
open Option renaming bind_some → Al
open Nat renaming add_mul → Aq, le_refl → Ar, one_mul → Av
namespace Go.Vv
open Go Go.RowKit
inductive CSh where
 | b
 | i (k:IntKind)
 | s
 | sl (l:List CSh)
inductive OfS:CSh->AV->Prop where
 | bool (x:Bool):OfS .b (.bool x)
 | int (k:IntKind) (n:Int) (h:(Lit.int k n).wf=true):OfS (.i k) (.int k n)
 | str (s:ByteArray):OfS .s (.str s)
 | nils (l:List CSh):OfS (.sl l) .nils
 | lst (l:List CSh) (n:Nat) (L:List AV) (hl:L.length=n * l.length) (hn:n<=maxLen)
   (h:∀i j x y,i<n->l[j]?=some x->L[i * l.length+j]?=some y->OfS x y):OfS (.sl l) (.lst n L)
def shFs(P:Program)(sh:TypeId->Option (List CSh)):Nat->List Field->Option (List CSh)
 | _,[]=>some []
 | off,f::r=>
  if f.offset=off then
   match sh f.type with
   | some l=>if l.length=P.cellsOf f.type then (match shFs P sh (off+l.length) r with|some m=>some (l++m)|none=>none) else none
   | none=>none
  else none
def shT(P:Program):Nat->TypeId->Option (List CSh)
 | 0,_=>none
 | k+1,t=>
  match P.underlying t with
  | some .bool=>some [.b]
  | some (.int q)=>some [.i q]
  | some .string=>some [.s]
  | some (.slice e)=>match shT P k e with
   | some l=>if l.length=P.cellsOf e then some [.sl l] else none
   | none=>none
  | some (.struct fs)=>match shFs P (shT P k) 0 fs.toList with
   | some l=>if l.length=P.cellsOf t then some l else none
   | none=>none
  | _=>none
inductive Reads (W:World) (S:Nat->Prop):List CSh->List AV->List Value->Prop where
 | nil:Reads W S [] [] []
 | cons {x:CSh} {y:AV} {v:Value} {xs:List CSh} {ys:List AV} {vs:List Value} (ho:OfS x y) (hr:RepP W S y v) (h1:v.oneCell'=true) (h:Reads W S xs ys vs):Reads W S (x::xs) (y::ys) (v::vs)
section
variable {W:World} {S:Nat->Prop}
theorem Reads.append{xs:List CSh}{ys:List AV}{vs:List Value}(h:Reads W S xs ys vs){xs':List CSh}{ys':List AV}{vs':List Value}(h':Reads W S xs' ys' vs'):Reads W S (xs++xs') (ys++ys') (vs++vs'):=by
 induction h with
 | nil=>exact h'
 | cons e d f _ a=>exact .cons e d f a
theorem Reads.len{xs:List CSh}{ys:List AV}{vs:List Value}(h:Reads W S xs ys vs):ys.length=xs.length/\vs.length=xs.length:=by
 induction h with
 | nil=>exact ⟨rfl,rfl⟩
 | cons _ _ _ _ a=>exact ⟨by simp [a.1],by simp [a.2]⟩
theorem Reads.get{xs:List CSh}{ys:List AV}{vs:List Value}(h:Reads W S xs ys vs):∀ {i:Nat} {y:AV},ys[i]?=some y->∃x v,xs[i]?=some x/\vs[i]?=some v/\OfS x y/\RepP W S y v/\v.oneCell'=true:=by
 induction h with
 | nil=>intro i y a;simp at a
 | @cons x l v xs ys vs f e g _ d=>
  intro i y a;cases i with
  | zero=>simp at a;subst a;exact ⟨x,v,rfl,rfl,f,e,g⟩
  | succ i=>simpa using d (by simpa using a)
end
theorem Jha{P:Program}{W:World}{S:Nat->Prop}{sh:TypeId->Option (List CSh)}{cs:List Value} :
  ∀(r:List Field) (off:Nat) (l:List CSh),shFs P sh off r=some l->off+l.length<=cs.length ->
  (∀f∈r,∀m,sh f.type=some m->∃L,Reads W S m L ((cs.drop f.offset).take (P.cellsOf f.type)))->∃L,Reads W S l L ((cs.drop off).take l.length)
 | [],off,l,h,_,_=>by cases h;exact ⟨[],by simpa using Reads.nil⟩
 | f::r,off,l,h,hl,a=>by
  unfold shFs at h;split at h
  ·rename_i o;split at h
   ·rename_i m v;split at h
    ·rename_i y;split at h
     ·rename_i q d;cases h;obtain ⟨L,hL⟩:=a f (by simp) m v;simp only [Ah] at hl;obtain ⟨L',hL'⟩:=Jha r _ q d (by omega) (λg w=>a g (by simp [w]));refine ⟨L++L',?_⟩;have e:(cs.drop off).take (m++q).length=(cs.drop off).take m.length++(cs.drop (off+m.length)).take q.length:=by rw [Ah,List.take_add,List.drop_drop]
      rw [e];rw [o,<-y] at hL;exact hL.append hL'
     ·cases h
    ·cases h
   ·cases h
  ·cases h
theorem cell_lt{W:World}{a:Addr}{v:Value}(h:W.cell? a=some v):a.block<W.heap.size:=by
 unfold World.cell? at h;split at h
 ·rename_i c _ _ d;exact (Array.getElem?_eq_some_iff.1 d).1
 ·cases h
theorem Jb8{H:Type}{enc:TypeId×Value->H}{P:Program}{W:World}{base:Nat}{spare:Nat->Bool}{held:Bool}:∀(k:Nat) (t:TypeId) (sh:List CSh),shT P k t=some sh ->
  ∀(fuel:Nat) (cs:List Value) (x:DataW H×List MemPlace),DataW.trod enc P W base spare held fuel t cs=some x->∃L,Reads W (λb=>b<W.heap.size) sh L cs
 | 0,_,_,h=>by cases h
 | k+1,t,sh,h=>by
  intro fuel cs x hx;unfold shT at h;split at h
  ·rename_i A;cases h;obtain ⟨b,rfl,-⟩:=DataW.trod_bool A hx;exact ⟨[.bool b],.cons (.bool b) (.bool b) rfl .nil⟩
  ·rename_i q A;cases h;obtain ⟨n,rfl,-,hw⟩:=DataW.trod_int A hx;exact ⟨[.int q n],.cons (.int q n hw) (.int q n) rfl .nil⟩
  ·rename_i A;cases h;obtain ⟨s,rfl,-,-⟩:=DataW.trod_string A hx;exact ⟨[.str s],.cons (.str s) (.str s) rfl .nil⟩
  ·rename_i e A;split at h
   ·rename_i l hl;split at h
    ·rename_i hc;cases h;rcases Go.Deep.open_slice A hx with ⟨rfl,-⟩|⟨a,len,cap,m,n,D,Pl,rfl,hb,Y,hm,X,-,Q⟩
     ·exact ⟨[.nils],.cons (.nils l) .nils rfl .nil⟩
     ·have hlm:len<=m:=by rw [X];split<;>omega
      have all:∀o,o<=len->∃L:List AV,L.length=o * l.length/\(∀(p:Nat) y,L[p]?=some y->∃v,W.cell? (a.add p)=some v/\RepP W (λb=>b<W.heap.size) y v/\v.oneCell'=true) /\
        (∀(i j:Nat) x y,i<o->l[j]?=some x->L[i * l.length+j]?=some y->OfS x y):=by
       intro o
       induction o with
       | zero=>intro _;exact ⟨[],by simp,by simp,by omega⟩
       | succ o ih=>
        intro hn';obtain ⟨L,F,E,h3⟩:=ih (by omega);obtain ⟨cs',Z,ht⟩:=Q o (by omega);obtain ⟨M,hM⟩:=Jb8 k e l hl n cs' _ ht;obtain ⟨-,K,B⟩:=World.cells?_some Z;have hML:=hM.len.1;refine ⟨L++M,by rw [Ah,F,hML,Aq,Av],λp y d=>?_,λi j x y hin hx d=>?_⟩
        ·by_cases hp:p<L.length
         ·rw [Ag hp] at d;exact E p y d
         ·rw [Af (by omega)] at d;obtain ⟨x,v,hx,w,-,hr,h1'⟩:=hM.get d;have g:p - L.length<P.cellsOf e:=by have:=(Ab.1 w).1;omega
          have:=B (p - L.length) g;rw [Jn8,<-hc,<-F,w,show L.length+(p - L.length)=p by omega] at this;exact ⟨v,this,hr,h1'⟩
        ·have hj:=(Ab.1 hx).1;by_cases N:i<o
         ·have g:i * l.length+j<L.length:=by rw [F];have:(i+1) * l.length<=o * l.length:=Nat.mul_le_mul_right _ N;rw [Aq] at this;omega
          rw [Ag g] at d;exact h3 i j x y N hx d
         ·obtain rfl:i=o:=by omega
          rw [Af (by omega),F,Nat.add_sub_cancel_left] at d;obtain ⟨x',v,G,-,ho,-,-⟩:=hM.get d;rw [hx] at G;cases G;exact ho
      obtain ⟨L,F,E,h3⟩:=all len (Ar _);refine ⟨[.lst len L],.cons (.lst l len L F (by omega) h3) (.lst len L a cap (λp=>(W.cell? (a.add p)).getD undef) ?_ Y ?_ ?_ ?_) rfl .nil⟩
      ·intro R;cases L with
       | nil=>exact absurd rfl R
       | cons y r=>
        obtain ⟨v,w,-⟩:=E 0 y rfl;have:=cell_lt w;rwa [show (a.add 0).block=a.block by unfold Addr.add;split<;>rfl] at this
      ·intro i y d;obtain ⟨v,w,-⟩:=E i y d;rw [w];rfl
      ·intro i y d;obtain ⟨v,w,-,h⟩:=E i y d;rw [w];exact h
      ·intro i y d;obtain ⟨v,w,h,-⟩:=E i y d;rw [w];exact h
    ·cases h
   ·cases h
  ·rename_i fs A;split at h
   ·rename_i l hl;split at h
    ·rename_i hc;cases h;obtain ⟨xs,n,-,-,K,hxl,hf⟩:=DataW.trod_struct A hx;obtain ⟨L,hL⟩:=Jha (cs:=cs) fs.toList 0 _ hl (by omega) (λf J m hm=>by
      obtain ⟨i,Q⟩:=List.getElem?_of_mem J;have O:=hf i f (by simpa using Q);have g:i<xs.length:=by have:=(Ab.1 Q).1;simp at this;omega
      rw [List.getElem?_eq_getElem g] at O;exact Jb8 k f.type m hm n _ _ O)
     refine ⟨L,?_⟩;rwa [List.drop_zero,List.take_of_length_le (by omega)] at hL
    ·cases h
   ·cases h
  ·cases h
section
variable {H:Type} {enc:TypeId×Value->H} {P:Program} {W:World} {base:Nat} {spare:Nat->Bool} {held:Bool} {t:TypeId} {d:DataW H} {p:List MemPlace}
theorem arg_agg{k:Nat}{sh:List CSh}{cs:Array Value}(hs:shT P k t=some sh)(h:DataW.Trod enc P W base spare held t (.agg cs) d p) :
  ∃L,Reads W (λb=>b<W.heap.size) sh L cs.toList/\RepP W (λb=>b<W.heap.size) (.agg L) (.agg cs):=by
 obtain ⟨fuel,g⟩:=h;obtain ⟨L,hL⟩:=Jb8 k t _ hs fuel _ _ g;have hL':Reads W (λb=>b<W.heap.size) sh L cs.toList:=hL;have a:=hL'.len;refine ⟨L,hL',.agg L cs (by rw [a.1,<-a.2];simp) (λi x hx=>?_) (λi x hx=>?_)⟩
 ·obtain ⟨c,v,-,e,-,-,l⟩:=hL'.get hx;have:cs[i]?=some v:=by simpa using e
  rw [Aa,this];exact l
 ·obtain ⟨c,v,-,e,-,f,-⟩:=hL'.get hx;have:cs[i]?=some v:=by simpa using e
  rw [Aa,this];exact f
theorem Je9{r:Reach}{f:Nat}{fs:Array Field}{v:Value}(e:P.underlying t=some (.struct fs))(a:Value.okWide P W r f t v):∃cs,v=.agg cs:=by unfold Value.okWide at a;rw [e] at a;obtain ⟨cs,d,-⟩:=a;exact ⟨cs,d⟩
end
section
variable {W:World} {S:Nat->Prop} {x0 x1 x2 x3 x4 x5:AV} {v0 v1 v2 v3 v4 v5:Value}
theorem args4(f:RepP W S x0 v0)(e:RepP W S x1 v1)(d:RepP W S x2 v2)(a:RepP W S x3 v3):∀i x,[x0,x1,x2,x3][i]?=some x->RepP W S x ((#[v0,v1,v2,v3]:Array Value).getD i undef)
 | 0,_,hx=>by cases hx;exact f
 | 1,_,hx=>by cases hx;exact e
 | 2,_,hx=>by cases hx;exact d
 | 3,_,hx=>by cases hx;exact a
 | _+4,_,hx=>by simp at hx
end
end Go.Vv
namespace Go.Dn
open Go Go.Vv Go.RowKit
def Ty.shp:Ty->Option (List CSh)
 | .int k=>some [.i k]
 | .bool=>some [.b]
 | .str=>some [.s]
 | .ls t=>t.shp.map λl=>[.sl l]
 | .u=>some []
 | .p a b=>match a.shp,b.shp with|some l,some m=>some (l++m)|_,_=>none
 | .bf _ _=>none
def Ty.wf:(t:Ty)->t.T->Prop
 | .int k,v=>(Lit.int k v).wf=true
 | .bool,_=>True
 | .str,_=>True
 | .ls t,v=>List.length (α:=t.T) v<=maxLen/\∀x:t.T,List.Mem x v->t.wf x
 | .u,_=>True
 | .p a b,v=>a.wf v.1/\b.wf v.2
 | .bf _ _,_=>True
structure Of2 (l:List CSh) (L:List AV):Prop where
 len:L.length=l.length
 at':∀(i:Nat) (x:CSh) (y:AV),l[i]?=some x->L[i]?=some y->OfS x y
theorem Jwo{W:World}{S:Nat->Prop}{xs:List CSh}{ys:List AV}{vs:List Value}(h:Reads W S xs ys vs):Of2 xs ys:=
 ⟨h.len.1,λi x y hx d=>by obtain ⟨f,v,a,-,e,-⟩:=h.get d;rw [hx] at a;injection a with a;subst a;exact e⟩
theorem of2_app{a b:List CSh}{L:List AV}(h:Of2 (a++b) L):∃M N,L=M++N/\Of2 a M/\Of2 b N:=by
 have hl:=h.len;rw [Ah] at hl;refine ⟨L.take a.length,L.drop a.length,(As _ _).symm,⟨by rw [List.length_take];omega,λi x y hx d=>?_⟩,by rw [List.length_drop];omega,λi x y hx d=>?_⟩
 ·have e:=(Ab.1 hx).1;rw [Ao e] at d;exact h.at' i x y (by rw [Ag e];exact hx) d
 ·rw [List.getElem?_drop] at d;exact h.at' (a.length+i) x y (by rw [Af (by omega),show a.length+i - a.length=i by omega];exact hx) d
theorem of_ty:∀(t:Ty) {l:List CSh},t.shp=some l->∀L,Of2 l L->∃v:t.T,t.wf v/\UpL L (t.cs v)
 | .int k,l,hl,L,h=>by
  simp only [Ty.shp,Aj] at hl;subst hl;obtain ⟨y,rfl⟩:=Ad.1 h.len;have:=h.at' 0 _ y rfl rfl;cases this with
  | int _ n g=>exact ⟨n,g,.refl _⟩
 | .bool,l,hl,L,h=>by
  simp only [Ty.shp,Aj] at hl;subst hl;obtain ⟨y,rfl⟩:=Ad.1 h.len;have:=h.at' 0 _ y rfl rfl;cases this with
  | bool b=>exact ⟨b,trivial,.refl _⟩
 | .str,l,hl,L,h=>by
  simp only [Ty.shp,Aj] at hl;subst hl;obtain ⟨y,rfl⟩:=Ad.1 h.len;have:=h.at' 0 _ y rfl rfl;cases this with
  | str s=>exact ⟨s,trivial,.refl _⟩
 | .u,l,hl,L,h=>by simp only [Ty.shp,Aj] at hl;subst hl;have:=h.len;rw [List.length_nil] at this;rw [Ae this];exact ⟨(),trivial,.nil⟩
 | .p a b,l,hl,L,h=>by
  simp only [Ty.shp] at hl;split at hl
  ·rename_i la lb G F;injection hl with hl;subst hl;obtain ⟨M,N,rfl,J,H⟩:=of2_app h;obtain ⟨x,wx,hx⟩:=of_ty a G M J;obtain ⟨y,wy,d⟩:=of_ty b F N H;exact ⟨(x,y),⟨wx,wy⟩,hx.append d⟩
  ·cases hl
 | .ls t,l,hl,L,h=>by
  simp only [Ty.shp,Option.map_eq_some_iff] at hl;obtain ⟨m,E,rfl⟩:=hl;obtain ⟨y,rfl⟩:=Ad.1 h.len;have K:=h.at' 0 _ y rfl rfl;cases K with
  | nils=>exact ⟨([]:List t.T),⟨by simp,λx hx=>by cases hx⟩,.cons .nils .nil⟩
  | lst _ n L hL g e=>
   have key:∀(n:Nat) (L:List AV),L.length=n * m.length->(∀i j x y,i<n->m[j]?=some x->L[i * m.length+j]?=some y->OfS x y)->∃l:List t.T,l.length=n/\(∀x∈l,t.wf x)/\UpL L (l.flatMap t.cs):=by
    intro n
    induction n with
    | zero=>
     intro L hL _;rw [Nat.zero_mul] at hL;rw [Ae hL];exact ⟨[],rfl,by simp,.nil⟩
    | succ n B=>
     intro L hL e;rw [Aq,Av] at hL;obtain ⟨x,wx,hx⟩:=of_ty t E (L.take m.length) ⟨by rw [List.length_take];omega,λi x y hx d=>by have A:=(Ab.1 hx).1;rw [Ao A] at d;exact e 0 i x y (by omega) hx (by rw [Nat.zero_mul,Nat.zero_add];exact d)⟩
     obtain ⟨l,w,r,o⟩:=B (L.drop m.length) (by rw [List.length_drop];omega) (λi j x y A hx d=>by rw [List.getElem?_drop] at d;refine e (i+1) j x y (by omega) hx ?_;rw [Aq,Av,show i * m.length+m.length+j=m.length+(i * m.length+j) by omega];exact d)
     refine ⟨x::l,by simp [w],λz f=>?_,?_⟩
     ·rcases List.mem_cons.1 f with rfl|f
      ·exact wx
      ·exact r z f
     ·have:=hx.append o;rw [As] at this;rwa [List.flatMap_cons]
   obtain ⟨l,w,r,o⟩:=key n L hL e;subst w;exact ⟨l,⟨g,r⟩,.cons o.mkLst .nil⟩
 | .bf _ _,l,hl,_,_=>by cases hl
section
variable {H:Type} {enc:TypeId×Value->H} {P:Program} {W:World} {base:Nat} {spare:Nat->Bool} {held:Bool} {t:TypeId} {d:DataW H} {p:List MemPlace}
theorem in_agg{k:Nat}{ty:Ty}{cs:Array Value}(hs:(shT P k t).isSome=true)(e:shT P k t=ty.shp)(h:DataW.Trod enc P W base spare held t (.agg cs) d p) :
  ∃x:ty.T,ty.wf x/\RepP W (λb=>b<W.heap.size) (argA (.ag,ty) x) (.agg cs):=by obtain ⟨l,hl⟩:=Option.isSome_iff_exists.1 hs;obtain ⟨L,hL,a⟩:=arg_agg hl h;obtain ⟨x,wx,hx⟩:=of_ty ty (e.symm.trans hl) L (Jwo hL);exact ⟨x,wx,hx.mkAgg.rep a⟩
end
theorem Jwp{w w':World}(h:Old w w'):Below w.heap.size w w':=⟨h.os,h.tape,h.output.1,h.size,h.keep⟩
theorem true_run{P:Program}{f:FuncId}{aks:List (AK×Ty)}{fn:(Xq (aks.map (·.2))).T->Option Bool}(m:Good P ⟨f,aks,[(false,.bool)],fn⟩){x:(Xq (aks.map (·.2))).T}(hx:fn x=some true){W:World}{cargs:Array Value}(d:cargs.size=(jd aks x).length)
  (g:∀i y,(jd aks x)[i]?=some y->RepP W (λb=>b<W.heap.size) y (cargs.getD i undef)):Calls P f cargs W λe w'=>e=.returned (.bool true)/\Below W.heap.size W w':=by refine (m.run x true hx W (λb=>b<W.heap.size) cargs (λ_ h=>h) d g).mono λe w' ⟨cv,o,a,l⟩=>?_;have a:RepP w' _ (.bool true) cv:=a;cases a;exact ⟨o,Jwp l⟩
end Go.Dn
namespace Go.Dn
open Go Go.Vv
noncomputable def Jsq(cf:Int->Int×Int->Int×Int->Int)(okw:Int->Bool)(ok:Int×Int->Bool)(d0:{x:Int×Int // ok x=true})(p:List (Int×Int)×Int):Option (List (Int×Int)):=
 if h:p.1.length<4611686018427387904/\okw p.2=true/\p.1.all ok=true then some ((haveI:Inhabited {x:Int×Int // ok x=true}:=⟨d0⟩;pdqL (Go.Proofs.ltOf λx y:{x:Int×Int // ok x=true}=>cf p.2 x.1 y.1) (Ja4 ok p.1 h.2.2)).map Subtype.val) else none
theorem Jwi{cf:Int->Int×Int->Int×Int->Int}{okw:Int->Bool}{ok:Int×Int->Bool}{d0:{x:Int×Int // ok x=true}}(hO:∀n,okw n=true->Go.Sort.SWO (Go.Proofs.ltOf λx y:{x:Int×Int // ok x=true}=>cf n x.1 y.1)){l:List (Int×Int)}{n:Int}(f:l.length<4611686018427387904)(d:okw n=true)(e:∀x∈l,ok x=true) :
  ∃r,Jsq cf okw ok d0 (l,n)=some r/\r.Perm l:=by
 have a:l.all ok=true:=Ak.2 e;unfold Jsq;rw [dif_pos ⟨f,d,a⟩]
 letI:Inhabited {x:Int×Int // ok x=true}:=⟨d0⟩
 refine ⟨_,rfl,?_⟩;have:=(Jbm (hO n d) (Ja4 ok l a)).map Subtype.val;rwa [jp a] at this
open Go.Proofs Go.Shelf in
theorem Jxr{P:Program}{g:FuncId}{fn:(Int×Int)×(Int×Int)×Int->Option Int}(G:Good P ⟨g,[(.ag,.p I I),(.ag,.p I I),(.rp,I)],[(false,I)],fn⟩){cf:Int->Int×Int->Int×Int->Int}{ok:Int×Int->Bool}[Inhabited {x:Int×Int // ok x=true}]{n:Int}(v:∀x y,ok x=true->ok y=true->fn (x,y,n)=some (cf n x y))
  {w:World} {S:Nat->Prop} {cp:Value} (hS:∀b,S b->b<w.heap.size) (E:RepP w S (.rptr [.int .i64 n]) cp) {b:Nat} (H:¬S b) (off m:Nat) :
  CmpLays P g #[cp] (λx:{x:Int×Int // ok x=true}=>encv (t:=.p I I) x.1) (Ty.p I I).sz (λx y=>cf n x.1 y.1) b off m w:=λq os dk F x y=>by
 have d:∀(W:World) (x:(Ty.p I I).T),RepP W S (.agg ((Ty.p I I).cs x)) (.agg (encv x).toArray):=λW x=>by
  have at':∀(i:Nat) (z:AV),((Ty.p I I).cs x)[i]?=some z->(encv x).toArray.getD i undef=vOf z:=λi z a=>by simp [encv,Aa,a]
  refine .agg _ _ (by simp [encv]) (λi z a=>?_) (λi z a=>?_)
  ·rw [at' i z a];exact (Jgw (w:=W) (S:=λ_=>False) (Zw (t:=.p I I) rfl x z (Ac a))).2
  ·rw [at' i z a];exact (Jgw (Zw (t:=.p I I) rfl x z (Ac a))).1
 generalize hW:sortWorldK (λx:{x:Int×Int // ok x=true}=>encv (t:=.p I I) x.1) (Ty.p I I).sz w b off q dk os=W;have l:w.heap.size<=W.heap.size:=by subst hW;show w.heap.size<=((w.heap.modify b _)++os).size;simp
 have keep:∀k,S k->W.heap[k]?=w.heap[k]?:=λk f=>by subst hW;show ((w.heap.modify b _)++os)[k]?=_;rw [Am (by simpa using hS k f),Array.getElem?_modify,if_neg (λe:b=k=>H (by rw [e];exact f))]
 have r:RepP W S (.rptr [.int .i64 n]) cp:=E.mono (λ_ h=>h) keep;refine (G.run (x.1,y.1,n) (cf n x.1 y.1) (v _ _ x.2 y.2) W S #[.agg (encv (t:=.p I I) x.1).toArray,.agg (encv (t:=.p I I) y.1).toArray,cp] (λk f=>Nat.lt_of_lt_of_le (hS k f) l) rfl λi z a=>?_).mono λe w' ⟨cv,K,B,o⟩=>?_
 ·match i,a with
  | 0,a=>injection a with a;subst a;exact d W x.1
  | 1,a=>injection a with a;subst a;exact d W y.1
  | 2,a=>injection a with a;subst a;exact r
  | i+3,a=>cases a
 ·have A:RepP w' (Zu S W w') (.int .i64 (cf n x.1 y.1)) cv:=B;have J:cv=.int .i64 (cf n x.1 y.1):=by cases A;rfl
  exact ⟨by rw [K,J],Jn1 o⟩
open Go.Proofs Go.Shelf in
theorem srt_good{P:Program}{ρ:Ren}(L:SlLaysF0.n6 P ρ)(aE:∀w,(isAgg (ρ.t 24)).run P w=.ok true w)(zE:∀w,(Go.sizeOf (ρ.t 24)).run P w=.ok 2 w){g:FuncId}{fn:(Int×Int)×(Int×Int)×Int->Option Int}(O:Good P ⟨g,[(.ag,.p I I),(.ag,.p I I),(.rp,I)],[(false,I)],fn⟩)
  (cf:Int->Int×Int->Int×Int->Int) (okw:Int->Bool) (ok:Int×Int->Bool) (d0:{x:Int×Int // ok x=true}) (hcf:∀n x y,okw n=true->ok x=true->ok y=true->fn (x,y,n)=some (cf n x y)) (hO:∀n,okw n=true->Go.Sort.SWO (ltOf λx y:{x:Int×Int // ok x=true}=>cf n x.1 y.1)) (hlt:Nat.ble yB (ρ.f 6)=false) (hfk:FnOK P (ρ.f 6)) :
  Jln P (ρ.f 6) (srtB (ρ.f 6) g (Jsq cf okw ok d0)):=by
 refine ⟨hlt,hfk,λ{α base vs s k r} hd {n0 w S μ a0 fr fs cargs} hF okv E a {R} hR=>?_⟩;have popE:∀s2:Dn.S Ty.T,encH s2.pop=encH s2:=λs2=>by
  unfold Dn.S.pop;split
  ·exact Zi rfl rfl
  ·rfl
 have two:∀ {c0 c1:Value},cargs.size=2->cargs.getD 0 undef=c0->cargs.getD 1 undef=c1->cargs=#[c0,c1]:=λ{c0 c1} X h0 h1=>by
  apply Array.ext
  ·rw [X];rfl
  ·intro q H hq2;have gd:cargs[q]=cargs.getD q undef:=by simp [Aa,H]
   rw [gd]
   match q,hq2 with
   | 0,_=>exact h0
   | 1,_=>exact h1
 have tup:∀ {w':World} {S':Nat->Prop} {h':Heap} {μ':Gh},Rep w' S' h' μ' (.tup []) (.tuple #[]):=.tup [] #[] rfl λi x hi=>by simp at hi
 simp only [srtB] at hd;split at hd
 ·rename_i g0 ver h gb vb;split at hd
  ·rename_i v e el l v' n ho M;obtain ⟨⟨e1,e2,e3,e4⟩,hd2⟩:=Jmi hd;subst e1;subst e2;subst e3;subst e4;obtain ⟨N,hN⟩:∃N:Int,N=n:=⟨_,rfl⟩;obtain ⟨d,J⟩:∃d:List (Int×Int),d=l:=⟨_,rfl⟩;have hd:Jam (Jsq cf okw ok d0 (d,N)) (λm=>k (.tp []) (s.obj g0 (.row v 2 el (.p I I) m [] none false)).pop)=some r:=by rw [J,hN];exact hd2
   cases F:Jsq cf okw ok d0 (d,N) with
   | none=>rw [F] at hd;cases hd
   | some m=>
   rw [F] at hd;have hd:k (.tp []) (s.obj g0 (.row v 2 el (.p I I) m [] none false)).pop=some r:=hd;unfold Jsq at F;split at F
   case isFalse=>cases F
   rename_i hh;obtain ⟨h1,X,Q⟩:=hh;simp only at h1 X Q;injection F with F;have r0:=a 0 _ rfl;have r1:Rep w S (encH s) μ (.fn h [.ptr gb v' 0]) (cargs.getD 1 undef):=a 1 _ rfl;obtain ⟨cs,f1,f2,f3⟩:=r1.fn_inv;have f2:cs.size=1:=f2.symm;obtain ⟨cp,hcp⟩:∃cp,cp=cs.getD 0 undef:=⟨_,rfl⟩;have ecs:cs=#[cp]:=by
    apply Array.ext
    ·rw [f2];rfl
    ·intro q H hq2;have:q=0:=by omega
     subst this;rw [hcp];simp [Aa,H]
   have rp:=f3 0 _ rfl;rw [<-hcp] at rp;rw [ecs] at f1;have hbx':look gb s.ob=some (.box v' [.lf I N]):=by rw [hN];exact M
   have K:encH s gb=some (.box v' [.int .i64 N]):=by rw [Jf hbx'];rfl
   have hg0:encH s g0=some (.arr v 2 el (Au (α:=(Ty.p I I).T) (Ty.p I I).cs l) false):=by rw [Jf ho];simp [Dn.encO,Qr]
   obtain ⟨S1,hS1⟩:∃S1:Nat->Prop,S1=λb=>S b\/b=μ.b gb:=⟨_,rfl⟩;have hgl:μ.b gb<w.heap.size:=(hF.fr.hp.ob gb _ K).lt rfl;have hSl:∀b,S1 b->b<w.heap.size:=λb G=>by
    rw [hS1] at G;rcases G with G|rfl
    ·exact hF.fr.hp.lt b G
    ·exact hgl
   have hcpP:RepP w S1 (.rptr [.int .i64 N]) cp:=by
    refine Jew (h:=encH s) hF.fr.hp (S':=S1) (λb G=>by rw [hS1];exact .inl G) (ns:=[gb]) ?_ rp λg hg o ho' hl=>?_
    ·simp [Jks,qbox,K,AV.flat]
    ·rw [Ai.1 hg,hS1];exact .inr rfl
   have hml:m.length=d.length:=by
    rw [<-F,Ap]
    letI:Inhabited {x:Int×Int // ok x=true}:=⟨d0⟩
    have e:=congrArg List.length (jp Q);rw [Ap] at e;rw [(Jbm (hO N X) _).length_eq,e]
   have Y:SRun P (ρ.f 6) (.p I I) #[.func (.func h) #[] #[cp]] w (λb=>¬S1 b) d m:=by
    refine ⟨rfl,hml,λhne b off cap cs el G hbb E hcap Z=>?_,λe A=>?_⟩
    ·letI:Inhabited {x:Int×Int // ok x=true}:=⟨d0⟩
     have hm:=jp Q;have hl:(Ja4 ok d Q).length=d.length:=by have e:=congrArg List.length hm;rwa [Ap] at e
     have:=Jcp (t:=.p I I) (cb:=#[cp]) L rfl aE zE (cf N) (α:={x:Int×Int // ok x=true}) Subtype.val (hO N X) (Ja4 ok d Q) (by rw [hl];exact h1) (cap:=cap) (λargs w=>Qb (f:=h) O.fn args w) (Jxr O (λx y hx hy=>hcf N x y X hx hy) hSl hcpP G off _) hbb (by rw [hl];exact E) (λi v hi=>Z i v (by have e:List.map Subtype.val (Ja4 ok d Q)=d:=hm;rw [<-e];exact hi))
     rw [hl] at this;rw [<-F];exact this
    ·refine (AnyF.slices_SortFunc_none L A 0 (.func (.func h) #[] #[cp]) w).mono λe w' ⟨e1,e2⟩=>⟨e1,?_⟩;subst e2;exact ⟨rfl,rfl,⟨rfl,Ar _⟩,Ar _,λ_ _=>rfl⟩
   have hne:d≠[]->¬S1 (μ.b g0):=λhn hs=>by
    have B:(AObj.arr v 2 el (Au (α:=(Ty.p I I).T) (Ty.p I I).cs l) false).live=true:=Ki.2 λq=>hn (by have hz:=(Jj (t:=.p I I) l).symm.trans (congrArg List.length q);have hz:List.length (α:=(Ty.p I I).T) l * 2=0:=hz;rw [J];exact Ae (by omega))
    rw [hS1] at hs;rcases hs with hs|hs
    ·exact hF.fr.hp.own g0 _ hg0 rfl B hs
    ·have:=hF.fr.hp.inj g0 gb _ _ hg0 K B rfl hs;subst this;rw [ho] at M;cases M
   rw [two E rfl f1];refine Jur (g:=g0) hF Y hne (by rw [J];exact ho) rfl (by decide) r0 λw' q1 q2=>?_;exact hR w' S μ (.tp []) _ (.tuple #[]) q1.pop (λc O=>by cases O) (by rw [popE];exact tup) (by rw [popE];exact q2) hd
  ·cases hd
 ·rename_i u;have e0:cargs.getD 0 undef=.slice none 0 0:=Rep.nils_inv (h:=encH s) (a 0 _ rfl);rw [two E e0 rfl];refine (AnyF.slices_SortFunc_none L none 0 (cargs.getD 1 undef) w).mono λe w' ⟨e1,e2⟩=>?_;subst e1;subst e2;exact hR w' S μ (.tp []) s.pop _ hF.pop (λc O=>by cases O) (by rw [popE];exact tup) (by rw [popE];exact .refl) hd
 ·cases hd
def Jxv{ι:Ty->Type}:V ι->Bool
 | .c (.own _ _)|.c (.ptr _ _ _)|.c (.k .nils)=>true
 | _=>false
def flatC{ι:Ty->Type}:C ι->Bool
 | .lf (.int _) _|.lf .bool _|.k .nils=>true
 | _=>false
def flatO{ι:Ty->Type}:Ob ι->Bool
 | .row _ _ _ t _ [] none false=>t.flat
 | .box _ cs=>cs.all flatC
 | _=>false
def cutS{ι:Ty->Type}(s:S ι):Option (S ι):=match s.mo with
 | some _=>none
 | none=>if s.ob.all (λp=>flatO p.2)&&s.lo.all (·.isEmpty) then some ⟨s.sl.map λp=>(p.1,if Jxv p.2 then p.2 else .c .any),s.lo,s.ob,s.ln,none⟩ else none
section
variable {ι:Ty->Type} {M:Type->Type} {α:Type} (mk:Cx->Inl) (cx:Cx) (d:D ι M) (ex:List (Nat×List Nat)) (rt:List Nat) (k:LE->S ι->M α)
def Jp6:Nat->LC->S ι->M α
 | 0,lc,s=>(match cutS s with
  | some s=>denC mk cx 0 lc rt ex rt d s k
  | none=>d.no)
 | m+1,.seq a b,s=>denC mk cx 0 a (Y1 b rt ex rt) ex rt d s λe s'=>match e with
  | .normal=>Jp6 m b s'
  | _=>d.no
 | _,_,_=>d.no
end
def fnCut(d:D Ty.T Option)(cx:Cx)(n m:Nat)(f:FuncId)(ak:List (AK×Ty))(rs:List (Bool×Ty))(a:(Xq (ak.map (·.2))).T):Option (Xq (rs.map (·.2))).T:=
 match cx.code f with
 | none=>none
 | some lf=>if (Jeh d ak a).length=lf.np then Jp6 (den n) cx d [] (lf.res.map RV.slot) (λe s'=>match e with
   | .exit _=>d.no
   | _=>resD d s' lf.res λl=>resL d s'.pop.ob rs (Jla l) some) m lf.body ⟨Jgo 0 (Jeh d ak a),[[]],[],[],none⟩ else none
def isSeq:Nat->Code->Bool
 | 0,_=>true
 | m+1,.seq _ y=>isSeq m y
 | _,_=>false
section
variable {P:Program} {nt:Nat} {call:Vv.Call} {cx:Cx} {mk:Cx->Inl} {fs:List Fm}
theorem cut_wp(hC:Yg call cx.ct)(f:jg P call)(hI:∀hs,Jnf P hs (mk { cx with hs:=hs,rd:=false }))(F:P.follows .mixedOrders=true)(o:SoOK P cx)(G:HsOK P cx.hs fs)(v:FsOK fs){ex:List (Nat×List Nat)}{rt:List Nat}{α:Type}{k:LE->Dn.S Ty.T->Option α}{r:α} :
  ∀(m:Nat) {c:Code} {lc:LC} (d:Y8 P nt c=some lc) (A:isSeq m c=true) {w:World} {S:Nat->Prop} {s:Dn.S Ty.T} {μ:Gh} {a:Act} {Q:Exit->Act->World->Prop},RepF nt w S s μ a fs->Jp6 mk cx val ex rt k m lc s=some r ->
   (∀c' lc' w' S' μ' s' a' l,Y8 P nt c'=some lc'->RepF nt w' S' s' μ' a' fs->Evo w S (encH s) μ w' S' (encH s') μ'->cutS s'=some l->denC mk cx 0 lc' rt ex rt val l k=some r->c'.wpIn (Fr none) 0 P Q a' w')->c.wpIn (Fr none) 0 P Q a w
 | 0,c,lc,d,A,w,S,s,μ,a,Q,h,hd,H=>by
  simp only [Jp6] at hd;split at hd
  ·rename_i l E;exact H c lc w S μ s a l d h .refl E hd
  ·cases hd
 | m+1,c,lc,d,A,w,S,s,μ,a,Q,h,hd,H=>by
  cases c with
  | seq x y=>
   simp only [Y8] at d;cases g:Jl2 P nt x y with
   | some lk=>
    rw [g] at d;injection d with d;subst d;obtain ⟨i5,el,by',rfl,-,-⟩:=Jsv (P:=P) (ro:=none) g;cases hd
   | none=>
   rw [g] at d;simp only at d;cases hx:Y8 P nt x with
   | none=>rw [hx] at d;cases d
   | some lx=>
    rw [hx] at d;simp only [Al] at d;obtain ⟨ly,hy,rfl⟩:=Qy d;simp only [Jp6] at hd;refine wpIn_seq (Jtx hC f hI F o (λ_=>rfl) G v x hx h hd λe J a' w' S' μ' s' is N M B=>?_);cases e with
    | normal=>
     cases J<;>simp only [LE.is] at is;exact cut_wp hC f hI F o G v m hy A N B λc' lc' K S2 μ2 l a2 L Z Y X R O=>H c' lc' K S2 μ2 l a2 L Z Y (M.trans X) R O
    | exit i=>cases B
    | ret=>cases B
  | _=>cases A
end
theorem cut_rep{nt:Nat}{w:World}{S:Nat->Prop}{s P:Dn.S Ty.T}{μ:Gh}{a:Act}{fs:List Fm}(h:RepF nt w S s μ a fs)(A:cutS s=some P):RepF nt w (λ_=>False) P μ a fs/\encH P=encH s/\P.lo=s.lo:=by
 unfold cutS at A;split at A
 ·cases A
 rename_i hmo;obtain ⟨Z,A⟩:=j6 A;injection A with A;subst A;rw [Bool.and_eq_true] at Z;obtain ⟨R,Y⟩:=Z;have eh:encH (⟨s.sl.map λp=>(p.1,if Jxv p.2 then p.2 else .c .any),s.lo,s.ob,s.ln,none⟩:Dn.S Ty.T)=encH s:=Zi rfl rfl hmo.symm;have ev:∀v,encV (⟨s.sl.map λp=>(p.1,if Jxv p.2 then p.2 else .c .any),s.lo,s.ob,s.ln,none⟩:Dn.S Ty.T) v=encV s v:=λv=>Jc3 rfl rfl v;have marks:∀ {ds:List Deferred},Marks w S ds->Marks w (λ_=>False) ds:=λ⟨E,B⟩=>⟨E,λd hd=>by obtain ⟨r,e1,e2,-⟩:=B d hd;exact ⟨r,e1,e2,id⟩⟩;have nils:∀ {v:Value},Rep w S (encH s) μ .nils v->Rep w (λ_=>False) (encH s) μ .nils v:=λH=>by rw [H.nils_inv];exact .pure .nils
 have scal:∀ {x:AV} {v:Value},Scl x->Rep w S (encH s) μ x v->Rep w (λ_=>False) (encH s) μ x v:=λhx H=>by
  rcases hx with ⟨b,rfl⟩|⟨k,n,rfl⟩|⟨y,rfl⟩
  ·rw [H.bool_inv];exact .pure (.bool b)
  ·rw [H.int_inv];exact .pure (.int k n)
  ·rw [H.str_inv];exact .pure (.str y)
 have objs:∀g o,encH s g=some o->∃q,look g s.ob=some q/\o=Dn.encO s q/\flatO q=true:=λg o G=>by
  unfold encH at G;cases hl:look g s.ob with
  | none=>rw [hl,hmo] at G;cases G
  | some q=>
   rw [hl] at G;injection G with G;exact ⟨q,rfl,G.symm,Ak.1 R (g,q) (Qn hl)⟩
 refine ⟨⟨⟨λd=>?_,⟨λg o N=>?_,λg g' o o' E B=>?_,λ_ _ _ _ _=>id,λ_ q=>q.elim⟩,marks h.fr.df,h.fr.sz⟩,h.len,λi l b hl Z d v Q=>?_,λp F=>⟨marks (h.sz p F).1,(h.sz p F).2⟩,h.md,λp F j r hj=>?_,λp F=>?_,h.iv.lo,h.iv.ob,λm hm=>by cases hm⟩,eh,rfl⟩
 ·show Rep w _ (encH _) μ (encV _ (Dn.S.at _ d)) _;rw [eh,ev];have hd:Rep w S (encH s) μ (encV s (s.at d)) (a.tmps.getD d undef):=h.fr.fr d;unfold Dn.S.at at hd ⊢;simp only;rw [Jhv (f:=λv:V Ty.T=>if Jxv v then v else .c .any)];cases Q:look d s.sl with
  | none=>exact .any _
  | some v=>
   rw [Q] at hd;simp only [Option.map_some];split
   ·rename_i L;unfold Jxv at L;split at L
    ·rename_i g ver;have hd:Rep w S (encH s) μ (.arr g ver 0 (K9 s g ver)) (a.tmps.getD d undef):=hd;show Rep w _ (encH s) μ (.arr g ver 0 (K9 s g ver)) _;cases hd with
     | pure F=>cases F
     | arr _ _ _ _ _ o E B J h4=>exact .arr _ _ _ _ _ o E B J h4
    ·rename_i g ver off;have hd:Rep w S (encH s) μ (.ptr g ver off) (a.tmps.getD d undef):=hd;show Rep w _ (encH s) μ (.ptr g ver off) _;cases hd with
     | pure F=>cases F
     | ptr _ _ _ _ o E B J h4=>exact .ptr _ _ _ _ o E B J h4
    ·exact nils hd
    ·cases L
   ·exact .any _
 ·have G:encH s g=some o:=by rw [<-eh];exact N
  clear N;show RepObj w _ (encH _) μ _ _ o;rw [eh];have H:=h.fr.hp.ob g o G;obtain ⟨q,hq,rfl,O⟩:=objs g o G;unfold flatO at O;split at O
  ·rename_i v e el t l;have e1:Dn.encO s (.row v e el t l [] none false)=.arr v e el (Au (α:=t.T) t.cs l) false:=by simp [Dn.encO,Qr]
   rw [e1] at H ⊢;intro X;obtain ⟨cs,E,B,J,-⟩:=H X;refine ⟨cs,E,B,λi x hx=>⟨scal ?_ (J i x hx).1,(J i x hx).2⟩,λq=>by cases q⟩;obtain ⟨u,_,hu⟩:=List.mem_flatMap.1 (Ac hx);exact Zw O u x hu
  ·rename_i v cs0;obtain ⟨cs,el,E,B,J⟩:=H;refine ⟨cs,el,E,B,λi x hx=>⟨?_,(J i x hx).2⟩⟩;have K:=(J i x hx).1;rw [List.getElem?_map] at hx;cases A:cs0[i]? with
   | none=>rw [A] at hx;cases hx
   | some c=>
    rw [A] at hx;injection hx with hx;subst hx;have M:=Ak.1 O c (Ac A);unfold flatC at M;split at M
    ·exact scal (.inr (.inl ⟨_,_,rfl⟩)) K
    ·exact scal (.inl ⟨_,rfl⟩) K
    ·exact nils K
    ·cases M
  ·cases O
 ·exact h.fr.hp.inj g g' o o' ((congrFun eh g).symm.trans E) ((congrFun eh g').symm.trans B)
 ·have:=Ak.1 Y l (Ac hl);rw [List.isEmpty_iff] at this;subst this;cases Q
 ·obtain ⟨l1,-,l3⟩:=h.lp p F j r hj;exact ⟨l1,id,l3⟩
 ·obtain ⟨q,hq,rfl⟩:=List.mem_map.1 F;simp only;split
  ·exact h.iv.sl q hq
  ·exact Qi (Jo _ rfl)
theorem fresh_of{P:Program}{cx:Cx}{Γ:FuncId->Option Ctr}(hct:cx.ct=Γ)(hΓ:Ji8 P Γ)(hm:P.follows .mixedOrders=true)(O:SoOK P cx)(hbi:BiOK P cx)(hcd:Jl9 P cx)(hhs:cx.hs=[])(hrd:cx.rd=false){c:Ctr}{n m:Nat}(hok:c.ok=true)(hrk:c.rs.all rkOK=true)
  (hsq:∀fn body,P.funcs[c.id]?=some fn->fn.body=some body->isSeq m body=true) (hf:∀x r,c.fn x=some r->fnCut val cx n m c.id c.as c.rs x=some r) :
  ∀x r,c.fn x=some r->∀(w:World) (S:Nat->Prop) (cargs:Array Value),(∀b,S b->b<w.heap.size)->cargs.size=(jd c.as x).length->(∀(i:Nat) (y:AV),(jd c.as x)[i]?=some y->RepP w S y (cargs.getD i undef)) ->
   Calls P c.id cargs w λe w'=>∃cv,e=.returned cv/\RepP w' (Zu (λ_=>False) w w') (resA c.rs r) cv/\Old w w':=by
 subst hct;intro x r hr w S cargs hS hsz ha;have hd:=hf x r hr;unfold fnCut at hd;cases Y:cx.code c.id with
 | none=>rw [Y] at hd;cases hd
 | some lf=>
 rw [Y] at hd;simp only at hd;have h:=hcd c.id lf Y;unfold Jyf at h;cases H:P.funcs[c.id]? with
 | none=>rw [H] at h;cases h
 | some fn=>
 rw [H] at h;simp only [Al] at h;cases B:fn.body with
 | none=>rw [B] at h;cases h
 | some body=>
 rw [B] at h;simp only [Al] at h;split at h
 ·cases h
 cases R:Y8 P fn.ntmps body with
 | none=>rw [R] at h;cases h
 | some b=>
 rw [R] at h;simp only [Al] at h;obtain ⟨rs,hrs,rfl⟩:=Qy h;split at hd
 case isFalse=>cases hd
 rename_i hnp;obtain ⟨fr,X⟩:∃fr:Fm,fr=⟨0,act0,none,w.heap.size⟩:=⟨_,rfl⟩;obtain ⟨μ0,hμ0⟩:∃μ0:Gh,μ0=⟨λ_=>0,λ_=>0,λ_=>0⟩:=⟨_,rfl⟩;have enc:=Jf4 (s:=⟨[],[[]],[],[],none⟩) hok x;have h0:encH (⟨Jgo 0 (Jeh val c.as x),[[]],[],[],none⟩:Dn.S Ty.T)=λ_=>none:=rfl;have hln:cargs.size=(Jeh val c.as x).length:=by rw [hsz,<-enc];simp
 have K:HsOK P cx.hs [fr]:=by rw [hhs];intro j h hl;cases hl
 have L:FsOK [fr]:=by
  intro pre f post e j q hj;cases pre with
  | nil=>injection e with Z e2;subst Z;rw [X] at hj;cases hj
  | cons p pre=>injection e with Z e2;simp at e2
 have hF:RepF fn.ntmps w S (⟨Jgo 0 (Jeh val c.as x),[[]],[],[],none⟩:Dn.S Ty.T) μ0 { tmps:=cargs++Array.replicate (fn.ntmps - cargs.size) undef,defers:=[] } [fr]:=by
  subst X;refine ⟨⟨λd=>?_,Jgm hS _,.nil,by simp;omega⟩,rfl,λi l b hl B d v hv=>by
   cases i with
   | zero=>simp at hl;subst hl;cases hv
   | succ i=>simp at hl,λp G=>(by have:=Ai.1 G;subst this;exact ⟨.nil,Nat.zero_le _,Ar _⟩),⟨λd hd=>(by cases hd),λq hq=>(by cases hq),λp G=>(by cases G),trivial⟩,λp G j r hj=>(by have:=Ai.1 G;subst this;cases hj),λp G=>Jh6 x _ (Jim G),λl hl p G=>(by have:=Ai.1 hl;subst this;cases G),λg o ho=>(by cases ho),λm hm=>(by cases hm)⟩
  show Rep w S (λ_=>none) μ0 (encV _ (Dn.S.at _ d)) _;unfold Dn.S.at;simp only [Jg7,Nat.zero_le,if_true,Nat.sub_zero];cases hvd:(Jeh val c.as x)[d]? with
  | none=>exact .any _
  | some v=>
   simp only;have A:d<cargs.size:=by have:=(Ab.1 hvd).1;omega
   have e:(cargs++Array.replicate (fn.ntmps - cargs.size) undef).getD d undef=cargs.getD d undef:=by simp only [Aa];rw [Am A]
   rw [e];refine .pure (ha d _ ?_);have:=congrArg (·[d]?) enc;simp only [List.getElem?_map,hvd,Option.map_some] at this;rw [<-this];exact congrArg some (Jc3 rfl rfl v)
 have hI:∀hs,Jnf P hs (den n { cx with hs:=hs,rd:=false }):=λhs=>Jyn (Jcm hΓ) hm n (cx:={ cx with hs:=hs,rd:=false }) (Jfc hΓ) O hbi hcd rfl;refine callsIn_wide.1 (callsIn_of_wp_marks (F:=Fr none) (n:=0) H B trivial (wpIn_mono (cut_wp (Jfc hΓ) (Jcm hΓ) hI hm O K L m R (hsq fn body H B) hF hd (Q:=bodyPostM (Fr none) 0 P fn _) λc' lc' w1 S1 μ1 s1 a1 s2 q1 q2 N q4 q5=>?_) λ_ _ _ q=>q));obtain ⟨g1,g2,g3⟩:=cut_rep q2 q4;have newOwn:∀b,Own (encH s2) μ1 b->w.heap.size<=b:=λb ho=>by
  rw [g2] at ho;rcases N.ow b ho with E|E
  ·obtain ⟨g,o,hg,-⟩:=E;cases hg
  ·exact E
 refine Jtx (Jfc hΓ) (Jcm hΓ) hI hm O (λ_=>rfl) K L c' q1 g1 q5 λe x' a' w' S' μ' s' is M J r3=>?_;have fin:(resD val s' rs λl=>resL val s'.pop.ob c.rs (Jla l) some)=some r->bodyPostM (Fr none) 0 P fn (λe w'=>∃cv,e=.returned cv/\RepP w' (Zu (λ_=>False) w w') (resA c.rs r) cv/\Old w w') .ret a' w':=λh3=>by
  have r1':RepF fn.ntmps w' S' s' μ' { tmps:=a'.tmps,defers:=a'.defers } [fr]:=M;refine Jcy a'.defers r1' λw2 M a=>?_;rw [X] at a;obtain ⟨l,cv,p1,p2,p3,p4⟩:=Jkn (P:=P) M.fr M.iv hrs h3;have Z:s'.pop.ob=s'.ob/\s'.pop.ln=s'.ln:=by unfold Dn.S.pop;split<;>exact ⟨rfl,rfl⟩
  have eh:encH s'.pop=encH s':=Zi Z.1 Z.2 (Jt9 _);have hw1:w.heap.size<=w1.heap.size:=N.size;refine ⟨cv,p1,cv,rfl,?_,(a.os.trans J.os).trans N.os,(a.tape.trans J.tape).trans N.tape,⟨(a.output.trans J.output.1).trans N.output.1,by have:=J.output.2;have:=N.output.2;rw [a.drawn];omega⟩,by rw [a.size];have:=J.size;omega,λb B=>?_⟩
  ·refine Jyc (s':=s'.pop) (S':=S') hrk (by rw [eh];exact M.fr.hp) (λb B=>?_) (λb B=>?_) (by rw [eh,Jc3 Z.1 Z.2];exact p3) p4
   ·have A:=M.fr.hp.lt b B;rcases J.st2 b B with E|E|E
    ·exact E.elim
    ·exact .inr ⟨by omega,A⟩
    ·exact .inr ⟨newOwn b E,A⟩
   ·rw [eh] at B;have A:b<w2.heap.size:=by obtain ⟨g,o1,hg1,hz1,hl1,rfl⟩:=B;exact (M.fr.hp.ob g _ hg1).lt hl1
    rcases J.ow b B with E|E
    ·exact .inr ⟨newOwn b E,A⟩
    ·exact .inr ⟨by omega,A⟩
  ·rw [a.low b B,J.keep b (by omega) λho=>by have:=newOwn b ho;omega,N.keep b B λ⟨g,o,hg,_⟩=>by cases hg]
 cases e with
 | exit i=>cases r3
 | normal=>cases x'<;>simp only [LE.is] at is;exact fin r3
 | ret=>cases x'<;>simp only [LE.is] at is;exact fin r3
end Go.Dn
