/- What came in, as typed values: by the layout of its type. Conditions: none. -/
import Derived.Test.YtmfagdfkpjgeiaaFD
import Derived.OpenShut
import Derived.ChangeArms
import Derived.Deep.Slices
import Derived.Carry
open List renaming getElem?_eq_some_iff → Aa, length_eq_one_iff → Ab, getElem?_append_right → Ac, getElem?_append_left → Ad, length_append → Ae, eq_nil_of_length_eq_zero → Af, getElem?_take_of_lt → Ag, take_append_drop → Ai
open Nat renaming add_mul → Ah, one_mul → Aj
namespace Go.Vv
open Go Go.RowKit
set_option linter.unusedVariables false
set_option linter.unusedSimpArgs false
inductive CSh where
 | b
 | i (k:IntKind)
 | s
 | sl (l:List CSh)
inductive OfS:CSh→AV→Prop where
 | bool (x:Bool):OfS .b (.bool x)
 | int (k:IntKind) (n:Int) (h:(Lit.int k n).wf=true):OfS (.i k) (.int k n)
 | str (s:ByteArray):OfS .s (.str s)
 | nils (l:List CSh):OfS (.sl l) .nils
 | lst (l:List CSh) (n:Nat) (L:List AV) (hl:L.length=n * l.length) (hn:n≤maxLen)
   (h:∀i j x y,i<n→l[j]?=some x→L[i * l.length+j]?=some y→OfS x y):OfS (.sl l) (.lst n L)
def shFs (P:Program) (sh:TypeId→Option (List CSh)):Nat→List Field→Option (List CSh)
 | _,[]=>some []
 | off,f::r =>
  if f.offset=off then
   match sh f.type with
   | some l=>if l.length=P.cellsOf f.type then (match shFs P sh (off+l.length) r with|some m=>some (l++m)|none=>none) else none
   | none=>none
  else none
def shT (P:Program):Nat→TypeId→Option (List CSh)
 | 0,_=>none
 | k+1,t =>
  match P.underlying t with
  | some .bool=>some [.b]
  | some (.int q)=>some [.i q]
  | some .string=>some [.s]
  | some (.slice e)=>match shT P k e with
   | some l=>if l.length=P.cellsOf e then some [.sl l] else none
   | none=>none
  | some (.struct fs)=>match shFs P (shT P k) 0 fs.toList with
   | some l=>if l.length=P.cellsOf t then some l else none
   | none=>none
  | _=>none
inductive Reads (W:World) (S:Nat→Prop):List CSh→List AV→List Value→Prop where
 | nil:Reads W S [] [] []
 | cons {x:CSh} {y:AV} {v:Value} {xs:List CSh} {ys:List AV} {vs:List Value} (ho:OfS x y) (hr:RepP W S y v) (h1:v.oneCell'=true) (h:Reads W S xs ys vs):Reads W S (x::xs) (y::ys) (v::vs)
section
variable {W:World} {S:Nat→Prop}
theorem Reads.append {xs:List CSh} {ys:List AV} {vs:List Value} (h:Reads W S xs ys vs) {xs':List CSh} {ys':List AV} {vs':List Value} (h':Reads W S xs' ys' vs'):Reads W S (xs++xs') (ys++ys') (vs++vs'):=by
 induction h with
 | nil=>exact h'
 | cons ho hr h1 _ ih=>exact .cons ho hr h1 ih
theorem Reads.len {xs:List CSh} {ys:List AV} {vs:List Value} (h:Reads W S xs ys vs):ys.length=xs.length∧vs.length=xs.length:=by
 induction h with
 | nil=>exact ⟨rfl,rfl⟩
 | cons _ _ _ _ ih=>exact ⟨by simp [ih.1],by simp [ih.2]⟩
theorem Reads.get {xs:List CSh} {ys:List AV} {vs:List Value} (h:Reads W S xs ys vs):∀ {i:Nat} {y:AV},ys[i]?=some y→∃x v,xs[i]?=some x∧vs[i]?=some v∧OfS x y∧RepP W S y v∧v.oneCell'=true:=by
 induction h with
 | nil=>intro i y hy;simp at hy
 | @cons x y0 v xs ys vs ho hr h1 _ ih =>
  intro i y hy
  cases i with
  | zero=>simp at hy;subst hy;exact ⟨x,v,rfl,rfl,ho,hr,h1⟩
  | succ i=>simpa using ih (by simpa using hy)
end
theorem Jc2 {P:Program} {W:World} {S:Nat→Prop} {sh:TypeId→Option (List CSh)} {cs:List Value} :
  ∀(r:List Field) (off:Nat) (l:List CSh),shFs P sh off r=some l→off+l.length≤cs.length →
  (∀f∈r,∀m,sh f.type=some m→∃L,Reads W S m L ((cs.drop f.offset).take (P.cellsOf f.type)))→∃L,Reads W S l L ((cs.drop off).take l.length)
 | [],off,l,h,_,_=>by
  cases h
  exact ⟨[],by simpa using Reads.nil⟩
 | f::r,off,l,h,hl,hf=>by
  unfold shFs at h
  split at h
  ·rename_i ho
   split at h
   ·rename_i m hm
    split at h
    ·rename_i hc
     split at h
     ·rename_i q hq
      cases h
      obtain ⟨L,hL⟩:=hf f (by simp) m hm
      simp only [Ae] at hl
      obtain ⟨L',hL'⟩:=Jc2 r _ q hq (by omega) (fun g hg=>hf g (by simp [hg]))
      refine ⟨L++L',?_⟩
      have e:(cs.drop off).take (m++q).length=(cs.drop off).take m.length++(cs.drop (off+m.length)).take q.length:=by
       rw [Ae,List.take_add,List.drop_drop]
      rw [e]
      rw [ho,←hc] at hL
      exact hL.append hL'
     ·cases h
    ·cases h
   ·cases h
  ·cases h
theorem cell_lt {W:World} {a:Addr} {v:Value} (h:W.cell? a=some v):a.block<W.heap.size:=by
 unfold World.cell? at h
 split at h
 ·rename_i c _ _ hb
  exact (Array.getElem?_eq_some_iff.1 hb).1
 ·cases h
theorem Zf {H:Type} {enc:TypeId×Value→H} {P:Program} {W:World} {base:Nat} {spare:Nat→Bool} {held:Bool}:∀(k:Nat) (t:TypeId) (sh:List CSh),shT P k t=some sh →
  ∀(fuel:Nat) (cs:List Value) (x:DataW H×List MemPlace),DataW.trod enc P W base spare held fuel t cs=some x→∃L,Reads W (fun b=>b<W.heap.size) sh L cs
 | 0,_,_,h=>by cases h
 | k+1,t,sh,h=>by
  intro fuel cs x hx
  unfold shT at h
  split at h
  ·rename_i hu
   cases h
   obtain ⟨b,rfl,-⟩:=DataW.trod_bool hu hx
   exact ⟨[.bool b],.cons (.bool b) (.bool b) rfl .nil⟩
  ·rename_i q hu
   cases h
   obtain ⟨n,rfl,-,hw⟩:=DataW.trod_int hu hx
   exact ⟨[.int q n],.cons (.int q n hw) (.int q n) rfl .nil⟩
  ·rename_i hu
   cases h
   obtain ⟨s,rfl,-,-⟩:=DataW.trod_string hu hx
   exact ⟨[.str s],.cons (.str s) (.str s) rfl .nil⟩
  ·rename_i e hu
   split at h
   ·rename_i l hl
    split at h
    ·rename_i hc
     cases h
     rcases Go.Deep.open_slice hu hx with ⟨rfl,-⟩|⟨a,len,cap,m,n,D,Pl,rfl,hb,hle,hm,hmm,-,hi⟩
     ·exact ⟨[.nils],.cons (.nils l) .nils rfl .nil⟩
     ·have hlm:len≤m:=by rw [hmm];split<;>omega
      have all:∀n',n'≤len→∃L:List AV,L.length=n' * l.length∧(∀(p:Nat) y,L[p]?=some y→∃v,W.cell? (a.add p)=some v∧RepP W (fun b=>b<W.heap.size) y v∧v.oneCell'=true) ∧
        (∀(i j:Nat) x y,i<n'→l[j]?=some x→L[i * l.length+j]?=some y→OfS x y):=by
       intro n'
       induction n' with
       | zero=>intro _;exact ⟨[],by simp,by simp,by omega⟩
       | succ n' ih =>
        intro hn'
        obtain ⟨L,h1,h2,h3⟩:=ih (by omega)
        obtain ⟨cs',hcs,ht⟩:=hi n' (by omega)
        obtain ⟨M,hM⟩:=Zf k e l hl n cs' _ ht
        obtain ⟨-,hlen,hcell⟩:=World.cells?_some hcs
        have hML:=hM.len.1
        refine ⟨L++M,by rw [Ae,h1,hML,Ah,Aj],fun p y hy=>?_,fun i j x y hin hx hy=>?_⟩
        ·by_cases hp:p<L.length
         ·rw [Ad hp] at hy
          exact h2 p y hy
         ·rw [Ac (by omega)] at hy
          obtain ⟨x,v,hx,hv,-,hr,h1'⟩:=hM.get hy
          have hlt:p - L.length<P.cellsOf e:=by
           have:=(Aa.1 hv).1
           omega
          have:=hcell (p - L.length) hlt
          rw [Jhz,←hc,←h1,hv,show L.length+(p - L.length)=p by omega] at this
          exact ⟨v,this,hr,h1'⟩
        ·have hj:=(Aa.1 hx).1
         by_cases hi':i<n'
         ·have hlt:i * l.length+j<L.length:=by
           rw [h1]
           have:(i+1) * l.length≤n' * l.length:=Nat.mul_le_mul_right _ hi'
           rw [Ah] at this
           omega
          rw [Ad hlt] at hy
          exact h3 i j x y hi' hx hy
         ·obtain rfl:i=n':=by omega
          rw [Ac (by omega),h1,Nat.add_sub_cancel_left] at hy
          obtain ⟨x',v,hx',-,ho,-,-⟩:=hM.get hy
          rw [hx] at hx'
          cases hx'
          exact ho
      obtain ⟨L,h1,h2,h3⟩:=all len (Nat.le_refl _)
      refine ⟨[.lst len L],.cons (.lst l len L h1 (by omega) h3) (.lst len L a cap (fun p=>(W.cell? (a.add p)).getD undef) ?_ hle ?_ ?_ ?_) rfl .nil⟩
      ·intro hne
       cases L with
       | nil=>exact absurd rfl hne
       | cons y r =>
        obtain ⟨v,hv,-⟩:=h2 0 y rfl
        have:=cell_lt hv
        rwa [show (a.add 0).block=a.block by unfold Addr.add;split<;>rfl] at this
      ·intro i y hy
       obtain ⟨v,hv,-⟩:=h2 i y hy
       rw [hv];rfl
      ·intro i y hy
       obtain ⟨v,hv,-,h⟩:=h2 i y hy
       rw [hv];exact h
      ·intro i y hy
       obtain ⟨v,hv,h,-⟩:=h2 i y hy
       rw [hv];exact h
    ·cases h
   ·cases h
  ·rename_i fs hu
   split at h
   ·rename_i l hl
    split at h
    ·rename_i hc
     cases h
     obtain ⟨xs,n,-,-,hlen,hxl,hf⟩:=DataW.trod_struct hu hx
     obtain ⟨L,hL⟩:=Jc2 (cs:=cs) fs.toList 0 _ hl (by omega) (fun f hmem m hm=>by
      obtain ⟨i,hi⟩:=List.getElem?_of_mem hmem
      have hf':=hf i f (by simpa using hi)
      have hlt:i<xs.length:=by
       have:=(Aa.1 hi).1
       simp at this
       omega
      rw [List.getElem?_eq_getElem hlt] at hf'
      exact Zf k f.type m hm n _ _ hf')
     refine ⟨L,?_⟩
     rwa [List.drop_zero,List.take_of_length_le (by omega)] at hL
    ·cases h
   ·cases h
  ·cases h
section
variable {H:Type} {enc:TypeId×Value→H} {P:Program} {W:World} {base:Nat} {spare:Nat→Bool} {held:Bool} {t:TypeId} {d:DataW H} {p:List MemPlace}
theorem arg_agg {k:Nat} {sh:List CSh} {cs:Array Value} (hs:shT P k t=some sh) (h:DataW.Trod enc P W base spare held t (.agg cs) d p) :
  ∃L,Reads W (fun b=>b<W.heap.size) sh L cs.toList∧RepP W (fun b=>b<W.heap.size) (.agg L) (.agg cs):=by
 obtain ⟨fuel,hf⟩:=h
 obtain ⟨L,hL⟩:=Zf k t _ hs fuel _ _ hf
 have hL':Reads W (fun b=>b<W.heap.size) sh L cs.toList:=hL
 have hlen:=hL'.len
 refine ⟨L,hL',.agg L cs (by rw [hlen.1,←hlen.2];simp) (fun i x hx=>?_) (fun i x hx=>?_)⟩
 ·obtain ⟨c,v,-,hv,-,-,h1⟩:=hL'.get hx
  have:cs[i]?=some v:=by simpa using hv
  rw [Array.getD_eq_getD_getElem?,this];exact h1
 ·obtain ⟨c,v,-,hv,-,hr,-⟩:=hL'.get hx
  have:cs[i]?=some v:=by simpa using hv
  rw [Array.getD_eq_getD_getElem?,this];exact hr
theorem Jiy {r:Reach} {b0:Nat} {fs:Array Field} {v:Value} (ht:P.underlying t=some (.struct fs)) (hval:Value.okWide P W r b0 t v):∃cs,v=.agg cs:=by
 unfold Value.okWide at hval
 rw [ht] at hval
 obtain ⟨cs,hv,-⟩:=hval
 exact ⟨cs,hv⟩
end
section
variable {W:World} {S:Nat→Prop} {x0 x1 x2 x3 x4 x5:AV} {v0 v1 v2 v3 v4 v5:Value}
theorem args3 (h0:RepP W S x0 v0) (h1:RepP W S x1 v1) (h2:RepP W S x2 v2):∀i x,[x0,x1,x2][i]?=some x→RepP W S x ((#[v0,v1,v2]:Array Value).getD i undef)
 | 0,_,hx=>by cases hx;exact h0
 | 1,_,hx=>by cases hx;exact h1
 | 2,_,hx=>by cases hx;exact h2
 | _+3,_,hx=>by simp at hx
end
end Go.Vv
namespace Go.Dn
open Go Go.Vv Go.RowKit
set_option linter.unusedVariables false
set_option linter.unusedSimpArgs false
def Ty.shp:Ty→Option (List CSh)
 | .int k=>some [.i k]
 | .bool=>some [.b]
 | .str=>some [.s]
 | .ls t=>t.shp.map fun l=>[.sl l]
 | .u=>some []
 | .p a b=>match a.shp,b.shp with|some l,some m=>some (l++m)|_,_=>none
 | .bf _ _=>none
def Ty.wf:(t:Ty)→t.T→Prop
 | .int k,v=>(Lit.int k v).wf=true
 | .bool,_=>True
 | .str,_=>True
 | .ls t,v=>List.length (α:=t.T) v≤maxLen∧∀x:t.T,List.Mem x v→t.wf x
 | .u,_=>True
 | .p a b,v=>a.wf v.1∧b.wf v.2
 | .bf _ _,_=>True
structure Of2 (l:List CSh) (L:List AV):Prop where
 len:L.length=l.length
 at':∀(i:Nat) (x:CSh) (y:AV),l[i]?=some x→L[i]?=some y→OfS x y
theorem Jr6 {W:World} {S:Nat→Prop} {xs:List CSh} {ys:List AV} {vs:List Value} (h:Reads W S xs ys vs):Of2 xs ys :=
 ⟨h.len.1,fun i x y hx hy=>by
  obtain ⟨x',v,h1,-,h2,-⟩:=h.get hy
  rw [hx] at h1
  injection h1 with h1
  subst h1
  exact h2⟩
theorem of2_app {a b:List CSh} {L:List AV} (h:Of2 (a++b) L):∃M N,L=M++N∧Of2 a M∧Of2 b N:=by
 have hl:=h.len
 rw [Ae] at hl
 refine ⟨L.take a.length,L.drop a.length,(Ai _ _).symm,⟨by rw [List.length_take];omega,fun i x y hx hy=>?_⟩,⟨by rw [List.length_drop];omega,fun i x y hx hy=>?_⟩⟩
 ·have hi:=(Aa.1 hx).1
  rw [Ag hi] at hy
  exact h.at' i x y (by rw [Ad hi];exact hx) hy
 ·rw [List.getElem?_drop] at hy
  exact h.at' (a.length+i) x y (by rw [Ac (by omega),show a.length+i - a.length=i by omega];exact hx) hy
theorem of_ty:∀(t:Ty) {l:List CSh},t.shp=some l→∀L,Of2 l L→∃v:t.T,t.wf v∧UpL L (t.cs v)
 | .int k,l,hl,L,h=>by
  simp only [Ty.shp,Option.some.injEq] at hl
  subst hl
  obtain ⟨y,rfl⟩:=Ab.1 h.len
  have:=h.at' 0 _ y rfl rfl
  cases this with
  | int _ n hn=>exact ⟨n,hn,.refl _⟩
 | .bool,l,hl,L,h=>by
  simp only [Ty.shp,Option.some.injEq] at hl
  subst hl
  obtain ⟨y,rfl⟩:=Ab.1 h.len
  have:=h.at' 0 _ y rfl rfl
  cases this with
  | bool b=>exact ⟨b,trivial,.refl _⟩
 | .str,l,hl,L,h=>by
  simp only [Ty.shp,Option.some.injEq] at hl
  subst hl
  obtain ⟨y,rfl⟩:=Ab.1 h.len
  have:=h.at' 0 _ y rfl rfl
  cases this with
  | str s=>exact ⟨s,trivial,.refl _⟩
 | .u,l,hl,L,h=>by
  simp only [Ty.shp,Option.some.injEq] at hl
  subst hl
  have:=h.len
  rw [List.length_nil] at this
  rw [Af this]
  exact ⟨(),trivial,.nil⟩
 | .p a b,l,hl,L,h=>by
  simp only [Ty.shp] at hl
  split at hl
  ·rename_i la lb ha hb
   injection hl with hl
   subst hl
   obtain ⟨M,N,rfl,h1,h2⟩:=of2_app h
   obtain ⟨x,wx,hx⟩:=of_ty a ha M h1
   obtain ⟨y,wy,hy⟩:=of_ty b hb N h2
   exact ⟨(x,y),⟨wx,wy⟩,hx.append hy⟩
  ·cases hl
 | .ls t,l,hl,L,h=>by
  simp only [Ty.shp,Option.map_eq_some_iff] at hl
  obtain ⟨m,hm,rfl⟩:=hl
  obtain ⟨y,rfl⟩:=Ab.1 h.len
  have h0:=h.at' 0 _ y rfl rfl
  cases h0 with
  | nils=>exact ⟨([]:List t.T),⟨by simp,fun x hx=>by cases hx⟩,.cons .nils .nil⟩
  | lst _ n L hL hn hh =>
   have key:∀(n:Nat) (L:List AV),L.length=n * m.length→(∀i j x y,i<n→m[j]?=some x→L[i * m.length+j]?=some y→OfS x y)→∃l:List t.T,l.length=n∧(∀x∈l,t.wf x)∧UpL L (l.flatMap t.cs):=by
    intro n
    induction n with
    | zero =>
     intro L hL _
     rw [Nat.zero_mul] at hL
     rw [Af hL]
     exact ⟨[],rfl,by simp,.nil⟩
    | succ n ih =>
     intro L hL hh
     rw [Ah,Aj] at hL
     obtain ⟨x,wx,hx⟩:=of_ty t hm (L.take m.length) ⟨by rw [List.length_take];omega,fun i x y hx hy=>by
      have hi:=(Aa.1 hx).1
      rw [Ag hi] at hy
      exact hh 0 i x y (by omega) hx (by rw [Nat.zero_mul,Nat.zero_add];exact hy)⟩
     obtain ⟨l,e1,e2,e3⟩:=ih (L.drop m.length) (by rw [List.length_drop];omega) (fun i j x y hi hx hy=>by
      rw [List.getElem?_drop] at hy
      refine hh (i+1) j x y (by omega) hx ?_
      rw [Ah,Aj,show i * m.length+m.length+j=m.length+(i * m.length+j) by omega]
      exact hy)
     refine ⟨x::l,by simp [e1],fun z hz=>?_,?_⟩
     ·rcases List.mem_cons.1 hz with rfl|hz
      ·exact wx
      ·exact e2 z hz
     ·have:=hx.append e3
      rw [Ai] at this
      rwa [List.flatMap_cons]
   obtain ⟨l,e1,e2,e3⟩:=key n L hL hh
   subst e1
   exact ⟨l,⟨hn,e2⟩,.cons e3.mkLst .nil⟩
 | .bf _ _,l,hl,_,_=>by cases hl
section
variable {H:Type} {enc:TypeId×Value→H} {P:Program} {W:World} {base:Nat} {spare:Nat→Bool} {held:Bool} {t:TypeId} {d:DataW H} {p:List MemPlace}
theorem in_agg {k:Nat} {ty:Ty} {cs:Array Value} (hs:(shT P k t).isSome=true) (e:shT P k t=ty.shp) (h:DataW.Trod enc P W base spare held t (.agg cs) d p) :
  ∃x:ty.T,ty.wf x∧RepP W (fun b=>b<W.heap.size) (argA (.ag,ty) x) (.agg cs):=by
 obtain ⟨l,hl⟩:=Option.isSome_iff_exists.1 hs
 obtain ⟨L,hL,hr⟩:=arg_agg hl h
 obtain ⟨x,wx,hx⟩:=of_ty ty (e.symm.trans hl) L (Jr6 hL)
 exact ⟨x,wx,hx.mkAgg.rep hr⟩
end
theorem Jte {w w':World} (h:Old w w'):Below w.heap.size w w':=⟨h.os,h.tape,h.output.1,h.size,h.keep⟩
theorem true_run {P:Program} {f:FuncId} {aks:List (AK×Ty)} {fn:(K6 (aks.map (·.2))).T→Option Bool} (hg:Good P ⟨f,aks,[(false,.bool)],fn⟩) {x:(K6 (aks.map (·.2))).T} (hx:fn x=some true) {W:World} {cargs:Array Value} (hsz:cargs.size=(Xy aks x).length)
  (hr:∀i y,(Xy aks x)[i]?=some y→RepP W (fun b=>b<W.heap.size) y (cargs.getD i undef)):Calls P f cargs W fun e w'=>e=.returned (.bool true)∧Below W.heap.size W w':=by
 refine (hg.run x true hx W (fun b=>b<W.heap.size) cargs (fun _ h=>h) hsz hr).mono fun e w' ⟨cv,he,hv,ho⟩=>?_
 have hv:RepP w' _ (.bool true) cv:=hv
 cases hv
 exact ⟨he,Jte ho⟩
end Go.Dn
