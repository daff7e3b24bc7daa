/- Sorting by a function that parts any two. Conditions: as the library's contract of slices.SortFunc asks. -/
import Derived.Test.YtmfagdfkpjgeiaaGreatFD
import Derived.Shelf.SlSortCmp.NoneTotal
set_option linter.unusedVariables false
set_option linter.unusedSimpArgs false
namespace Go.Dn
open Go Go.Vv
open Bool renaming not_eq_true' -> Aa, false_ne_true -> Am
open _root_.Array renaming getElem?_eq_getElem -> Ab, getD_eq_getD_getElem? -> Ad, getElem?_append_left -> Ae, getElem?_modify -> Ak, extract_eq_self_of_le -> Ao, getElem?_eq_some_iff -> Aq, getElem?_mapIdx -> Aw, append_empty -> Az
open List renaming getElem?_eq_getElem -> Ac, getElem!_eq_getElem?_getD -> Af, length_map -> Ah, getElem?_eq_some_iff -> Ai, pairwise_cons -> Aj, all_eq_true -> Al, mem_cons_self -> Ap, getElem?_map -> Ar, mem_cons -> As, getElem?_cons_zero -> Au, getElem!_toArray -> Av, mem_of_getElem? -> Ax, map_cons -> Ay, all -> Bc
open Nat renaming le_refl -> Ag
open Option renaming isSome_none -> Ba
open Option.some renaming injEq -> Bb
theorem Jn1{w w':World}(o:Old w w'):∃q os',w'=Go.Sort.grow (w.drewN q) os':=by
 refine ⟨w'.drawn - w.drawn,w'.heap.extract w.heap.size w'.heap.size,?_⟩;obtain ⟨h,g,⟨f,l⟩,m,e⟩:=o;obtain ⟨heap,tape,drawn,os,output⟩:=w;obtain ⟨a,tape',drawn',os',output'⟩:=w';simp only at h g f m e l;subst h;subst g;subst f;simp only [Go.Sort.grow,World.drewN,World.mk.injEq,true_and,and_true];refine ⟨?_,by omega⟩;apply Array.ext_getElem?;intro i;by_cases d:i<heap.size
 ·rw [e i d,Ae d]
 ·rw [Array.getElem?_append_right (by omega),Array.getElem?_extract];split
  ·rw [show heap.size+(i - heap.size)=i by omega]
  ·rw [Array.getElem?_eq_none (by omega)]
def encv{t:Ty}(x:t.T):List Value:=(t.cs x).map vOf
theorem Jud{t:Ty}(x:t.T):(encv x).length=t.sz:=by simp [encv,Y0]
theorem Jzp{t:Ty}{l:List t.T}{j:Nat}(f:j<l.length * t.sz):∃e,l[j / t.sz]?=some e/\(l.flatMap t.cs)[j]?=(t.cs e)[j % t.sz]?:=by
 have d:0<t.sz:=by
  cases h:t.sz with
  | zero=>rw [h] at f;omega
  | succ n=>omega
 have a:j / t.sz<l.length:=(Nat.div_lt_iff_lt_mul d).2 f;refine ⟨l[j / t.sz],Ac a,?_⟩;have e:=Jcb (l:=l) (i:=j / t.sz) (Ac a);rw [<-e];have g:j % t.sz<t.sz:=Nat.mod_lt _ d;have hd:j / t.sz * t.sz+j % t.sz=j:=Nat.div_add_mod' j t.sz;simp only [Vv.cut];rw [List.getElem?_take_of_lt g,List.getElem?_drop,hd]
theorem Jua{t:Ty}[Inhabited t.T]{l:List t.T}{i:Nat}{v:AV}(d:(l.flatMap t.cs)[i]?=some v):i<(Go.Sort.flatK encv t.sz l.toArray).size/\(Go.Sort.flatK encv t.sz l.toArray)[i]! = vOf v:=by
 have a:i<l.length * t.sz:=by rw [<-Jj];exact (Ai.1 d).1
 obtain ⟨e,g,f⟩:=Jzp a;refine ⟨by simpa using a,?_⟩;rw [Go.Sort.get_flatK encv t.sz l.toArray i (by simpa using a)];have h:l.toArray[i / t.sz]! = e:=by rw [Av,Af,g];rfl
 rw [h];rw [d] at f;simp only [encv];rw [Af,Ar,<-f];rfl
section
variable {α:Type} {le:α->α->Bool}
def insS(le:α->α->Bool)(x:α):List α->List α
 | []=>[x]
 | y::r=>match le x y with|true=>x::y::r|false=>y::insS le x r
def Ja0(le:α->α->Bool):List α->List α
 | []=>[]
 | x::r=>insS le x (Ja0 le r)
theorem Ji7(x:α):∀l:List α,(insS le x l).Perm (x::l)
 | []=>.refl _
 | y::r=>by
  simp only [insS];split
  ·exact .refl _
  ·exact ((Ji7 x r).cons y).trans (.swap x y r)
theorem jq:∀l:List α,(Ja0 le l).Perm l
 | []=>.refl _
 | x::r=>(Ji7 x _).trans ((jq r).cons x)
theorem Jwy(tr:∀x y z,le x y=true->le y z=true->le x z=true)(tot:∀x y,le x y=true\/le y x=true)(x:α):∀ {l:List α},l.Pairwise (λa b=>le a b=true)->(insS le x l).Pairwise λa b=>le a b=true
 | [],_=>List.pairwise_singleton _ _
 | y::r,h=>by
  obtain ⟨f,g⟩:=Aj.1 h;simp only [insS];split
  ·rename_i hx;exact Aj.2 ⟨λz d=>by
    rcases As.1 d with rfl|d
    ·exact hx
    ·exact tr _ _ _ hx (f z d),h⟩
  ·rename_i hx;have e:le y x=true:=(tot x y).resolve_left (by rw [hx];exact Am);exact Aj.2 ⟨λz d=>by
    rcases As.1 ((Ji7 x r).mem_iff.1 d) with rfl|d
    ·exact e
    ·exact f z d,Jwy tr tot x g⟩
theorem Jhz(tr:∀x y z,le x y=true->le y z=true->le x z=true)(tot:∀x y,le x y=true\/le y x=true):∀l:List α,(Ja0 le l).Pairwise λa b=>le a b=true
 | []=>.nil
 | x::r=>Jwy tr tot x (Jhz tr tot r)
theorem J0r(anti:∀x y,le x y=true->le y x=true->x=y):∀ {a b:List α},a.Perm b->a.Pairwise (λa b=>le a b=true)->b.Pairwise (λa b=>le a b=true)->a=b
 | [],b,h,_,_=>by rw [h.nil_eq]
 | x::a,[],h,_,_=>by have:=h.length_eq;simp at this
 | x::a,y::b,h,r,o=>by
  obtain ⟨l,g⟩:=Aj.1 r;obtain ⟨f,d⟩:=Aj.1 o;have e:x=y:=by
   rcases As.1 (h.mem_iff.1 (Ap:x∈x::a)) with e|hx
   ·exact e
   ·rcases As.1 (h.mem_iff.2 (Ap:y∈y::b)) with e|m
    ·exact e.symm
    ·exact anti x y (l y m) (f x hx)
  subst e;rw [J0r anti (List.perm_cons x |>.1 h) g d]
theorem Jkb(tr:∀x y z,le x y=true->le y z=true->le x z=true)(tot:∀x y,le x y=true\/le y x=true)(anti:∀x y,le x y=true->le y x=true->x=y)(l:List α):l.mergeSort le=Ja0 le l:=
 J0r anti ((List.mergeSort_perm l le).trans (jq l).symm) (List.pairwise_mergeSort tr (λa b=>by simpa using tot a b) l) (Jhz tr tot l)
end
theorem J0o{P:Program}{t:Ty}(l:t.flat=true){g:Nat}{fn:t.T×t.T->Option Int}(A:Good P ⟨g,[(.ag,t),(.ag,t)],[(false,I)],fn⟩)(cf:t.T->t.T->Int)(f:∀x y:t.T,fn (x,y)=some (cf x y))(W:World)(x y:t.T) :
  Calls P g #[.agg (encv x).toArray,.agg (encv y).toArray] W λe w'=>e=.returned (.int .i64 (cf x y))/\Old W w':=by
 have d:∀(x:t.T),RepP W (λ_=>False) (.agg (t.cs x)) (.agg (encv x).toArray):=λx=>by
  have at':∀(i:Nat) (z:AV),(t.cs x)[i]?=some z->(encv x).toArray.getD i undef=vOf z:=λi z a=>by simp [encv,Ad,a]
  refine .agg _ _ (by simp [encv]) (λi z a=>?_) (λi z a=>?_)
  ·rw [at' i z a];exact (Jgw (w:=W) (S:=λ_=>False) (Zw l x z (Ax a))).2
  ·rw [at' i z a];exact (Jgw (Zw l x z (Ax a))).1
 have m:=A.run (show t.T×t.T from (x,y)) (show Int from cf x y) (f x y) W (λ_=>False) #[.agg (encv x).toArray,.agg (encv y).toArray] (λb h=>h.elim);have hA:jd [(AK.ag,t),(AK.ag,t)] (show t.T×t.T from (x,y))=[.agg (t.cs x),.agg (t.cs y)]:=rfl;simp only [hA] at m;refine (m rfl λi z a=>?_).mono λe w' ⟨cv,E,v,o⟩=>?_
 ·cases i with
  | zero=>simp only [Au,Bb] at a;subst a;exact d x
  | succ i=>cases i with
   | zero=>simp only [List.getElem?_cons_succ,Au,Bb] at a;subst a;exact d y
   | succ i=>simp at a
 ·have r:RepP w' (Zu (λ_=>False) W w') (.int .i64 (cf x y)) cv:=v;have B:cv=.int .i64 (cf x y):=by cases r;rfl
  exact ⟨by rw [E,B],o⟩
open Go.Proofs Go.Shelf in
theorem J0p{P:Program}{ρ:Ren}(L:SlLaysF0.n6 P ρ){t:Ty}[Inhabited t.T](Y:t.flat=true)(hz:0<t.sz)(aE:∀w,(isAgg (ρ.t 24)).run P w=.ok true w)(zE:∀w,(Go.sizeOf (ρ.t 24)).run P w=.ok t.sz w)
  {g:Nat} {fn:t.T×t.T->Option Int} (hc:Good P ⟨g,[(.ag,t),(.ag,t)],[(false,I)],fn⟩) (cf:t.T->t.T->Int) (hcf:∀x y:t.T,fn (x,y)=some (cf x y))
  (hO:Go.Sort.SWO (ltOf cf)) (hT:∀x y,(ltOf cf) x y=false->(ltOf cf) y x=false->x=y) (hid:ρ.f 6<yB) (hfk:FnOK P (ρ.f 6)) :
  SGood P ⟨ρ.f 6,g,true,t,λl=>if List.length (α:=t.T) l<4611686018427387904 then some (Ja0 (α:=t.T) (λx y=>!(ltOf cf) y x) l) else none⟩:=by
 have em:∀l:List t.T,l.mergeSort (λx y=>!(ltOf cf) y x)=Ja0 (λx y=>!(ltOf cf) y x) l:=Jkb (λx y z R Q=>by
  simp only [Aa] at *
  exact hO.ntrans z y x Q R) (λx y=>by
  simp only [Aa];cases h:ltOf cf y x with
  | false=>exact .inl rfl
  | true=>
   cases Q:ltOf cf x y with
   | false=>exact .inr rfl
   | true=>exact absurd (hO.trans x y x Q h) (by rw [hO.irrefl];exact Am)) (λx y R Q=>by
  simp only [Aa] at *
  exact hT x y Q R)
 have scl:∀(x:t.T),∀y∈t.cs x,Scl y:=λx=>Zw Y x;have R:∀x:t.T,∀v∈encv x,v.oneCell'=true:=λx v X=>by obtain ⟨y,hy,rfl⟩:=List.mem_map.1 X;rcases scl x y hy with ⟨b,rfl⟩|⟨k,n,rfl⟩|⟨z,rfl⟩<;>rfl
 have eg:∀args w,(callFunc g args).run P w=.ok (.enter g args) w:=λargs w=>Qb (f:=g) hc.fn args w;have cmp:∀(w:World) (blk off size:Nat),CmpLays P g #[] encv t.sz cf blk off size w:=λw blk off size m os dk hdk x y=>by rw [Az];exact (J0o Y hc cf hcf _ x y).mono λe w' ⟨E,o⟩=>⟨E,Jn1 o⟩
 refine ⟨hfk,hid,Y,λl r a=>?_,λl r a hne w b off cap cs el O K hcap M=>?_,λr a w A=>?_,λw=>?_⟩
 ·simp only at a;split at a
  ·injection a with a;rw [<-a];exact (jq l).length_eq
  ·cases a
 ·simp only at a;split at a
  ·rename_i Z;injection a with a;have K:off+List.length (α:=t.T) l * t.sz<=cs.size:=K;have hH:Go.Sort.HoldsK encv t.sz w b off l.toArray:=λj hj=>by
    have H:j<(l.flatMap t.cs).length:=by rw [Jj];simpa using hj
    obtain ⟨-,E⟩:=Jua (Ac H);have J:=M j _ (Ac H);rw [E];have d:off+j<cs.size:=by rw [Jj] at H;omega
    refine ⟨?_,?_⟩
    ·simp only [World.cell?,O];rw [Ad,Ab d] at J;simp only [Ba,Bool.false_eq_true,if_false];rw [Ab d];exact congrArg some J
    ·simp [World.frozen?,O]
   have G:b<w.heap.size:=(Aq.1 O).1;have F:=AnyQ.slices_SortFunc_total L t.sz aE zE encv Jud R cf hO g #[] b off cap l.toArray w eg (cmp w b off l.toArray.size) hH G (by simpa using Z) hT;rw [show l.toArray.size=l.length from rfl] at F;refine F.mono λe w' ⟨E,n,os,hw⟩=>⟨E,?_⟩;subst hw;rw [em,a];have N:r.length=l.length:=by rw [<-a];exact (jq l).length_eq
   refine ⟨rfl,rfl,⟨rfl,Nat.le_add_right _ _⟩,?_,λk hk hkb=>?_,λel' B=>?_⟩
   ·show w.heap.size<=((w.heap.modify b _)++os).size;simp
   ·show ((w.heap.modify b _)++os)[k]?=_;rw [Ae (by simpa using hk),Ak,if_neg (λq=>hkb q.symm)]
   ·have hel:el'=el:=by rw [O] at B;injection B with B;injection B with _ q;exact q.symm
    subst hel;refine ⟨Go.Sort.putCells id off (Go.Sort.flatK encv t.sz r.toArray) cs,?_,by simp [Go.Sort.putCells],λi v X=>?_⟩
    ·show ((w.heap.modify b _)++os)[b]?=_;rw [Ae (by simpa using G),Ak,if_pos rfl,O];rfl
    ·obtain ⟨q1,q2⟩:=Jua (t:=t) (l:=r) X;have hi:i<r.length * t.sz:=by rw [<-Jj];exact (Ai.1 X).1
     have d:off+i<cs.size:=by rw [N] at hi;omega
     rw [Ad];simp only [Go.Sort.putCells,Aw];rw [Ab d];simp only [Option.map_some,Option.getD_some];rw [if_pos ⟨by omega,by omega⟩,show off+i - off=i by omega];exact q2
  ·cases a
 ·refine (AnyF.slices_SortFunc_none L A 0 (.func (.func g) #[] #[]) w).mono λe w' ⟨E,J⟩=>⟨E,?_⟩;subst J;exact ⟨rfl,rfl,⟨rfl,Ag _⟩,Ag _,λ_ _=>rfl⟩
 ·refine (AnyF.slices_SortFunc_none L none 0 (.func (.func g) #[] #[]) w).mono λe w' ⟨E,J⟩=>⟨E,?_⟩;subst J;exact ⟨rfl,rfl,⟨rfl,Ag _⟩,Ag _,λ_ _=>rfl⟩
theorem Jt3{α β:Type}(val:α->β)(le:β->β->Bool)(x:α):∀l:List α,(insS (λa b=>le (val a) (val b)) x l).map val=insS le (val x) (l.map val)
 | []=>rfl
 | y::r=>by
  simp only [insS,Ay];cases h:le (val x) (val y) with
  | true=>rfl
  | false=>simp only [Ay,Jt3 val le x r]
theorem Jjx{α β:Type}(val:α->β)(le:β->β->Bool):∀l:List α,(Ja0 (λa b=>le (val a) (val b)) l).map val=Ja0 le (l.map val)
 | []=>rfl
 | x::r=>by simp only [Ja0,Ay,Jt3,Jjx val le r]
theorem Jpa{α:Type}[Inhabited α]{t:Ty}(val:α->t.T){l:List α}{i:Nat}{v:AV}(g:((l.map val).flatMap t.cs)[i]?=some v) :
  i<(Go.Sort.flatK (λx=>encv (val x)) t.sz l.toArray).size/\(Go.Sort.flatK (λx=>encv (val x)) t.sz l.toArray)[i]! = vOf v:=by
 have d:i<(l.map val).length * t.sz:=by rw [<-Jj];exact (Ai.1 g).1
 obtain ⟨e,a,h⟩:=Jzp d;rw [Ah] at d;refine ⟨by simpa using d,?_⟩;rw [Go.Sort.get_flatK _ t.sz l.toArray i (by simpa using d)];rw [Ar] at a;cases f:l[i / t.sz]? with
 | none=>rw [f] at a;cases a
 | some u=>
  rw [f] at a;injection a with a;have m:l.toArray[i / t.sz]! = u:=by rw [Av,Af,f];rfl
  rw [m,a];rw [g] at h;simp only [encv];rw [Af,Ar,<-h];rfl
open Go.Proofs Go.Shelf in
theorem Jtp{P:Program}{t:Ty}(d:t.flat=true){g:Nat}{fn:t.T×t.T->Option Int}(h:Good P ⟨g,[(.ag,t),(.ag,t)],[(false,I)],fn⟩)(cf:t.T->t.T->Int)(a:∀x y:t.T,fn (x,y)=some (cf x y)){α:Type}[Inhabited α](val:α->t.T)(w:World)(b off n:Nat) :
  CmpLays P g #[] (λx:α=>encv (val x)) t.sz (λx y=>cf (val x) (val y)) b off n w:=λm os dk f x y=>by rw [Az];exact (J0o d h cf a _ (val x) (val y)).mono λe w' ⟨l,o⟩=>⟨l,Jn1 o⟩
noncomputable def pdqL{α:Type}[Inhabited α](lt:α->α->Bool)(l:List α):List α:=(Go.Sort.pdq lt l.toArray 0 l.length (Go.Lib.bitLen l.length) true true).toList
theorem Jd1{α:Type}[Inhabited α]{lt:α->α->Bool}(hO:Go.Sort.SWO lt)(l:List α):Go.Sort.PermIn 0 l.length l.toArray (Go.Sort.pdq lt l.toArray 0 l.length (Go.Lib.bitLen l.length) true true)/\Go.Sort.SortedIn lt 0 l.length (Go.Sort.pdq lt l.toArray 0 l.length (Go.Lib.bitLen l.length) true true):=
 Go.Sort.pdq_sorts lt hO l.toArray 0 l.length (Go.Lib.bitLen l.length) true true (Nat.zero_le _) (Ag _) (Or.inl rfl)
theorem Jbm{α:Type}[Inhabited α]{lt:α->α->Bool}(hO:Go.Sort.SWO lt)(l:List α):(pdqL lt l).Perm l:=by
 obtain ⟨d,-,a⟩:=(Jd1 hO l).1;have f:(Go.Sort.pdq lt l.toArray 0 l.length (Go.Lib.bitLen l.length) true true).extract 0 l.length=Go.Sort.pdq lt l.toArray 0 l.length (Go.Lib.bitLen l.length) true true:=by apply Ao;rw [d];simp
 have e:l.toArray.extract 0 l.length=l.toArray:=by apply Ao;simp
 rw [f,e] at a;exact a
theorem pdqL_pw{α:Type}[Inhabited α]{lt:α->α->Bool}(hO:Go.Sort.SWO lt)(l:List α):(pdqL lt l).Pairwise λa b=>lt b a=false:=by
 have hl:=(Jbm hO l).length_eq;have h:=(Jd1 hO l).2;rw [List.pairwise_iff_getElem];intro i j o m f;have:=h i j (Nat.zero_le _) f (by omega);have e:∀k (g:k<(pdqL lt l).length),(Go.Sort.pdq lt l.toArray 0 l.length (Go.Lib.bitLen l.length) true true)[k]! = (pdqL lt l)[k]:=λk g=>by have d:k<(Go.Sort.pdq lt l.toArray 0 l.length (Go.Lib.bitLen l.length) true true).size:=g;rw [getElem!_pos _ k d];rfl
 rw [e j m,e i o] at this;exact this
open Go.Proofs Go.Shelf in
theorem Jcp{P:Program}{ρ:Ren}(L:SlLaysF0.n6 P ρ){t:Ty}(Q:t.flat=true)(aE:∀w,(isAgg (ρ.t 24)).run P w=.ok true w)(zE:∀w,(Go.sizeOf (ρ.t 24)).run P w=.ok t.sz w)
  {g:Nat} {cb:Array Value} (cf:t.T->t.T->Int)
  {α:Type} [Inhabited α] (val:α->t.T) (hO:Go.Sort.SWO (ltOf λx y:α=>cf (val x) (val y))) (l:List α) (F:l.length<4611686018427387904)
  {w:World} {b off cap:Nat} {cs:Array Value} {el:TypeId} (eg:∀args w,(callFunc g args).run P w=.ok (.enter g args) w) (cmp:CmpLays P g cb (λx:α=>encv (val x)) t.sz (λx y=>cf (val x) (val y)) b off l.toArray.size w) (B:w.heap[b]?=some (.cells cs el (0,0))) (R:off+l.length * t.sz<=cs.size) (A:∀(i:Nat) (v:AV),((l.map val).flatMap t.cs)[i]?=some v->cs.getD (off+i) undef=vOf v) :
  Calls P (ρ.f 6) #[.slice (some ⟨b,off,none⟩) l.length cap,.func (.func g) #[] cb] w λe w'=>e=.returned (.tuple #[])/\Jte w w' b off (l.length * t.sz) cs (((pdqL (ltOf λx y:α=>cf (val x) (val y)) l).map val).flatMap t.cs):=by
 have h1:∀x:α,∀v∈encv (val x),v.oneCell'=true:=λx v E=>by obtain ⟨y,N,rfl⟩:=List.mem_map.1 E;rcases Zw Q (val x) y N with ⟨b,rfl⟩|⟨k,n,rfl⟩|⟨z,rfl⟩<;>rfl
 have hO1:∀x y:α,(ltOf λx y:α=>cf (val x) (val y)) x y=ltOf cf (val x) (val y):=λx y=>rfl;have hH:Go.Sort.HoldsK (λx:α=>encv (val x)) t.sz w b off l.toArray:=λj Y=>by
  have o:j<((l.map val).flatMap t.cs).length:=by rw [Jj,Ah];simpa using Y
  obtain ⟨-,J⟩:=Jpa val (Ac o);have K:=A j _ (Ac o);rw [J];have a:off+j<cs.size:=by rw [Jj,Ah] at o;omega
  refine ⟨?_,?_⟩
  ·simp only [World.cell?,B];rw [Ad,Ab a] at K;simp only [Ba,Bool.false_eq_true,if_false];rw [Ab a];exact congrArg some K
  ·simp [World.frozen?,B]
 have m:b<w.heap.size:=(Aq.1 B).1;have f:=AnyQ.slices_SortFunc_eq L t.sz aE zE (λx:α=>encv (val x)) (λx=>Jud (val x)) h1 (λx y=>cf (val x) (val y)) hO g cb b off cap l.toArray w eg cmp hH m (by simpa using F);rw [show l.toArray.size=l.length from rfl] at f;refine f.mono λe w' ⟨J,n,os,O⟩=>⟨J,?_⟩;subst O;have h:(pdqL (ltOf λx y:α=>cf (val x) (val y)) l).length=l.length:=(Jbm hO l).length_eq;have er:Go.Sort.pdq (ltOf λx y:α=>cf (val x) (val y)) l.toArray 0 l.length (Go.Lib.bitLen l.length) true true=(pdqL (ltOf λx y:α=>cf (val x) (val y)) l).toArray:=rfl;rw [er];generalize hr:pdqL (ltOf λx y:α=>cf (val x) (val y)) l=r at h;refine ⟨rfl,rfl,⟨rfl,Nat.le_add_right _ _⟩,?_,λk X G=>?_,λel' d=>?_⟩
 ·show w.heap.size<=((w.heap.modify b _)++os).size;simp
 ·show ((w.heap.modify b _)++os)[k]?=_;rw [Ae (by simpa using X),Ak,if_neg (λq=>G q.symm)]
 ·have H:el'=el:=by rw [B] at d;injection d with d;injection d with _ q;exact q.symm
  subst H;refine ⟨Go.Sort.putCells id off (Go.Sort.flatK (λx:α=>encv (val x)) t.sz r.toArray) cs,?_,by simp [Go.Sort.putCells],λi v E=>?_⟩
  ·show ((w.heap.modify b _)++os)[b]?=_;rw [Ae (by simpa using m),Ak,if_pos rfl,B];rfl
  ·obtain ⟨q1,M⟩:=Jpa val E;have Z:i<r.length * t.sz:=by have:=(Ai.1 E).1;rw [Jj,Ah] at this;exact this
   have a:off+i<cs.size:=by rw [h] at Z;omega
   rw [Ad];simp only [Go.Sort.putCells,Aw];rw [Ab a];simp only [Option.map_some,Option.getD_some];rw [if_pos ⟨by omega,by omega⟩,show off+i - off=i by omega];exact M
open Go.Proofs Go.Shelf in
theorem sort_run{P:Program}{ρ:Ren}(L:SlLaysF0.n6 P ρ){t:Ty}(A:t.flat=true)(aE:∀w,(isAgg (ρ.t 24)).run P w=.ok true w)(zE:∀w,(Go.sizeOf (ρ.t 24)).run P w=.ok t.sz w)
  {g:Nat} {cb:Array Value} (cf:t.T->t.T->Int)
  {α:Type} [Inhabited α] (val:α->t.T) (hO:Go.Sort.SWO (ltOf λx y:α=>cf (val x) (val y))) (hT:∀x y:α,(ltOf cf) (val x) (val y)=false->(ltOf cf) (val y) (val x)=false->x=y) (l:List α) (m:l.length<4611686018427387904)
  {w:World} {b off cap:Nat} {cs:Array Value} {el:TypeId} (eg:∀args w,(callFunc g args).run P w=.ok (.enter g args) w) (cmp:CmpLays P g cb (λx:α=>encv (val x)) t.sz (λx y=>cf (val x) (val y)) b off l.toArray.size w) (B:w.heap[b]?=some (.cells cs el (0,0))) (f:off+l.length * t.sz<=cs.size) (a:∀(i:Nat) (v:AV),((l.map val).flatMap t.cs)[i]?=some v->cs.getD (off+i) undef=vOf v) :
  Calls P (ρ.f 6) #[.slice (some ⟨b,off,none⟩) l.length cap,.func (.func g) #[] cb] w λe w'=>e=.returned (.tuple #[])/\Jte w w' b off (l.length * t.sz) cs ((Ja0 (λx y=>!(ltOf cf) y x) (l.map val)).flatMap t.cs):=by
 have em:l.mergeSort (λx y=>!(ltOf cf) (val y) (val x))=Ja0 (λx y=>!(ltOf cf) (val y) (val x)) l:=Jkb (λx y z o d=>by
  simp only [Aa] at *
  exact hO.ntrans z y x d o) (λx y=>by
  simp only [Aa];cases h:ltOf cf (val y) (val x) with
  | false=>exact .inl rfl
  | true=>
   cases d:ltOf cf (val x) (val y) with
   | false=>exact .inr rfl
   | true=>exact absurd (hO.trans x y x d h) (by rw [hO.irrefl];exact Am)) (λx y o d=>by
  simp only [Aa] at *
  exact hT x y d o) l
 have r:=Jcp L A aE zE cf val hO l m (cap:=cap) eg cmp B f a;have E:pdqL (ltOf λx y:α=>cf (val x) (val y)) l=Ja0 (λx y=>!(ltOf cf) (val y) (val x)) l:=by rw [<-em];exact Go.Sort.sorted_unique_holds hO hT l.toArray _ (Jd1 hO l).1 (Jd1 hO l).2
 rw [E,Jjx val (λx y=>!(ltOf cf) y x) l] at r;exact r
def Jty{α:Type}(lt eq:α->α->Bool)(l:List α):Bool:=l.all λx=>l.all λy=>lt x y || lt y x || eq x y
open Go.Proofs Go.Shelf in
theorem Jv7{P:Program}{ρ:Ren}(L:SlLaysF0.n6 P ρ){t:Ty}(o:t.flat=true)(aE:∀w,(isAgg (ρ.t 24)).run P w=.ok true w)(zE:∀w,(Go.sizeOf (ρ.t 24)).run P w=.ok t.sz w)
  {g:Nat} {fn:t.T×t.T->Option Int} (R:Good P ⟨g,[(.ag,t),(.ag,t)],[(false,I)],fn⟩) (cf:t.T->t.T->Int) (K:∀x y:t.T,fn (x,y)=some (cf x y)) (ok:t.T->Bool) (hO:Go.Sort.SWO (ltOf λx y:{x:t.T // ok x=true}=>cf x.1 y.1)) (eq:t.T->t.T->Bool) (J:∀x y,eq x y=true->x=y) (G:ρ.f 6<yB) (H:FnOK P (ρ.f 6)) :
  SGood P ⟨ρ.f 6,g,true,t,λl=>if List.length (α:=t.T) l<4611686018427387904/\(Jty (α:=t.T) (ltOf cf) eq l&&Bc (α:=t.T) l ok)=true then some (Ja0 (α:=t.T) (λx y=>!(ltOf cf) y x) l) else none⟩:=by
 refine ⟨H,G,o,λl r a=>?_,λl r a E w b off cap cs el Y B Q h=>?_,λr a w A=>?_,λw=>?_⟩
 ·simp only at a;split at a
  ·injection a with a;rw [<-a];exact (jq l).length_eq
  ·cases a
 ·simp only at a;split at a
  ·rename_i X;injection a with a;obtain ⟨F,m⟩:=X;cases l with
   | nil=>exact (E rfl).elim
   | cons y l=>
    haveI:Inhabited {x:t.T // x∈y::l}:=⟨⟨y,Ap⟩⟩
    have O:(y::l).attach.map Subtype.val=y::l:=List.attach_map_subtype_val _;have hl:(y::l).attach.length=(y::l).length:=List.length_attach;rw [Bool.and_eq_true] at m;obtain ⟨m,d⟩:=m;have d:∀x∈y::l,ok x=true:=Al.1 d;have:=sort_run (cb:=#[]) L o aE zE cf (α:={x:t.T // x∈y::l}) Subtype.val ⟨λu=>hO.irrefl ⟨u.1,d _ u.2⟩,λu v z=>hO.trans ⟨u.1,d _ u.2⟩ ⟨v.1,d _ v.2⟩ ⟨z.1,d _ z.2⟩,λu v z=>hO.ntrans ⟨u.1,d _ u.2⟩ ⟨v.1,d _ v.2⟩ ⟨z.1,d _ z.2⟩⟩ (λu v h1 Z=>by have:=Al.1 (Al.1 m u.1 u.2) v.1 v.2;rw [h1,Z] at this;exact Subtype.ext (J _ _ (by simpa using this))) (y::l).attach (by rw [hl];exact F) (cap:=cap) (λargs w=>Qb (f:=g) R.fn args w) (Jtp o R cf K _ w b off _) Y (by rw [hl];exact B) (by rw [O];exact h)
    rw [O,hl,a] at this;exact this
  ·cases a
 ·refine (AnyF.slices_SortFunc_none L A 0 (.func (.func g) #[] #[]) w).mono λe w' ⟨N,M⟩=>⟨N,?_⟩;subst M;exact ⟨rfl,rfl,⟨rfl,Ag _⟩,Ag _,λ_ _=>rfl⟩
 ·refine (AnyF.slices_SortFunc_none L none 0 (.func (.func g) #[] #[]) w).mono λe w' ⟨N,M⟩=>⟨N,?_⟩;subst M;exact ⟨rfl,rfl,⟨rfl,Ag _⟩,Ag _,λ_ _=>rfl⟩
def Ja4{α:Type}(ok:α->Bool)(l:List α)(h:l.all ok=true):List {x:α // ok x=true}:=l.pmap Subtype.mk (Al.1 h)
theorem jp{α:Type}{ok:α->Bool}{l:List α}(h:l.all ok=true):(Ja4 ok l h).map Subtype.val=l:=by unfold Ja4;rw [List.map_pmap];exact List.pmap_eq_map .. |>.trans (List.map_id _)
noncomputable def Jgz{t:Ty}(cf:t.T->t.T->Int)(ok:t.T->Bool)(eq:t.T->t.T->Bool)(d0:{x:t.T // ok x=true})(l:List t.T):Option (List t.T):=
 if List.length (α:=t.T) l<4611686018427387904 then
  if (Jty (α:=t.T) (Go.Proofs.ltOf cf) eq l&&Bc (α:=t.T) l ok)=true then some (Ja0 (α:=t.T) (λx y=>!(Go.Proofs.ltOf cf) y x) l)
  else if h:l.all ok=true then some ((haveI:Inhabited {x:t.T // ok x=true}:=⟨d0⟩;pdqL (Go.Proofs.ltOf λx y:{x:t.T // ok x=true}=>cf x.1 y.1) (Ja4 ok l h)).map Subtype.val) else none
 else none
open Go.Proofs Go.Shelf in
theorem Jxd{P:Program}{ρ:Ren}(L:SlLaysF0.n6 P ρ){t:Ty}(H:t.flat=true)(aE:∀w,(isAgg (ρ.t 24)).run P w=.ok true w)(zE:∀w,(Go.sizeOf (ρ.t 24)).run P w=.ok t.sz w)
  {g:Nat} {fn:t.T×t.T->Option Int} (N:Good P ⟨g,[(.ag,t),(.ag,t)],[(false,I)],fn⟩) (cf:t.T->t.T->Int) (E:∀x y:t.T,fn (x,y)=some (cf x y)) (ok:t.T->Bool) (hO:Go.Sort.SWO (ltOf λx y:{x:t.T // ok x=true}=>cf x.1 y.1)) (eq:t.T->t.T->Bool) (M:∀x y,eq x y=true->x=y) (d0:{x:t.T // ok x=true}) (v:ρ.f 6<yB) (B:FnOK P (ρ.f 6)) :
  SGood P ⟨ρ.f 6,g,true,t,Jgz cf ok eq d0⟩:=by
 have a:=Jv7 L H aE zE N cf E ok hO eq M v B
 letI:Inhabited {x:t.T // ok x=true}:=⟨d0⟩
 have red:∀l r,Jgz cf ok eq d0 l=some r->(if List.length (α:=t.T) l<4611686018427387904/\(Jty (α:=t.T) (ltOf cf) eq l&&Bc (α:=t.T) l ok)=true then some (Ja0 (α:=t.T) (λx y=>!(ltOf cf) y x) l) else none)=some r \/
   (List.length (α:=t.T) l<4611686018427387904/\∃h:l.all ok=true,r=(pdqL (ltOf λx y:{x:t.T // ok x=true}=>cf x.1 y.1) (Ja4 ok l h)).map Subtype.val):=λl r h=>by
  unfold Jgz at h;split at h
  ·rename_i G;split at h
   ·rename_i m;left;rw [if_pos ⟨G,m⟩];exact h
   ·split at h
    ·rename_i R;injection h with h;exact .inr ⟨G,R,h.symm⟩
    ·cases h
  ·cases h
 refine ⟨B,v,H,λl r J=>?_,λl r J K w b off cap cs el Q o F d=>?_,λr J w A=>?_,a.nilq⟩
 ·rcases red l r J with h|⟨G,m,rfl⟩
  ·exact a.len l r h
  ·have e:=congrArg List.length (jp m);rw [Ah] at e;rw [Ah,(Jbm hO _).length_eq,e]
 ·rcases red l r J with h|⟨G,m,rfl⟩
  ·exact a.run l r h K w b off cap cs el Q o F d
  ·have O:=jp m;have hl:(Ja4 ok l m).length=l.length:=by have e:=congrArg List.length O;rwa [Ah] at e
   have:=Jcp (cb:=#[]) L H aE zE cf (α:={x:t.T // ok x=true}) Subtype.val hO (Ja4 ok l m) (by rw [hl];exact G) (cap:=cap) (λargs w=>Qb (f:=g) N.fn args w) (Jtp H N cf E _ w b off _) Q (by rw [hl];exact o) (by rw [O];exact d);rw [hl] at this;exact this
 ·refine (AnyF.slices_SortFunc_none L A 0 (.func (.func g) #[] #[]) w).mono λe w' ⟨Y,X⟩=>⟨Y,?_⟩;subst X;exact ⟨rfl,rfl,⟨rfl,Ag _⟩,Ag _,λ_ _=>rfl⟩
theorem Jq0{t:Ty}{cf:t.T->t.T->Int}{ok:t.T->Bool}(hO:Go.Sort.SWO (Go.Proofs.ltOf λx y:{x:t.T // ok x=true}=>cf x.1 y.1)){eq:t.T->t.T->Bool}{d0:{x:t.T // ok x=true}}{l:List t.T}(hl:l.length<4611686018427387904)(f:∀x∈l,ok x=true) :
  ∃r,Jgz cf ok eq d0 l=some r/\r.Perm l/\r.Pairwise λa b=>Go.Proofs.ltOf cf b a=false:=by
 have d:l.all ok=true:=Al.2 f;unfold Jgz;rw [if_pos hl];by_cases m:(Jty (α:=t.T) (Go.Proofs.ltOf cf) eq l&&Bc (α:=t.T) l ok)=true
 ·rw [if_pos m];refine ⟨_,rfl,jq l,?_⟩;have o:=jp d;have e:=Jjx (α:={x:t.T // ok x=true}) Subtype.val (λx y=>!(Go.Proofs.ltOf cf) y x) (Ja4 ok l d);rw [o] at e;rw [<-e,List.pairwise_map];refine (Jhz (le:=λx y:{x:t.T // ok x=true}=>!(Go.Proofs.ltOf cf) y.1 x.1) (λx y z v g=>?_) (λx y=>?_) _).imp λ{a b} h=>?_
  ·simp only [Aa] at *
   exact hO.ntrans z y x g v
  ·simp only [Aa];cases h:Go.Proofs.ltOf cf y.1 x.1 with
   | false=>exact .inl rfl
   | true=>
    cases g:Go.Proofs.ltOf cf x.1 y.1 with
    | false=>exact .inr rfl
    | true=>exact absurd (hO.trans x y x g h) (by rw [hO.irrefl];exact Am)
  ·simp only [Aa] at h;exact h
 ·rw [if_neg m,dif_pos d]
  letI:Inhabited {x:t.T // ok x=true}:=⟨d0⟩
  refine ⟨_,rfl,?_,?_⟩
  ·have:=(Jbm hO (Ja4 ok l d)).map Subtype.val;rwa [jp d] at this
  ·rw [List.pairwise_map];exact (pdqL_pw hO (Ja4 ok l d)).imp λh=>h
end Go.Dn
