/- Sorting by a function that parts any two. Conditions: as the library's contract of slices.SortFunc asks. -/
import Derived.Test.YtmfagdfkpjgeiaaGreatFD
import Derived.Shelf.SlSortCmp.NoneTotal
set_option linter.unusedVariables false
set_option linter.unusedSimpArgs false
namespace Go.Dn
open Go Go.Vv
open Bool renaming not_eq_true' -> Aa, false_ne_true -> Ao
open _root_.Array renaming getElem?_eq_getElem -> Ab, getD_eq_getD_getElem? -> Ad, getElem?_append_left -> Ae, getElem?_modify -> Ak, extract_eq_self_of_le -> Ap, getElem?_eq_some_iff -> Ar, getElem?_mapIdx -> Ax, append_empty -> Ba
open List renaming getElem?_eq_getElem -> Ac, getElem!_eq_getElem?_getD -> Af, length_map -> Ah, getElem?_eq_some_iff -> Ai, pairwise_cons -> Aj, all_eq_true -> Am, mem_cons_self -> Aq, getElem?_map -> As, mem_cons -> Au, getElem?_cons_zero -> Av, getElem!_toArray -> Aw, mem_of_getElem? -> Ay, map_cons -> Az, all -> Bd
open Nat renaming le_refl -> Ag
open Option renaming isSome_none -> Bb
open Option.some renaming injEq -> Bc
theorem Jyh{w w':World}(o:Old w w'):∃q os',w'=Go.Sort.grow (w.drewN q) os':=by
 refine ⟨w'.drawn - w.drawn,w'.heap.extract w.heap.size w'.heap.size,?_⟩;obtain ⟨h,g,⟨f,l⟩,m,d⟩:=o;obtain ⟨heap,tape,drawn,os,output⟩:=w;obtain ⟨a,tape',drawn',os',output'⟩:=w';simp only at h g f m d l;subst h;subst g;subst f;simp only [Go.Sort.grow,World.drewN,World.mk.injEq,true_and,and_true];refine ⟨?_,by omega⟩;apply Array.ext_getElem?;intro i;by_cases hi:i<heap.size
 ·rw [d i hi,Ae hi]
 ·rw [Array.getElem?_append_right (by omega),Array.getElem?_extract];split
  ·rw [show heap.size+(i - heap.size)=i by omega]
  ·rw [Array.getElem?_eq_none (by omega)]
def encv{t:Ty}(x:t.T):List Value:=(t.cs x).map vOf
theorem Jyl{t:Ty}(x:t.T):(encv x).length=t.sz:=by simp [encv,zg]
theorem J5v{t:Ty}{l:List t.T}{j:Nat}(f:j<l.length * t.sz):∃e,l[j / t.sz]?=some e/\(l.flatMap t.cs)[j]?=(t.cs e)[j % t.sz]?:=by
 have d:0<t.sz:=by
  cases h:t.sz with
  | zero=>rw [h] at f;omega
  | succ n=>omega
 have a:j / t.sz<l.length:=(Nat.div_lt_iff_lt_mul d).2 f;refine ⟨l[j / t.sz],Ac a,?_⟩;have e:=Je0 (l:=l) (i:=j / t.sz) (Ac a);rw [<-e];have g:j % t.sz<t.sz:=Nat.mod_lt _ d;have hd:j / t.sz * t.sz+j % t.sz=j:=Nat.div_add_mod' j t.sz;simp only [Vv.cut];rw [List.getElem?_take_of_lt g,List.getElem?_drop,hd]
theorem J0l{t:Ty}[Inhabited t.T]{l:List t.T}{i:Nat}{v:AV}(a:(l.flatMap t.cs)[i]?=some v):i<(Go.Sort.flatK encv t.sz l.toArray).size/\(Go.Sort.flatK encv t.sz l.toArray)[i]! = vOf v:=by
 have hi:i<l.length * t.sz:=by rw [<-J0];exact (Ai.1 a).1
 obtain ⟨e,f,d⟩:=J5v hi;refine ⟨by simpa using hi,?_⟩;rw [Go.Sort.get_flatK encv t.sz l.toArray i (by simpa using hi)];have g:l.toArray[i / t.sz]! = e:=by rw [Aw,Af,f];rfl
 rw [g];rw [a] at d;simp only [encv];rw [Af,As,<-d];rfl
section
variable {α:Type} {le:α->α->Bool}
def insS(le:α->α->Bool)(x:α):List α->List α
 | []=>[x]
 | y::r=>match le x y with|true=>x::y::r|false=>y::insS le x r
def Jbv(le:α->α->Bool):List α->List α
 | []=>[]
 | x::r=>insS le x (Jbv le r)
theorem Jmb(x:α):∀l:List α,(insS le x l).Perm (x::l)
 | []=>.refl _
 | y::r=>by
  simp only [insS];split
  ·exact .refl _
  ·exact ((Jmb x r).cons y).trans (.swap x y r)
theorem Y9:∀l:List α,(Jbv le l).Perm l
 | []=>.refl _
 | x::r=>(Jmb x _).trans ((Y9 r).cons x)
theorem J2x(tr:∀x y z,le x y=true->le y z=true->le x z=true)(tot:∀x y,le x y=true\/le y x=true)(x:α):∀ {l:List α},l.Pairwise (λa b=>le a b=true)->(insS le x l).Pairwise λa b=>le a b=true
 | [],_=>List.pairwise_singleton _ _
 | y::r,h=>by
  obtain ⟨g,m⟩:=Aj.1 h;simp only [insS];split
  ·rename_i hx;exact Aj.2 ⟨λz d=>by
    rcases Au.1 d with rfl|d
    ·exact hx
    ·exact tr _ _ _ hx (g z d),h⟩
  ·rename_i hx;have f:le y x=true:=(tot x y).resolve_left (by rw [hx];exact Ao);exact Aj.2 ⟨λz d=>by
    rcases Au.1 ((Jmb x r).mem_iff.1 d) with rfl|d
    ·exact f
    ·exact g z d,J2x tr tot x m⟩
theorem Ji3(tr:∀x y z,le x y=true->le y z=true->le x z=true)(tot:∀x y,le x y=true\/le y x=true):∀l:List α,(Jbv le l).Pairwise λa b=>le a b=true
 | []=>.nil
 | x::r=>J2x tr tot x (Ji3 tr tot r)
theorem J6r(anti:∀x y,le x y=true->le y x=true->x=y):∀ {a b:List α},a.Perm b->a.Pairwise (λa b=>le a b=true)->b.Pairwise (λa b=>le a b=true)->a=b
 | [],b,h,_,_=>by rw [h.nil_eq]
 | x::a,[],h,_,_=>by have:=h.length_eq;simp at this
 | x::a,y::b,h,r,o=>by
  obtain ⟨l,g⟩:=Aj.1 r;obtain ⟨f,d⟩:=Aj.1 o;have e:x=y:=by
   rcases Au.1 (h.mem_iff.1 (Aq:x∈x::a)) with e|hx
   ·exact e
   ·rcases Au.1 (h.mem_iff.2 (Aq:y∈y::b)) with e|m
    ·exact e.symm
    ·exact anti x y (l y m) (f x hx)
  subst e;rw [J6r anti (List.perm_cons x |>.1 h) g d]
theorem Jhn(tr:∀x y z,le x y=true->le y z=true->le x z=true)(tot:∀x y,le x y=true\/le y x=true)(anti:∀x y,le x y=true->le y x=true->x=y)(l:List α):l.mergeSort le=Jbv le l:=
 J6r anti ((List.mergeSort_perm l le).trans (Y9 l).symm) (List.pairwise_mergeSort tr (λa b=>by simpa using tot a b) l) (Ji3 tr tot l)
end
theorem J4c{P:Program}{t:Ty}(f:t.flat=true){g:Nat}{fn:t.T×t.T->Option Int}(v:Good P ⟨g,[(.ag,t),(.ag,t)],[(false,I)],fn⟩)(cf:t.T->t.T->Int)(d:∀x y:t.T,fn (x,y)=some (cf x y))(W:World)(x y:t.T) :
  Calls P g #[.agg (encv x).toArray,.agg (encv y).toArray] W λe w'=>e=.returned (.int .i64 (cf x y))/\Old W w':=by
 have a:∀(x:t.T),RepP W (λ_=>False) (.agg (t.cs x)) (.agg (encv x).toArray):=λx=>by
  have at':∀(i:Nat) (z:AV),(t.cs x)[i]?=some z->(encv x).toArray.getD i undef=vOf z:=λi z hi=>by simp [encv,Ad,hi]
  refine .agg _ _ (by simp [encv]) (λi z hi=>?_) (λi z hi=>?_)
  ·rw [at' i z hi];exact (Jtk (w:=W) (S:=λ_=>False) (Jdq f x z (Ay hi))).2
  ·rw [at' i z hi];exact (Jtk (Jdq f x z (Ay hi))).1
 have l:=v.run (show t.T×t.T from (x,y)) (show Int from cf x y) (d x y) W (λ_=>False) #[.agg (encv x).toArray,.agg (encv y).toArray] (λb h=>h.elim);have hA:Jb3 [(AK.ag,t),(AK.ag,t)] (show t.T×t.T from (x,y))=[.agg (t.cs x),.agg (t.cs y)]:=rfl;simp only [hA] at l;refine (l rfl λi z hi=>?_).mono λe w' ⟨cv,B,r,o⟩=>?_
 ·cases i with
  | zero=>simp only [Av,Bc] at hi;subst hi;exact a x
  | succ i=>cases i with
   | zero=>simp only [List.getElem?_cons_succ,Av,Bc] at hi;subst hi;exact a y
   | succ i=>simp at hi
 ·have m:RepP w' (Jap (λ_=>False) W w') (.int .i64 (cf x y)) cv:=r;have A:cv=.int .i64 (cf x y):=by cases m;rfl
  exact ⟨by rw [B,A],o⟩
open Go.Proofs Go.Shelf in
theorem J31{P:Program}{ρ:Ren}(L:SlLaysF0.n6 P ρ){t:Ty}[Inhabited t.T](X:t.flat=true)(hz:0<t.sz)(aE:∀w,(isAgg (ρ.t 24)).run P w=.ok true w)(zE:∀w,(Go.sizeOf (ρ.t 24)).run P w=.ok t.sz w)
  {g:Nat} {fn:t.T×t.T->Option Int} (hc:Good P ⟨g,[(.ag,t),(.ag,t)],[(false,I)],fn⟩) (cf:t.T->t.T->Int) (hcf:∀x y:t.T,fn (x,y)=some (cf x y))
  (hO:Go.Sort.SWO (ltOf cf)) (hT:∀x y,(ltOf cf) x y=false->(ltOf cf) y x=false->x=y) (hid:ρ.f 6<yB) (hfk:FnOK P (ρ.f 6)) :
  Je9 P ⟨ρ.f 6,g,true,t,λl=>if List.length (α:=t.T) l<4611686018427387904 then some (Jbv (α:=t.T) (λx y=>!(ltOf cf) y x) l) else none⟩:=by
 have em:∀l:List t.T,l.mergeSort (λx y=>!(ltOf cf) y x)=Jbv (λx y=>!(ltOf cf) y x) l:=Jhn (λx y z Q O=>by
  simp only [Aa] at *
  exact hO.ntrans z y x O Q) (λx y=>by
  simp only [Aa];cases h:ltOf cf y x with
  | false=>exact .inl rfl
  | true=>
   cases O:ltOf cf x y with
   | false=>exact .inr rfl
   | true=>exact absurd (hO.trans x y x O h) (by rw [hO.irrefl];exact Ao)) (λx y Q O=>by
  simp only [Aa] at *
  exact hT x y O Q)
 have scl:∀(x:t.T),∀y∈t.cs x,Scl y:=λx=>Jdq X x;have Q:∀x:t.T,∀v∈encv x,v.oneCell'=true:=λx v R=>by obtain ⟨y,hy,rfl⟩:=List.mem_map.1 R;rcases scl x y hy with ⟨b,rfl⟩|⟨k,n,rfl⟩|⟨z,rfl⟩<;>rfl
 have eg:∀args w,(callFunc g args).run P w=.ok (.enter g args) w:=λargs w=>K7 (f:=g) hc.fn args w;have cmp:∀(w:World) (blk off size:Nat),CmpLays P g #[] encv t.sz cf blk off size w:=λw blk off size m os dk hdk x y=>by rw [Ba];exact (J4c X hc cf hcf _ x y).mono λe w' ⟨B,o⟩=>⟨B,Jyh o⟩
 refine ⟨hfk,hid,X,λl r hr=>?_,λl r hr hne w b off cap cs el N J hcap K=>?_,λr hr w A=>?_,λw=>?_⟩
 ·simp only at hr;split at hr
  ·injection hr with hr;rw [<-hr];exact (Y9 l).length_eq
  ·cases hr
 ·simp only at hr;split at hr
  ·rename_i Y;injection hr with hr;have J:off+List.length (α:=t.T) l * t.sz<=cs.size:=J;have hH:Go.Sort.HoldsK encv t.sz w b off l.toArray:=λj hj=>by
    have G:j<(l.flatMap t.cs).length:=by rw [J0];simpa using hj
    obtain ⟨-,B⟩:=J0l (Ac G);have H:=K j _ (Ac G);rw [B];have a:off+j<cs.size:=by rw [J0] at G;omega
    refine ⟨?_,?_⟩
    ·simp only [World.cell?,N];rw [Ad,Ab a] at H;simp only [Bb,Bool.false_eq_true,if_false];rw [Ab a];exact congrArg some H
    ·simp [World.frozen?,N]
   have F:b<w.heap.size:=(Ar.1 N).1;have E:=AnyQ.slices_SortFunc_total L t.sz aE zE encv Jyl Q cf hO g #[] b off cap l.toArray w eg (cmp w b off l.toArray.size) hH F (by simpa using Y) hT;rw [show l.toArray.size=l.length from rfl] at E;refine E.mono λe w' ⟨B,n,os,hw⟩=>⟨B,?_⟩;subst hw;rw [em,hr];have M:r.length=l.length:=by rw [<-hr];exact (Y9 l).length_eq
   refine ⟨rfl,rfl,⟨rfl,Nat.le_add_right _ _⟩,?_,λk hk Z=>?_,λel' d=>?_⟩
   ·show w.heap.size<=((w.heap.modify b _)++os).size;simp
   ·show ((w.heap.modify b _)++os)[k]?=_;rw [Ae (by simpa using hk),Ak,if_neg (λq=>Z q.symm)]
   ·have hel:el'=el:=by rw [N] at d;injection d with d;injection d with _ q;exact q.symm
    subst hel;refine ⟨Go.Sort.putCells id off (Go.Sort.flatK encv t.sz r.toArray) cs,?_,by simp [Go.Sort.putCells],λi v R=>?_⟩
    ·show ((w.heap.modify b _)++os)[b]?=_;rw [Ae (by simpa using F),Ak,if_pos rfl,N];rfl
    ·obtain ⟨q1,q2⟩:=J0l (t:=t) (l:=r) R;have hi:i<r.length * t.sz:=by rw [<-J0];exact (Ai.1 R).1
     have a:off+i<cs.size:=by rw [M] at hi;omega
     rw [Ad];simp only [Go.Sort.putCells,Ax];rw [Ab a];simp only [Option.map_some,Option.getD_some];rw [if_pos ⟨by omega,by omega⟩,show off+i - off=i by omega];exact q2
  ·cases hr
 ·refine (AnyF.slices_SortFunc_none L A 0 (.func (.func g) #[] #[]) w).mono λe w' ⟨B,H⟩=>⟨B,?_⟩;subst H;exact ⟨rfl,rfl,⟨rfl,Ag _⟩,Ag _,λ_ _=>rfl⟩
 ·refine (AnyF.slices_SortFunc_none L none 0 (.func (.func g) #[] #[]) w).mono λe w' ⟨B,H⟩=>⟨B,?_⟩;subst H;exact ⟨rfl,rfl,⟨rfl,Ag _⟩,Ag _,λ_ _=>rfl⟩
theorem Jyd{α β:Type}(val:α->β)(le:β->β->Bool)(x:α):∀l:List α,(insS (λa b=>le (val a) (val b)) x l).map val=insS le (val x) (l.map val)
 | []=>rfl
 | y::r=>by
  simp only [insS,Az];cases h:le (val x) (val y) with
  | true=>rfl
  | false=>simp only [Az,Jyd val le x r]
theorem Jm6{α β:Type}(val:α->β)(le:β->β->Bool):∀l:List α,(Jbv (λa b=>le (val a) (val b)) l).map val=Jbv le (l.map val)
 | []=>rfl
 | x::r=>by simp only [Jbv,Az,Jyd,Jm6 val le r]
theorem Jva{α:Type}[Inhabited α]{t:Ty}(val:α->t.T){l:List α}{i:Nat}{v:AV}(f:((l.map val).flatMap t.cs)[i]?=some v) :
  i<(Go.Sort.flatK (λx=>encv (val x)) t.sz l.toArray).size/\(Go.Sort.flatK (λx=>encv (val x)) t.sz l.toArray)[i]! = vOf v:=by
 have hi:i<(l.map val).length * t.sz:=by rw [<-J0];exact (Ai.1 f).1
 obtain ⟨e,a,g⟩:=J5v hi;rw [Ah] at hi;refine ⟨by simpa using hi,?_⟩;rw [Go.Sort.get_flatK _ t.sz l.toArray i (by simpa using hi)];rw [As] at a;cases d:l[i / t.sz]? with
 | none=>rw [d] at a;cases a
 | some u=>
  rw [d] at a;injection a with a;have h:l.toArray[i / t.sz]! = u:=by rw [Aw,Af,d];rfl
  rw [h,a];rw [f] at g;simp only [encv];rw [Af,As,<-g];rfl
noncomputable def pdqL{α:Type}[Inhabited α](lt:α->α->Bool)(l:List α):List α:=(Go.Sort.pdq lt l.toArray 0 l.length (Go.Lib.bitLen l.length) true true).toList
theorem Jg2{α:Type}[Inhabited α]{lt:α->α->Bool}(hO:Go.Sort.SWO lt)(l:List α):Go.Sort.PermIn 0 l.length l.toArray (Go.Sort.pdq lt l.toArray 0 l.length (Go.Lib.bitLen l.length) true true)/\Go.Sort.SortedIn lt 0 l.length (Go.Sort.pdq lt l.toArray 0 l.length (Go.Lib.bitLen l.length) true true):=
 Go.Sort.pdq_sorts lt hO l.toArray 0 l.length (Go.Lib.bitLen l.length) true true (Nat.zero_le _) (Ag _) (Or.inl rfl)
theorem Jjh{α:Type}[Inhabited α]{lt:α->α->Bool}(hO:Go.Sort.SWO lt)(l:List α):(pdqL lt l).Perm l:=by
 obtain ⟨d,-,a⟩:=(Jg2 hO l).1;have g:(Go.Sort.pdq lt l.toArray 0 l.length (Go.Lib.bitLen l.length) true true).extract 0 l.length=Go.Sort.pdq lt l.toArray 0 l.length (Go.Lib.bitLen l.length) true true:=by apply Ap;rw [d];simp
 have f:l.toArray.extract 0 l.length=l.toArray:=by apply Ap;simp
 rw [g,f] at a;exact a
theorem pdqL_pw{α:Type}[Inhabited α]{lt:α->α->Bool}(hO:Go.Sort.SWO lt)(l:List α):(pdqL lt l).Pairwise λa b=>lt b a=false:=by
 have hl:=(Jjh hO l).length_eq;have h:=(Jg2 hO l).2;rw [List.pairwise_iff_getElem];intro i j hi m f;have:=h i j (Nat.zero_le _) f (by omega);have e:∀k (g:k<(pdqL lt l).length),(Go.Sort.pdq lt l.toArray 0 l.length (Go.Lib.bitLen l.length) true true)[k]! = (pdqL lt l)[k]:=λk g=>by have d:k<(Go.Sort.pdq lt l.toArray 0 l.length (Go.Lib.bitLen l.length) true true).size:=g;rw [getElem!_pos _ k d];rfl
 rw [e j m,e i hi] at this;exact this
open Go.Proofs Go.Shelf in
theorem Jkx{P:Program}{ρ:Ren}(L:SlLaysF0.n6 P ρ){t:Ty}(Q:t.flat=true)(aE:∀w,(isAgg (ρ.t 24)).run P w=.ok true w)(zE:∀w,(Go.sizeOf (ρ.t 24)).run P w=.ok t.sz w)
  {g:Nat} {fn:t.T×t.T->Option Int} (R:Good P ⟨g,[(.ag,t),(.ag,t)],[(false,I)],fn⟩) (cf:t.T->t.T->Int) (O:∀x y:t.T,fn (x,y)=some (cf x y))
  {α:Type} [Inhabited α] (val:α->t.T) (hO:Go.Sort.SWO (ltOf λx y:α=>cf (val x) (val y))) (l:List α) (K:l.length<4611686018427387904)
  {w:World} {b off cap:Nat} {cs:Array Value} {el:TypeId} (G:w.heap[b]?=some (.cells cs el (0,0))) (hsz:off+l.length * t.sz<=cs.size) (F:∀(i:Nat) (v:AV),((l.map val).flatMap t.cs)[i]?=some v->cs.getD (off+i) undef=vOf v) :
  Calls P (ρ.f 6) #[.slice (some ⟨b,off,none⟩) l.length cap,.func (.func g) #[] #[]] w λe w'=>e=.returned (.tuple #[])/\J3c w w' b off (l.length * t.sz) cs (((pdqL (ltOf λx y:α=>cf (val x) (val y)) l).map val).flatMap t.cs):=by
 have h1:∀x:α,∀v∈encv (val x),v.oneCell'=true:=λx v J=>by obtain ⟨y,Z,rfl⟩:=List.mem_map.1 J;rcases Jdq Q (val x) y Z with ⟨b,rfl⟩|⟨k,n,rfl⟩|⟨z,rfl⟩<;>rfl
 have eg:∀args w,(callFunc g args).run P w=.ok (.enter g args) w:=λargs w=>K7 (f:=g) R.fn args w;have hO1:∀x y:α,(ltOf λx y:α=>cf (val x) (val y)) x y=ltOf cf (val x) (val y):=λx y=>rfl;have cmp:CmpLays P g #[] (λx:α=>encv (val x)) t.sz (λx y=>cf (val x) (val y)) b off l.toArray.size w:=λm os dk hdk x y=>by rw [Ba];exact (J4c Q R cf O _ (val x) (val y)).mono λe w' ⟨H,o⟩=>⟨H,Jyh o⟩
 have hH:Go.Sort.HoldsK (λx:α=>encv (val x)) t.sz w b off l.toArray:=λj hj=>by
  have E:j<((l.map val).flatMap t.cs).length:=by rw [J0,Ah];simpa using hj
  obtain ⟨-,H⟩:=Jva val (Ac E);have X:=F j _ (Ac E);rw [H];have a:off+j<cs.size:=by rw [J0,Ah] at E;omega
  refine ⟨?_,?_⟩
  ·simp only [World.cell?,G];rw [Ad,Ab a] at X;simp only [Bb,Bool.false_eq_true,if_false];rw [Ab a];exact congrArg some X
  ·simp [World.frozen?,G]
 have B:b<w.heap.size:=(Ar.1 G).1;have h:=AnyQ.slices_SortFunc_eq L t.sz aE zE (λx:α=>encv (val x)) (λx=>Jyl (val x)) h1 (λx y=>cf (val x) (val y)) hO g #[] b off cap l.toArray w eg cmp hH B (by simpa using K);rw [show l.toArray.size=l.length from rfl] at h;refine h.mono λe w' ⟨H,n,os,hw⟩=>⟨H,?_⟩;subst hw;have A:(pdqL (ltOf λx y:α=>cf (val x) (val y)) l).length=l.length:=(Jjh hO l).length_eq;have er:Go.Sort.pdq (ltOf λx y:α=>cf (val x) (val y)) l.toArray 0 l.length (Go.Lib.bitLen l.length) true true=(pdqL (ltOf λx y:α=>cf (val x) (val y)) l).toArray:=rfl;rw [er];generalize hr:pdqL (ltOf λx y:α=>cf (val x) (val y)) l=r at A;refine ⟨rfl,rfl,⟨rfl,Nat.le_add_right _ _⟩,?_,λk hk M=>?_,λel' d=>?_⟩
 ·show w.heap.size<=((w.heap.modify b _)++os).size;simp
 ·show ((w.heap.modify b _)++os)[k]?=_;rw [Ae (by simpa using hk),Ak,if_neg (λq=>M q.symm)]
 ·have N:el'=el:=by rw [G] at d;injection d with d;injection d with _ q;exact q.symm
  subst N;refine ⟨Go.Sort.putCells id off (Go.Sort.flatK (λx:α=>encv (val x)) t.sz r.toArray) cs,?_,by simp [Go.Sort.putCells],λi v J=>?_⟩
  ·show ((w.heap.modify b _)++os)[b]?=_;rw [Ae (by simpa using B),Ak,if_pos rfl,G];rfl
  ·obtain ⟨q1,Y⟩:=Jva val J;have hi:i<r.length * t.sz:=by have:=(Ai.1 J).1;rw [J0,Ah] at this;exact this
   have a:off+i<cs.size:=by rw [A] at hi;omega
   rw [Ad];simp only [Go.Sort.putCells,Ax];rw [Ab a];simp only [Option.map_some,Option.getD_some];rw [if_pos ⟨by omega,by omega⟩,show off+i - off=i by omega];exact Y
open Go.Proofs Go.Shelf in
theorem sort_run{P:Program}{ρ:Ren}(L:SlLaysF0.n6 P ρ){t:Ty}(B:t.flat=true)(aE:∀w,(isAgg (ρ.t 24)).run P w=.ok true w)(zE:∀w,(Go.sizeOf (ρ.t 24)).run P w=.ok t.sz w)
  {g:Nat} {fn:t.T×t.T->Option Int} (E:Good P ⟨g,[(.ag,t),(.ag,t)],[(false,I)],fn⟩) (cf:t.T->t.T->Int) (o:∀x y:t.T,fn (x,y)=some (cf x y))
  {α:Type} [Inhabited α] (val:α->t.T) (hO:Go.Sort.SWO (ltOf λx y:α=>cf (val x) (val y))) (hT:∀x y:α,(ltOf cf) (val x) (val y)=false->(ltOf cf) (val y) (val x)=false->x=y) (l:List α) (m:l.length<4611686018427387904)
  {w:World} {b off cap:Nat} {cs:Array Value} {el:TypeId} (F:w.heap[b]?=some (.cells cs el (0,0))) (f:off+l.length * t.sz<=cs.size) (a:∀(i:Nat) (v:AV),((l.map val).flatMap t.cs)[i]?=some v->cs.getD (off+i) undef=vOf v) :
  Calls P (ρ.f 6) #[.slice (some ⟨b,off,none⟩) l.length cap,.func (.func g) #[] #[]] w λe w'=>e=.returned (.tuple #[])/\J3c w w' b off (l.length * t.sz) cs ((Jbv (λx y=>!(ltOf cf) y x) (l.map val)).flatMap t.cs):=by
 have em:l.mergeSort (λx y=>!(ltOf cf) (val y) (val x))=Jbv (λx y=>!(ltOf cf) (val y) (val x)) l:=Jhn (λx y z r d=>by
  simp only [Aa] at *
  exact hO.ntrans z y x d r) (λx y=>by
  simp only [Aa];cases h:ltOf cf (val y) (val x) with
  | false=>exact .inl rfl
  | true=>
   cases d:ltOf cf (val x) (val y) with
   | false=>exact .inr rfl
   | true=>exact absurd (hO.trans x y x d h) (by rw [hO.irrefl];exact Ao)) (λx y r d=>by
  simp only [Aa] at *
  exact hT x y d r) l
 have A:=Jkx L B aE zE E cf o val hO l m (cap:=cap) F f a;have G:pdqL (ltOf λx y:α=>cf (val x) (val y)) l=Jbv (λx y=>!(ltOf cf) (val y) (val x)) l:=by rw [<-em];exact Go.Sort.sorted_unique_holds hO hT l.toArray _ (Jg2 hO l).1 (Jg2 hO l).2
 rw [G,Jm6 val (λx y=>!(ltOf cf) y x) l] at A;exact A
def J0s{α:Type}(lt eq:α->α->Bool)(l:List α):Bool:=l.all λx=>l.all λy=>lt x y || lt y x || eq x y
open Go.Proofs Go.Shelf in
theorem J1b{P:Program}{ρ:Ren}(L:SlLaysF0.n6 P ρ){t:Ty}(K:t.flat=true)(aE:∀w,(isAgg (ρ.t 24)).run P w=.ok true w)(zE:∀w,(Go.sizeOf (ρ.t 24)).run P w=.ok t.sz w)
  {g:Nat} {fn:t.T×t.T->Option Int} (Q:Good P ⟨g,[(.ag,t),(.ag,t)],[(false,I)],fn⟩) (cf:t.T->t.T->Int) (G:∀x y:t.T,fn (x,y)=some (cf x y)) (ok:t.T->Bool) (hO:Go.Sort.SWO (ltOf λx y:{x:t.T // ok x=true}=>cf x.1 y.1)) (eq:t.T->t.T->Bool) (F:∀x y,eq x y=true->x=y) (B:ρ.f 6<yB) (E:FnOK P (ρ.f 6)) :
  Je9 P ⟨ρ.f 6,g,true,t,λl=>if List.length (α:=t.T) l<4611686018427387904/\(J0s (α:=t.T) (ltOf cf) eq l&&Bd (α:=t.T) l ok)=true then some (Jbv (α:=t.T) (λx y=>!(ltOf cf) y x) l) else none⟩:=by
 refine ⟨E,B,K,λl r hr=>?_,λl r hr m w b off cap cs el R h N d=>?_,λr hr w A=>?_,λw=>?_⟩
 ·simp only at hr;split at hr
  ·injection hr with hr;rw [<-hr];exact (Y9 l).length_eq
  ·cases hr
 ·simp only at hr;split at hr
  ·rename_i O;injection hr with hr;obtain ⟨o,f⟩:=O;cases l with
   | nil=>exact (m rfl).elim
   | cons y l=>
    haveI:Inhabited {x:t.T // x∈y::l}:=⟨⟨y,Aq⟩⟩
    have M:(y::l).attach.map Subtype.val=y::l:=List.attach_map_subtype_val _;have hl:(y::l).attach.length=(y::l).length:=List.length_attach;rw [Bool.and_eq_true] at f;obtain ⟨f,a⟩:=f;have a:∀x∈y::l,ok x=true:=Am.1 a;have:=sort_run L K aE zE Q cf G (α:={x:t.T // x∈y::l}) Subtype.val ⟨λu=>hO.irrefl ⟨u.1,a _ u.2⟩,λu v z=>hO.trans ⟨u.1,a _ u.2⟩ ⟨v.1,a _ v.2⟩ ⟨z.1,a _ z.2⟩,λu v z=>hO.ntrans ⟨u.1,a _ u.2⟩ ⟨v.1,a _ v.2⟩ ⟨z.1,a _ z.2⟩⟩ (λu v Y X=>by have:=Am.1 (Am.1 f u.1 u.2) v.1 v.2;rw [Y,X] at this;exact Subtype.ext (F _ _ (by simpa using this))) (y::l).attach (by rw [hl];exact o) (cap:=cap) R (by rw [hl];exact h) (by rw [M];exact d)
    rw [M,hl,hr] at this;exact this
  ·cases hr
 ·refine (AnyF.slices_SortFunc_none L A 0 (.func (.func g) #[] #[]) w).mono λe w' ⟨J,H⟩=>⟨J,?_⟩;subst H;exact ⟨rfl,rfl,⟨rfl,Ag _⟩,Ag _,λ_ _=>rfl⟩
 ·refine (AnyF.slices_SortFunc_none L none 0 (.func (.func g) #[] #[]) w).mono λe w' ⟨J,H⟩=>⟨J,?_⟩;subst H;exact ⟨rfl,rfl,⟨rfl,Ag _⟩,Ag _,λ_ _=>rfl⟩
def Ji0{α:Type}(ok:α->Bool)(l:List α)(h:l.all ok=true):List {x:α // ok x=true}:=l.pmap Subtype.mk (Am.1 h)
theorem Jgu{α:Type}{ok:α->Bool}{l:List α}(h:l.all ok=true):(Ji0 ok l h).map Subtype.val=l:=by unfold Ji0;rw [List.map_pmap];exact List.pmap_eq_map .. |>.trans (List.map_id _)
noncomputable def Jhs{t:Ty}(cf:t.T->t.T->Int)(ok:t.T->Bool)(eq:t.T->t.T->Bool)(d0:{x:t.T // ok x=true})(l:List t.T):Option (List t.T):=
 if List.length (α:=t.T) l<4611686018427387904 then
  if (J0s (α:=t.T) (Go.Proofs.ltOf cf) eq l&&Bd (α:=t.T) l ok)=true then some (Jbv (α:=t.T) (λx y=>!(Go.Proofs.ltOf cf) y x) l)
  else if h:l.all ok=true then some ((haveI:Inhabited {x:t.T // ok x=true}:=⟨d0⟩;pdqL (Go.Proofs.ltOf λx y:{x:t.T // ok x=true}=>cf x.1 y.1) (Ji0 ok l h)).map Subtype.val) else none
 else none
open Go.Proofs Go.Shelf in
theorem J6k{P:Program}{ρ:Ren}(L:SlLaysF0.n6 P ρ){t:Ty}(G:t.flat=true)(aE:∀w,(isAgg (ρ.t 24)).run P w=.ok true w)(zE:∀w,(Go.sizeOf (ρ.t 24)).run P w=.ok t.sz w)
  {g:Nat} {fn:t.T×t.T->Option Int} (M:Good P ⟨g,[(.ag,t),(.ag,t)],[(false,I)],fn⟩) (cf:t.T->t.T->Int) (B:∀x y:t.T,fn (x,y)=some (cf x y)) (ok:t.T->Bool) (hO:Go.Sort.SWO (ltOf λx y:{x:t.T // ok x=true}=>cf x.1 y.1)) (eq:t.T->t.T->Bool) (J:∀x y,eq x y=true->x=y) (d0:{x:t.T // ok x=true}) (o:ρ.f 6<yB) (v:FnOK P (ρ.f 6)) :
  Je9 P ⟨ρ.f 6,g,true,t,Jhs cf ok eq d0⟩:=by
 have a:=J1b L G aE zE M cf B ok hO eq J o v
 letI:Inhabited {x:t.T // ok x=true}:=⟨d0⟩
 have red:∀l r,Jhs cf ok eq d0 l=some r->(if List.length (α:=t.T) l<4611686018427387904/\(J0s (α:=t.T) (ltOf cf) eq l&&Bd (α:=t.T) l ok)=true then some (Jbv (α:=t.T) (λx y=>!(ltOf cf) y x) l) else none)=some r \/
   (List.length (α:=t.T) l<4611686018427387904/\∃h:l.all ok=true,r=(pdqL (ltOf λx y:{x:t.T // ok x=true}=>cf x.1 y.1) (Ji0 ok l h)).map Subtype.val):=λl r h=>by
  unfold Jhs at h;split at h
  ·rename_i F;split at h
   ·rename_i f;left;rw [if_pos ⟨F,f⟩];exact h
   ·split at h
    ·rename_i O;injection h with h;exact .inr ⟨F,O,h.symm⟩
    ·cases h
  ·cases h
 refine ⟨v,o,G,λl r hr=>?_,λl r hr H w b off cap cs el N m E d=>?_,λr hr w A=>?_,a.nilq⟩
 ·rcases red l r hr with h|⟨F,f,rfl⟩
  ·exact a.len l r h
  ·have e:=congrArg List.length (Jgu f);rw [Ah] at e;rw [Ah,(Jjh hO _).length_eq,e]
 ·rcases red l r hr with h|⟨F,f,rfl⟩
  ·exact a.run l r h H w b off cap cs el N m E d
  ·have K:=Jgu f;have hl:(Ji0 ok l f).length=l.length:=by have e:=congrArg List.length K;rwa [Ah] at e
   have:=Jkx L G aE zE M cf B (α:={x:t.T // ok x=true}) Subtype.val hO (Ji0 ok l f) (by rw [hl];exact F) (cap:=cap) N (by rw [hl];exact m) (by rw [K];exact d);rw [hl] at this;exact this
 ·refine (AnyF.slices_SortFunc_none L A 0 (.func (.func g) #[] #[]) w).mono λe w' ⟨R,Q⟩=>⟨R,?_⟩;subst Q;exact ⟨rfl,rfl,⟨rfl,Ag _⟩,Ag _,λ_ _=>rfl⟩
theorem Ju3{t:Ty}{cf:t.T->t.T->Int}{ok:t.T->Bool}(hO:Go.Sort.SWO (Go.Proofs.ltOf λx y:{x:t.T // ok x=true}=>cf x.1 y.1)){eq:t.T->t.T->Bool}{d0:{x:t.T // ok x=true}}{l:List t.T}(hl:l.length<4611686018427387904)(f:∀x∈l,ok x=true) :
  ∃r,Jhs cf ok eq d0 l=some r/\r.Perm l/\r.Pairwise λa b=>Go.Proofs.ltOf cf b a=false:=by
 have d:l.all ok=true:=Am.2 f;unfold Jhs;rw [if_pos hl];by_cases m:(J0s (α:=t.T) (Go.Proofs.ltOf cf) eq l&&Bd (α:=t.T) l ok)=true
 ·rw [if_pos m];refine ⟨_,rfl,Y9 l,?_⟩;have o:=Jgu d;have e:=Jm6 (α:={x:t.T // ok x=true}) Subtype.val (λx y=>!(Go.Proofs.ltOf cf) y x) (Ji0 ok l d);rw [o] at e;rw [<-e,List.pairwise_map];refine (Ji3 (le:=λx y:{x:t.T // ok x=true}=>!(Go.Proofs.ltOf cf) y.1 x.1) (λx y z v g=>?_) (λx y=>?_) _).imp λ{a b} h=>?_
  ·simp only [Aa] at *
   exact hO.ntrans z y x g v
  ·simp only [Aa];cases h:Go.Proofs.ltOf cf y.1 x.1 with
   | false=>exact .inl rfl
   | true=>
    cases g:Go.Proofs.ltOf cf x.1 y.1 with
    | false=>exact .inr rfl
    | true=>exact absurd (hO.trans x y x g h) (by rw [hO.irrefl];exact Ao)
  ·simp only [Aa] at h;exact h
 ·rw [if_neg m,dif_pos d]
  letI:Inhabited {x:t.T // ok x=true}:=⟨d0⟩
  refine ⟨_,rfl,?_,?_⟩
  ·have:=(Jjh hO (Ji0 ok l d)).map Subtype.val;rwa [Jgu d] at this
  ·rw [List.pairwise_map];exact (pdqL_pw hO (Ji0 ok l d)).imp λh=>h
end Go.Dn
