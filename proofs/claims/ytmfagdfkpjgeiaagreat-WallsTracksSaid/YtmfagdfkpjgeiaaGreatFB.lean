/- Sorting by a function that parts any two. Conditions: as the library's contract of slices.SortFunc asks. -/
import Derived.Test.YtmfagdfkpjgeiaaGreatFD
import Derived.Shelf.SlSortCmp.NoneTotal
set_option linter.unusedVariables false
set_option linter.unusedSimpArgs false
namespace Go.Dn
open Go Go.Vv
open List renaming length_map -> Aa, getElem?_eq_getElem -> Ac, pairwise_cons -> Ad, all_eq_true -> Ag, getElem!_eq_getElem?_getD -> Aj, mem_cons_self -> Ao, mem_cons -> Ap, getElem?_eq_some_iff -> Aq, getElem?_cons_zero -> Ar, mem_of_getElem? -> Au, map_cons -> Av, all -> Ax
open Bool renaming not_eq_true' -> Ab, false_ne_true -> Am
open _root_.Array renaming getD_eq_getD_getElem? -> Ae, getElem?_append_left -> Af, getElem?_eq_getElem -> Ah, extract_eq_self_of_le -> Ak, getElem?_modify -> As
open Nat renaming le_refl -> Ai
open Option.some renaming injEq -> Aw
theorem PE{w w':World}(o:Old w w'):∃q os',w'=Go.Sort.grow (w.drewN q) os':=by
 refine ⟨w'.drawn - w.drawn,w'.heap.extract w.heap.size w'.heap.size,?_⟩;obtain ⟨h,g,⟨f,l⟩,m,d⟩:=o;obtain ⟨heap,tape,drawn,os,output⟩:=w;obtain ⟨a,tape',drawn',os',output'⟩:=w';simp only at h g f m d l;subst h;subst g;subst f;simp only [Go.Sort.grow,World.drewN,World.mk.injEq,true_and,and_true];refine ⟨?_,by omega⟩;apply Array.ext_getElem?;intro i;by_cases hi:i<heap.size
 ·rw [d i hi,Af hi]
 ·rw [Array.getElem?_append_right (by omega),Array.getElem?_extract];split
  ·rw [show heap.size+(i - heap.size)=i by omega]
  ·rw [Array.getElem?_eq_none (by omega)]
def Ew{t:Ty}(x:t.T):List Value:=(t.cs x).map TM
theorem Rm{t:Ty}(x:t.T):(Ew x).length=t.sz:=by simp [Ew,IV]
theorem WT{t:Ty}{l:List t.T}{j:Nat}(f:j<l.length * t.sz):∃e,l[j / t.sz]?=some e/\(l.flatMap t.cs)[j]?=(t.cs e)[j % t.sz]?:=by
 have d:0<t.sz:=by
  cases h:t.sz with
  | zero=>rw [h] at f;omega
  | succ n=>omega
 have a:j / t.sz<l.length:=(Nat.div_lt_iff_lt_mul d).2 f;refine ⟨l[j / t.sz],Ac a,?_⟩;have e:=iM (l:=l) (i:=j / t.sz) (Ac a);rw [<-e];have g:j % t.sz<t.sz:=Nat.mod_lt _ d;have hd:j / t.sz * t.sz+j % t.sz=j:=Nat.div_add_mod' j t.sz;simp only [Vv.cut];rw [List.getElem?_take_of_lt g,List.getElem?_drop,hd]
section
variable {α:Type} {le:α->α->Bool}
def I6(le:α->α->Bool)(x:α):List α->List α
 | []=>[x]
 | y::r=>match le x y with|true=>x::y::r|false=>y::I6 le x r
def KY(le:α->α->Bool):List α->List α
 | []=>[]
 | x::r=>I6 le x (KY le r)
theorem Jrn(x:α):∀l:List α,(I6 le x l).Perm (x::l)
 | []=>.refl _
 | y::r=>by
  simp only [I6];split
  ·exact .refl _
  ·exact ((Jrn x r).cons y).trans (.swap x y r)
theorem iZ:∀l:List α,(KY le l).Perm l
 | []=>.refl _
 | x::r=>(Jrn x _).trans ((iZ r).cons x)
theorem J87(tr:∀x y z,le x y=true->le y z=true->le x z=true)(tot:∀x y,le x y=true\/le y x=true)(x:α):∀ {l:List α},l.Pairwise (λa b=>le a b=true)->(I6 le x l).Pairwise λa b=>le a b=true
 | [],_=>List.pairwise_singleton _ _
 | y::r,h=>by
  obtain ⟨g,m⟩:=Ad.1 h;simp only [I6];split
  ·rename_i hx;exact Ad.2 ⟨λz d=>by
    rcases Ap.1 d with rfl|d
    ·exact hx
    ·exact tr _ _ _ hx (g z d),h⟩
  ·rename_i hx;have f:le y x=true:=(tot x y).resolve_left (by rw [hx];exact Am);exact Ad.2 ⟨λz d=>by
    rcases Ap.1 ((Jrn x r).mem_iff.1 d) with rfl|d
    ·exact f
    ·exact g z d,J87 tr tot x m⟩
theorem uw(tr:∀x y z,le x y=true->le y z=true->le x z=true)(tot:∀x y,le x y=true\/le y x=true):∀l:List α,(KY le l).Pairwise λa b=>le a b=true
 | []=>.nil
 | x::r=>J87 tr tot x (uw tr tot r)
theorem J7r(anti:∀x y,le x y=true->le y x=true->x=y):∀ {a b:List α},a.Perm b->a.Pairwise (λa b=>le a b=true)->b.Pairwise (λa b=>le a b=true)->a=b
 | [],b,h,_,_=>by rw [h.nil_eq]
 | x::a,[],h,_,_=>by have:=h.length_eq;simp at this
 | x::a,y::b,h,r,o=>by
  obtain ⟨l,g⟩:=Ad.1 r;obtain ⟨f,d⟩:=Ad.1 o;have e:x=y:=by
   rcases Ap.1 (h.mem_iff.1 (Ao:x∈x::a)) with e|hx
   ·exact e
   ·rcases Ap.1 (h.mem_iff.2 (Ao:y∈y::b)) with e|m
    ·exact e.symm
    ·exact anti x y (l y m) (f x hx)
  subst e;rw [J7r anti (List.perm_cons x |>.1 h) g d]
theorem Jqm(tr:∀x y z,le x y=true->le y z=true->le x z=true)(tot:∀x y,le x y=true\/le y x=true)(anti:∀x y,le x y=true->le y x=true->x=y)(l:List α):l.mergeSort le=KY le l:=
 J7r anti ((List.mergeSort_perm l le).trans (iZ l).symm) (List.pairwise_mergeSort tr (λa b=>by simpa using tot a b) l) (uw tr tot l)
end
theorem Wq{P:Program}{t:Ty}(f:t.flat=true){g:Nat}{fn:t.T×t.T->Option Int}(v:Good P ⟨g,[(.ag,t),(.ag,t)],[(false,I)],fn⟩)(cf:t.T->t.T->Int)(d:∀x y:t.T,fn (x,y)=some (cf x y))(W:World)(x y:t.T) :
  Calls P g #[.agg (Ew x).toArray,.agg (Ew y).toArray] W λe w'=>e=.returned (.int .i64 (cf x y))/\Old W w':=by
 have a:∀(x:t.T),BD W (λ_=>False) (.agg (t.cs x)) (.agg (Ew x).toArray):=λx=>by
  have at':∀(i:Nat) (z:AV),(t.cs x)[i]?=some z->(Ew x).toArray.getD i undef=TM z:=λi z hi=>by simp [Ew,Ae,hi]
  refine .agg _ _ (by simp [Ew]) (λi z hi=>?_) (λi z hi=>?_)
  ·rw [at' i z hi];exact (uf (w:=W) (S:=λ_=>False) (iR f x z (Au hi))).2
  ·rw [at' i z hi];exact (uf (iR f x z (Au hi))).1
 have l:=v.run (show t.T×t.T from (x,y)) (show Int from cf x y) (d x y) W (λ_=>False) #[.agg (Ew x).toArray,.agg (Ew y).toArray] (λb h=>h.elim);have hA:GY [(AK.ag,t),(AK.ag,t)] (show t.T×t.T from (x,y))=[.agg (t.cs x),.agg (t.cs y)]:=rfl;simp only [hA] at l;refine (l rfl λi z hi=>?_).mono λe w' ⟨cv,B,r,o⟩=>?_
 ·cases i with
  | zero=>simp only [Ar,Aw] at hi;subst hi;exact a x
  | succ i=>cases i with
   | zero=>simp only [List.getElem?_cons_succ,Ar,Aw] at hi;subst hi;exact a y
   | succ i=>simp at hi
 ·have m:BD w' (JV (λ_=>False) W w') (.int .i64 (cf x y)) cv:=r;have A:cv=.int .i64 (cf x y):=by cases m;rfl
  exact ⟨by rw [B,A],o⟩
theorem J38{α β:Type}(val:α->β)(le:β->β->Bool)(x:α):∀l:List α,(I6 (λa b=>le (val a) (val b)) x l).map val=I6 le (val x) (l.map val)
 | []=>rfl
 | y::r=>by
  simp only [I6,Av];cases h:le (val x) (val y) with
  | true=>rfl
  | false=>simp only [Av,J38 val le x r]
theorem Jr7{α β:Type}(val:α->β)(le:β->β->Bool):∀l:List α,(KY (λa b=>le (val a) (val b)) l).map val=KY le (l.map val)
 | []=>rfl
 | x::r=>by simp only [KY,Av,J38,Jr7 val le r]
theorem Jzb{α:Type}[Inhabited α]{t:Ty}(val:α->t.T){l:List α}{i:Nat}{v:AV}(f:((l.map val).flatMap t.cs)[i]?=some v) :
  i<(Go.Sort.flatK (λx=>Ew (val x)) t.sz l.toArray).size/\(Go.Sort.flatK (λx=>Ew (val x)) t.sz l.toArray)[i]! = TM v:=by
 have hi:i<(l.map val).length * t.sz:=by rw [<-Kj];exact (Aq.1 f).1
 obtain ⟨e,a,g⟩:=WT hi;rw [Aa] at hi;refine ⟨by simpa using hi,?_⟩;rw [Go.Sort.get_flatK _ t.sz l.toArray i (by simpa using hi)];rw [List.getElem?_map] at a;cases d:l[i / t.sz]? with
 | none=>rw [d] at a;cases a
 | some u=>
  rw [d] at a;injection a with a;have h:l.toArray[i / t.sz]! = u:=by rw [List.getElem!_toArray,Aj,d];rfl
  rw [h,a];rw [f] at g;simp only [Ew];rw [Aj,List.getElem?_map,<-g];rfl
noncomputable def Hq{α:Type}[Inhabited α](lt:α->α->Bool)(l:List α):List α:=(Go.Sort.pdq lt l.toArray 0 l.length (Go.Lib.bitLen l.length) true true).toList
theorem wN{α:Type}[Inhabited α]{lt:α->α->Bool}(hO:Go.Sort.SWO lt)(l:List α):Go.Sort.PermIn 0 l.length l.toArray (Go.Sort.pdq lt l.toArray 0 l.length (Go.Lib.bitLen l.length) true true)/\Go.Sort.SortedIn lt 0 l.length (Go.Sort.pdq lt l.toArray 0 l.length (Go.Lib.bitLen l.length) true true):=
 Go.Sort.pdq_sorts lt hO l.toArray 0 l.length (Go.Lib.bitLen l.length) true true (Nat.zero_le _) (Ai _) (Or.inl rfl)
theorem vo{α:Type}[Inhabited α]{lt:α->α->Bool}(hO:Go.Sort.SWO lt)(l:List α):(Hq lt l).Perm l:=by
 obtain ⟨d,-,a⟩:=(wN hO l).1;have g:(Go.Sort.pdq lt l.toArray 0 l.length (Go.Lib.bitLen l.length) true true).extract 0 l.length=Go.Sort.pdq lt l.toArray 0 l.length (Go.Lib.bitLen l.length) true true:=by apply Ak;rw [d];simp
 have f:l.toArray.extract 0 l.length=l.toArray:=by apply Ak;simp
 rw [g,f] at a;exact a
theorem VG{α:Type}[Inhabited α]{lt:α->α->Bool}(hO:Go.Sort.SWO lt)(l:List α):(Hq lt l).Pairwise λa b=>lt b a=false:=by
 have hl:=(vo hO l).length_eq;have h:=(wN hO l).2;rw [List.pairwise_iff_getElem];intro i j hi m f;have:=h i j (Nat.zero_le _) f (by omega);have e:∀k (g:k<(Hq lt l).length),(Go.Sort.pdq lt l.toArray 0 l.length (Go.Lib.bitLen l.length) true true)[k]! = (Hq lt l)[k]:=λk g=>by have d:k<(Go.Sort.pdq lt l.toArray 0 l.length (Go.Lib.bitLen l.length) true true).size:=g;rw [getElem!_pos _ k d];rfl
 rw [e j m,e i hi] at this;exact this
open Go.Proofs Go.Shelf in
theorem Jpl{P:Program}{ρ:Ren}(L:SlLaysF0.n6 P ρ){t:Ty}(Q:t.flat=true)(aE:∀w,(isAgg (ρ.t 24)).run P w=.ok true w)(zE:∀w,(Go.sizeOf (ρ.t 24)).run P w=.ok t.sz w)
  {g:Nat} {fn:t.T×t.T->Option Int} (R:Good P ⟨g,[(.ag,t),(.ag,t)],[(false,I)],fn⟩) (cf:t.T->t.T->Int) (O:∀x y:t.T,fn (x,y)=some (cf x y))
  {α:Type} [Inhabited α] (val:α->t.T) (hO:Go.Sort.SWO (ltOf λx y:α=>cf (val x) (val y))) (l:List α) (K:l.length<4611686018427387904)
  {w:World} {b off cap:Nat} {cs:Array Value} {el:TypeId} (G:w.heap[b]?=some (.cells cs el (0,0))) (hsz:off+l.length * t.sz<=cs.size) (F:∀(i:Nat) (v:AV),((l.map val).flatMap t.cs)[i]?=some v->cs.getD (off+i) undef=TM v) :
  Calls P (ρ.f 6) #[.slice (some ⟨b,off,none⟩) l.length cap,.func (.func g) #[] #[]] w λe w'=>e=.returned (.tuple #[])/\J91 w w' b off (l.length * t.sz) cs (((Hq (ltOf λx y:α=>cf (val x) (val y)) l).map val).flatMap t.cs):=by
 have h1:∀x:α,∀v∈Ew (val x),v.oneCell'=true:=λx v J=>by obtain ⟨y,Z,rfl⟩:=List.mem_map.1 J;rcases iR Q (val x) y Z with ⟨b,rfl⟩|⟨k,n,rfl⟩|⟨z,rfl⟩<;>rfl
 have eg:∀args w,(callFunc g args).run P w=.ok (.enter g args) w:=λargs w=>Xp (f:=g) R.fn args w;have hO1:∀x y:α,(ltOf λx y:α=>cf (val x) (val y)) x y=ltOf cf (val x) (val y):=λx y=>rfl;have cmp:CmpLays P g #[] (λx:α=>Ew (val x)) t.sz (λx y=>cf (val x) (val y)) b off l.toArray.size w:=λm os dk hdk x y=>by rw [Array.append_empty];exact (Wq Q R cf O _ (val x) (val y)).mono λe w' ⟨H,o⟩=>⟨H,PE o⟩
 have hH:Go.Sort.HoldsK (λx:α=>Ew (val x)) t.sz w b off l.toArray:=λj hj=>by
  have E:j<((l.map val).flatMap t.cs).length:=by rw [Kj,Aa];simpa using hj
  obtain ⟨-,H⟩:=Jzb val (Ac E);have X:=F j _ (Ac E);rw [H];have a:off+j<cs.size:=by rw [Kj,Aa] at E;omega
  refine ⟨?_,?_⟩
  ·simp only [World.cell?,G];rw [Ae,Ah a] at X;simp only [Option.isSome_none,Bool.false_eq_true,if_false];rw [Ah a];exact congrArg some X
  ·simp [World.frozen?,G]
 have B:b<w.heap.size:=(Array.getElem?_eq_some_iff.1 G).1;have h:=AnyQ.slices_SortFunc_eq L t.sz aE zE (λx:α=>Ew (val x)) (λx=>Rm (val x)) h1 (λx y=>cf (val x) (val y)) hO g #[] b off cap l.toArray w eg cmp hH B (by simpa using K);rw [show l.toArray.size=l.length from rfl] at h;refine h.mono λe w' ⟨H,n,os,hw⟩=>⟨H,?_⟩;subst hw;have A:(Hq (ltOf λx y:α=>cf (val x) (val y)) l).length=l.length:=(vo hO l).length_eq;have er:Go.Sort.pdq (ltOf λx y:α=>cf (val x) (val y)) l.toArray 0 l.length (Go.Lib.bitLen l.length) true true=(Hq (ltOf λx y:α=>cf (val x) (val y)) l).toArray:=rfl;rw [er];generalize hr:Hq (ltOf λx y:α=>cf (val x) (val y)) l=r at A;refine ⟨rfl,rfl,⟨rfl,Nat.le_add_right _ _⟩,?_,λk hk M=>?_,λel' d=>?_⟩
 ·show w.heap.size<=((w.heap.modify b _)++os).size;simp
 ·show ((w.heap.modify b _)++os)[k]?=_;rw [Af (by simpa using hk),As,if_neg (λq=>M q.symm)]
 ·have N:el'=el:=by rw [G] at d;injection d with d;injection d with _ q;exact q.symm
  subst N;refine ⟨Go.Sort.putCells id off (Go.Sort.flatK (λx:α=>Ew (val x)) t.sz r.toArray) cs,?_,by simp [Go.Sort.putCells],λi v J=>?_⟩
  ·show ((w.heap.modify b _)++os)[b]?=_;rw [Af (by simpa using B),As,if_pos rfl,G];rfl
  ·obtain ⟨q1,Y⟩:=Jzb val J;have hi:i<r.length * t.sz:=by have:=(Aq.1 J).1;rw [Kj,Aa] at this;exact this
   have a:off+i<cs.size:=by rw [A] at hi;omega
   rw [Ae];simp only [Go.Sort.putCells,Array.getElem?_mapIdx];rw [Ah a];simp only [Option.map_some,Option.getD_some];rw [if_pos ⟨by omega,by omega⟩,show off+i - off=i by omega];exact Y
open Go.Proofs Go.Shelf in
theorem N9{P:Program}{ρ:Ren}(L:SlLaysF0.n6 P ρ){t:Ty}(B:t.flat=true)(aE:∀w,(isAgg (ρ.t 24)).run P w=.ok true w)(zE:∀w,(Go.sizeOf (ρ.t 24)).run P w=.ok t.sz w)
  {g:Nat} {fn:t.T×t.T->Option Int} (E:Good P ⟨g,[(.ag,t),(.ag,t)],[(false,I)],fn⟩) (cf:t.T->t.T->Int) (o:∀x y:t.T,fn (x,y)=some (cf x y))
  {α:Type} [Inhabited α] (val:α->t.T) (hO:Go.Sort.SWO (ltOf λx y:α=>cf (val x) (val y))) (hT:∀x y:α,(ltOf cf) (val x) (val y)=false->(ltOf cf) (val y) (val x)=false->x=y) (l:List α) (m:l.length<4611686018427387904)
  {w:World} {b off cap:Nat} {cs:Array Value} {el:TypeId} (F:w.heap[b]?=some (.cells cs el (0,0))) (f:off+l.length * t.sz<=cs.size) (a:∀(i:Nat) (v:AV),((l.map val).flatMap t.cs)[i]?=some v->cs.getD (off+i) undef=TM v) :
  Calls P (ρ.f 6) #[.slice (some ⟨b,off,none⟩) l.length cap,.func (.func g) #[] #[]] w λe w'=>e=.returned (.tuple #[])/\J91 w w' b off (l.length * t.sz) cs ((KY (λx y=>!(ltOf cf) y x) (l.map val)).flatMap t.cs):=by
 have em:l.mergeSort (λx y=>!(ltOf cf) (val y) (val x))=KY (λx y=>!(ltOf cf) (val y) (val x)) l:=Jqm (λx y z r d=>by
  simp only [Ab] at *
  exact hO.ntrans z y x d r) (λx y=>by
  simp only [Ab];cases h:ltOf cf (val y) (val x) with
  | false=>exact .inl rfl
  | true=>
   cases d:ltOf cf (val x) (val y) with
   | false=>exact .inr rfl
   | true=>exact absurd (hO.trans x y x d h) (by rw [hO.irrefl];exact Am)) (λx y r d=>by
  simp only [Ab] at *
  exact hT x y d r) l
 have A:=Jpl L B aE zE E cf o val hO l m (cap:=cap) F f a;have G:Hq (ltOf λx y:α=>cf (val x) (val y)) l=KY (λx y=>!(ltOf cf) (val y) (val x)) l:=by rw [<-em];exact Go.Sort.sorted_unique_holds hO hT l.toArray _ (wN hO l).1 (wN hO l).2
 rw [G,Jr7 val (λx y=>!(ltOf cf) y x) l] at A;exact A
def yX{α:Type}(lt eq:α->α->Bool)(l:List α):Bool:=l.all λx=>l.all λy=>lt x y || lt y x || eq x y
open Go.Proofs Go.Shelf in
theorem J56{P:Program}{ρ:Ren}(L:SlLaysF0.n6 P ρ){t:Ty}(K:t.flat=true)(aE:∀w,(isAgg (ρ.t 24)).run P w=.ok true w)(zE:∀w,(Go.sizeOf (ρ.t 24)).run P w=.ok t.sz w)
  {g:Nat} {fn:t.T×t.T->Option Int} (Q:Good P ⟨g,[(.ag,t),(.ag,t)],[(false,I)],fn⟩) (cf:t.T->t.T->Int) (G:∀x y:t.T,fn (x,y)=some (cf x y)) (ok:t.T->Bool) (hO:Go.Sort.SWO (ltOf λx y:{x:t.T // ok x=true}=>cf x.1 y.1)) (eq:t.T->t.T->Bool) (F:∀x y,eq x y=true->x=y) (B:ρ.f 6<yB) (E:DT P (ρ.f 6)) :
  KQ P ⟨ρ.f 6,g,true,t,λl=>if List.length (α:=t.T) l<4611686018427387904/\(yX (α:=t.T) (ltOf cf) eq l&&Ax (α:=t.T) l ok)=true then some (KY (α:=t.T) (λx y=>!(ltOf cf) y x) l) else none⟩:=by
 refine ⟨E,B,K,λl r hr=>?_,λl r hr m w b off cap cs el R h N d=>?_,λr hr w A=>?_,λw=>?_⟩
 ·simp only at hr;split at hr
  ·injection hr with hr;rw [<-hr];exact (iZ l).length_eq
  ·cases hr
 ·simp only at hr;split at hr
  ·rename_i O;injection hr with hr;obtain ⟨o,f⟩:=O;cases l with
   | nil=>exact (m rfl).elim
   | cons y l=>
    haveI:Inhabited {x:t.T // x∈y::l}:=⟨⟨y,Ao⟩⟩
    have M:(y::l).attach.map Subtype.val=y::l:=List.attach_map_subtype_val _;have hl:(y::l).attach.length=(y::l).length:=List.length_attach;rw [Bool.and_eq_true] at f;obtain ⟨f,a⟩:=f;have a:∀x∈y::l,ok x=true:=Ag.1 a;have:=N9 L K aE zE Q cf G (α:={x:t.T // x∈y::l}) Subtype.val ⟨λu=>hO.irrefl ⟨u.1,a _ u.2⟩,λu v z=>hO.trans ⟨u.1,a _ u.2⟩ ⟨v.1,a _ v.2⟩ ⟨z.1,a _ z.2⟩,λu v z=>hO.ntrans ⟨u.1,a _ u.2⟩ ⟨v.1,a _ v.2⟩ ⟨z.1,a _ z.2⟩⟩ (λu v Y X=>by have:=Ag.1 (Ag.1 f u.1 u.2) v.1 v.2;rw [Y,X] at this;exact Subtype.ext (F _ _ (by simpa using this))) (y::l).attach (by rw [hl];exact o) (cap:=cap) R (by rw [hl];exact h) (by rw [M];exact d)
    rw [M,hl,hr] at this;exact this
  ·cases hr
 ·refine (AnyF.slices_SortFunc_none L A 0 (.func (.func g) #[] #[]) w).mono λe w' ⟨J,H⟩=>⟨J,?_⟩;subst H;exact ⟨rfl,rfl,⟨rfl,Ai _⟩,Ai _,λ_ _=>rfl⟩
 ·refine (AnyF.slices_SortFunc_none L none 0 (.func (.func g) #[] #[]) w).mono λe w' ⟨J,H⟩=>⟨J,?_⟩;subst H;exact ⟨rfl,rfl,⟨rfl,Ai _⟩,Ai _,λ_ _=>rfl⟩
def YG{α:Type}(ok:α->Bool)(l:List α)(h:l.all ok=true):List {x:α // ok x=true}:=l.pmap Subtype.mk (Ag.1 h)
theorem wG{α:Type}{ok:α->Bool}{l:List α}(h:l.all ok=true):(YG ok l h).map Subtype.val=l:=by unfold YG;rw [List.map_pmap];exact List.pmap_eq_map .. |>.trans (List.map_id _)
noncomputable def iD{t:Ty}(cf:t.T->t.T->Int)(ok:t.T->Bool)(eq:t.T->t.T->Bool)(d0:{x:t.T // ok x=true})(l:List t.T):Option (List t.T):=
 if List.length (α:=t.T) l<4611686018427387904 then
  if (yX (α:=t.T) (Go.Proofs.ltOf cf) eq l&&Ax (α:=t.T) l ok)=true then some (KY (α:=t.T) (λx y=>!(Go.Proofs.ltOf cf) y x) l)
  else if h:l.all ok=true then some ((haveI:Inhabited {x:t.T // ok x=true}:=⟨d0⟩;Hq (Go.Proofs.ltOf λx y:{x:t.T // ok x=true}=>cf x.1 y.1) (YG ok l h)).map Subtype.val) else none
 else none
open Go.Proofs Go.Shelf in
theorem J7e{P:Program}{ρ:Ren}(L:SlLaysF0.n6 P ρ){t:Ty}(G:t.flat=true)(aE:∀w,(isAgg (ρ.t 24)).run P w=.ok true w)(zE:∀w,(Go.sizeOf (ρ.t 24)).run P w=.ok t.sz w)
  {g:Nat} {fn:t.T×t.T->Option Int} (M:Good P ⟨g,[(.ag,t),(.ag,t)],[(false,I)],fn⟩) (cf:t.T->t.T->Int) (B:∀x y:t.T,fn (x,y)=some (cf x y)) (ok:t.T->Bool) (hO:Go.Sort.SWO (ltOf λx y:{x:t.T // ok x=true}=>cf x.1 y.1)) (eq:t.T->t.T->Bool) (J:∀x y,eq x y=true->x=y) (d0:{x:t.T // ok x=true}) (o:ρ.f 6<yB) (v:DT P (ρ.f 6)) :
  KQ P ⟨ρ.f 6,g,true,t,iD cf ok eq d0⟩:=by
 have a:=J56 L G aE zE M cf B ok hO eq J o v
 letI:Inhabited {x:t.T // ok x=true}:=⟨d0⟩
 have red:∀l r,iD cf ok eq d0 l=some r->(if List.length (α:=t.T) l<4611686018427387904/\(yX (α:=t.T) (ltOf cf) eq l&&Ax (α:=t.T) l ok)=true then some (KY (α:=t.T) (λx y=>!(ltOf cf) y x) l) else none)=some r \/
   (List.length (α:=t.T) l<4611686018427387904/\∃h:l.all ok=true,r=(Hq (ltOf λx y:{x:t.T // ok x=true}=>cf x.1 y.1) (YG ok l h)).map Subtype.val):=λl r h=>by
  unfold iD at h;split at h
  ·rename_i F;split at h
   ·rename_i f;left;rw [if_pos ⟨F,f⟩];exact h
   ·split at h
    ·rename_i O;injection h with h;exact .inr ⟨F,O,h.symm⟩
    ·cases h
  ·cases h
 refine ⟨v,o,G,λl r hr=>?_,λl r hr H w b off cap cs el N m E d=>?_,λr hr w A=>?_,a.nO⟩
 ·rcases red l r hr with h|⟨F,f,rfl⟩
  ·exact a.len l r h
  ·have e:=congrArg List.length (wG f);rw [Aa] at e;rw [Aa,(vo hO _).length_eq,e]
 ·rcases red l r hr with h|⟨F,f,rfl⟩
  ·exact a.run l r h H w b off cap cs el N m E d
  ·have K:=wG f;have hl:(YG ok l f).length=l.length:=by have e:=congrArg List.length K;rwa [Aa] at e
   have:=Jpl L G aE zE M cf B (α:={x:t.T // ok x=true}) Subtype.val hO (YG ok l f) (by rw [hl];exact F) (cap:=cap) N (by rw [hl];exact m) (by rw [K];exact d);rw [hl] at this;exact this
 ·refine (AnyF.slices_SortFunc_none L A 0 (.func (.func g) #[] #[]) w).mono λe w' ⟨R,Q⟩=>⟨R,?_⟩;subst Q;exact ⟨rfl,rfl,⟨rfl,Ai _⟩,Ai _,λ_ _=>rfl⟩
theorem Jzo{t:Ty}{cf:t.T->t.T->Int}{ok:t.T->Bool}(hO:Go.Sort.SWO (Go.Proofs.ltOf λx y:{x:t.T // ok x=true}=>cf x.1 y.1)){eq:t.T->t.T->Bool}{d0:{x:t.T // ok x=true}}{l:List t.T}(hl:l.length<4611686018427387904)(f:∀x∈l,ok x=true) :
  ∃r,iD cf ok eq d0 l=some r/\r.Perm l/\r.Pairwise λa b=>Go.Proofs.ltOf cf b a=false:=by
 have d:l.all ok=true:=Ag.2 f;unfold iD;rw [if_pos hl];by_cases m:(yX (α:=t.T) (Go.Proofs.ltOf cf) eq l&&Ax (α:=t.T) l ok)=true
 ·rw [if_pos m];refine ⟨_,rfl,iZ l,?_⟩;have o:=wG d;have e:=Jr7 (α:={x:t.T // ok x=true}) Subtype.val (λx y=>!(Go.Proofs.ltOf cf) y x) (YG ok l d);rw [o] at e;rw [<-e,List.pairwise_map];refine (uw (le:=λx y:{x:t.T // ok x=true}=>!(Go.Proofs.ltOf cf) y.1 x.1) (λx y z v g=>?_) (λx y=>?_) _).imp λ{a b} h=>?_
  ·simp only [Ab] at *
   exact hO.ntrans z y x g v
  ·simp only [Ab];cases h:Go.Proofs.ltOf cf y.1 x.1 with
   | false=>exact .inl rfl
   | true=>
    cases g:Go.Proofs.ltOf cf x.1 y.1 with
    | false=>exact .inr rfl
    | true=>exact absurd (hO.trans x y x g h) (by rw [hO.irrefl];exact Am)
  ·simp only [Ab] at h;exact h
 ·rw [if_neg m,dif_pos d]
  letI:Inhabited {x:t.T // ok x=true}:=⟨d0⟩
  refine ⟨_,rfl,?_,?_⟩
  ·have:=(vo hO (YG ok l d)).map Subtype.val;rwa [wG d] at this
  ·rw [List.pairwise_map];exact (VG hO (YG ok l d)).imp λh=>h
end Go.Dn
