/- Sorting by a function that parts any two. Conditions: as the library's contract of slices.SortFunc asks. -/
import Derived.Test.YtmfagdfkpjgeiaaGreatFD
import Derived.Shelf.SlSortCmp.NoneTotal
open Option renaming some -> AC, none -> AD
open Bool renaming true -> AE, false -> AF
open _root_ renaming List -> AG, Option -> AH, Int -> AI, Nat -> AM, Bool -> AN, if_neg -> AR, if_pos -> AS, congrArg -> AT
set_option linter.unusedVariables false
set_option linter.unusedSimpArgs false
namespace Go.Dn
open Go Go.Vv
open Bool renaming not_eq_true' -> Aa, false_ne_true -> Ao
open _root_.Array renaming getElem?_eq_getElem -> Ab, getD_eq_getD_getElem? -> Ad, getElem?_append_left -> Ae, getElem?_modify -> Ak, extract_eq_self_of_le -> Ap, getElem?_eq_some_iff -> Ar, getElem?_mapIdx -> Ax, append_empty -> Ba
open List renaming getElem?_eq_getElem -> Ac, getElem!_eq_getElem?_getD -> Af, length_map -> Ah, getElem?_eq_some_iff -> Ai, pairwise_cons -> Aj, all_eq_true -> Am, mem_cons_self -> Aq, getElem?_map -> As, mem_cons -> Au, getElem?_cons_zero -> Av, getElem!_toArray -> Aw, mem_of_getElem? -> Ay, map_cons -> Az, all -> Bd
open Nat renaming le_refl -> Ag
open Option renaming isSome_none -> Bb
open Option.some renaming injEq -> Bc
theorem Jv7{w w':World}(o:Old w w'):∃q os',w'=Go.Sort.grow (w.drewN q) os':=by
 refine ⟨w'.drawn - w.drawn,w'.heap.extract w.heap.size w'.heap.size,?_⟩;obtain ⟨h,g,⟨f,l⟩,m,d⟩:=o;obtain ⟨heap,tape,drawn,os,output⟩:=w;obtain ⟨a,tape',drawn',os',output'⟩:=w';simp only at h g f m d l;subst h;subst g;subst f;simp only [Go.Sort.grow,World.drewN,World.mk.injEq,true_and,and_true];refine ⟨?_,by omega⟩;apply Array.ext_getElem?;intro i;by_cases hi:i<heap.size
 .rw [d i hi,Ae hi]
 .rw [Array.getElem?_append_right (by omega),Array.getElem?_extract];split
  .rw [show heap.size+(i - heap.size)=i by omega]
  .rw [Array.getElem?_eq_none (by omega)]
def Cj{t:Ty}(x:t.T):AG Value:=(t.cs x).map MX
theorem J3s{t:Ty}(x:t.T):(Cj x).length=t.sz:=by simp [Cj,zy]
theorem J98{t:Ty}{l:AG t.T}{j:AM}(f:j<l.length * t.sz):∃e,l[j / t.sz]?=AC e/\(l.flatMap t.cs)[j]?=(t.cs e)[j % t.sz]?:=by
 have d:0<t.sz:=by
  cases h:t.sz with
  | zero=>rw [h] at f;omega
  | succ n=>omega
 have a:j / t.sz<l.length:=(Nat.div_lt_iff_lt_mul d).2 f;refine ⟨l[j / t.sz],Ac a,?_⟩;have e:=jU (l:=l) (i:=j / t.sz) (Ac a);rw [<-e];have g:j % t.sz<t.sz:=Nat.mod_lt _ d;have hd:j / t.sz * t.sz+j % t.sz=j:=Nat.div_add_mod' j t.sz;simp only [Vv.cut];rw [List.getElem?_take_of_lt g,List.getElem?_drop,hd]
theorem J38{t:Ty}[Inhabited t.T]{l:AG t.T}{i:AM}{v:AV}(a:(l.flatMap t.cs)[i]?=AC v):i<(Go.Sort.flatK Cj t.sz l.toArray).size/\(Go.Sort.flatK Cj t.sz l.toArray)[i]! = MX v:=by
 have hi:i<l.length * t.sz:=by rw [<-Jv];exact (Ai.1 a).1
 obtain ⟨e,f,d⟩:=J98 hi;refine ⟨by simpa using hi,?_⟩;rw [Go.Sort.get_flatK Cj t.sz l.toArray i (by simpa using hi)];have g:l.toArray[i / t.sz]! = e:=by rw [Aw,Af,f];rfl
 rw [g];rw [a] at d;simp only [Cj];rw [Af,As,<-d];rfl
section
variable {α:Type} {le:α->α->AN}
def JA(le:α->α->AN)(x:α):AG α->AG α
 | []=>[x]
 | y::r=>match le x y with|true=>x::y::r|false=>y::JA le x r
def Hy(le:α->α->AN):AG α->AG α
 | []=>[]
 | x::r=>JA le x (Hy le r)
theorem Jri(x:α):∀l:AG α,(JA le x l).Perm (x::l)
 | []=>.refl _
 | y::r=>by
  simp only [JA];split
  .exact .refl _
  .exact ((Jri x r).cons y).trans (.swap x y r)
theorem Zw:∀l:AG α,(Hy le l).Perm l
 | []=>.refl _
 | x::r=>(Jri x _).trans ((Zw r).cons x)
theorem J7z(tr:∀x y z,le x y=AE->le y z=AE->le x z=AE)(tot:∀x y,le x y=AE\/le y x=AE)(x:α):∀ {l:AG α},l.Pairwise (λa b=>le a b=AE)->(JA le x l).Pairwise λa b=>le a b=AE
 | [],_=>List.pairwise_singleton _ _
 | y::r,h=>by
  obtain ⟨g,m⟩:=Aj.1 h;simp only [JA];split
  .rename_i hx;exact Aj.2 ⟨λz d=>by
    rcases Au.1 d with rfl|d
    .exact hx
    .exact tr _ _ _ hx (g z d),h⟩
  .rename_i hx;have f:le y x=AE:=(tot x y).resolve_left (by rw [hx];exact Ao);exact Aj.2 ⟨λz d=>by
    rcases Au.1 ((Jri x r).mem_iff.1 d) with rfl|d
    .exact f
    .exact g z d,J7z tr tot x m⟩
theorem tQ(tr:∀x y z,le x y=AE->le y z=AE->le x z=AE)(tot:∀x y,le x y=AE\/le y x=AE):∀l:AG α,(Hy le l).Pairwise λa b=>le a b=AE
 | []=>.nil
 | x::r=>J7z tr tot x (tQ tr tot r)
theorem J8v(anti:∀x y,le x y=AE->le y x=AE->x=y):∀ {a b:AG α},a.Perm b->a.Pairwise (λa b=>le a b=AE)->b.Pairwise (λa b=>le a b=AE)->a=b
 | [],b,h,_,_=>by rw [h.nil_eq]
 | x::a,[],h,_,_=>by have:=h.length_eq;simp at this
 | x::a,y::b,h,v,r=>by
  obtain ⟨l,g⟩:=Aj.1 v;obtain ⟨f,d⟩:=Aj.1 r;have e:x=y:=by
   rcases Au.1 (h.mem_iff.1 (Aq:x∈x::a)) with e|hx
   .exact e
   .rcases Au.1 (h.mem_iff.2 (Aq:y∈y::b)) with e|m
    .exact e.symm
    .exact anti x y (l y m) (f x hx)
  subst e;rw [J8v anti (List.perm_cons x |>.1 h) g d]
theorem Jkg(tr:∀x y z,le x y=AE->le y z=AE->le x z=AE)(tot:∀x y,le x y=AE\/le y x=AE)(anti:∀x y,le x y=AE->le y x=AE->x=y)(l:AG α):l.mergeSort le=Hy le l:=
 J8v anti ((List.mergeSort_perm l le).trans (Zw l).symm) (List.pairwise_mergeSort tr (λa b=>by simpa using tot a b) l) (tQ tr tot l)
end
theorem Kbs{P:Program}{t:Ty}(f:t.flat=AE){g:AM}{fn:t.T×t.T->AH AI}(v:Good P ⟨g,[(.ag,t),(.ag,t)],[(AF,I)],fn⟩)(cf:t.T->t.T->AI)(d:∀x y:t.T,fn (x,y)=AC (cf x y))(W:World)(x y:t.T) :
  Calls P g #[.agg (Cj x).toArray,.agg (Cj y).toArray] W λe w'=>e=.returned (.int .i64 (cf x y))/\Old W w':=by
 have a:∀(x:t.T),AY W (λ_=>False) (.agg (t.cs x)) (.agg (Cj x).toArray):=λx=>by
  have at':∀(i:AM) (z:AV),(t.cs x)[i]?=AC z->(Cj x).toArray.getD i undef=MX z:=λi z hi=>by simp [Cj,Ad,hi]
  refine .agg _ _ (by simp [Cj]) (λi z hi=>?_) (λi z hi=>?_)
  .rw [at' i z hi];exact (mX (w:=W) (S:=λ_=>False) (Sw f x z (Ay hi))).2
  .rw [at' i z hi];exact (mX (Sw f x z (Ay hi))).1
 have l:=v.run (show t.T×t.T from (x,y)) (show AI from cf x y) (d x y) W (λ_=>False) #[.agg (Cj x).toArray,.agg (Cj y).toArray] (λb h=>h.elim);have hA:Fq [(AK.ag,t),(AK.ag,t)] (show t.T×t.T from (x,y))=[.agg (t.cs x),.agg (t.cs y)]:=rfl;simp only [hA] at l;refine (l rfl λi z hi=>?_).mono λe w' ⟨cv,B,r,o⟩=>?_
 .cases i with
  | zero=>simp only [Av,Bc] at hi;subst hi;exact a x
  | succ i=>cases i with
   | zero=>simp only [List.getElem?_cons_succ,Av,Bc] at hi;subst hi;exact a y
   | succ i=>simp at hi
 .have m:AY w' (zb (λ_=>False) W w') (.int .i64 (cf x y)) cv:=r;have A:cv=.int .i64 (cf x y):=by cases m;rfl
  exact ⟨by rw [B,A],o⟩
open Go.Proofs Go.Shelf in
theorem J68{P:Program}{ρ:Ren}(L:SlLaysF0.n6 P ρ){t:Ty}[Inhabited t.T](X:t.flat=AE)(hz:0<t.sz)(aE:∀w,(isAgg (ρ.t 24)).run P w=.ok AE w)(zE:∀w,(Go.sizeOf (ρ.t 24)).run P w=.ok t.sz w)
  {g:AM} {fn:t.T×t.T->AH AI} (hc:Good P ⟨g,[(.ag,t),(.ag,t)],[(AF,I)],fn⟩) (cf:t.T->t.T->AI) (hcf:∀x y:t.T,fn (x,y)=AC (cf x y))
  (hO:Go.Sort.SWO (ltOf cf)) (hT:∀x y,(ltOf cf) x y=AF->(ltOf cf) y x=AF->x=y) (hid:ρ.f 6<yB) (hfk:C9 P (ρ.f 6)) :
  DI P ⟨ρ.f 6,g,AE,t,λl=>if List.length (α:=t.T) l<4611686018427387904 then AC (Hy (α:=t.T) (λx y=>!(ltOf cf) y x) l) else AD⟩:=by
 have em:∀l:AG t.T,l.mergeSort (λx y=>!(ltOf cf) y x)=Hy (λx y=>!(ltOf cf) y x) l:=Jkg (λx y z Q O=>by
  simp only [Aa] at *
  exact hO.ntrans z y x O Q) (λx y=>by
  simp only [Aa];cases h:ltOf cf y x with
  | false=>exact .inl rfl
  | true=>
   cases O:ltOf cf x y with
   | false=>exact .inr rfl
   | true=>exact absurd (hO.trans x y x O h) (by rw [hO.irrefl];exact Ao)) (λx y Q O=>by
  simp only [Aa] at *
  exact hT x y O Q)
 have scl:∀(x:t.T),∀y∈t.cs x,Mj y:=λx=>Sw X x;have Q:∀x:t.T,∀v∈Cj x,v.oneCell'=AE:=λx v R=>by obtain ⟨y,hy,rfl⟩:=List.mem_map.1 R;rcases scl x y hy with ⟨b,rfl⟩|⟨k,n,rfl⟩|⟨z,rfl⟩<;>rfl
 have eg:∀args w,(callFunc g args).run P w=.ok (.enter g args) w:=λargs w=>Kx (f:=g) hc.fn args w;have cmp:∀(w:World) (blk off size:AM),CmpLays P g #[] Cj t.sz cf blk off size w:=λw blk off size m os dk hdk x y=>by rw [Ba];exact (Kbs X hc cf hcf _ x y).mono λe w' ⟨B,o⟩=>⟨B,Jv7 o⟩
 refine ⟨hfk,hid,X,λl r hr=>?_,λl r hr hne w b off cap cs el N J hcap K=>?_,λr hr w A=>?_,λw=>?_⟩
 .simp only at hr;split at hr
  .injection hr with hr;rw [<-hr];exact (Zw l).length_eq
  .cases hr
 .simp only at hr;split at hr
  .rename_i Y;injection hr with hr;have J:off+List.length (α:=t.T) l * t.sz<=cs.size:=J;have hH:Go.Sort.HoldsK Cj t.sz w b off l.toArray:=λj hj=>by
    have G:j<(l.flatMap t.cs).length:=by rw [Jv];simpa using hj
    obtain ⟨-,B⟩:=J38 (Ac G);have H:=K j _ (Ac G);rw [B];have a:off+j<cs.size:=by rw [Jv] at G;omega
    refine ⟨?_,?_⟩
    .simp only [World.cell?,N];rw [Ad,Ab a] at H;simp only [Bb,Bool.false_eq_true,if_false];rw [Ab a];exact AT AC H
    .simp [World.frozen?,N]
   have F:b<w.heap.size:=(Ar.1 N).1;have E:=AnyQ.slices_SortFunc_total L t.sz aE zE Cj J3s Q cf hO g #[] b off cap l.toArray w eg (cmp w b off l.toArray.size) hH F (by simpa using Y) hT;rw [show l.toArray.size=l.length from rfl] at E;refine E.mono λe w' ⟨B,n,os,hw⟩=>⟨B,?_⟩;subst hw;rw [em,hr];have M:r.length=l.length:=by rw [<-hr];exact (Zw l).length_eq
   refine ⟨rfl,rfl,⟨rfl,Nat.le_add_right _ _⟩,?_,λk hk Z=>?_,λel' d=>?_⟩
   .show w.heap.size<=((w.heap.modify b _)++os).size;simp
   .show ((w.heap.modify b _)++os)[k]?=_;rw [Ae (by simpa using hk),Ak,AR (λq=>Z q.symm)]
   .have hel:el'=el:=by rw [N] at d;injection d with d;injection d with _ q;exact q.symm
    subst hel;refine ⟨Go.Sort.putCells id off (Go.Sort.flatK Cj t.sz r.toArray) cs,?_,by simp [Go.Sort.putCells],λi v R=>?_⟩
    .show ((w.heap.modify b _)++os)[b]?=_;rw [Ae (by simpa using F),Ak,AS rfl,N];rfl
    .obtain ⟨q1,q2⟩:=J38 (t:=t) (l:=r) R;have hi:i<r.length * t.sz:=by rw [<-Jv];exact (Ai.1 R).1
     have a:off+i<cs.size:=by rw [M] at hi;omega
     rw [Ad];simp only [Go.Sort.putCells,Ax];rw [Ab a];simp only [Option.map_some,Option.getD_some];rw [AS ⟨by omega,by omega⟩,show off+i - off=i by omega];exact q2
  .cases hr
 .refine (AnyF.slices_SortFunc_none L A 0 (.func (.func g) #[] #[]) w).mono λe w' ⟨B,H⟩=>⟨B,?_⟩;subst H;exact ⟨rfl,rfl,⟨rfl,Ag _⟩,Ag _,λ_ _=>rfl⟩
 .refine (AnyF.slices_SortFunc_none L AD 0 (.func (.func g) #[] #[]) w).mono λe w' ⟨B,H⟩=>⟨B,?_⟩;subst H;exact ⟨rfl,rfl,⟨rfl,Ag _⟩,Ag _,λ_ _=>rfl⟩
theorem J13{α β:Type}(val:α->β)(le:β->β->AN)(x:α):∀l:AG α,(JA (λa b=>le (val a) (val b)) x l).map val=JA le (val x) (l.map val)
 | []=>rfl
 | y::r=>by
  simp only [JA,Az];cases h:le (val x) (val y) with
  | true=>rfl
  | false=>simp only [Az,J13 val le x r]
theorem Jo7{α β:Type}(val:α->β)(le:β->β->AN):∀l:AG α,(Hy (λa b=>le (val a) (val b)) l).map val=Hy le (l.map val)
 | []=>rfl
 | x::r=>by simp only [Hy,Az,J13,Jo7 val le r]
theorem Jw2{α:Type}[Inhabited α]{t:Ty}(val:α->t.T){l:AG α}{i:AM}{v:AV}(f:((l.map val).flatMap t.cs)[i]?=AC v) :
  i<(Go.Sort.flatK (λx=>Cj (val x)) t.sz l.toArray).size/\(Go.Sort.flatK (λx=>Cj (val x)) t.sz l.toArray)[i]! = MX v:=by
 have hi:i<(l.map val).length * t.sz:=by rw [<-Jv];exact (Ai.1 f).1
 obtain ⟨e,a,g⟩:=J98 hi;rw [Ah] at hi;refine ⟨by simpa using hi,?_⟩;rw [Go.Sort.get_flatK _ t.sz l.toArray i (by simpa using hi)];rw [As] at a;cases d:l[i / t.sz]? with
 | none=>rw [d] at a;cases a
 | some u=>
  rw [d] at a;injection a with a;have h:l.toArray[i / t.sz]! = u:=by rw [Aw,Af,d];rfl
  rw [h,a];rw [f] at g;simp only [Cj];rw [Af,As,<-g];rfl
open Go.Proofs Go.Shelf in
theorem J2q{P:Program}{t:Ty}(d:t.flat=AE){g:AM}{fn:t.T×t.T->AH AI}(h:Good P ⟨g,[(.ag,t),(.ag,t)],[(AF,I)],fn⟩)(cf:t.T->t.T->AI)(a:∀x y:t.T,fn (x,y)=AC (cf x y)){α:Type}[Inhabited α](val:α->t.T)(w:World)(b off n:AM) :
  CmpLays P g #[] (λx:α=>Cj (val x)) t.sz (λx y=>cf (val x) (val y)) b off n w:=λm os dk f x y=>by rw [Ba];exact (Kbs d h cf a _ (val x) (val y)).mono λe w' ⟨l,o⟩=>⟨l,Jv7 o⟩
noncomputable def Ht{α:Type}[Inhabited α](lt:α->α->AN)(l:AG α):AG α:=(Go.Sort.pdq lt l.toArray 0 l.length (Go.Lib.bitLen l.length) AE AE).toList
theorem yS{α:Type}[Inhabited α]{lt:α->α->AN}(hO:Go.Sort.SWO lt)(l:AG α):Go.Sort.PermIn 0 l.length l.toArray (Go.Sort.pdq lt l.toArray 0 l.length (Go.Lib.bitLen l.length) AE AE)/\Go.Sort.SortedIn lt 0 l.length (Go.Sort.pdq lt l.toArray 0 l.length (Go.Lib.bitLen l.length) AE AE):=
 Go.Sort.pdq_sorts lt hO l.toArray 0 l.length (Go.Lib.bitLen l.length) AE AE (Nat.zero_le _) (Ag _) (Or.inl rfl)
theorem nP{α:Type}[Inhabited α]{lt:α->α->AN}(hO:Go.Sort.SWO lt)(l:AG α):(Ht lt l).Perm l:=by
 obtain ⟨d,-,a⟩:=(yS hO l).1;have g:(Go.Sort.pdq lt l.toArray 0 l.length (Go.Lib.bitLen l.length) AE AE).extract 0 l.length=Go.Sort.pdq lt l.toArray 0 l.length (Go.Lib.bitLen l.length) AE AE:=by apply Ap;rw [d];simp
 have f:l.toArray.extract 0 l.length=l.toArray:=by apply Ap;simp
 rw [g,f] at a;exact a
theorem VH{α:Type}[Inhabited α]{lt:α->α->AN}(hO:Go.Sort.SWO lt)(l:AG α):(Ht lt l).Pairwise λa b=>lt b a=AF:=by
 have hl:=(nP hO l).length_eq;have h:=(yS hO l).2;rw [List.pairwise_iff_getElem];intro i j hi m f;have:=h i j (Nat.zero_le _) f (by omega);have e:∀k (g:k<(Ht lt l).length),(Go.Sort.pdq lt l.toArray 0 l.length (Go.Lib.bitLen l.length) AE AE)[k]! = (Ht lt l)[k]:=λk g=>by have d:k<(Go.Sort.pdq lt l.toArray 0 l.length (Go.Lib.bitLen l.length) AE AE).size:=g;rw [getElem!_pos _ k d];rfl
 rw [e j m,e i hi] at this;exact this
open Go.Proofs Go.Shelf in
theorem Jh2{P:Program}{ρ:Ren}(L:SlLaysF0.n6 P ρ){t:Ty}(R:t.flat=AE)(aE:∀w,(isAgg (ρ.t 24)).run P w=.ok AE w)(zE:∀w,(Go.sizeOf (ρ.t 24)).run P w=.ok t.sz w)
  {g:AM} {cb:Array Value} (cf:t.T->t.T->AI)
  {α:Type} [Inhabited α] (val:α->t.T) (hO:Go.Sort.SWO (ltOf λx y:α=>cf (val x) (val y))) (l:AG α) (G:l.length<4611686018427387904)
  {w:World} {b off cap:AM} {cs:Array Value} {el:TypeId} (eg:∀args w,(callFunc g args).run P w=.ok (.enter g args) w) (cmp:CmpLays P g cb (λx:α=>Cj (val x)) t.sz (λx y=>cf (val x) (val y)) b off l.toArray.size w) (E:w.heap[b]?=AC (.cells cs el (0,0))) (X:off+l.length * t.sz<=cs.size) (B:∀(i:AM) (v:AV),((l.map val).flatMap t.cs)[i]?=AC v->cs.getD (off+i) undef=MX v) :
  Calls P (ρ.f 6) #[.slice (AC ⟨b,off,AD⟩) l.length cap,.func (.func g) #[] cb] w λe w'=>e=.returned (.tuple #[])/\J3n w w' b off (l.length * t.sz) cs (((Ht (ltOf λx y:α=>cf (val x) (val y)) l).map val).flatMap t.cs):=by
 have h1:∀x:α,∀v∈Cj (val x),v.oneCell'=AE:=λx v F=>by obtain ⟨y,O,rfl⟩:=List.mem_map.1 F;rcases Sw R (val x) y O with ⟨b,rfl⟩|⟨k,n,rfl⟩|⟨z,rfl⟩<;>rfl
 have hO1:∀x y:α,(ltOf λx y:α=>cf (val x) (val y)) x y=ltOf cf (val x) (val y):=λx y=>rfl;have hH:Go.Sort.HoldsK (λx:α=>Cj (val x)) t.sz w b off l.toArray:=λj Z=>by
  have A:j<((l.map val).flatMap t.cs).length:=by rw [Jv,Ah];simpa using Z
  obtain ⟨-,K⟩:=Jw2 val (Ac A);have M:=B j _ (Ac A);rw [K];have a:off+j<cs.size:=by rw [Jv,Ah] at A;omega
  refine ⟨?_,?_⟩
  .simp only [World.cell?,E];rw [Ad,Ab a] at M;simp only [Bb,Bool.false_eq_true,if_false];rw [Ab a];exact AT AC M
  .simp [World.frozen?,E]
 have m:b<w.heap.size:=(Ar.1 E).1;have f:=AnyQ.slices_SortFunc_eq L t.sz aE zE (λx:α=>Cj (val x)) (λx=>J3s (val x)) h1 (λx y=>cf (val x) (val y)) hO g cb b off cap l.toArray w eg cmp hH m (by simpa using G);rw [show l.toArray.size=l.length from rfl] at f;refine f.mono λe w' ⟨K,n,os,Q⟩=>⟨K,?_⟩;subst Q;have h:(Ht (ltOf λx y:α=>cf (val x) (val y)) l).length=l.length:=(nP hO l).length_eq;have er:Go.Sort.pdq (ltOf λx y:α=>cf (val x) (val y)) l.toArray 0 l.length (Go.Lib.bitLen l.length) AE AE=(Ht (ltOf λx y:α=>cf (val x) (val y)) l).toArray:=rfl;rw [er];generalize hr:Ht (ltOf λx y:α=>cf (val x) (val y)) l=r at h;refine ⟨rfl,rfl,⟨rfl,Nat.le_add_right _ _⟩,?_,λk Y H=>?_,λel' d=>?_⟩
 .show w.heap.size<=((w.heap.modify b _)++os).size;simp
 .show ((w.heap.modify b _)++os)[k]?=_;rw [Ae (by simpa using Y),Ak,AR (λq=>H q.symm)]
 .have J:el'=el:=by rw [E] at d;injection d with d;injection d with _ q;exact q.symm
  subst J;refine ⟨Go.Sort.putCells id off (Go.Sort.flatK (λx:α=>Cj (val x)) t.sz r.toArray) cs,?_,by simp [Go.Sort.putCells],λi v F=>?_⟩
  .show ((w.heap.modify b _)++os)[b]?=_;rw [Ae (by simpa using m),Ak,AS rfl,E];rfl
  .obtain ⟨q1,N⟩:=Jw2 val F;have hi:i<r.length * t.sz:=by have:=(Ai.1 F).1;rw [Jv,Ah] at this;exact this
   have a:off+i<cs.size:=by rw [h] at hi;omega
   rw [Ad];simp only [Go.Sort.putCells,Ax];rw [Ab a];simp only [Option.map_some,Option.getD_some];rw [AS ⟨by omega,by omega⟩,show off+i - off=i by omega];exact N
open Go.Proofs Go.Shelf in
theorem Nw{P:Program}{ρ:Ren}(L:SlLaysF0.n6 P ρ){t:Ty}(B:t.flat=AE)(aE:∀w,(isAgg (ρ.t 24)).run P w=.ok AE w)(zE:∀w,(Go.sizeOf (ρ.t 24)).run P w=.ok t.sz w)
  {g:AM} {cb:Array Value} (cf:t.T->t.T->AI)
  {α:Type} [Inhabited α] (val:α->t.T) (hO:Go.Sort.SWO (ltOf λx y:α=>cf (val x) (val y))) (hT:∀x y:α,(ltOf cf) (val x) (val y)=AF->(ltOf cf) (val y) (val x)=AF->x=y) (l:AG α) (m:l.length<4611686018427387904)
  {w:World} {b off cap:AM} {cs:Array Value} {el:TypeId} (eg:∀args w,(callFunc g args).run P w=.ok (.enter g args) w) (cmp:CmpLays P g cb (λx:α=>Cj (val x)) t.sz (λx y=>cf (val x) (val y)) b off l.toArray.size w) (E:w.heap[b]?=AC (.cells cs el (0,0))) (f:off+l.length * t.sz<=cs.size) (a:∀(i:AM) (v:AV),((l.map val).flatMap t.cs)[i]?=AC v->cs.getD (off+i) undef=MX v) :
  Calls P (ρ.f 6) #[.slice (AC ⟨b,off,AD⟩) l.length cap,.func (.func g) #[] cb] w λe w'=>e=.returned (.tuple #[])/\J3n w w' b off (l.length * t.sz) cs ((Hy (λx y=>!(ltOf cf) y x) (l.map val)).flatMap t.cs):=by
 have em:l.mergeSort (λx y=>!(ltOf cf) (val y) (val x))=Hy (λx y=>!(ltOf cf) (val y) (val x)) l:=Jkg (λx y z r d=>by
  simp only [Aa] at *
  exact hO.ntrans z y x d r) (λx y=>by
  simp only [Aa];cases h:ltOf cf (val y) (val x) with
  | false=>exact .inl rfl
  | true=>
   cases d:ltOf cf (val x) (val y) with
   | false=>exact .inr rfl
   | true=>exact absurd (hO.trans x y x d h) (by rw [hO.irrefl];exact Ao)) (λx y r d=>by
  simp only [Aa] at *
  exact hT x y d r) l
 have A:=Jh2 L B aE zE cf val hO l m (cap:=cap) eg cmp E f a;have F:Ht (ltOf λx y:α=>cf (val x) (val y)) l=Hy (λx y=>!(ltOf cf) (val y) (val x)) l:=by rw [<-em];exact Go.Sort.sorted_unique_holds hO hT l.toArray _ (yS hO l).1 (yS hO l).2
 rw [F,Jo7 val (λx y=>!(ltOf cf) y x) l] at A;exact A
def J4b{α:Type}(lt eq:α->α->AN)(l:AG α):AN:=l.all λx=>l.all λy=>lt x y || lt y x || eq x y
open Go.Proofs Go.Shelf in
theorem J49{P:Program}{ρ:Ren}(L:SlLaysF0.n6 P ρ){t:Ty}(m:t.flat=AE)(aE:∀w,(isAgg (ρ.t 24)).run P w=.ok AE w)(zE:∀w,(Go.sizeOf (ρ.t 24)).run P w=.ok t.sz w)
  {g:AM} {fn:t.T×t.T->AH AI} (R:Good P ⟨g,[(.ag,t),(.ag,t)],[(AF,I)],fn⟩) (cf:t.T->t.T->AI) (K:∀x y:t.T,fn (x,y)=AC (cf x y)) (ok:t.T->AN) (hO:Go.Sort.SWO (ltOf λx y:{x:t.T // ok x=AE}=>cf x.1 y.1)) (eq:t.T->t.T->AN) (J:∀x y,eq x y=AE->x=y) (G:ρ.f 6<yB) (H:C9 P (ρ.f 6)) :
  DI P ⟨ρ.f 6,g,AE,t,λl=>if List.length (α:=t.T) l<4611686018427387904/\(J4b (α:=t.T) (ltOf cf) eq l&&Bd (α:=t.T) l ok)=AE then AC (Hy (α:=t.T) (λx y=>!(ltOf cf) y x) l) else AD⟩:=by
 refine ⟨H,G,m,λl r hr=>?_,λl r hr E w b off cap cs el Y B Q d=>?_,λr hr w A=>?_,λw=>?_⟩
 .simp only at hr;split at hr
  .injection hr with hr;rw [<-hr];exact (Zw l).length_eq
  .cases hr
 .simp only at hr;split at hr
  .rename_i X;injection hr with hr;obtain ⟨F,h⟩:=X;cases l with
   | nil=>exact (E rfl).elim
   | cons y l=>
    haveI:Inhabited {x:t.T // x∈y::l}:=⟨⟨y,Aq⟩⟩
    have O:(y::l).attach.map Subtype.val=y::l:=List.attach_map_subtype_val _;have hl:(y::l).attach.length=(y::l).length:=List.length_attach;rw [Bool.and_eq_true] at h;obtain ⟨h,a⟩:=h;have a:∀x∈y::l,ok x=AE:=Am.1 a;have:=Nw (cb:=#[]) L m aE zE cf (α:={x:t.T // x∈y::l}) Subtype.val ⟨λu=>hO.irrefl ⟨u.1,a _ u.2⟩,λu v z=>hO.trans ⟨u.1,a _ u.2⟩ ⟨v.1,a _ v.2⟩ ⟨z.1,a _ z.2⟩,λu v z=>hO.ntrans ⟨u.1,a _ u.2⟩ ⟨v.1,a _ v.2⟩ ⟨z.1,a _ z.2⟩⟩ (λu v h1 Z=>by have:=Am.1 (Am.1 h u.1 u.2) v.1 v.2;rw [h1,Z] at this;exact Subtype.ext (J _ _ (by simpa using this))) (y::l).attach (by rw [hl];exact F) (cap:=cap) (λargs w=>Kx (f:=g) R.fn args w) (J2q m R cf K _ w b off _) Y (by rw [hl];exact B) (by rw [O];exact d)
    rw [O,hl,hr] at this;exact this
  .cases hr
 .refine (AnyF.slices_SortFunc_none L A 0 (.func (.func g) #[] #[]) w).mono λe w' ⟨N,M⟩=>⟨N,?_⟩;subst M;exact ⟨rfl,rfl,⟨rfl,Ag _⟩,Ag _,λ_ _=>rfl⟩
 .refine (AnyF.slices_SortFunc_none L AD 0 (.func (.func g) #[] #[]) w).mono λe w' ⟨N,M⟩=>⟨N,?_⟩;subst M;exact ⟨rfl,rfl,⟨rfl,Ag _⟩,Ag _,λ_ _=>rfl⟩
def MS{α:Type}(ok:α->AN)(l:AG α)(h:l.all ok=AE):AG {x:α // ok x=AE}:=l.pmap Subtype.mk (Am.1 h)
theorem kG{α:Type}{ok:α->AN}{l:AG α}(h:l.all ok=AE):(MS ok l h).map Subtype.val=l:=by unfold MS;rw [List.map_pmap];exact List.pmap_eq_map .. |>.trans (List.map_id _)
noncomputable def bV{t:Ty}(cf:t.T->t.T->AI)(ok:t.T->AN)(eq:t.T->t.T->AN)(d0:{x:t.T // ok x=AE})(l:AG t.T):AH (AG t.T):=
 if List.length (α:=t.T) l<4611686018427387904 then
  if (J4b (α:=t.T) (Go.Proofs.ltOf cf) eq l&&Bd (α:=t.T) l ok)=AE then AC (Hy (α:=t.T) (λx y=>!(Go.Proofs.ltOf cf) y x) l)
  else if h:l.all ok=AE then AC ((haveI:Inhabited {x:t.T // ok x=AE}:=⟨d0⟩;Ht (Go.Proofs.ltOf λx y:{x:t.T // ok x=AE}=>cf x.1 y.1) (MS ok l h)).map Subtype.val) else AD
 else AD
open Go.Proofs Go.Shelf in
theorem Jxu{P:Program}{ρ:Ren}(L:SlLaysF0.n6 P ρ){t:Ty}(J:t.flat=AE)(aE:∀w,(isAgg (ρ.t 24)).run P w=.ok AE w)(zE:∀w,(Go.sizeOf (ρ.t 24)).run P w=.ok t.sz w)
  {g:AM} {fn:t.T×t.T->AH AI} (N:Good P ⟨g,[(.ag,t),(.ag,t)],[(AF,I)],fn⟩) (cf:t.T->t.T->AI) (F:∀x y:t.T,fn (x,y)=AC (cf x y)) (ok:t.T->AN) (hO:Go.Sort.SWO (ltOf λx y:{x:t.T // ok x=AE}=>cf x.1 y.1)) (eq:t.T->t.T->AN) (M:∀x y,eq x y=AE->x=y) (d0:{x:t.T // ok x=AE}) (B:ρ.f 6<yB) (E:C9 P (ρ.f 6)) :
  DI P ⟨ρ.f 6,g,AE,t,bV cf ok eq d0⟩:=by
 have a:=J49 L J aE zE N cf F ok hO eq M B E
 letI:Inhabited {x:t.T // ok x=AE}:=⟨d0⟩
 have red:∀l r,bV cf ok eq d0 l=AC r->(if List.length (α:=t.T) l<4611686018427387904/\(J4b (α:=t.T) (ltOf cf) eq l&&Bd (α:=t.T) l ok)=AE then AC (Hy (α:=t.T) (λx y=>!(ltOf cf) y x) l) else AD)=AC r \/
   (List.length (α:=t.T) l<4611686018427387904/\∃h:l.all ok=AE,r=(Ht (ltOf λx y:{x:t.T // ok x=AE}=>cf x.1 y.1) (MS ok l h)).map Subtype.val):=λl r h=>by
  unfold bV at h;split at h
  .rename_i H;split at h
   .rename_i m;left;rw [AS ⟨H,m⟩];exact h
   .split at h
    .rename_i R;injection h with h;exact .inr ⟨H,R,h.symm⟩
    .cases h
  .cases h
 refine ⟨E,B,J,λl r hr=>?_,λl r hr K w b off cap cs el Q v G d=>?_,λr hr w A=>?_,a.pz⟩
 .rcases red l r hr with h|⟨H,m,rfl⟩
  .exact a.len l r h
  .have e:=AT List.length (kG m);rw [Ah] at e;rw [Ah,(nP hO _).length_eq,e]
 .rcases red l r hr with h|⟨H,m,rfl⟩
  .exact a.run l r h K w b off cap cs el Q v G d
  .have O:=kG m;have hl:(MS ok l m).length=l.length:=by have e:=AT List.length O;rwa [Ah] at e
   have:=Jh2 (cb:=#[]) L J aE zE cf (α:={x:t.T // ok x=AE}) Subtype.val hO (MS ok l m) (by rw [hl];exact H) (cap:=cap) (λargs w=>Kx (f:=g) N.fn args w) (J2q J N cf F _ w b off _) Q (by rw [hl];exact v) (by rw [O];exact d);rw [hl] at this;exact this
 .refine (AnyF.slices_SortFunc_none L A 0 (.func (.func g) #[] #[]) w).mono λe w' ⟨Y,X⟩=>⟨Y,?_⟩;subst X;exact ⟨rfl,rfl,⟨rfl,Ag _⟩,Ag _,λ_ _=>rfl⟩
theorem Jnn{t:Ty}{cf:t.T->t.T->AI}{ok:t.T->AN}(hO:Go.Sort.SWO (Go.Proofs.ltOf λx y:{x:t.T // ok x=AE}=>cf x.1 y.1)){eq:t.T->t.T->AN}{d0:{x:t.T // ok x=AE}}{l:AG t.T}(hl:l.length<4611686018427387904)(f:∀x∈l,ok x=AE) :
  ∃r,bV cf ok eq d0 l=AC r/\r.Perm l/\r.Pairwise λa b=>Go.Proofs.ltOf cf b a=AF:=by
 have d:l.all ok=AE:=Am.2 f;unfold bV;rw [AS hl];by_cases m:(J4b (α:=t.T) (Go.Proofs.ltOf cf) eq l&&Bd (α:=t.T) l ok)=AE
 .rw [AS m];refine ⟨_,rfl,Zw l,?_⟩;have v:=kG d;have e:=Jo7 (α:={x:t.T // ok x=AE}) Subtype.val (λx y=>!(Go.Proofs.ltOf cf) y x) (MS ok l d);rw [v] at e;rw [<-e,List.pairwise_map];refine (tQ (le:=λx y:{x:t.T // ok x=AE}=>!(Go.Proofs.ltOf cf) y.1 x.1) (λx y z w g=>?_) (λx y=>?_) _).imp λ{a b} h=>?_
  .simp only [Aa] at *
   exact hO.ntrans z y x g w
  .simp only [Aa];cases h:Go.Proofs.ltOf cf y.1 x.1 with
   | false=>exact .inl rfl
   | true=>
    cases g:Go.Proofs.ltOf cf x.1 y.1 with
    | false=>exact .inr rfl
    | true=>exact absurd (hO.trans x y x g h) (by rw [hO.irrefl];exact Ao)
  .simp only [Aa] at h;exact h
 .rw [AR m,dif_pos d]
  letI:Inhabited {x:t.T // ok x=AE}:=⟨d0⟩
  refine ⟨_,rfl,?_,?_⟩
  .have:=(nP hO (MS ok l d)).map Subtype.val;rwa [kG d] at this
  .rw [List.pairwise_map];exact (VH hO (MS ok l d)).imp λh=>h
end Go.Dn
