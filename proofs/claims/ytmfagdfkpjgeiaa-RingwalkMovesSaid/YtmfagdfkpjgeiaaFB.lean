/- Sorting by a function that parts any two. Conditions: as the library's contract of slices.SortFunc asks. -/
import Derived.Test.YtmfagdfkpjgeiaaFD
import Derived.Shelf.SlSortCmp.NoneTotal
open List renaming length_map → Aa, getElem?_eq_getElem → Ac, pairwise_cons → Ad, all_eq_true → Ae, getElem!_eq_getElem?_getD → Ag, mem_cons_self → Ai, mem_cons → Aj, getElem?_eq_some_iff → Ak, getElem?_cons_zero → Am, mem_of_getElem? → Ao, map_cons → Ap, all → Aq
open Bool renaming not_eq_true' → Ab, false_ne_true → Ah
open Nat renaming le_refl → Af
namespace Go.Dn
open Go Go.Vv
set_option linter.unusedVariables false
set_option linter.unusedSimpArgs false
theorem old_grow {w w':World} (o:Old w w'):∃q os',w'=Go.Sort.grow (w.drewN q) os':=by
 refine ⟨w'.drawn - w.drawn,w'.heap.extract w.heap.size w'.heap.size,?_⟩
 obtain ⟨h1,h2,⟨h3,h6⟩,h4,h5⟩:=o
 obtain ⟨heap,tape,drawn,os,output⟩:=w
 obtain ⟨heap',tape',drawn',os',output'⟩:=w'
 simp only at h1 h2 h3 h4 h5 h6
 subst h1
 subst h2
 subst h3
 simp only [Go.Sort.grow,World.drewN,World.mk.injEq,true_and,and_true]
 refine ⟨?_,by omega⟩
 apply Array.ext_getElem?
 intro i
 by_cases hi:i<heap.size
 ·rw [h5 i hi,Array.getElem?_append_left hi]
 ·rw [Array.getElem?_append_right (by omega),Array.getElem?_extract]
  split
  ·rw [show heap.size+(i - heap.size)=i by omega]
  ·rw [Array.getElem?_eq_none (by omega)]
def encv {t:Ty} (x:t.T):List Value:=(t.cs x).map vOf
theorem encv_len {t:Ty} (x:t.T):(encv x).length=t.sz:=by simp [encv,Qs]
theorem flat_at {t:Ty} {l:List t.T} {j:Nat} (hj:j<l.length * t.sz):∃e,l[j / t.sz]?=some e∧(l.flatMap t.cs)[j]?=(t.cs e)[j % t.sz]?:=by
 have hz:0<t.sz:=by
  cases h:t.sz with
  | zero=>rw [h] at hj;omega
  | succ n=>omega
 have hlt:j / t.sz<l.length:=(Nat.div_lt_iff_lt_mul hz).2 hj
 refine ⟨l[j / t.sz],Ac hlt,?_⟩
 have e:=Zh (l:=l) (i:=j / t.sz) (Ac hlt)
 rw [←e]
 have hm:j % t.sz<t.sz:=Nat.mod_lt _ hz
 have hd:j / t.sz * t.sz+j % t.sz=j:=Nat.div_add_mod' j t.sz
 simp only [Vv.cut]
 rw [List.getElem?_take_of_lt hm,List.getElem?_drop,hd]
section
variable {α:Type} {le:α→α→Bool}
def insS (le:α→α→Bool) (x:α):List α→List α
 | []=>[x]
 | y::r=>match le x y with|true=>x::y::r|false=>y::insS le x r
def Jcl (le:α→α→Bool):List α→List α
 | []=>[]
 | x::r=>insS le x (Jcl le r)
theorem Jea (x:α):∀l:List α,(insS le x l).Perm (x::l)
 | []=>.refl _
 | y::r=>by
  simp only [insS]
  split
  ·exact .refl _
  ·exact ((Jea x r).cons y).trans (.swap x y r)
theorem ze:∀l:List α,(Jcl le l).Perm l
 | []=>.refl _
 | x::r=>(Jea x _).trans ((ze r).cons x)
theorem Jsy (tr:∀x y z,le x y=true→le y z=true→le x z=true) (tot:∀x y,le x y=true∨le y x=true) (x:α):∀ {l:List α},l.Pairwise (fun a b=>le a b=true)→(insS le x l).Pairwise fun a b=>le a b=true
 | [],_=>List.pairwise_singleton _ _
 | y::r,h=>by
  obtain ⟨h1,h2⟩:=Ad.1 h
  simp only [insS]
  split
  ·rename_i hx
   exact Ad.2 ⟨fun z hz=>by
    rcases Aj.1 hz with rfl|hz
    ·exact hx
    ·exact tr _ _ _ hx (h1 z hz),h⟩
  ·rename_i hx
   have hyx:le y x=true:=(tot x y).resolve_left (by rw [hx];exact Ah)
   exact Ad.2 ⟨fun z hz=>by
    rcases Aj.1 ((Jea x r).mem_iff.1 hz) with rfl|hz
    ·exact hyx
    ·exact h1 z hz,Jsy tr tot x h2⟩
theorem Jh4 (tr:∀x y z,le x y=true→le y z=true→le x z=true) (tot:∀x y,le x y=true∨le y x=true):∀l:List α,(Jcl le l).Pairwise fun a b=>le a b=true
 | []=>.nil
 | x::r=>Jsy tr tot x (Jh4 tr tot r)
theorem Jr2 (anti:∀x y,le x y=true→le y x=true→x=y):∀ {a b:List α},a.Perm b→a.Pairwise (fun a b=>le a b=true)→b.Pairwise (fun a b=>le a b=true)→a=b
 | [],b,h,_,_=>by rw [h.nil_eq]
 | x::a,[],h,_,_=>by have:=h.length_eq;simp at this
 | x::a,y::b,h,h1,h2=>by
  obtain ⟨p1,p2⟩:=Ad.1 h1
  obtain ⟨q1,q2⟩:=Ad.1 h2
  have e:x=y:=by
   rcases Aj.1 (h.mem_iff.1 (Ai:x∈x::a)) with e|hx
   ·exact e
   ·rcases Aj.1 (h.mem_iff.2 (Ai:y∈y::b)) with e|hy
    ·exact e.symm
    ·exact anti x y (p1 y hy) (q1 x hx)
  subst e
  rw [Jr2 anti (List.perm_cons x |>.1 h) p2 q2]
theorem Jn5 (tr:∀x y z,le x y=true→le y z=true→le x z=true) (tot:∀x y,le x y=true∨le y x=true) (anti:∀x y,le x y=true→le y x=true→x=y) (l:List α):l.mergeSort le=Jcl le l :=
 Jr2 anti ((List.mergeSort_perm l le).trans (ze l).symm) (List.pairwise_mergeSort tr (fun a b=>by simpa using tot a b) l) (Jh4 tr tot l)
end
theorem cmp_run {P:Program} {t:Ty} (ht:t.flat=true) {g:Nat} {fn:t.T×t.T→Option Int} (hc:Good P ⟨g,[(.ag,t),(.ag,t)],[(false,I)],fn⟩) (cf:t.T→t.T→Int) (hcf:∀x y:t.T,fn (x,y)=some (cf x y)) (W:World) (x y:t.T) :
  Calls P g #[.agg (encv x).toArray,.agg (encv y).toArray] W fun e w'=>e=.returned (.int .i64 (cf x y))∧Old W w':=by
 have hag:∀(x:t.T),RepP W (fun _=>False) (.agg (t.cs x)) (.agg (encv x).toArray):=fun x=>by
  have at':∀(i:Nat) (z:AV),(t.cs x)[i]?=some z→(encv x).toArray.getD i undef=vOf z:=fun i z hi=>by simp [encv,Array.getD_eq_getD_getElem?,hi]
  refine .agg _ _ (by simp [encv]) (fun i z hi=>?_) (fun i z hi=>?_)
  ·rw [at' i z hi]
   exact (Jjr (w:=W) (S:=fun _=>False) (Zy ht x z (Ao hi))).2
  ·rw [at' i z hi]
   exact (Jjr (Zy ht x z (Ao hi))).1
 have h0:=hc.run (show t.T×t.T from (x,y)) (show Int from cf x y) (hcf x y) W (fun _=>False) #[.agg (encv x).toArray,.agg (encv y).toArray] (fun b h=>h.elim)
 have hA:Xy [(AK.ag,t),(AK.ag,t)] (show t.T×t.T from (x,y))=[.agg (t.cs x),.agg (t.cs y)]:=rfl
 simp only [hA] at h0
 refine (h0 rfl fun i z hi=>?_).mono fun e w' ⟨cv,e1,r1,o⟩=>?_
 ·cases i with
  | zero=>simp only [Am,Option.some.injEq] at hi;subst hi;exact hag x
  | succ i=>cases i with
   | zero=>simp only [List.getElem?_cons_succ,Am,Option.some.injEq] at hi;subst hi;exact hag y
   | succ i=>simp at hi
 ·have r2:RepP w' (X8 (fun _=>False) W w') (.int .i64 (cf x y)) cv:=r1
  have e2:cv=.int .i64 (cf x y):=by cases r2;rfl
  exact ⟨by rw [e1,e2],o⟩
end Go.Dn
namespace Go.Dn
open Go Go.Vv
set_option linter.unusedVariables false
set_option linter.unusedSimpArgs false
theorem Jqk {α β:Type} (val:α→β) (le:β→β→Bool) (x:α):∀l:List α,(insS (fun a b=>le (val a) (val b)) x l).map val=insS le (val x) (l.map val)
 | []=>rfl
 | y::r=>by
  simp only [insS,Ap]
  cases h:le (val x) (val y) with
  | true=>rfl
  | false=>simp only [Ap,Jqk val le x r]
theorem Jem {α β:Type} (val:α→β) (le:β→β→Bool):∀l:List α,(Jcl (fun a b=>le (val a) (val b)) l).map val=Jcl le (l.map val)
 | []=>rfl
 | x::r=>by simp only [Jcl,Ap,Jqk,Jem val le r]
theorem Jlp {α:Type} [Inhabited α] {t:Ty} (val:α→t.T) {l:List α} {i:Nat} {v:AV} (hv:((l.map val).flatMap t.cs)[i]?=some v) :
  i<(Go.Sort.flatK (fun x=>encv (val x)) t.sz l.toArray).size∧(Go.Sort.flatK (fun x=>encv (val x)) t.sz l.toArray)[i]! = vOf v:=by
 have hi:i<(l.map val).length * t.sz:=by
  rw [←Jq]
  exact (Ak.1 hv).1
 obtain ⟨e,h1,h2⟩:=flat_at hi
 rw [Aa] at hi
 refine ⟨by simpa using hi,?_⟩
 rw [Go.Sort.get_flatK _ t.sz l.toArray i (by simpa using hi)]
 rw [List.getElem?_map] at h1
 cases hq:l[i / t.sz]? with
 | none=>rw [hq] at h1;cases h1
 | some u =>
  rw [hq] at h1
  injection h1 with h1
  have e1:l.toArray[i / t.sz]! = u:=by
   rw [List.getElem!_toArray,Ag,hq]
   rfl
  rw [e1,h1]
  rw [hv] at h2
  simp only [encv]
  rw [Ag,List.getElem?_map,←h2]
  rfl
noncomputable def pdqL {α:Type} [Inhabited α] (lt:α→α→Bool) (l:List α):List α:=(Go.Sort.pdq lt l.toArray 0 l.length (Go.Lib.bitLen l.length) true true).toList
theorem zl {α:Type} [Inhabited α] {lt:α→α→Bool} (hO:Go.Sort.SWO lt) (l:List α):Go.Sort.PermIn 0 l.length l.toArray (Go.Sort.pdq lt l.toArray 0 l.length (Go.Lib.bitLen l.length) true true)∧Go.Sort.SortedIn lt 0 l.length (Go.Sort.pdq lt l.toArray 0 l.length (Go.Lib.bitLen l.length) true true) :=
 Go.Sort.pdq_sorts lt hO l.toArray 0 l.length (Go.Lib.bitLen l.length) true true (Nat.zero_le _) (Af _) (Or.inl rfl)
theorem Jbu {α:Type} [Inhabited α] {lt:α→α→Bool} (hO:Go.Sort.SWO lt) (l:List α):(pdqL lt l).Perm l:=by
 obtain ⟨h1,-,h3⟩:=(zl hO l).1
 have e1:(Go.Sort.pdq lt l.toArray 0 l.length (Go.Lib.bitLen l.length) true true).extract 0 l.length=Go.Sort.pdq lt l.toArray 0 l.length (Go.Lib.bitLen l.length) true true:=by
  apply Array.extract_eq_self_of_le
  rw [h1];simp
 have e2:l.toArray.extract 0 l.length=l.toArray:=by apply Array.extract_eq_self_of_le;simp
 rw [e1,e2] at h3
 exact h3
theorem pdqL_pw {α:Type} [Inhabited α] {lt:α→α→Bool} (hO:Go.Sort.SWO lt) (l:List α):(pdqL lt l).Pairwise fun a b=>lt b a=false:=by
 have hl:=(Jbu hO l).length_eq
 have h:=(zl hO l).2
 rw [List.pairwise_iff_getElem]
 intro i j hi hj hij
 have:=h i j (Nat.zero_le _) hij (by omega)
 have e:∀k (hk:k<(pdqL lt l).length),(Go.Sort.pdq lt l.toArray 0 l.length (Go.Lib.bitLen l.length) true true)[k]! = (pdqL lt l)[k]:=fun k hk=>by
  have hk':k<(Go.Sort.pdq lt l.toArray 0 l.length (Go.Lib.bitLen l.length) true true).size:=hk
  rw [getElem!_pos _ k hk']
  rfl
 rw [e j hj,e i hi] at this
 exact this
open Go.Proofs Go.Shelf in
theorem Jcw {P:Program} {ρ:Ren} (L:SlLaysF0.n6 P ρ) {t:Ty} (ht:t.flat=true) (aE:∀w,(isAgg (ρ.t 24)).run P w=.ok true w) (zE:∀w,(Go.sizeOf (ρ.t 24)).run P w=.ok t.sz w)
  {g:Nat} {fn:t.T×t.T→Option Int} (hc:Good P ⟨g,[(.ag,t),(.ag,t)],[(false,I)],fn⟩) (cf:t.T→t.T→Int) (hcf:∀x y:t.T,fn (x,y)=some (cf x y))
  {α:Type} [Inhabited α] (val:α→t.T) (hO:Go.Sort.SWO (ltOf fun x y:α=>cf (val x) (val y))) (l:List α) (hlt:l.length<4611686018427387904)
  {w:World} {b off cap:Nat} {cs:Array Value} {el:TypeId} (hb:w.heap[b]?=some (.cells cs el (0,0))) (hsz:off+l.length * t.sz≤cs.size) (hrow:∀(i:Nat) (v:AV),((l.map val).flatMap t.cs)[i]?=some v→cs.getD (off+i) undef=vOf v) :
  Calls P (ρ.f 6) #[.slice (some ⟨b,off,none⟩) l.length cap,.func (.func g) #[] #[]] w fun e w'=>e=.returned (.tuple #[])∧Jsk w w' b off (l.length * t.sz) cs (((pdqL (ltOf fun x y:α=>cf (val x) (val y)) l).map val).flatMap t.cs):=by
 have h1:∀x:α,∀v∈encv (val x),v.oneCell'=true:=fun x v hv=>by
  obtain ⟨y,hy,rfl⟩:=List.mem_map.1 hv
  rcases Zy ht (val x) y hy with ⟨b,rfl⟩|⟨k,n,rfl⟩|⟨z,rfl⟩<;>rfl
 have eg:∀args w,(callFunc g args).run P w=.ok (.enter g args) w:=fun args w=>J0 (f:=g) hc.fn args w
 have hO1:∀x y:α,(ltOf fun x y:α=>cf (val x) (val y)) x y=ltOf cf (val x) (val y):=fun x y=>rfl
 have cmp:CmpLays P g #[] (fun x:α=>encv (val x)) t.sz (fun x y=>cf (val x) (val y)) b off l.toArray.size w:=fun m os dk hdk x y=>by
  rw [Array.append_empty]
  exact (cmp_run ht hc cf hcf _ (val x) (val y)).mono fun e w' ⟨e1,o⟩=>⟨e1,old_grow o⟩
 have hH:Go.Sort.HoldsK (fun x:α=>encv (val x)) t.sz w b off l.toArray:=fun j hj=>by
  have hj':j<((l.map val).flatMap t.cs).length:=by rw [Jq,Aa];simpa using hj
  obtain ⟨-,e1⟩:=Jlp val (Ac hj')
  have e2:=hrow j _ (Ac hj')
  rw [e1]
  have hlt2:off+j<cs.size:=by rw [Jq,Aa] at hj';omega
  refine ⟨?_,?_⟩
  ·simp only [World.cell?,hb]
   rw [Array.getD_eq_getD_getElem?,Array.getElem?_eq_getElem hlt2] at e2
   simp only [Option.isSome_none,Bool.false_eq_true,if_false]
   rw [Array.getElem?_eq_getElem hlt2]
   exact congrArg some e2
  ·simp [World.frozen?,hb]
 have hblk:b<w.heap.size:=(Array.getElem?_eq_some_iff.1 hb).1
 have hrun:=AnyQ.slices_SortFunc_eq L t.sz aE zE (fun x:α=>encv (val x)) (fun x=>encv_len (val x)) h1 (fun x y=>cf (val x) (val y)) hO g #[] b off cap l.toArray w eg cmp hH hblk (by simpa using hlt)
 rw [show l.toArray.size=l.length from rfl] at hrun
 refine hrun.mono fun e w' ⟨e1,n,os,hw⟩=>⟨e1,?_⟩
 subst hw
 have hlen:(pdqL (ltOf fun x y:α=>cf (val x) (val y)) l).length=l.length:=(Jbu hO l).length_eq
 have er:Go.Sort.pdq (ltOf fun x y:α=>cf (val x) (val y)) l.toArray 0 l.length (Go.Lib.bitLen l.length) true true=(pdqL (ltOf fun x y:α=>cf (val x) (val y)) l).toArray:=rfl
 rw [er]
 generalize hr:pdqL (ltOf fun x y:α=>cf (val x) (val y)) l=r at hlen
 refine ⟨rfl,rfl,⟨rfl,Nat.le_add_right _ _⟩,?_,fun k hk hkb=>?_,fun el' hb'=>?_⟩
 ·show w.heap.size≤((w.heap.modify b _)++os).size
  simp
 ·show ((w.heap.modify b _)++os)[k]?=_
  rw [Array.getElem?_append_left (by simpa using hk),Array.getElem?_modify,if_neg (fun q=>hkb q.symm)]
 ·have hel:el'=el:=by rw [hb] at hb';injection hb' with hb';injection hb' with _ q;exact q.symm
  subst hel
  refine ⟨Go.Sort.putCells id off (Go.Sort.flatK (fun x:α=>encv (val x)) t.sz r.toArray) cs,?_,by simp [Go.Sort.putCells],fun i v hv=>?_⟩
  ·show ((w.heap.modify b _)++os)[b]?=_
   rw [Array.getElem?_append_left (by simpa using hblk),Array.getElem?_modify,if_pos rfl,hb]
   rfl
  ·obtain ⟨q1,q2⟩:=Jlp val hv
   have hi:i<r.length * t.sz:=by
    have:=(Ak.1 hv).1
    rw [Jq,Aa] at this
    exact this
   have hlt2:off+i<cs.size:=by rw [hlen] at hi;omega
   rw [Array.getD_eq_getD_getElem?]
   simp only [Go.Sort.putCells,Array.getElem?_mapIdx]
   rw [Array.getElem?_eq_getElem hlt2]
   simp only [Option.map_some,Option.getD_some]
   rw [if_pos ⟨by omega,by omega⟩,show off+i - off=i by omega]
   exact q2
open Go.Proofs Go.Shelf in
theorem sort_run {P:Program} {ρ:Ren} (L:SlLaysF0.n6 P ρ) {t:Ty} (ht:t.flat=true) (aE:∀w,(isAgg (ρ.t 24)).run P w=.ok true w) (zE:∀w,(Go.sizeOf (ρ.t 24)).run P w=.ok t.sz w)
  {g:Nat} {fn:t.T×t.T→Option Int} (hc:Good P ⟨g,[(.ag,t),(.ag,t)],[(false,I)],fn⟩) (cf:t.T→t.T→Int) (hcf:∀x y:t.T,fn (x,y)=some (cf x y))
  {α:Type} [Inhabited α] (val:α→t.T) (hO:Go.Sort.SWO (ltOf fun x y:α=>cf (val x) (val y))) (hT:∀x y:α,(ltOf cf) (val x) (val y)=false→(ltOf cf) (val y) (val x)=false→x=y) (l:List α) (hlt:l.length<4611686018427387904)
  {w:World} {b off cap:Nat} {cs:Array Value} {el:TypeId} (hb:w.heap[b]?=some (.cells cs el (0,0))) (hsz:off+l.length * t.sz≤cs.size) (hrow:∀(i:Nat) (v:AV),((l.map val).flatMap t.cs)[i]?=some v→cs.getD (off+i) undef=vOf v) :
  Calls P (ρ.f 6) #[.slice (some ⟨b,off,none⟩) l.length cap,.func (.func g) #[] #[]] w fun e w'=>e=.returned (.tuple #[])∧Jsk w w' b off (l.length * t.sz) cs ((Jcl (fun x y=>!(ltOf cf) y x) (l.map val)).flatMap t.cs):=by
 have em:l.mergeSort (fun x y=>!(ltOf cf) (val y) (val x))=Jcl (fun x y=>!(ltOf cf) (val y) (val x)) l:=Jn5 (fun x y z h1 h2=>by
  simp only [Ab] at *
  exact hO.ntrans z y x h2 h1) (fun x y=>by
  simp only [Ab]
  cases h:ltOf cf (val y) (val x) with
  | false=>exact .inl rfl
  | true =>
   cases h2:ltOf cf (val x) (val y) with
   | false=>exact .inr rfl
   | true=>exact absurd (hO.trans x y x h2 h) (by rw [hO.irrefl];exact Ah)) (fun x y h1 h2=>by
  simp only [Ab] at *
  exact hT x y h2 h1) l
 have hp:=Jcw L ht aE zE hc cf hcf val hO l hlt (cap:=cap) hb hsz hrow
 have e1:pdqL (ltOf fun x y:α=>cf (val x) (val y)) l=Jcl (fun x y=>!(ltOf cf) (val y) (val x)) l:=by
  rw [←em]
  exact Go.Sort.sorted_unique_holds hO hT l.toArray _ (zl hO l).1 (zl hO l).2
 rw [e1,Jem val (fun x y=>!(ltOf cf) y x) l] at hp
 exact hp
def Jo8 {α:Type} (lt eq:α→α→Bool) (l:List α):Bool:=l.all fun x=>l.all fun y=>lt x y || lt y x || eq x y
open Go.Proofs Go.Shelf in
theorem Jqw {P:Program} {ρ:Ren} (L:SlLaysF0.n6 P ρ) {t:Ty} (ht:t.flat=true) (aE:∀w,(isAgg (ρ.t 24)).run P w=.ok true w) (zE:∀w,(Go.sizeOf (ρ.t 24)).run P w=.ok t.sz w)
  {g:Nat} {fn:t.T×t.T→Option Int} (hc:Good P ⟨g,[(.ag,t),(.ag,t)],[(false,I)],fn⟩) (cf:t.T→t.T→Int) (hcf:∀x y:t.T,fn (x,y)=some (cf x y)) (ok:t.T→Bool) (hO:Go.Sort.SWO (ltOf fun x y:{x:t.T // ok x=true}=>cf x.1 y.1)) (eq:t.T→t.T→Bool) (heq:∀x y,eq x y=true→x=y) (hid:ρ.f 6<yB) (hfk:FnOK P (ρ.f 6)) :
  Jar P ⟨ρ.f 6,g,true,t,fun l=>if List.length (α:=t.T) l<4611686018427387904∧(Jo8 (α:=t.T) (ltOf cf) eq l&&Aq (α:=t.T) l ok)=true then some (Jcl (α:=t.T) (fun x y=>!(ltOf cf) y x) l) else none⟩:=by
 refine ⟨hfk,hid,ht,fun l r hr=>?_,fun l r hr hne w b off cap cs el hb hsz hcap hrow=>?_,fun r hr w A=>?_,fun w=>?_⟩
 ·simp only at hr
  split at hr
  ·injection hr with hr
   rw [←hr]
   exact (ze l).length_eq
  ·cases hr
 ·simp only at hr
  split at hr
  ·rename_i hh
   injection hr with hr
   obtain ⟨hlt,hp⟩:=hh
   cases l with
   | nil=>exact (hne rfl).elim
   | cons y l =>
    haveI:Inhabited {x:t.T // x∈y::l}:=⟨⟨y,Ai⟩⟩
    have hm:(y::l).attach.map Subtype.val=y::l:=List.attach_map_subtype_val _
    have hl:(y::l).attach.length=(y::l).length:=List.length_attach
    rw [Bool.and_eq_true] at hp
    obtain ⟨hp,hk⟩:=hp
    have hk:∀x∈y::l,ok x=true:=Ae.1 hk
    have:=sort_run L ht aE zE hc cf hcf (α:={x:t.T // x∈y::l}) Subtype.val ⟨fun u=>hO.irrefl ⟨u.1,hk _ u.2⟩,fun u v z=>hO.trans ⟨u.1,hk _ u.2⟩ ⟨v.1,hk _ v.2⟩ ⟨z.1,hk _ z.2⟩,fun u v z=>hO.ntrans ⟨u.1,hk _ u.2⟩ ⟨v.1,hk _ v.2⟩ ⟨z.1,hk _ z.2⟩⟩ (fun u v h1 h2=>by
     have:=Ae.1 (Ae.1 hp u.1 u.2) v.1 v.2
     rw [h1,h2] at this
     exact Subtype.ext (heq _ _ (by simpa using this))) (y::l).attach (by rw [hl];exact hlt) (cap:=cap) hb (by rw [hl];exact hsz) (by rw [hm];exact hrow)
    rw [hm,hl,hr] at this
    exact this
  ·cases hr
 ·refine (AnyF.slices_SortFunc_none L A 0 (.func (.func g) #[] #[]) w).mono fun e w' ⟨e1,e2⟩=>⟨e1,?_⟩
  subst e2
  exact ⟨rfl,rfl,⟨rfl,Af _⟩,Af _,fun _ _=>rfl⟩
 ·refine (AnyF.slices_SortFunc_none L none 0 (.func (.func g) #[] #[]) w).mono fun e w' ⟨e1,e2⟩=>⟨e1,?_⟩
  subst e2
  exact ⟨rfl,rfl,⟨rfl,Af _⟩,Af _,fun _ _=>rfl⟩
def Ja0 {α:Type} (ok:α→Bool) (l:List α) (h:l.all ok=true):List {x:α // ok x=true}:=l.pmap Subtype.mk (Ae.1 h)
theorem zj {α:Type} {ok:α→Bool} {l:List α} (h:l.all ok=true):(Ja0 ok l h).map Subtype.val=l:=by
 unfold Ja0
 rw [List.map_pmap]
 exact List.pmap_eq_map .. |>.trans (List.map_id _)
noncomputable def sortAny {t:Ty} (cf:t.T→t.T→Int) (ok:t.T→Bool) (eq:t.T→t.T→Bool) (d0:{x:t.T // ok x=true}) (l:List t.T):Option (List t.T) :=
 if List.length (α:=t.T) l<4611686018427387904 then
  if (Jo8 (α:=t.T) (Go.Proofs.ltOf cf) eq l&&Aq (α:=t.T) l ok)=true then some (Jcl (α:=t.T) (fun x y=>!(Go.Proofs.ltOf cf) y x) l)
  else if h:l.all ok=true then some ((haveI:Inhabited {x:t.T // ok x=true}:=⟨d0⟩;pdqL (Go.Proofs.ltOf fun x y:{x:t.T // ok x=true}=>cf x.1 y.1) (Ja0 ok l h)).map Subtype.val) else none
 else none
open Go.Proofs Go.Shelf in
theorem Jui {P:Program} {ρ:Ren} (L:SlLaysF0.n6 P ρ) {t:Ty} (ht:t.flat=true) (aE:∀w,(isAgg (ρ.t 24)).run P w=.ok true w) (zE:∀w,(Go.sizeOf (ρ.t 24)).run P w=.ok t.sz w)
  {g:Nat} {fn:t.T×t.T→Option Int} (hc:Good P ⟨g,[(.ag,t),(.ag,t)],[(false,I)],fn⟩) (cf:t.T→t.T→Int) (hcf:∀x y:t.T,fn (x,y)=some (cf x y)) (ok:t.T→Bool) (hO:Go.Sort.SWO (ltOf fun x y:{x:t.T // ok x=true}=>cf x.1 y.1)) (eq:t.T→t.T→Bool) (heq:∀x y,eq x y=true→x=y) (d0:{x:t.T // ok x=true}) (hid:ρ.f 6<yB) (hfk:FnOK P (ρ.f 6)) :
  Jar P ⟨ρ.f 6,g,true,t,sortAny cf ok eq d0⟩:=by
 have hpart:=Jqw L ht aE zE hc cf hcf ok hO eq heq hid hfk
 letI:Inhabited {x:t.T // ok x=true}:=⟨d0⟩
 have red:∀l r,sortAny cf ok eq d0 l=some r→(if List.length (α:=t.T) l<4611686018427387904∧(Jo8 (α:=t.T) (ltOf cf) eq l&&Aq (α:=t.T) l ok)=true then some (Jcl (α:=t.T) (fun x y=>!(ltOf cf) y x) l) else none)=some r ∨
   (List.length (α:=t.T) l<4611686018427387904∧∃h:l.all ok=true,r=(pdqL (ltOf fun x y:{x:t.T // ok x=true}=>cf x.1 y.1) (Ja0 ok l h)).map Subtype.val):=fun l r h=>by
  unfold sortAny at h
  split at h
  ·rename_i h1
   split at h
   ·rename_i h2
    left
    rw [if_pos ⟨h1,h2⟩]
    exact h
   ·split at h
    ·rename_i h3
     injection h with h
     exact .inr ⟨h1,h3,h.symm⟩
    ·cases h
  ·cases h
 refine ⟨hfk,hid,ht,fun l r hr=>?_,fun l r hr hne w b off cap cs el hb hsz hcap hrow=>?_,fun r hr w A=>?_,hpart.nilq⟩
 ·rcases red l r hr with h|⟨h1,h2,rfl⟩
  ·exact hpart.len l r h
  ·have e:=congrArg List.length (zj h2)
   rw [Aa] at e
   rw [Aa,(Jbu hO _).length_eq,e]
 ·rcases red l r hr with h|⟨h1,h2,rfl⟩
  ·exact hpart.run l r h hne w b off cap cs el hb hsz hcap hrow
  ·have hm:=zj h2
   have hl:(Ja0 ok l h2).length=l.length:=by have e:=congrArg List.length hm;rwa [Aa] at e
   have:=Jcw L ht aE zE hc cf hcf (α:={x:t.T // ok x=true}) Subtype.val hO (Ja0 ok l h2) (by rw [hl];exact h1) (cap:=cap) hb (by rw [hl];exact hsz) (by rw [hm];exact hrow)
   rw [hl] at this
   exact this
 ·refine (AnyF.slices_SortFunc_none L A 0 (.func (.func g) #[] #[]) w).mono fun e w' ⟨e1,e2⟩=>⟨e1,?_⟩
  subst e2
  exact ⟨rfl,rfl,⟨rfl,Af _⟩,Af _,fun _ _=>rfl⟩
theorem Jk0 {t:Ty} {cf:t.T→t.T→Int} {ok:t.T→Bool} (hO:Go.Sort.SWO (Go.Proofs.ltOf fun x y:{x:t.T // ok x=true}=>cf x.1 y.1)) {eq:t.T→t.T→Bool} {d0:{x:t.T // ok x=true}} {l:List t.T} (hl:l.length<4611686018427387904) (hok:∀x∈l,ok x=true) :
  ∃r,sortAny cf ok eq d0 l=some r∧r.Perm l∧r.Pairwise fun a b=>Go.Proofs.ltOf cf b a=false:=by
 have ha:l.all ok=true:=Ae.2 hok
 unfold sortAny
 rw [if_pos hl]
 by_cases hp:(Jo8 (α:=t.T) (Go.Proofs.ltOf cf) eq l&&Aq (α:=t.T) l ok)=true
 ·rw [if_pos hp]
  refine ⟨_,rfl,ze l,?_⟩
  have hm:=zj ha
  have e:=Jem (α:={x:t.T // ok x=true}) Subtype.val (fun x y=>!(Go.Proofs.ltOf cf) y x) (Ja0 ok l ha)
  rw [hm] at e
  rw [←e,List.pairwise_map]
  refine (Jh4 (le:=fun x y:{x:t.T // ok x=true}=>!(Go.Proofs.ltOf cf) y.1 x.1) (fun x y z h1 h2=>?_) (fun x y=>?_) _).imp fun {a b} h=>?_
  ·simp only [Ab] at *
   exact hO.ntrans z y x h2 h1
  ·simp only [Ab]
   cases h:Go.Proofs.ltOf cf y.1 x.1 with
   | false=>exact .inl rfl
   | true =>
    cases h2:Go.Proofs.ltOf cf x.1 y.1 with
    | false=>exact .inr rfl
    | true=>exact absurd (hO.trans x y x h2 h) (by rw [hO.irrefl];exact Ah)
  ·simp only [Ab] at h
   exact h
 ·rw [if_neg hp,dif_pos ha]
  letI:Inhabited {x:t.T // ok x=true}:=⟨d0⟩
  refine ⟨_,rfl,?_,?_⟩
  ·have:=(Jbu hO (Ja0 ok l ha)).map Subtype.val
   rwa [zj ha] at this
  ·rw [List.pairwise_map]
   exact (pdqL_pw hO (Ja0 ok l ha)).imp fun h=>h
end Go.Dn
