/- Sorting by a function that parts any two. Conditions: as the library's contract of slices.SortFunc asks. -/
import Derived.Test.YtmfagdfkpjgeiaaGreatFD
import Derived.Shelf.SlSortCmp.NoneTotal
set_option linter.unusedVariables false
set_option linter.unusedSimpArgs false
namespace Go.Dn
open Go Go.Vv
open Bool renaming not_eq_true' → Aa, false_ne_true → Ai
open List renaming getElem?_eq_getElem → Ab, getElem!_eq_getElem?_getD → Ac, length_map → Ae, getElem?_eq_some_iff → Af, pairwise_cons → Ag, all_eq_true → Ah, mem_cons_self → Aj, getElem?_map → Ak, mem_cons → Am, getElem?_cons_zero → Ao, getElem!_toArray → Ap, mem_of_getElem? → Aq, map_cons → Ar, all → Au
open Nat renaming le_refl → Ad
open Option renaming isSome_none → As
theorem Jvt {w w':World} (o:Old w w'):∃q os',w'=Go.Sort.grow (w.drewN q) os':=by
 refine ⟨w'.drawn - w.drawn,w'.heap.extract w.heap.size w'.heap.size,?_⟩
 obtain ⟨h1,h2,⟨h3,h6⟩,h4,h5⟩:=o
 obtain ⟨heap,tape,drawn,os,output⟩:=w
 obtain ⟨heap',tape',drawn',os',output'⟩:=w'
 simp only at h1 h2 h3 h4 h5 h6
 subst h1
 subst h2
 subst h3
 simp only [Go.Sort.grow,World.drewN,World.mk.injEq,true_and,and_true]
 refine ⟨?_,by omega⟩
 apply Array.ext_getElem?
 intro i
 by_cases hi:i<heap.size
 ·rw [h5 i hi,Array.getElem?_append_left hi]
 ·rw [Array.getElem?_append_right (by omega),Array.getElem?_extract]
  split
  ·rw [show heap.size+(i - heap.size)=i by omega]
  ·rw [Array.getElem?_eq_none (by omega)]
def encv {t:Ty} (x:t.T):List Value:=(t.cs x).map vOf
theorem Jvk {t:Ty} (x:t.T):(encv x).length=t.sz:=by simp [encv,Zs]
theorem Jye {t:Ty} {l:List t.T} {j:Nat} (hj:j<l.length * t.sz):∃e,l[j / t.sz]?=some e∧(l.flatMap t.cs)[j]?=(t.cs e)[j % t.sz]?:=by
 have hz:0<t.sz:=by
  cases h:t.sz with
  | zero=>rw [h] at hj;omega
  | succ n=>omega
 have hlt:j / t.sz<l.length:=(Nat.div_lt_iff_lt_mul hz).2 hj
 refine ⟨l[j / t.sz],Ab hlt,?_⟩
 have e:=Jc3 (l:=l) (i:=j / t.sz) (Ab hlt)
 rw [←e]
 have hm:j % t.sz<t.sz:=Nat.mod_lt _ hz
 have hd:j / t.sz * t.sz+j % t.sz=j:=Nat.div_add_mod' j t.sz
 simp only [Vv.cut]
 rw [List.getElem?_take_of_lt hm,List.getElem?_drop,hd]
theorem Jv8 {t:Ty} [Inhabited t.T] {l:List t.T} {i:Nat} {v:AV} (hv:(l.flatMap t.cs)[i]?=some v):i<(Go.Sort.flatK encv t.sz l.toArray).size∧(Go.Sort.flatK encv t.sz l.toArray)[i]! = vOf v:=by
 have hi:i<l.length * t.sz:=by
  rw [←Jt]
  exact (Af.1 hv).1
 obtain ⟨e,h1,h2⟩:=Jye hi
 refine ⟨by simpa using hi,?_⟩
 rw [Go.Sort.get_flatK encv t.sz l.toArray i (by simpa using hi)]
 have e1:l.toArray[i / t.sz]! = e:=by
  rw [Ap,Ac,h1]
  rfl
 rw [e1]
 rw [hv] at h2
 simp only [encv]
 rw [Ac,Ak,←h2]
 rfl
section
variable {α:Type} {le:α→α→Bool}
def insS (le:α→α→Bool) (x:α):List α→List α
 | []=>[x]
 | y::r=>match le x y with|true=>x::y::r|false=>y::insS le x r
def Jaf (le:α→α→Bool):List α→List α
 | []=>[]
 | x::r=>insS le x (Jaf le r)
theorem Jle (x:α):∀l:List α,(insS le x l).Perm (x::l)
 | []=>.refl _
 | y::r=>by
  simp only [insS]
  split
  ·exact .refl _
  ·exact ((Jle x r).cons y).trans (.swap x y r)
theorem Yf:∀l:List α,(Jaf le l).Perm l
 | []=>.refl _
 | x::r=>(Jle x _).trans ((Yf r).cons x)
theorem Jzd (tr:∀x y z,le x y=true→le y z=true→le x z=true) (tot:∀x y,le x y=true∨le y x=true) (x:α):∀ {l:List α},l.Pairwise (fun a b=>le a b=true)→(insS le x l).Pairwise fun a b=>le a b=true
 | [],_=>List.pairwise_singleton _ _
 | y::r,h=>by
  obtain ⟨h1,h2⟩:=Ag.1 h
  simp only [insS]
  split
  ·rename_i hx
   exact Ag.2 ⟨fun z hz=>by
    rcases Am.1 hz with rfl|hz
    ·exact hx
    ·exact tr _ _ _ hx (h1 z hz),h⟩
  ·rename_i hx
   have hyx:le y x=true:=(tot x y).resolve_left (by rw [hx];exact Ai)
   exact Ag.2 ⟨fun z hz=>by
    rcases Am.1 ((Jle x r).mem_iff.1 hz) with rfl|hz
    ·exact hyx
    ·exact h1 z hz,Jzd tr tot x h2⟩
theorem Jgq (tr:∀x y z,le x y=true→le y z=true→le x z=true) (tot:∀x y,le x y=true∨le y x=true):∀l:List α,(Jaf le l).Pairwise fun a b=>le a b=true
 | []=>.nil
 | x::r=>Jzd tr tot x (Jgq tr tot r)
theorem J1t (anti:∀x y,le x y=true→le y x=true→x=y):∀ {a b:List α},a.Perm b→a.Pairwise (fun a b=>le a b=true)→b.Pairwise (fun a b=>le a b=true)→a=b
 | [],b,h,_,_=>by rw [h.nil_eq]
 | x::a,[],h,_,_=>by have:=h.length_eq;simp at this
 | x::a,y::b,h,h1,h2=>by
  obtain ⟨p1,p2⟩:=Ag.1 h1
  obtain ⟨q1,q2⟩:=Ag.1 h2
  have e:x=y:=by
   rcases Am.1 (h.mem_iff.1 (Aj:x∈x::a)) with e|hx
   ·exact e
   ·rcases Am.1 (h.mem_iff.2 (Aj:y∈y::b)) with e|hy
    ·exact e.symm
    ·exact anti x y (p1 y hy) (q1 x hx)
  subst e
  rw [J1t anti (List.perm_cons x |>.1 h) p2 q2]
theorem Jfi (tr:∀x y z,le x y=true→le y z=true→le x z=true) (tot:∀x y,le x y=true∨le y x=true) (anti:∀x y,le x y=true→le y x=true→x=y) (l:List α):l.mergeSort le=Jaf le l :=
 J1t anti ((List.mergeSort_perm l le).trans (Yf l).symm) (List.pairwise_mergeSort tr (fun a b=>by simpa using tot a b) l) (Jgq tr tot l)
end
theorem Jyr {P:Program} {t:Ty} (ht:t.flat=true) {g:Nat} {fn:t.T×t.T→Option Int} (hc:Good P ⟨g,[(.ag,t),(.ag,t)],[(false,I)],fn⟩) (cf:t.T→t.T→Int) (hcf:∀x y:t.T,fn (x,y)=some (cf x y)) (W:World) (x y:t.T) :
  Calls P g #[.agg (encv x).toArray,.agg (encv y).toArray] W fun e w'=>e=.returned (.int .i64 (cf x y))∧Old W w':=by
 have hag:∀(x:t.T),RepP W (fun _=>False) (.agg (t.cs x)) (.agg (encv x).toArray):=fun x=>by
  have at':∀(i:Nat) (z:AV),(t.cs x)[i]?=some z→(encv x).toArray.getD i undef=vOf z:=fun i z hi=>by simp [encv,Array.getD_eq_getD_getElem?,hi]
  refine .agg _ _ (by simp [encv]) (fun i z hi=>?_) (fun i z hi=>?_)
  ·rw [at' i z hi]
   exact (Jp1 (w:=W) (S:=fun _=>False) (Jbz ht x z (Aq hi))).2
  ·rw [at' i z hi]
   exact (Jp1 (Jbz ht x z (Aq hi))).1
 have h0:=hc.run (show t.T×t.T from (x,y)) (show Int from cf x y) (hcf x y) W (fun _=>False) #[.agg (encv x).toArray,.agg (encv y).toArray] (fun b h=>h.elim)
 have hA:Jar [(AK.ag,t),(AK.ag,t)] (show t.T×t.T from (x,y))=[.agg (t.cs x),.agg (t.cs y)]:=rfl
 simp only [hA] at h0
 refine (h0 rfl fun i z hi=>?_).mono fun e w' ⟨cv,e1,r1,o⟩=>?_
 ·cases i with
  | zero=>simp only [Ao,Option.some.injEq] at hi;subst hi;exact hag x
  | succ i=>cases i with
   | zero=>simp only [List.getElem?_cons_succ,Ao,Option.some.injEq] at hi;subst hi;exact hag y
   | succ i=>simp at hi
 ·have r2:RepP w' (Ja1 (fun _=>False) W w') (.int .i64 (cf x y)) cv:=r1
  have e2:cv=.int .i64 (cf x y):=by cases r2;rfl
  exact ⟨by rw [e1,e2],o⟩
open Go.Proofs Go.Shelf in
theorem J1w {P:Program} {ρ:Ren} (L:SlLaysF0.n6 P ρ) {t:Ty} [Inhabited t.T] (ht:t.flat=true) (hz:0<t.sz) (aE:∀w,(isAgg (ρ.t 24)).run P w=.ok true w) (zE:∀w,(Go.sizeOf (ρ.t 24)).run P w=.ok t.sz w)
  {g:Nat} {fn:t.T×t.T→Option Int} (hc:Good P ⟨g,[(.ag,t),(.ag,t)],[(false,I)],fn⟩) (cf:t.T→t.T→Int) (hcf:∀x y:t.T,fn (x,y)=some (cf x y))
  (hO:Go.Sort.SWO (ltOf cf)) (hT:∀x y,(ltOf cf) x y=false→(ltOf cf) y x=false→x=y) (hid:ρ.f 6<yB) (hfk:FnOK P (ρ.f 6)) :
  Jcr P ⟨ρ.f 6,g,true,t,fun l=>if List.length (α:=t.T) l<4611686018427387904 then some (Jaf (α:=t.T) (fun x y=>!(ltOf cf) y x) l) else none⟩:=by
 have em:∀l:List t.T,l.mergeSort (fun x y=>!(ltOf cf) y x)=Jaf (fun x y=>!(ltOf cf) y x) l:=Jfi (fun x y z h1 h2=>by
  simp only [Aa] at *
  exact hO.ntrans z y x h2 h1) (fun x y=>by
  simp only [Aa]
  cases h:ltOf cf y x with
  | false=>exact .inl rfl
  | true =>
   cases h2:ltOf cf x y with
   | false=>exact .inr rfl
   | true=>exact absurd (hO.trans x y x h2 h) (by rw [hO.irrefl];exact Ai)) (fun x y h1 h2=>by
  simp only [Aa] at *
  exact hT x y h2 h1)
 have scl:∀(x:t.T),∀y∈t.cs x,Scl y:=fun x=>Jbz ht x
 have h1:∀x:t.T,∀v∈encv x,v.oneCell'=true:=fun x v hv=>by
  obtain ⟨y,hy,rfl⟩:=List.mem_map.1 hv
  rcases scl x y hy with ⟨b,rfl⟩|⟨k,n,rfl⟩|⟨z,rfl⟩<;>rfl
 have eg:∀args w,(callFunc g args).run P w=.ok (.enter g args) w:=fun args w=>Kt (f:=g) hc.fn args w
 have cmp:∀(w:World) (blk off size:Nat),CmpLays P g #[] encv t.sz cf blk off size w:=fun w blk off size m os dk hdk x y=>by
  rw [Array.append_empty]
  exact (Jyr ht hc cf hcf _ x y).mono fun e w' ⟨e1,o⟩=>⟨e1,Jvt o⟩
 refine ⟨hfk,hid,ht,fun l r hr=>?_,fun l r hr hne w b off cap cs el hb hsz hcap hrow=>?_,fun r hr w A=>?_,fun w=>?_⟩
 ·simp only at hr
  split at hr
  ·injection hr with hr
   rw [←hr]
   exact (Yf l).length_eq
  ·cases hr
 ·simp only at hr
  split at hr
  ·rename_i hlt
   injection hr with hr
   have hsz:off+List.length (α:=t.T) l * t.sz≤cs.size:=hsz
   have hH:Go.Sort.HoldsK encv t.sz w b off l.toArray:=fun j hj=>by
    have hj':j<(l.flatMap t.cs).length:=by rw [Jt];simpa using hj
    obtain ⟨-,e1⟩:=Jv8 (Ab hj')
    have e2:=hrow j _ (Ab hj')
    rw [e1]
    have hlt2:off+j<cs.size:=by rw [Jt] at hj';omega
    refine ⟨?_,?_⟩
    ·simp only [World.cell?,hb]
     rw [Array.getD_eq_getD_getElem?,Array.getElem?_eq_getElem hlt2] at e2
     simp only [As,Bool.false_eq_true,if_false]
     rw [Array.getElem?_eq_getElem hlt2]
     exact congrArg some e2
    ·simp [World.frozen?,hb]
   have hblk:b<w.heap.size:=(Array.getElem?_eq_some_iff.1 hb).1
   have hrun:=AnyQ.slices_SortFunc_total L t.sz aE zE encv Jvk h1 cf hO g #[] b off cap l.toArray w eg (cmp w b off l.toArray.size) hH hblk (by simpa using hlt) hT
   rw [show l.toArray.size=l.length from rfl] at hrun
   refine hrun.mono fun e w' ⟨e1,n,os,hw⟩=>⟨e1,?_⟩
   subst hw
   rw [em,hr]
   have hlen:r.length=l.length:=by rw [←hr];exact (Yf l).length_eq
   refine ⟨rfl,rfl,⟨rfl,Nat.le_add_right _ _⟩,?_,fun k hk hkb=>?_,fun el' hb'=>?_⟩
   ·show w.heap.size≤((w.heap.modify b _)++os).size
    simp
   ·show ((w.heap.modify b _)++os)[k]?=_
    rw [Array.getElem?_append_left (by simpa using hk),Array.getElem?_modify,if_neg (fun q=>hkb q.symm)]
   ·have hel:el'=el:=by rw [hb] at hb';injection hb' with hb';injection hb' with _ q;exact q.symm
    subst hel
    refine ⟨Go.Sort.putCells id off (Go.Sort.flatK encv t.sz r.toArray) cs,?_,by simp [Go.Sort.putCells],fun i v hv=>?_⟩
    ·show ((w.heap.modify b _)++os)[b]?=_
     rw [Array.getElem?_append_left (by simpa using hblk),Array.getElem?_modify,if_pos rfl,hb]
     rfl
    ·obtain ⟨q1,q2⟩:=Jv8 (t:=t) (l:=r) hv
     have hi:i<r.length * t.sz:=by
      rw [←Jt]
      exact (Af.1 hv).1
     have hlt2:off+i<cs.size:=by rw [hlen] at hi;omega
     rw [Array.getD_eq_getD_getElem?]
     simp only [Go.Sort.putCells,Array.getElem?_mapIdx]
     rw [Array.getElem?_eq_getElem hlt2]
     simp only [Option.map_some,Option.getD_some]
     rw [if_pos ⟨by omega,by omega⟩,show off+i - off=i by omega]
     exact q2
  ·cases hr
 ·refine (AnyF.slices_SortFunc_none L A 0 (.func (.func g) #[] #[]) w).mono fun e w' ⟨e1,e2⟩=>⟨e1,?_⟩
  subst e2
  exact ⟨rfl,rfl,⟨rfl,Ad _⟩,Ad _,fun _ _=>rfl⟩
 ·refine (AnyF.slices_SortFunc_none L none 0 (.func (.func g) #[] #[]) w).mono fun e w' ⟨e1,e2⟩=>⟨e1,?_⟩
  subst e2
  exact ⟨rfl,rfl,⟨rfl,Ad _⟩,Ad _,fun _ _=>rfl⟩
theorem Jwr {α β:Type} (val:α→β) (le:β→β→Bool) (x:α):∀l:List α,(insS (fun a b=>le (val a) (val b)) x l).map val=insS le (val x) (l.map val)
 | []=>rfl
 | y::r=>by
  simp only [insS,Ar]
  cases h:le (val x) (val y) with
  | true=>rfl
  | false=>simp only [Ar,Jwr val le x r]
theorem Jld {α β:Type} (val:α→β) (le:β→β→Bool):∀l:List α,(Jaf (fun a b=>le (val a) (val b)) l).map val=Jaf le (l.map val)
 | []=>rfl
 | x::r=>by simp only [Jaf,Ar,Jwr,Jld val le r]
theorem Jro {α:Type} [Inhabited α] {t:Ty} (val:α→t.T) {l:List α} {i:Nat} {v:AV} (hv:((l.map val).flatMap t.cs)[i]?=some v) :
  i<(Go.Sort.flatK (fun x=>encv (val x)) t.sz l.toArray).size∧(Go.Sort.flatK (fun x=>encv (val x)) t.sz l.toArray)[i]! = vOf v:=by
 have hi:i<(l.map val).length * t.sz:=by
  rw [←Jt]
  exact (Af.1 hv).1
 obtain ⟨e,h1,h2⟩:=Jye hi
 rw [Ae] at hi
 refine ⟨by simpa using hi,?_⟩
 rw [Go.Sort.get_flatK _ t.sz l.toArray i (by simpa using hi)]
 rw [Ak] at h1
 cases hq:l[i / t.sz]? with
 | none=>rw [hq] at h1;cases h1
 | some u =>
  rw [hq] at h1
  injection h1 with h1
  have e1:l.toArray[i / t.sz]! = u:=by
   rw [Ap,Ac,hq]
   rfl
  rw [e1,h1]
  rw [hv] at h2
  simp only [encv]
  rw [Ac,Ak,←h2]
  rfl
noncomputable def pdqL {α:Type} [Inhabited α] (lt:α→α→Bool) (l:List α):List α:=(Go.Sort.pdq lt l.toArray 0 l.length (Go.Lib.bitLen l.length) true true).toList
theorem Jej {α:Type} [Inhabited α] {lt:α→α→Bool} (hO:Go.Sort.SWO lt) (l:List α):Go.Sort.PermIn 0 l.length l.toArray (Go.Sort.pdq lt l.toArray 0 l.length (Go.Lib.bitLen l.length) true true)∧Go.Sort.SortedIn lt 0 l.length (Go.Sort.pdq lt l.toArray 0 l.length (Go.Lib.bitLen l.length) true true) :=
 Go.Sort.pdq_sorts lt hO l.toArray 0 l.length (Go.Lib.bitLen l.length) true true (Nat.zero_le _) (Ad _) (Or.inl rfl)
theorem Jgp {α:Type} [Inhabited α] {lt:α→α→Bool} (hO:Go.Sort.SWO lt) (l:List α):(pdqL lt l).Perm l:=by
 obtain ⟨h1,-,h3⟩:=(Jej hO l).1
 have e1:(Go.Sort.pdq lt l.toArray 0 l.length (Go.Lib.bitLen l.length) true true).extract 0 l.length=Go.Sort.pdq lt l.toArray 0 l.length (Go.Lib.bitLen l.length) true true:=by
  apply Array.extract_eq_self_of_le
  rw [h1];simp
 have e2:l.toArray.extract 0 l.length=l.toArray:=by apply Array.extract_eq_self_of_le;simp
 rw [e1,e2] at h3
 exact h3
theorem pdqL_pw {α:Type} [Inhabited α] {lt:α→α→Bool} (hO:Go.Sort.SWO lt) (l:List α):(pdqL lt l).Pairwise fun a b=>lt b a=false:=by
 have hl:=(Jgp hO l).length_eq
 have h:=(Jej hO l).2
 rw [List.pairwise_iff_getElem]
 intro i j hi hj hij
 have:=h i j (Nat.zero_le _) hij (by omega)
 have e:∀k (hk:k<(pdqL lt l).length),(Go.Sort.pdq lt l.toArray 0 l.length (Go.Lib.bitLen l.length) true true)[k]! = (pdqL lt l)[k]:=fun k hk=>by
  have hk':k<(Go.Sort.pdq lt l.toArray 0 l.length (Go.Lib.bitLen l.length) true true).size:=hk
  rw [getElem!_pos _ k hk']
  rfl
 rw [e j hj,e i hi] at this
 exact this
open Go.Proofs Go.Shelf in
theorem Jhy {P:Program} {ρ:Ren} (L:SlLaysF0.n6 P ρ) {t:Ty} (ht:t.flat=true) (aE:∀w,(isAgg (ρ.t 24)).run P w=.ok true w) (zE:∀w,(Go.sizeOf (ρ.t 24)).run P w=.ok t.sz w)
  {g:Nat} {fn:t.T×t.T→Option Int} (hc:Good P ⟨g,[(.ag,t),(.ag,t)],[(false,I)],fn⟩) (cf:t.T→t.T→Int) (hcf:∀x y:t.T,fn (x,y)=some (cf x y))
  {α:Type} [Inhabited α] (val:α→t.T) (hO:Go.Sort.SWO (ltOf fun x y:α=>cf (val x) (val y))) (l:List α) (hlt:l.length<4611686018427387904)
  {w:World} {b off cap:Nat} {cs:Array Value} {el:TypeId} (hb:w.heap[b]?=some (.cells cs el (0,0))) (hsz:off+l.length * t.sz≤cs.size) (hrow:∀(i:Nat) (v:AV),((l.map val).flatMap t.cs)[i]?=some v→cs.getD (off+i) undef=vOf v) :
  Calls P (ρ.f 6) #[.slice (some ⟨b,off,none⟩) l.length cap,.func (.func g) #[] #[]] w fun e w'=>e=.returned (.tuple #[])∧J1c w w' b off (l.length * t.sz) cs (((pdqL (ltOf fun x y:α=>cf (val x) (val y)) l).map val).flatMap t.cs):=by
 have h1:∀x:α,∀v∈encv (val x),v.oneCell'=true:=fun x v hv=>by
  obtain ⟨y,hy,rfl⟩:=List.mem_map.1 hv
  rcases Jbz ht (val x) y hy with ⟨b,rfl⟩|⟨k,n,rfl⟩|⟨z,rfl⟩<;>rfl
 have eg:∀args w,(callFunc g args).run P w=.ok (.enter g args) w:=fun args w=>Kt (f:=g) hc.fn args w
 have hO1:∀x y:α,(ltOf fun x y:α=>cf (val x) (val y)) x y=ltOf cf (val x) (val y):=fun x y=>rfl
 have cmp:CmpLays P g #[] (fun x:α=>encv (val x)) t.sz (fun x y=>cf (val x) (val y)) b off l.toArray.size w:=fun m os dk hdk x y=>by
  rw [Array.append_empty]
  exact (Jyr ht hc cf hcf _ (val x) (val y)).mono fun e w' ⟨e1,o⟩=>⟨e1,Jvt o⟩
 have hH:Go.Sort.HoldsK (fun x:α=>encv (val x)) t.sz w b off l.toArray:=fun j hj=>by
  have hj':j<((l.map val).flatMap t.cs).length:=by rw [Jt,Ae];simpa using hj
  obtain ⟨-,e1⟩:=Jro val (Ab hj')
  have e2:=hrow j _ (Ab hj')
  rw [e1]
  have hlt2:off+j<cs.size:=by rw [Jt,Ae] at hj';omega
  refine ⟨?_,?_⟩
  ·simp only [World.cell?,hb]
   rw [Array.getD_eq_getD_getElem?,Array.getElem?_eq_getElem hlt2] at e2
   simp only [As,Bool.false_eq_true,if_false]
   rw [Array.getElem?_eq_getElem hlt2]
   exact congrArg some e2
  ·simp [World.frozen?,hb]
 have hblk:b<w.heap.size:=(Array.getElem?_eq_some_iff.1 hb).1
 have hrun:=AnyQ.slices_SortFunc_eq L t.sz aE zE (fun x:α=>encv (val x)) (fun x=>Jvk (val x)) h1 (fun x y=>cf (val x) (val y)) hO g #[] b off cap l.toArray w eg cmp hH hblk (by simpa using hlt)
 rw [show l.toArray.size=l.length from rfl] at hrun
 refine hrun.mono fun e w' ⟨e1,n,os,hw⟩=>⟨e1,?_⟩
 subst hw
 have hlen:(pdqL (ltOf fun x y:α=>cf (val x) (val y)) l).length=l.length:=(Jgp hO l).length_eq
 have er:Go.Sort.pdq (ltOf fun x y:α=>cf (val x) (val y)) l.toArray 0 l.length (Go.Lib.bitLen l.length) true true=(pdqL (ltOf fun x y:α=>cf (val x) (val y)) l).toArray:=rfl
 rw [er]
 generalize hr:pdqL (ltOf fun x y:α=>cf (val x) (val y)) l=r at hlen
 refine ⟨rfl,rfl,⟨rfl,Nat.le_add_right _ _⟩,?_,fun k hk hkb=>?_,fun el' hb'=>?_⟩
 ·show w.heap.size≤((w.heap.modify b _)++os).size
  simp
 ·show ((w.heap.modify b _)++os)[k]?=_
  rw [Array.getElem?_append_left (by simpa using hk),Array.getElem?_modify,if_neg (fun q=>hkb q.symm)]
 ·have hel:el'=el:=by rw [hb] at hb';injection hb' with hb';injection hb' with _ q;exact q.symm
  subst hel
  refine ⟨Go.Sort.putCells id off (Go.Sort.flatK (fun x:α=>encv (val x)) t.sz r.toArray) cs,?_,by simp [Go.Sort.putCells],fun i v hv=>?_⟩
  ·show ((w.heap.modify b _)++os)[b]?=_
   rw [Array.getElem?_append_left (by simpa using hblk),Array.getElem?_modify,if_pos rfl,hb]
   rfl
  ·obtain ⟨q1,q2⟩:=Jro val hv
   have hi:i<r.length * t.sz:=by
    have:=(Af.1 hv).1
    rw [Jt,Ae] at this
    exact this
   have hlt2:off+i<cs.size:=by rw [hlen] at hi;omega
   rw [Array.getD_eq_getD_getElem?]
   simp only [Go.Sort.putCells,Array.getElem?_mapIdx]
   rw [Array.getElem?_eq_getElem hlt2]
   simp only [Option.map_some,Option.getD_some]
   rw [if_pos ⟨by omega,by omega⟩,show off+i - off=i by omega]
   exact q2
open Go.Proofs Go.Shelf in
theorem sort_run {P:Program} {ρ:Ren} (L:SlLaysF0.n6 P ρ) {t:Ty} (ht:t.flat=true) (aE:∀w,(isAgg (ρ.t 24)).run P w=.ok true w) (zE:∀w,(Go.sizeOf (ρ.t 24)).run P w=.ok t.sz w)
  {g:Nat} {fn:t.T×t.T→Option Int} (hc:Good P ⟨g,[(.ag,t),(.ag,t)],[(false,I)],fn⟩) (cf:t.T→t.T→Int) (hcf:∀x y:t.T,fn (x,y)=some (cf x y))
  {α:Type} [Inhabited α] (val:α→t.T) (hO:Go.Sort.SWO (ltOf fun x y:α=>cf (val x) (val y))) (hT:∀x y:α,(ltOf cf) (val x) (val y)=false→(ltOf cf) (val y) (val x)=false→x=y) (l:List α) (hlt:l.length<4611686018427387904)
  {w:World} {b off cap:Nat} {cs:Array Value} {el:TypeId} (hb:w.heap[b]?=some (.cells cs el (0,0))) (hsz:off+l.length * t.sz≤cs.size) (hrow:∀(i:Nat) (v:AV),((l.map val).flatMap t.cs)[i]?=some v→cs.getD (off+i) undef=vOf v) :
  Calls P (ρ.f 6) #[.slice (some ⟨b,off,none⟩) l.length cap,.func (.func g) #[] #[]] w fun e w'=>e=.returned (.tuple #[])∧J1c w w' b off (l.length * t.sz) cs ((Jaf (fun x y=>!(ltOf cf) y x) (l.map val)).flatMap t.cs):=by
 have em:l.mergeSort (fun x y=>!(ltOf cf) (val y) (val x))=Jaf (fun x y=>!(ltOf cf) (val y) (val x)) l:=Jfi (fun x y z h1 h2=>by
  simp only [Aa] at *
  exact hO.ntrans z y x h2 h1) (fun x y=>by
  simp only [Aa]
  cases h:ltOf cf (val y) (val x) with
  | false=>exact .inl rfl
  | true =>
   cases h2:ltOf cf (val x) (val y) with
   | false=>exact .inr rfl
   | true=>exact absurd (hO.trans x y x h2 h) (by rw [hO.irrefl];exact Ai)) (fun x y h1 h2=>by
  simp only [Aa] at *
  exact hT x y h2 h1) l
 have hp:=Jhy L ht aE zE hc cf hcf val hO l hlt (cap:=cap) hb hsz hrow
 have e1:pdqL (ltOf fun x y:α=>cf (val x) (val y)) l=Jaf (fun x y=>!(ltOf cf) (val y) (val x)) l:=by
  rw [←em]
  exact Go.Sort.sorted_unique_holds hO hT l.toArray _ (Jej hO l).1 (Jej hO l).2
 rw [e1,Jld val (fun x y=>!(ltOf cf) y x) l] at hp
 exact hp
def Jvv {α:Type} (lt eq:α→α→Bool) (l:List α):Bool:=l.all fun x=>l.all fun y=>lt x y || lt y x || eq x y
open Go.Proofs Go.Shelf in
theorem Jxf {P:Program} {ρ:Ren} (L:SlLaysF0.n6 P ρ) {t:Ty} (ht:t.flat=true) (aE:∀w,(isAgg (ρ.t 24)).run P w=.ok true w) (zE:∀w,(Go.sizeOf (ρ.t 24)).run P w=.ok t.sz w)
  {g:Nat} {fn:t.T×t.T→Option Int} (hc:Good P ⟨g,[(.ag,t),(.ag,t)],[(false,I)],fn⟩) (cf:t.T→t.T→Int) (hcf:∀x y:t.T,fn (x,y)=some (cf x y)) (ok:t.T→Bool) (hO:Go.Sort.SWO (ltOf fun x y:{x:t.T // ok x=true}=>cf x.1 y.1)) (eq:t.T→t.T→Bool) (heq:∀x y,eq x y=true→x=y) (hid:ρ.f 6<yB) (hfk:FnOK P (ρ.f 6)) :
  Jcr P ⟨ρ.f 6,g,true,t,fun l=>if List.length (α:=t.T) l<4611686018427387904∧(Jvv (α:=t.T) (ltOf cf) eq l&&Au (α:=t.T) l ok)=true then some (Jaf (α:=t.T) (fun x y=>!(ltOf cf) y x) l) else none⟩:=by
 refine ⟨hfk,hid,ht,fun l r hr=>?_,fun l r hr hne w b off cap cs el hb hsz hcap hrow=>?_,fun r hr w A=>?_,fun w=>?_⟩
 ·simp only at hr
  split at hr
  ·injection hr with hr
   rw [←hr]
   exact (Yf l).length_eq
  ·cases hr
 ·simp only at hr
  split at hr
  ·rename_i hh
   injection hr with hr
   obtain ⟨hlt,hp⟩:=hh
   cases l with
   | nil=>exact (hne rfl).elim
   | cons y l =>
    haveI:Inhabited {x:t.T // x∈y::l}:=⟨⟨y,Aj⟩⟩
    have hm:(y::l).attach.map Subtype.val=y::l:=List.attach_map_subtype_val _
    have hl:(y::l).attach.length=(y::l).length:=List.length_attach
    rw [Bool.and_eq_true] at hp
    obtain ⟨hp,hk⟩:=hp
    have hk:∀x∈y::l,ok x=true:=Ah.1 hk
    have:=sort_run L ht aE zE hc cf hcf (α:={x:t.T // x∈y::l}) Subtype.val ⟨fun u=>hO.irrefl ⟨u.1,hk _ u.2⟩,fun u v z=>hO.trans ⟨u.1,hk _ u.2⟩ ⟨v.1,hk _ v.2⟩ ⟨z.1,hk _ z.2⟩,fun u v z=>hO.ntrans ⟨u.1,hk _ u.2⟩ ⟨v.1,hk _ v.2⟩ ⟨z.1,hk _ z.2⟩⟩ (fun u v h1 h2=>by
     have:=Ah.1 (Ah.1 hp u.1 u.2) v.1 v.2
     rw [h1,h2] at this
     exact Subtype.ext (heq _ _ (by simpa using this))) (y::l).attach (by rw [hl];exact hlt) (cap:=cap) hb (by rw [hl];exact hsz) (by rw [hm];exact hrow)
    rw [hm,hl,hr] at this
    exact this
  ·cases hr
 ·refine (AnyF.slices_SortFunc_none L A 0 (.func (.func g) #[] #[]) w).mono fun e w' ⟨e1,e2⟩=>⟨e1,?_⟩
  subst e2
  exact ⟨rfl,rfl,⟨rfl,Ad _⟩,Ad _,fun _ _=>rfl⟩
 ·refine (AnyF.slices_SortFunc_none L none 0 (.func (.func g) #[] #[]) w).mono fun e w' ⟨e1,e2⟩=>⟨e1,?_⟩
  subst e2
  exact ⟨rfl,rfl,⟨rfl,Ad _⟩,Ad _,fun _ _=>rfl⟩
def Jgh {α:Type} (ok:α→Bool) (l:List α) (h:l.all ok=true):List {x:α // ok x=true}:=l.pmap Subtype.mk (Ah.1 h)
theorem Jd9 {α:Type} {ok:α→Bool} {l:List α} (h:l.all ok=true):(Jgh ok l h).map Subtype.val=l:=by
 unfold Jgh
 rw [List.map_pmap]
 exact List.pmap_eq_map .. |>.trans (List.map_id _)
noncomputable def Je7 {t:Ty} (cf:t.T→t.T→Int) (ok:t.T→Bool) (eq:t.T→t.T→Bool) (d0:{x:t.T // ok x=true}) (l:List t.T):Option (List t.T) :=
 if List.length (α:=t.T) l<4611686018427387904 then
  if (Jvv (α:=t.T) (Go.Proofs.ltOf cf) eq l&&Au (α:=t.T) l ok)=true then some (Jaf (α:=t.T) (fun x y=>!(Go.Proofs.ltOf cf) y x) l)
  else if h:l.all ok=true then some ((haveI:Inhabited {x:t.T // ok x=true}:=⟨d0⟩;pdqL (Go.Proofs.ltOf fun x y:{x:t.T // ok x=true}=>cf x.1 y.1) (Jgh ok l h)).map Subtype.val) else none
 else none
open Go.Proofs Go.Shelf in
theorem J0c {P:Program} {ρ:Ren} (L:SlLaysF0.n6 P ρ) {t:Ty} (ht:t.flat=true) (aE:∀w,(isAgg (ρ.t 24)).run P w=.ok true w) (zE:∀w,(Go.sizeOf (ρ.t 24)).run P w=.ok t.sz w)
  {g:Nat} {fn:t.T×t.T→Option Int} (hc:Good P ⟨g,[(.ag,t),(.ag,t)],[(false,I)],fn⟩) (cf:t.T→t.T→Int) (hcf:∀x y:t.T,fn (x,y)=some (cf x y)) (ok:t.T→Bool) (hO:Go.Sort.SWO (ltOf fun x y:{x:t.T // ok x=true}=>cf x.1 y.1)) (eq:t.T→t.T→Bool) (heq:∀x y,eq x y=true→x=y) (d0:{x:t.T // ok x=true}) (hid:ρ.f 6<yB) (hfk:FnOK P (ρ.f 6)) :
  Jcr P ⟨ρ.f 6,g,true,t,Je7 cf ok eq d0⟩:=by
 have hpart:=Jxf L ht aE zE hc cf hcf ok hO eq heq hid hfk
 letI:Inhabited {x:t.T // ok x=true}:=⟨d0⟩
 have red:∀l r,Je7 cf ok eq d0 l=some r→(if List.length (α:=t.T) l<4611686018427387904∧(Jvv (α:=t.T) (ltOf cf) eq l&&Au (α:=t.T) l ok)=true then some (Jaf (α:=t.T) (fun x y=>!(ltOf cf) y x) l) else none)=some r ∨
   (List.length (α:=t.T) l<4611686018427387904∧∃h:l.all ok=true,r=(pdqL (ltOf fun x y:{x:t.T // ok x=true}=>cf x.1 y.1) (Jgh ok l h)).map Subtype.val):=fun l r h=>by
  unfold Je7 at h
  split at h
  ·rename_i h1
   split at h
   ·rename_i h2
    left
    rw [if_pos ⟨h1,h2⟩]
    exact h
   ·split at h
    ·rename_i h3
     injection h with h
     exact .inr ⟨h1,h3,h.symm⟩
    ·cases h
  ·cases h
 refine ⟨hfk,hid,ht,fun l r hr=>?_,fun l r hr hne w b off cap cs el hb hsz hcap hrow=>?_,fun r hr w A=>?_,hpart.nilq⟩
 ·rcases red l r hr with h|⟨h1,h2,rfl⟩
  ·exact hpart.len l r h
  ·have e:=congrArg List.length (Jd9 h2)
   rw [Ae] at e
   rw [Ae,(Jgp hO _).length_eq,e]
 ·rcases red l r hr with h|⟨h1,h2,rfl⟩
  ·exact hpart.run l r h hne w b off cap cs el hb hsz hcap hrow
  ·have hm:=Jd9 h2
   have hl:(Jgh ok l h2).length=l.length:=by have e:=congrArg List.length hm;rwa [Ae] at e
   have:=Jhy L ht aE zE hc cf hcf (α:={x:t.T // ok x=true}) Subtype.val hO (Jgh ok l h2) (by rw [hl];exact h1) (cap:=cap) hb (by rw [hl];exact hsz) (by rw [hm];exact hrow)
   rw [hl] at this
   exact this
 ·refine (AnyF.slices_SortFunc_none L A 0 (.func (.func g) #[] #[]) w).mono fun e w' ⟨e1,e2⟩=>⟨e1,?_⟩
  subst e2
  exact ⟨rfl,rfl,⟨rfl,Ad _⟩,Ad _,fun _ _=>rfl⟩
theorem Jqi {t:Ty} {cf:t.T→t.T→Int} {ok:t.T→Bool} (hO:Go.Sort.SWO (Go.Proofs.ltOf fun x y:{x:t.T // ok x=true}=>cf x.1 y.1)) {eq:t.T→t.T→Bool} {d0:{x:t.T // ok x=true}} {l:List t.T} (hl:l.length<4611686018427387904) (hok:∀x∈l,ok x=true) :
  ∃r,Je7 cf ok eq d0 l=some r∧r.Perm l∧r.Pairwise fun a b=>Go.Proofs.ltOf cf b a=false:=by
 have ha:l.all ok=true:=Ah.2 hok
 unfold Je7
 rw [if_pos hl]
 by_cases hp:(Jvv (α:=t.T) (Go.Proofs.ltOf cf) eq l&&Au (α:=t.T) l ok)=true
 ·rw [if_pos hp]
  refine ⟨_,rfl,Yf l,?_⟩
  have hm:=Jd9 ha
  have e:=Jld (α:={x:t.T // ok x=true}) Subtype.val (fun x y=>!(Go.Proofs.ltOf cf) y x) (Jgh ok l ha)
  rw [hm] at e
  rw [←e,List.pairwise_map]
  refine (Jgq (le:=fun x y:{x:t.T // ok x=true}=>!(Go.Proofs.ltOf cf) y.1 x.1) (fun x y z h1 h2=>?_) (fun x y=>?_) _).imp fun {a b} h=>?_
  ·simp only [Aa] at *
   exact hO.ntrans z y x h2 h1
  ·simp only [Aa]
   cases h:Go.Proofs.ltOf cf y.1 x.1 with
   | false=>exact .inl rfl
   | true =>
    cases h2:Go.Proofs.ltOf cf x.1 y.1 with
    | false=>exact .inr rfl
    | true=>exact absurd (hO.trans x y x h2 h) (by rw [hO.irrefl];exact Ai)
  ·simp only [Aa] at h
   exact h
 ·rw [if_neg hp,dif_pos ha]
  letI:Inhabited {x:t.T // ok x=true}:=⟨d0⟩
  refine ⟨_,rfl,?_,?_⟩
  ·have:=(Jgp hO (Jgh ok l ha)).map Subtype.val
   rwa [Jd9 ha] at this
  ·rw [List.pairwise_map]
   exact (pdqL_pw hO (Jgh ok l ha)).imp fun h=>h
end Go.Dn
