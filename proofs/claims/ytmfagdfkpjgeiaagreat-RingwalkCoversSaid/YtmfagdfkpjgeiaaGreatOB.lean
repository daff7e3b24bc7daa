/- Sorting and compacting rows of numbers by the library. Conditions: the library's functions lie at the program. -/
import Derived.Test.YtmfagdfkpjgeiaaGreatOA
import Derived.Test.YtmfagdfkpjgeiaaGreatFB
import Derived.Shelf.SortM.Plain
import Derived.Shelf.SortM.SortNone
import Derived.Shelf.SlicesE.Compact
set_option linter.unusedVariables false
set_option linter.unusedSimpArgs false
namespace Go.Dn
open Go Go.Vv
open List renaming flatMap → Aa, getElem?_eq_getElem → Ab, getElem?_map → Ad, getLast?_concat → Ae, replicate → Af, getElem?_eq_some_iff → Ag, length_map → Ai
open Nat renaming le_refl → Ac
open Option renaming map_some → Ah, isSome_none → Aj
def Jpw (l:List Int):Option (List Int):=if l.length<4611686018427387904 then some (Jaf (fun x y:Int=>decide (x≤y)) l) else none
open Go.Proofs Go.Shelf in
theorem Jxz {P:Program} {ρ:Ren} (L:SlLaysM.n5 P ρ) (hid:ρ.f 5<yB) (hfk:FnOK P (ρ.f 5)):Jcr P ⟨ρ.f 5,0,false,I,Jpw⟩:=by
 have em:∀l:List Int,(l.mergeSort fun x y=>decide (x≤y))=Jaf (fun x y:Int=>decide (x≤y)) l:=Jfi (fun x y z h1 h2=>by
  simp only [decide_eq_true_eq] at *;omega) (fun x y=>by simp only [decide_eq_true_eq];omega) (fun x y h1 h2=>by simp only [decide_eq_true_eq] at *;omega)
 refine ⟨hfk,hid,rfl,fun l r hr=>?_,fun l r hr hne w b off cap cs el hb hsz hcap hrow=>?_,fun r hr w A=>?_,fun w=>?_⟩
 ·obtain ⟨l,rfl⟩:∃l':List Int,l'=l:=⟨l,rfl⟩
  obtain ⟨r,rfl⟩:∃r':List Int,r'=r:=⟨r,rfl⟩
  have hr:Jpw l=some r:=hr
  unfold Jpw at hr
  split at hr
  ·injection hr with hr
   rw [←hr]
   exact (Yf l).length_eq
  ·cases hr
 ·obtain ⟨l,rfl⟩:∃l':List Int,l'=l:=⟨l,rfl⟩
  obtain ⟨r,rfl⟩:∃r':List Int,r'=r:=⟨r,rfl⟩
  have hr:Jpw l=some r:=hr
  unfold Jpw at hr
  split at hr
  ·rename_i hlt
   injection hr with hr
   have hsz:off+l.length * 1≤cs.size:=hsz
   have hrow:∀(k:Nat) (x:Int),l[k]?=some x→cs.getD (off+k) undef=.int .i64 x:=fun k x hk=>by
    have:(Aa (α:=I.T) (Ty.cs I) l)[k]?=some (.int .i64 x):=by rw [Y9,Ad,hk];rfl
    exact hrow k _ this
   have hblk:b<w.heap.size:=(Array.getElem?_eq_some_iff.1 hb).1
   have hH:Go.Sort.Holds (Value.int .i64) w b off l.toArray:=fun k hk=>by
    have hk':k<l.length:=by simpa using hk
    have e2:=hrow k _ (Ab hk')
    have hlt2:off+k<cs.size:=by omega
    refine ⟨?_,by simp [World.frozen?,hb]⟩
    simp only [World.cell?,hb]
    rw [Array.getD_eq_getD_getElem?,Array.getElem?_eq_getElem hlt2] at e2
    simp only [Aj,Bool.false_eq_true,if_false]
    rw [Array.getElem?_eq_getElem hlt2]
    have:l.toArray[k]! = l[k]:=by simp [hk']
    rw [this]
    exact congrArg some e2
   have hrun:=AnyM.slices_Sort_int L b off cap l w hH hblk hlt
   rw [show #[Value.slice (some ⟨b,off,none⟩) (List.length (α:=I.T) l) cap]++SCt.tl ⟨ρ.f 5,0,false,I,Jpw⟩=#[Value.slice (some ⟨b,off,none⟩) l.length cap] from rfl]
   refine hrun.mono fun e w' ⟨e1,n,os,hw⟩=>⟨e1,?_⟩
   subst hw
   rw [em,hr]
   have hlen:r.length=l.length:=by rw [←hr];exact (Yf l).length_eq
   refine ⟨rfl,rfl,⟨rfl,Nat.le_add_right _ _⟩,?_,fun k hk hkb=>?_,fun el' hb'=>?_⟩
   ·show w.heap.size≤((w.heap.modify b _)++os).size
    simp
   ·show ((w.heap.modify b _)++os)[k]?=_
    rw [Array.getElem?_append_left (by simpa using hk),Array.getElem?_modify,if_neg (fun q=>hkb q.symm)]
   ·have hel:el'=el:=by rw [hb] at hb';injection hb' with hb';injection hb' with _ q;exact q.symm
    subst hel
    refine ⟨Go.Sort.putCells (Value.int .i64) off r.toArray cs,?_,by simp [Go.Sort.putCells],fun i v hv=>?_⟩
    ·show ((w.heap.modify b _)++os)[b]?=_
     rw [Array.getElem?_append_left (by simpa using hblk),Array.getElem?_modify,if_pos rfl,hb]
     rfl
    ·have hv:(Aa (α:=I.T) (Ty.cs I) r)[i]?=some v:=hv
     rw [Y9,Ad] at hv
     have hi:i<r.length:=by
      apply Classical.byContradiction
      intro hn
      rw [List.getElem?_eq_none (by omega)] at hv
      cases hv
     rw [Ab hi] at hv
     simp only [Ah,Option.some.injEq] at hv
     subst hv
     have hlt2:off+i<cs.size:=by omega
     rw [Array.getD_eq_getD_getElem?]
     simp only [Go.Sort.putCells,Array.getElem?_mapIdx]
     rw [Array.getElem?_eq_getElem hlt2]
     simp only [Ah,Option.getD_some]
     rw [if_pos ⟨by omega,by simp;omega⟩,show off+i - off=i by omega]
     have:r.toArray[i]! = r[i]:=by simp [hi]
     rw [this]
     rfl
  ·cases hr
 ·refine (AnyM.slices_Sort_int_none L A 0 w).mono fun e w' ⟨e1,e2⟩=>⟨e1,?_⟩
  subst e2
  exact ⟨rfl,rfl,⟨rfl,Ac _⟩,Ac _,fun _ _=>rfl⟩
 ·refine (AnyM.slices_Sort_int_none L none 0 w).mono fun e w' ⟨e1,e2⟩=>⟨e1,?_⟩
  subst e2
  exact ⟨rfl,rfl,⟨rfl,Ac _⟩,Ac _,fun _ _=>rfl⟩
theorem Jqo (l:List Int) (x:Int):cptF (l++[x])=cptS (cptF l) x:=by unfold cptF;rw [List.foldl_append];rfl
open Go.Proofs Go.Shelf in
theorem Jco (l:List Int):∀m,m≤l.length→Lib.compactUpTo l.toArray m=cptF (l.take m)∧(cptF (l.take m)).getLast?=(l.take m).getLast?
 | 0,_=>by simp [Lib.compactUpTo,cptF]
 | m+1,hm=>by
  obtain ⟨h1,h2⟩:=Jco l m (by omega)
  have hx:l[m]?=some l[m]:=Ab (by omega)
  have ht:l.take (m+1)=l.take m++[l[m]]:=by rw [List.take_add_one,hx];rfl
  have hg:∀j (h:j<l.length),l.toArray[j]! = l[j]:=fun j h=>by simp [h]
  have hc:Lib.compactUpTo l.toArray (m+1)=Lib.compactUpTo l.toArray m++(if Lib.keeps l.toArray m then [l[m]] else []):=by
   unfold Lib.compactUpTo
   rw [List.range_succ,List.filter_append,List.map_append]
   congr 1
   by_cases hk:Lib.keeps l.toArray m=true
   ·rw [List.filter_cons_of_pos hk,if_pos hk,List.filter_nil,List.map_cons,List.map_nil,hg m (by omega)]
   ·rw [List.filter_cons_of_neg hk,if_neg hk];rfl
  rw [hc,h1,ht,Jqo]
  have hl:(l.take m).getLast?=if m=0 then none else some l.toArray[m - 1]!:=by
   by_cases h0:m=0
   ·subst h0;rfl
   ·rw [if_neg h0,List.getLast?_eq_getElem?,List.length_take,List.getElem?_take_of_lt (by omega),show min m l.length - 1=m - 1 by omega,hg (m - 1) (by omega)]
    exact Ab (by omega)
  have hkd:Lib.keeps l.toArray m=true↔(cptF (l.take m)).getLast?≠some l[m]:=by
   rw [h2,hl]
   unfold Lib.keeps
   rw [decide_eq_true_eq,hg m (by omega)]
   by_cases h0:m=0
   ·subst h0;simp
   ·rw [if_neg h0]
    simp only [h0,false_or,ne_eq,Option.some.injEq]
    exact ⟨fun h e=>h e.symm,fun h e=>h e.symm⟩
  unfold cptS
  by_cases hk:Lib.keeps l.toArray m=true
  ·rw [if_pos hk,if_neg (hkd.1 hk)]
   exact ⟨rfl,by rw [Ae,Ae]⟩
  ·have hk':(cptF (l.take m)).getLast?=some l[m]:=Classical.byContradiction fun h=>hk (hkd.2 h)
   rw [if_neg hk,if_pos hk',List.append_nil]
   exact ⟨rfl,by rw [hk',Ae]⟩
open Go.Proofs Go.Shelf in
theorem Jvo (l:List Int):(cptF l).length≤l.length:=by
 have h:=(Jco l l.length (Ac _)).1
 rw [List.take_length] at h
 rw [←h]
 unfold Lib.compactUpTo
 rw [Ai]
 have:=List.length_filter_le (Lib.keeps l.toArray) (List.range l.length)
 rwa [List.length_range] at this
open Go.Proofs Go.Shelf in
theorem Ju5 {P:Program} {ρ:Ren} (L:SlLaysE.n43 P ρ) (A:Option Addr) (w:World):Calls P (ρ.f 43) #[.slice A 0 0] w fun e w'=>e=.returned (.slice A 0 0)∧Old w w':=by
 have mixed:=L.mixed;have t0:=L.t0;have a0:=L.a0;have z0:=L.z0;have v0:=L.v0;have t3:=L.t3;have a3:=L.a3;have z3:=L.z3;have v3:=L.v3;have t4:=L.t4;have a4:=L.a4;have z4:=L.z4;have v4:=L.v4;have t22:=L.t22;have a22:=L.a22;have z22:=L.z22;have v22:=L.v22;have a23:=L.a23;have z23:=L.z23
 obtain ⟨_,_,FG⟩:=L.f43
 go_enter FG,SlBodyN.n43_ntmps ρ
 go_wp2
 go_ret
 exact ⟨rfl,⟨rfl,rfl,⟨rfl,by simp [World.drewN]⟩,Ac _,fun _ _=>rfl⟩⟩
open Go.Proofs Go.Shelf in
theorem comp_run {P:Program} {ρ:Ren} (L:SlLaysE.n43 P ρ) (heq:EqlAt P (ρ.t 23) (Value.int .i64) (fun x y=>decide (x=y))) (hne:NeqAt P (ρ.t 23) (Value.int .i64) (fun x y=>decide (x=y))) (v23:∀w,(zeroValue (ρ.t 23)).run P w=.ok (.int .i64 0) w) {w:World} {b off cap:Nat} {l:List Int} {cs:Array Value} {el:TypeId}
  (hb:w.heap[b]?=some (.cells cs el (0,0))) (hsz:off+cap≤cs.size) (hlen:l.length≤cap) (hM:cap≤9223372036854775807) (hrow:∀(k:Nat) (x:Int),l[k]?=some x→cs.getD (off+k) undef=.int .i64 x) :
  Calls P (ρ.f 43) #[.slice (some ⟨b,off,none⟩) l.length cap] w fun e w'=>e=.returned (.slice (some ⟨b,off,none⟩) (cptF l).length cap)∧w'.os=w.os∧w'.tape=w.tape∧(w'.output=w.output∧w.drawn≤w'.drawn)∧w.heap.size≤w'.heap.size∧(∀q,q<w.heap.size→q≠b→w'.heap[q]?=w.heap[q]?) ∧
   ∃cs':Array Value,w'.heap[b]?=some (.cells cs' el (0,0))∧cs'.size=cs.size∧∀(k:Nat) (x:Int),(cptF l)[k]?=some x→cs'.getD (off+k) undef=.int .i64 x:=by
 have hblk:b<w.heap.size:=(Array.getElem?_eq_some_iff.1 hb).1
 have hH:Go.Sort.Holds (Value.int .i64) w b off l.toArray:=fun k hk=>by
  have hk':k<l.length:=by simpa using hk
  have e2:=hrow k _ (Ab hk')
  have hlt2:off+k<cs.size:=by omega
  refine ⟨?_,by simp [World.frozen?,hb]⟩
  simp only [World.cell?,hb]
  rw [Array.getD_eq_getD_getElem?,Array.getElem?_eq_getElem hlt2] at e2
  simp only [Aj,Bool.false_eq_true,if_false]
  rw [Array.getElem?_eq_getElem hlt2]
  have:l.toArray[k]! = l[k]:=by simp [hk']
  rw [this]
  exact congrArg some e2
 have run:=AnyE.slices_Compact L (Value.int .i64) (fun _=>rfl) heq hne 0 v23 b off cap l.toArray w hH (by simp;omega) (by simpa using hlen)
 have ec:Lib.compactUpTo l.toArray l.toArray.size=cptF l:=by
  have:=(Jco l l.length (Ac _)).1
  rw [List.take_length] at this
  simpa using this
 have hcl:=Jvo l
 rw [ec,show l.toArray.size=l.length from rfl] at run
 refine run.mono fun e w' ⟨e1,q,hw⟩=>⟨e1,?_⟩
 subst hw
 refine ⟨rfl,rfl,⟨rfl,Nat.le_add_right _ _⟩,?_,fun k hk hkb=>?_,Go.Sort.putCells (Value.int .i64) off (cptF l++Af (l.length - (cptF l).length) 0).toArray cs,?_,by simp [Go.Sort.putCells],fun k x hk=>?_⟩
 ·show w.heap.size≤(w.heap.modify b _).size
  simp
 ·show (w.heap.modify b _)[k]?=_
  rw [Array.getElem?_modify,if_neg (fun q=>hkb q.symm)]
 ·show (w.heap.modify b _)[b]?=_
  rw [Array.getElem?_modify,if_pos rfl,hb]
  rfl
 ·have hk1:k<(cptF l).length:=(Ag.1 hk).1
  have hlt2:off+k<cs.size:=by omega
  rw [Array.getD_eq_getD_getElem?]
  simp only [Go.Sort.putCells,Array.getElem?_mapIdx]
  rw [Array.getElem?_eq_getElem hlt2]
  simp only [Ah,Option.getD_some]
  rw [if_pos ⟨by omega,by simp;omega⟩,show off+k - off=k by omega]
  have:(cptF l++Af (l.length - (cptF l).length) 0).toArray[k]! = x:=by
   have h3:(cptF l++Af (l.length - (cptF l).length) (0:Int))[k]?=some x:=by rw [List.getElem?_append_left hk1];exact hk
   have h4:(cptF l++Af (l.length - (cptF l).length) (0:Int)).toArray[k]?=some x:=by simpa using h3
   rw [getElem!_def,h4]
  rw [this]
open Go.Proofs Go.Shelf in
theorem J03 {P:Program} {ρ:Ren} (L:SlLaysE.n43 P ρ) (heq:EqlAt P (ρ.t 23) (Value.int .i64) (fun x y=>decide (x=y))) (hnq:NeqAt P (ρ.t 23) (Value.int .i64) (fun x y=>decide (x=y))) (v23:∀w,(zeroValue (ρ.t 23)).run P w=.ok (.int .i64 0) w) {el:TypeId} (hlt:Nat.ble yB (ρ.f 43)=false) (hfn:FnOK P (ρ.f 43)) :
  Je1 P (ρ.f 43) (compB (ρ.f 43) el):=by
 refine ⟨hlt,hfn,fun {α base vs s k r} hd {n0 w S μ a0 fr fs cargs} hF okv hsz hargs {R} hR=>?_⟩
 simp only [compB] at hd
 split at hd
 ·rename_i g ver
  split at hd
  ·rename_i v e el' l ho
   obtain ⟨⟨e1,e2,e3⟩,hd2⟩:=Jh6 hd
   subst e1
   subst e2
   subst e3
   obtain ⟨l',hl'⟩:∃l':List Int,l'=l:=⟨_,rfl⟩
   obtain ⟨m,hm⟩:∃m:List Int,m=cptF l':=⟨_,rfl⟩
   have hd5:k (.c (.lf (.ls I) m)) ((s.old g v ((l'.length:Nat):Int)).obj g (.row (v+1) 1 el' I m [] none true)).pop=some r:=by
    rw [hm,hl']
    exact hd2
   obtain ⟨s2,hs2⟩:∃s2:Dn.S Ty.T,s2=(s.old g v ((l'.length:Nat):Int)).obj g (.row (v+1) 1 el' I m [] none true):=⟨_,rfl⟩
   rw [←hs2] at hd5
   have ho':look g s.ob=some (.row v 1 el' I l' [] none false):=by rw [hl'];exact ho
   have lenO0:(Ob.row v 1 el' I l' [] none false:Ob Ty.T).lenO=l'.length:=by simp [Ob.lenO];rfl
   have st2:Stab s s2:=by
    rw [hs2]
    exact Jvs ho' rfl (by rw [lenO0];simp)
   have hlk:∀g',look g' s2.ob=if g=g' then some (.row (v+1) 1 el' I m [] none true) else look g' s.ob:=fun g'=>by rw [hs2];exact J9 g g' _ _
   have hmo:s2.mo=s.mo:=by rw [hs2];rfl
   have iv2:Inv s2:=Jae hF.iv st2 hlk (fun c hc=>by cases hc) (hF.iv.free ho') hmo
   have hh:=Zl hF.iv st2 hlk hmo
   have he2:Dn.encO s2 (.row (v+1) 1 el' I m [] none true)=.arr (v+1) 1 el' (Aa (α:=I.T) (Ty.cs I) m) true:=by simp [Dn.encO,Xd]
   have he1:encH s g=some (.arr v 1 el' (Aa (α:=I.T) (Ty.cs I) l') false):=by rw [Jh ho'];simp [Dn.encO,Xd]
   rw [he2] at hh
   have hlen:(Aa (α:=I.T) (Ty.cs I) l').length=l'.length:=by rw [Y9,Ai]
   have hml2:(Aa (α:=I.T) (Ty.cs I) m).length=m.length:=by rw [Y9,Ai]
   have hml:m.length≤l'.length:=by rw [hm];exact Jvo l'
   have a0r:=hargs 0 _ rfl
   have hl0:Qf s g v=l'.length:=by simp only [Qf,ho',Ob.ver,if_true];exact lenO0
   have a0r:Rep w S (encH s) μ (.arr g v 0 l'.length) (cargs.getD 0 undef):=by
    have:Rep w S (encH s) μ (.arr g v 0 (Qf s g v)) (cargs.getD 0 undef):=a0r
    rw [hl0] at this
    exact this
   have hsz1':cargs.size=1:=hsz
   have ecA:cargs=#[cargs.getD 0 undef]:=by
    apply Array.ext
    ·rw [hsz1'];rfl
    ·intro q h1 h2
     have gd:cargs[q]=cargs.getD q undef:=by simp [Array.getD_eq_getD_getElem?,h1]
     rw [gd]
     have:q=0:=by omega
     subst this
     rfl
   have vv:EvoV (encH s) μ (encH s2) μ:=fun g1 o1 h1=>by
    by_cases e2:g1=g
    ·subst e2
     rw [he1] at h1
     injection h1 with h1
     subst h1
     exact ⟨_,by rw [hh];exact Je _ _ _,Nat.le_succ _,fun e=>by simp [AObj.ver] at e⟩
    ·exact ⟨o1,by rw [hh,Jc _ _ _ _ e2];exact h1,Ac _,fun _=>⟨⟨rfl,rfl⟩,.refl o1⟩⟩
   have eh2:encH s2.pop=encH s2:=by
    unfold Dn.S.pop
    split
    ·exact Y7 rfl rfl
    ·rfl
   have back0:∀g1 o1,encH s2 g1=some o1→g1≠g→encH s g1=some o1:=fun g1 o1 h1 hne=>by
    rw [hh,Jc _ _ _ _ hne] at h1;exact h1
   have at0:∀o1,encH s2 g=some o1→o1=.arr (v+1) 1 el' (Aa (α:=I.T) (Ty.cs I) m) true:=fun o1 h1=>by
    rw [hh,Je] at h1
    injection h1 with h1
    exact h1.symm
   by_cases hne0:l'=[]
   ·-- nothing to compact
    have hl0:Aa (α:=I.T) (Ty.cs I) l'=[]:=by rw [hne0];rfl
    have hm0:m=[]:=by rw [hm,hne0];rfl
    have hm1:Aa (α:=I.T) (Ty.cs I) m=[]:=by rw [hm0];rfl
    obtain ⟨-,-,A,eA⟩:=(a0r.arr_inv0 he1).1 hl0
    rw [ecA,eA]
    refine (Ju5 L A w).mono fun e w' ⟨e0,o⟩=>?_
    subst e0
    have hF1:=hF.old o
    have nl:∀o1,encH s2 g=some o1→o1.live=true→False:=fun o1 h1 hl=>by
     rw [at0 o1 h1,hm1] at hl
     cases hl
    have ev:Evo w S (encH s) μ w' S (encH s2) μ:=by
     refine ⟨o.os,o.tape,o.output,o.size,fun q hq _=>o.keep q hq,fun q c1 el1 z1 hc1=>⟨c1,(o.keep q (Array.getElem?_eq_some_iff.1 hc1).1).trans hc1,rfl⟩,fun q hq=>hq,fun q hq=>.inl hq,?_,rfl⟩
     rintro q ⟨g1,o1,h1,hz,hl,e⟩
     by_cases e2:g1=g
     ·subst e2;exact (nl o1 h1 hl).elim
     ·exact .inl ⟨g1,o1,back0 g1 o1 h1 e2,hz,hl,e⟩
    have hp':RepH w' S (encH s2) μ:=by
     refine ⟨fun g1 o1 h1=>?_,fun g1 g2 o1 o2 h1 h2 l1 l2 e1=>?_,fun g1 o1 h1 hz hl=>?_,hF1.fr.hp.lt⟩
     ·by_cases e1:g1=g
      ·subst e1
       rw [at0 o1 h1,hm1]
       exact fun h=>(h rfl).elim
      ·exact (hF.fr.hp.ob g1 o1 (back0 g1 o1 h1 e1)).evo hF.fr.hp ev vv fun hl=>o.keep _ ((hF.fr.hp.ob g1 o1 (back0 g1 o1 h1 e1)).lt hl)
     ·by_cases q1:g1=g
      ·subst q1;exact (nl o1 h1 l1).elim
      ·by_cases q2:g2=g
       ·subst q2;exact (nl o2 h2 l2).elim
       ·exact hF.fr.hp.inj g1 g2 o1 o2 (back0 g1 o1 h1 q1) (back0 g2 o2 h2 q2) l1 l2 e1
     ·by_cases q1:g1=g
      ·subst q1;exact (nl o1 h1 hl).elim
      ·exact hF.fr.hp.own g1 o1 (back0 g1 o1 h1 q1) hz hl
    have hF2:RepF n0 w' S s2 μ a0 (fr::fs):=by
     refine hF.step rfl ⟨fun d=>?_,hp',hF.fr.hp.marks hF.fr.df ev,hF.fr.sz⟩ st2.on iv2 ev vv
     rw [jg hF.iv st2]
     exact (hF.fr.fr d).evo hF.fr.hp ev vv
    refine hR w' S μ (.c (.lf (.ls I) m)) s2.pop _ hF2.pop (Qq fun q hq=>by cases hq) ?_ (by rw [eh2];exact ev) hd5
    show Rep w' S _ μ (.lst (List.length (α:=I.T) m) (Aa (α:=I.T) (Ty.cs I) m)) _
    rw [hm0]
    cases A with
    | none=>exact .pure .lst0
    | some A=>exact .pure (.lst 0 [] A 0 (fun _=>undef) (fun h=>(h rfl).elim) (Ac _) (fun i x h=>by simp at h) (fun i x h=>by simp at h) fun i x h=>by simp at h)
   ·have hlp:0<l'.length:=List.length_pos_iff.2 hne0
    have hne:Aa (α:=I.T) (Ty.cs I) l'≠[]:=fun q=>by rw [q] at hlen;simp at hlen;omega
    obtain ⟨A,cap,cs0,el0,z0,ec0,hcap,hb0,hsz0,hA⟩:=a0r.arr_inv he1 hne
    obtain ⟨cs,hb,hsz1,hold,-⟩:=hF.fr.hp.ob g _ he1 hne
    rw [hb] at hb0
    injection hb0 with hb0
    injection hb0 with q1 q2 q3
    subst q1
    have hA:=hA (by omega)
    rw [Nat.zero_mul,Nat.add_zero] at hA
    subst hA
    have hrow:∀(q:Nat) (x:Int),l'[q]?=some x→cs.getD (μ.o g+q) undef=.int .i64 x:=fun q x hq=>by
     have:(Aa (α:=I.T) (Ty.cs I) l')[q]?=some (.int .i64 x):=by rw [Y9,Ad,hq];rfl
     exact (hold q _ this).1.int_inv
    rw [ecA,ec0]
    refine (comp_run L heq hnq v23 hb (by simpa using hsz0) hcap.1 hcap.2 hrow).mono fun e w' ⟨e0,r1,r2,r3,r4,r5,cs',r6,r7,r8⟩=>?_
    rw [←hm] at r8 e0
    subst e0
    have hown:Own (encH s) μ (μ.b g):=⟨g,_,he1,rfl,Kr.2 hne,rfl⟩
    have scl:∀ {q:Nat} {x:AV},(Aa (α:=I.T) (Ty.cs I) m)[q]?=some x→∃n,m[q]?=some n∧x=.int .i64 n:=fun {q x} hx=>by
     rw [Y9,Ad] at hx
     cases hq:m[q]? with
     | none=>rw [hq] at hx;cases hx
     | some n=>rw [hq] at hx;injection hx with hx;exact ⟨n,rfl,hx.symm⟩
    obtain ⟨S',hS'⟩:∃S':Nat→Prop,S'=fun q=>S q∨q=μ.b g:=⟨_,rfl⟩
    have hbb:μ.b g<w.heap.size:=(Array.getElem?_eq_some_iff.1 hb).1
    have ev:Evo w S (encH s) μ w' S' (encH s2) μ:=by
     refine ⟨r1,r2,r3,r4,fun q hq hn=>r5 q hq fun e=>hn (e▸hown),fun q c1 el1 z1 hc1=>?_,fun q hq=>by rw [hS'];exact .inl hq,fun q hq=>?_,?_,rfl⟩
     ·by_cases hbe:q=μ.b g
      ·subst hbe
       rw [hb] at hc1
       injection hc1 with hc1
       injection hc1 with q1 q2 q3
       subst q1
       subst q2
       subst q3
       exact ⟨cs',r6,r7⟩
      ·exact ⟨c1,(r5 q (Array.getElem?_eq_some_iff.1 hc1).1 hbe).trans hc1,rfl⟩
     ·rw [hS'] at hq
      rcases hq with hq|rfl
      ·exact .inl hq
      ·exact .inr (.inr hown)
     ·rintro q ⟨g1,o1,h1,hz,hl,e⟩
      by_cases e2:g1=g
      ·subst e2
       rw [at0 o1 h1] at hz
       cases hz
      ·exact .inl ⟨g1,o1,back0 g1 o1 h1 e2,hz,hl,e⟩
    have hcells:∀ {q:Nat} {x:AV},(Aa (α:=I.T) (Ty.cs I) m)[q]?=some x→RepP w' S' x (cs'.getD (μ.o g+q) undef)∧(cs'.getD (μ.o g+q) undef).oneCell'=true:=fun {q x} hx=>by
     obtain ⟨n,hn,rfl⟩:=scl hx
     rw [r8 q n hn]
     exact ⟨.int _ _,rfl⟩
    have hp':RepH w' S' (encH s2) μ:=by
     refine ⟨fun g1 o1 h1=>?_,fun g1 g2 o1 o2 h1 h2 l1 l2 e1=>?_,fun g1 o1 h1 hz hl hs=>?_,fun q hq=>?_⟩
     ·by_cases e1:g1=g
      ·subst e1
       rw [at0 o1 h1]
       refine fun _=>⟨cs',r6,by rw [r7,hml2];rw [hlen] at hsz1;omega,fun q x hx=>⟨.pure (hcells hx).1,(hcells hx).2⟩,fun _=>by rw [hS'];exact .inr rfl⟩
      ·have h1':=back0 g1 o1 h1 e1
       exact (hF.fr.hp.ob g1 o1 h1').evo hF.fr.hp ev vv fun hl=>r5 _ ((hF.fr.hp.ob g1 o1 h1').lt hl) fun q=>e1 (hF.fr.hp.inj g1 g _ _ h1' he1 hl (Kr.2 hne) q)
     ·have back:∀g1 o1,encH s2 g1=some o1→o1.live=true→∃o2,encH s g1=some o2∧o2.live=true:=fun g1 o1 h1 hl=>by
       by_cases e2:g1=g
       ·subst e2;exact ⟨_,he1,Kr.2 hne⟩
       ·exact ⟨o1,back0 g1 o1 h1 e2,hl⟩
      obtain ⟨p1,a1,b1⟩:=back g1 o1 h1 l1
      obtain ⟨p2,a2,b2⟩:=back g2 o2 h2 l2
      exact hF.fr.hp.inj g1 g2 p1 p2 a1 a2 b1 b2 e1
     ·by_cases e2:g1=g
      ·subst e2
       rw [at0 o1 h1] at hz
       cases hz
      ·have h1':=back0 g1 o1 h1 e2
       rw [hS'] at hs
       rcases hs with hs|hs
       ·exact hF.fr.hp.own g1 o1 h1' hz hl hs
       ·exact e2 (hF.fr.hp.inj g1 g _ _ h1' he1 hl (Kr.2 hne) hs)
     ·rw [hS'] at hq
      rcases hq with hq|rfl
      ·exact Nat.lt_of_lt_of_le (hF.fr.hp.lt q hq) r4
      ·omega
    have hF2:RepF n0 w' S' s2 μ a0 (fr::fs):=by
     refine hF.step rfl ⟨fun d=>?_,hp',hF.fr.hp.marks hF.fr.df ev,hF.fr.sz⟩ st2.on iv2 ev vv
     rw [jg hF.iv st2]
     exact (hF.fr.fr d).evo hF.fr.hp ev vv
    refine hR w' S' μ (.c (.lf (.ls I) m)) s2.pop _ hF2.pop (Qq fun q hq=>by cases hq) ?_ (by rw [eh2];exact ev) hd5
    show Rep w' S' _ μ (.lst (List.length (α:=I.T) m) (Aa (α:=I.T) (Ty.cs I) m)) _
    refine .pure (.lst _ _ ⟨μ.b g,μ.o g,none⟩ cap (fun q=>cs'.getD (μ.o g+q) undef) (fun _=>by rw [hS'];exact .inr rfl) (by have:=hcap.1;show m.length≤cap;omega) (fun q x hx=>?_) (fun q x hx=>(hcells hx).2) fun q x hx=>(hcells hx).1)
    have hq:q<m.length:=by rw [←hml2];exact (Ag.1 hx).1
    have hlt2:μ.o g+q<cs'.size:=by rw [r7];rw [hlen] at hsz1;omega
    rw [Jct r6,getD_some hlt2]
  ·cases hd
 ·-- a nil slice
  have hsz1':cargs.size=1:=hsz
  have a0r:=hargs 0 _ rfl
  have e0:cargs.getD 0 undef=.slice none 0 0:=Rep.nils_inv (h:=encH s) a0r
  have ecA:cargs=#[.slice none 0 0]:=by
   apply Array.ext
   ·rw [hsz1'];rfl
   ·intro q h1 h2
    have gd:cargs[q]=cargs.getD q undef:=by simp [Array.getD_eq_getD_getElem?,h1]
    rw [gd]
    have:q=0:=by omega
    subst this
    exact e0
  rw [ecA]
  refine (Ju5 L none w).mono fun e w' ⟨e1,o⟩=>?_
  subst e1
  have hF1:=hF.old o
  have eh2:encH s.pop=encH s:=by
   unfold Dn.S.pop
   split
   ·exact Y7 rfl rfl
   ·rfl
  exact hR w' S μ (.c (.k .nils)) s.pop _ hF1.pop (Qq fun q hq=>by cases hq) (.pure .nils) (by rw [eh2];exact Jd1 o) hd
 ·cases hd
end Go.Dn
