/- Sorting and compacting rows of numbers by the library. Conditions: the library's functions lie at the program. -/
import Derived.Test.YtmfagdfkpjgeiaaGreatOA
import Derived.Test.YtmfagdfkpjgeiaaGreatFB
import Derived.Shelf.SortM.Plain
import Derived.Shelf.SortM.SortNone
import Derived.Shelf.SlicesE.Compact
set_option linter.unusedVariables false
set_option linter.unusedSimpArgs false
namespace Go.Dn
open Go Go.Vv
open Nat renaming le_refl -> Aa, add_zero -> Bb, zero_add -> Bc, le_succ -> Be
open _root_.Array renaming getD_eq_getD_getElem? -> Ab, getElem?_eq_getElem -> Ad, getElem?_eq_some_iff -> Af, getElem?_modify -> Aj, getElem?_append_left -> Ak, getElem?_mapIdx -> Ay
open List renaming flatMap -> Ac, getElem?_eq_getElem -> Ae, range -> Ag, getElem?_map -> Ah, getElem?_eq_some_iff -> Ai, getElem?_append_left -> Ao, getLast?_concat -> Ap, replicate -> Aq, length_append -> Ar, getElem?_append_right -> As, append_nil -> Av, length_map -> Aw, getElem?_eq_none -> Ax, getElem?_range -> Az
open Classical renaming byContradiction -> Am
open Option renaming map_some -> Au, isSome_none -> Ba
open Option.some renaming injEq -> Bd
def XQ(l:List Int):Option (List Int):=if l.length<4611686018427387904 then some (KY (λx y:Int=>decide (x<=y)) l) else none
open Go.Proofs Go.Shelf in
theorem J5w{P:Program}{ρ:Ren}(L:SlLaysM.n5 P ρ)(O:ρ.f 5<yB)(Q:DT P (ρ.f 5)):KQ P ⟨ρ.f 5,0,false,I,XQ⟩:=by
 have em:∀l:List Int,(l.mergeSort λx y=>decide (x<=y))=KY (λx y:Int=>decide (x<=y)) l:=Jqm (λx y z h1 h2=>by simp only [decide_eq_true_eq] at *;omega) (λx y=>by simp only [decide_eq_true_eq];omega) (λx y h1 h2=>by simp only [decide_eq_true_eq] at *;omega)
 refine ⟨Q,O,rfl,λl r hr=>?_,λl r hr hne w b off cap cs el G o Y d=>?_,λr hr w A=>?_,λw=>?_⟩
 ·obtain ⟨l,rfl⟩:∃K:List Int,K=l:=⟨l,rfl⟩;obtain ⟨r,rfl⟩:∃J:List Int,J=r:=⟨r,rfl⟩;have hr:XQ l=some r:=hr;unfold XQ at hr;split at hr
  ·injection hr with hr;rw [<-hr];exact (iZ l).length_eq
  ·cases hr
 ·obtain ⟨l,rfl⟩:∃K:List Int,K=l:=⟨l,rfl⟩;obtain ⟨r,rfl⟩:∃J:List Int,J=r:=⟨r,rfl⟩;have hr:XQ l=some r:=hr;unfold XQ at hr;split at hr
  ·rename_i M;injection hr with hr;have o:off+l.length * 1<=cs.size:=o;have d:∀(k:Nat) (x:Int),l[k]?=some x->cs.getD (off+k) undef=.int .i64 x:=λk x F=>by
    have:(Ac (α:=I.T) (Ty.cs I) l)[k]?=some (.int .i64 x):=by rw [LG,Ah,F];rfl
    exact d k _ this
   have h:b<w.heap.size:=(Af.1 G).1;have hH:Go.Sort.Holds (Value.int .i64) w b off l.toArray:=λk F=>by
    have E:k<l.length:=by simpa using F
    have m:=d k _ (Ae E);have a:off+k<cs.size:=by omega
    refine ⟨?_,by simp [World.frozen?,G]⟩;simp only [World.cell?,G];rw [Ab,Ad a] at m;simp only [Ba,Bool.false_eq_true,if_false];rw [Ad a];have:l.toArray[k]! = l[k]:=by simp [E]
    rw [this];exact congrArg some m
   have B:=AnyM.slices_Sort_int L b off cap l w hH h M;rw [show #[Value.slice (some ⟨b,off,none⟩) (List.length (α:=I.T) l) cap]++GL.j ⟨ρ.f 5,0,false,I,XQ⟩=#[Value.slice (some ⟨b,off,none⟩) l.length cap] from rfl];refine B.mono λe w' ⟨H,n,os,Z⟩=>⟨H,?_⟩;subst Z;rw [em,hr];have X:r.length=l.length:=by rw [<-hr];exact (iZ l).length_eq
   refine ⟨rfl,rfl,⟨rfl,Nat.le_add_right _ _⟩,?_,λk F N=>?_,λel' f=>?_⟩
   ·show w.heap.size<=((w.heap.modify b _)++os).size;simp
   ·show ((w.heap.modify b _)++os)[k]?=_;rw [Ak (by simpa using F),Aj,if_neg (λq=>N q.symm)]
   ·have R:el'=el:=by rw [G] at f;injection f with f;injection f with _ q;exact q.symm
    subst R;refine ⟨Go.Sort.putCells (Value.int .i64) off r.toArray cs,?_,by simp [Go.Sort.putCells],λi v g=>?_⟩
    ·show ((w.heap.modify b _)++os)[b]?=_;rw [Ak (by simpa using h),Aj,if_pos rfl,G];rfl
    ·have g:(Ac (α:=I.T) (Ty.cs I) r)[i]?=some v:=g;rw [LG,Ah] at g;have hi:i<r.length:=by apply Am;intro hn;rw [Ax (by omega)] at g;cases g
     rw [Ae hi] at g;simp only [Au,Bd] at g;subst g;have a:off+i<cs.size:=by omega
     rw [Ab];simp only [Go.Sort.putCells,Ay];rw [Ad a];simp only [Au,Option.getD_some];rw [if_pos ⟨by omega,by simp;omega⟩,show off+i - off=i by omega];have:r.toArray[i]! = r[i]:=by simp [hi]
     rw [this];rfl
  ·cases hr
 ·refine (AnyM.slices_Sort_int_none L A 0 w).mono λe w' ⟨H,m⟩=>⟨H,?_⟩;subst m;exact ⟨rfl,rfl,⟨rfl,Aa _⟩,Aa _,λ_ _=>rfl⟩
 ·refine (AnyM.slices_Sort_int_none L none 0 w).mono λe w' ⟨H,m⟩=>⟨H,?_⟩;subst m;exact ⟨rfl,rfl,⟨rfl,Aa _⟩,Aa _,λ_ _=>rfl⟩
theorem J0z(l:List Int)(x:Int):Cw (l++[x])=Wo (Cw l) x:=by unfold Cw;rw [List.foldl_append];rfl
open Go.Proofs Go.Shelf in
theorem wX(l:List Int):∀m,m<=l.length->Lib.compactUpTo l.toArray m=Cw (l.take m)/\(Cw (l.take m)).getLast?=(l.take m).getLast?
 | 0,_=>by simp [Lib.compactUpTo,Cw]
 | m+1,A=>by
  obtain ⟨y,w⟩:=wX l m (by omega);have hx:l[m]?=some l[m]:=Ae (by omega);have r:l.take (m+1)=l.take m++[l[m]]:=by rw [List.take_add_one,hx];rfl
  have o:∀j (h:j<l.length),l.toArray[j]! = l[j]:=λj h=>by simp [h]
  have v:Lib.compactUpTo l.toArray (m+1)=Lib.compactUpTo l.toArray m++(if Lib.keeps l.toArray m then [l[m]] else []):=by
   unfold Lib.compactUpTo;rw [List.range_succ,List.filter_append,List.map_append]
   congr 1
   by_cases a:Lib.keeps l.toArray m=true
   ·rw [List.filter_cons_of_pos a,if_pos a,List.filter_nil,List.map_cons,List.map_nil,o m (by omega)]
   ·rw [List.filter_cons_of_neg a,if_neg a];rfl
  rw [v,y,r,J0z];have hl:(l.take m).getLast?=if m=0 then none else some l.toArray[m - 1]!:=by
   by_cases d:m=0
   ·subst d;rfl
   ·rw [if_neg d,List.getLast?_eq_getElem?,List.length_take,List.getElem?_take_of_lt (by omega),show min m l.length - 1=m - 1 by omega,o (m - 1) (by omega)];exact Ae (by omega)
  have f:Lib.keeps l.toArray m=true↔(Cw (l.take m)).getLast?≠some l[m]:=by
   rw [w,hl];unfold Lib.keeps;rw [decide_eq_true_eq,o m (by omega)];by_cases d:m=0
   ·subst d;simp
   ·rw [if_neg d];simp only [d,false_or,ne_eq,Bd];exact ⟨λh e=>h e.symm,λh e=>h e.symm⟩
  unfold Wo;by_cases a:Lib.keeps l.toArray m=true
  ·rw [if_pos a,if_neg (f.1 a)];exact ⟨rfl,by rw [Ap,Ap]⟩
  ·have g:(Cw (l.take m)).getLast?=some l[m]:=Am λh=>a (f.2 h);rw [if_neg a,if_pos g,Av];exact ⟨rfl,by rw [g,Ap]⟩
open Go.Proofs Go.Shelf in
theorem J4i(l:List Int):(Cw l).length<=l.length:=by have h:=(wX l l.length (Aa _)).1;rw [List.take_length] at h;rw [<-h];unfold Lib.compactUpTo;rw [Aw];have:=List.length_filter_le (Lib.keeps l.toArray) (Ag l.length);rwa [List.length_range] at this
open Go.Proofs Go.Shelf in
theorem J43{P:Program}{ρ:Ren}(L:SlLaysE.n43 P ρ)(A:Option Addr)(w:World):Calls P (ρ.f 43) #[.slice A 0 0] w λe w'=>e=.returned (.slice A 0 0)/\Old w w':=by
 have mixed:=L.mixed;have t0:=L.t0;have a0:=L.a0;have z0:=L.z0;have v0:=L.v0;have t3:=L.t3;have a3:=L.a3;have z3:=L.z3;have v3:=L.v3;have t4:=L.t4;have a4:=L.a4;have z4:=L.z4;have v4:=L.v4;have t22:=L.t22;have a22:=L.a22;have z22:=L.z22;have v22:=L.v22;have a23:=L.a23;have z23:=L.z23;obtain ⟨_,_,FG⟩:=L.f43
 go_enter FG,SlBodyN.n43_ntmps ρ
 go_wp2
 go_ret
 exact ⟨rfl,rfl,rfl,⟨rfl,by simp [World.drewN]⟩,Aa _,λ_ _=>rfl⟩
open Go.Proofs Go.Shelf in
theorem R4{P:Program}{ρ:Ren}(L:SlLaysE.n43 P ρ)(A:EqlAt P (ρ.t 23) (Value.int .i64) (λx y=>decide (x=y)))(o:NeqAt P (ρ.t 23) (Value.int .i64) (λx y=>decide (x=y)))(v23:∀w,(zeroValue (ρ.t 23)).run P w=.ok (.int .i64 0) w){w:World}{b off cap:Nat}{l:List Int}{cs:Array Value}{el:TypeId}
  (m:w.heap[b]?=some (.cells cs el (0,0))) (G:off+cap<=cs.size) (f:l.length<=cap) (hM:cap<=9223372036854775807) (d:∀(k:Nat) (x:Int),l[k]?=some x->cs.getD (off+k) undef=.int .i64 x) :
  Calls P (ρ.f 43) #[.slice (some ⟨b,off,none⟩) l.length cap] w λe w'=>e=.returned (.slice (some ⟨b,off,none⟩) (Cw l).length cap)/\w'.os=w.os/\w'.tape=w.tape/\(w'.output=w.output/\w.drawn<=w'.drawn)/\w.heap.size<=w'.heap.size/\(∀q,q<w.heap.size->q≠b->w'.heap[q]?=w.heap[q]?) /\
   ∃cs':Array Value,w'.heap[b]?=some (.cells cs' el (0,0))/\cs'.size=cs.size/\∀(k:Nat) (x:Int),(Cw l)[k]?=some x->cs'.getD (off+k) undef=.int .i64 x:=by
 have B:b<w.heap.size:=(Af.1 m).1;have hH:Go.Sort.Holds (Value.int .i64) w b off l.toArray:=λk h=>by
  have g:k<l.length:=by simpa using h
  have E:=d k _ (Ae g);have a:off+k<cs.size:=by omega
  refine ⟨?_,by simp [World.frozen?,m]⟩;simp only [World.cell?,m];rw [Ab,Ad a] at E;simp only [Ba,Bool.false_eq_true,if_false];rw [Ad a];have:l.toArray[k]! = l[k]:=by simp [g]
  rw [this];exact congrArg some E
 have run:=AnyE.slices_Compact L (Value.int .i64) (λ_=>rfl) A o 0 v23 b off cap l.toArray w hH (by simp;omega) (by simpa using f);have ec:Lib.compactUpTo l.toArray l.toArray.size=Cw l:=by have:=(wX l l.length (Aa _)).1;rw [List.take_length] at this;simpa using this
 have H:=J4i l;rw [ec,show l.toArray.size=l.length from rfl] at run;refine run.mono λe w' ⟨M,q,F⟩=>⟨M,?_⟩;subst F;refine ⟨rfl,rfl,⟨rfl,Nat.le_add_right _ _⟩,?_,λk h r=>?_,Go.Sort.putCells (Value.int .i64) off (Cw l++Aq (l.length - (Cw l).length) 0).toArray cs,?_,by simp [Go.Sort.putCells],λk x h=>?_⟩
 ·show w.heap.size<=(w.heap.modify b _).size;simp
 ·show (w.heap.modify b _)[k]?=_;rw [Aj,if_neg (λq=>r q.symm)]
 ·show (w.heap.modify b _)[b]?=_;rw [Aj,if_pos rfl,m];rfl
 ·have v:k<(Cw l).length:=(Ai.1 h).1;have a:off+k<cs.size:=by omega
  rw [Ab];simp only [Go.Sort.putCells,Ay];rw [Ad a];simp only [Au,Option.getD_some];rw [if_pos ⟨by omega,by simp;omega⟩,show off+k - off=k by omega];have:(Cw l++Aq (l.length - (Cw l).length) 0).toArray[k]! = x:=by
   have K:(Cw l++Aq (l.length - (Cw l).length) (0:Int))[k]?=some x:=by rw [Ao v];exact h
   have J:(Cw l++Aq (l.length - (Cw l).length) (0:Int)).toArray[k]?=some x:=by simpa using K
   rw [getElem!_def,J]
  rw [this]
open Go.Proofs Go.Shelf in
theorem Kah{P:Program}{ρ:Ren}(L:SlLaysE.n43 P ρ)(heq:EqlAt P (ρ.t 23) (Value.int .i64) (λx y=>decide (x=y)))(hnq:NeqAt P (ρ.t 23) (Value.int .i64) (λx y=>decide (x=y)))(v23:∀w,(zeroValue (ρ.t 23)).run P w=.ok (.int .i64 0) w){el:TypeId}(hlt:Nat.ble yB (ρ.f 43)=false)(hfn:DT P (ρ.f 43)) :
  TY P (ρ.f 43) (R5 (ρ.f 43) el):=by
 refine ⟨hlt,hfn,λ{α base vs s k r} hd {n0 w S μ a0 fr fs cargs} hF okv hsz hargs {R} hR=>?_⟩;simp only [R5] at hd;split at hd
 ·rename_i g ver;split at hd
  ·rename_i v e el' l ho;obtain ⟨⟨X,O,e3⟩,hd2⟩:=su hd;subst X;subst O;subst e3;obtain ⟨J,hl'⟩:∃J:List Int,J=l:=⟨_,rfl⟩;obtain ⟨m,hm⟩:∃m:List Int,m=Cw J:=⟨_,rfl⟩;have hd5:k (.c (.lf (.ls I) m)) ((s.old g v ((J.length:Nat):Int)).obj g (.row (v+1) 1 el' I m [] none true)).pop=some r:=by rw [hm,hl'];exact hd2
   obtain ⟨H,hs2⟩:∃H:Dn.S Ty.T,H=(s.old g v ((J.length:Nat):Int)).obj g (.row (v+1) 1 el' I m [] none true):=⟨_,rfl⟩;rw [<-hs2] at hd5;have ho':look g s.ob=some (.row v 1 el' I J [] none false):=by rw [hl'];exact ho
   have lenO0:(Ob.row v 1 el' I J [] none false:Ob Ty.T).CO=J.length:=by simp [Ob.CO];rfl
   have st2:CX s H:=by rw [hs2];exact J26 ho' rfl (by rw [lenO0];simp)
   have hlk:∀g',look g' H.ob=if g=g' then some (.row (v+1) 1 el' I m [] none true) else look g' s.ob:=λg'=>by rw [hs2];exact Q0 g g' _ _
   have hmo:H.mo=s.mo:=by rw [hs2];rfl
   have iv2:Inv H:=NJ hF.iv st2 hlk (λc hc=>by cases hc) (hF.iv.free ho') hmo;have hh:=NM hF.iv st2 hlk hmo;have he2:Dn.BG H (.row (v+1) 1 el' I m [] none true)=.arr (v+1) 1 el' (Ac (α:=I.T) (Ty.cs I) m) true:=by simp [Dn.BG,Zs]
   have N:AA s g=some (.arr v 1 el' (Ac (α:=I.T) (Ty.cs I) J) false):=by rw [Jn ho'];simp [Dn.BG,Zs]
   rw [he2] at hh;have Y:(Ac (α:=I.T) (Ty.cs I) J).length=J.length:=by rw [LG,Aw]
   have hml2:(Ac (α:=I.T) (Ty.cs I) m).length=m.length:=by rw [LG,Aw]
   have hml:m.length<=J.length:=by rw [hm];exact J4i J
   have a0r:=hargs 0 _ rfl;have hl0:Yk s g v=J.length:=by simp only [Yk,ho',Ob.ver,if_true];exact lenO0
   have a0r:BF w S (AA s) μ (.arr g v 0 J.length) (cargs.getD 0 undef):=by have:BF w S (AA s) μ (.arr g v 0 (Yk s g v)) (cargs.getD 0 undef):=a0r;rw [hl0] at this;exact this
   have Q:cargs.size=1:=hsz;have ecA:cargs=#[cargs.getD 0 undef]:=by
    apply Array.ext
    ·rw [Q];rfl
    ·intro q E h2;have gd:cargs[q]=cargs.getD q undef:=by simp [Ab,E]
     rw [gd];have:q=0:=by omega
     subst this;rfl
   have vv:Cj (AA s) μ (AA H) μ:=λB f E=>by
    by_cases O:B=g
    ·subst O;rw [N] at E;injection E with E;subst E;exact ⟨_,by rw [hh];exact Jj _ _ _,Be _,λe=>by simp [AZ.ver] at e⟩
    ·exact ⟨f,by rw [hh,Je _ _ _ _ O];exact E,Aa _,λ_=>⟨⟨rfl,rfl⟩,.refl f⟩⟩
   have eh2:AA H.pop=AA H:=by
    unfold Dn.S.pop;split
    ·exact Na rfl rfl
    ·rfl
   have back0:∀B f,AA H B=some f->B≠g->AA s B=some f:=λB f E M=>by rw [hh,Je _ _ _ _ M] at E;exact E
   have fq:∀f,AA H g=some f->f=.arr (v+1) 1 el' (Ac (α:=I.T) (Ty.cs I) m) true:=λf E=>by rw [hh,Jj] at E;injection E with E;exact E.symm
   by_cases hne0:J=[]
   ·-- nothing to compact
    have hl0:Ac (α:=I.T) (Ty.cs I) J=[]:=by rw [hne0];rfl
    have hm0:m=[]:=by rw [hm,hne0];rfl
    have hm1:Ac (α:=I.T) (Ty.cs I) m=[]:=by rw [hm0];rfl
    obtain ⟨-,-,A,eA⟩:=(a0r.DJ N).1 hl0;rw [ecA,eA];refine (J43 L A w).mono λe w' ⟨e0,o⟩=>?_;subst e0;have hF1:=hF.old o;have nl:∀f,AA H g=some f->f.live=true->False:=λf E hl=>by rw [fq f E,hm1] at hl;cases hl
    have ev:Ci w S (AA s) μ w' S (AA H) μ:=by
     refine ⟨o.os,o.tape,o.output,o.size,λq F _=>o.keep q F,λq c1 el1 z1 K=>⟨c1,(o.keep q (Af.1 K).1).trans K,rfl⟩,λq F=>F,λq F=>.inl F,?_,rfl⟩;rintro q ⟨B,f,E,hz,hl,e⟩;by_cases O:B=g
     ·subst O;exact (nl f E hl).elim
     ·exact .inl ⟨B,f,back0 B f E O,hz,hl,e⟩
    have hp':BK w' S (AA H) μ:=by
     refine ⟨λB f E=>?_,λB g2 f o2 E h2 l1 l2 X=>?_,λB f E hz hl=>?_,hF1.fr.hp.lt⟩
     ·by_cases X:B=g
      ·subst X;rw [fq f E,hm1];exact λh=>(h rfl).elim
      ·exact (hF.fr.hp.ob B f (back0 B f E X)).DK hF.fr.hp ev vv λhl=>o.keep _ ((hF.fr.hp.ob B f (back0 B f E X)).lt hl)
     ·by_cases q1:B=g
      ·subst q1;exact (nl f E l1).elim
      ·by_cases q2:g2=g
       ·subst q2;exact (nl o2 h2 l2).elim
       ·exact hF.fr.hp.inj B g2 f o2 (back0 B f E q1) (back0 g2 o2 h2 q2) l1 l2 X
     ·by_cases q1:B=g
      ·subst q1;exact (nl f E hl).elim
      ·exact hF.fr.hp.own B f (back0 B f E q1) hz hl
    have hF2:BO n0 w' S H μ a0 (fr::fs):=by refine hF.step rfl ⟨λd=>?_,hp',hF.fr.hp.marks hF.fr.df ev,hF.fr.sz⟩ st2.on iv2 ev vv;rw [Sy hF.iv st2];exact (hF.fr.fr d).DK hF.fr.hp ev vv
    refine hR w' S μ (.c (.lf (.ls I) m)) H.pop _ hF2.pop (Zm λq F=>by cases F) ?_ (by rw [eh2];exact ev) hd5;show BF w' S _ μ (.CB (List.length (α:=I.T) m) (Ac (α:=I.T) (Ty.cs I) m)) _;rw [hm0];cases A with
    | none=>exact .pure .ER
    | some A=>exact .pure (.CB 0 [] A 0 (λ_=>undef) (λh=>(h rfl).elim) (Aa _) (λi x h=>by simp at h) (λi x h=>by simp at h) λi x h=>by simp at h)
   ·have hlp:0<J.length:=List.length_pos_iff.2 hne0;have M:Ac (α:=I.T) (Ty.cs I) J≠[]:=λq=>by rw [q] at Y;simp at Y;omega
    obtain ⟨A,cap,cs0,el0,z0,ec0,hcap,hb0,hsz0,hA⟩:=a0r.EB N M;obtain ⟨cs,hb,hsz1,hold,-⟩:=hF.fr.hp.ob g _ N M;rw [hb] at hb0;injection hb0 with hb0;injection hb0 with q1 q2 q3;subst q1;have hA:=hA (by omega);rw [Nat.zero_mul,Bb] at hA;subst hA;have hrow:∀(q:Nat) (x:Int),J[q]?=some x->cs.getD (μ.o g+q) undef=.int .i64 x:=λq x F=>by
     have:(Ac (α:=I.T) (Ty.cs I) J)[q]?=some (.int .i64 x):=by rw [LG,Ah,F];rfl
     exact (hold q _ this).1.BI
    rw [ecA,ec0];refine (R4 L heq hnq v23 hb (by simpa using hsz0) hcap.1 hcap.2 hrow).mono λe w' ⟨e0,r1,r2,r3,r4,r5,cs',r6,r7,r8⟩=>?_;rw [<-hm] at r8 e0;subst e0;have hown:Own (AA s) μ (μ.b g):=⟨g,_,N,rfl,Qj.2 M,rfl⟩;have scl:∀ {q:Nat} {x:AV},(Ac (α:=I.T) (Ty.cs I) m)[q]?=some x->∃n,m[q]?=some n/\x=.int .i64 n:=λ{q x} hx=>by
     rw [LG,Ah] at hx;cases F:m[q]? with
     | none=>rw [F] at hx;cases hx
     | some n=>rw [F] at hx;injection hx with hx;exact ⟨n,rfl,hx.symm⟩
    obtain ⟨S',hS'⟩:∃S':Nat->Prop,S'=λq=>S q\/q=μ.b g:=⟨_,rfl⟩;have hbb:μ.b g<w.heap.size:=(Af.1 hb).1;have ev:Ci w S (AA s) μ w' S' (AA H) μ:=by
     refine ⟨r1,r2,r3,r4,λq F hn=>r5 q F λe=>hn (e▸hown),λq c1 el1 z1 K=>?_,λq F=>by rw [hS'];exact .inl F,λq F=>?_,?_,rfl⟩
     ·by_cases hbe:q=μ.b g
      ·subst hbe;rw [hb] at K;injection K with K;injection K with q1 q2 q3;subst q1;subst q2;subst q3;exact ⟨cs',r6,r7⟩
      ·exact ⟨c1,(r5 q (Af.1 K).1 hbe).trans K,rfl⟩
     ·rw [hS'] at F;rcases F with F|rfl
      ·exact .inl F
      ·exact .inr (.inr hown)
     ·rintro q ⟨B,f,E,hz,hl,e⟩;by_cases O:B=g
      ·subst O;rw [fq f E] at hz;cases hz
      ·exact .inl ⟨B,f,back0 B f E O,hz,hl,e⟩
    have G:∀ {q:Nat} {x:AV},(Ac (α:=I.T) (Ty.cs I) m)[q]?=some x->BD w' S' x (cs'.getD (μ.o g+q) undef)/\(cs'.getD (μ.o g+q) undef).oneCell'=true:=λ{q x} hx=>by obtain ⟨n,hn,rfl⟩:=scl hx;rw [r8 q n hn];exact ⟨.int _ _,rfl⟩
    have hp':BK w' S' (AA H) μ:=by
     refine ⟨λB f E=>?_,λB g2 f o2 E h2 l1 l2 X=>?_,λB f E hz hl hs=>?_,λq F=>?_⟩
     ·by_cases X:B=g
      ·subst X;rw [fq f E];refine λ_=>⟨cs',r6,by rw [r7,hml2];rw [Y] at hsz1;omega,λq x hx=>⟨.pure (G hx).1,(G hx).2⟩,λ_=>by rw [hS'];exact .inr rfl⟩
      ·have Z:=back0 B f E X;exact (hF.fr.hp.ob B f Z).DK hF.fr.hp ev vv λhl=>r5 _ ((hF.fr.hp.ob B f Z).lt hl) λq=>X (hF.fr.hp.inj B g _ _ Z N hl (Qj.2 M) q)
     ·have back:∀B f,AA H B=some f->f.live=true->∃o2,AA s B=some o2/\o2.live=true:=λB f E hl=>by
       by_cases O:B=g
       ·subst O;exact ⟨_,N,Qj.2 M⟩
       ·exact ⟨f,back0 B f E O,hl⟩
      obtain ⟨p1,a1,b1⟩:=back B f E l1;obtain ⟨p2,a2,b2⟩:=back g2 o2 h2 l2;exact hF.fr.hp.inj B g2 p1 p2 a1 a2 b1 b2 X
     ·by_cases O:B=g
      ·subst O;rw [fq f E] at hz;cases hz
      ·have Z:=back0 B f E O;rw [hS'] at hs;rcases hs with hs|hs
       ·exact hF.fr.hp.own B f Z hz hl hs
       ·exact O (hF.fr.hp.inj B g _ _ Z N hl (Qj.2 M) hs)
     ·rw [hS'] at F;rcases F with F|rfl
      ·exact Nat.lt_of_lt_of_le (hF.fr.hp.lt q F) r4
      ·omega
    have hF2:BO n0 w' S' H μ a0 (fr::fs):=by refine hF.step rfl ⟨λd=>?_,hp',hF.fr.hp.marks hF.fr.df ev,hF.fr.sz⟩ st2.on iv2 ev vv;rw [Sy hF.iv st2];exact (hF.fr.fr d).DK hF.fr.hp ev vv
    refine hR w' S' μ (.c (.lf (.ls I) m)) H.pop _ hF2.pop (Zm λq F=>by cases F) ?_ (by rw [eh2];exact ev) hd5;show BF w' S' _ μ (.CB (List.length (α:=I.T) m) (Ac (α:=I.T) (Ty.cs I) m)) _;refine .pure (.CB _ _ ⟨μ.b g,μ.o g,none⟩ cap (λq=>cs'.getD (μ.o g+q) undef) (λ_=>by rw [hS'];exact .inr rfl) (by have:=hcap.1;show m.length<=cap;omega) (λq x hx=>?_) (λq x hx=>(G hx).2) λq x hx=>(G hx).1);have F:q<m.length:=by rw [<-hml2];exact (Ai.1 hx).1
    have hlt2:μ.o g+q<cs'.size:=by rw [r7];rw [Y] at hsz1;omega
    rw [iV r6,getD_some hlt2]
  ·cases hd
 ·-- a nil slice
  have Q:cargs.size=1:=hsz;have a0r:=hargs 0 _ rfl;have e0:cargs.getD 0 undef=.slice none 0 0:=BF.Cg (h:=AA s) a0r;have ecA:cargs=#[.slice none 0 0]:=by
   apply Array.ext
   ·rw [Q];rfl
   ·intro q E h2;have gd:cargs[q]=cargs.getD q undef:=by simp [Ab,E]
    rw [gd];have:q=0:=by omega
    subst this;exact e0
  rw [ecA];refine (J43 L none w).mono λe w' ⟨X,o⟩=>?_;subst X;have hF1:=hF.old o;have eh2:AA s.pop=AA s:=by
   unfold Dn.S.pop;split
   ·exact Na rfl rfl
   ·rfl
  exact hR w' S μ (.c (.k .BM)) s.pop _ hF1.pop (Zm λq F=>by cases F) (.pure .BM) (by rw [eh2];exact aO o) hd
 ·cases hd
def oD(α:Type)(p:List α×List α):Option (List α):=if p.1.length+p.2.length<=1000000 then some (p.1++p.2) else none
def QM(sT iT:TypeId)(l:List Oper):Code:=
 .seq (.region 0 #[opAt l 0 (some 4) (.assign (.const (.slice none 0 0)))] false)
  (.seq (.region 1 #[opAt l 1 (some 5) (.move (.tmp 0)),opAt l 2 (some 6) (.move (.tmp 0)),opAt l 3 (some 7) (.call ⟨.builtin .len,#[.tmp 6],#[sT]⟩),opAt l 4 (some 8) (.move (.tmp 0)),opAt l 5 (some 9) (.call ⟨.builtin .len,#[.tmp 8],#[sT]⟩),
   opAt l 6 (some 10) (.slice sT (.tmp 5) none (some (.tmp 7)) (some (.tmp 9))),opAt l 7 (some 11) (.move (.tmp 1)),{ opAt l 8 (some 12) (.call ⟨.builtin .append,#[.tmp 10,.tmp 11],#[sT,sT]⟩) with type:=sT },opAt l 9 (some 4) (.assign (.tmp 12))] false) .ret)
structure MX (P:Program) (id:FuncId) (sT eT iT:TypeId):Prop where
 fn : ∃ fn c, P.funcs[id]? = some fn /\ fn.body = some c /\ c = QM sT iT (uU c) /\ fn.ntmps = 13 /\ fn.results = #[.tmp 4] /\ (fn.name == "runtime.NumGoroutine") = false
 ut:P.underlying sT=some (.slice eT)
 ei:∃i z,P.info? eT=some i/\i.zero=some z/\i.size=3/\i.bytes=40
variable {P:Program} {w:World}
theorem J6n{id:FuncId}{sT eT iT:TypeId}(F:MX P id sT eT iT){A B:Option Addr}{n c m d:Nat}{cv:Value}{w1:World}{R:Ending->World->Prop}(l:n<=c)
  (r:(Builtin.append_ #[sT,sT] sT #[.slice A n n,.slice B m d]).run P w=.ok cv w1) (hR:R (.returned cv) w1):Calls P id #[.slice A n c,.slice B m d] w R:=by
 obtain ⟨fn,cc,E,v,G,g,f,-⟩:=F.fn;obtain ⟨i,z,hi,-,a,-⟩:=F.ei;have o:E8 P eT=some 3:=by simp [E8,hi,a]
 have rl:∀(ty:TypeId) (X:Option Addr) (k q:Nat),(Builtin.len_ #[sT] ty #[.slice X k q]).run P w=.ok (goInt k) w:=λty X k q=>by simp [Builtin.len_,run_underlying F.ut,goInt]
 have bd:∀(y:Nat) (code:BoundsCode),n<=y->(Instr.sliceBound (.int .i64 (n:Int)) y code).run P w=.ok n w:=λy code h=>by rw [run_sliceBound w .i64 (n:Int) y code (by omega) (by omega)];simp
 have rs:(Instr.sliceAt sT (.slice A n c) none (some (goInt n)) (some (goInt n))).run P w=.ok (.slice A n n) w:=by
  have H:(Instr.sliceBounds true n c none (some (goInt n)) (some (goInt n))).run P w=.ok (0,n,n) w:=by simp [Instr.sliceBounds,goInt,bd c _ l,bd n _ (Aa _)]
  simp only [Instr.sliceAt,Sem.run_bind,run_underlying F.ut,Result.andThen_ok,Instr.slice,H,Go.Vv.run_sizeOf o,Sem.run_pure];cases A<;>simp [Addr.add]
 rw [G] at v;refine callsIn_wide.1 (callsIn_of_wp (F:=Fr none) (n:=0) E v trivial ?_);rw [g];refine wpIn_seq (wpIn_region_list (Ji rfl (by intro c;simp [opAt]) (cv:=.slice none 0 0) (w':=w) (by simp [opAt,execOp,Act.eval]) (wpListIn_nil (wpIn_seq (wpIn_region_list ?_)))));refine Ji rfl (by intro c;simp [opAt]) (cv:=.slice A n c) (w':=w) (by simp [opAt,execOp,Act.eval,Act.put]) ?_;refine Ji rfl (by intro c;simp [opAt]) (cv:=.slice A n c) (w':=w) (by simp [opAt,execOp,Act.eval,Act.put]) ?_;refine Ji rfl (by intro c;simp [opAt]) (cv:=goInt n) (w':=w) (by simp [opAt,execOp,Act.eval,Act.put,resolve,invoke,builtin,rl]) ?_;refine Ji rfl (by intro c;simp [opAt]) (cv:=.slice A n c) (w':=w) (by simp [opAt,execOp,Act.eval,Act.put]) ?_;refine Ji rfl (by intro c;simp [opAt]) (cv:=goInt n) (w':=w) (by simp [opAt,execOp,Act.eval,Act.put,resolve,invoke,builtin,rl]) ?_;refine Ji rfl (by intro c;simp [opAt]) (cv:=.slice A n n) (w':=w) (by simp [opAt,execOp,Act.eval,Act.put,rs]) ?_;refine Ji rfl (by intro c;simp [opAt]) (cv:=.slice B m d) (w':=w) (by simp [opAt,execOp,Act.eval,Act.put]) ?_;refine Ji rfl (by intro c;simp [opAt]) (cv:=cv) (w':=w1) (by simp [opAt,execOp,Act.eval,Act.put,resolve,invoke,builtin,r]) ?_;refine Ji rfl (by intro c;simp [opAt]) (cv:=cv) (w':=w1) (by simp [opAt,execOp,Act.eval,Act.put]) ?_;refine wpListIn_nil (wpIn_ret ⟨rfl,cv,?_,hR⟩);simp [results,f,Act.put,Act.eval,opAt]
theorem Wv{id:FuncId}{sT eT iT:TypeId}(F:MX P id sT eT iT){S:Nat->Prop}(hS:∀b,S b->b<w.heap.size){n m:Nat}{L M:List AV}{c0 c1:Value}(R:BD w S (.CB n L) c0)(h1:BD w S (.CB m M) c1)(hL:L.length=n * 3)(hM:M.length=m * 3)(hb:n+m<=1000000) :
  ∃(A B:Option Addr) (c d:Nat) (cv:Value) (w1:World),c0=.slice A n c/\n<=c/\c1=.slice B m d/\(Builtin.append_ #[sT,sT] sT #[.slice A n n,.slice B m d]).run P w=.ok cv w1/\BD w1 (JV S w w1) (.CB (n+m) (L++M)) cv/\Old w w1:=by
 obtain ⟨i,z,hi,Z,r,K⟩:=F.ei;have old0:Old w w:=⟨rfl,rfl,⟨rfl,Aa _⟩,Aa _,λ_ _=>rfl⟩;have same:∀ {x:AV} {v:Value},BD w S x v->BD w (JV S w w) x v:=λh=>h.mono (λb q=>.inl q) λ_ _=>rfl;have fresh:∀(olds news:List Value) (cap:Nat) (zs:Array Value),n+m<=cap->olds.length=L.length->news.length=M.length ->
   (∀(i:Nat) (x:AV),L[i]?=some x->∃v,olds[i]?=some v/\v.oneCell'=true/\BD w S x v)->(∀(i:Nat) (x:AV),M[i]?=some x->∃v,news[i]?=some v/\v.oneCell'=true/\BD w S x v) ->
   BD (w.drew.alloc (.cells (olds.toArray++news.toArray++zs) eT)) (JV S w (w.drew.alloc (.cells (olds.toArray++news.toArray++zs) eT))) (.CB (n+m) (L++M)) (.slice (some ⟨w.heap.size,0,none⟩) (n+m) cap)/\Old w (w.drew.alloc (.cells (olds.toArray++news.toArray++zs) eT)):=λolds news cap zs J ho H h2 h3=>by
  have keep:∀b,b<w.heap.size->(w.drew.alloc (.cells (olds.toArray++news.toArray++zs) eT)).heap[b]?=w.heap[b]?:=λb hb=>by simp only [World.alloc,World.drew];rw [Array.getElem?_push,if_neg (by omega)]
  have l:(w.drew.alloc (.cells (olds.toArray++news.toArray++zs) eT)).heap.size=w.heap.size+1:=World.size_alloc _ _;have N:(w.drew.alloc (.cells (olds.toArray++news.toArray++zs) eT)).heap[w.heap.size]?=some (.cells (olds.toArray++news.toArray++zs) eT (0,0)):=by show (w.heap.push _)[w.heap.size]?=_;simp
  have key:∀(i:Nat) (x:AV),(L++M)[i]?=some x->∃v,(olds++news)[i]?=some v/\v.oneCell'=true/\BD w S x v:=λi x hx=>by
   by_cases q:i<L.length
   ·rw [Ao q] at hx;obtain ⟨v,f,G⟩:=h2 i x hx;exact ⟨v,by rw [Ao (by omega)];exact f,G⟩
   ·rw [As (by omega)] at hx;obtain ⟨v,f,G⟩:=h3 _ x hx;exact ⟨v,by rw [As (by omega),ho];exact f,G⟩
  have gv:∀ {i:Nat} {v:Value},(olds++news)[i]?=some v->(olds++news).getD i undef=v:=λh=>by rw [List.getD_eq_getElem?_getD,h];rfl
  refine ⟨.CB _ _ _ _ (λi=>(olds++news).getD i undef) (λ_=>.inr ⟨Aa _,by rw [l];exact Nat.lt_succ_self _⟩) J (λi x hx=>?_) (λi x hx=>?_) (λi x hx=>?_),rfl,rfl,⟨rfl,Be _⟩,by rw [l];exact Be _,keep⟩
  ·obtain ⟨v,f,-⟩:=key i x hx;rw [gv f,Addr.add_lit];have g:=(Ai.1 f).1;rw [Ar] at g;have g4:(olds.toArray++news.toArray++zs)[0+i]?=some v:=by
    rw [Bc,Ak (by simp;omega)];have:(olds++news).toArray[i]?=some v:=by simpa using f
    simpa using this
   simp only [World.cell?,N];simpa using g4
  ·obtain ⟨v,f,G,-⟩:=key i x hx;rw [gv f];exact G
  ·obtain ⟨v,f,-,g3⟩:=key i x hx;rw [gv f];exact g3.mono (λb q=>.inl q) λb q=>keep b (hS b q)
 have CB:∀(X:List AV) (cv:Nat->Value) (a:Addr),(∀i x,X[i]?=some x->w.cell? (a.add i)=some (cv i))->∀j v,((Ag X.length).map cv)[j]?=some v->w.cell? (a.add j)=some v:=λX cv a E j v y=>by
  rw [Ah] at y;have g:j<X.length:=by apply Am;intro q;rw [Ax (by simp;omega)] at y;cases y
  rw [Az g] at y;injection y with y;rw [<-y];exact E j _ (Ae g)
 have lst2:∀(X:List AV) (cv:Nat->Value),(∀i x,X[i]?=some x->(cv i).oneCell'=true)->(∀i x,X[i]?=some x->BD w S x (cv i))->∀(i:Nat) (x:AV),X[i]?=some x->∃v,((Ag X.length).map cv)[i]?=some v/\v.oneCell'=true/\BD w S x v:=λX cv f G i x hx=>by have g:=(Ai.1 hx).1;exact ⟨cv i,by rw [Ah,Az g];rfl,f i x hx,G i x hx⟩
 cases h1 with
 | ER=>
  rw [Av,Bb];cases R with
  | ER=>exact ⟨none,none,0,0,.slice none 0 0,w,rfl,Aa _,rfl,xU F.ut hi none none 0,.ER,old0⟩
  | CB n L a c cv hs H E f gr=>
   exact ⟨some a,none,c,0,.slice (some a) n n,w,rfl,H,rfl,mG F.ut hi a n n (Aa _) none 0,same (.CB n L a n cv hs (Aa _) E f gr),old0⟩
 | CB m M b d cw ks km kc Y kr=>
  by_cases hm:m=0
  ·subst hm;have:M=[]:=List.eq_nil_of_length_eq_zero (by omega);subst this;rw [Av,Bb];cases R with
   | ER=>exact ⟨none,some b,0,d,.slice none 0 0,w,rfl,Aa _,rfl,xU F.ut hi none (some b) d,.ER,old0⟩
   | CB n L a c cv hs H E f gr=>
    exact ⟨some a,some b,c,d,.slice (some a) n n,w,rfl,H,rfl,mG F.ut hi a n n (Aa _) (some b) d,same (.CB n L a n cv hs (Aa _) E f gr),old0⟩
  ·cases R with
   | ER=>
    have o:=run_append_nil (P:=P) w sT sT eT i z F.ut hi Z b m d ((Ag M.length).map cw) (by simp [hM,r]) (CB M cw b kc) (by omega) (by omega) (by rw [K];omega);obtain ⟨Q,O⟩:=fresh [] ((Ag M.length).map cw) (grownCap w m 0 eT) (Builtin.zeroCells z.cells (grownCap w m 0 eT - m)) (by have:=grownCap_ge w m 0 eT;omega) rfl (by simp) (λi x hx=>by simp at hx) (lst2 M cw Y kr);rw [show (([]:List Value).toArray++((Ag M.length).map cw).toArray)=((Ag M.length).map cw).toArray by simp,Bc] at Q;rw [show (([]:List Value).toArray++((Ag M.length).map cw).toArray)=((Ag M.length).map cw).toArray by simp] at O;rw [Bc];exact ⟨none,some b,0,d,_,_,rfl,Aa _,rfl,o,Q,O⟩
   | CB n L a c cv hs H E f gr=>
    have o:=run_append_grow (P:=P) w sT sT eT i z F.ut hi Z a n n ((Ag L.length).map cv) (by simp [hL,r]) (CB L cv a E) b m d ((Ag M.length).map cw) (by simp [hM,r]) (CB M cw b kc) (by omega) (by omega) (growslice_fits (by omega) (by rw [K];omega));obtain ⟨Q,O⟩:=fresh ((Ag L.length).map cv) ((Ag M.length).map cw) (grownCap w (n+m) n eT) (Builtin.zeroCells z.cells (grownCap w (n+m) n eT - (n+m))) (grownCap_ge w (n+m) n eT) (by simp) (by simp) (lst2 L cv f gr) (lst2 M cw Y kr);exact ⟨some a,some b,c,d,_,_,rfl,H,rfl,o,Q,O⟩
theorem Ka4{id:FuncId}{sT eT iT:TypeId}(F:MX P id sT eT iT){t:Ty}(K:∀x:t.T,(t.cs x).length=3):Good P ⟨id,[(.one,.ls t),(.one,.ls t)],[(false,.ls t)],oD t.T⟩:=by
 refine ⟨?_,rfl,rfl,λx r hr w S cargs hS v H=>?_⟩
 ·obtain ⟨fn,c,O,Q,hc,M,L,N⟩:=F.fn;exact ⟨fn,O,by rw [Q];rfl,N⟩
 obtain ⟨(l:List t.T),(m:List t.T)⟩:=x;have hr:(if l.length+m.length<=1000000 then some (l++m) else none)=some r:=hr;split at hr
 case isFalse=>cases hr
 rename_i E;injection hr with hr;subst hr;have len3:∀q:List t.T,(q.flatMap t.cs).length=q.length * 3:=λq=>by
  induction q with
  | nil=>rfl
  | cons a q J=>rw [List.flatMap_cons,Ar,J,K,List.length_cons];omega
 have X:BD w S (.CB l.length (l.flatMap t.cs)) (cargs.getD 0 undef):=H 0 _ rfl;have G:BD w S (.CB m.length (m.flatMap t.cs)) (cargs.getD 1 undef):=H 1 _ rfl;obtain ⟨A,B,c,d,cv,w1,Z,y,Y,g,h,o⟩:=Wv F hS X G (len3 l) (len3 m) E;have f:cargs.size=2:=v;have ec:cargs=#[.slice A l.length c,.slice B m.length d]:=by
  apply Array.ext
  ·rw [f];rfl
  ·intro q G R;have gd:cargs[q]=cargs.getD q undef:=by simp [Ab,G]
   rw [gd]
   match q,R with
   | 0,_=>exact Z
   | 1,_=>exact Y
 rw [ec];refine J6n F y g ⟨cv,rfl,?_,o⟩;have er:GQ [(false,.ls t)] (l++m)=.CB (l.length+m.length) (l.flatMap t.cs++m.flatMap t.cs):=by refine (J7n (rs:=[(false,.ls t)]) rfl (l++m:List t.T)).trans ?_;show AV.CB (l++m).length ((l++m).flatMap t.cs)=_;rw [Ar,List.flatMap_append]
 show BD w1 _ (GQ [(false,.ls t)] (l++m)) cv;rw [er];exact h
end Go.Dn
