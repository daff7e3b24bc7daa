/- Sorting and compacting rows of numbers by the library. Conditions: the library's functions lie at the program. -/
import Derived.Test.YtmfagdfkpjgeiaaGreatOA
import Derived.Test.YtmfagdfkpjgeiaaGreatFB
import Derived.Shelf.SortM.Plain
import Derived.Shelf.SortM.SortNone
import Derived.Shelf.SlicesE.Compact
open Option renaming some -> AC, none -> AD
open _root_ renaming List -> AG, Option -> AH, Int -> AI, Nat -> AM, if_neg -> AR, if_pos -> AS, congrArg -> AT
open Bool renaming false -> AF, true -> AE
set_option linter.unusedVariables false
set_option linter.unusedSimpArgs false
namespace Go.Dn
open Go Go.Vv
open List renaming flatMap -> Aa, getElem?_eq_getElem -> Ae, getElem?_map -> Ah, getLast?_concat -> Ai, replicate -> Aj, getElem?_eq_some_iff -> Ao, length_map -> Aq
open _root_.Array renaming getD_eq_getD_getElem? -> Ab, getElem?_eq_getElem -> Ac, getElem?_eq_some_iff -> Ad, getElem?_modify -> Ag, getElem?_append_left -> Ak, getElem?_mapIdx -> Ar
open Nat renaming le_refl -> Af
open Classical renaming byContradiction -> Am
open Option renaming map_some -> Ap, isSome_none -> As
open Option.some renaming injEq -> Au
def YX(l:AG AI):AH (AG AI):=if l.length<4611686018427387904 then AC (Hy (λx y:AI=>decide (x<=y)) l) else AD
open Go.Proofs Go.Shelf in
theorem J52{P:Program}{ρ:Ren}(L:SlLaysM.n5 P ρ)(Q:ρ.f 5<yB)(R:C9 P (ρ.f 5)):DI P ⟨ρ.f 5,0,AF,I,YX⟩:=by
 have em:∀l:AG AI,(l.mergeSort λx y=>decide (x<=y))=Hy (λx y:AI=>decide (x<=y)) l:=Jkg (λx y z h1 h2=>by simp only [decide_eq_true_eq] at *;omega) (λx y=>by simp only [decide_eq_true_eq];omega) (λx y h1 h2=>by simp only [decide_eq_true_eq] at *;omega)
 refine ⟨R,Q,rfl,λl r hr=>?_,λl r hr hne w b off cap cs el H B Z d=>?_,λr hr w A=>?_,λw=>?_⟩
 .obtain ⟨l,rfl⟩:∃M:AG AI,M=l:=⟨l,rfl⟩;obtain ⟨r,rfl⟩:∃K:AG AI,K=r:=⟨r,rfl⟩;have hr:YX l=AC r:=hr;unfold YX at hr;split at hr
  .injection hr with hr;rw [<-hr];exact (Zw l).length_eq
  .cases hr
 .obtain ⟨l,rfl⟩:∃M:AG AI,M=l:=⟨l,rfl⟩;obtain ⟨r,rfl⟩:∃K:AG AI,K=r:=⟨r,rfl⟩;have hr:YX l=AC r:=hr;unfold YX at hr;split at hr
  .rename_i N;injection hr with hr;have B:off+l.length * 1<=cs.size:=B;have d:∀(k:AM) (x:AI),l[k]?=AC x->cs.getD (off+k) undef=.int .i64 x:=λk x G=>by
    have:(Aa (α:=I.T) (Ty.cs I) l)[k]?=AC (.int .i64 x):=by rw [z7,Ah,G];rfl
    exact d k _ this
   have h:b<w.heap.size:=(Ad.1 H).1;have hH:Go.Sort.Holds (Value.int .i64) w b off l.toArray:=λk G=>by
    have F:k<l.length:=by simpa using G
    have m:=d k _ (Ae F);have a:off+k<cs.size:=by omega
    refine ⟨?_,by simp [World.frozen?,H]⟩;simp only [World.cell?,H];rw [Ab,Ac a] at m;simp only [As,Bool.false_eq_true,if_false];rw [Ac a];have:l.toArray[k]! = l[k]:=by simp [F]
    rw [this];exact AT AC m
   have E:=AnyM.slices_Sort_int L b off cap l w hH h N;rw [show #[Value.slice (AC ⟨b,off,AD⟩) (List.length (α:=I.T) l) cap]++GK.j ⟨ρ.f 5,0,AF,I,YX⟩=#[Value.slice (AC ⟨b,off,AD⟩) l.length cap] from rfl];refine E.mono λe w' ⟨J,n,os,hw⟩=>⟨J,?_⟩;subst hw;rw [em,hr];have Y:r.length=l.length:=by rw [<-hr];exact (Zw l).length_eq
   refine ⟨rfl,rfl,⟨rfl,Nat.le_add_right _ _⟩,?_,λk G O=>?_,λel' f=>?_⟩
   .show w.heap.size<=((w.heap.modify b _)++os).size;simp
   .show ((w.heap.modify b _)++os)[k]?=_;rw [Ak (by simpa using G),Ag,AR (λq=>O q.symm)]
   .have X:el'=el:=by rw [H] at f;injection f with f;injection f with _ q;exact q.symm
    subst X;refine ⟨Go.Sort.putCells (Value.int .i64) off r.toArray cs,?_,by simp [Go.Sort.putCells],λi v g=>?_⟩
    .show ((w.heap.modify b _)++os)[b]?=_;rw [Ak (by simpa using h),Ag,AS rfl,H];rfl
    .have g:(Aa (α:=I.T) (Ty.cs I) r)[i]?=AC v:=g;rw [z7,Ah] at g;have hi:i<r.length:=by apply Am;intro hn;rw [List.getElem?_eq_none (by omega)] at g;cases g
     rw [Ae hi] at g;simp only [Ap,Au] at g;subst g;have a:off+i<cs.size:=by omega
     rw [Ab];simp only [Go.Sort.putCells,Ar];rw [Ac a];simp only [Ap,Option.getD_some];rw [AS ⟨by omega,by simp;omega⟩,show off+i - off=i by omega];have:r.toArray[i]! = r[i]:=by simp [hi]
     rw [this];rfl
  .cases hr
 .refine (AnyM.slices_Sort_int_none L A 0 w).mono λe w' ⟨J,m⟩=>⟨J,?_⟩;subst m;exact ⟨rfl,rfl,⟨rfl,Af _⟩,Af _,λ_ _=>rfl⟩
 .refine (AnyM.slices_Sort_int_none L AD 0 w).mono λe w' ⟨J,m⟩=>⟨J,?_⟩;subst m;exact ⟨rfl,rfl,⟨rfl,Af _⟩,Af _,λ_ _=>rfl⟩
theorem Jxc(l:AG AI)(x:AI):Cu (l++[x])=XG (Cu l) x:=by unfold Cu;rw [List.foldl_append];rfl
open Go.Proofs Go.Shelf in
theorem yw(l:AG AI):∀m,m<=l.length->Lib.compactUpTo l.toArray m=Cu (l.take m)/\(Cu (l.take m)).getLast?=(l.take m).getLast?
 | 0,_=>by simp [Lib.compactUpTo,Cu]
 | m+1,B=>by
  obtain ⟨A,y⟩:=yw l m (by omega);have hx:l[m]?=AC l[m]:=Ae (by omega);have v:l.take (m+1)=l.take m++[l[m]]:=by rw [List.take_add_one,hx];rfl
  have r:∀j (h:j<l.length),l.toArray[j]! = l[j]:=λj h=>by simp [h]
  have w:Lib.compactUpTo l.toArray (m+1)=Lib.compactUpTo l.toArray m++(if Lib.keeps l.toArray m then [l[m]] else []):=by
   unfold Lib.compactUpTo;rw [List.range_succ,List.filter_append,List.map_append]
   congr 1
   by_cases a:Lib.keeps l.toArray m=AE
   .rw [List.filter_cons_of_pos a,AS a,List.filter_nil,List.map_cons,List.map_nil,r m (by omega)]
   .rw [List.filter_cons_of_neg a,AR a];rfl
  rw [w,A,v,Jxc];have hl:(l.take m).getLast?=if m=0 then AD else AC l.toArray[m - 1]!:=by
   by_cases d:m=0
   .subst d;rfl
   .rw [AR d,List.getLast?_eq_getElem?,List.length_take,List.getElem?_take_of_lt (by omega),show min m l.length - 1=m - 1 by omega,r (m - 1) (by omega)];exact Ae (by omega)
  have f:Lib.keeps l.toArray m=AE↔(Cu (l.take m)).getLast?≠AC l[m]:=by
   rw [y,hl];unfold Lib.keeps;rw [decide_eq_true_eq,r m (by omega)];by_cases d:m=0
   .subst d;simp
   .rw [AR d];simp only [d,false_or,ne_eq,Au];exact ⟨λh e=>h e.symm,λh e=>h e.symm⟩
  unfold XG;by_cases a:Lib.keeps l.toArray m=AE
  .rw [AS a,AR (f.1 a)];exact ⟨rfl,by rw [Ai,Ai]⟩
  .have g:(Cu (l.take m)).getLast?=AC l[m]:=Am λh=>a (f.2 h);rw [AR a,AS g,List.append_nil];exact ⟨rfl,by rw [g,Ai]⟩
open Go.Proofs Go.Shelf in
theorem J3m(l:AG AI):(Cu l).length<=l.length:=by have h:=(yw l l.length (Af _)).1;rw [List.take_length] at h;rw [<-h];unfold Lib.compactUpTo;rw [Aq];have:=List.length_filter_le (Lib.keeps l.toArray) (List.range l.length);rwa [List.length_range] at this
open Go.Proofs Go.Shelf in
theorem J2p{P:Program}{ρ:Ren}(L:SlLaysE.n43 P ρ)(A:AH Addr)(w:World):Calls P (ρ.f 43) #[.slice A 0 0] w λe w'=>e=.returned (.slice A 0 0)/\Old w w':=by
 have mixed:=L.mixed;have t0:=L.t0;have a0:=L.a0;have z0:=L.z0;have v0:=L.v0;have t3:=L.t3;have a3:=L.a3;have z3:=L.z3;have v3:=L.v3;have t4:=L.t4;have a4:=L.a4;have z4:=L.z4;have v4:=L.v4;have t22:=L.t22;have a22:=L.a22;have z22:=L.z22;have v22:=L.v22;have a23:=L.a23;have z23:=L.z23;obtain ⟨_,_,FG⟩:=L.f43
 go_enter FG,SlBodyN.n43_ntmps ρ
 go_wp2
 go_ret
 exact ⟨rfl,rfl,rfl,⟨rfl,by simp [World.drewN]⟩,Af _,λ_ _=>rfl⟩
open Go.Proofs Go.Shelf in
theorem Rv{P:Program}{ρ:Ren}(L:SlLaysE.n43 P ρ)(B:EqlAt P (ρ.t 23) (Value.int .i64) (λx y=>decide (x=y)))(r:NeqAt P (ρ.t 23) (Value.int .i64) (λx y=>decide (x=y)))(v23:∀w,(zeroValue (ρ.t 23)).run P w=.ok (.int .i64 0) w){w:World}{b off cap:AM}{l:AG AI}{cs:Array Value}{el:TypeId}
  (m:w.heap[b]?=AC (.cells cs el (0,0))) (H:off+cap<=cs.size) (f:l.length<=cap) (hM:cap<=9223372036854775807) (d:∀(k:AM) (x:AI),l[k]?=AC x->cs.getD (off+k) undef=.int .i64 x) :
  Calls P (ρ.f 43) #[.slice (AC ⟨b,off,AD⟩) l.length cap] w λe w'=>e=.returned (.slice (AC ⟨b,off,AD⟩) (Cu l).length cap)/\w'.os=w.os/\w'.tape=w.tape/\(w'.output=w.output/\w.drawn<=w'.drawn)/\w.heap.size<=w'.heap.size/\(∀q,q<w.heap.size->q≠b->w'.heap[q]?=w.heap[q]?) /\
   ∃cs':Array Value,w'.heap[b]?=AC (.cells cs' el (0,0))/\cs'.size=cs.size/\∀(k:AM) (x:AI),(Cu l)[k]?=AC x->cs'.getD (off+k) undef=.int .i64 x:=by
 have E:b<w.heap.size:=(Ad.1 m).1;have hH:Go.Sort.Holds (Value.int .i64) w b off l.toArray:=λk h=>by
  have g:k<l.length:=by simpa using h
  have F:=d k _ (Ae g);have a:off+k<cs.size:=by omega
  refine ⟨?_,by simp [World.frozen?,m]⟩;simp only [World.cell?,m];rw [Ab,Ac a] at F;simp only [As,Bool.false_eq_true,if_false];rw [Ac a];have:l.toArray[k]! = l[k]:=by simp [g]
  rw [this];exact AT AC F
 have run:=AnyE.slices_Compact L (Value.int .i64) (λ_=>rfl) B r 0 v23 b off cap l.toArray w hH (by simp;omega) (by simpa using f);have ec:Lib.compactUpTo l.toArray l.toArray.size=Cu l:=by have:=(yw l l.length (Af _)).1;rw [List.take_length] at this;simpa using this
 have J:=J3m l;rw [ec,show l.toArray.size=l.length from rfl] at run;refine run.mono λe w' ⟨N,q,G⟩=>⟨N,?_⟩;subst G;refine ⟨rfl,rfl,⟨rfl,Nat.le_add_right _ _⟩,?_,λk h v=>?_,Go.Sort.putCells (Value.int .i64) off (Cu l++Aj (l.length - (Cu l).length) 0).toArray cs,?_,by simp [Go.Sort.putCells],λk x h=>?_⟩
 .show w.heap.size<=(w.heap.modify b _).size;simp
 .show (w.heap.modify b _)[k]?=_;rw [Ag,AR (λq=>v q.symm)]
 .show (w.heap.modify b _)[b]?=_;rw [Ag,AS rfl,m];rfl
 .have A:k<(Cu l).length:=(Ao.1 h).1;have a:off+k<cs.size:=by omega
  rw [Ab];simp only [Go.Sort.putCells,Ar];rw [Ac a];simp only [Ap,Option.getD_some];rw [AS ⟨by omega,by simp;omega⟩,show off+k - off=k by omega];have:(Cu l++Aj (l.length - (Cu l).length) 0).toArray[k]! = x:=by
   have M:(Cu l++Aj (l.length - (Cu l).length) (0:AI))[k]?=AC x:=by rw [List.getElem?_append_left A];exact h
   have K:(Cu l++Aj (l.length - (Cu l).length) (0:AI)).toArray[k]?=AC x:=by simpa using M
   rw [getElem!_def,K]
  rw [this]
open Go.Proofs Go.Shelf in
theorem Kbg{P:Program}{ρ:Ren}(L:SlLaysE.n43 P ρ)(heq:EqlAt P (ρ.t 23) (Value.int .i64) (λx y=>decide (x=y)))(hnq:NeqAt P (ρ.t 23) (Value.int .i64) (λx y=>decide (x=y)))(v23:∀w,(zeroValue (ρ.t 23)).run P w=.ok (.int .i64 0) w){el:TypeId}(hlt:Nat.ble yB (ρ.f 43)=AF)(hfn:C9 P (ρ.f 43)) :
  Mw P (ρ.f 43) (Rw (ρ.f 43) el):=by
 refine ⟨hlt,hfn,λ{α base vs s k r} hd {n0 w S μ a0 fr fs cargs} hF okv hsz hargs {R} hR=>?_⟩;simp only [Rw] at hd;split at hd
 .rename_i g ver;split at hd
  .rename_i v e el' l ho;obtain ⟨⟨X,O,e3⟩,hd2⟩:=ZC hd;subst X;subst O;subst e3;obtain ⟨J,hl'⟩:∃J:AG AI,J=l:=⟨_,rfl⟩;obtain ⟨m,hm⟩:∃m:AG AI,m=Cu J:=⟨_,rfl⟩;have hd5:k (.c (.lf (.ls I) m)) ((s.old g v ((J.length:AM):AI)).obj g (.row (v+1) 1 el' I m [] AD AE)).pop=AC r:=by rw [hm,hl'];exact hd2
   obtain ⟨H,hs2⟩:∃H:Dn.S Ty.T,H=(s.old g v ((J.length:AM):AI)).obj g (.row (v+1) 1 el' I m [] AD AE):=⟨_,rfl⟩;rw [<-hs2] at hd5;have ho':look g s.ob=AC (.row v 1 el' I J [] AD AF):=by rw [hl'];exact ho
   have lenO0:(Ob.row v 1 el' I J [] AD AF:Ob Ty.T).CJ=J.length:=by simp [Ob.CJ];rfl
   have st2:CQ s H:=by rw [hs2];exact J18 ho' rfl (by rw [lenO0];simp)
   have hlk:∀g',look g' H.ob=if g=g' then AC (.row (v+1) 1 el' I m [] AD AE) else look g' s.ob:=λg'=>by rw [hs2];exact Kp g g' _ _
   have hmo:H.mo=s.mo:=by rw [hs2];rfl
   have iv2:Inv H:=MV hF.iv st2 hlk (λc hc=>by cases hc) (hF.iv.free ho') hmo;have hh:=jf hF.iv st2 hlk hmo;have he2:Dn.BD H (.row (v+1) 1 el' I m [] AD AE)=.arr (v+1) 1 el' (Aa (α:=I.T) (Ty.cs I) m) AE:=by simp [Dn.BD,Xm]
   have N:AA s g=AC (.arr v 1 el' (Aa (α:=I.T) (Ty.cs I) J) AF):=by rw [Jj ho'];simp [Dn.BD,Xm]
   rw [he2] at hh;have Y:(Aa (α:=I.T) (Ty.cs I) J).length=J.length:=by rw [z7,Aq]
   have hml2:(Aa (α:=I.T) (Ty.cs I) m).length=m.length:=by rw [z7,Aq]
   have hml:m.length<=J.length:=by rw [hm];exact J3m J
   have a0r:=hargs 0 _ rfl;have hl0:Q4 s g v=J.length:=by simp only [Q4,ho',Ob.ver,if_true];exact lenO0
   have a0r:AX w S (AA s) μ (.arr g v 0 J.length) (cargs.getD 0 undef):=by have:AX w S (AA s) μ (.arr g v 0 (Q4 s g v)) (cargs.getD 0 undef):=a0r;rw [hl0] at this;exact this
   have Q:cargs.size=1:=hsz;have ecA:cargs=#[cargs.getD 0 undef]:=by
    apply Array.ext
    .rw [Q];rfl
    .intro q E h2;have gd:cargs[q]=cargs.getD q undef:=by simp [Ab,E]
     rw [gd];have:q=0:=by omega
     subst this;rfl
   have vv:Cg (AA s) μ (AA H) μ:=λB f E=>by
    by_cases O:B=g
    .subst O;rw [N] at E;injection E with E;subst E;exact ⟨_,by rw [hh];exact Jg _ _ _,Nat.le_succ _,λe=>by simp [AU.ver] at e⟩
    .exact ⟨f,by rw [hh,Jd _ _ _ _ O];exact E,Af _,λ_=>⟨⟨rfl,rfl⟩,.refl f⟩⟩
   have eh2:AA H.pop=AA H:=by
    unfold Dn.S.pop;split
    .exact Zd rfl rfl
    .rfl
   have back0:∀B f,AA H B=AC f->B≠g->AA s B=AC f:=λB f E M=>by rw [hh,Jd _ _ _ _ M] at E;exact E
   have iI:∀f,AA H g=AC f->f=.arr (v+1) 1 el' (Aa (α:=I.T) (Ty.cs I) m) AE:=λf E=>by rw [hh,Jg] at E;injection E with E;exact E.symm
   by_cases hne0:J=[]
   .-- nothing to compact
    have hl0:Aa (α:=I.T) (Ty.cs I) J=[]:=by rw [hne0];rfl
    have hm0:m=[]:=by rw [hm,hne0];rfl
    have hm1:Aa (α:=I.T) (Ty.cs I) m=[]:=by rw [hm0];rfl
    obtain ⟨-,-,A,eA⟩:=(a0r.DF N).1 hl0;rw [ecA,eA];refine (J2p L A w).mono λe w' ⟨e0,o⟩=>?_;subst e0;have hF1:=hF.old o;have nl:∀f,AA H g=AC f->f.live=AE->False:=λf E hl=>by rw [iI f E,hm1] at hl;cases hl
    have ev:CY w S (AA s) μ w' S (AA H) μ:=by
     refine ⟨o.os,o.tape,o.output,o.size,λq F _=>o.keep q F,λq c1 el1 z1 K=>⟨c1,(o.keep q (Ad.1 K).1).trans K,rfl⟩,λq F=>F,λq F=>.inl F,?_,rfl⟩;rintro q ⟨B,f,E,hz,hl,e⟩;by_cases O:B=g
     .subst O;exact (nl f E hl).elim
     .exact .inl ⟨B,f,back0 B f E O,hz,hl,e⟩
    have hp':BJ w' S (AA H) μ:=by
     refine ⟨λB f E=>?_,λB g2 f o2 E h2 l1 l2 X=>?_,λB f E hz hl=>?_,hF1.fr.hp.lt⟩
     .by_cases X:B=g
      .subst X;rw [iI f E,hm1];exact λh=>(h rfl).elim
      .exact (hF.fr.hp.ob B f (back0 B f E X)).Cz hF.fr.hp ev vv λhl=>o.keep _ ((hF.fr.hp.ob B f (back0 B f E X)).lt hl)
     .by_cases q1:B=g
      .subst q1;exact (nl f E l1).elim
      .by_cases q2:g2=g
       .subst q2;exact (nl o2 h2 l2).elim
       .exact hF.fr.hp.inj B g2 f o2 (back0 B f E q1) (back0 g2 o2 h2 q2) l1 l2 X
     .by_cases q1:B=g
      .subst q1;exact (nl f E hl).elim
      .exact hF.fr.hp.own B f (back0 B f E q1) hz hl
    have hF2:BG n0 w' S H μ a0 (fr::fs):=by refine hF.step rfl ⟨λd=>?_,hp',hF.fr.hp.marks hF.fr.df ev,hF.fr.sz⟩ st2.on iv2 ev vv;rw [NM hF.iv st2];exact (hF.fr.fr d).Cz hF.fr.hp ev vv
    refine hR w' S μ (.c (.lf (.ls I) m)) H.pop _ hF2.pop (Xe λq F=>by cases F) ?_ (by rw [eh2];exact ev) hd5;show AX w' S _ μ (.CF (List.length (α:=I.T) m) (Aa (α:=I.T) (Ty.cs I) m)) _;rw [hm0];cases A with
    | none=>exact .pure .FQ
    | some A=>exact .pure (.CF 0 [] A 0 (λ_=>undef) (λh=>(h rfl).elim) (Af _) (λi x h=>by simp at h) (λi x h=>by simp at h) λi x h=>by simp at h)
   .have hlp:0<J.length:=List.length_pos_iff.2 hne0;have M:Aa (α:=I.T) (Ty.cs I) J≠[]:=λq=>by rw [q] at Y;simp at Y;omega
    obtain ⟨A,cap,cs0,el0,z0,ec0,hcap,hb0,hsz0,hA⟩:=a0r.EF N M;obtain ⟨cs,hb,hsz1,hold,-⟩:=hF.fr.hp.ob g _ N M;rw [hb] at hb0;injection hb0 with hb0;injection hb0 with q1 q2 q3;subst q1;have hA:=hA (by omega);rw [Nat.zero_mul,Nat.add_zero] at hA;subst hA;have hrow:∀(q:AM) (x:AI),J[q]?=AC x->cs.getD (μ.o g+q) undef=.int .i64 x:=λq x F=>by
     have:(Aa (α:=I.T) (Ty.cs I) J)[q]?=AC (.int .i64 x):=by rw [z7,Ah,F];rfl
     exact (hold q _ this).1.BI
    rw [ecA,ec0];refine (Rv L heq hnq v23 hb (by simpa using hsz0) hcap.1 hcap.2 hrow).mono λe w' ⟨e0,r1,r2,r3,r4,r5,cs',r6,r7,r8⟩=>?_;rw [<-hm] at r8 e0;subst e0;have hown:Own (AA s) μ (μ.b g):=⟨g,_,N,rfl,Kz.2 M,rfl⟩;have scl:∀ {q:AM} {x:AV},(Aa (α:=I.T) (Ty.cs I) m)[q]?=AC x->∃n,m[q]?=AC n/\x=.int .i64 n:=λ{q x} hx=>by
     rw [z7,Ah] at hx;cases F:m[q]? with
     | none=>rw [F] at hx;cases hx
     | some n=>rw [F] at hx;injection hx with hx;exact ⟨n,rfl,hx.symm⟩
    obtain ⟨S',hS'⟩:∃S':AM->Prop,S'=λq=>S q\/q=μ.b g:=⟨_,rfl⟩;have hbb:μ.b g<w.heap.size:=(Ad.1 hb).1;have ev:CY w S (AA s) μ w' S' (AA H) μ:=by
     refine ⟨r1,r2,r3,r4,λq F hn=>r5 q F λe=>hn (e▸hown),λq c1 el1 z1 K=>?_,λq F=>by rw [hS'];exact .inl F,λq F=>?_,?_,rfl⟩
     .by_cases hbe:q=μ.b g
      .subst hbe;rw [hb] at K;injection K with K;injection K with q1 q2 q3;subst q1;subst q2;subst q3;exact ⟨cs',r6,r7⟩
      .exact ⟨c1,(r5 q (Ad.1 K).1 hbe).trans K,rfl⟩
     .rw [hS'] at F;rcases F with F|rfl
      .exact .inl F
      .exact .inr (.inr hown)
     .rintro q ⟨B,f,E,hz,hl,e⟩;by_cases O:B=g
      .subst O;rw [iI f E] at hz;cases hz
      .exact .inl ⟨B,f,back0 B f E O,hz,hl,e⟩
    have G:∀ {q:AM} {x:AV},(Aa (α:=I.T) (Ty.cs I) m)[q]?=AC x->AY w' S' x (cs'.getD (μ.o g+q) undef)/\(cs'.getD (μ.o g+q) undef).oneCell'=AE:=λ{q x} hx=>by obtain ⟨n,hn,rfl⟩:=scl hx;rw [r8 q n hn];exact ⟨.int _ _,rfl⟩
    have hp':BJ w' S' (AA H) μ:=by
     refine ⟨λB f E=>?_,λB g2 f o2 E h2 l1 l2 X=>?_,λB f E hz hl hs=>?_,λq F=>?_⟩
     .by_cases X:B=g
      .subst X;rw [iI f E];refine λ_=>⟨cs',r6,by rw [r7,hml2];rw [Y] at hsz1;omega,λq x hx=>⟨.pure (G hx).1,(G hx).2⟩,λ_=>by rw [hS'];exact .inr rfl⟩
      .have Z:=back0 B f E X;exact (hF.fr.hp.ob B f Z).Cz hF.fr.hp ev vv λhl=>r5 _ ((hF.fr.hp.ob B f Z).lt hl) λq=>X (hF.fr.hp.inj B g _ _ Z N hl (Kz.2 M) q)
     .have back:∀B f,AA H B=AC f->f.live=AE->∃o2,AA s B=AC o2/\o2.live=AE:=λB f E hl=>by
       by_cases O:B=g
       .subst O;exact ⟨_,N,Kz.2 M⟩
       .exact ⟨f,back0 B f E O,hl⟩
      obtain ⟨p1,a1,b1⟩:=back B f E l1;obtain ⟨p2,a2,b2⟩:=back g2 o2 h2 l2;exact hF.fr.hp.inj B g2 p1 p2 a1 a2 b1 b2 X
     .by_cases O:B=g
      .subst O;rw [iI f E] at hz;cases hz
      .have Z:=back0 B f E O;rw [hS'] at hs;rcases hs with hs|hs
       .exact hF.fr.hp.own B f Z hz hl hs
       .exact O (hF.fr.hp.inj B g _ _ Z N hl (Kz.2 M) hs)
     .rw [hS'] at F;rcases F with F|rfl
      .exact Nat.lt_of_lt_of_le (hF.fr.hp.lt q F) r4
      .omega
    have hF2:BG n0 w' S' H μ a0 (fr::fs):=by refine hF.step rfl ⟨λd=>?_,hp',hF.fr.hp.marks hF.fr.df ev,hF.fr.sz⟩ st2.on iv2 ev vv;rw [NM hF.iv st2];exact (hF.fr.fr d).Cz hF.fr.hp ev vv
    refine hR w' S' μ (.c (.lf (.ls I) m)) H.pop _ hF2.pop (Xe λq F=>by cases F) ?_ (by rw [eh2];exact ev) hd5;show AX w' S' _ μ (.CF (List.length (α:=I.T) m) (Aa (α:=I.T) (Ty.cs I) m)) _;refine .pure (.CF _ _ ⟨μ.b g,μ.o g,AD⟩ cap (λq=>cs'.getD (μ.o g+q) undef) (λ_=>by rw [hS'];exact .inr rfl) (by have:=hcap.1;show m.length<=cap;omega) (λq x hx=>?_) (λq x hx=>(G hx).2) λq x hx=>(G hx).1);have F:q<m.length:=by rw [<-hml2];exact (Ao.1 hx).1
    have hlt2:μ.o g+q<cs'.size:=by rw [r7];rw [Y] at hsz1;omega
    rw [jP r6,getD_some hlt2]
  .cases hd
 .-- a nil slice
  have Q:cargs.size=1:=hsz;have a0r:=hargs 0 _ rfl;have e0:cargs.getD 0 undef=.slice AD 0 0:=AX.CW (h:=AA s) a0r;have ecA:cargs=#[.slice AD 0 0]:=by
   apply Array.ext
   .rw [Q];rfl
   .intro q E h2;have gd:cargs[q]=cargs.getD q undef:=by simp [Ab,E]
    rw [gd];have:q=0:=by omega
    subst this;exact e0
  rw [ecA];refine (J2p L AD w).mono λe w' ⟨X,o⟩=>?_;subst X;have hF1:=hF.old o;have eh2:AA s.pop=AA s:=by
   unfold Dn.S.pop;split
   .exact Zd rfl rfl
   .rfl
  exact hR w' S μ (.c (.k .BK)) s.pop _ hF1.pop (Xe λq F=>by cases F) (.pure .BK) (by rw [eh2];exact bP o) hd
 .cases hd
end Go.Dn
