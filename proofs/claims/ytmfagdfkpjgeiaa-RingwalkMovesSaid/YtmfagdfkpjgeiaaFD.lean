/- Rows that were made elsewhere; the keys of a map in a list. Conditions: none. -/
import Derived.Test.YtmfagdfkpjgeiaaFA
import Derived.Maps.RangeRun
import Derived.Scope
open List renaming mem_cons_of_mem → Aa, mem_cons_self → Ab, getElem?_map → Ac, mem_singleton → Ad, mem_cons → Ae, eq_nil_of_length_eq_zero → Ah, mem_of_getElem? → Aj, mem_map → Ak, all_eq_true → Ap, map_cons → Aq, getElem?_eq_some_iff → Ar, all_cons → As, length_cons → Av, mem_append → Ay, length_map → Az, mapM_cons → Bb, append_of_mem → Bc, getElem?_eq_none_iff → Bd, getElem?_eq_getElem → Bg, getElem?_cons_succ → Bh, nodup_cons → Bj, drop_zero → Bk, all_nil → Bp
open Bool renaming and_eq_true → Af, and_true → Bm
open Option renaming bind_some → Ag, isSome_iff_exists → Bf
open Nat renaming eq_of_beq_eq_true → Ai, le_refl → Am, ble_eq_true_of_le → Ao, zero_add → Au, le_add_right → Aw, mul_le_mul_right → Ax, zero_mul → Ba, ble → Be, blt → Bl, add_zero → Bn, le_trans → Bo, zero_le → Bq
namespace Go.Dn
open Go Go.Vv
set_option linter.unusedVariables false
set_option linter.unusedSimpArgs false
def OwnR (w w':World) (S:Nat→Prop) (el:TypeId) (t:Ty) (r:List t.T) (cv:Value):Prop :=
 (r=[]∧∃A,cv=.slice A 0 0) ∨
 (r≠[]∧∃(b o cap:Nat) (cs:Array Value),w.heap.size≤b∧cv=.slice (some ⟨b,o,none⟩) r.length cap∧(r.length≤cap∧cap≤9223372036854775807)∧w'.heap[b]?=some (.cells cs el (0,0))∧o+cap * t.sz≤cs.size ∧
  ∀(i:Nat) (x:AV),(r.flatMap t.cs)[i]?=some x→RepP w' (fun q=>X8 S w w' q∧q≠b) x (cs.getD (o+i) undef)∧(cs.getD (o+i) undef).oneCell'=true)
section
variable {w w':World} {S S':Nat→Prop} {h:Heap} {μ:Gh}
theorem adopt (hp:RepH w S h μ) (o:Old w w') {g b k esz:Nat} {el:TypeId} {cells:List AV} (hg:h g=none) (hS1:∀q,S q→S' q) (hS2:∀q,S' q→X8 S w w' q) (hS3:cells≠[]→¬S' b)
  (hb:cells≠[]→w.heap.size≤b) (hc:cells≠[]→∃cs,w'.heap[b]?=some (.cells cs el (0,0))∧k+cells.length≤cs.size∧∀(i:Nat) (x:AV),cells[i]?=some x→RepP w' S' x (cs.getD (k+i) undef)∧(cs.getD (k+i) undef).oneCell'=true) :
  RepH w' S' (upd h g (some (.arr 0 esz el cells false))) (μ.set g b k)∧Evo w S h μ w' S' (upd h g (some (.arr 0 esz el cells false))) (μ.set g b k)∧EvoV h μ (upd h g (some (.arr 0 esz el cells false))) (μ.set g b k):=by
 have mb:∀ {g'},g'≠g→(μ.set g b k).b g'=μ.b g'∧(μ.set g b k).o g'=μ.o g':=fun hn=>⟨Jb _ _ _ _ hn,Jb _ _ _ _ hn⟩
 have ne:∀ {g' o'},h g'=some o'→g'≠g:=fun ho e=>by subst e;rw [hg] at ho;cases ho
 have vv:EvoV h μ (upd h g (some (.arr 0 esz el cells false))) (μ.set g b k):=fun g' o' ho' =>
  ⟨o',by rw [Jb _ _ _ _ (ne ho')];exact ho',Am _,fun _=>⟨mb (ne ho'),.refl o'⟩⟩
 have ev:Evo w S h μ w' S' (upd h g (some (.arr 0 esz el cells false))) (μ.set g b k):=by
  refine ⟨o.os,o.tape,o.output,o.size,fun q hq _=>o.keep q hq,fun q cs e z hq=>⟨cs,(o.keep q (Array.getElem?_eq_some_iff.1 hq).1).trans hq,rfl⟩,hS1,fun q hq=>?_,?_,rfl⟩
  ·rcases hS2 q hq with x|x
   ·exact .inl x
   ·exact .inr (.inl x.1)
  ·rintro q ⟨g',o',ho',hz,hl,e⟩
   by_cases e1:g'=g
   ·subst e1
    rw [Jc] at ho'
    injection ho' with ho'
    subst ho'
    simp only [Gh.set,Jc] at e
    exact .inr (e▸hb (J5.1 hl))
   ·rw [Jb _ _ _ _ e1] at ho'
    rw [(mb e1).1] at e
    exact .inl ⟨g',o',ho',hz,hl,e⟩
 refine ⟨⟨fun g' o' ho'=>?_,fun g1 g2 o1 o2 h1 h2 l1 l2 e=>?_,fun g' o' ho' hz hl hs=>?_,fun q hq=>?_⟩,ev,vv⟩
 ·by_cases e1:g'=g
  ·subst e1
   rw [Jc] at ho'
   injection ho' with ho'
   subst ho'
   simp only [Gh.set,Jc]
   intro hne
   obtain ⟨cs,c1,c2,c3⟩:=hc hne
   exact ⟨cs,c1,c2,fun i x hi=>⟨.pure (c3 i x hi).1,(c3 i x hi).2⟩,fun q=>by cases q⟩
  ·rw [Jb _ _ _ _ e1] at ho'
   rw [(mb e1).1,(mb e1).2]
   exact (hp.ob g' o' ho').evo hp ev vv fun hl=>o.keep _ ((hp.ob g' o' ho').lt hl)
 ·by_cases e1:g1=g<;>by_cases e2:g2=g
  ·rw [e1,e2]
  ·subst e1
   rw [Jc] at h1
   injection h1 with h1
   subst h1
   rw [Jb _ _ _ _ e2] at h2
   rw [(mb e2).1] at e
   simp only [Gh.set,Jc] at e
   have:=(hp.ob g2 o2 h2).lt l2
   have:=hb (J5.1 l1)
   omega
  ·subst e2
   rw [Jc] at h2
   injection h2 with h2
   subst h2
   rw [Jb _ _ _ _ e1] at h1
   rw [(mb e1).1] at e
   simp only [Gh.set,Jc] at e
   have:=(hp.ob g1 o1 h1).lt l1
   have:=hb (J5.1 l2)
   omega
  ·rw [Jb _ _ _ _ e1] at h1
   rw [Jb _ _ _ _ e2] at h2
   rw [(mb e1).1,(mb e2).1] at e
   exact hp.inj g1 g2 o1 o2 h1 h2 l1 l2 e
 ·by_cases e1:g'=g
  ·subst e1
   rw [Jc] at ho'
   injection ho' with ho'
   subst ho'
   simp only [Gh.set,Jc] at hs
   exact hS3 (J5.1 hl) hs
  ·rw [Jb _ _ _ _ e1] at ho'
   rw [(mb e1).1] at hs
   rcases hS2 _ hs with x|x
   ·exact hp.own g' o' ho' hz hl x
   ·have:=(hp.ob g' o' ho').lt hl;omega
 ·rcases hS2 q hq with x|x
  ·exact Nat.lt_of_lt_of_le (hp.lt q x) o.size
  ·exact x.2
end
theorem fl_nil {t:Ty} (h:0<t.sz) (l:List t.T):l.flatMap t.cs=[]↔l=[]:=by
 constructor
 ·intro e
  have h1:=Jq l
  rw [e] at h1
  rcases Nat.mul_eq_zero.1 h1.symm with h2|h2
  ·exact Ah h2
  ·omega
 ·intro e;subst e;rfl
def oneH (g0:Nat) (ob:Option AObj):Heap:=fun g=>if g=g0 then ob else none
theorem Qe {g0:Nat} {ob:Option AObj}:oneH g0 ob g0=ob:=by simp [oneH]
theorem J1 {g0 g:Nat} {ob:Option AObj} {o:AObj} (h:oneH g0 ob g=some o):g=g0∧ob=some o:=by
 unfold oneH at h
 split at h
 ·exact ⟨by assumption,h⟩
 ·cases h
theorem Yo {g0:Nat} {ob:Option AObj} {x:Option AObj}:upd (oneH g0 ob) g0 x=oneH g0 x:=by
 funext g
 by_cases e:g=g0
 ·subst e;rw [Jc,Qe]
 ·rw [Jb _ _ _ _ e];simp [oneH,e]
def IntsL (l:List AV):Prop:=∀x∈l,∃k n,x=.int k n
theorem IntsL.rep {l:List AV} (hl:IntsL l) {i:Nat} {x:AV} (hi:l[i]?=some x) {w:World} {S S':Nat→Prop} {h:Heap} {μ:Gh} {v:Value} (hr:Rep w S h μ x v) {w':World}:RepP w' S' x v:=by
 obtain ⟨k,n,rfl⟩:=hl x (Aj hi)
 rw [hr.int_inv]
 exact .int _ _
section
variable {P:Program} {w:World}
theorem Je0 (ob:Obj):Old w (w.alloc ob):=⟨rfl,rfl,⟨rfl,Am _⟩,by simp,fun b hb=>by first|exact heap_alloc_old w ob hb|exact heap_alloc_old w ob b hb⟩
theorem Jg {ro:Option Nat} {P:Program} {ops:Array Oper} {Q:Exit→Act→World→Prop} {a:Act} {w w':World} {rest:List Oper} {o:Oper} {cv:Value} (hg:o.guard=none) (hnd:∀c,o.op≠.defer c) (hrun:(execOp a.eval o).run P w=.ok (.value cv) w')
  (h:wpListIn (Fr ro) 0 P ops Q rest (a.put o.dst cv) w'):wpListIn (Fr ro) 0 P ops Q (o::rest) a w :=
 wpListIn_plain hg fun K hK=>Jc6 hnd (Vv.wp_value hrun (hK _ _ h))
theorem Jgj {ro:Option Nat} {P:Program} {ops:Array Oper} {Q:Exit→Act→World→Prop} {a:Act} {w w':World} {rest:List Oper} {o:Oper} (hg:o.guard=none) (hnd:∀c,o.op≠.defer c) (hrun:(execOp a.eval o).run P w=.ok .skip w')
  (h:wpListIn (Fr ro) 0 P ops Q rest (a.put o.dst undef) w'):wpListIn (Fr ro) 0 P ops Q (o::rest) a w :=
 wpListIn_plain hg fun K hK=>Jc6 hnd (Vv.wp_skip hrun (hK _ _ h))
end
theorem opK_is {k:OpK} {o:Op} (h:k.is o=true):o=k.op:=by
 have nb:∀ {a b:Nat},Nat.beq a b=true→a=b:=fun h=>Ai h
 cases k with
 | mv x=>cases o with
  | move y=>cases y with
   | tmp y=>rw [nb h];rfl
   | _=>cases h
  | _=>cases h
 | asg x=>cases o with
  | assign y=>cases y with
   | tmp y=>rw [nb h];rfl
   | _=>cases h
  | _=>cases h
 | range t x=>cases o with
  | range u y=>cases y with
   | tmp y =>
    simp only [OpK.is,Af] at h
    rw [nb h.1,nb h.2];rfl
   | _=>cases h
  | _=>cases h
 | next x=>cases o with
  | next y b=>cases y with
   | tmp y =>
    cases b with
    | true=>cases h
    | false=>rw [nb h];rfl
   | _=>cases h
  | _=>cases h
 | ext x i=>cases o with
  | extract y j=>cases y with
   | tmp y =>
    simp only [OpK.is,Af] at h
    rw [nb h.1,nb h.2];rfl
   | _=>cases h
  | _=>cases h
 | entry x=>cases o with
  | entry y=>cases y with
   | tmp y=>rw [nb h];rfl
   | _=>cases h
  | _=>cases h
 | alloc t=>cases o with
  | alloc u=>rw [nb h];rfl
  | _=>cases h
 | store t x y=>cases o with
  | store u p q=>cases p with
   | tmp p=>cases q with
    | tmp q =>
     simp only [OpK.is,Af] at h
     rw [nb h.1.1,nb h.1.2,nb h.2];rfl
    | _=>cases h
   | _=>cases h
  | _=>cases h
 | load t x=>cases o with
  | load u y=>cases y with
   | tmp y =>
    simp only [OpK.is,Af] at h
    rw [nb h.1,nb h.2];rfl
   | _=>cases h
  | _=>cases h
 | lit t x=>cases o with
  | buildSlice u n ps =>
   simp only [OpK.is,Af] at h
   obtain ⟨⟨h1,h2⟩,h3⟩:=h
   split at h3
   ·rename_i y e
    have:ps=#[(0,.tmp y)]:=by rw [←Array.toList_inj];exact e
    rw [nb h1,nb h2,nb h3,this];rfl
   ·cases h3
  | _=>cases h
 | app t x y=>cases o with
  | call c =>
   obtain ⟨f,as,ts⟩:=c
   cases f with
   | builtin b =>
    cases b with
    | append =>
     simp only [OpK.is] at h
     split at h
     ·rename_i x' y' u u' e1 e2
      simp only [Af] at h
      have q1:as=#[.tmp x',.tmp y']:=by rw [←Array.toList_inj];exact e1
      have q2:ts=#[u,u']:=by rw [←Array.toList_inj];exact e2
      obtain ⟨⟨⟨a1,a2⟩,a3⟩,a4⟩:=h
      rw [q1,q2,nb a1,nb a2,←nb a3,←nb a4];rfl
     ·cases h
    | _=>cases h
   | _=>cases h
  | _=>cases h
theorem dst_is {a b:Option Nat} (h:dstIs a b=true):b=a:=by
 unfold dstIs at h
 split at h
 ·rfl
 ·rw [Ai h]
 ·cases h
theorem Q8 {p:Option Nat×OpK} {l:List (Option Nat×OpK)} {os:List Oper} (h:Ja8 (p::l) os=true):∃o r,os=o::r∧o.dst=p.1∧o.op=p.2.op∧o.guard=none∧Ja8 l r=true:=by
 cases os with
 | nil=>cases h
 | cons o r =>
  simp only [Ja8,Af] at h
  refine ⟨o,r,rfl,dst_is h.1.1.1,opK_is h.1.1.2,?_,h.2⟩
  have:=h.1.2
  split at this
  ·assumption
  ·cases this
theorem Jhr {os:List Oper} (h:Ja8 [] os=true):os=[]:=by
 cases os with
 | nil=>rfl
 | cons o r=>cases h
def keyV (k:Int×Int):Value:=.agg #[.int .i64 k.1,.int .i64 k.2]
def ptC (ks:List (Int×Int)):List AV:=List.flatMap (α:=(Ty.p I I).T) (Ty.p I I).cs ks
def Acc (w w':World) (el:TypeId) (ks:List (Int×Int)) (cv:Value):Prop :=
 (ks=[]∧cv=.slice none 0 0) ∨
 (ks≠[]∧∃(b o cap:Nat) (cs:Array Value),w.heap.size≤b∧cv=.slice (some ⟨b,o,none⟩) ks.length cap∧(ks.length≤cap∧cap≤9223372036854775807)∧w'.heap[b]?=some (.cells cs el (0,0))∧o+cap * 2≤cs.size ∧
  ∀(i:Nat) (x:AV),(ptC ks)[i]?=some x→∃n,x=.int .i64 n∧cs.getD (o+i) undef=.int .i64 n)
theorem cs_pt:∀(ks:List (Int×Int)) (k:Int×Int),ptC (ks++[k])=ptC ks++[.int .i64 k.1,.int .i64 k.2]
 | [],k=>rfl
 | a::r,k=>congrArg (fun l=>AV.int .i64 a.1::.int .i64 a.2::l) (cs_pt r k)
theorem len_pt:∀(ks:List (Int×Int)),(ptC ks).length=ks.length * 2
 | []=>rfl
 | a::r=>by
  have:=len_pt r
  show (ptC r).length+1+1=(r.length+1) * 2
  omega
theorem Jvk:∀ks:List (Int×Int),IntsL (ptC ks)
 | [],x,hx=>by cases hx
 | k::r,x,hx=>by
  have hx:x∈[AV.int .i64 k.1,.int .i64 k.2]++ptC r:=hx
  rcases Ay.1 hx with hx|hx
  ·simp at hx
   rcases hx with rfl|rfl<;>exact ⟨_,_,rfl⟩
  ·exact Jvk r x hx
section
variable {P:Program} {w w1:World}
theorem Acc.own {el:TypeId} {ks:List (Int×Int)} {cv:Value} {S:Nat→Prop} (h:Acc w w1 el ks cv):OwnR w w1 S el (.p I I) ks cv:=by
 rcases h with ⟨rfl,rfl⟩|⟨hne,b,o,cap,cs,h1,h2,h3,h4,h5,h6⟩
 ·exact .inl ⟨rfl,none,rfl⟩
 ·refine .inr ⟨hne,b,o,cap,cs,h1,h2,h3,h4,h5,fun i x hi=>?_⟩
  obtain ⟨n,rfl,e⟩:=h6 i x hi
  rw [e]
  exact ⟨.int _ _,rfl⟩
theorem acc_app {el rT:TypeId} {i:TypeInfo} {z:List AV} (hu:P.underlying rT=some (.slice el)) (hi:P.info? el=some i) (hz:zc P el=some z) (hs:i.size=2) {ks:List (Int×Int)} {cv:Value} (h:Acc w w1 el ks cv) (hsz:w.heap.size≤w1.heap.size) {k:Int×Int} {L:Nat}
  (hL:w1.heap[L]?=some (.cells #[.int .i64 k.1,.int .i64 k.2] el (0,0))) (hLw:w.heap.size≤L) (hdis:∀A c,cv=.slice (some A) ks.length c→A.block≠L) (hfit:(ks.length+1) * i.bytes≤room∧ks.length+1≤9223372036854775807) (ty:TypeId) :
  ∃cv' w2,(Builtin.append_ #[rT,rT] ty #[cv,.slice (some ⟨L,0,none⟩) 1 1]).run P w1=.ok cv' w2∧Acc w w2 el (ks++[k]) cv'∧w2.os=w1.os∧w2.tape=w1.tape∧(w2.output=w1.output∧w1.drawn≤w2.drawn)∧w1.heap.size≤w2.heap.size ∧
   (∀q,q<w1.heap.size→(q<w.heap.size∨∀cs e z,w1.heap[q]?≠some (.cells cs e z))→w2.heap[q]?=w1.heap[q]?)∧(∀A c,cv'=.slice (some A) (ks.length+1) c→(A.block<w1.heap.size∧∃A' c',cv=.slice (some A') ks.length c'∧A'.block=A.block)∨w1.heap.size≤A.block):=by
 have hLlt:L<w1.heap.size:=(Array.getElem?_eq_some_iff.1 hL).1
 have hy:RepP w1 (fun q=>q=L) (.lst 1 [.int .i64 k.1,.int .i64 k.2]) (.slice (some ⟨L,0,none⟩) 1 1):=by
  refine .lst 1 [.int .i64 k.1,.int .i64 k.2] ⟨L,0,none⟩ 1 (fun j=>if j=0 then .int .i64 k.1 else .int .i64 k.2) (fun _=>rfl) (Am _) (fun i x hi=>?_) (fun i x hi=>?_) (fun i x hi=>?_)
  ·match i,hi with
   | 0,_=>simp [Addr.add,World.cell?,hL]
   | 1,_=>simp [Addr.add,World.cell?,hL]
  ·match i,hi with
   | 0,_=>rfl
   | 1,_=>rfl
  ·match i,hi with
   | 0,hi=>injection hi with hi;subst hi;exact .int _ _
   | 1,hi=>injection hi with hi;subst hi;exact .int _ _
 have hlit:∀H:Heap,lenV H (.lst 1 [.int .i64 k.1,.int .i64 k.2])=some 1∧Q5 H 2 (.lst 1 [.int .i64 k.1,.int .i64 k.2])=some [.int .i64 k.1,.int .i64 k.2]:=fun H=>⟨rfl,rfl⟩
 have fin:∀ {μ:Gh} {ob:Option AObj} {ver:Nat} {cv':Value} {w2:World},(∀o,ob=some o→o.live=true∧o.fz=false∧w.heap.size≤μ.b 0∧μ.b 0<w1.heap.size∧(∃cs e z,w1.heap[μ.b 0]?=some (.cells cs e z))∧∃A' c',cv=.slice (some A') ks.length c'∧A'.block=μ.b 0) →
   Ran w1 (fun q=>q=L) (oneH 0 ob) μ (.arr 0 ver 0 (ks.length+1)) (oneH 0 (some (.arr ver 2 el (ptC (ks++[k])) false))) cv' w2 →
   Acc w w2 el (ks++[k]) cv'∧w2.os=w1.os∧w2.tape=w1.tape∧(w2.output=w1.output∧w1.drawn≤w2.drawn)∧w1.heap.size≤w2.heap.size ∧
   (∀q,q<w1.heap.size→(q<w.heap.size∨∀cs e z,w1.heap[q]?≠some (.cells cs e z))→w2.heap[q]?=w1.heap[q]?)∧(∀A c,cv'=.slice (some A) (ks.length+1) c→(A.block<w1.heap.size∧∃A' c',cv=.slice (some A') ks.length c'∧A'.block=A.block)∨w1.heap.size≤A.block):=by
  intro μ ob ver cv' w2 hob ⟨S2,μ2,r1,r2,r3,r4⟩
  have hne:ptC (ks++[k])≠[]:=by rw [cs_pt];simp
  have e0:oneH 0 (some (AObj.arr ver 2 el (ptC (ks++[k])) false)) 0=some (.arr ver 2 el (ptC (ks++[k])) false):=Qe
  obtain ⟨A,cap,cs0,el0,z0,rfl,hcap,hb0,hsz0,hA⟩:=r1.arr_inv e0 hne
  obtain ⟨cs,hb,hsz,hold,-⟩:=r2.ob 0 _ e0 hne
  rw [hb] at hb0
  injection hb0 with hb0
  injection hb0 with q1 q2 q3
  subst q1
  have hA:=hA (by omega)
  rw [Ba,Bn] at hA
  subst hA
  have hob2:(μ2.b 0=μ.b 0∧∃o,ob=some o)∨w1.heap.size≤μ2.b 0:=by
   rcases r3.ow _ ⟨0,_,e0,rfl,J5.2 hne,rfl⟩ with ⟨g,o,ho,-,-,e⟩|q
   ·obtain ⟨rfl,rfl⟩:=J1 ho
    exact .inl ⟨e.symm,o,rfl⟩
   ·exact .inr q
  refine ⟨.inr ⟨by simp,μ2.b 0,μ2.o 0,cap,cs,?_,by simp,by simpa using hcap,hb,by simpa using hsz0,fun i x hx=>?_⟩,r3.os,r3.tape,r3.output,r3.size,fun q hq hn=>r3.keep q hq ?_,fun A c e=>?_⟩
  ·rcases hob2 with ⟨e,o,ho⟩|q
   ·rw [e];exact (hob o ho).2.2.1
   ·omega
  ·have hrep:=(hold i x hx).1
   obtain ⟨kk,n,rfl⟩:=Jvk _ x (Aj hx)
   have hk:kk=.i64:=by
    have:∀(l:List (Int×Int)),∀x∈ptC l,∃n,x=AV.int .i64 n:=fun l=>by
     induction l with
     | nil=>intro x hx;cases hx
     | cons p r ih =>
      intro x hx
      have hx:x∈[AV.int .i64 p.1,.int .i64 p.2]++ptC r:=hx
      rcases Ay.1 hx with hx|hx
      ·simp at hx
       rcases hx with rfl|rfl<;>exact ⟨_,rfl⟩
      ·exact ih x hx
    obtain ⟨n',e⟩:=this _ _ (Aj hx)
    injection e
   subst hk
   exact ⟨n,rfl,hrep.int_inv⟩
  ·rintro ⟨g,o,ho,hz,hl,e⟩
   obtain ⟨rfl,rfl⟩:=J1 ho
   obtain ⟨-,-,h3,h4,⟨cs,e',z,h5⟩,-⟩:=hob o rfl
   rw [←e] at hn
   rcases hn with hn|hn
   ·omega
   ·exact hn _ _ _ h5
  ·injection e with e
   injection e with e
   subst e
   rcases hob2 with ⟨e,o,ho⟩|q
   ·obtain ⟨-,-,h3,h4,-,A',c',h6,h7⟩:=hob o ho
    exact .inl ⟨by rw [e];exact h4,A',c',h6,by rw [h7];exact e.symm⟩
   ·exact .inr q
 rcases h with ⟨rfl,rfl⟩|⟨hne,b,o,cap,cs,h1,rfl,h3,h4,h5,h6⟩
 ·have hp0:RepH w1 (fun q=>q=L) (oneH 0 none) ⟨fun _=>0,fun _=>0,fun _=>0⟩:=⟨fun g o ho=>(by obtain ⟨-,e⟩:=J1 ho;cases e),fun g g' o o' ho=>(by obtain ⟨-,e⟩:=J1 ho;cases e),fun g o ho=>(by obtain ⟨-,e⟩:=J1 ho;cases e),fun b hb=>by rw [hb];exact hLlt⟩
  have hap:appV (oneH 0 none) 0 i.size i.bytes el .nils (.lst 1 [.int .i64 k.1,.int .i64 k.2])=some (.arr 0 1 0 1,oneH 0 (some (.arr 1 2 el [.int .i64 k.1,.int .i64 k.2] false))):=by
   rw [hs]
   unfold appV
   rw [(hlit _).1,(hlit _).2]
   have h2:(1:Int) * (i.bytes:Int)≤(room:Nat):=by have:=hfit.1;simp at this;omega
   simp only [List.cons_ne_nil,if_false,Int.toNat_one,Jp,Qe,Yo]
   rw [if_pos ⟨h2,by decide⟩]
  obtain ⟨cv',w2,ra,hran⟩:=Jbp (P:=P) hp0 (t:=rT) (ty:=ty) hu hi hz (by omega) (.pure .nils) (.pure hy) hap
  exact ⟨cv',w2,ra,fin (ob:=none) (fun o ho=>by cases ho) hran⟩
 ·have hrow:∀ {S:Nat→Prop},RepH w1 S (oneH 0 (some (.arr 1 2 el (ptC ks) false))) ⟨fun _=>b,fun _=>o,fun _=>0⟩→True:=fun _=>trivial
  have hbL:b≠L:=hdis _ _ rfl
  have hlen:=len_pt ks
  have hnl:ptC ks≠[]:=fun q=>by rw [q] at hlen;simp at hlen;exact hne (Ah (by omega))
  have hp0:RepH w1 (fun q=>q=L) (oneH 0 (some (.arr 1 2 el (ptC ks) false))) ⟨fun _=>b,fun _=>o,fun _=>0⟩:=by
   refine ⟨fun g ob ho=>?_,fun g g' o o' ho ho' _ _ _=>by rw [(J1 ho).1,(J1 ho').1],fun g ob ho _ _=>hbL,fun b hb=>by rw [hb];exact hLlt⟩
   obtain ⟨rfl,e⟩:=J1 ho
   injection e with e
   subst e
   intro _
   refine ⟨cs,h4,by rw [hlen];show o+ks.length * 2≤cs.size;have:=Ax 2 h3.1;omega,fun i x hx=>?_,fun q=>by cases q⟩
   obtain ⟨n,rfl,e⟩:=h6 i x hx
   rw [e]
   exact ⟨.pure (.int _ _),rfl⟩
  have hap:appV (oneH 0 (some (.arr 1 2 el (ptC ks) false))) 0 i.size i.bytes el (.arr 0 1 0 ks.length) (.lst 1 [.int .i64 k.1,.int .i64 k.2])=some (.arr 0 2 0 (ks.length+1),oneH 0 (some (.arr 2 2 el (ptC (ks++[k])) false))):=by
   rw [hs]
   unfold appV
   rw [(hlit _).1,(hlit _).2]
   simp only [Qe,Yo]
   have h2:(((ks.length:Nat):Int)+1) * (i.bytes:Int)≤(room:Nat):=by exact_mod_cast hfit.1
   refine (if_pos ⟨trivial,trivial,trivial,by rw [hlen];simp,h2,by have:=hfit.2;omega⟩).trans ((if_neg (by simp)).trans ?_)
   have hcut:cut (ptC ks) (0 * 2) (ks.length * 2)=ptC ks:=by
    simp only [cut,Ba,Bk]
    rw [←hlen,List.take_length]
   rw [hcut,cs_pt]
   rfl
  have hx:Rep w1 (fun q=>q=L) (oneH 0 (some (.arr 1 2 el (ptC ks) false))) ⟨fun _=>b,fun _=>o,fun _=>0⟩ (.arr 0 1 0 ks.length) (.slice (some ⟨b,o,none⟩) ks.length cap) :=
   .arr 0 1 0 ks.length _ _ Qe (Am _) rfl fun _=>⟨2,el,_,false,rfl,fun q=>(hnl q).elim,fun _=>⟨⟨b,o,none⟩,cap,cs,el,(0,0),rfl,h3,h4,by rw [Au];exact h5,fun _=>by simp⟩⟩
  obtain ⟨cv',w2,ra,hran⟩:=Jbp (P:=P) hp0 (t:=rT) (ty:=ty) hu hi hz (by omega) hx (.pure hy) hap
  refine ⟨cv',w2,ra,fin (ob:=some _) (fun ob ho=>?_) hran⟩
  injection ho with ho
  subst ho
  exact ⟨J5.2 hnl,rfl,h1,(Array.getElem?_eq_some_iff.1 h4).1,⟨_,_,_,h4⟩,_,_,rfl,rfl⟩
end
def kOf:Value→Int×Int
 | .agg cs=>(match cs.toList with | [.int _ x,.int _ y]=>(x,y)|_=>(0,0))
 | _=>(0,0)
theorem Jot (k:Int×Int):kOf (keyV k)=k:=rfl
theorem Jj (a:Act) (d:Option Nat) (v:Value):(a.put d v).tmps.size=a.tmps.size:=by cases d<;>simp [Act.put]
theorem Jh (a:Act) (d:Option Nat) (v:Value):(a.put d v).defers=a.defers:=by cases d<;>rfl
theorem Jn (a:Act) {d:Nat} (v:Value) (h:d<a.tmps.size) (e:Nat):(a.put (some d) v).tmps.getD e undef=if e=d then v else a.tmps.getD e undef:=by
 simp only [Act.put,Array.getD_eq_getD_getElem?,Array.getElem?_setIfInBounds]
 by_cases hd:d=e
 ·subst hd;simp [h]
 ·rw [if_neg hd,if_neg (fun q=>hd q.symm)]
theorem put_none (a:Act) (v:Value):a.put none v=a:=rfl
theorem Jrk {P:Program} {mt kT rT:TypeId} {b:Nat} (h:keysT P mt kT rT=some b):(∃x y,P.underlying mt=some (.map x y))∧P.underlying rT=some (.slice kT)∧∃i z zv,P.info? kT=some i∧i.size=2∧i.bytes=b∧i.zero=some zv∧zc P kT=some z∧aggT P kT=some true:=by
 unfold keysT at h
 split at h
 ·rename_i x y e i h1 h2 h3 h4
  split at h
  ·rename_i hc
   simp only [Af] at hc
   obtain ⟨⟨⟨c1,c2⟩,c3⟩,c4⟩:=hc
   injection h with h
   obtain ⟨zv,hzv⟩:=Bf.1 c3
   obtain ⟨z,hz⟩:=Bf.1 c4
   rw [Ai c1] at h2
   exact ⟨⟨x,y,h1⟩,h2,i,z,zv,h3,Ai c2,h,hzv,hz,h4⟩
  ·cases h
 ·cases h
theorem Acc.mono {w w1 w2:World} {el:TypeId} {ks:List (Int×Int)} {cv:Value} (h:Acc w w1 el ks cv) (hm:∀(q:Nat) cs e z,w1.heap[q]?=some (Obj.cells cs e z)→w2.heap[q]?=w1.heap[q]?):Acc w w2 el ks cv:=by
 rcases h with h|⟨hne,b,o,cap,cs,h1,h2,h3,h4,h5,h6⟩
 ·exact .inl h
 ·exact .inr ⟨hne,b,o,cap,cs,h1,h2,h3,(hm _ _ _ _ h4).trans h4,h5,h6⟩
theorem fill_two (f:Nat→Value) (x y:Int):Instr.fill (fun i=>some (i * 2,2)) ((Array.range (1 * 2)).map f) [(0,.agg #[.int .i64 x,.int .i64 y])]=some #[.int .i64 x,.int .i64 y]:=by
 have:∀f:Nat→Value,(((Array.range 2).map f).setIfInBounds 0 (.int .i64 x)).setIfInBounds 1 (.int .i64 y)=#[.int .i64 x,.int .i64 y]:=fun f=>by
  apply Array.ext
  ·simp
  ·intro j h1 h2
   have h2:j<2:=by simpa using h2
   match j,h2 with
   | 0,_=>simp
   | 1,_=>simp
 simp [Instr.fill,Value.cells,this]
theorem Jiz {w:World} {r:Nat} {o:Obj} (h:r<w.heap.size):(Go.ChangeMaps.setBlock w r o).heap[r]?=some o∧∀q,q≠r→(Go.ChangeMaps.setBlock w r o).heap[q]?=w.heap[q]?:=by
 constructor
 ·simp [Go.ChangeMaps.setBlock,h]
 ·intro q hq
  simp only [Go.ChangeMaps.setBlock,Array.getElem?_setIfInBounds]
  rw [if_neg (fun e=>hq e.symm)]
section
variable {P:Program} {ro:Option Nat}
structure KInv (a0:Act) (w0:World) (bm clock r:Nat) (es:Array MapEntry) (el:TypeId) (a:Act) (w:World):Prop where
 sz:a.tmps.size=a0.tmps.size
 df:a.defers=a0.defers
 fr:∀d,d∉Jit→a.tmps.getD d undef=a0.tmps.getD d undef
 it:a.tmps.getD 15 undef=.pointer (some ⟨r,0,none⟩)
 old:Old w0 w
 st:∃(seen:Array Nat) (vis rest:List MapEntry),w.heap[r]?=some (.mapIter (some bm) clock seen clock)∧seen.toList=vis.map (·.born)∧(vis++rest).Perm es.toList∧Acc w0 w el (vis.map fun e=>kOf e.key) (a.tmps.getD 4 undef)
theorem Jvt (w:World) (ty:TypeId) (r bm clock:Nat) (seen:Array Nat) (es:Array MapEntry) (vis rest:List MapEntry) (hr:w.heap[r]?=some (.mapIter (some bm) clock seen clock)) (hb:w.heap[bm]?=some (.map es clock)) (hB:Born es clock) (hs:seen.toList=vis.map (·.born)) (hp:(vis++rest).Perm es.toList) :
  (rest=[]∧(Instr.next (.pointer (some ⟨r,0,none⟩)) false ty).run P w=.ok (.tuple #[.bool false]) w) ∨
  ∃e r1 r2,rest=r1++e::r2∧e∈es.toList∧∃w1,(w1=w∨w1=w.drew)∧(Instr.next (.pointer (some ⟨r,0,none⟩)) false ty).run P w=.ok (.tuple #[.bool true,e.key,e.val]) (Go.ChangeMaps.setBlock w1 r (.mapIter (some bm) clock (seen.push e.born) clock)):=by
 have hnd:((vis++rest).map (·.born)).Nodup:=(hp.map _).nodup_iff.2 hB.2
 have hleft:∀e,e∈(leftOf es seen).toList↔e∈es.toList∧e.born∉vis.map (·.born):=fun e=>by
  unfold leftOf
  rw [←hs]
  simp
 rcases run_next_at (P:=P) w ty r bm clock clock seen es clock hr hb hB.1 (Am _) with ⟨h1,h2⟩|⟨e,h1,w1,h2,h3⟩
 ·refine .inl ⟨?_,h2⟩
  have hnil:(leftOf es seen).toList=[]:=Ah (by simpa using h1)
  cases rest with
  | nil=>rfl
  | cons e r =>
   exfalso
   have hm:e∈es.toList:=hp.subset (List.mem_append_right _ Ab)
   have hb:e.born∉vis.map (·.born):=fun q=>by
    rw [List.map_append,Aq] at hnd
    exact (List.nodup_append.1 hnd).2.2 _ q _ Ab rfl
   have:=(hleft e).2 ⟨hm,hb⟩
   rw [hnil] at this
   cases this
 ·obtain ⟨h4,h5⟩:=(hleft e).1 h1
  have:e∈vis++rest:=hp.symm.subset h4
  rcases Ay.1 this with q|q
  ·exact (h5 (Ak.2 ⟨e,q,rfl⟩)).elim
  ·obtain ⟨r1,r2,hr12⟩:=Bc q
   exact .inr ⟨e,r1,r2,hr12,h4,w1,h2,h3⟩
theorem Ju2 {nt:Nat} {x y:Code} {lc:LC} (hk:Jlt P nt x y=some lc):∃i5 el by',lc=.keys i5 el by'∧24≤nt∧∀ {a:Act} {w:World} {bm clock:Nat} {es:Array MapEntry},
  nt≤a.tmps.size→a.tmps.getD 3 undef=.map (some bm)→w.heap[bm]?=some (.map es clock)→Born es clock→(∀e∈es.toList,e.key=keyV (kOf e.key))→a.tmps.getD 4 undef=.slice none 0 0→(es.size * by'≤room∧es.size≤9223372036854775807)→∀ {Q:Exit→Act→World→Prop},
   (∀a' w' l cv,a'.tmps.size=a.tmps.size→a'.defers=a.defers→(∀d,d∉Jit→a'.tmps.getD d undef=a.tmps.getD d undef)→a'.tmps.getD 4 undef=cv→l.Perm (es.toList.map fun e=>kOf e.key)→Old w w'→Acc w w' el l cv→Q .normal a' w') →
   (Code.seq x y).wpIn (Fr ro) 0 P Q a w:=by
 unfold Jlt at hk
 split at hk
 ·rename_i i5 o5 n i6 o6 c n' n2 i7 o7 i8 o8
  split at hk
  ·rename_i bts hT
   split at hk
   ·rename_i hc
    injection hk with hk
    simp only [Af] at hc
    obtain ⟨⟨⟨⟨⟨⟨⟨c1,c2⟩,c3⟩,c4⟩,c5⟩,c6⟩,c7⟩,c8⟩:=hc
    have c1:c=17:=Ai c1
    have c2:n=n':=Ai c2
    have c4:24≤nt:=Nat.le_of_ble_eq_true c4
    subst c1
    subst c2
    refine ⟨i5,_,bts,hk.symm,c4,?_⟩
    obtain ⟨⟨mx,my,hmt⟩,hu,i,z,zv,hi,hs,hby,hzv,hz,hag⟩:=Jrk hT
    generalize Jb2 o5.toList 1=mt at *
    generalize Jb2 o7.toList 2=kT at *
    generalize Jb2 o8.toList 2=rT at *
    subst hby
    obtain ⟨p1,q,e5,d1,h1,g1,c5⟩:=Q8 c5
    obtain ⟨p2,q,rfl,d2,h2,g2,c5⟩:=Q8 c5
    obtain rfl:=Jhr c5
    obtain ⟨p3,q,e6,d3,h3,g3,c6⟩:=Q8 c6
    obtain ⟨p4,q,rfl,d4,h4,g4,c6⟩:=Q8 c6
    obtain rfl:=Jhr c6
    obtain ⟨p5,q,e7,d5,h5,g5,c7⟩:=Q8 c7
    obtain ⟨p6,q,rfl,d6,h6,g6,c7⟩:=Q8 c7
    obtain ⟨p7,q,rfl,d7,h7,g7,c7⟩:=Q8 c7
    obtain ⟨p8,q,rfl,d8,h8,g8,c7⟩:=Q8 c7
    obtain rfl:=Jhr c7
    obtain ⟨p9,q,e8,d9,h9,g9,c8⟩:=Q8 c8
    obtain ⟨p10,q,rfl,d10,h10,g10,c8⟩:=Q8 c8
    obtain ⟨p11,q,rfl,d11,h11,g11,c8⟩:=Q8 c8
    obtain ⟨p12,q,rfl,d12,h12,g12,c8⟩:=Q8 c8
    obtain ⟨p13,q,rfl,d13,h13,g13,c8⟩:=Q8 c8
    obtain rfl:=Jhr c8
    simp only at d1 h1 d2 h2 d3 h3 d4 h4 d5 h5 d6 h6 d7 h7 d8 h8 d9 h9 d10 h10 d11 h11 d12 h12 d13 h13
    intro a w bm clock es hsz h3m hb hB hkeys h4n hfit Q hQ
    have nd:∀ {o:Oper} {k:OpK},o.op=k.op→∀c,o.op≠.defer c:=fun e c q=>by rw [e] at q;cases ‹OpK›<;>cases q
    have hlt:=(Array.getElem?_eq_some_iff.1 hb).1
    refine wpIn_seq (wpIn_region_list ?_)
    rw [e5]
    refine Jg g1 (nd h1) (cv:=.map (some bm)) (w':=w) (by rw [←h3m];simp only [execOp,h1,OpK.op,Act.eval];rfl) ?_
    rw [d1]
    refine Jg g2 (nd h2) (cv:=.pointer (some ⟨w.heap.size,0,none⟩)) (w':=w.alloc (.mapIter (some bm) clock #[] clock)) ?_ ?_
    ·have:(a.put (some 14) (.map (some bm))).eval (.tmp 14)=.map (some bm):=by
      show (a.put (some 14) (.map (some bm))).tmps.getD 14 undef=_
      rw [Jn _ _ (by omega),if_pos rfl]
     simp [execOp,h2,OpK.op,this,Instr.range,run_underlying hmt,MapKept.run_getObj_map hb,newObj,Result.andThen]
     rfl
    rw [d2]
    obtain ⟨a1,ha1⟩:∃a1,a1=(a.put (some 14) (.map (some bm))).put (some 15) (.pointer (some ⟨w.heap.size,0,none⟩)):=⟨_,rfl⟩
    have hsz1:a1.tmps.size=a.tmps.size:=by rw [ha1,Jj,Jj]
    have get1:∀d,a1.tmps.getD d undef=if d=15 then .pointer (some ⟨w.heap.size,0,none⟩) else if d=14 then .map (some bm) else a.tmps.getD d undef:=fun d=>by
     rw [ha1,Jn _ _ (by rw [Jj];omega),Jn _ _ (by omega)]
    rw [←ha1]
    refine wpListIn_nil (wpIn_block (wpIn_loop (KInv a w bm clock w.heap.size es kT) (fun _ w'=>es.size - (w'.iterSeen w.heap.size).size) ?_ ?_))
    ·have hnew:(w.alloc (.mapIter (some bm) clock #[] clock)).heap[w.heap.size]?=some (.mapIter (some bm) clock #[] clock):=by show (w.heap.push _)[w.heap.size]?=_;simp
     refine ⟨hsz1,by rw [ha1,Jh,Jh],fun d hd=>?_,by rw [get1,if_pos rfl],Je0 _,#[],[],es.toList,hnew,rfl,.refl _,.inl ⟨rfl,?_⟩⟩
     ·rw [get1,if_neg (fun e=>hd (by subst e;decide)),if_neg (fun e=>hd (by subst e;decide))]
     ·rw [get1,if_neg (by decide),if_neg (by decide)];exact h4n
    intro a2 w2 ⟨s1,s2,s3,s4,s5,seen,vis,rest,s6,s7,s8,s9⟩
    have hb2:w2.heap[bm]?=some (.map es clock):=(s5.keep bm hlt).trans hb
    have ev15:a2.eval (.tmp 15)=.pointer (some ⟨w.heap.size,0,none⟩):=s4
    rcases Jvt (P:=P) w2 p3.type w.heap.size bm clock seen es vis rest s6 hb2 hB s7 s8 with ⟨rfl,hnx⟩|⟨e,r1,r2,rfl,hem,w3,hw3,hnx⟩
    ·-- nothing is left
     refine wpIn_seq (wpIn_region_list ?_)
     rw [e6]
     refine Jg g3 (nd h3) (cv:=.tuple #[.bool false]) (w':=w2) (by simp only [execOp,h3,OpK.op,ev15];rw [Sem.run_bind,hnx];rfl) ?_
     rw [d3]
     refine Jg g4 (nd h4) (cv:=.bool false) (w':=w2) ?_ ?_
     ·have:(a2.put (some 16) (.tuple #[.bool false])).eval (.tmp 16)=.tuple #[.bool false]:=by
       show (a2.put (some 16) _).tmps.getD 16 undef=_
       rw [Jn _ _ (by omega),if_pos rfl]
      simp [execOp,h4,OpK.op,this,Instr.extract]
     rw [d4]
     refine wpListIn_nil (wpIn_seq (wpIn_cond_false ?_ (wpIn_exit ?_)))
     ·show ((a2.put (some 16) _).put (some 17) _).tmps.getD 17 undef=_
      rw [Jn _ _ (by rw [Jj];omega),if_pos rfl]
     ·show (if n=n then Q .normal _ _ else _)
      rw [if_pos rfl]
      rw [List.append_nil] at s8
      refine hQ _ w2 _ _ (by rw [Jj,Jj,s1]) (by rw [Jh,Jh,s2]) (fun d hd=>?_) rfl (s8.map _) s5 ?_
      ·rw [Jn _ _ (by rw [Jj];omega),Jn _ _ (by omega),if_neg (fun e=>hd (by subst e;decide)),if_neg (fun e=>hd (by subst e;decide))]
       exact s3 d hd
      ·rw [Jn _ _ (by rw [Jj];omega),Jn _ _ (by omega),if_neg (by decide),if_neg (by decide)]
       exact s9
    ·-- a key
     have hr3:w3.heap=w2.heap∧w3.os=w2.os∧w3.tape=w2.tape∧w3.output=w2.output∧w2.drawn≤w3.drawn:=by
      rcases hw3 with rfl|rfl
      ·exact ⟨rfl,rfl,rfl,rfl,Am _⟩
      ·exact ⟨rfl,rfl,rfl,rfl,Nat.le_succ _⟩
     have hrlt:w.heap.size<w2.heap.size:=(Array.getElem?_eq_some_iff.1 s6).1
     obtain ⟨w4,hw4⟩:∃w4,w4=Go.ChangeMaps.setBlock w3 w.heap.size (.mapIter (some bm) clock (seen.push e.born) clock):=⟨_,rfl⟩
     rw [←hw4] at hnx
     have b4:w4.heap[w.heap.size]?=some (.mapIter (some bm) clock (seen.push e.born) clock)∧∀q,q≠w.heap.size→w4.heap[q]?=w2.heap[q]?:=by
      have:=Jiz (w:=w3) (r:=w.heap.size) (o:=.mapIter (some bm) clock (seen.push e.born) clock) (by rw [hr3.1];exact hrlt)
      rw [←hw4] at this
      exact ⟨this.1,fun q hq=>(this.2 q hq).trans (by rw [hr3.1])⟩
     have z4:w4.heap.size=w2.heap.size:=by rw [hw4];simp [Go.ChangeMaps.setBlock,hr3.1]
     have hb4:w4.heap[bm]?=some (.map es clock):=(b4.2 bm (by omega)).trans hb2
     have hke:e.key=keyV (kOf e.key):=hkeys e hem
     obtain ⟨kx,ky,hkk⟩:∃kx ky,kOf e.key=(kx,ky):=⟨_,_,rfl⟩
     have hrep:∀ {w:World} {S:Nat→Prop},RepP w S (.agg [.int .i64 kx,.int .i64 ky]) e.key:=fun {w S}=>by
      rw [hke,hkk]
      refine .agg _ _ rfl (fun i y hi=>?_) fun i y hi=>?_
      ·match i,hi with
       | 0,hi=>rfl
       | 1,hi=>rfl
      ·match i,hi with
       | 0,hi=>injection hi with hi;subst hi;exact .int _ _
       | 1,hi=>injection hi with hi;subst hi;exact .int _ _
     have hp0:RepH w4 (fun _=>False) (oneH 0 none) ⟨fun _=>0,fun _=>0,fun _=>0⟩:=⟨fun g o ho=>(by obtain ⟨-,e⟩:=J1 ho;cases e),fun g g' o o' ho=>(by obtain ⟨-,e⟩:=J1 ho;cases e),fun g o ho=>(by obtain ⟨-,e⟩:=J1 ho;cases e),fun b hb=>hb.elim⟩
     obtain ⟨p,w5,ral,S5,μ5,q1,q2,q3,q4⟩:=Jeo (P:=P) hp0 hz 0
     have hzl:z.length=2:=by
      obtain ⟨i',zv',hi',hzv',hl',hn',hs'⟩:=Jev hz
      rw [hi] at hi'
      injection hi' with hi'
      subst hi'
      omega
     have hsz2:szT P kT=some 2:=by simp [szT,hi,hs]
     obtain ⟨w6,rst,S6,μ6,-,t2,t3,t4⟩:=Jfz (P:=P) q2 hsz2 q1 (.pure hrep) (h':=upd (oneH 0 none) 0 (some (.box 0 [.int .i64 kx,.int .i64 ky]))) (by
      simp [jh,AV.cells,Jp,oneH,upd,hzl,paste]
      rw [Yo,Yo,Yo,List.drop_eq_nil_of_le (by omega)])
     simp only [Yo] at q1 q2 q3 q4 t2 t3 t4
     have o46:Evo w4 (fun _=>False) (oneH 0 none) ⟨fun _=>0,fun _=>0,fun _=>0⟩ w6 S6 (oneH 0 (some (.box 0 [.int .i64 kx,.int .i64 ky]))) μ6:=q3.trans t3
     have k46:∀q,q<w4.heap.size→w6.heap[q]?=w4.heap[q]?:=fun q hq=>o46.keep q hq fun ⟨g,o,ho,_⟩=>by obtain ⟨-,e⟩:=J1 ho;cases e
     have q1':Rep w6 S6 (oneH 0 (some (.box 0 [.int .i64 kx,.int .i64 ky]))) μ6 (.ptr 0 0 0) p:=by
      have:=q1.evo q2 t3 t4
      exact this
     obtain ⟨ck,rld,q5⟩:=Y4 (P:=P) t2 hag hsz2 (.inl rfl) q1' (v:=.agg [.int .i64 kx,.int .i64 ky]) (by simp [Yk,Q2,pack,oneH,cut])
     have hck:ck=.agg #[.int .i64 kx,.int .i64 ky]:=by
      obtain ⟨cs,rfl,hl,hh⟩:=q5.agg_inv
      have e0:=(hh 0 _ rfl).1.int_inv
      have e1:=(hh 1 _ rfl).1.int_inv
      simp at hl
      congr 1
      apply Array.ext
      ·simp [←hl]
      ·intro j h1 h2
       match j,h1 with
       | 0,h1=>simpa [Array.getD_eq_getD_getElem?,h1] using e0
       | 1,h1=>simpa [Array.getD_eq_getD_getElem?,h1] using e1
       | j+2,h1=>omega
     have hpow:¬(1 * i.size > 2 ^ 24):=by rw [hs];decide
     have rlit:=run_buildSlice (P:=P) w6 rT kT 1 #[(0,.agg #[.int .i64 kx,.int .i64 ky])] #[.int .i64 kx,.int .i64 ky] i zv hu hi hzv hpow (by rw [hs];decide) (by rw [hs];exact fill_two _ _ _)
     obtain ⟨w7,hw7⟩:∃w7,w7=w6.alloc (.cells #[.int .i64 kx,.int .i64 ky] kT):=⟨_,rfl⟩
     rw [←hw7] at rlit
     have o67:Old w6 w7:=by rw [hw7];exact Je0 _
     have hL:w7.heap[w6.heap.size]?=some (.cells #[.int .i64 kx,.int .i64 ky] kT (0,0)):=by rw [hw7];show (w6.heap.push _)[w6.heap.size]?=_;simp
     have k47:∀q,q<w4.heap.size→w7.heap[q]?=w4.heap[q]?:=fun q hq=>(o67.keep q (Nat.lt_of_lt_of_le hq o46.size)).trans (k46 q hq)
     have acc7:Acc w w7 kT (vis.map fun e=>kOf e.key) (a2.tmps.getD 4 undef):=s9.mono fun q cs e z hq=>by
      have hqr:q≠w.heap.size:=fun e=>by subst e;rw [s6] at hq;cases hq
      have hq2:=(Array.getElem?_eq_some_iff.1 hq).1
      rw [k47 q (by omega),b4.2 q hqr]
     have hvl:vis.length+1≤es.size:=by
      have:=s8.length_eq
      simp at this
      omega
     have hL7:w6.heap.size<w7.heap.size:=(Array.getElem?_eq_some_iff.1 hL).1
     have z46:w4.heap.size≤w6.heap.size:=o46.size
     obtain ⟨cv',w8,rapp,acc8,f1,f2,f3,f4,f5,-⟩:=acc_app (P:=P) (k:=(kx,ky)) (L:=w6.heap.size) hu hi hz hs acc7 (by omega) hL (by omega) (fun A c hA e=>by
      rcases s9 with ⟨q,-⟩|⟨-,b,o,cap,cs,h1,h2,h3,h4,h5,h6⟩
      ·rcases acc7 with ⟨-,q2⟩|⟨q2,-⟩
       ·rw [q2] at hA;cases hA
       ·exact q2 q
      ·rw [h2] at hA
       injection hA with hA
       injection hA with hA
       subst hA
       have:=(Array.getElem?_eq_some_iff.1 h4).1
       have e:b=w6.heap.size:=e
       omega) (by
      rw [Az]
      exact ⟨Bo (Ax _ hvl) hfit.1,Bo hvl hfit.2⟩) p12.type
     refine wpIn_seq (wpIn_region_list ?_)
     rw [e6]
     refine Jg g3 (nd h3) (cv:=.tuple #[.bool true,e.key,e.val]) (w':=w4) (by simp only [execOp,h3,OpK.op,ev15];rw [Sem.run_bind,hnx];rfl) ?_
     rw [d3]
     obtain ⟨A1,hA1⟩:∃A1,A1=a2.put (some 16) (.tuple #[.bool true,e.key,e.val]):=⟨_,rfl⟩
     rw [←hA1]
     have Z1:A1.tmps.size=a2.tmps.size:=by rw [hA1,Jj]
     refine Jg g4 (nd h4) (cv:=.bool true) (w':=w4) ?_ ?_
     ·have:A1.eval (.tmp 16)=.tuple #[.bool true,e.key,e.val]:=by
       show A1.tmps.getD 16 undef=_
       rw [hA1,Jn _ _ (by omega),if_pos rfl]
      simp [execOp,h4,OpK.op,this,Instr.extract]
     rw [d4]
     obtain ⟨A2,hA2⟩:∃A2,A2=A1.put (some 17) (.bool true):=⟨_,rfl⟩
     rw [←hA2]
     have Z2:A2.tmps.size=a2.tmps.size:=by rw [hA2,Jj,Z1]
     refine wpListIn_nil (wpIn_seq (wpIn_cond_true ?_ (wpIn_skip ?_)))
     ·show A2.tmps.getD 17 undef=_
      rw [hA2,Jn _ _ (by omega),if_pos rfl]
     have G2:∀d,A2.tmps.getD d undef=if d=17 then .bool true else if d=16 then .tuple #[.bool true,e.key,e.val] else a2.tmps.getD d undef:=fun d=>by
      rw [hA2,Jn _ _ (by omega),hA1,Jn _ _ (by omega)]
     refine wpIn_block (wpIn_seq (wpIn_region_list ?_))
     rw [e7]
     refine Jg g5 (nd h5) (cv:=.tuple #[e.key,e.val]) (w':=w4) ?_ ?_
     ·have:A2.eval (.tmp 15)=.pointer (some ⟨w.heap.size,0,none⟩):=by
       show A2.tmps.getD 15 undef=_
       rw [G2,if_neg (by decide),if_neg (by decide)];exact s4
      simp only [execOp,h5,OpK.op,this]
      rw [Sem.run_bind,run_entry_at w4 w.heap.size bm clock seen es clock e b4.1 hb4 hem hB.2]
      rfl
     rw [d5]
     obtain ⟨A3,hA3⟩:∃A3,A3=A2.put (some 18) (.tuple #[e.key,e.val]):=⟨_,rfl⟩
     rw [←hA3]
     have Z3:A3.tmps.size=a2.tmps.size:=by rw [hA3,Jj,Z2]
     have G3:∀d,A3.tmps.getD d undef=if d=18 then .tuple #[e.key,e.val] else A2.tmps.getD d undef:=fun d=>by rw [hA3,Jn _ _ (by omega)]
     refine Jg g6 (nd h6) (cv:=e.key) (w':=w4) ?_ ?_
     ·have:A3.eval (.tmp 18)=.tuple #[e.key,e.val]:=by
       show A3.tmps.getD 18 undef=_
       rw [G3,if_pos rfl]
      simp [execOp,h6,OpK.op,this,Instr.extract]
     rw [d6]
     obtain ⟨A4,hA4⟩:∃A4,A4=A3.put (some 19) (e.key):=⟨_,rfl⟩
     rw [←hA4]
     have Z4:A4.tmps.size=a2.tmps.size:=by rw [hA4,Jj,Z3]
     have G4:∀d,A4.tmps.getD d undef=if d=19 then e.key else A3.tmps.getD d undef:=fun d=>by rw [hA4,Jn _ _ (by omega)]
     refine Jg g7 (nd h7) (cv:=p) (w':=w5) ?_ ?_
     ·simp only [execOp,h7,OpK.op]
      rw [Sem.run_bind,ral]
      rfl
     rw [d7]
     obtain ⟨A5,hA5⟩:∃A5,A5=A4.put (some 5) (p):=⟨_,rfl⟩
     rw [←hA5]
     have Z5:A5.tmps.size=a2.tmps.size:=by rw [hA5,Jj,Z4]
     have G5:∀d,A5.tmps.getD d undef=if d=5 then p else A4.tmps.getD d undef:=fun d=>by rw [hA5,Jn _ _ (by omega)]
     refine Jgj g8 (nd h8) (w':=w6) ?_ ?_
     ·have e1:A5.eval (.tmp 5)=p:=by
       show A5.tmps.getD 5 undef=_
       rw [G5,if_pos rfl]
      have e2:A5.eval (.tmp 19)=e.key:=by
       show A5.tmps.getD 19 undef=_
       rw [G5,if_neg (by decide),G4,if_pos rfl]
      simp only [execOp,h8,OpK.op,e1,e2]
      rw [Sem.run_bind,rst]
      rfl
     rw [d8,put_none]
     refine wpListIn_nil (wpIn_region_list ?_)
     rw [e8]
     refine Jg g9 (nd h9) (cv:=a2.tmps.getD 4 undef) (w':=w6) ?_ ?_
     ·have:A5.eval (.tmp 4)=a2.tmps.getD 4 undef:=by
       show A5.tmps.getD 4 undef=_
       rw [G5,if_neg (by decide),G4,if_neg (by decide),G3,if_neg (by decide),G2,if_neg (by decide),if_neg (by decide)]
      simp only [execOp,h9,OpK.op,this]
      rfl
     rw [d9]
     obtain ⟨A6,hA6⟩:∃A6,A6=A5.put (some 20) (a2.tmps.getD 4 undef):=⟨_,rfl⟩
     rw [←hA6]
     have Z6:A6.tmps.size=a2.tmps.size:=by rw [hA6,Jj,Z5]
     have G6:∀d,A6.tmps.getD d undef=if d=20 then a2.tmps.getD 4 undef else A5.tmps.getD d undef:=fun d=>by rw [hA6,Jn _ _ (by omega)]
     refine Jg g10 (nd h10) (cv:=.agg #[.int .i64 kx,.int .i64 ky]) (w':=w6) ?_ ?_
     ·have:A6.eval (.tmp 5)=p:=by
       show A6.tmps.getD 5 undef=_
       rw [G6,if_neg (by decide),G5,if_pos rfl]
      simp only [execOp,h10,OpK.op,this]
      rw [Sem.run_bind,rld,hck]
      rfl
     rw [d10]
     obtain ⟨A7,hA7⟩:∃A7,A7=A6.put (some 21) (.agg #[.int .i64 kx,.int .i64 ky]):=⟨_,rfl⟩
     rw [←hA7]
     have Z7:A7.tmps.size=a2.tmps.size:=by rw [hA7,Jj,Z6]
     have G7:∀d,A7.tmps.getD d undef=if d=21 then .agg #[.int .i64 kx,.int .i64 ky] else A6.tmps.getD d undef:=fun d=>by rw [hA7,Jn _ _ (by omega)]
     refine Jg g11 (nd h11) (cv:=.slice (some ⟨w6.heap.size,0,none⟩) 1 1) (w':=w7) ?_ ?_
     ·have:A7.eval (.tmp 21)=.agg #[.int .i64 kx,.int .i64 ky]:=by
       show A7.tmps.getD 21 undef=_
       rw [G7,if_pos rfl]
      simp [execOp,h11,OpK.op,this,rlit]
     rw [d11]
     obtain ⟨A8,hA8⟩:∃A8,A8=A7.put (some 22) (.slice (some ⟨w6.heap.size,0,none⟩) 1 1):=⟨_,rfl⟩
     rw [←hA8]
     have Z8:A8.tmps.size=a2.tmps.size:=by rw [hA8,Jj,Z7]
     have G8:∀d,A8.tmps.getD d undef=if d=22 then .slice (some ⟨w6.heap.size,0,none⟩) 1 1 else A7.tmps.getD d undef:=fun d=>by rw [hA8,Jn _ _ (by omega)]
     refine Jg g12 (nd h12) (cv:=cv') (w':=w8) ?_ ?_
     ·have e1:A8.eval (.tmp 20)=a2.tmps.getD 4 undef:=by
       show A8.tmps.getD 20 undef=_
       rw [G8,if_neg (by decide),G7,if_neg (by decide),G6,if_pos rfl]
      have e2:A8.eval (.tmp 22)=.slice (some ⟨w6.heap.size,0,none⟩) 1 1:=by
       show A8.tmps.getD 22 undef=_
       rw [G8,if_pos rfl]
      have rapp':=rapp
      rw [Array.getD_eq_getD_getElem?] at rapp'
      simp [execOp,h12,OpK.op,resolve,invoke,builtin,e1,e2,rapp']
     rw [d12]
     obtain ⟨A9,hA9⟩:∃A9,A9=A8.put (some 23) (cv'):=⟨_,rfl⟩
     rw [←hA9]
     have Z9:A9.tmps.size=a2.tmps.size:=by rw [hA9,Jj,Z8]
     have G9:∀d,A9.tmps.getD d undef=if d=23 then cv' else A8.tmps.getD d undef:=fun d=>by rw [hA9,Jn _ _ (by omega)]
     refine Jg g13 (nd h13) (cv:=cv') (w':=w8) ?_ ?_
     ·have:A9.eval (.tmp 23)=cv':=by
       show A9.tmps.getD 23 undef=_
       rw [G9,if_pos rfl]
      simp only [execOp,h13,OpK.op,this]
      rfl
     rw [d13]
     obtain ⟨A10,hA10⟩:∃A10,A10=A9.put (some 4) (cv'):=⟨_,rfl⟩
     rw [←hA10]
     have Z10:A10.tmps.size=a2.tmps.size:=by rw [hA10,Jj,Z9]
     have G10:∀d,A10.tmps.getD d undef=if d=4 then cv' else A9.tmps.getD d undef:=fun d=>by rw [hA10,Jn _ _ (by omega)]
     have k48:w8.heap[w.heap.size]?=some (.mapIter (some bm) clock (seen.push e.born) clock):=by
      have hx:w7.heap[w.heap.size]?=some (.mapIter (some bm) clock (seen.push e.born) clock):=(k47 _ (by omega)).trans b4.1
      exact (f5 _ (Array.getElem?_eq_some_iff.1 hx).1 (.inr fun cs e' z q=>by rw [hx] at q;cases q)).trans hx
     refine wpListIn_nil ?_
     show KInv a w bm clock w.heap.size es kT A10 w8∧_
     refine ⟨⟨by omega,?_,fun d hd=>?_,?_,?_,seen.push e.born,vis++[e],r1++r2,k48,by simp [s7],?_,?_⟩,?_⟩
     ·rw [hA10,Jh,hA9,Jh,hA8,Jh,hA7,Jh,hA6,Jh,hA5,Jh,hA4,Jh,hA3,Jh,hA2,Jh,hA1,Jh,s2]
     ·have hne:∀k∈Jit,d≠k:=fun k hk e=>hd (e▸hk)
      rw [G10,if_neg (hne 4 (by decide)),G9,if_neg (hne 23 (by decide)),G8,if_neg (hne 22 (by decide)),G7,if_neg (hne 21 (by decide)),G6,if_neg (hne 20 (by decide)),G5,if_neg (hne 5 (by decide)),G4,if_neg (hne 19 (by decide)),G3,if_neg (hne 18 (by decide)),G2,if_neg (hne 17 (by decide)),if_neg (hne 16 (by decide))]
      exact s3 d hd
     ·rw [G10,if_neg (by decide),G9,if_neg (by decide),G8,if_neg (by decide),G7,if_neg (by decide),G6,if_neg (by decide),G5,if_neg (by decide),G4,if_neg (by decide),G3,if_neg (by decide),G2,if_neg (by decide),if_neg (by decide)]
      exact s4
     ·refine ⟨?_,?_,⟨?_,?_⟩,?_,fun q hq=>?_⟩
      ·rw [f1,o67.os,o46.os,←s5.os,←hr3.2.1,hw4];rfl
      ·rw [f2,o67.tape,o46.tape,←s5.tape,←hr3.2.2.1,hw4];rfl
      ·rw [f3.1,o67.output.1,o46.output.1,←s5.output.1,←hr3.2.2.2.1,hw4];rfl
      ·have:=f3.2
       have:=o67.output.2
       have:=o46.output.2
       have:=s5.output.2
       have:w4.drawn=w3.drawn:=by rw [hw4];rfl
       have:=hr3.2.2.2.2
       omega
      ·have:=o67.size
       omega
      ·rw [f5 q (by have:=o67.size;omega) (.inl hq),k47 q (by omega),b4.2 q (by omega),s5.keep q hq]
     ·refine List.Perm.trans ?_ s8
      rw [List.append_assoc]
      exact List.Perm.append_left _ (by
       rw [List.singleton_append]
       exact List.perm_middle.symm)
     ·rw [G10,if_pos rfl,List.map_append,List.map_singleton,hkk]
      exact acc8
     ·have i1:(w8.iterSeen w.heap.size).size=seen.size+1:=by unfold World.iterSeen;rw [k48];simp
      have i2:(w2.iterSeen w.heap.size).size=seen.size:=by unfold World.iterSeen;rw [s6]
      have hsn:seen.size=vis.length:=by rw [←Array.length_toList,s7,Az]
      show es.size - (w8.iterSeen w.heap.size).size<es.size - (w2.iterSeen w.heap.size).size
      omega
   ·cases hk
  ·cases hk
 ·cases hk
end
end Go.Dn
namespace Go.Dn
open Go Go.Vv
set_option linter.unusedVariables false
set_option linter.unusedSimpArgs false
section
variable {h h':Heap} {θ:Nat→Option Nat} {R:List Nat} {s s':Dn.S Ty.T}
theorem Jf0 {c:C Ty.T} (hc:Jf9 c=true):encC s' c=encC s c∧GR h h' θ R (encC s c) (encC s c):=by
 have fl:∀ {y:AV},y.flat=true→GR h h' θ R y y:=fun hf=>.flat hf
 cases c with
 | any=>exact ⟨rfl,.any _⟩
 | lf t y=>exact ⟨rfl,.one y⟩
 | kb b=>exact ⟨rfl,fl rfl⟩
 | rp t y o=>exact ⟨rfl,fl rfl⟩
 | k v=>exact ⟨rfl,fl hc⟩
 | _=>cases hc
theorem Jbr {l:List (C Ty.T)} (hl:l.all Jf9=true):l.map (encC s')=l.map (encC s)∧GRL h h' θ R (l.map (encC s)) (l.map (encC s)) :=
 ⟨List.map_congr_left fun c hc=>(Jf0 (h:=h) (h':=h') (θ:=θ) (R:=R) (Ap.1 hl c hc)).1,.map fun c hc=>(Jf0 (s':=s) (Ap.1 hl c hc)).2⟩
theorem Jkv {o:Ob Ty.T} (ho:o.kids.all Jf9=true) (g:Nat):encO s' o=encO s o∧GO h h' θ R g (encO s o) (encO s o):=by
 cases o with
 | box v cs =>
  have ho:cs.all Jf9=true:=ho
  obtain ⟨a,b⟩:=Jbr (s:=s) (s':=s') (h:=h) (h':=h') (θ:=θ) (R:=R) ho
  exact ⟨by show AObj.box v (cs.map (encC s'))=_;rw [a];rfl,.box b⟩
 | lit v e el cs z =>
  have ho:cs.all Jf9=true:=ho
  obtain ⟨a,b⟩:=Jbr (s:=s) (s':=s') (h:=h) (h':=h') (θ:=θ) (R:=R) ho
  exact ⟨by show AObj.arr v e el (cs.map (encC s')) z=_;rw [a];rfl,.arr b (fun q=>.inl q) fun q=>q⟩
 | mp v kt vt es =>
  refine ⟨rfl,.map rfl fun i p q hp hq=>?_⟩
  rw [hp] at hq
  injection hq with hq
  subst hq
  exact ⟨rfl,Jn7 hp⟩
 | em v kt vt el=>exact ⟨rfl,.map rfl fun i p q hp=>by simp at hp⟩
 | row v e el t l x nest z =>
  cases nest with
  | none =>
   have ho:x.all Jf9=true:=by simpa [Ob.kids] using ho
   obtain ⟨a,b⟩:=Jbr (s:=s) (s':=s') (h:=h) (h':=h') (θ:=θ) (R:=R) ho
   exact ⟨by simp only [encO,a,Ky],.arr (.append (.flat (Ku t l)) b) (fun q=>.inl q) fun q=>q⟩
  | some p =>
   have ho:Jf9 p.2=true∧x.all Jf9=true:=by simpa [Ob.kids] using ho
   obtain ⟨a,b⟩:=Jbr (s:=s) (s':=s') (h:=h) (h':=h') (θ:=θ) (R:=R) ho.2
   obtain ⟨a2,b2⟩:=Jf0 (s:=s) (s':=s') (h:=h) (h':=h') (θ:=θ) (R:=R) ho.1
   exact ⟨by simp only [encO,a,Ky,a2],.arr (.append (.set (.flat (Ku t l)) b2 _) b) (fun q=>.inl q) fun q=>q⟩
theorem Jo9 {kt vt:Ty} (es:List (kt.T×vt.T)):(encE kt vt es).length=es.length:=by simp [encE]
theorem encE_at {kt vt:Ty} {es:List (kt.T×vt.T)} {i:Nat} {q:AV×AV} (h:(encE kt vt es)[i]?=some q):∃e,nthL es i=some e∧q=(avT kt e.1,avT vt e.2):=by
 unfold encE at h
 rw [Ac] at h
 cases he:es[i]? with
 | none=>rw [he] at h;cases h
 | some e=>rw [he] at h;injection h with h;exact ⟨e,he,h.symm⟩
theorem Jor {kt vt:Ty}:∀(k:Nat) (l:List (kt.T×List vt.T)),(moEs kt vt k l).length=l.length
 | k,[]=>rfl
 | k,e::r=>by simp only [moEs,Av,Jor (k+1) r]
theorem Jhq {α β:Type} {f:α→β} {d:Nat}:∀ {l:List (Nat×α)},look d (l.map fun p=>(p.1,f p.2))=(look d l).map f
 | []=>rfl
 | (n,v)::r=>by
  rw [Aq,Ju,Ju]
  split
  ·rfl
  ·exact Jhq
end
section
variable {nt:Nat} {w:World} {S:Nat→Prop} {s s':Dn.S Ty.T} {μ:Gh} {a:Act} {fs:List Fm}
theorem unmo_ok (h:RepF nt w S s μ a fs) (hu:unmo s=some s'):Goes nt w S s μ a fs s':=by
 unfold unmo at hu
 split at hu
 ·injection hu with hu
  subst hu
  exact ⟨S,μ,h,.refl⟩
 ·rename_i m hm
  split at hu
  ·rename_i hk
   injection hu with hu
   have hi:=h.iv
   obtain ⟨m1,m2,m3⟩:=hi.mo m hm
   have hlk:∀n,look n s'.ob=if m.g=n then some (.mp 0 m.kt (.ls m.vt) m.es) else look n s.ob:=fun n=>by subst hu;exact Ju _ _ _ _
   have hmo:s'.mo=none:=by subst hu;rfl
   have hgm:look m.g s.ob=none:=jm hi (by simp [moN,hm])
   have eG:encH s m.g=some (.map 0 (moEs m.kt m.vt 0 m.es) false):=by simp [encH,hgm,hm,moAt,Mo.at]
   have eG':encH s' m.g=some (.map 0 (encE m.kt (.ls m.vt) m.es) false):=by
    have:look m.g s'.ob=some (.mp 0 m.kt (.ls m.vt) m.es):=by rw [hlk,if_pos rfl]
    rw [Jf this];rfl
   have old:∀ {n:Nat} {o:Ob Ty.T},look n s.ob=some o→n≠m.g∧n<mB∧encH s n=some (encO s o)∧encH s' n=some (encO s o)∧o.kids.all Jf9=true:=fun {n o} ho=>by
    have hf:=m3 n o ho
    have hne:n≠m.g:=fun e=>by subst e;rw [hgm] at ho;cases ho
    have hkk:=Ap.1 hk (n,o) (Ko ho)
    refine ⟨hne,?_,Jf ho,?_,hkk⟩
    ·rw [hm] at hf
     simp only [moN,Bool.or_eq_false_iff] at hf
     have:=hf.2
     rcases Nat.lt_or_ge n mB with q|q
     ·exact q
     ·rw [Ao q] at this;cases this
    ·have:look n s'.ob=some o:=by rw [hlk,if_neg (fun e=>hne e.symm)];exact ho
     rw [Jf this,(Jkv (s:=s) (s':=s') (h:=encH s) (h':=encH s) (θ:=some) (R:=[]) hkk n).1]
   have hnone:∀i,encH s' (mB+i)=none:=fun i=>by
    have h1:look (mB+i) s.ob=none:=by
     cases hq:look (mB+i) s.ob with
     | none=>rfl
     | some o=>have:=(old hq).2.1;omega
    have h2:look (mB+i) s'.ob=none:=by rw [hlk,if_neg (by omega)];exact h1
    simp only [encH,h2,hmo,moAt]
   have hrow:∀ {i:Nat} {e:m.kt.T×List m.vt.T},nthL (α:=m.kt.T×List m.vt.T) m.es i=some e→encH s (mB+i)=some (Zu m.vt m.el e.2):=fun {i e} he=>by
    have:=Jpj m1 he
    rw [←hm] at this
    rw [encH,jm hi (by simp [moN,hm,Ao (Aw mB i)])]
    exact this
   obtain ⟨R,hR⟩:∃R:List Nat,R=(List.range (List.length (α:=m.kt.T×List m.vt.T) m.es)).map (mB+·):=⟨_,rfl⟩
   have hRm:∀g,g∈R↔∃i,i<List.length (α:=m.kt.T×List m.vt.T) m.es∧g=mB+i:=fun g=>by
    rw [hR,Ak]
    exact ⟨fun ⟨i,a,b⟩=>⟨i,List.mem_range.1 a,b.symm⟩,fun ⟨i,a,b⟩=>⟨i,List.mem_range.2 a,b.symm⟩⟩
   have hobj:∀n o',encH s' n=some o'→∃o,encH s n=some o∧GO (encH s) (encH s') some R n o o':=fun n o' ho=>by
    rcases Jbw ho with ⟨ob,hob,rfl⟩|⟨-,hx⟩
    ·rw [hlk] at hob
     split at hob
     ·rename_i e
      subst e
      rw [eG'] at ho
      refine ⟨_,eG,?_⟩
      injection ho with ho
      rw [←ho]
      refine .map ?_ fun i p q hp hq=>?_
      ·exact (Jo9 (kt:=m.kt) (vt:=.ls m.vt) m.es).trans (Jor (kt:=m.kt) (vt:=m.vt) 0 m.es).symm
      ·obtain ⟨e,h1,h2⟩:=Jig hp
       obtain ⟨e',h3,h4⟩:=encE_at (kt:=m.kt) (vt:=.ls m.vt) hq
       have he:some e=some e':=h1.symm.trans h3
       injection he with he
       subst h2
       subst h4
       subst he
       have hi1:i<List.length (α:=m.kt.T×List m.vt.T) m.es:=(Ar.1 h1).1
       refine ⟨rfl,?_⟩
       have hr:=hrow h1
       have hlen:(e.2.flatMap m.vt.cs).length=e.2.length * m.vt.sz:=Jq e.2
       have hs:Vv.snap (encH s) 1 (.arr (mB+(0+i)) e.2.length 0 e.2.length)=some (.lst e.2.length (e.2.flatMap m.vt.cs),[mB+(0+i)]):=by
        rw [Au]
        simp only [Vv.snap,hr,Zu]
        have hcut:Vv.cut (e.2.flatMap m.vt.cs) (0 * m.vt.sz) (e.2.length * m.vt.sz)=e.2.flatMap m.vt.cs:=by
         simp only [Vv.cut,Ba,Bk]
         rw [←hlen,List.take_length]
        rw [hcut,if_pos ⟨trivial,by rw [hlen,Au];exact Am _⟩,if_pos (Ku m.vt e.2)]
       refine .snap 1 hs (fun g hg=>?_) (.refl _)
       have:=Ad.1 hg
       subst this
       exact (hRm _).2 ⟨i,hi1,by rw [Au]⟩
     ·obtain ⟨x1,x2,x3,x4,x5⟩:=old hob
      rw [x4] at ho
      injection ho with ho
      exact ⟨_,x3,ho▸(Jkv (s:=s) (s':=s) x5 n).2⟩
    ·rw [hmo] at hx;cases hx
   have hgr:∀ {c:C Ty.T},okC s c→okC s' (unkC m.g c)∧GR (encH s) (encH s') some R (encC s c) (encC s' (unkC m.g c)):=fun {c} ok=>by
    have at':∀ {g v:Nat},(g,v)∈refs c→∃o,look g s.ob=some o∧v≤o.ver∧encH s g=some (encO s o)∧encH s' g=some (encO s o)∧look g s'.ob=some o∧Ki s' g v=Ki s g v:=fun {g v} hr=>by
     obtain ⟨o,ho,hv⟩:=ok _ hr
     obtain ⟨x1,x2,x3,x4,x5⟩:=old ho
     have hl:look g s'.ob=some o:=by rw [hlk,if_neg (fun e=>x1 e.symm)];exact ho
     refine ⟨o,ho,hv,x3,x4,hl,?_⟩
     have hln:s'.ln=s.ln:=by subst hu;rfl
     simp only [Ki,ho,hl,hln]
    have okk:∀ {c':C Ty.T},(∀r∈refs c',r∈refs c)→okC s' c':=fun hsub r hr=>by
     obtain ⟨o,ho,hv,-,-,hl,-⟩:=at' (hsub r hr)
     exact ⟨o,hl,hv⟩
    have nofl:∀(v:AV),v.flat=true→GR (encH s) (encH s') some R v v:=fun v hf=>.flat hf
    have ptr:∀ {g v off:Nat},(g,v)∈refs c→GR (encH s) (encH s') some R (.ptr g v off) (.ptr g v off):=fun {g v off} hr=>by
     obtain ⟨o,ho,hv,a1,a2,-,-⟩:=at' hr
     have hv':v≤(encO s o).ver:=by rw [Qc];exact hv
     exact .ptr a1 a2 hv' rfl fun e=>e
    have arr:∀ {g v off len:Nat},(g,v)∈refs c→GR (encH s) (encH s') some R (.arr g v off len) (.arr g v off len):=fun {g v off len} hr=>by
     obtain ⟨o,ho,hv,a1,a2,-,-⟩:=at' hr
     have hv':v≤(encO s o).ver:=by rw [Qc];exact hv
     exact .arr a1 a2 hv' rfl fun e=>⟨e,fun e' el c z q=>⟨c,z,q,Iff.rfl⟩⟩
    cases c with
    | any=>exact ⟨okk fun r hr=>hr,.any _⟩
    | lf t y=>exact ⟨okk fun r hr=>hr,.one y⟩
    | kb b=>exact ⟨okk fun r hr=>hr,nofl _ rfl⟩
    | rp t y o=>exact ⟨okk fun r hr=>hr,nofl _ rfl⟩
    | own g v =>
     obtain ⟨o,ho,hv,a1,a2,-,hl⟩:=at' (g:=g) (v:=v) Ab
     refine ⟨okk fun r hr=>hr,?_⟩
     show GR _ _ _ _ (.arr g v 0 (Ki s g v)) (.arr g v 0 (Ki s' g v))
     rw [hl]
     exact arr Ab
    | part g v a b=>exact ⟨okk fun r hr=>hr,arr Ab⟩
    | ptr g v o=>exact ⟨okk fun r hr=>hr,ptr Ab⟩
    | pti g v e i o=>exact ⟨okk fun r hr=>hr,ptr Ab⟩
    | map g v =>
     obtain ⟨o,ho,hv,a1,a2,-,-⟩:=at' (g:=g) (v:=v) Ab
     have hv':v≤(encO s o).ver:=by rw [Qc];exact hv
     exact ⟨okk fun r hr=>hr,.map a1 a2 hv' rfl fun e=>e⟩
    | fn f l =>
     refine ⟨okk fun r hr=>hr,.fn f _ _ rfl fun i x y hx hy=>?_⟩
     rw [hx] at hy
     injection hy with hy
     subst hy
     rw [Ac] at hx
     cases hq:l[i]? with
     | none=>rw [hq] at hx;cases hx
     | some p =>
      rw [hq] at hx
      injection hx with hx
      subst hx
      exact ptr (Ak.2 ⟨p,Aj hq,rfl⟩)
    | yl j=>exact ⟨okk fun r hr=>hr,.yld j⟩
    | k v =>
     have key:(unkC m.g (.k v:C Ty.T)=.k v∧v.flat=true)∨unkC m.g (.k v:C Ty.T)=.any∨(v=.map m.g 0∧unkC m.g (.k v:C Ty.T)=.map m.g 0):=by
      cases v with
      | map g' ver =>
       cases ver with
       | zero =>
        cases hb:Nat.beq g' m.g with
        | true=>exact .inr (.inr ⟨by rw [Ai hb],by simp [unkC,AV.flat,hb]⟩)
        | false=>exact .inr (.inl (by simp [unkC,AV.flat,hb]))
       | succ n=>exact .inr (.inl rfl)
      | _=>first|exact .inl ⟨rfl,rfl⟩|exact .inr (.inl rfl)
     rcases key with ⟨e,hf⟩|e|⟨rfl,e⟩
     ·rw [e];exact ⟨okk fun r hr=>hr,nofl v hf⟩
     ·rw [e];exact ⟨fun r hr=>(by cases hr),.any _⟩
     ·rw [e]
      refine ⟨fun r hr=>?_,.map eG eG' (Am _) rfl fun e=>e⟩
      have:=Ad.1 hr
      subst this
      exact ⟨_,by rw [hlk,if_pos rfl],Am _⟩
   have hgv:∀ {v:V Ty.T},okV s v→okV s' (unkV m.g v)∧GR (encH s) (encH s') some R (encV s v) (encV s' (unkV m.g v)):=fun {v} ok=>by
    cases v with
    | c x =>
     obtain ⟨a,b⟩:=hgr (c:=x) (ok x Ab)
     exact ⟨fun c hc=>by have:=Ad.1 hc;subst this;exact a,b⟩
    | ag l =>
     refine ⟨fun c hc=>?_,.agg _ _ (by simp) fun i x y hx hy=>?_⟩
     ·obtain ⟨c0,h0,rfl⟩:=Ak.1 (show c∈l.map (unkC m.g) from hc)
      exact (hgr (ok c0 h0)).1
     ·rw [Ac] at hx hy
      rw [Ac] at hy
      cases hq:l[i]? with
      | none=>rw [hq] at hx;cases hx
      | some c0 =>
       rw [hq] at hx hy
       injection hx with hx
       injection hy with hy
       subst hx
       subst hy
       exact (hgr (ok c0 (Aj hq))).2
    | tp l =>
     cases l with
     | nil=>exact ⟨fun c hc=>(by cases hc),.tup _ _ rfl fun i x y hx=>by simp at hx⟩
     | cons p r=>exact ⟨fun c hc=>(by have:=Ad.1 hc;subst this;intro r hr;cases hr),.any _⟩
   have hsl:s'.sl=s.sl.map fun p=>(p.1,unkV m.g p.2):=by subst hu;rfl
   have hlo:s'.lo=s.lo.map fun l=>l.map fun p=>(p.1,unkV m.g p.2):=by subst hu;rfl
   refine h.ghost (θ:=some) (R:=R) ⟨⟨fun n o' ho=>.inr ?_,fun n n' g e1 e2 _ _=>?_,fun n g o' e ho _ _ hg=>?_,fun g hg=>?_⟩,fun d v hv=>?_,by rw [hlo,Az],fun i l l' d v' h1 h2 h3=>?_,⟨fun p hp=>?_,fun l hl p hp=>?_,fun g o ho=>?_,fun m' hm'=>by rw [hmo] at hm';cases hm'⟩⟩
   ·obtain ⟨o,a,b⟩:=hobj n o' ho
    exact ⟨n,o,rfl,a,b⟩
   ·injection e1 with e1;injection e2 with e2;rw [e1,e2]
   ·injection e with e
    subst e
    obtain ⟨i,-,rfl⟩:=(hRm _).1 hg
    rw [hnone] at ho
    cases ho
   ·obtain ⟨i,hi',rfl⟩:=(hRm _).1 hg
    have:nthL (α:=m.kt.T×List m.vt.T) m.es i=some (List.get (α:=m.kt.T×List m.vt.T) m.es ⟨i,hi'⟩):=Bg hi'
    exact ⟨_,hrow this,rfl⟩
   ·rw [hsl,Jhq] at hv
    unfold Dn.S.at
    cases hq:look d s.sl with
    | none=>rw [hq] at hv;cases hv
    | some v0 =>
     rw [hq] at hv
     injection hv with hv
     subst hv
     exact (hgv (hi.sl (d,v0) (Ko hq))).2
   ·rw [hlo,Ac,h1] at h2
    injection h2 with h2
    subst h2
    rw [Jhq] at h3
    cases hq:look d l with
    | none=>rw [hq] at h3;cases h3
    | some v0 =>
     rw [hq] at h3
     injection h3 with h3
     subst h3
     exact (hgv (hi.lo l (Aj h1) (d,v0) (Ko hq))).2
   ·rw [hsl] at hp
    obtain ⟨q,hq,rfl⟩:=Ak.1 hp
    exact (hgv (hi.sl q hq)).1
   ·rw [hlo] at hl
    obtain ⟨l0,hl0,rfl⟩:=Ak.1 hl
    obtain ⟨q,hq,rfl⟩:=Ak.1 hp
    exact (hgv (hi.lo l0 hl0 q hq)).1
   ·rw [hlk] at ho
    split at ho
    ·injection ho with ho
     subst ho
     intro c hc
     cases hc
    ·obtain ⟨-,-,-,-,x5⟩:=old ho
     intro c hc r hr
     have:=Ap.1 x5 c hc
     cases c<;>first|(cases hr;done)|(cases this;done)
  ·cases hu
end
end Go.Dn
namespace Go.Dn
open Go Go.Vv
set_option linter.unusedVariables false
set_option linter.unusedSimpArgs false
theorem Jtx {d:Nat}:∀(ks:List Nat) (s:Dn.S Ty.T),(Dn.S.kill ks s).at d=if d∈ks then .c .any else s.at d
 | [],s=>by simp [S.kill]
 | x::r,s=>by
  rw [S.kill,Jtx r]
  by_cases h:d∈r
  ·rw [if_pos h,if_pos (Aa _ h)]
  ·rw [if_neg h]
   have:(s.put (some x) (.c .any)).at d=if d=x then .c .any else s.at d:=by
    unfold Dn.S.at Dn.S.put
    simp only [Ju]
    by_cases e:x=d
    ·subst e;simp
    ·rw [if_neg e,if_neg (fun q=>e q.symm)]
   rw [this]
   by_cases e:d=x
   ·subst e;rw [if_pos rfl,if_pos Ab]
   ·rw [if_neg e,if_neg (fun q=>by rcases Ae.1 q with q|q;exact e q;exact h q)]
theorem Jnp:∀(ks:List Nat) (s:Dn.S Ty.T),(Dn.S.kill ks s).ob=s.ob∧(Dn.S.kill ks s).ln=s.ln∧(Dn.S.kill ks s).mo=s.mo∧(Dn.S.kill ks s).lo=s.lo
 | [],s=>⟨rfl,rfl,rfl,rfl⟩
 | x::r,s=>Jnp r (s.put (some x) (.c .any))
theorem Jpe:∀(ks:List Nat) {s:Dn.S Ty.T},Inv s→Inv (Dn.S.kill ks s)
 | [],s,h=>h
 | x::r,s,h=>Jpe r (h.put (v:=.c .any) (fun c hc=>by have:=Ad.1 hc;subst this;intro r hr;cases hr) (some x))
theorem encE_get {kt vt:Ty} {es:List (kt.T×vt.T)} {i:Nat} {e:kt.T×vt.T} (h:es[i]?=some e):(encE kt vt es)[i]?=some (avT kt e.1,avT vt e.2):=by
 unfold encE
 rw [Ac,h]
 rfl
theorem put_self (a:Act) {d:Nat} {v:Value} (hd:d<a.tmps.size) (h:a.tmps.getD d undef=v):a.put (some d) v=a:=by
 obtain ⟨t,f⟩:=a
 show (⟨t.setIfInBounds d v,f⟩:Act)=⟨t,f⟩
 congr 1
 apply Array.ext
 ·simp
 ·intro i h1 h2
  rw [Array.getElem_setIfInBounds h2]
  split
  ·rename_i e
   subst e
   have h:t.getD d undef=v:=h
   rw [←h]
   simp [Array.getD_eq_getD_getElem?,h2]
  ·rfl
section
variable {nt:Nat} {w w':World} {S:Nat→Prop} {s:Dn.S Ty.T} {μ:Gh} {a a':Act} {fs:List Fm}
theorem RepF.kill (h:RepF nt w S s μ a fs) (ks:List Nat) (hs:a'.tmps.size=a.tmps.size) (hd:a'.defers=a.defers) (hf:∀d,d∉ks→a'.tmps.getD d undef=a.tmps.getD d undef):RepF nt w S (Dn.S.kill ks s) μ a' fs:=by
 obtain ⟨k1,k2,k3,k4⟩:=Jnp ks s
 have eh:encH (Dn.S.kill ks s)=encH s:=Xb k1 k2 k3
 have ec:encC (Dn.S.kill ks s)=encC s:=Jne k1 k2
 refine h.step hd ⟨fun d=>?_,by show RepH w S (encH _) μ;rw [eh];exact h.fr.hp,by rw [hd];exact h.fr.df,by rw [hs];exact h.fr.sz⟩ ⟨k4,fun c hc=>⟨fun r hr=>by rw [k1];exact hc r hr,by rw [ec]⟩⟩ (Jpe ks h.iv) (by rw [eh];exact .refl) (by rw [eh];exact .refl _ _)
 show Rep w S (encH _) μ (encV _ ((Dn.S.kill ks s).at d)) _
 rw [eh,Jfp k1 k2,Jtx]
 by_cases hk:d∈ks
 ·rw [if_pos hk];exact .any _
 ·rw [if_neg hk,hf d hk];exact h.fr.fr d
theorem take_row (hF:RepF nt w S s μ a fs) (hold:Old w w') {t:Ty} (hpos:0<t.sz) {el:TypeId} {l:List t.T} {cv:Value} (hres:OwnR w w' S el t l cv) {base:Nat} (hb:s.has base=false) :
  ∃S2 μ2,RepF nt w' S2 (s.obj base (.row 0 t.sz el t l [] none false)) μ2 a fs∧Evo w S (encH s) μ w' S2 (encH (s.obj base (.row 0 t.sz el t l [] none false))) μ2∧okV (s.obj base (.row 0 t.sz el t l [] none false)) (.c (.own base 0)) ∧
   Rep w' S2 (encH (s.obj base (.row 0 t.sz el t l [] none false))) μ2 (encV (s.obj base (.row 0 t.sz el t l [] none false)) (.c (.own base 0))) cv:=by
 have hbh:encH s base=none:=Jfl hb
 have hcl:(l.flatMap t.cs).length=l.length * t.sz:=Jq l
 have hnil:l.flatMap t.cs=[]↔l=[]:=fl_nil hpos l
 have key:∃(b o:Nat) (S2:Nat→Prop),RepH w' S2 (upd (encH s) base (some (.arr 0 t.sz el (l.flatMap t.cs) false))) (μ.set base b o) ∧
   Evo w S (encH s) μ w' S2 (upd (encH s) base (some (.arr 0 t.sz el (l.flatMap t.cs) false))) (μ.set base b o) ∧
   EvoV (encH s) μ (upd (encH s) base (some (.arr 0 t.sz el (l.flatMap t.cs) false))) (μ.set base b o)∧ArrV w' (l.flatMap t.cs) b o t.sz 0 l.length cv:=by
  rcases hres with ⟨e,A,rfl⟩|⟨e,b,o,cap,cs,q1,rfl,q2,q3,q4,q5⟩
  ·subst e
   obtain ⟨a1,a2,a3⟩:=adopt (S':=X8 S w w') (g:=base) (b:=0) (k:=0) (esz:=t.sz) (el:=el) (cells:=[]) hF.fr.hp hold hbh (fun q hq=>.inl hq) (fun q hq=>hq) (fun q=>(q rfl).elim) (fun q=>(q rfl).elim) (fun q=>(q rfl).elim)
   exact ⟨0,0,_,a1,a2,a3,fun _=>⟨rfl,rfl,A,rfl⟩,fun q=>(q rfl).elim⟩
  ·have hlen:l.length * t.sz≤cap * t.sz:=Ax _ q2.1
   obtain ⟨a1,a2,a3⟩:=adopt (S':=fun q=>X8 S w w' q∧q≠b) (g:=base) (b:=b) (k:=o) (esz:=t.sz) (el:=el) (cells:=l.flatMap t.cs) hF.fr.hp hold hbh
    (fun q hq=>⟨.inl hq,fun e=>by subst e;have:=hF.fr.hp.lt q hq;omega⟩) (fun q hq=>hq.1) (fun _ q=>q.2 rfl) (fun _=>q1) (fun _=>⟨cs,q3,by rw [hcl];omega,q5⟩)
   refine ⟨b,o,_,a1,a2,a3,fun q=>(e (hnil.1 q)).elim,fun _=>⟨⟨b,o,none⟩,cap,cs,el,(0,0),rfl,q2,q3,by rw [Au];exact q4,fun _=>by rw [Ba,Bn]⟩⟩
 obtain ⟨b,o,S2,a1,a2,a3,a4⟩:=key
 obtain ⟨s4,hs4⟩:∃s4,s4=s.obj base (.row 0 t.sz el t l [] none false):=⟨_,rfl⟩
 rw [←hs4]
 have hbase:look base s.ob=none:=Q0 hb
 have st:Stab s s4:=by subst hs4;exact Qg fun o0 h0=>by rw [hbase] at h0;cases h0
 have hlk:∀g',look g' s4.ob=if base=g' then some (.row 0 t.sz el t l [] none false) else look g' s.ob:=fun g'=>by subst hs4;exact J2 base g' _
 have hm4:s4.mo=s.mo:=by subst hs4;rfl
 have iv:Inv s4:=Yb hF.iv st hlk (fun c hc=>by cases hc) (Jqb hb) hm4
 have hh:=Qw hF.iv st hlk hm4
 have he1:Dn.encO s4 (.row 0 t.sz el t l [] none false)=.arr 0 t.sz el (l.flatMap t.cs) false:=by simp [Dn.encO,Ky]
 rw [he1] at hh
 rw [←hh] at a1 a2 a3
 have hF2:RepF nt w' S2 s4 (μ.set base b o) a fs:=by
  refine hF.step rfl ⟨fun d=>?_,a1,hF.fr.hp.marks hF.fr.df a2,hF.fr.sz⟩ st.on iv a2 a3
  rw [Yv hF.iv st]
  exact (hF.fr.fr d).evo hF.fr.hp a2 a3
 have hl0:Ki s4 base 0=l.length:=by simp [Ki,hlk,Ob.ver,Ob.lenO]
 refine ⟨S2,_,hF2,a2,Km fun q hq=>?_,?_⟩
 ·have:=Ad.1 hq
  subst this
  exact ⟨_,by rw [hlk,if_pos rfl],Am _⟩
 ·show Rep w' S2 (encH s4) _ (encC s4 (.own base 0)) cv
  simp only [encC,hl0]
  refine .arr base 0 0 l.length cv _ (by rw [hh,Jc]) (Am _) ?_ fun _=>⟨t.sz,el,_,false,rfl,?_⟩
  ·by_cases e:l=[]
   ·obtain ⟨-,-,A,rfl⟩:=a4.1 (hnil.2 e);rfl
   ·obtain ⟨_,_,_,_,_,rfl,_⟩:=a4.2 (fun q=>e (hnil.1 q));rfl
  ·simp only [Gh.set,Jc]
   exact a4
theorem mqv_some {α β:Type} {l:List α} {k:List α→Option β} {r:β} (h:mqv l k=some r) {p:List α} (hp:p.Perm l):k p=some r:=by
 unfold mqv at h
 split at h
 ·rename_i hx
  have:=hx.choose_spec p hp
  injection h with h
  rw [this,h]
 ·cases h
theorem Jwd {α β:Type} {l:List α} {k:List α→Option β} {r:β} (h:∀p:List α,p.Perm l→k p=some r):mqv l k=some r:=by
 unfold mqv
 have hx:∃v,∀p:List α,p.Perm l→k p=some v:=⟨r,h⟩
 rw [dif_pos hx]
 have:=hx.choose_spec l (.refl l)
 rw [h l (.refl l)] at this
 exact this.symm
theorem keys_den {P:Program} {ro:Option Nat} {x y:Code} {i5:Nat} {el:TypeId} {by' base:Nat} (hk:Jlt P nt x y=some (.keys i5 el by')) (h:RepF nt w S s μ a fs) {α:Type} {k:Dn.S Ty.T→Option α} {r:α} (hd:keysD val base el by' s k=some r)
  {Q:Exit→Act→World→Prop} (hQ:∀a' w' S' μ' s',RepF nt w' S' s' μ' a' fs→Evo w S (encH s) μ w' S' (encH s') μ'→k s'=some r→Q .normal a' w'):(Code.seq x y).wpIn (Fr ro) 0 P Q a w:=by
 unfold keysD at hd
 obtain ⟨s1,hu,hd⟩:=Jd hd
 obtain ⟨S1,μ1,h1,ev1⟩:=unmo_ok h hu
 split at hd
 ·rename_i g ver vt es hmp hnil
  obtain ⟨hm1,hm2⟩:=jz hmp
  have hm1:s1.at 3=.c (.map g ver):=hm1
  have hm2:look g s1.ob=some (.mp ver (.p I I) vt es):=hm2
  split at hd
  ·cases hd
  rename_i hhas
  have hhas:s1.has (base+23)=false:=by simpa using hhas
  obtain ⟨hft,hd⟩:=Jv hd
  obtain ⟨es',hes⟩:∃es':List ((Int×Int)×vt.T),es'=es:=⟨_,rfl⟩
  have hft:=Jc4 hft
  have hft:((es'.length:Nat):Int) * by'≤room∧((es'.length:Nat):Int)≤9223372036854775807:=by rw [hes];exact hft
  have hd:mqv (es'.map (·.1)) (fun l:List (Int×Int)=>k (((Dn.S.kill Jit s1).obj (base+23) (.row 0 2 el (.p I I) l [] none false)).put (some 4) (.c (.own (base+23) 0))))=some r:=by rw [hes];exact hd
  have hfN:es'.length * by'≤room∧es'.length≤9223372036854775807:=by
   have h2:((es'.length * by':Nat):Int)≤((room:Nat):Int):=by rw [Int.natCast_mul];exact hft.1
   have:=hft.2
   exact ⟨Int.ofNat_le.1 h2,by omega⟩
  have eG:encH s1 g=some (.map ver (encE (.p I I) vt es') false):=by rw [Jf hm2,hes];rfl
  have r3:=h1.fr.fr 3
  have r3:Rep w S1 (encH s1) μ1 (.map g ver) (a.tmps.getD 3 undef):=by
   have:Rep w S1 (encH s1) μ1 (encV s1 (s1.at 3)) (a.tmps.getD 3 undef):=r3
   rw [hm1] at this
   exact this
  have e3:a.tmps.getD 3 undef=.map (some (μ1.b g)):=r3.map_inv eG
  have r4:Rep w S1 (encH s1) μ1 (encV s1 (s1.at 4)) (a.tmps.getD 4 undef):=h1.fr.fr 4
  rw [hnil] at r4
  have e4:a.tmps.getD 4 undef=.slice none 0 0:=Rep.nils_inv (h:=encH s1) r4
  obtain ⟨mes,clock,b1,⟨b2,b3⟩,-,b4⟩:=h1.fr.hp.ob g _ eG
  have b2:mes.size=es'.length:=b2.trans (Jo9 (kt:=.p I I) es')
  have hkey:∀(i:Nat) (e:(Int×Int)×vt.T),es'[i]?=some e→∃me,mes[i]?=some me∧me.key=keyV e.1:=fun i e he=>by
   have:(encE (.p I I) vt es')[i]?=some (avT (.p I I) e.1,avT vt e.2):=encE_get (kt:=.p I I) he
   obtain ⟨me,c1,c2,-⟩:=b4 i _ _ this
   refine ⟨me,c1,?_⟩
   have c2:RepP w S1 (.agg [.int .i64 e.1.1,.int .i64 e.1.2]) me.key:=c2
   generalize me.key=mk at c2
   cases c2 with
   | agg _ cs hl g1 g2 =>
    have q0:=g2 0 _ rfl
    have q1:=g2 1 _ rfl
    simp at hl
    show Value.agg cs=Value.agg #[.int .i64 e.1.1,.int .i64 e.1.2]
    congr 1
    apply Array.ext
    ·simp [←hl]
    ·intro j h1 h2
     match j,h1 with
     | 0,h1 =>
      have:RepP w S1 (.int .i64 e.1.1) (cs[0]):=by simpa [Array.getD_eq_getD_getElem?,h1] using q0
      generalize cs[0]=v at this ⊢
      cases this
      rfl
     | 1,h1 =>
      have:RepP w S1 (.int .i64 e.1.2) (cs[1]):=by simpa [Array.getD_eq_getD_getElem?,h1] using q1
      generalize cs[1]=v at this ⊢
      cases this
      rfl
     | j+2,h1=>omega
  have hkeys:mes.toList.map (fun e=>kOf e.key)=es'.map (·.1):=by
   apply List.ext_getElem?
   intro i
   rw [Ac,Ac]
   cases he:es'[i]? with
   | none =>
    have:mes.toList[i]?=none:=by
     rw [Bd] at he ⊢
     simp;omega
    rw [this];rfl
   | some e =>
    obtain ⟨me,c1,c2⟩:=hkey i e he
    have:mes.toList[i]?=some me:=by simpa using c1
    rw [this,Option.map_some,Option.map_some,c2,Jot]
  obtain ⟨i5',el',b5,e5,hnt,run⟩:=Ju2 (P:=P) (ro:=ro) hk
  injection e5 with e51 e52 e53
  subst e51
  subst e52
  subst e53
  refine run h1.fr.sz e3 b1 b3 (fun e he=>?_) e4 ⟨by rw [b2];exact hfN.1,by rw [b2];exact hfN.2⟩ fun a' w' l cv t1 t2 t3 t4 t5 t6 t7=>?_
  ·obtain ⟨i,hi⟩:=List.getElem?_of_mem he
   have hi':mes[i]?=some e:=by simpa using hi
   have hlt:=(Array.getElem?_eq_some_iff.1 hi').1
   obtain ⟨me,c1,c2⟩:=hkey i es'[i] (Bg (by omega))
   rw [hi'] at c1
   injection c1 with c1
   subst c1
   rw [c2,Jot]
  ·rw [hkeys] at t5
   have hk2:=mqv_some hd t5
   have h2:=h1.kill Jit t1 t2 t3
   obtain ⟨k1,k2,k3,k4⟩:=Jnp Jit s1
   have hb2:(Dn.S.kill Jit s1).has (base+23)=false:=by unfold Dn.S.has at hhas ⊢;rw [k1,k3];exact hhas
   have eh:encH (Dn.S.kill Jit s1)=encH s1:=Xb k1 k2 k3
   obtain ⟨S2,μ2,q1,q2,q3,q4⟩:=take_row h2 t6 (t:=.p I I) (by decide) (t7.own (S:=S1)) hb2
   have h4:4<a'.tmps.size:=by rw [t1];have:=h1.fr.sz;omega
   have q5:=q1.put (d:=some 4) (by simp [Jrm];omega) q3 q4
   rw [put_self a' h4 t4] at q5
   refine hQ a' w' S2 μ2 _ q5 ?_ hk2
   rw [Zz]
   rw [eh] at q2
   exact ev1.trans q2
 ·cases hd
end
end Go.Dn
namespace Go.Dn
open Go Go.Vv
set_option linter.unusedVariables false
set_option linter.unusedSimpArgs false
def LE.is:LE→Exit→Prop
 | .normal,.normal=>True
 | .exit i,.exit j=>i=j
 | .ret,.ret=>True
 | _,_=>False
theorem Jaa (p:Nat→Prop) (h:∃k,p k):∃k,p k∧∀j,p j→k≤j:=by
 obtain ⟨k,hk⟩:=h
 induction k using Nat.strongRecOn with
 | _ k ih =>
  by_cases hj:∃j,j<k∧p j
  ·obtain ⟨j,h1,h2⟩:=hj
   exact ih j h1 h2
  ·exact ⟨k,hk,fun j hpj=>Nat.le_of_not_lt fun hlt=>hj ⟨j,hlt,hpj⟩⟩
open Classical in
noncomputable def leastOf (p:Nat→Prop):Nat:=if h:∃k,p k then Classical.choose (Jaa p h) else 0
theorem Jc1 {p:Nat→Prop} (h:∃k,p k):p (leastOf p)∧∀j,p j→leastOf p≤j:=by
 unfold leastOf
 rw [dif_pos h]
 exact Classical.choose_spec (Jaa p h)
theorem Jcs {α β:Type} {x:Option α} {k:α→Option β} {r:β} (h:Jas x k=some r):∃y,x=some y∧k y=some r:=by
 cases x with
 | none=>cases h
 | some y=>exact ⟨y,rfl,h⟩
theorem Jdg {α:Type} {k:LE→Dn.S Ty.T→Option α} {r:α} {e:LE} {s:Dn.S Ty.T}:∀ {xs:List (LE×S U)} {h:Ex Ty.T xs},exIn (dL wv) xs e s=some h→Jrl k xs h=some r→∃(p:S U) (hl:HL Ty.T p.lt),p.fit (dL wv) s=some hl∧k e (p.mk' hl)=some r
 | [],h,hi,_=>by cases hi
 | [(a,p)],h,hi,ho=>by
  simp only [exIn] at hi
  have hc:=Xx hi
  clear hi
  obtain ⟨e1,hi⟩:=hc
  subst e1
  exact ⟨p,h,hi,ho⟩
 | (a,p)::q::r',h,hi,ho=>by
  simp only [exIn] at hi
  split at hi
  ·rename_i e1
   subst e1
   cases hf:p.fit (dL wv) s with
   | none=>rw [hf] at hi;cases hi
   | some hl =>
    rw [hf] at hi
    injection hi with hi
    subst hi
    exact ⟨p,hl,hf,ho⟩
  ·cases hf:exIn (dL wv) (q::r') e s with
   | none=>rw [hf] at hi;cases hi
   | some h2 =>
    rw [hf] at hi
    injection hi with hi
    subst hi
    exact Jdg (h:=h2) hf ho
theorem Jr8 {w:World} {S:Nat→Prop} {s:Dn.S Ty.T} {μ μ':Gh} {h':Heap} {w':World} {caps:List (Nat×Nat×Nat)} {cs:Array Value} {y:Value} (hl:(caps.map fun c=>AV.ptr c.1 c.2.1 c.2.2).length=cs.size)
  (hr:∀(i:Nat) (x:AV),(caps.map fun c=>AV.ptr c.1 c.2.1 c.2.2)[i]?=some x→Rep w S (encH s) μ x (cs.getD i undef)) (tr:∀ {g v o:Nat} {cv:Value},Rep w S (encH s) μ (.ptr g v o) cv→Rep w' S h' μ' (.ptr g v o) cv) {j:Nat} (hy:Rep w' S h' μ' (.yld j) y) :
  (#[y]++cs).size=(V.c (ι:=Ty.T) (.yl j)::caps.map fun c=>V.c (C.ptr c.1 c.2.1 c.2.2)).length∧∀(i:Nat) (x:V Ty.T),(V.c (ι:=Ty.T) (.yl j)::caps.map fun c=>V.c (C.ptr c.1 c.2.1 c.2.2))[i]?=some x→∀s',Rep w' S h' μ' (encV s' x) ((#[y]++cs).getD i undef):=by
 refine ⟨by simp at hl ⊢;omega,fun i x hx s'=>?_⟩
 cases i with
 | zero =>
  simp only [List.getElem?_cons_zero,Option.some.injEq] at hx
  subst hx
  have e:(#[y]++cs).getD 0 undef=y:=by simp [Array.getD_eq_getD_getElem?,Array.getElem?_append]
  rw [e]
  exact hy
 | succ i =>
  simp only [Bh,Ac] at hx
  have e:(#[y]++cs).getD (i+1) undef=cs.getD i undef:=by
   simp only [Array.getD_eq_getD_getElem?]
   rw [Array.getElem?_append_right (by simp)]
   simp
  rw [e]
  cases hq:caps[i]? with
  | none=>rw [hq] at hx;cases hx
  | some c =>
   rw [hq] at hx
   injection hx with hx
   subst hx
   exact tr (hr i _ (by rw [Ac,hq];rfl))
section
variable {P:Program} {nt:Nat} {call:Vv.Call} {base:Nat} {cx:Cx} {mk:Cx→Inl} {fs:List Fm} {ro:Option Nat}
theorem rng_den (hC:Ql call cx.ct) (hcall:Xo P call) (hI:∀hs,Job P hs (mk { cx with hs:=hs,rd:=false })) (hso:SoOK P cx) (hro:cx.rd=false→ro=none) (hh:HsOK P cx.hs fs) (hfs:FsOK fs) {g:Operand} {ps:Array Tmp} {x y:Code} {lc:LC} (hc:Xf P nt (.rangeFunc g ps x y)=some lc) {n:List Nat} {ex:List (Nat×List Nat)} {rt:List Nat} {α:Type} {k:LE→Dn.S Ty.T→Option α} {r:α}
  {w:World} {S:Nat→Prop} {s:Dn.S Ty.T} {μ:Gh} {a:Act} {Q:Exit→Act→World→Prop} (h:RepF nt w S s μ a fs) (hd:denC mk cx base lc n ex rt val s k=some r)
  (hQ:∀e x a' w' S' μ' s',LE.is e x→RepF nt w' S' s' μ' a' fs→Evo w S (encH s) μ w' S' (encH s') μ'→k e s'=some r→Q x a' w'):(Code.rangeFunc g ps x y).wpIn (Fr ro) 0 P Q a w:=by
 simp only [Xf] at hc
 cases hg:cLO g with
 | none=>rw [hg] at hc;cases hc
 | some g' =>
  rw [hg] at hc
  simp only [Ag] at hc
  cases hx:Xf P nt x with
  | none=>rw [hx] at hc;cases hc
  | some lx =>
   rw [hx] at hc
   simp only [Ag] at hc
   cases hy:Xf P nt y with
   | none=>rw [hy] at hc;cases hc
   | some ly =>
    rw [hy] at hc
    simp only [Ag] at hc
    have hc:=Xx hc
    obtain ⟨hps,hc⟩:=hc
    injection hc with hc
    subst hc
    simp only [Af] at hps
    have hps1:∀t∈ps.toList,t<nt:=fun t ht=>by
     have:=Ap.1 hps.1 t ht
     have:t+1≤nt:=by simpa [Bl] using this
     exact this
    simp only [denC] at hd
    split at hd
    ·rename_i f caps hv
     have hd:=Jfg hd
     obtain ⟨⟨hrd,hble,hny⟩,hd⟩:=hd
     have hro:=hro hrd
     subst hro
     have hval:=Ji h.fr hg
     rw [Js,hv] at hval
     have hval:Rep w S (encH s) μ (.fn f (caps.map fun c=>.ptr c.1 c.2.1 c.2.2)) (a.eval g):=hval
     obtain ⟨cs,ea,c1,c2⟩:=hval.fn_inv
     have hlen:=h.len
     refine wpIn_rangeFunc fun fn _=>?_
     obtain ⟨rc,hrc⟩:∃rc:Loop,rc={ state:=.ready,pending:=none,fn,tmps:=a.tmps,params:=ps,assign:=x,body:=y,defers:=w.heap.size }:=⟨_,rfl⟩
     obtain ⟨w1,hw1⟩:∃w1:World,w1=(w.alloc (.deferred (some []))).alloc (.loop rc):=⟨_,rfl⟩
     obtain ⟨a1,ha1⟩:∃a1:Act,a1={ a with defers:=[{ target:=.collected w.heap.size,args:=#[] }]++a.defers }:=⟨_,rfl⟩
     obtain ⟨hfk,hcl⟩:=hI _ hd
     have hF1:RepF nt w1 S s μ a fs:=hw1▸(h.lay _).lay _
     have ev1:Evo w S (encH s) μ w1 S (encH s) μ:=hw1▸(Jcm _).trans (Jcm _)
     have hb0:w1.heap[w.heap.size]?=some (.deferred (some [])):=by
      rw [hw1,(Je0 _).keep _ (by simp)]
      exact World.alloc_heap_new w _
     have hl0:w1.heap[w.heap.size+1]?=some (.loop rc):=by
      have:=World.alloc_heap_new (w.alloc (.deferred (some []))) (.loop rc)
      rw [World.size_alloc] at this
      rw [hw1]
      exact this
     have hfresh:∀d∈a.defers,d≠{ target:=.collected w.heap.size,args:=#[] }:=fun d hd e=>by
      obtain ⟨q,e2,hq,-⟩:=h.fr.df.2 d hd
      rw [e2] at e
      injection e with e
      injection e with e
      have:=(Array.getElem?_eq_some_iff.1 hq).1
      omega
     have hF1':RepF nt w1 S s μ a1 fs:=by
      rw [ha1]
      refine ⟨⟨hF1.fr.fr,hF1.fr.hp,⟨Bj.2 ⟨fun q=>hfresh _ q rfl,hF1.fr.df.1⟩,fun d hd=>?_⟩,hF1.fr.sz⟩,hF1.len,hF1.lo,hF1.sz,?_,hF1.lp,hF1.iv⟩
      ·rcases Ae.1 hd with hd|hd
       ·exact ⟨_,hd,hb0,fun q=>by have:=h.fr.hp.lt _ q;omega⟩
       ·exact hF1.fr.df.2 d hd
      ·cases fs with
       | nil=>trivial
       | cons f fs =>
        refine ⟨fun d hd=>?_,h.md.2⟩
        rcases Ae.1 hd with hd|hd
        ·exact ⟨_,hd,(h.sz f Ab).2.2⟩
        ·exact h.md.1 d hd
     have hlow:∀p∈fs,∀i q,p.lo=some (i,q)→i≠s.lo.length∧μ.l i≠w.heap.size+1:=fun p hp i q hi=>by
      obtain ⟨pre,post,e⟩:=Bc hp
      have h1:=hfs pre p post e i q hi
      have h2:fs.length=pre.length+(post.length+1):=by rw [e];simp
      have h3:=(Array.getElem?_eq_some_iff.1 (h.lp p hp i q hi).1).1
      omega
     have hF2:RepF nt w1 S s (Gh.lab μ s.lo.length (w.heap.size+1)) a1 fs:=hF1'.lab hny fun p hp i q hi=>(hlow p hp i q hi).1
     have hlab:(Gh.lab μ s.lo.length (w.heap.size+1)).l s.lo.length=w.heap.size+1:=Jc _ _ _
     have hnS:¬S (w.heap.size+1):=fun q=>by have:=h.fr.hp.lt _ q;omega
     have eh2:encH (s.push (Yj (adds ((Qn lx (Qn ly [] [] []) [] []).filter fun x=>!memN x ps.toList) n)) [])=encH s:=Xb rfl rfl
     have hps2:RepF 0 w1 S (s.push (Yj (adds ((Qn lx (Qn ly [] [] []) [] []).filter fun x=>!memN x ps.toList) n)) []) (Gh.lab μ s.lo.length (w.heap.size+1)) act0 (⟨nt,a1,some (s.lo.length,rc),w1.heap.size⟩::fs) :=
      hF2.push (fun p hp=>by cases hp) (fun i q hi=>by injection hi with hi;injection hi with e1 e2;subst e1;subst e2;rw [hlab];exact ⟨hl0,hnS,fun p' hp' i' q' hq' hne=>by simp only [Gh.lab,Jb _ _ _ _ hne];exact (hlow p' hp' i' q' hq').2⟩) (by
       rw [Jtn]
       have:encH (⟨[],kept s.sl (Yj (adds ((Qn lx (Qn ly [] [] []) [] []).filter fun x=>!memN x ps.toList) n))::s.lo,s.ob,s.ln,s.mo⟩:Dn.S Ty.T)=encH s:=Xb rfl rfl
       rw [this]
       exact rep0 hF2.fr.hp) rfl
     have hhs:HsOK P ((s.lo.length,⟨base,ps.toList,lx,ly⟩)::cx.hs) (⟨nt,a1,some (s.lo.length,rc),w1.heap.size⟩::fs):=by
      intro i hd' hi
      rw [Ju] at hi
      split at hi
      ·rename_i e
       injection hi with hi
       subst hi
       subst e
       exact ⟨[],_,fs,rc,rfl,hlen,rfl,by rw [hrc],by rw [hrc],by rw [hrc,ha1],by rw [hrc],by rw [hrc];exact hx,by rw [hrc];exact hy,hps1,zi hps.2⟩
      ·exact (hh.push _) i hd' hi
     have hfs2:FsOK (⟨nt,a1,some (s.lo.length,rc),w1.heap.size⟩::fs):=hfs.push fun i q hi=>by injection hi with hi;injection hi with e1 e2;rw [←e1,hlen]
     have hyl:Rep w1 S (encH s) (Gh.lab μ s.lo.length (w.heap.size+1)) (.yld s.lo.length) (.func (.yield (w.heap.size+1)) #[] #[]):=by
      have:=Rep.yld (w:=w1) (S:=S) (h:=encH s) (μ:=Gh.lab μ s.lo.length (w.heap.size+1)) s.lo.length
      rw [hlab] at this
      exact this
     obtain ⟨as1,as2⟩:=Jr8 (s:=s) c1 c2 (fun {g v o cv} hr=>Jcf (s:=s) (j:=s.lo.length) (x:=w.heap.size+1) (c:=.ptr g v o) rfl (hr.evo h.fr.hp ev1 (.refl _ _))) hyl
     have okf:okC s (.fn f caps):=by
      have:=Jaf h.iv g'
      rw [hv] at this
      exact this _ (Ad.2 rfl)
     have okv:∀v∈(V.c (ι:=Ty.T) (.yl s.lo.length)::caps.map fun c=>V.c (C.ptr c.1 c.2.1 c.2.2)),okV s v:=fun v hv=>by
      rcases Ae.1 hv with rfl|hv
      ·exact Km (Jo s rfl)
      ·obtain ⟨c,hc,rfl⟩:=Ak.1 hv
       refine Km fun r hr=>?_
       have:=Ad.1 hr
       subst this
       exact okf (c.1,c.2.1) (Ak.2 ⟨c,hc,rfl⟩)
     have hcs:=(hcl hps2 hhs hfs2 okv as1 (fun i x hx=>by rw [eh2];exact as2 i x hx _) (R:=rangePost (Fr none) 0 P (w.heap.size+1) Q a1) rfl fun w' S' μ' v s' cv r1 r2 r3 r4 r5=>?_).1 hble
     ·have hres:(resolve a.eval (rangeCall g (w.heap.size+1)) 0).run P w1=.ok { target:=.fn (.func f) cs,args:=#[.func (.yield (w.heap.size+1)) #[] #[]] } w1:=by
       have e1:resolve a.eval (rangeCall g (w.heap.size+1)) 0=Deferred.ofValue (a.eval g) #[.func (.yield (w.heap.size+1)) #[] #[]]:=by simp [resolve,rangeCall,Act.eval]
       rw [e1,ea]
       rfl
      have hent:(Instr.enterLoop fn a.tmps ps x y (Fr none).round).run P w=.ok (w.heap.size+1,[{ target:=.collected w.heap.size,args:=#[] }]) w1:=by
       rw [hw1,hrc]
       exact run_enterLoop_outer fn a.tmps ps x y
      rw [ha1] at hcs
      exact ⟨w.heap.size+1,[{ target:=.collected w.heap.size,args:=#[] }],w1,_,w1,f,_,w1,hent,hres,fun _ _=>trivial,J0 (hfk hble) _ _,fun q=>(by cases q),Jpl hcs⟩
     ·-- the function has returned
      have hl1:w'.heap[w.heap.size+1]?=some (.loop rc):=(r4.keep _ (Array.getElem?_eq_some_iff.1 hl0).1 (hps2.fr.hp.no_own hl0 (by intros;simp) (by intros;simp))).trans hl0
      have hnS':¬S' (w.heap.size+1):=fun q=>by
       rcases r4.st2 _ q with q|q|q
       ·exact hnS q
       ·have:=(Array.getElem?_eq_some_iff.1 hl0).1;omega
       ·exact hps2.fr.hp.no_own hl0 (by intros;simp) (by intros;simp) q
      have r5:=Jfg r5
      obtain ⟨hny',r5⟩:=r5
      have hμ:Gh.lab μ' s.lo.length (μ.l s.lo.length)=⟨μ'.b,μ'.o,μ.l⟩:=by
       unfold Gh.lab
       congr 1
       funext i
       rw [r4.lp]
       simp only [Gh.lab,upd]
       split
       ·rename_i e;rw [e]
       ·rfl
      have r1':RepF nt w' S' s' ⟨μ'.b,μ'.o,μ.l⟩ a1 fs:=hμ▸r1.lab hny' fun p hp i q hi=>(hlow p hp i q hi).1
      have r1'':=r1'.putL hl1 hnS' (fun p hp i q hi=>(hlow p hp i q hi).2) (.loop { rc with state:=.exhausted })
      refine ⟨none,w'.putObj (w.heap.size+1) (.loop { rc with state:=.exhausted }),?_,?_⟩
      ·have hp:rc.pending=none:=by rw [hrc]
       have:=run_endLoop (P:=P) hl1 (by rw [hrc];intro q;cases q)
       rw [this,hp]
      have ev2:Evo w S (encH s) μ w' S' (encH s') ⟨μ'.b,μ'.o,μ.l⟩:=ev1.trans (by have:=evo_lab μ.l r4;rw [eh2] at this;exact this)
      refine hQ .normal .normal _ _ _ _ _ trivial r1'' ⟨ev2.os,ev2.tape,ev2.output,by simpa using ev2.size,fun b hb hn=>(Kv (by omega)).trans (ev2.keep b hb hn),fun b cs el z hc=>?_,ev2.st,ev2.st2,ev2.ow,ev2.lp⟩ r5
      obtain ⟨cs',q1,q2⟩:=ev2.shape b cs el z hc
      exact ⟨cs',(Kv (by have:=(Array.getElem?_eq_some_iff.1 hc).1;omega)).trans q1,q2⟩
    ·cases hd
theorem Jgs (cx:Cx):∀l:List (Nat×LOper),(Jj0 cx l).1++(Jj0 cx l).2=l
 | []=>rfl
 | p::r=>by
  have ih:=Jgs cx r
  simp only [Jj0]
  split
  ·rfl
  ·simp only [List.cons_append,ih]
theorem Q9 {P:Program} {b:Frame} {a:Act} {k:List Item} {cs:List Frame} {w:World} {c:Code}:step P (lone (b.atR a (.code (.scope c)::k)) cs w)=.next (lone (b.atR a (.code c::.inScope c::k)) cs w) :=
 step_lone_go (by simp [stepG,stepG.exec,Frame.atR])
theorem Jje {P:Program} {b:Frame} {a:Act} {k:List Item} {cs:List Frame} {w:World} {c:Code}:step P (lone (b.atR a (.inScope c::k)) cs w)=.next (lone (b.atR a k) cs w) :=
 step_lone_go (by simp [stepG,stepG.exec,Frame.atR])
theorem Jrb {F:Fence} {n:Nat} {P:Program} {Q:Exit→Act→World→Prop} {a:Act} {w:World} {c:Code} (h:c.wpIn F n P (Exit.noGoto Q) a w):(Code.scope c).wpIn F n P Q a w:=by
 intro b k cs hro hb hr
 have h0:(lone (b.atR a (.code (.scope c)::k)) cs w).fenced P F:=fenced_calm hb hr rfl
 obtain ⟨e,a₁,w₁,hq,harr⟩:=h b (.inScope c::k) cs hro hb hr
 cases e with
 | normal=>exact ⟨.normal,a₁,w₁,hq,.head h0 Q9 (StepsIn.trans harr (.one (fenced_calm hb hr rfl) Jje))⟩
 | exit id =>
  have hx:exitTo id (.inScope c::k)=exitTo id k:=by simp [exitTo]
  exact ⟨.exit id,a₁,w₁,hq,fun k' hk=>.head h0 Q9 (harr.1 k' (by rw [hx];exact hk)),fun hr' hk=>let ⟨k₁,h1,h2⟩:=harr.2 hr' (by rw [hx];exact hk);⟨k₁,h1,.head h0 Q9 h2⟩⟩
 | goto l=>exact hq.elim
 | ret=>exact ⟨_,a₁,w₁,hq,.of_steps (.one h0 Q9) harr⟩
 | panic ch=>exact ⟨_,a₁,w₁,hq,.of_steps (.one h0 Q9) harr⟩
 | outgrown=>exact ⟨_,a₁,w₁,hq,.of_steps (.one h0 Q9) harr⟩
theorem den_wp (hC:Ql call cx.ct) (hcall:Xo P call) (hI:∀hs,Job P hs (mk { cx with hs:=hs,rd:=false })) (hm:P.follows .mixedOrders=true) (hso:SoOK P cx) (hro:cx.rd=false→ro=none) (hh:HsOK P cx.hs fs) (hfs:FsOK fs):∀(c:Code) {lc:LC} (hc:Xf P nt c=some lc) {n:List Nat} {ex:List (Nat×List Nat)} {rt:List Nat} {α:Type} {k:LE→Dn.S Ty.T→Option α} {r:α}
  {w:World} {S:Nat→Prop} {s:Dn.S Ty.T} {μ:Gh} {a:Act} {Q:Exit→Act→World→Prop},RepF nt w S s μ a fs→denC mk cx base lc n ex rt val s k=some r →
  (∀e x a' w' S' μ' s',LE.is e x→RepF nt w' S' s' μ' a' fs→Evo w S (encH s) μ w' S' (encH s') μ'→k e s'=some r→Q x a' w')→c.wpIn (Fr ro) 0 P Q a w:=by
 intro c
 induction c with
 | skip =>
  intro lc hc n ex rt α k r w S s μ a Q h hd hQ
  injection hc with hc
  subst hc
  exact Go.wpIn_skip (hQ .normal .normal _ _ _ _ _ trivial h .refl hd)
 | region id ops draw =>
  intro lc hc n ex rt α k r w S s μ a Q h hd hQ
  simp only [Xf] at hc
  obtain ⟨L,hL,rfl⟩:=K0 hc
  simp only [denC] at hd
  have fin:∀ {a' w' S' μ' s'},RepF nt w' S' s' μ' a' fs→Evo w S (encH s) μ w' S' (encH s') μ'→k .normal (Jhk val cx.ty (cx.keep id) s.ob.length s')=some r→Q .normal a' w':=fun r1 r2 r3=>by
   obtain ⟨S2,μ2,q1,q2⟩:=Jtc cx.ty (cx.keep id) s.ob.length r1
   exact hQ .normal .normal _ _ _ _ _ trivial q1 (r2.trans q2) r3
  cases draw with
  | true =>
   rw [if_pos rfl] at hd
   split at hd
   ·refine draw_den hC hcall hm h hL hd (fun L' L2 s' hk=>?_) fun a' w' S' μ' s' L' L2 r1 r2 r3=>?_
    ·split at hk
     ·rename_i hb
      rcases Bool.or_eq_true_iff.1 hb with q|q
      ·exact .inl q
      ·exact .inr q
     ·cases hk
    ·split at r3
     ·exact fin r1 r2 r3
     ·cases r3
   ·rename_i A p R hsp
    have hAB:L=A++(p::R):=by rw [←Jgs cx L,hsp]
    rw [hAB] at hL
    refine Jsr hC hcall hm h hL hd (fun L' L2 s' hk=>?_) fun a' w' S' μ' s' L' L2 os r1 r2 r3 r4 r5=>?_
    ·split at hk
     ·assumption
     ·cases hk
    ·split at r3
     ·exact Jmy hC hcall (hI cx.hs) hso hh hfs r4 r5 r1 r3 fun a2 w2 S2 μ2 s2 q1 q2 q3=>fin q1 (r2.trans q2) q3
     ·cases r3
  | false =>
   rw [if_neg (by decide)] at hd
   refine wpIn_region_list (Jmy hC hcall (hI cx.hs) hso hh hfs hL ?_ h hd fun a' w' S' μ' s' r1 r2 r3=>fin r1 r2 r3)
   apply List.ext_getElem?
   intro i
   simp only [Ac,Array.getElem?_toList]
   by_cases hi:i<ops.size
   ·rw [List.getElem?_range hi]
    simp [hi]
   ·rw [List.getElem?_eq_none (by simpa using hi)]
    simp [hi]
 | seq x y ihx ihy =>
  intro lc hc n ex rt α k r w S s μ a Q h hd hQ
  simp only [Xf] at hc
  cases hks:Jlt P nt x y with
  | some lk =>
   rw [hks] at hc
   injection hc with hc
   subst hc
   obtain ⟨i5,el,by',rfl,-,-⟩:=Ju2 (P:=P) (ro:=ro) hks
   simp only [denC] at hd
   exact keys_den hks h hd fun a' w' S' μ' s' r1 r2 r3=>hQ .normal .normal _ _ _ _ _ trivial r1 r2 r3
  | none =>
  rw [hks] at hc
  simp only at hc
  cases hx:Xf P nt x with
  | none=>rw [hx] at hc;cases hc
  | some lx =>
   rw [hx] at hc
   simp only [Ag] at hc
   obtain ⟨ly,hy,rfl⟩:=K0 hc
   simp only [denC] at hd
   split at hd
   case h_2 =>
    generalize joinX (denC mk cx base lx (Qn ly n ex rt) ex rt (α:=Unit) stat (erS s) fun e s'=>[(e,Jam stat (Jc9 (Yj (Qn ly n ex rt)) ex rt e) s')])=xs at hd
    replace hd:Jas (denC mk cx base lx (Qn ly n ex rt) ex rt val s fun e s'=>exIn (dL wv) xs e (Jam val (Jc9 (Yj (Qn ly n ex rt)) ex rt e) s')) (Jrl (fun e s'=>match e with|.normal=>denC mk cx base ly n ex rt val s' k|e=>k e s') xs)=some r:=hd
    obtain ⟨e0,hb,hex⟩:=Jcs hd
    refine wpIn_seq (ihx hx h hb fun e x' a' w' S' μ' s' is r1 r2 r3=>?_)
    obtain ⟨S3,μ3,d1,d2⟩:=Jif (Jc9 (Yj (Qn ly n ex rt)) ex rt e) r1
    obtain ⟨p,hp,g1,g2⟩:=Jdg r3 hex
    obtain ⟨S4,μ4,d3,d4⟩:=Jkj d1 g1
    cases e with
    | normal =>
     cases x'<;>simp only [LE.is] at is
     exact ihy hy d3 g2 fun e2 x2 a2 w2 S2 μ2 s2 is2 q1 q2 q3=>hQ e2 x2 _ _ _ _ _ is2 q1 (r2.trans (d2.trans (d4.trans q2))) q3
    | exit i =>
     cases x'<;>simp only [LE.is] at is
     subst is
     exact hQ (.exit i) (.exit i) _ _ _ _ _ rfl d3 (r2.trans (d2.trans d4)) g2
    | ret =>
     cases x'<;>simp only [LE.is] at is
     exact hQ .ret .ret _ _ _ _ _ trivial d3 (r2.trans (d2.trans d4)) g2
   refine wpIn_seq (ihx hx h hd fun e x' a' w' S' μ' s' is r1 r2 r3=>?_)
   cases e with
   | normal =>
    cases x'<;>simp only [LE.is] at is
    exact ihy hy r1 r3 fun e2 x2 a2 w2 S2 μ2 s2 is2 q1 q2 q3=>hQ e2 x2 _ _ _ _ _ is2 q1 (r2.trans q2) q3
   | exit i =>
    cases x'<;>simp only [LE.is] at is
    subst is
    exact hQ (.exit i) (.exit i) _ _ _ _ _ rfl r1 r2 r3
   | ret =>
    cases x'<;>simp only [LE.is] at is
    exact hQ .ret .ret _ _ _ _ _ trivial r1 r2 r3
 | cond c x y ihx ihy =>
  intro lc hc n ex rt α k r w S s μ a Q h hd hQ
  simp only [Xf] at hc
  cases hcc:cLO c with
  | none=>rw [hcc] at hc;cases hc
  | some c' =>
   rw [hcc] at hc
   simp only [Ag] at hc
   cases hx:Xf P nt x with
   | none=>rw [hx] at hc;cases hc
   | some lx =>
    rw [hx] at hc
    simp only [Ag] at hc
    obtain ⟨ly,hy,rfl⟩:=K0 hc
    simp only [denC] at hd
    have hb:=Ji h.fr hcc
    rw [Js] at hb
    split at hd
    ·rename_i t ht
     rw [ht] at hb
     have hb:Rep w S (encH s) μ (.bool t) (a.eval c):=hb
     refine wpIn_cond hb.bool_inv ?_
     cases t with
     | true=>rw [if_pos rfl] at hd ⊢;exact ihx hx h hd hQ
     | false=>rw [if_neg (by decide)] at hd ⊢;exact ihy hy h hd hQ
    ·rename_i t ht
     rw [ht] at hb
     obtain ⟨t,rfl⟩:∃T:Bool,(show Ty.T .bool from T)=t:=⟨t,rfl⟩
     have hb:Rep w S (encH s) μ (.bool t) (a.eval c):=hb
     refine wpIn_cond hb.bool_inv ?_
     split at hd
     ·rename_i d
      have hf:∀q:Bool,(t:Bool)=q→(enc s).f d=.bool q:=fun q e=>by
       have:s.at d=.c (.lf .bool t):=ht
       rw [Jon this,←e];rfl
      have al:∀q:Bool,(t:Bool)=q→RepF nt w S (s.put (some d) (.c (.kb q))) μ a fs:=fun q e=>h.alike (Zq (hf q e)) (.put s _ _) (h.iv.put okKb _)
      have eh:∀q:Bool,encH (s.put (some d) (.c (.kb q)))=encH s:=fun q=>Zz _ _ _
      rcases X9 hd with ⟨e,hd⟩|⟨e,hd⟩
      ·have e:t=true:=e
       rw [if_pos e]
       exact ihx hx (al true e) hd fun e2 x2 a2 w2 S2 μ2 s2 is2 q1 q2 q3=>hQ e2 x2 _ _ _ _ _ is2 q1 (by rw [eh] at q2;exact q2) q3
      ·have e:t=false:=e
       rw [if_neg (by rw [e];decide)]
       exact ihy hy (al false e) hd fun e2 x2 a2 w2 S2 μ2 s2 is2 q1 q2 q3=>hQ e2 x2 _ _ _ _ _ is2 q1 (by rw [eh] at q2;exact q2) q3
     ·cases hd
    ·cases hd
 | scope b ih =>
  intro lc hc n ex rt α k r w S s μ a Q h hd hQ
  simp only [Xf] at hc
  refine Jrb (ih hc h hd fun e x a' w' S' μ' s' is r1 r2 r3=>?_)
  have:=hQ e x a' w' S' μ' s' is r1 r2 r3
  cases x<;>first|exact this|(cases e<;>cases is)
 | label l =>
  intro lc hc n ex rt α k r w S s μ a Q h hd hQ
  simp only [Xf] at hc
  injection hc with hc
  subst hc
  exact Go.wpIn_label (hQ .normal .normal _ _ _ _ _ trivial h .refl hd)
 | block id b ih =>
  intro lc hc n ex rt α k r w S s μ a Q h hd hQ
  simp only [Xf] at hc
  obtain ⟨lb,hb,rfl⟩:=K0 hc
  simp only [denC] at hd
  refine wpIn_block (ih hb h hd fun e x a' w' S' μ' s' is r1 r2 r3=>?_)
  cases e with
  | normal =>
   cases x<;>simp only [LE.is] at is
   rw [if_neg (by intro q;cases q)] at r3
   exact hQ .normal .normal _ _ _ _ _ trivial r1 r2 r3
  | ret =>
   cases x<;>simp only [LE.is] at is
   rw [if_neg (by intro q;cases q)] at r3
   exact hQ .ret .ret _ _ _ _ _ trivial r1 r2 r3
  | exit i =>
   cases x<;>simp only [LE.is] at is
   subst is
   simp only [Exit.inBlock]
   by_cases hi:i=id
   ·subst hi
    rw [if_pos rfl] at r3 ⊢
    exact hQ .normal .normal _ _ _ _ _ trivial r1 r2 r3
   ·rw [if_neg (by intro q;injection q with q;exact hi q)] at r3
    rw [if_neg hi]
    exact hQ (.exit i) (.exit i) _ _ _ _ _ rfl r1 r2 r3
 | loop b ih =>
  intro lc hc n ex rt α k r w S s μ a Q h hd hQ
  simp only [Xf] at hc
  obtain ⟨lb,hb,rfl⟩:=K0 hc
  simp only [denC] at hd
  generalize fixS (fun sh=>denC mk cx base lb (Yj (Qn lb [] ex rt)) ex rt (α:=Unit) stat sh fun e s'=>[(e,Jam stat (Jc9 (Yj (Qn lb [] ex rt)) ex rt e) s')]) 4 (erS (Jam val (Yj (Qn lb [] ex rt)) s))=fx at hd
  obtain ⟨sh,xs⟩:=fx
  simp only at hd
  generalize hh:Yj (Qn lb [] ex rt)=hk at hd
  replace hd:loopV wv (dL wv) sh xs (fun e s'=>Jam val (Jc9 hk ex rt e) s') (fun s' k'=>denC mk cx base lb hk ex rt val s' k') (Jam val hk s) k=some r:=hd
  unfold loopV at hd
  split at hd
  ·cases hd
  ·rename_i h0 hf0
   generalize hB:(fun h=>denC mk cx base lb hk ex rt val (sh.mk' h) fun e s'=>(match e with
    | .normal=>(sh.fit (dL wv) (Jam val (Jc9 hk ex rt .normal) s')).map Nx.go
    | e=>(exIn (dL wv) xs e (Jam val (Jc9 hk ex rt e) s')).map Nx.out:Option (Nx (HL Ty.T sh.lt) (Ex Ty.T xs))))=B
   have hd:Jas (K3 B bigN h0) (Jrl k xs)=some r:=by rw [←hB];exact hd
   obtain ⟨e,hl,hex⟩:=Jcs hd
   obtain ⟨S0,μ0,c1,c2⟩:=Jif hk h
   obtain ⟨S1,μ1,c3,c4⟩:=Jkj c1 hf0
   let J:Nat→Act→World→Prop:=fun m a1 w1=>∃hm Sm μm,K3 B m hm=some e∧RepF nt w1 Sm (sh.mk' hm) μm a1 fs∧Evo w S (encH s) μ w1 Sm (encH (sh.mk' hm)) μm
   refine wpIn_loop (fun a1 w1=>∃m,J m a1 w1) (fun a1 w1=>leastOf fun m=>J m a1 w1) ⟨bigN,h0,S1,μ1,hl,c3,c2.trans c4⟩ fun a1 w1 hI'=>?_
   have hmin:=(Jc1 hI').1
   generalize (leastOf fun m=>J m a1 w1)=m at hmin ⊢
   obtain ⟨hm',Sm,μm,j1,j2,j3⟩:=hmin
   cases m with
   | zero=>cases j1
   | succ m =>
    simp only [K3] at j1
    cases hBm:B hm' with
    | none=>rw [hBm] at j1;cases j1
    | some nx =>
     rw [hBm] at j1
     have hbd:=hBm
     rw [←hB] at hbd
     refine ih hb j2 hbd fun e1 x1 a2 w2 S2 μ2 s2 is q1 q2 q3=>?_
     obtain ⟨S3,μ3,d1,d2⟩:=Jif (Jc9 hk ex rt e1) q1
     cases e1 with
     | normal =>
      cases x1<;>simp only [LE.is] at is
      obtain ⟨h',hf',rfl⟩:=K0 q3
      obtain ⟨S4,μ4,d3,d4⟩:=Jkj d1 hf'
      simp only [Exit.then]
      have hJ:J m a2 w2:=⟨h',S4,μ4,j1,d3,j3.trans (q2.trans (d2.trans d4))⟩
      exact ⟨⟨m,hJ⟩,Nat.lt_succ_of_le ((Jc1 ⟨m,hJ⟩).2 m hJ)⟩
     | exit i =>
      cases x1<;>simp only [LE.is] at is
      subst is
      obtain ⟨h',hf',rfl⟩:=K0 q3
      injection j1 with j1
      subst j1
      obtain ⟨p,hp,g1,g2⟩:=Jdg hf' hex
      obtain ⟨S4,μ4,d3,d4⟩:=Jkj d1 g1
      exact hQ (.exit i) (.exit i) _ _ _ _ _ rfl d3 (j3.trans (q2.trans (d2.trans d4))) g2
     | ret =>
      cases x1<;>simp only [LE.is] at is
      obtain ⟨h',hf',rfl⟩:=K0 q3
      injection j1 with j1
      subst j1
      obtain ⟨p,hp,g1,g2⟩:=Jdg hf' hex
      obtain ⟨S4,μ4,d3,d4⟩:=Jkj d1 g1
      exact hQ .ret .ret _ _ _ _ _ trivial d3 (j3.trans (q2.trans (d2.trans d4))) g2
 | exit id =>
  intro lc hc n ex rt α k r w S s μ a Q h hd hQ
  injection hc with hc
  subst hc
  exact wpIn_exit (hQ (.exit id) (.exit id) _ _ _ _ _ rfl h .refl hd)
 | ret =>
  intro lc hc n ex rt α k r w S s μ a Q h hd hQ
  injection hc with hc
  subst hc
  exact wpIn_ret (hQ .ret .ret _ _ _ _ _ trivial h .refl hd)
 | rangeFunc g ps x y ihx ihy =>
  intro lc hc n ex rt α k r w S s μ a Q h hd hQ
  exact rng_den hC hcall hI hso hro hh hfs hc h hd hQ
 | _=>intro lc hc;cases hc
end
end Go.Dn
namespace Go.Dn
open Go Go.Vv
set_option linter.unusedVariables false
set_option linter.unusedSimpArgs false
def Jk4 (a:Act):ResultVar→Sem Value
 | .tmp t=>pure (a.tmps.getD t undef)
 | .cell b t=>do loadVar t (←asAddr (a.tmps.getD b undef))
section
variable {P:Program} {w:World} {S:Nat→Prop} {σ:St} {μ:Gh} {a:Act} {nt:Nat}
theorem Jwg (hs:RepS nt w S σ μ a):∀ {l:List ResultVar} {rs:List RV} {vs:List AV},mapL (Jgx P) l=some rs→rs.mapM (RV.get σ)=some vs →
  ∃cs:List Value,(l.mapM (Jk4 a)).run P w=.ok cs w∧cs.length=vs.length∧∀i x,vs[i]?=some x→Rep w S σ.h μ x (cs.getD i undef)
 | [],rs,vs,hc,hv=>by
  injection hc with hc
  subst hc
  simp at hv
  subst hv
  exact ⟨[],by simp,rfl,fun i x hi=>by simp at hi⟩
 | r::l,rs,vs,hc,hv=>by
  simp only [mapL] at hc
  cases hx:Jgx P r with
  | none=>rw [hx] at hc;cases hc
  | some x =>
   rw [hx] at hc
   simp only [Ag] at hc
   obtain ⟨m,hm,rfl⟩:=K0 hc
   rw [Bb] at hv
   cases hgx:RV.get σ x with
   | none=>rw [hgx] at hv;cases hv
   | some v =>
    cases hgm:m.mapM (RV.get σ) with
    | none=>rw [hgx,hgm] at hv;cases hv
    | some us =>
     rw [hgx,hgm] at hv
     injection hv with hv
     subst hv
     obtain ⟨cs,h1,h2,h3⟩:=Jwg hs hm hgm
     have one:∃cv,(Jk4 a r).run P w=.ok cv w∧Rep w S σ.h μ v cv:=by
      cases r with
      | tmp t =>
       simp [Jgx] at hx
       subst hx
       simp [RV.get] at hgx
       subst hgx
       exact ⟨_,by simp [Jk4],hs.fr t⟩
      | cell b t =>
       simp only [Jgx] at hx
       cases hag:aggT P t with
       | none=>rw [hag] at hx;cases hx
       | some ag =>
        cases hn:szT P t with
        | none=>rw [hag,hn] at hx;cases hx
        | some n =>
         rw [hag,hn] at hx
         simp only [Ag] at hx
         have hx:=Xx hx
         obtain ⟨hone,hx⟩:=hx
         injection hx with hx
         subst hx
         simp only [RV.get] at hgx
         have hd:∃ad,a.tmps.getD b undef=.pointer (some ad):=by
          unfold Yk at hgx
          split at hgx
          ·rename_i l' off hd
           obtain ⟨ad,e,_⟩:=Jfd hs.hp (hs.fr b) hd
           exact ⟨ad,e⟩
          ·cases hgx
         obtain ⟨ad,e⟩:=hd
         obtain ⟨cv,r1,r2⟩:=Y4 (P:=P) hs.hp hag hn hone (hs.fr b) hgx
         refine ⟨cv,?_,r2⟩
         rw [e] at r1
         simp only [Jk4,e]
         simpa [Instr.loadAt,Instr.sureAddr,asAddr] using r1
     obtain ⟨cv,o1,o2⟩:=one
     refine ⟨cv::cs,?_,by simp [h2],fun i y hi=>?_⟩
     ·rw [Bb]
      simp only [Sem.run_bind,o1,h1,Result.andThen_ok,Sem.run_pure]
     ·cases i with
      | zero=>simp at hi;subst hi;simpa using o2
      | succ i=>simpa using h3 i y (by simpa using hi)
theorem Je9 {s:Dn.S Ty.T} (hi:Inv s) {α:Type} {r:α}:∀ {rs:List RV} {k:List (V Ty.T)→Option α},resD val s rs k=some r→∃l,rs.mapM (RV.get (enc s))=some (l.map (encV s))∧(∀v∈l,okV s v)∧k l=some r
 | [],k,h=>⟨[],rfl,fun v hv=>(by cases hv),h⟩
 | .tmp t::rs,k,h=>by
  simp only [resD] at h
  obtain ⟨l,a,b,c⟩:=Je9 hi h
  refine ⟨s.at t::l,?_,fun v hv=>?_,c⟩
  ·rw [Bb,a];rfl
  ·rcases Ae.1 hv with rfl|hv
   ·exact hi.at t
   ·exact b v hv
 | .cell t ag n::rs,k,h=>by
  simp only [resD] at h
  obtain ⟨v,v1,v2,h⟩:=Jov hi (hi.at t) h
  obtain ⟨l,a,b,c⟩:=Je9 hi h
  refine ⟨v::l,?_,fun u hu=>?_,c⟩
  ·rw [Bb,a]
   have:RV.get (enc s) (.cell t ag n)=some (encV s v):=v1
   rw [this]
   rfl
  ·rcases Ae.1 hu with rfl|hu
   ·exact v2
   ·exact b u hu
theorem Ju6 (s:Dn.S Ty.T) (l:List (V Ty.T)) (ok:∀v∈l,okV s v) {cs:List Value} (hl:cs.length=l.length) (hr:∀(i:Nat) (x:AV),(l.map (encV s))[i]?=some x→Rep w S (encH s) μ x (cs.getD i undef)) :
  okV s (Jmc l)∧Rep w S (encH s) μ (encV s (Jmc l)) (if h:cs.toArray.size=1 then cs.toArray[0] else .tuple cs.toArray):=by
 have tp:okV s (.tp (l.map V.toP))∧Rep w S (encH s) μ (encV s (.tp (l.map V.toP))) (.tuple cs.toArray):=by
  refine ⟨fun c hc=>?_,?_⟩
  ·simp only [V.all,List.mem_flatMap,Ak] at hc
   obtain ⟨p,⟨v,hv,rfl⟩,hc⟩:=hc
   cases v with
   | c x=>exact ok _ hv c hc
   | ag l=>exact ok _ hv c hc
   | tp l=>cases hc
  ·refine .tup _ _ (by simp [hl]) fun i x hx=>?_
   rw [Ac,Ac] at hx
   cases hv:l[i]? with
   | none=>rw [hv] at hx;cases hx
   | some v =>
    rw [hv] at hx
    injection hx with hx
    have:=hr i (encV s v) (by rw [Ac,hv];rfl)
    have e:cs.toArray.getD i undef=cs.getD i undef:=by simp
    rw [e,←hx]
    cases v with
    | c y=>exact this
    | ag m=>exact this
    | tp m=>exact .any _
 match l,hl,tp with
 | [],hl,tp =>
  have:cs=[]:=Ah hl
  subst this
  exact ⟨tp.1,tp.2⟩
 | [v],hl,tp =>
  match cs,hl with
  | [c],_=>exact ⟨ok v (Ad.2 rfl),by simpa [Jmc] using hr 0 _ rfl⟩
 | u::v::m,hl,tp =>
  have hsz:¬cs.toArray.size=1:=by simp at hl ⊢;omega
  rw [dif_neg hsz]
  exact tp
theorem Jnk {s:Dn.S Ty.T} (hs:RepS nt w S (enc s) μ a) (hi:Inv s) {fn:Func} {rs:List RV} {α:Type} {r:α} {k:List (V Ty.T)→Option α} (hc:mapL (Jgx P) fn.results.toList=some rs) (hv:resD val s rs k=some r) :
  ∃l cv,(results fn a.tmps).run P w=.ok cv w∧okV s (Jmc l)∧Rep w S (encH s) μ (encV s (Jmc l)) cv∧k l=some r:=by
 obtain ⟨l,a1,a2,a3⟩:=Je9 hi hv
 obtain ⟨cs,h1,h2,h3⟩:=Jwg hs hc a1
 obtain ⟨p1,p2⟩:=Ju6 (w:=w) (S:=S) (μ:=μ) s l a2 (by simpa using h2) h3
 refine ⟨l,_,?_,p1,p2,a3⟩
 have e:results fn a.tmps=(do let vs ←fn.results.mapM (Jk4 a);pure (if h:vs.size=1 then vs[0] else .tuple vs)):=by
  unfold results
  congr 2
 rw [e,Array.mapM_eq_mapM_toList]
 simp only [Sem.run_bind,Sem.run_map,h1,Result.andThen_ok,Sem.run_pure]
end
def Jmi (P:Program) (cx:Cx):Prop:=∀f lf,cx.code f=some lf→compF P f=some lf
theorem Jg9:∀ {vs:List (V Ty.T)} {j d:Nat},look d (Jf1 j vs)=if j≤d then vs[d - j]? else none
 | [],j,d=>by simp [Jf1,look]
 | v::r,j,d=>by
  simp only [Jf1]
  rw [Ju,Jg9]
  by_cases h1:j=d
  ·subst h1;simp
  ·rw [if_neg h1]
   by_cases h2:j≤d
   ·rw [if_pos (by omega),if_pos h2,show d - j=(d - (j+1))+1 by omega,Bh]
   ·rw [if_neg (by omega),if_neg h2]
theorem Jlb:∀ {vs:List (V Ty.T)} {j:Nat} {p:Nat×V Ty.T},p∈Jf1 j vs→p.2∈vs
 | [],j,p,h=>by cases h
 | v::r,j,p,h=>by
  rcases Ae.1 h with rfl|h
  ·exact Ab
  ·exact Aa _ (Jlb h)
structure Beh (D:Nat) (w w':World):Prop where
 os:w'.os=w.os
 tape:w'.tape=w.tape
 output:w'.output=w.output
 drawn:w'.drawn=w.drawn
 size:w'.heap.size=w.heap.size
 low:∀b,b<D→w'.heap[b]?=w.heap[b]?
 cells:∀(b:Nat) (cs:Array Value) (el:TypeId) (z:Nat×Nat),w.heap[b]?=some (.cells cs el z)→w'.heap[b]?=some (.cells cs el z)
theorem Beh.refl (D:Nat) (w:World):Beh D w w:=⟨rfl,rfl,rfl,rfl,rfl,fun _ _=>rfl,fun _ _ _ _ h=>h⟩
theorem Beh.trans {D:Nat} {a b c:World} (h:Beh D a b) (k:Beh D b c):Beh D a c :=
 ⟨k.os.trans h.os,k.tape.trans h.tape,k.output.trans h.output,k.drawn.trans h.drawn,k.size.trans h.size,fun b hb=>(k.low b hb).trans (h.low b hb),fun b cs el z hc=>k.cells b cs el z (h.cells b cs el z hc)⟩
theorem evo_beh {w w' w2:World} {S S':Nat→Prop} {h h':Heap} {μ μ':Gh} (ev:Evo w S h μ w' S' h' μ') (b:Beh w.heap.size w' w2):Evo w S h μ w2 S' h' μ' :=
 ⟨b.os.trans ev.os,b.tape.trans ev.tape,⟨b.output.trans ev.output.1,by rw [b.drawn];exact ev.output.2⟩,by rw [b.size];exact ev.size,fun k hk hn=>(b.low k hk).trans (ev.keep k hk hn),fun k cs el z hc=>by
  obtain ⟨cs',h1,h2⟩:=ev.shape k cs el z hc
  exact ⟨cs',b.cells _ _ _ _ h1,h2⟩,ev.st,ev.st2,ev.ow,ev.lp⟩
section
variable {P:Program} {nt:Nat} {S:Nat→Prop} {s:Dn.S Ty.T} {μ:Gh} {f:Fm} {fs:List Fm} {tmps:Array Value}
theorem Jcz {fn:Func} {R:Ending→World→Prop}:∀(ds:List Deferred) {w:World},RepF nt w S s μ { tmps:=tmps,defers:=ds } (f::fs) →
  (∀w2,RepF nt w2 S s μ { tmps:=tmps,defers:=[] } (f::fs)→Beh f.d w w2→LeavesIn (Fr none) 0 P fn tmps R [] .returning w2)→LeavesInM (Fr none) 0 P fn tmps R ds .returning w
 | [],w,h,hR=>hR w h (.refl _ _)
 | d::ds,w,h,hR=>by
  obtain ⟨r,e,hr,hs⟩:=h.fr.df.2 d Ab
  obtain ⟨q,e2,hq⟩:=h.md.1 d Ab
  have hqr:q=r:=by rw [e] at e2;injection e2 with e2;injection e2 with e2;exact e2.symm
  subst hqr
  have hnd:=Bj.1 h.fr.df.1
  have hnm:∀g ob,encH s g=some ob→ob.live=true→μ.b g≠q:=by
   rintro g ob ho hl rfl
   have:=h.fr.hp.ob g ob ho
   cases ob with
   | box v cells=>obtain ⟨cs,el,x,_⟩:=this;rw [hr] at x;cases x
   | arr v e t cells z=>obtain ⟨cs,x,_⟩:=this (J5.1 hl);rw [hr] at x;cases x
   | map v es z=>obtain ⟨es',clock,x,_⟩:=this;rw [hr] at x;cases x
  have mput:∀ {l:List Deferred},(({ target:=.collected q,args:=#[] }:Deferred)∉l)→Marks w S l→Marks (w.putObj q (.deferred none)) S l:=fun {l} hn hm=>⟨hm.1,fun x hx=>by
   obtain ⟨b,e1,hb,hb2⟩:=hm.2 x hx
   refine ⟨b,e1,(Kv fun e3=>hn ?_).trans hb,hb2⟩
   rw [←e3,←e1]
   exact hx⟩
  have h2:RepF nt (w.putObj q (.deferred none)) S s μ { tmps:=tmps,defers:=ds } (f::fs):=by
   refine ⟨⟨fun d=>Jay hs hnm (h.fr.fr d),Jqi hs hnm h.fr.hp,mput (e▸hnd.1) ⟨hnd.2,fun x hx=>h.fr.df.2 x (Aa _ hx)⟩,h.fr.sz⟩,h.len,fun i l' b h1 h2 d v hv=>Jay hs hnm (h.lo i l' b h1 h2 d v hv),
    fun p hp=>⟨mput (fun x=>?_) (h.sz p hp).1,(h.sz p hp).2.1,by simpa using (h.sz p hp).2.2⟩,⟨fun d hd=>h.md.1 d (Aa _ hd),h.md.2⟩,fun p hp j r hj=>?_,h.iv⟩
   ·have:=h.md.lt p hp q x
    omega
   ·obtain ⟨l1,l2,l3⟩:=h.lp p hp j r hj
    exact ⟨(Kv fun e=>by rw [e,hr] at l1;cases l1).trans l1,l2,l3⟩
  have b1:Beh f.d w (w.putObj q (.deferred none)):=⟨rfl,rfl,rfl,rfl,by simp,fun b hb=>Kv (by omega),fun b cs el z hc=>(Kv fun e=>by rw [e,hr] at hc;cases hc).trans hc⟩
  refine ⟨(by intro h;cases h),.inl ⟨q,w.putObj q (.deferred none),by rw [e],run_takeDeferred hr,Jcz ds h2 fun w2 hw2 hb=>hR w2 hw2 (b1.trans hb)⟩⟩
end
section
variable {P:Program} {call:Vv.Call} {cx:Cx} {mk:Cx→Inl}
theorem body_fn (hC:Ql call cx.ct) (hcall:Xo P call) (hm:P.follows .mixedOrders=true) (hso:SoOK P cx) (hcd:Jmi P cx) (hI:∀hs,Job P hs (mk { cx with hs:=hs,rd:=false })) (hrd:cx.rd=false)
  {α:Type} {f:FuncId} {base:Nat} {vs:List (V Ty.T)} {s:S Ty.T} {k:V Ty.T→S Ty.T→Option α} {r:α} (hb:Be yB f=false) (hd:Jjc mk cx val f base vs s k=some r) :
  FnOK P f∧∀ {n0:Nat} {w:World} {S:Nat→Prop} {μ:Gh} {a0:Act} {fr:Fm} {fs:List Fm} {cargs:Array Value},RepF n0 w S s μ a0 (fr::fs)→HsOK P cx.hs (fr::fs)→FsOK (fr::fs)→(∀v∈vs,okV s v)→cargs.size=vs.length →
   (∀(i:Nat) (x:V Ty.T),vs[i]?=some x→Rep w S (encH s) μ (encV s x) (cargs.getD i undef))→∀ {R:Ending→World→Prop},fr.d=w.heap.size →
   (∀w' S' μ' v s' cv,RepF fr.nt w' S' s' μ' fr.act fs→okV s' v→Rep w' S' (encH s') μ' (encV s' v) cv→Evo w S (encH s) μ w' S' (encH s') μ'→k v s'=some r→R (.returned cv) w')→Calls P f cargs w R:=by
 simp only [Jjc,hb] at hd
 cases hcf:cx.code f with
 | none=>rw [hcf] at hd;cases hd
 | some lf =>
  rw [hcf] at hd
  simp only at hd
  have h:=hcd f lf hcf
  unfold compF at h
  cases hf:P.funcs[f]? with
  | none=>rw [hf] at h;cases h
  | some fn =>
   rw [hf] at h
   simp only [Ag] at h
   cases hb:fn.body with
   | none=>rw [hb] at h;cases h
   | some c =>
    rw [hb] at h
    simp only [Ag] at h
    split at h
    ·cases h
    ·rename_i hname
     cases hlc:Xf P fn.ntmps c with
     | none=>rw [hlc] at h;cases h
     | some b =>
      rw [hlc] at h
      simp only [Ag] at h
      obtain ⟨rs,hrs,rfl⟩:=K0 h
      split at hd
      ·rename_i hnp
       refine ⟨⟨fn,hf,by rw [hb];rfl,by simpa using hname⟩,fun {n0 w S μ a0 fr fs cargs} hrep hh hfs okv hsz hargs {R} hd0 hR=>?_⟩
       have ho:encH (⟨Jf1 0 vs,s.lo,s.ob,s.ln,s.mo⟩:Dn.S Ty.T)=encH s:=Xb rfl rfl
       have hv:∀v,encV (⟨Jf1 0 vs,s.lo,s.ob,s.ln,s.mo⟩:Dn.S Ty.T) v=encV s v:=fun v=>Jfp rfl rfl v
       have hrs0:RepS fn.ntmps w S (enc (⟨Jf1 0 vs,s.lo,s.ob,s.ln,s.mo⟩:Dn.S Ty.T)) μ { tmps:=cargs++Array.replicate (fn.ntmps - cargs.size) undef,defers:=[] }:=by
        refine ⟨fun d=>?_,by show RepH w S (encH _) μ;rw [ho];exact hrep.fr.hp,.nil,by simp;omega⟩
        show Rep w S (encH _) μ (encV _ (Dn.S.at _ d)) _
        rw [ho]
        unfold Dn.S.at
        simp only [Jg9,Bq,if_true,Nat.sub_zero]
        cases hvd:vs[d]? with
        | none=>exact .any _
        | some v =>
         simp only
         rw [hv]
         have hlt:d<cargs.size:=by have:=(Ar.1 hvd).1;omega
         have e:(cargs++Array.replicate (fn.ntmps - cargs.size) undef).getD d undef=cargs.getD d undef:=by
          simp only [Array.getD_eq_getD_getElem?]
          rw [Array.getElem?_append_left hlt]
         rw [e]
         exact hargs d v hvd
       have hF:RepF fn.ntmps w S (⟨Jf1 0 vs,s.lo,s.ob,s.ln,s.mo⟩:Dn.S Ty.T) μ { tmps:=cargs++Array.replicate (fn.ntmps - cargs.size) undef,defers:=[] } (fr::fs) :=
        ⟨hrs0,hrep.len,fun i l b hl hb' d v hd'=>by rw [ho,hv];exact hrep.lo i l b hl hb' d v hd',hrep.sz,⟨fun d hd=>(by cases hd),hrep.md.2⟩,hrep.lp,⟨fun p hp=>okv _ (Jlb hp),hrep.iv.lo,hrep.iv.ob,hrep.iv.mo⟩⟩
       refine callsIn_wide.1 (callsIn_of_wp_marks (F:=Fr none) (n:=0) hf hb trivial (wpIn_mono (den_wp hC hcall hI hm hso (fun _=>rfl) hh hfs c hlc hF hd (Q:=bodyPostM (Fr none) 0 P fn R) fun e x a' w' S' μ' s' is r1 r2 r3=>?_) fun _ _ _ q=>q))
       have fin:resD val s' rs (fun l=>k (Jmc l) s'.pop)=some r→bodyPostM (Fr none) 0 P fn R .ret a' w':=fun h3=>by
        have r1':RepF fn.ntmps w' S' s' μ' { tmps:=a'.tmps,defers:=a'.defers } (fr::fs):=r1
        refine Jcz a'.defers r1' fun w2 r1 hbeh=>?_
        obtain ⟨l,cv,q1,q2,q3,q4⟩:=Jnk (P:=P) r1.fr r1.iv hrs h3
        have hp:=r1.pop
        have e1:s'.pop.ob=s'.ob∧s'.pop.ln=s'.ln:=by
         unfold Dn.S.pop
         split<;>exact ⟨rfl,rfl⟩
        rw [hd0] at hbeh
        refine ⟨cv,q1,hR w2 S' μ' (Jmc l) s'.pop cv hp (fun c hc=>?_) ?_ ?_ q4⟩
        ·have:=q2 c hc
         intro r hr
         rw [e1.1]
         exact this r hr
        ·rw [Xb e1.1 e1.2 (Jr3 _),Jfp e1.1 e1.2];exact q3
        ·rw [Xb e1.1 e1.2 (Jr3 _)]
         rw [ho] at r2
         exact evo_beh r2 hbeh
       cases e with
       | exit i=>cases r3
       | normal=>cases x<;>simp only [LE.is] at is;exact fin r3
       | ret=>cases x<;>simp only [LE.is] at is;exact fin r3
      ·cases hd
end
end Go.Dn
namespace Go.Dn
open Go Go.Vv
set_option linter.unusedVariables false
set_option linter.unusedSimpArgs false
theorem Jpz:∀(l:List (Nat×Value)) (T:Array Value) (d:Nat),(l.map (·.1)).Nodup→(∀p∈l,p.1<T.size) →
  (l.foldl (fun t p=>t.setIfInBounds p.1 p.2) T).size=T.size∧(l.foldl (fun t p=>t.setIfInBounds p.1 p.2) T).getD d undef=(match look d l with|some v=>v|none=>T.getD d undef)
 | [],T,d,_,_=>⟨rfl,rfl⟩
 | (p,v)::l,T,d,hn,hs=>by
  simp only [Aq,Bj] at hn
  obtain ⟨h1,h2⟩:=Jpz l (T.setIfInBounds p v) d hn.2 (fun x hx=>by simpa using hs x (Aa _ hx))
  simp only [List.foldl_cons]
  refine ⟨by rw [h1];simp,?_⟩
  rw [h2,Ju]
  by_cases hd:p=d
  ·subst hd
   rw [if_pos rfl]
   have:look p l=none:=by
    cases hl:look p l with
    | none=>rfl
    | some u=>exact (hn.1 (Ak.2 ⟨(p,u),Ko hl,rfl⟩)).elim
   rw [this]
   have:=hs (p,v) Ab
   simp at this
   simp [this]
  ·rw [if_neg hd]
   cases look d l with
   | some u=>rfl
   | none=>simp [Array.getD_eq_getD_getElem?,Array.getElem?_setIfInBounds_ne hd]
theorem Juv:∀(ps:List Nat) (vs:List (V Ty.T)) (cl:List Value),ps.length=vs.length→cl.length=vs.length→∀d,(look d (psSl ps vs)=none∧look d (ps.zip cl)=none)∨∃(i:Nat) (v:V Ty.T) (cv:Value),vs[i]?=some v∧cl[i]?=some cv∧look d (psSl ps vs)=some v∧look d (ps.zip cl)=some cv
 | [],_,_,_,_,d=>.inl ⟨by simp [psSl,look],by simp [look]⟩
 | p::ps,[],_,h,_,d=>by simp at h
 | p::ps,v::vs,[],_,h,d=>by simp at h
 | p::ps,v::vs,c::cl,h1,h2,d=>by
  simp only [psSl,List.zip_cons_cons]
  rw [Ju,Ju]
  by_cases hd:p=d
  ·rw [if_pos hd,if_pos hd]
   exact .inr ⟨0,v,c,rfl,rfl,rfl,rfl⟩
  ·rw [if_neg hd,if_neg hd]
   rcases Juv ps vs cl (by simpa using h1) (by simpa using h2) d with h|⟨i,v',c',a,b,e,f⟩
   ·exact .inl h
   ·exact .inr ⟨i+1,v',c',by simpa using a,by simpa using b,e,f⟩
theorem Je6 {α:Type} {d:Nat}:∀ {a b:List (Nat×α)},look d (a++b)=(match look d a with|some v=>some v|none=>look d b)
 | [],b=>rfl
 | (k,v)::a,b=>by
  rw [List.cons_append,Ju,Ju]
  split
  ·rfl
  ·exact Je6
theorem Jao {α:Type} {i j:Nat} {h:α}:∀ {l:List (Nat×α)},look i (l.filter fun p=>Bl p.1 j)=some h→look i l=some h∧i<j
 | [],hl=>by cases hl
 | (k,v)::l,hl=>by
  rw [List.filter_cons] at hl
  split at hl
  ·rename_i hk
   rw [Ju] at hl ⊢
   split at hl
   ·rename_i e
    rw [if_pos e]
    have hk:k+1≤j:=by simpa [Bl] using hk
    exact ⟨hl,by omega⟩
   ·rename_i e
    rw [if_neg e]
    exact Jao hl
  ·rename_i hk
   obtain ⟨h1,h2⟩:=Jao hl
   rw [Ju]
   refine ⟨?_,h2⟩
   rw [if_neg (fun e=>hk ?_)]
   ·exact h1
   ·subst e
    exact Ao h2
theorem Jqq {α:Type} {x y f:α} {p q:List α}:∀ {pre:List α},x::y::p=pre++f::q→q.length<p.length→∃pre2,p=pre2++f::q
 | [],e,h=>by injection e with e1 e2;subst e2;simp at h;omega
 | [a],e,h=>by injection e with e1 e2;injection e2 with e2 e3;subst e3;omega
 | a::b::pre,e,h=>by injection e with e1 e2;injection e2 with e2 e3;exact ⟨pre,e3⟩
theorem Jud {w w1 w2:World} {S S1 S2:Nat→Prop} {h h1 h2:Heap} {μ μ1 μ2:Gh} {l:Nat} {q:Loop} {X:Obj} (e1:Evo w S h μ w1 S1 h1 μ1) (e2:Evo (w1.putObj l X) S1 h1 μ1 w2 S2 h2 μ2) (hl:w.heap[l]?=some (.loop q)) :
  Evo w S h μ (w2.putObj l (.loop q)) S2 h2 μ2:=by
 have sz1:w.heap.size≤w1.heap.size:=e1.size
 have sz2:w1.heap.size≤w2.heap.size:=by simpa using e2.size
 have hlt:=(Array.getElem?_eq_some_iff.1 hl).1
 refine ⟨e2.os.trans e1.os,e2.tape.trans e1.tape,⟨e2.output.1.trans e1.output.1,Bo e1.output.2 e2.output.2⟩,by simp;omega,fun b hb hn=>?_,fun b cs el z hc=>?_,fun b hb=>e2.st b (e1.st b hb),fun b hb=>?_,fun b hb=>?_,e2.lp.trans e1.lp⟩
 ·by_cases hbl:b=l
  ·subst hbl
   rw [World.putObj_heap_same (by omega),hl]
  ·rw [Kv hbl,e2.keep b (by simp;omega) (fun ho=>(e1.ow b ho).elim hn (by omega)),Kv hbl]
   exact e1.keep b hb hn
 ·have hbl:b≠l:=fun e=>by subst e;rw [hl] at hc;cases hc
  obtain ⟨c1,q1,q2⟩:=e1.shape b cs el z hc
  obtain ⟨c2,q3,q4⟩:=e2.shape b c1 el z ((Kv hbl).trans q1)
  exact ⟨c2,(Kv hbl).trans q3,q4.trans q2⟩
 ·rcases e2.st2 b hb with x|x|x
  ·exact e1.st2 b x
  ·exact .inr (.inl (by simp at x;omega))
  ·rcases e1.ow b x with y|y
   ·exact .inr (.inr y)
   ·exact .inr (.inl y)
 ·rcases e2.ow b hb with x|x
  ·exact e1.ow b x
  ·exact .inr (by simp at x;omega)
section
variable {P:Program} {call:Vv.Call} {cx:Cx} {mk:Cx→Inl}
theorem Jry (hC:Ql call cx.ct) (hcall:Xo P call) (hm:P.follows .mixedOrders=true) (hso:SoOK P cx) (hI:∀hs,Job P hs (mk { cx with hs:=hs,rd:=false }))
  {α:Type} {j base:Nat} {vs:List (V Ty.T)} {s:S Ty.T} {k:V Ty.T→S Ty.T→Option α} {r:α} (hd:Jjc mk cx val (yB+j) base vs s k=some r)
  {n0:Nat} {w:World} {S:Nat→Prop} {μ:Gh} {a0:Act} {fr:Fm} {fs:List Fm} {cargs:Array Value} (hrep:RepF n0 w S s μ a0 (fr::fs)) (hh:HsOK P cx.hs (fr::fs)) (hfs:FsOK (fr::fs)) (okv:∀v∈vs,okV s v) (hsz:cargs.size=vs.length)
  (hargs:∀(i:Nat) (x:V Ty.T),vs[i]?=some x→Rep w S (encH s) μ (encV s x) (cargs.getD i undef)) {R:Ending→World→Prop}
  (hR:∀w' S' μ' v s' cv,RepF fr.nt w' S' s' μ' fr.act fs→okV s' v→Rep w' S' (encH s') μ' (encV s' v) cv→Evo w S (encH s) μ w' S' (encH s') μ'→k v s'=some r→R (.returned cv) w') (hlo:fr.lo=none) :
  ∃q,w.heap[μ.l j]?=some (.loop q)∧cargs.size=q.params.size∧RoundIn Fence.wide 0 P (μ.l j) q.fn ((q.params.zip cargs).foldl (fun tmps (t,a)=>tmps.setIfInBounds t a) q.tmps) q.assign q.body w R:=by
 have hb:Be yB (yB+j)=true:=Ao (Aw _ _)
 simp only [Jjc,hb,Nat.add_sub_cancel_left] at hd
 cases hlk:look j cx.hs with
 | none=>rw [hlk] at hd;cases hd
 | some h =>
  obtain ⟨pre,fr2,post,q,efs,epost,elo,eready,epend,etmps,eps,eas,ebd,epn,epnd⟩:=hh j h hlk
  rw [hlk] at hd
  obtain ⟨sl,lo,ob,ln,mo⟩:=s
  match lo,hd,hrep,okv,hargs,hR with
  | [],hd,hrep,okv,hargs,hR=>cases hd
  | [_],hd,hrep,okv,hargs,hR=>cases hd
  | l0::c::lr,hd,hrep,okv,hargs,hR =>
   have hd:(if lr.length=j∧vs.length=h.ps.length then
    Jvw mk { cx with hs:=cx.hs.filter (fun p=>Bl p.1 j),rd:=true } h.base h.a h.b val ⟨psSl h.ps vs++c,l0::c::lr,ob,ln,mo⟩ fun e s'=>(match e with
     | .normal=>k (.c (.kb true)) s'.pop
     | _=>val.no) else val.no)=some r:=hd
   obtain ⟨⟨hlr,hvl⟩,hd⟩:=Jfg hd
   have hlen:=hrep.len
   simp only [Av] at hlen
   obtain ⟨rfl,rfl⟩:pre=[fr]∧fs=fr2::post:=by
    have e1:(fr::fs).length=pre.length+(post.length+1):=by rw [efs];simp
    simp only [Av] at e1
    match pre,efs,e1 with
    | [],efs,e1=>simp at e1;omega
    | [x],efs,e1=>injection efs with e2 e3;subst e2;exact ⟨rfl,e3⟩
    | x::y::z,efs,e1=>simp at e1;omega
   clear efs hlen
   obtain ⟨hlp1,hlp2,hlp3⟩:=hrep.lp fr2 (Aa _ Ab) j q elo
   have hlow:∀p∈post,∀i q',p.lo=some (i,q')→i≠j∧μ.l i≠μ.l j:=fun p hp i q' hi=>by
    obtain ⟨pre2,post2,e⟩:=Bc hp
    have h1:=hfs (fr::fr2::pre2) p post2 (by rw [e];rfl) i q' hi
    have h2:post.length=pre2.length+(post2.length+1):=by rw [e];simp
    have:i≠j:=by omega
    exact ⟨this,hlp3 p (Aa _ (Aa _ hp)) i q' hi this⟩
   have hsz2:=hrep.sz fr2 (Aa _ Ab)
   have epl:h.ps.length=q.params.size:=by rw [←eps];simp
   refine ⟨q,hlp1,by omega,?_⟩
   obtain ⟨aR,haR⟩:∃aR:Act,aR={ tmps:=(q.params.zip cargs).foldl (fun tmps (t,a)=>tmps.setIfInBounds t a) q.tmps,defers:=[] }:=⟨_,rfl⟩
   obtain ⟨fr2',hfr2⟩:∃f:Fm,f=⟨fr2.nt,fr2.act,none,fr2.d⟩:=⟨_,rfl⟩
   have hfold:∀d,aR.tmps.size=fr2.act.tmps.size∧aR.tmps.getD d undef=(match look d (h.ps.zip cargs.toList) with|some v=>v|none=>fr2.act.tmps.getD d undef):=fun d=>by
    have e1:aR.tmps=(h.ps.zip cargs.toList).foldl (fun t p=>t.setIfInBounds p.1 p.2) q.tmps:=by
     rw [haR,←Array.foldl_toList,Array.toList_zip,eps]
    have hmap:(h.ps.zip cargs.toList).map (·.1)=h.ps:=List.map_fst_zip (by simp;omega)
    have:=Jpz (h.ps.zip cargs.toList) q.tmps d (by rw [hmap];exact epnd) fun p hp=>by
     have:p.1∈h.ps:=by rw [←hmap];exact Ak.2 ⟨p,hp,rfl⟩
     have:=epn _ this
     rw [etmps]
     omega
    rw [e1]
    refine ⟨by rw [this.1,etmps],by rw [this.2,etmps]⟩
   have eo:encH (⟨psSl h.ps vs++c,l0::c::lr,ob,ln,mo⟩:Dn.S Ty.T)=encH ⟨sl,l0::c::lr,ob,ln,mo⟩:=Xb rfl rfl
   have ev:∀v,encV (⟨psSl h.ps vs++c,l0::c::lr,ob,ln,mo⟩:Dn.S Ty.T) v=encV ⟨sl,l0::c::lr,ob,ln,mo⟩ v:=fun v=>Jfp rfl rfl v
   have hF:RepF fr2.nt w S (⟨psSl h.ps vs++c,l0::c::lr,ob,ln,mo⟩:Dn.S Ty.T) μ aR (fr::fr2'::post):=by
    refine ⟨⟨fun d=>?_,by show RepH w S (encH _) μ;rw [eo];exact hrep.fr.hp,by rw [haR];exact .nil,by rw [(hfold 0).1];exact hsz2.2.1⟩,hrep.len,fun i l b hl hb d v hv=>?_,fun p hp=>?_,?_,fun p hp i q' hi=>?_,⟨fun p hp=>?_,hrep.iv.lo,hrep.iv.ob,hrep.iv.mo⟩⟩
    ·show Rep w S (encH _) μ (encV _ (Dn.S.at _ d)) _
     rw [eo,ev,(hfold d).2]
     unfold Dn.S.at
     simp only [Je6]
     rcases Juv h.ps vs cargs.toList hvl.symm (by simpa using hsz) d with ⟨x1,x2⟩|⟨i,v,cv,x1,x2,x3,x4⟩
     ·rw [x1,x2]
      simp only
      cases hc:look d c with
      | none=>exact .any _
      | some v=>exact hrep.lo 1 c fr2 rfl rfl d v hc
     ·rw [x3,x4]
      have:=hargs i v x1
      have e2:cargs.getD i undef=cv:=by
       rw [Array.getElem?_toList] at x2
       simp [Array.getD_eq_getD_getElem?,x2]
      rw [e2] at this
      exact this
    ·rw [eo,ev]
     match i,hl,hb with
     | 0,hl,hb=>exact hrep.lo 0 l b hl hb d v hv
     | 1,hl,hb =>
      have hb:fr2'=b:=by simpa using hb
      subst hb
      rw [hfr2]
      exact hrep.lo 1 l fr2 hl rfl d v hv
     | i+2,hl,hb=>exact hrep.lo (i+2) l b hl (by simpa using hb) d v hv
    ·rcases Ae.1 hp with rfl|hp
     ·exact hrep.sz _ Ab
     ·rcases Ae.1 hp with rfl|hp
      ·rw [hfr2];exact hsz2
      ·exact hrep.sz p (Aa _ (Aa _ hp))
    ·obtain ⟨m1,m2,m3,m4⟩:=hrep.md
     rw [haR,hfr2]
     refine ⟨fun d hd=>(by cases hd),m2,fun p hp=>?_,m4⟩
     rcases Ae.1 hp with rfl|hp
     ·exact m3 fr2 Ab
     ·exact m3 p (Aa _ hp)
    ·have sub:∀p'∈fr::fr2'::post,∀i q',p'.lo=some (i,q')→p'∈post:=fun p' hp' i q' hi=>by
      rcases Ae.1 hp' with rfl|hp'
      ·rw [hlo] at hi;cases hi
      ·rcases Ae.1 hp' with rfl|hp'
       ·rw [hfr2] at hi;cases hi
       ·exact hp'
     have hp0:=sub p hp i q' hi
     obtain ⟨x1,x2,x3⟩:=hrep.lp p (Aa _ (Aa _ hp0)) i q' hi
     exact ⟨x1,x2,fun p' hp' i' q'' hi' hne=>x3 p' (Aa _ (Aa _ (sub p' hp' i' q'' hi'))) i' q'' hi' hne⟩
    ·rcases Ay.1 hp with hp|hp
     ·have:∀(ps:List Nat) (vs:List (V Ty.T)) (p:Nat×V Ty.T),p∈psSl ps vs→p.2∈vs:=by
       intro ps
       induction ps with
       | nil=>intro vs p hp;cases hp
       | cons a ps ih =>
        intro vs p hp
        cases vs with
        | nil=>cases hp
        | cons v vs =>
         rcases Ae.1 hp with rfl|hp
         ·exact Ab
         ·exact Aa _ (ih vs p hp)
      exact okv _ (this _ _ _ hp)
     ·exact hrep.iv.lo c (Aa _ Ab) p hp
   have hfs':FsOK (fr::fr2'::post):=by
    have h1:FsOK post:=hfs.tail.tail
    have h2:FsOK (fr2'::post):=by rw [hfr2];exact h1.push (by intro j r h;cases h)
    obtain ⟨nt,a,lo,d⟩:=fr
    exact h2.push (by intro j r h;rw [show lo=none from hlo] at h;cases h)
   have hh':HsOK P (cx.hs.filter fun p=>Bl p.1 j) (fr::fr2'::post):=fun i h' hi=>by
    obtain ⟨hi1,hi2⟩:=Jao hi
    obtain ⟨pre,f',post',q',e1,e2,rest⟩:=hh i h' hi1
    obtain ⟨pre2,e3⟩:=Jqq e1 (by omega)
    exact ⟨fr::fr2'::pre2,f',post',q',by rw [e3];rfl,e2,rest⟩
   unfold Jvw at hd
   have hfrl:∀ {μ1:Gh},μ1.l=μ.l→∀p∈fr::fr2'::post,∀i q',p.lo=some (i,q')→μ1.l i≠μ.l j:=fun e p hp i q' hi=>by
    rw [e]
    rcases Ae.1 hp with rfl|hp
    ·rw [hlo] at hi;cases hi
    ·rcases Ae.1 hp with rfl|hp
     ·rw [hfr2] at hi;cases hi
     ·exact (hlow p hp i q' hi).2
   have run:=@den_wp P fr2.nt call h.base { cx with hs:=cx.hs.filter (fun p=>Bl p.1 j),rd:=true } mk (fr::fr2'::post) (some (μ.l j)) hC hcall (fun hs=>hI hs) hm hso (fun q=>by cases q) hh' hfs'
   suffices goal:q.assign.wpIn (Fr (some (μ.l j))) 0 P (Exit.then (fun a₁ w₁=>∃w₂,(Instr.beginRound (μ.l j)).run P w₁=.ok () w₂∧q.body.wpIn (Fr (some (μ.l j))) 0 P (roundPost P (μ.l j) R) a₁ w₂) (fun _ _ _=>False)) aR w by
    rw [haR] at goal
    exact roundIn_of_wpIn trivial goal
   refine run q.assign eas hF hd fun e x a1 w1 S1 μ1 s1 is r1 r2 r3=>?_
   ·cases e with
    | exit i=>cases r3
    | ret=>cases r3
    | normal =>
     cases x<;>simp only [LE.is] at is
     simp only [Exit.then]
     rw [eo] at r2
     have hno:=hrep.fr.hp.no_own hlp1 (by intros;simp) (by intros;simp)
     have hl1:w1.heap[μ.l j]?=some (.loop q):=(r2.keep _ (Array.getElem?_eq_some_iff.1 hlp1).1 hno).trans hlp1
     have hS1:¬S1 (μ.l j):=fun x=>by
      rcases r2.st2 _ x with y|y|y
      ·exact hlp2 y
      ·have:=(Array.getElem?_eq_some_iff.1 hlp1).1;omega
      ·exact hno y
     refine ⟨_,run_beginRound hl1 eready,?_⟩
     have rb:=r1.putL hl1 hS1 (hfrl r2.lp) (.loop { q with state:=.busy })
     have hlb:(w1.putObj (μ.l j) (.loop { q with state:=.busy })).heap[μ.l j]?=some (.loop { q with state:=.busy }):=World.putObj_heap_same (Array.getElem?_eq_some_iff.1 hl1).1
     refine run q.body ebd rb r3 (Q:=roundPost P (μ.l j) R) fun e2 x2 a2 w2 S2 μ2 s2 is2 q1 q2 q3=>?_
     cases e2 with
     | exit i=>cases q3
     | ret=>cases q3
     | normal =>
      cases x2<;>simp only [LE.is] at is2
      have hno2:=rb.fr.hp.no_own hlb (by intros;simp) (by intros;simp)
      have hl2:w2.heap[μ.l j]?=some (.loop { q with state:=.busy }):=(q2.keep _ (Array.getElem?_eq_some_iff.1 hlb).1 hno2).trans hlb
      have hS2:¬S2 (μ.l j):=fun x=>by
       rcases q2.st2 _ x with y|y|y
       ·exact hS1 y
       ·have:=(Array.getElem?_eq_some_iff.1 hlb).1;omega
       ·exact hno2 y
      have eq:({ ({ q with state:=.busy }:Loop) with state:=if (none:Option Code).isNone then .ready else .done,pending:=none }:Loop)=q:=by
       obtain ⟨a,b,c,d,e,f,g,i⟩:=q
       simp only at eready epend
       subst eready
       subst epend
       rfl
      have hend:=run_endRound (P:=P) none hl2
      rw [eq] at hend
      refine ⟨_,_,hend,?_⟩
      have elp:μ2.l=μ.l:=q2.lp.trans r2.lp
      have rc:=q1.putL hl2 hS2 (hfrl elp) (.loop q)
      have e1:s2.pop.ob=s2.ob∧s2.pop.ln=s2.ln:=by
       unfold Dn.S.pop
       split<;>exact ⟨rfl,rfl⟩
      have hl3:(w2.putObj (μ.l j) (.loop q)).heap[μ2.l j]?=some (.loop q):=by rw [elp];exact World.putObj_heap_same (Array.getElem?_eq_some_iff.1 hl2).1
      have rp:RepF fr.nt (w2.putObj (μ.l j) (.loop q)) S2 s2.pop μ2 fr.act (fr2'::post):=by
       obtain ⟨nt,a,lo,d⟩:=fr
       exact rc.pop
      have rp2:RepF fr.nt (w2.putObj (μ.l j) (.loop q)) S2 s2.pop μ2 fr.act (fr2::post):=by
       rw [hfr2] at rp
       refine ⟨rp.fr,rp.len,fun i l b hl hb d v hv=>?_,fun p hp=>?_,⟨rp.md.1,rp.md.2.1,rp.md.2.2.1,rp.md.2.2.2⟩,fun p hp i q' hi=>?_,rp.iv⟩
       ·match i,hl,hb with
        | 0,hl,hb =>
         have hb:fr2=b:=by simpa using hb
         subst hb
         exact rp.lo 0 l _ hl rfl d v hv
        | i+1,hl,hb=>exact rp.lo (i+1) l b hl (by simpa using hb) d v hv
       ·rcases Ae.1 hp with rfl|hp
        ·exact rp.sz (⟨p.nt,p.act,none,p.d⟩:Fm) Ab
        ·exact rp.sz p (Aa _ hp)
       ·have dist:∀p'∈fr2::post,∀i' q'',p'.lo=some (i',q'')→p'=fr2∨p'∈post:=fun p' hp' _ _ _=>by
         rcases Ae.1 hp' with h|h
         ·exact .inl h
         ·exact .inr h
        rcases Ae.1 hp with rfl|hpp
        ·rw [elo] at hi
         injection hi with hi
         injection hi with h1 h2
         subst h1
         subst h2
         refine ⟨hl3,by rw [elp];exact hS2,fun p' hp' i' q'' hi' hne=>?_⟩
         rcases Ae.1 hp' with rfl|hp'
         ·rw [elo] at hi';injection hi' with hi';injection hi' with h1 h2;exact (hne h1.symm).elim
         ·rw [elp];exact (hlow p' hp' i' q'' hi').2
        ·obtain ⟨x1,x2,x3⟩:=rp.lp p (Aa _ hpp) i q' hi
         refine ⟨x1,x2,fun p' hp' i' q'' hi' hne=>?_⟩
         rcases Ae.1 hp' with rfl|hp'
         ·rw [elo] at hi'
          injection hi' with hi'
          injection hi' with h1 h2
          subst h1
          rw [elp]
          exact (hlow p hpp i q' hi).2.symm
         ·exact x3 p' (Aa _ hp') i' q'' hi' hne
      refine hR _ S2 μ2 (.c (.kb true)) s2.pop (.bool true) rp2 (Km (Jo _ rfl)) (.pure (.bool true)) ?_ q3
      rw [Xb e1.1 e1.2 (Jr3 _)]
      exact Jud r2 q2 hlp1
end
structure Jey (P:Program) (f:FuncId) (B:Bi):Prop where
 lt:Be yB f=false
 fn:FnOK P f
 run:∀ {α:Type} {base:Nat} {vs:List (V Ty.T)} {s:S Ty.T} {k:V Ty.T→S Ty.T→Option α} {r:α},B.run val f base vs s k=some r →
  ∀ {n0:Nat} {w:World} {S:Nat→Prop} {μ:Gh} {a0:Act} {fr:Fm} {fs:List Fm} {cargs:Array Value},RepF n0 w S s μ a0 (fr::fs)→(∀v∈vs,okV s v)→cargs.size=vs.length →
   (∀(i:Nat) (x:V Ty.T),vs[i]?=some x→Rep w S (encH s) μ (encV s x) (cargs.getD i undef))→∀ {R:Ending→World→Prop},
   (∀w' S' μ' v s' cv,RepF fr.nt w' S' s' μ' fr.act fs→okV s' v→Rep w' S' (encH s') μ' (encV s' v) cv→Evo w S (encH s) μ w' S' (encH s') μ'→k v s'=some r→R (.returned cv) w')→Calls P f cargs w R
def BiOK (P:Program) (cx:Cx):Prop:=∀f B,cx.bi f=some B→Jey P f B
section
variable {P:Program} {call:Vv.Call}
theorem den_ok (hcall:Xo P call) (hm:P.follows .mixedOrders=true) (n:Nat):∀ {cx:Cx} (hC:Ql call cx.ct) (hso:SoOK P cx) (hbi:BiOK P cx) (hcd:Jmi P cx) (hrd:cx.rd=false),Job P cx.hs (den n cx):=by
 induction n with
 | zero=>intro cx _ _ _ _ _ α f base vs s k r h;cases h
 | succ n ih =>
  intro cx hC hso hbi hcd hrd α f base vs s k r hd
  have hd:(match cx.bi f with|some B=>B.run val f base vs s k|none=>Jjc (den n) cx val f base vs s k)=some r:=hd
  have hI:∀hs,Job P hs (den n { cx with hs:=hs,rd:=false }):=fun hs=>ih (cx:={ cx with hs:=hs,rd:=false }) hC hso hbi hcd rfl
  cases hB:cx.bi f with
  | some B =>
   rw [hB] at hd
   have g:=hbi f B hB
   refine ⟨fun _=>g.fn,fun {n0 w S μ a0 fr fs cargs} hrep hh hfs okv hsz hargs {R} hd0 hR=>⟨fun _=>g.run hd hrep okv hsz hargs hR,fun j e=>?_⟩⟩
   subst e
   have:=g.lt
   rw [Ao (Aw _ _)] at this
   cases this
  | none =>
  rw [hB] at hd
  have hd:Jjc (den n) cx val f base vs s k=some r:=hd
  cases hb:Be yB f with
  | false =>
   obtain ⟨h1,h2⟩:=body_fn hC hcall hm hso hcd hI hrd hb hd
   refine ⟨fun _=>h1,fun {n0 w S μ a0 fr fs cargs} hrep hh hfs okv hsz hargs {R} hd0 hR=>⟨fun _=>h2 hrep hh hfs okv hsz hargs hd0 hR,fun j e=>?_⟩⟩
   subst e
   rw [Ao (Aw _ _)] at hb
   cases hb
  | true =>
   refine ⟨fun q=>(by cases q),fun {n0 w S μ a0 fr fs cargs} hrep hh hfs okv hsz hargs {R} hd0 hR=>⟨fun q=>(by cases q),fun j e hlo=>?_⟩⟩
   subst e
   exact Jry hC hcall hm hso hI hd hrep hh hfs okv hsz hargs hR hlo
end
end Go.Dn
namespace Go.Dn
open Go Go.Vv
set_option linter.unusedVariables false
set_option linter.unusedSimpArgs false
structure Good (P:Program) (c:Ctr):Prop where
 fn:FnOK P c.id
 ok:c.ok=true
 rk:c.rs.all rkOK=true
 run:∀x r,c.fn x=some r→∀(w:World) (S:Nat→Prop) (cargs:Array Value),(∀b,S b→b<w.heap.size)→cargs.size=(Xy c.as x).length→(∀(i:Nat) (y:AV),(Xy c.as x)[i]?=some y→RepP w S y (cargs.getD i undef)) →
  Calls P c.id cargs w fun e w'=>∃cv,e=.returned cv∧RepP w' (X8 S w w') (resA c.rs r) cv∧Old w w'
def Ji4 (P:Program) (Γ:FuncId→Option Ctr):Prop:=∀f c,Γ f=some c→c.id=f∧Good P c
theorem Jk5 {P:Program} {Γ:FuncId→Option Ctr} (hΓ:Ji4 P Γ):Xo P (callC Γ):=by
 refine ⟨fun f vs m r h=>?_,fun f vs v h' h w S cargs hS hsz ha=>?_⟩
 ·obtain ⟨v,h'⟩:=r
  obtain ⟨c,x,r,h1,-⟩:=Jhf h
  obtain ⟨rfl,g⟩:=hΓ f c h1
  exact g.fn
 ·obtain ⟨c,x,r,h1,-,hu,hr,rfl⟩:=Jhf h
  obtain ⟨rfl,g⟩:=hΓ f c h1
  refine g.run x r hr w S cargs hS (by rw [hsz,hu.len]) fun i y hy=>?_
  obtain ⟨z,hz,up⟩:=hu.back hy
  exact up.rep (ha i z hz)
theorem Joj {P:Program} {Γ:FuncId→Option Ctr} (hΓ:Ji4 P Γ):Ql (callC Γ) Γ:=call_sim fun f c h=>⟨(hΓ f c h).2.ok,(hΓ f c h).2.rk⟩
def Jdd:(rs:List (Bool×Ty))→(K6 (rs.map (·.2))).T→List AV
 | [],_=>[]
 | [a],x=>[argA (rk a) x]
 | a::b::r,(x,y)=>argA (rk a) x::Jdd (b::r) y
section
variable {s:S Ty.T}
theorem Jv7 (p:Bool×List (C Ty.T)):encV s (X5 p)=if p.1 then .agg (p.2.map (encC s)) else Ks (p.2.map (encC s)):=by
 obtain ⟨b,l⟩:=p
 cases b with
 | true=>rfl
 | false =>
  match l with
  | []=>rfl
  | [c]=>rfl
  | _::_::_=>rfl
theorem Ja3 {a:Bool×Ty} {v:V Ty.T} {α:Type} {k:(rk a).2.T→Option α} {r:α} (h:argL val s.ob (rk a) v k=some r):Jq2 v=false:=by
 obtain ⟨b,t⟩:=a
 cases v with
 | ag l=>rfl
 | tp l=>rfl
 | c c =>
  cases c with
  | ptr g ver off =>
   exfalso
   cases b with
   | true=>simp only [argL,rk,if_true] at h;cases h
   | false =>
    simp only [argL,rk,Bool.false_eq_true,if_false,oneL] at h
    obtain ⟨x,hx,-⟩:=Jd h
    simp [K4,Qd] at hx
  | _=>rfl
theorem Jgm {α:Type} {r:α}:∀ {rs:List (Bool×Ty)} (hok:rs.all rkOK=true) {vs:List (V Ty.T)} {k:(K6 (rs.map (·.2))).T→Option α},resGo val s.ob rs vs k=some r →
  ∃x,k x=some r∧∃N,SnL (encH s) depth (vs.map (encV s)) (Jdd rs x) N
 | [],hok,[],k,h=>⟨(),h,[],.nil⟩
 | [a],hok,[v],k,h=>by
  have h:argL val s.ob (rk a) v k=some r:=h
  have ha:akOK (rk a)=true:=by
   simp only [As,Bp,Bm] at hok
   unfold rkOK at hok
   unfold rk akOK
   cases h1:a.1 with
   | true=>rfl
   | false=>rw [h1] at hok;simpa using hok
  obtain ⟨x,hx,u,ns,-,q2,q3⟩:=Jbv ha h
  obtain ⟨q4,q5⟩:=q3 (Ja3 h)
  exact ⟨x,hx,_,.cons q4 q2 q5 .nil⟩
 | a::b::rs,hok,v::vs,k,h=>by
  have h:argL val s.ob (rk a) v (fun x=>resGo val s.ob (b::rs) vs fun y=>k (val.pr x y))=some r:=h
  have hok':=hok
  rw [As,Af] at hok
  have ha:akOK (rk a)=true:=by
   have hok:=hok.1
   unfold rkOK at hok
   unfold rk akOK
   cases h1:a.1 with
   | true=>rfl
   | false=>rw [h1] at hok;simpa using hok
  obtain ⟨x,hx,u,ns,-,q2,q3⟩:=Jbv ha h
  obtain ⟨q4,q5⟩:=q3 (Ja3 h)
  obtain ⟨y,hy,N,hN⟩:=Jgm hok.2 hx
  exact ⟨_,hy,_,.cons q4 q2 q5 hN⟩
 | [],hok,_::_,k,h=>by cases h
 | [a],hok,[],k,h=>by cases h
 | [a],hok,_::_::_,k,h=>by cases h
 | a::b::rs,hok,[],k,h=>by cases h
theorem Jus {a:Bool×Ty} (ha:rkOK a=true) (x:a.2.T):(if a.1 then AV.agg ((expl val a.2 x).map (encC s)) else Ks ((expl val a.2 x).map (encC s)))=argA (rk a) x:=by
 obtain ⟨b,t⟩:=a
 cases b with
 | true=>simp only [if_true,rk,argA];rw [Kc]
 | false=>simp only [Bool.false_eq_true,if_false,rk,argA];rw [Kc]
theorem Jeg:∀ {rs:List (Bool×Ty)} (hok:rs.all rkOK=true) (x:(K6 (rs.map (·.2))).T),(Qk val rs x).map (fun p=>if p.1 then AV.agg (p.2.map (encC s)) else Ks (p.2.map (encC s)))=Jdd rs x
 | [],hok,x=>rfl
 | [a],hok,x=>by
  simp only [As,Bp,Bm] at hok
  simp only [Qk,Aq,List.map_nil,Jdd,unL]
  exact congrArg (fun v=>[v]) (Jus hok x)
 | a::b::rs,hok,(x,y)=>by
  rw [As,Af] at hok
  simp only [Qk,Aq,Jdd,unL]
  have e:=Jeg hok.2 y
  exact (congrArg (fun l=>_::l) e).trans (congrArg (fun v=>v::Jdd (b::rs) y) (Jus hok.1 x))
theorem resA_eq {rs:List (Bool×Ty)} (hok:rs.all rkOK=true) (x:(K6 (rs.map (·.2))).T):resA rs x=(match Jdd rs x with | [v]=>v|l=>.tup l):=by
 unfold resA jf
 have e:=Jeg (s:=⟨[],[],[],[],none⟩) hok x
 rw [←e]
 split
 ·rename_i p hp
  rw [hp]
  exact Jv7 p
 ·rename_i l hl
  cases hu:Qk val rs x with
  | nil=>rfl
  | cons p m =>
   cases m with
   | nil=>exact (hl p hu).elim
   | cons q m=>rfl
theorem Jl9:∀(rs:List (Bool×Ty)) (x:(K6 (rs.map (·.2))).T),(Jdd rs x).length=rs.length
 | [],x=>rfl
 | [a],x=>rfl
 | a::b::rs,(x,y)=>by simp only [Jdd,Av];rw [Jl9 (b::rs) y];rfl
theorem Jpd (a:AK×Ty) (x:a.2.T) (h:akOK a=true):encV s (argV val a x)=argA a x:=by
 obtain ⟨k,t⟩:=a
 cases k with
 | one =>
  simp only [argV,argA]
  have h:t.one=true:=h
  have:=Kc s t x
  split
  ·rename_i c hc
   rw [hc] at this
   rw [←this]
   rfl
  ·rename_i hne
   exfalso
   obtain ⟨v,hv⟩:=Jg3 h x
   have hl:=Xg t x
   have:(expl val t x).length=1:=by rw [hl,←Qs t x,hv];rfl
   obtain ⟨c,hc⟩:=List.length_eq_one_iff.1 this
   exact hne c hc
 | ag=>simp only [argV,argA,encV];rw [Kc]
 | rp=>simp only [argV,argA,encV,encC,Bk]
theorem Jec:∀ {as:List (AK×Ty)} (h:as.all akOK=true) (x:(K6 (as.map (·.2))).T),(Jf3 val as x).map (encV s)=Xy as x
 | [],h,x=>rfl
 | [a],h,x=>by
  simp only [As,Bp,Bm] at h
  simp only [Jf3,Aq,List.map_nil,Xy]
  exact congrArg (fun v=>[v]) (Jpd a x h)
 | a::b::r,h,(x,y)=>by
  rw [As,Af] at h
  simp only [Jf3,Aq,Xy]
  rw [show (Jf3 val (b::r) (val.sn (x,y))).map (encV s)=Xy (b::r) y from Jec h.2 y]
  exact congrArg (fun v=>v::Xy (b::r) y) (Jpd a x h.1)
theorem Juu (a:AK×Ty) (x:a.2.T):okV s (argV val a x):=by
 obtain ⟨k,t⟩:=a
 cases k with
 | one =>
  simp only [argV]
  split
  ·rename_i c hc
   exact Km (X4 s t x c (by rw [hc];exact Ad.2 rfl))
  ·exact Km (Jo s rfl)
 | ag=>exact X4 s t x
 | rp=>exact Km (Jo s rfl)
theorem Jhy:∀ {as:List (AK×Ty)} (x:(K6 (as.map (·.2))).T),∀v∈Jf3 val as x,okV s v
 | [],x,v,h=>by cases h
 | [a],x,v,h=>by have:=Ad.1 h;subst this;exact Juu a x
 | a::b::r,x,v,h=>by
  rcases Ae.1 h with rfl|h
  ·exact Juu a _
  ·exact Jhy _ v h
end
theorem Jgg {w:World} {S:Nat→Prop} (hS:∀b,S b→b<w.heap.size) (μ:Gh):RepH w S (fun _=>none) μ :=
 ⟨fun _ _ ho=>(by cases ho),fun _ _ _ _ ho=>(by cases ho),fun _ _ ho=>(by cases ho),hS⟩
theorem good_of {P:Program} {cx:Cx} {Γ:FuncId→Option Ctr} (hct:cx.ct=Γ) (hΓ:Ji4 P Γ) (hm:P.follows .mixedOrders=true) (hso:SoOK P cx) (hbi:BiOK P cx) (hcd:Jmi P cx) (hhs:cx.hs=[]) (hrd:cx.rd=false) {c:Ctr} {n:Nat} (hok:c.ok=true) (hrk:c.rs.all rkOK=true) (hfn:FnOK P c.id)
  (hf:∀x r,c.fn x=some r→fnD val cx n c.id c.as c.rs x=some r):Good P c:=by
 subst hct
 refine ⟨hfn,hok,hrk,fun x r hr w S cargs hS hsz ha=>?_⟩
 have hd:=hf x r hr
 unfold fnD at hd
 obtain ⟨-,hcl⟩:=den_ok (Jk5 hΓ) hm n (Joj hΓ) hso hbi hcd hrd hd
 have hs0:encH (⟨[],[[]],[],[],none⟩:Dn.S Ty.T)=fun _=>none:=rfl
 have hrep:RepF 0 w S (⟨[],[[]],[],[],none⟩:Dn.S Ty.T) ⟨fun _=>0,fun _=>0,fun _=>0⟩ act0 [⟨0,act0,none,w.heap.size⟩] :=
  ⟨rep0 (Jgg hS _),rfl,fun i l b hl hb d v hv=>by
   cases i with
   | zero=>simp at hl;subst hl;cases hv
   | succ i=>simp at hl,fun p hp=>(by have:=Ad.1 hp;subst this;exact ⟨.nil,Bq _,Am _⟩),⟨fun d hd=>(by cases hd),fun q hq=>(by cases hq),fun p hp=>(by cases hp),trivial⟩,fun p hp j r hj=>(by have:=Ad.1 hp;subst this;cases hj),⟨fun p hp=>(by cases hp),fun l hl p hp=>(by have:=Ad.1 hl;subst this;cases hp),fun g o ho=>(by cases ho),fun m hm=>(by cases hm)⟩⟩
 have enc:=Jec (s:=⟨[],[[]],[],[],none⟩) hok x
 have hble:Be yB c.id=false:=by
  cases hb:Be yB c.id with
  | false=>rfl
  | true =>
   exfalso
   cases n with
   | zero=>cases hd
   | succ n =>
    have hd:(match cx.bi c.id with|some B=>B.run val c.id 0 (Jf3 val c.as x) ⟨[],[[]],[],[],none⟩ (fun v s=>resL val s.ob c.rs v some)|none=>Jjc (den n) cx val c.id 0 (Jf3 val c.as x) ⟨[],[[]],[],[],none⟩ (fun v s=>resL val s.ob c.rs v some))=some r:=hd
    cases hB:cx.bi c.id with
    | some B=>rw [(hbi _ B hB).lt] at hb;cases hb
    | none =>
     rw [hB] at hd
     simp only [Jjc,hb,hhs] at hd
     cases hd
 refine (hcl hrep (by rw [hhs];intro j h hl;cases hl) (by
  intro pre f post e j q hj
  cases pre with
  | nil=>injection e with e1 e2;subst e1;cases hj
  | cons p pre=>injection e with e1 e2;simp at e2) (Jhy x) (by rw [hsz,←enc];simp) (fun i v hv=>?_) rfl fun w' S' μ' v s' cv r1 r2 r3 r4 r5=>?_).1 hble
 ·refine .pure (ha i _ ?_)
  rw [←enc,Ac,hv]
  rfl
 ·refine ⟨cv,rfl,?_,?_⟩
  ·have noOwn:∀b,¬Own (fun _=>none) (⟨fun _=>0,fun _=>0,fun _=>0⟩:Gh) b:=fun b ⟨g,o,ho,_⟩=>by cases ho
   have hS':∀b,S' b→X8 S w w' b:=fun b hb=>by
    rcases r4.st2 b hb with h1|h1|h1
    ·exact .inl h1
    ·exact .inr ⟨h1,r1.fr.hp.lt b hb⟩
    ·exact (noOwn b h1).elim
   have met:∀ {k:Nat} {v u:AV} {ns:List Nat},snap (encH s') k v=some (u,ns)→Met (X8 S w w') (encH s') μ' ns:=fun hsn g hg o1 hg1 hl1=>by
    obtain ⟨o2,hg2,hfz⟩:=Xc _ hsn g hg
    rw [hg1] at hg2
    injection hg2 with hg2
    subst hg2
    cases hz1:o1.fz with
    | true =>
     have hob:=r1.fr.hp.ob g _ hg1
     cases o1 with
     | box v c=>cases hz1
     | arr v e t c z=>obtain ⟨_,_,_,_,h4⟩:=hob (J5.1 hl1);exact hS' _ (h4 hz1)
     | map v es z=>obtain ⟨_,_,_,_,h4,_⟩:=hob;exact hS' _ (h4 hz1)
    | false =>
     rcases r4.ow (μ'.b g) ⟨g,_,hg1,hz1,hl1,rfl⟩ with h1|h1
     ·exact (noOwn _ h1).elim
     ·exact .inr ⟨h1,(r1.fr.hp.ob g _ hg1).lt hl1⟩
   have piece:∀ {v:AV} {y:AV} {cv:Value},(∃u ns,snap (encH s') depth v=some (u,ns)∧Up u y)→Rep w' S' (encH s') μ' v cv→RepP w' (X8 S w w') y cv:=fun ⟨u,ns,h1,h2⟩ h3=>h2.rep (Xa r1.fr.hp hS' depth h1 h3 (met h1))
   unfold resL at r5
   obtain ⟨y,hy,N,ps,hN,hup,-⟩:=Jgm hrk r5
   injection hy with hy
   subst hy
   obtain ⟨m1,m2⟩:=Xi hN
   have item:∀(i:Nat) (u:V Ty.T) (z:AV),(Jk8 c.rs v)[i]?=some u→(Jdd c.rs y)[i]?=some z→∃u' ns,snap (encH s') depth (encV s' u)=some (u',ns)∧Up u' z:=fun i u z hu hz=>by
    obtain ⟨p,p1,p2⟩:=m2 i (encV s' u) (by rw [Ac,hu];rfl)
    exact ⟨p.1,p.2,p2,hup.at' i p.1 z (by rw [Ac,p1];rfl) hz⟩
   have hlen:=Jl9 c.rs y
   have hlen2:(Jk8 c.rs v).length=(Jdd c.rs y).length:=by
    have:=hup.len
    simp only [Az] at this m1
    omega
   rw [resA_eq hrk]
   generalize hA:Jdd c.rs y=A at item hlen hlen2
   clear hup hN m1 m2 r5
   match hrs:c.rs,A,hlen with
   | [a],[z],_ =>
    rw [hrs] at item
    exact piece (item 0 v z rfl rfl) r3
   | [],[],_ =>
    rw [hrs] at hlen2
    cases v with
    | tp l =>
     have:l=[]:=Ah (by simpa [Jk8] using hlen2)
     subst this
     obtain ⟨cs,e,h1,h2⟩:=r3.tup_inv
     subst e
     exact .tup [] cs h1 fun i x hi=>by simp at hi
    | _=>simp [Jk8] at hlen2
   | a::b::rs,z1::z2::zs,hl =>
    rw [hrs] at item hlen2
    cases v with
    | tp l =>
     have h3:Rep w' S' (encH s') μ' (.tup (l.map fun p=>if p.1 then .agg (p.2.map (encC s')) else Ks (p.2.map (encC s')))) cv:=r3
     obtain ⟨cs,e,h1,h2⟩:=h3.tup_inv
     subst e
     have hll:l.length=(z1::z2::zs).length:=by simpa [Jk8] using hlen2
     refine .tup _ cs (by rw [←hll];simpa using h1) fun i z hi=>?_
     cases hp:l[i]? with
     | none =>
      have:=(Ar.1 hi).1
      rw [Bd] at hp
      omega
     | some p =>
      refine piece (item i (X5 p) z (by show (l.map X5)[i]?=_;rw [Ac,hp];rfl) hi) ?_
      rw [Jv7]
      exact h2 i _ (by rw [Ac,hp];rfl)
    | c x=>simp [Jk8] at hlen2
    | ag l=>simp [Jk8] at hlen2
  ·exact ⟨r4.os,r4.tape,r4.output,r4.size,fun b hb=>r4.keep b hb fun ⟨g,o,ho,_⟩=>by cases ho⟩
end Go.Dn
namespace Go.Dn
open Go Go.Vv
set_option linter.unusedVariables false
set_option linter.unusedSimpArgs false
structure OGood (P:Program) (c:OCt):Prop where
 lt:Be yB c.id=false
 fn:FnOK P c.id
 ok:c.as.all akOK=true
 pos:0<c.t.sz
 run:∀x r,c.fn x=some r→∀(w:World) (S:Nat→Prop) (cargs:Array Value),(∀b,S b→b<w.heap.size)→cargs.size=(Xy c.as x).length→(∀(i:Nat) (y:AV),(Xy c.as x)[i]?=some y→RepP w S y (cargs.getD i undef)) →
  Calls P c.id cargs w fun e w'=>∃cv,e=.returned cv∧Old w w'∧OwnR w w' S c.el c.t r cv
theorem Js0 {s:S Ty.T} {t:Ty} {el:TypeId} {α:Type} {v:V Ty.T} {k:List t.T→Option α} {r:α} (h:resO val s.ob t el v k=some r) :
  (v=.c (.k .nils)∧k []=some r)∨∃(g ver:Nat) (l:List t.T),v=.c (.own g ver)∧look g s.ob=some (.row ver t.sz el t l [] none false)∧0<t.sz∧k l=some r:=by
 unfold resO at h
 split at h
 ·exact .inl ⟨rfl,h⟩
 ·rename_i g ver
  split at h
  ·rename_i v e el' t' l ho
   obtain ⟨⟨e1,e2,e3,e4⟩,h6⟩:=Jfg h
   subst e1
   subst e2
   subst e4
   obtain ⟨l2,hl2,h3⟩:=Jd h6
   obtain ⟨et,hl3⟩:=Kf hl2
   injection et with et
   subst et
   have hl4:l2=l:=hl3
   subst hl4
   exact .inr ⟨g,v,l2,rfl,ho,e3,h3⟩
  ·cases h
 ·cases h
theorem own_of {P:Program} {cx:Cx} {Γ:FuncId→Option Ctr} (hct:cx.ct=Γ) (hΓ:Ji4 P Γ) (hm:P.follows .mixedOrders=true) (hso:SoOK P cx) (hbi:BiOK P cx) (hcd:Jmi P cx) (hhs:cx.hs=[]) (hrd:cx.rd=false) {c:OCt} {n:Nat} (hok:c.as.all akOK=true) (hpos:0<c.t.sz) (hfn:FnOK P c.id) (hlt:Be yB c.id=false)
  (hf:∀x r,c.fn x=some r→fnO val cx n c.id c.as c.t c.el x=some r):OGood P c:=by
 subst hct
 refine ⟨hlt,hfn,hok,hpos,fun x r hr w S cargs hS hsz ha=>?_⟩
 have hd:=hf x r hr
 unfold fnO at hd
 obtain ⟨-,hcl⟩:=den_ok (Jk5 hΓ) hm n (Joj hΓ) hso hbi hcd hrd hd
 have hrep:RepF 0 w S (⟨[],[[]],[],[],none⟩:Dn.S Ty.T) ⟨fun _=>0,fun _=>0,fun _=>0⟩ act0 [⟨0,act0,none,w.heap.size⟩] :=
  ⟨rep0 (Jgg hS _),rfl,fun i l b hl hb d v hv=>by
   cases i with
   | zero=>simp at hl;subst hl;cases hv
   | succ i=>simp at hl,fun p hp=>(by have:=Ad.1 hp;subst this;exact ⟨.nil,Bq _,Am _⟩),⟨fun d hd=>(by cases hd),fun q hq=>(by cases hq),fun p hp=>(by cases hp),trivial⟩,fun p hp j r hj=>(by have:=Ad.1 hp;subst this;cases hj),⟨fun p hp=>(by cases hp),fun l hl p hp=>(by have:=Ad.1 hl;subst this;cases hp),fun g o ho=>(by cases ho),fun m hm=>(by cases hm)⟩⟩
 have enc:=Jec (s:=⟨[],[[]],[],[],none⟩) hok x
 refine (hcl hrep (by rw [hhs];intro j h hl;cases hl) (by
  intro pre f post e j q hj
  cases pre with
  | nil=>injection e with e1 e2;subst e1;cases hj
  | cons p pre=>injection e with e1 e2;simp at e2) (Jhy x) (by rw [hsz,←enc];simp) (fun i v hv=>?_) rfl fun w' S' μ' v s' cv r1 r2 r3 r4 r5=>?_).1 hlt
 ·refine .pure (ha i _ ?_)
  rw [←enc,Ac,hv]
  rfl
 ·have noOwn:∀b,¬Own (fun _=>none) (⟨fun _=>0,fun _=>0,fun _=>0⟩:Gh) b:=fun b ⟨g,o,ho,_⟩=>by cases ho
  have hS':∀b,S' b→X8 S w w' b:=fun b hb=>by
   rcases r4.st2 b hb with h1|h1|h1
   ·exact .inl h1
   ·exact .inr ⟨h1,r1.fr.hp.lt b hb⟩
   ·exact (noOwn b h1).elim
  refine ⟨cv,rfl,⟨r4.os,r4.tape,r4.output,r4.size,fun b hb=>r4.keep b hb fun ⟨g,o,ho,_⟩=>by cases ho⟩,?_⟩
  rcases Js0 r5 with ⟨rfl,e⟩|⟨g,v,l2,rfl,ho,e1,e2⟩
  ·injection e with e
   subst e
   exact .inl ⟨rfl,none,Rep.nils_inv (h:=encH s') r3⟩
  ·injection e2 with e2
   subst e2
   ·
    have hg:encH s' g=some (.arr v c.t.sz c.el (l2.flatMap c.t.cs) false):=by rw [Jf ho];simp [Dn.encO,Ky]
    have hl0:Ki s' g v=l2.length:=by simp [Ki,ho,Ob.ver,Ob.lenO]
    have r3:Rep w' S' (encH s') μ' (encC s' (.own g v)) cv:=r3
    simp only [encC,hl0] at r3
    have hcl:(l2.flatMap c.t.cs).length=l2.length * c.t.sz:=Jq l2
    have hnil:l2.flatMap c.t.cs=[]↔l2=[]:=fl_nil hpos l2
    cases r3 with
    | pure hp=>cases hp
    | arr _ _ _ _ _ o1 ho1 hv1 h11 hr1 =>
     rw [hg] at ho1
     injection ho1 with ho1
     subst ho1
     obtain ⟨esz,el2,cells,fz,eo,hk⟩:=hr1 rfl
     injection eo with eo1 eo2 eo3 eo4 eo5
     subst eo2
     subst eo4
     by_cases hne:l2=[]
     ·obtain ⟨-,-,A,rfl⟩:=hk.1 (hnil.2 hne)
      exact .inl ⟨hne,A,rfl⟩
     ·have hne':l2.flatMap c.t.cs≠[]:=fun q=>hne (hnil.1 q)
      obtain ⟨A,cap,cs0,el0,z0,rfl,hcap,hb0,hsz0,hA⟩:=hk.2 hne'
      obtain ⟨cs,hb,hsz1,hold,-⟩:=r1.fr.hp.ob g _ hg hne'
      rw [hb] at hb0
      injection hb0 with hb0
      injection hb0 with q1 q2 q3
      subst q1
      have hlp:0<l2.length:=List.length_pos_iff.2 hne
      have hA:=hA (by omega)
      rw [Ba,Bn] at hA
      subst hA
      have hlive:(AObj.arr v c.t.sz c.el (l2.flatMap c.t.cs) false).live=true:=J5.2 hne'
      refine .inr ⟨hne,μ'.b g,μ'.o g,cap,cs,?_,rfl,hcap,hb,by rw [Au] at hsz0;exact hsz0,fun i y hy=>?_⟩
      ·rcases r4.ow _ ⟨g,_,hg,rfl,hlive,rfl⟩ with h1|h1
       ·exact (noOwn _ h1).elim
       ·exact h1
      ·have hfl:y.flat=true:=Ap.1 (Ku c.t l2) y (Aj hy)
       refine ⟨((hold i y hy).1.flat hfl).mono (fun q hq=>⟨hS' q hq,fun e=>?_⟩) (fun _ _=>rfl),(hold i y hy).2⟩
       subst e
       exact r1.fr.hp.own g _ hg rfl hlive hq
end Go.Dn
