/- Appending to a value of a map: 'm[k] = append(m[k], x)' in a function of its own. Conditions: none. -/
import Derived.Test.YtmfagdfkpjgeiaaFD
import Derived.Test.YtmfagdfkpjgeiaaDA
import Derived.WideKeyEntry
import Derived.Shelf.SlicesE.Delete
open List renaming mem_singleton → Aa, flatMap → Ac, getElem?_eq_some_iff → Ae, getElem?_append_left → Ag, getElem?_cons_succ → Ah, replicate → Aj, mem_cons → Am, length_cons → Ao, modify_succ_cons → Aq, getElem?_modify → As
open Nat renaming lt_of_lt_of_le → Ab, le_refl → Af, le_trans → Ai, add_sub_cancel_left → Ap, ble_eq_true_of_le → Ar
open Option renaming map_some → Ad
open Prod.mk renaming injEq → Ak
namespace Go.Dn
open Go Go.Vv
set_option linter.unusedVariables false
set_option linter.unusedSimpArgs false
section
variable {P:Program} {w w':World} {S S1:Nat→Prop} {h:Heap} {μ:Gh}
theorem repH_one (hp:RepH w S h μ) {g0:Nat} {ob:Option AObj} (hob:h g0=ob) (hfl:∀o,ob=some o→∃ver esz el cells,o=.arr ver esz el cells false∧IntsL cells) (hS1:∀q,S1 q→q<w.heap.size) (hd:∀o,ob=some o→o.live=true→¬S1 (μ.b g0)) :
  RepH w S1 (oneH g0 ob) μ:=by
 refine ⟨fun g o ho=>?_,fun g g' o o' ho ho' _ _ _=>?_,fun g o ho _ hl=>?_,hS1⟩
 ·obtain ⟨rfl,rfl⟩:=J1 ho
  obtain ⟨ver,esz,el,cells,rfl,hi⟩:=hfl _ rfl
  intro hne
  obtain ⟨cs,a1,a2,a3,a4⟩:=hp.ob g _ hob hne
  exact ⟨cs,a1,a2,fun i x hx=>⟨.pure (hi.rep hx (a3 i x hx).1),(a3 i x hx).2⟩,fun e=>by cases e⟩
 ·rw [(J1 ho).1,(J1 ho').1]
 ·obtain ⟨rfl,rfl⟩:=J1 ho
  exact hd _ rfl hl
theorem Jr4 (hp:RepH w S h μ) {g0:Nat} {ob:Option AObj} (hob:h g0=ob) (hfz:∀o,ob=some o→o.fz=false) {ver esz len:Nat} {el:TypeId} {cells:List AV} (hne:cells≠[]) (hi:IntsL cells) {cv:Value}
  (hr:Ran w S1 (oneH g0 ob) μ (.arr g0 ver 0 len) (oneH g0 (some (.arr ver esz el cells false))) cv w') :
  ∃μ',RepH w' S (upd h g0 (some (.arr ver esz el cells false))) μ'∧Evo w S h μ w' S (upd h g0 (some (.arr ver esz el cells false))) μ'∧EvoV h μ (upd h g0 (some (.arr ver esz el cells false))) μ' ∧
   Rep w' S (upd h g0 (some (.arr ver esz el cells false))) μ' (.arr g0 ver 0 len) cv∧(∀g,g≠g0→μ'.b g=μ.b g)∧∀q,q<w.heap.size→(∀o,h g0=some o→o.live=true→q≠μ.b g0)→w'.heap[q]?=w.heap[q]?:=by
 obtain ⟨S2,μ2,r1,r2,r3,r4⟩:=hr
 have e0:oneH g0 (some (.arr ver esz el cells false)) g0=some (.arr ver esz el cells false):=Qe
 have own1:∀q,Own (oneH g0 ob) μ q→∃o,h g0=some o∧o.fz=false∧o.live=true∧q=μ.b g0:=by
  rintro q ⟨g,o,ho,hz,hl,rfl⟩
  obtain ⟨rfl,rfl⟩:=J1 ho
  exact ⟨o,hob,hz,hl,rfl⟩
 have frame:∀q,q<w.heap.size→(∀o,h g0=some o→o.live=true→q≠μ.b g0)→w'.heap[q]?=w.heap[q]?:=fun q hq hn=>r3.keep q hq fun ho=>by
  obtain ⟨o,h1,-,h2,h3⟩:=own1 q ho
  exact hn o h1 h2 h3
 have hlv:(AObj.arr ver esz el cells false).live=true:=J5.2 hne
 have hb0:(∃o,h g0=some o∧o.fz=false∧o.live=true∧μ2.b g0=μ.b g0)∨w.heap.size≤μ2.b g0:=by
  rcases r3.ow _ ⟨g0,_,e0,rfl,hlv,rfl⟩ with q|q
  ·exact .inl (own1 _ q)
  ·exact .inr q
 have mb:∀ {g},g≠g0→(μ.set g0 (μ2.b g0) (μ2.o g0)).b g=μ.b g∧(μ.set g0 (μ2.b g0) (μ2.o g0)).o g=μ.o g:=fun hn=>⟨Jb _ _ _ _ hn,Jb _ _ _ _ hn⟩
 have m0:(μ.set g0 (μ2.b g0) (μ2.o g0)).b g0=μ2.b g0∧(μ.set g0 (μ2.b g0) (μ2.o g0)).o g0=μ2.o g0:=⟨Jc _ _ _,Jc _ _ _⟩
 have vv:EvoV h μ (upd h g0 (some (.arr ver esz el cells false))) (μ.set g0 (μ2.b g0) (μ2.o g0)):=by
  intro g o ho
  by_cases e:g=g0
  ·subst e
   rw [hob] at ho
   subst ho
   obtain ⟨o',h1,h2,h3⟩:=r4 g o Qe
   rw [e0] at h1
   injection h1 with h1
   subst h1
   exact ⟨_,Jc _ _ _,h2,fun e=>⟨⟨m0.1.trans (h3 e).1.1,m0.2.trans (h3 e).1.2⟩,(h3 e).2⟩⟩
  ·exact ⟨o,by rw [Jb _ _ _ _ e];exact ho,Af _,fun _=>⟨mb e,.refl o⟩⟩
 have ev:Evo w S h μ w' S (upd h g0 (some (.arr ver esz el cells false))) (μ.set g0 (μ2.b g0) (μ2.o g0)):=by
  refine ⟨r3.os,r3.tape,r3.output,r3.size,fun q hq hn=>frame q hq fun o ho hl e=>?_,r3.shape,fun _ h=>h,fun _ h=>.inl h,?_,rfl⟩
  ·have hz:o.fz=false:=hfz o (by rw [←hob];exact ho)
   exact hn ⟨g0,o,ho,hz,hl,e.symm⟩
  ·rintro q ⟨g,o,ho,hz,hl,rfl⟩
   by_cases e:g=g0
   ·subst e
    rw [m0.1]
    rcases hb0 with ⟨o2,p1,p2,p3,p4⟩|hb0
    ·exact .inl ⟨g,o2,p1,p2,p3,p4.symm⟩
    ·exact .inr hb0
   ·rw [Jb _ _ _ _ e] at ho
    rw [(mb e).1]
    exact .inl ⟨g,o,ho,hz,hl,rfl⟩
 refine ⟨_,⟨fun g o ho=>?_,fun g1 g2 o1 o2 h1 h2 l1 l2 e=>?_,fun g o ho hz hl hs=>?_,fun q hq=>Ab (hp.lt q hq) r3.size⟩,ev,vv,?_,fun g hg=>(mb hg).1,frame⟩
 ·by_cases e:g=g0
  ·subst e
   rw [Jc] at ho
   injection ho with ho
   subst ho
   rw [m0.1,m0.2]
   intro hne
   obtain ⟨cs,a1,a2,a3,a4⟩:=r2.ob g _ e0 hne
   exact ⟨cs,a1,a2,fun i x hx=>⟨.pure (hi.rep hx (a3 i x hx).1),(a3 i x hx).2⟩,fun e=>by cases e⟩
  ·rw [Jb _ _ _ _ e] at ho
   rw [(mb e).1,(mb e).2]
   exact (hp.ob g o ho).evo hp ev vv fun hl=>frame _ ((hp.ob g o ho).lt hl) fun o2 ho2 hl2 q=>e (hp.inj g g0 o o2 ho ho2 hl hl2 q)
 ·have fresh:∀ {g o},g≠g0→h g=some o→o.live=true→μ.b g≠μ2.b g0:=fun hne ho hl q=>by
   rcases hb0 with ⟨o2,p1,-,p3,p4⟩|hb0
   ·exact hne (hp.inj _ g0 _ o2 ho p1 hl p3 (q.trans p4))
   ·have:=(hp.ob _ _ ho).lt hl;omega
  by_cases e1:g1=g0<;>by_cases e2:g2=g0
  ·rw [e1,e2]
  ·subst e1
   rw [Jb _ _ _ _ e2] at h2
   rw [m0.1,(mb e2).1] at e
   exact (fresh e2 h2 l2 e.symm).elim
  ·subst e2
   rw [Jb _ _ _ _ e1] at h1
   rw [m0.1,(mb e1).1] at e
   exact (fresh e1 h1 l1 e).elim
  ·rw [Jb _ _ _ _ e1] at h1
   rw [Jb _ _ _ _ e2] at h2
   rw [(mb e1).1,(mb e2).1] at e
   exact hp.inj g1 g2 o1 o2 h1 h2 l1 l2 e
 ·by_cases e:g=g0
  ·subst e
   rw [m0.1] at hs
   rcases hb0 with ⟨o2,p1,p2,p3,p4⟩|hb0
   ·exact hp.own g o2 p1 p2 p3 (p4▸hs)
   ·have:=hp.lt _ hs;omega
  ·rw [Jb _ _ _ _ e] at ho
   rw [(mb e).1] at hs
   exact hp.own g o ho hz hl hs
 ·cases r1 with
  | pure hp=>cases hp
  | arr _ _ _ _ _ o ho hv h1 hr1 =>
   rw [e0] at ho
   injection ho with ho
   subst ho
   refine .arr _ _ _ _ _ _ (Jc _ _ _) (Af _) h1 fun _=>?_
   obtain ⟨esz',el',cells',fz',q1,q2⟩:=hr1 rfl
   injection q1 with q11 q12 q13 q14 q15
   subst q12
   subst q14
   exact ⟨esz,el,cells,false,rfl,by rw [m0.1,m0.2];exact q2⟩
def entE (k:AV) (es:List (AV×AV)):Option Nat→List (AV×AV)
 | some j=>es.modify j fun e=>(k,e.2)
 | none=>es++[(k,.nils)]
def entX (es:List (AV×AV)):Option Nat→AV
 | some j=>match es[j]? with|some e=>e.2|none=>.any
 | none=>.nils
theorem Jod (hp:RepH w S h μ) {g:Nat} {es:List (AV×AV)} (ho:h g=some (.map 0 es false)) {mt kt et:TypeId} {ag:Bool} {sh:List Bool} (ht:P.underlying mt=some (.map kt et)) (hsh:eqSh P 6 kt=some sh) (hag:aggT P kt=some ag)
  (hz:(zeroValue et).run P w=.ok (.slice none 0 0) w) {k:AV} {ck:Value} (hk:RepP w S k ck) (hko:Jjg ag sh k=true) {r:Option Nat} (hr:posM ag sh k 0 es=some r) :
  ∃(es3:Array MapEntry) (clock:Nat) (e:MapEntry),(Instr.mapEntry mt (.map (some (μ.b g))) ck).run P w=.ok (.tuple #[e.val,goInt e.born]) (mapW w (μ.b g) es3 clock)∧(∃old c,w.heap[μ.b g]?=some (.map old c))∧Born es3 clock∧es3[r.getD es.length]?=some e ∧
   Rep w S h μ (entX es r) e.val∧EntsOK w S h μ (entE k es r) es3.toList:=by
 obtain ⟨d,hd⟩:=Jbx hsh
 obtain ⟨b,hb⟩:=Jbo hko
 obtain ⟨es',clock,m1,⟨m2,mbn⟩,-,m3⟩:=hp.ob g _ ho
 have hE:EntsOK w S h μ es es'.toList:=⟨by simpa using m2,fun i k v hi=>by
  obtain ⟨e,he,hk,hv⟩:=m3 i k v hi
  exact ⟨e,by simpa using he,hk,hv⟩⟩
 have hck:=Jkx (P:=P) (w:=w) (S:=S) (h:=h) (μ:=μ) false 6 10000 (by omega) hsh hag (.pure hk) hb
 obtain ⟨f1,f2⟩:=Y9 (h:=h) (μ:=μ) hd hsh hag hk hE hr
 cases r with
 | none =>
  refine ⟨es'.push { key:=ck,val:=.slice none 0 0,born:=clock },clock+1,{ key:=ck,val:=.slice none 0 0,born:=clock },?_,⟨_,_,m1⟩,Jl2 mbn _ _,?_,.pure .nils,?_⟩
  ·simp [mapW,Instr.mapEntry,run_underlying ht,MapKept.run_getObj_map m1,hck,f1,hz,MapKept.run_setObj_map _ m1,Result.andThen]
  ·simp [←m2]
  ·refine ⟨by simp [entE,m2],fun i k2 v2 hi=>?_⟩
   simp only [entE] at hi
   by_cases hlt:i<es.length
   ·rw [Ag hlt] at hi
    obtain ⟨e,he,h3⟩:=hE.2 i k2 v2 hi
    have:=(Ae.1 he).1
    exact ⟨e,by simpa [Ag this] using he,h3⟩
   ·rw [List.getElem?_append_right (by omega)] at hi
    have hie:i=es.length:=by
     have:=(Ae.1 hi).1
     simp at this;omega
    subst hie
    simp at hi
    obtain ⟨rfl,rfl⟩:=hi
    exact ⟨{ key:=ck,val:=.slice none 0 0,born:=clock },by simp [m2],hk,.pure .nils⟩
 | some j =>
  obtain ⟨k',v',e,g1,g2,g3,g4,g5⟩:=f2 j rfl
  have g2':es'[j]?=some e:=by simpa using g2
  have hbits:=Jqd g5 hk g3
  have hstay:(Instr.keyThatStays e.key ck).run P w=.ok ck w:=by simp [Instr.keyThatStays,hbits]
  refine ⟨es'.modify j fun e=>{ e with key:=ck },clock,{ e with key:=ck },?_,⟨_,_,m1⟩,Jak mbn _ _ fun _=>rfl,?_,?_,?_⟩
  ·simp [mapW,Instr.mapEntry,run_underlying ht,MapKept.run_getObj_map m1,hck,f1,g2',hstay,MapKept.run_setObj_map _ m1,Result.andThen]
  ·show (es'.modify j _)[j]?=_
   rw [Array.getElem?_modify,if_pos rfl,g2'];rfl
  ·simp only [entX,g1];exact g4
  ·refine ⟨by simp [entE];simpa using m2,fun i k2 v2 hi=>?_⟩
   simp only [entE,As] at hi
   cases hq:es[i]? with
   | none=>rw [hq] at hi;cases hi
   | some p =>
   obtain ⟨kp,vp⟩:=p
   rw [hq] at hi
   obtain ⟨e2,he2,h3,h4⟩:=hE.2 i kp vp hq
   have he2':es'[i]?=some e2:=by simpa using he2
   by_cases hij:j=i
   ·subst hij
    simp only [Ad,if_true,Option.some.injEq,Ak] at hi
    obtain ⟨rfl,rfl⟩:=hi
    rw [g2'] at he2'
    injection he2' with he2'
    subst he2'
    exact ⟨{ e with key:=ck },by simp [g2'],hk,h4⟩
   ·simp only [Ad,if_neg hij,Option.some.injEq,Ak] at hi
    obtain ⟨rfl,rfl⟩:=hi
    exact ⟨e2,by simp [he2',hij],h3,h4⟩
theorem Jsq (n:Nat):(asInt (goInt n)).run P w=.ok (n:Int) w:=by simp [asInt,asIntOf,goInt]
theorem Jmv {b:Nat} {es:Array MapEntry} {clock j:Nat} {e:MapEntry} (hb:w.heap[b]?=some (.map es clock)) (hn:Born es clock) (hj:es[j]?=some e) (mt:TypeId) (cv:Value) :
  (Instr.entryStore mt (.map (some b)) (goInt e.born) cv).run P w=.ok () (mapW w b (es.modify j fun e=>{ e with val:=cv }) clock):=by
 have hidx:es.findIdx? (fun x=>((x.born:Nat):Int)==((e.born:Nat):Int))=some j:=by
  rw [WideElems.findIdx_arr]
  exact WideElems.findIdx_born hn.2 (by simpa using hj)
 simp [mapW,Instr.entryStore,MapKept.run_getObj_map hb,Jsq,hidx,MapKept.run_setObj_map _ hb,Result.andThen]
abbrev mL (k:(Ty.p I I).T) (es:List ((Ty.p I I).T×List Int)):List Int:=(Xm (a:=.p I I) (b:=.ls I) k es).getD []
abbrev mS (k:(Ty.p I I).T) (l:List Int) (es:List ((Ty.p I I).T×List Int)):List ((Ty.p I I).T×List Int):=mSet (a:=.p I I) (b:=.ls I) k l es
abbrev mP (k:(Ty.p I I).T) (es:List ((Ty.p I I).T×List Int)):Option Nat:=mPos (a:=.p I I) (b:=.ls I) k es
def mE (i:Nat) (es:List ((Ty.p I I).T×List Int)):List (AV×AV):=moEs (.p I I) I i es
theorem Jhx (i:Nat) (e:(Ty.p I I).T×List Int) (r:List ((Ty.p I I).T×List Int)):mE i (e::r)=(avT (.p I I) e.1,.arr (mB+i) e.2.length 0 e.2.length)::mE (i+1) r:=rfl
theorem Jox:kOK true [false,false] (.p I I)=true:=rfl
theorem pos_mo (k:(Ty.p I I).T):∀(i n:Nat) (es:List ((Ty.p I I).T×List Int)),posM true [false,false] (avT (.p I I) k) n (mE i es)=some ((mP k es).map (n+·))
 | i,n,[]=>rfl
 | i,n,e::r=>by
  show (match eqV true [false,false] (avT (.p I I) k) (avT (.p I I) e.1) with|some true=>some (some n)|some false=>posM true [false,false] (avT (.p I I) k) (n+1) (mE (i+1) r)|none=>none)=_
  rw [Jnc Jox]
  show _=some (Option.map (n+·) (if (Ty.p I I).eqb k e.1=true then some 0 else (mP k r).map (·+1)))
  cases he:(Ty.p I I).eqb k e.1 with
  | true=>simp
  | false =>
   simp only [Bool.false_eq_true,if_false]
   rw [pos_mo k (i+1) (n+1) r]
   cases mP k r with
   | none=>rfl
   | some j=>simp only [Ad];congr 2;omega
theorem Jvf:∀(i:Nat) (es:List ((Ty.p I I).T×List Int)),(mE i es).length=es.length
 | i,[]=>rfl
 | i,e::r=>by rw [Jhx,Ao,Ao,Jvf (i+1) r]
theorem mP_yes {k:(Ty.p I I).T} {e:(Ty.p I I).T×List Int} {r:List ((Ty.p I I).T×List Int)} (h:(Ty.p I I).eqb k e.1=true) (l:List Int):mP k (e::r)=some 0∧mL k (e::r)=e.2∧mS k l (e::r)=(k,l)::r :=
 ⟨if_pos h,congrArg (fun x=>Option.getD x []) (if_pos h:Xm (a:=.p I I) (b:=.ls I) k (e::r)=some e.2),if_pos h⟩
theorem mP_no {k:(Ty.p I I).T} {e:(Ty.p I I).T×List Int} {r:List ((Ty.p I I).T×List Int)} (h:¬(Ty.p I I).eqb k e.1=true) (l:List Int):mP k (e::r)=(mP k r).map (·+1)∧mL k (e::r)=mL k r∧mS k l (e::r)=e::mS k l r :=
 ⟨if_neg h,congrArg (fun x=>Option.getD x []) (if_neg h:Xm (a:=.p I I) (b:=.ls I) k (e::r)=Xm (a:=.p I I) (b:=.ls I) k r),if_neg h⟩
theorem Jtz {k:(Ty.p I I).T}:∀ {es:List ((Ty.p I I).T×List Int)} {j:Nat},mP k es=some j→∃k',es[j]?=some (k',mL k es)
 | [],j,h=>by cases h
 | e::r,j,h=>by
  by_cases he:(Ty.p I I).eqb k e.1=true
  ·obtain ⟨h1,h2,-⟩:=mP_yes (r:=r) he []
   rw [h1] at h
   injection h with h
   subst h
   rw [h2]
   exact ⟨e.1,rfl⟩
  ·obtain ⟨h1,h2,-⟩:=mP_no (r:=r) he []
   rw [h1] at h
   rw [h2]
   cases hq:mP k r with
   | none=>rw [hq] at h;cases h
   | some j' =>
    rw [hq] at h
    injection h with h
    subst h
    exact Jtz hq
theorem Jt1 {k:(Ty.p I I).T}:∀ {es:List ((Ty.p I I).T×List Int)},mP k es=none→mL k es=[]
 | [],h=>rfl
 | e::r,h=>by
  by_cases he:(Ty.p I I).eqb k e.1=true
  ·rw [(mP_yes (r:=r) he []).1] at h;cases h
  ·obtain ⟨h1,h2,-⟩:=mP_no (r:=r) he []
   rw [h1] at h
   rw [h2]
   cases hq:mP k r with
   | none=>exact Jt1 hq
   | some j'=>rw [hq] at h;cases h
theorem set_mo (k:(Ty.p I I).T) (l:List Int):∀(i:Nat) (es:List ((Ty.p I I).T×List Int)),
  (entE (avT (.p I I) k) (mE i es) (mP k es)).modify ((mP k es).getD es.length) (fun e=>(e.1,.arr (mB+i+(mP k es).getD es.length) l.length 0 l.length))=mE i (mS k l es)
 | i,[]=>rfl
 | i,e::r=>by
  have ih:=set_mo k l (i+1) r
  by_cases he:(Ty.p I I).eqb k e.1=true
  ·have h1:mP k (e::r)=some 0:=if_pos he
   have h2:mS k l (e::r)=(k,l)::r:=if_pos he
   rw [h1,h2]
   rfl
  ·have h1:mP k (e::r)=(mP k r).map (·+1):=if_neg he
   have h2:mS k l (e::r)=e::mS k l r:=if_neg he
   rw [h1,h2]
   cases hq:mP k r with
   | none =>
    rw [hq] at ih
    simp only [Option.map_none,Option.getD_none,entE,Jhx,Ao,List.cons_append,Aq] at ih ⊢
    rw [←ih]
    congr 3
    funext e
    rw [show mB+(i+1)+r.length=mB+i+(r.length+1) by omega]
   | some j =>
    rw [hq] at ih
    simp only [Ad,Option.getD_some,entE,Jhx,Aq] at ih ⊢
    rw [←ih]
    congr 3
    funext e
    rw [show mB+(i+1)+j=mB+i+(j+1) by omega]
theorem mS_get (k:(Ty.p I I).T) (l:List Int):∀(es:List ((Ty.p I I).T×List Int)) (i:Nat),((mS k l es)[i]?).map (·.2)=if i=(mP k es).getD es.length then some l else (es[i]?).map (·.2)
 | [],0=>rfl
 | [],i+1=>rfl
 | e::r,i=>by
  by_cases he:(Ty.p I I).eqb k e.1=true
  ·have h1:mP k (e::r)=some 0:=if_pos he
   have h2:mS k l (e::r)=(k,l)::r:=if_pos he
   rw [h1,h2]
   cases i with
   | zero=>rfl
   | succ i=>simp
  ·have h1:mP k (e::r)=(mP k r).map (·+1):=if_neg he
   have h2:mS k l (e::r)=e::mS k l r:=if_neg he
   rw [h1,h2]
   cases i with
   | zero=>cases mP k r<;>simp
   | succ i =>
    have ih:=mS_get k l r i
    rw [Ah,ih]
    cases mP k r<;>simp
theorem encH_mo {s:Dn.S Ty.T} (hi:Inv s) {g:Nat} {el:TypeId} {es:List ((Ty.p I I).T×List Int)} (hm:s.mo=some ⟨g,.p I I,I,el,es⟩) (k:(Ty.p I I).T) (l:List Int) :
  encH (⟨s.sl,s.lo,s.ob,s.ln,some ⟨g,.p I I,I,el,mS k l es⟩⟩:Dn.S Ty.T)=upd (upd (encH s) (mB+(mP k es).getD es.length) (some (Zu I el l))) g (some (.map 0 (mE 0 (mS k l es)) false)):=by
 obtain ⟨m1,-,m3⟩:=hi.mo _ hm
 have m1:g<mB:=m1
 funext g'
 have free:moN s.mo g'=true→look g' s.ob=none:=fun h=>by
  cases hq:look g' s.ob with
  | none=>rfl
  | some o=>rw [m3 g' o hq] at h;cases h
 by_cases e1:g'=g
 ·subst e1
  rw [Jc]
  have:look g' s.ob=none:=free (by simp [moN,hm])
  simp [encH,this,moAt,Mo.at]
  rfl
 ·rw [Jb _ _ _ _ e1]
  by_cases e2:mB≤g'
  ·have hlk:look g' s.ob=none:=free (by simp [moN,hm,Ar e2])
   have hg:=mS_get k l es (g' - mB)
   have at':∀es:List ((Ty.p I I).T×List Int),encH (⟨s.sl,s.lo,s.ob,s.ln,some ⟨g,.p I I,I,el,es⟩⟩:Dn.S Ty.T) g'=((es[g' - mB]?).map (·.2)).map (Zu I el):=fun es=>by
    have:encH (⟨s.sl,s.lo,s.ob,s.ln,some ⟨g,.p I I,I,el,es⟩⟩:Dn.S Ty.T) g'=(nthL (α:=(Ty.p I I).T×List Int) es (g' - mB)).map fun e=>Zu I el e.2:=by
     simp only [encH,hlk,moAt,Mo.at,if_neg e1,if_pos e2]
     rfl
    rw [this]
    unfold nthL
    cases es[g' - mB]?<;>rfl
   have hs:encH s g'=((es[g' - mB]?).map (·.2)).map (Zu I el):=by
    rw [←at' es,←hm]
   refine (at' _).trans ((congrArg (Option.map (Zu I el)) hg).trans ?_)
   by_cases e3:g'=mB+(mP k es).getD es.length
   ·subst e3
    rw [Jc,Ap,if_pos rfl]
    rfl
   ·rw [Jb _ _ _ _ e3,if_neg (by omega),hs]
    rfl
  ·rw [Jb _ _ _ _ (by omega)]
   simp only [encH]
   cases look g' s.ob with
   | some o =>
    have:encC (⟨s.sl,s.lo,s.ob,s.ln,some ⟨g,.p I I,I,el,mS k l es⟩⟩:Dn.S Ty.T)=encC s:=by funext c;cases c<;>rfl
    cases o<;>simp only [encO,this]
   | none=>simp only [hm,moAt,Mo.at,if_neg e1,if_neg e2]
theorem ents_evo {S':Nat→Prop} {h':Heap} {μ':Gh} {es:List (AV×AV)} {es':List MapEntry} (hh:EntsOK w S h μ es es') (hp:RepH w S h μ) (ev:Evo w S h μ w' S' h' μ') (vv:EvoV h μ h' μ'):EntsOK w' S' h' μ' es es' :=
 ⟨hh.1,fun i k v hi=>by
  obtain ⟨e,a,b,c⟩:=hh.2 i k v hi
  exact ⟨e,a,b.evo hp ev,c.evo hp ev vv⟩⟩
theorem ents_set {es:List (AV×AV)} {es':Array MapEntry} (hh:EntsOK w S h μ es es'.toList) {j:Nat} {v:AV} {cv:Value} (hv:Rep w S h μ v cv):EntsOK w S h μ (es.modify j fun e=>(e.1,v)) (es'.modify j fun e=>{ e with val:=cv }).toList:=by
 refine ⟨by simpa using hh.1,fun i k2 v2 hi=>?_⟩
 rw [As] at hi
 cases hq:es[i]? with
 | none=>rw [hq] at hi;cases hi
 | some p =>
  obtain ⟨kp,vp⟩:=p
  rw [hq] at hi
  obtain ⟨e2,he2,h3,h4⟩:=hh.2 i kp vp hq
  have he2':es'[i]?=some e2:=by simpa using he2
  by_cases hij:j=i
  ·subst hij
   simp only [Ad,if_true,Option.some.injEq,Ak] at hi
   obtain ⟨rfl,rfl⟩:=hi
   exact ⟨{ e2 with val:=cv },by simp [he2'],h3,hv⟩
  ·simp only [Ad,if_neg hij,Option.some.injEq,Ak] at hi
   obtain ⟨rfl,rfl⟩:=hi
   exact ⟨e2,by simp [he2',hij],h3,h4⟩
theorem fill_one (f:Nat→Value) (n:Int):Instr.fill (fun i=>some (i * 1,1)) ((Array.range (1 * 1)).map f) [(0,.int .i64 n)]=some #[.int .i64 n]:=by
 have:∀f:Nat→Value,((Array.range 1).map f).setIfInBounds 0 (.int .i64 n)=#[.int .i64 n]:=fun f=>by
  apply Array.ext
  ·simp
  ·intro j h1 h2
   have:j=0:=by simpa using h2
   subst this
   simp
 simp [Instr.fill,Value.cells,this]
theorem mE_get:∀(i:Nat) (es:List ((Ty.p I I).T×List Int)) (j:Nat),(mE i es)[j]?=(es[j]?).map fun e=>(avT (.p I I) e.1,.arr (mB+(i+j)) e.2.length 0 e.2.length)
 | i,[],j=>rfl
 | i,e::r,0=>rfl
 | i,e::r,j+1=>by
  rw [Jhx,Ah,Ah,mE_get (i+1) r j,show i+1+j=i+(j+1) by omega]
theorem Yw:∀l:List Int,Ac (α:=I.T) (Ty.cs I) l=l.map (AV.int .i64)
 | []=>rfl
 | a::r=>congrArg (AV.int .i64 a::·) (Yw r)
theorem Jlu (el:TypeId) (l:List Int) (n:Int):Zu I el (l++[n])=.arr (l.length+1) 1 el (Ac (α:=I.T) (Ty.cs I) l++[AV.int .i64 n]) false:=by
 show AObj.arr (l++[n]).length 1 el (Ac (α:=I.T) (Ty.cs I) (l++[n])) false=_
 rw [Yw,Yw,List.length_append,List.map_append]
 rfl
structure AddT (P:Program) (mt kT hT sT:TypeId) (bytes:Nat):Prop where
 hag:aggT P kT=some true
 hsz:szT P kT=some 2
 hsh:eqSh P 6 kT=some [false,false]
 hu:P.underlying sT=some (.slice hT)
 hi:∃i,P.info? hT=some i∧i.size=1∧i.bytes=bytes∧i.zero.isSome=true
 hz:zc P hT=some [.int .i64 0]
 ht:P.underlying mt=some (.map kT sT)
 hzs:zvC P sT=some .nils
theorem add_run {mt kT hT sT:TypeId} {bytes:Nat} (T:AddT P mt kT hT sT bytes) (hp:RepH w S h μ) {g:Nat} {es:List ((Ty.p I I).T×List Int)} (hm:h g=some (.map 0 (mE 0 es) false))
  (hrow:∀j e,es[j]?=some e→h (mB+j)=some (Zu I hT e.2)) (hfree:h (mB+es.length)=none) (hg:g<mB) (x y n:Int)
  (hfit:((mL (x,y) es).length+1) * bytes≤room∧((mL (x,y) es).length+1:Int)≤9223372036854775807) (ty:TypeId) :
  ∃p w1 ck cy w2 v0 st w3 cv w4 w5,(Instr.box kT (.agg #[.int .i64 x,.int .i64 y])).run P w=.ok p w1∧(Instr.loadAt kT p).run P w1=.ok ck w1∧(Instr.buildSlice sT 1 #[(0,.int .i64 n)]).run P w1=.ok cy w2 ∧
   (Instr.mapEntry mt (.map (some (μ.b g))) ck).run P w2=.ok (.tuple #[v0,goInt st]) w3∧(Builtin.append_ #[sT,sT] ty #[v0,cy]).run P w3=.ok cv w4∧(Instr.entryStore mt (.map (some (μ.b g))) (goInt st) cv).run P w4=.ok () w5 ∧
   ∃S' μ',RepH w5 S' (upd (upd h (mB+(mP (x,y) es).getD es.length) (some (Zu I hT (mL (x,y) es++[n])))) g (some (.map 0 (mE 0 (mS (x,y) (mL (x,y) es++[n]) es)) false))) μ' ∧
    Evo w S h μ w5 S' (upd (upd h (mB+(mP (x,y) es).getD es.length) (some (Zu I hT (mL (x,y) es++[n])))) g (some (.map 0 (mE 0 (mS (x,y) (mL (x,y) es++[n]) es)) false))) μ' ∧
    EvoV h μ (upd (upd h (mB+(mP (x,y) es).getD es.length) (some (Zu I hT (mL (x,y) es++[n])))) g (some (.map 0 (mE 0 (mS (x,y) (mL (x,y) es++[n]) es)) false))) μ':=by
 obtain ⟨i,hi,hsz1,hby,hzi⟩:=T.hi
 have hp0:RepH w (fun _=>False) (oneH 0 none) μ:=⟨fun g o ho=>(by obtain ⟨-,e⟩:=J1 ho;cases e),fun g g' o o' ho=>(by obtain ⟨-,e⟩:=J1 ho;cases e),fun g o ho=>(by obtain ⟨-,e⟩:=J1 ho;cases e),fun b hb=>hb.elim⟩
 have hk0:∀ {w:World} {S:Nat→Prop},RepP w S (.agg [.int .i64 x,.int .i64 y]) (.agg #[.int .i64 x,.int .i64 y]):=fun {w S}=>.agg _ _ rfl (fun i y hi=>by
   match i,hi with
   | 0,hi=>rfl
   | 1,hi=>rfl) fun i z hi=>by
   match i,hi with
   | 0,hi=>injection hi with hi;subst hi;exact .int _ _
   | 1,hi=>injection hi with hi;subst hi;exact .int _ _
 obtain ⟨p,w1,rbox,S1,μ1,q1,q2,q3,q4⟩:=Jmg (P:=P) hp0 (e:=kT) (.pure hk0) (c:=[.int .i64 x,.int .i64 y]) rfl 0
 have o1:Old w w1:=⟨q3.os,q3.tape,q3.output,q3.size,fun b hb=>q3.keep b hb fun ⟨g,o,ho,_⟩=>(by obtain ⟨-,e⟩:=J1 ho;cases e)⟩
 obtain ⟨ck,rload,q5⟩:=Y4 (P:=P) q2 T.hag T.hsz (.inl rfl) q1 (v:=.agg [.int .i64 x,.int .i64 y]) (by simp [Yk,Q2,pack,upd,Jp,oneH,cut])
 have hck:ck=.agg #[.int .i64 x,.int .i64 y]:=by
  obtain ⟨cs,rfl,hl,hh⟩:=q5.agg_inv
  have e0:=(hh 0 _ rfl).1.int_inv
  have e1:=(hh 1 _ rfl).1.int_inv
  simp at hl
  congr 1
  apply Array.ext
  ·simp [←hl]
  ·intro j h1 h2
   match j,h1 with
   | 0,h1=>simpa [Array.getD_eq_getD_getElem?,h1] using e0
   | 1,h1=>simpa [Array.getD_eq_getD_getElem?,h1] using e1
   | j+2,h1=>omega
 obtain ⟨zv,hzv⟩:=Option.isSome_iff_exists.1 hzi
 have rlit:=run_buildSlice (P:=P) w1 sT hT 1 #[(0,.int .i64 n)] #[.int .i64 n] i zv T.hu hi hzv (by omega) (by omega) (by rw [hsz1];exact fill_one _ _)
 have o2:Old w1 (w1.alloc (.cells #[.int .i64 n] hT)):=Je0 _
 obtain ⟨w2,hw2⟩:∃w2,w2=w1.alloc (.cells #[.int .i64 n] hT):=⟨_,rfl⟩
 rw [←hw2] at rlit o2
 have hnew:w2.heap[w1.heap.size]?=some (.cells #[.int .i64 n] hT (0,0)):=by rw [hw2];exact heap_alloc_new w1 _
 have hsz2:w1.heap.size<w2.heap.size:=(Array.getElem?_eq_some_iff.1 hnew).1
 have o12:Old w w2:=⟨o2.os.trans o1.os,o2.tape.trans o1.tape,⟨o2.output.1.trans o1.output.1,Ai o1.output.2 o2.output.2⟩,Ai o1.size o2.size,fun b hb=>(o2.keep b (Ab hb o1.size)).trans (o1.keep b hb)⟩
 have ev2:Evo w S h μ w2 S h μ:=Jag o12
 have hp2:RepH w2 S h μ:=⟨fun g ob ho=>(hp.ob g ob ho).evo hp ev2 (.refl _ _) fun hl=>o12.keep _ ((hp.ob g ob ho).lt hl),hp.inj,hp.own,fun b hb=>Ab (hp.lt b hb) o12.size⟩
 have hpos:=pos_mo (x,y) 0 0 es
 have hpos:posM true [false,false] (avT (.p I I) (x,y)) 0 (mE 0 es)=some (mP (x,y) es):=by
  rw [hpos];cases mP (x,y) es<;>simp
 have hzero:(zeroValue sT).run P w2=.ok (.slice none 0 0) w2:=by
  have:=T.hzs
  unfold zvC at this
  split at this
  ·rename_i i' hi'
   split at this
   ·rename_i z hz
    have hr:Rep w2 S h μ .nils z:=Jm3 this
    simp [zeroValue,typeInfo,hi',hz,hr.nils_inv]
   ·cases this
  ·cases this
 obtain ⟨es3,clock,e,rent,⟨old,c0,hold⟩,hborn,he,hval,hents⟩:=Jod (P:=P) hp2 hm T.ht T.hsh T.hag hzero (k:=avT (.p I I) (x,y)) (ck:=ck) (by rw [hck];exact hk0) rfl hpos
 obtain ⟨S3,μ3,-,hp3,ev3,vv3⟩:=map_set hp2 hm hold hents hborn
 obtain ⟨w3,hw3⟩:∃w3,w3=mapW w2 (μ.b g) es3 clock:=⟨_,rfl⟩
 rw [←hw3] at rent hp3 ev3
 have hlt:μ.b g<w2.heap.size:=(Array.getElem?_eq_some_iff.1 hold).1
 have hb3:w3.heap[μ.b g]?=some (.map es3 clock):=by rw [hw3];simp [mapW,hlt]
 have keep3:∀q,q≠μ.b g→w3.heap[q]?=w2.heap[q]?:=fun q hq=>by
  rw [hw3]
  simp only [mapW,Array.getElem?_setIfInBounds]
  rw [if_neg (fun e=>hq e.symm)]
 have hbg:μ.b g<w.heap.size:=(hp.ob g _ hm).lt rfl
 have hnew3:w3.heap[w1.heap.size]?=some (.cells #[.int .i64 n] hT (0,0)):=(keep3 _ (by have:=o1.size;omega)).trans hnew
 have hy:RepP w3 (fun q=>q=w1.heap.size) (.lst 1 [.int .i64 n]) (.slice (some ⟨w1.heap.size,0,none⟩) 1 1):=by
  refine .lst 1 [.int .i64 n] ⟨w1.heap.size,0,none⟩ 1 (fun _=>.int .i64 n) (fun _=>rfl) (Af _) (fun i x hi=>?_) (fun _ _ _=>rfl) (fun i x hi=>?_)
  ·match i,hi with
   | 0,_=>simp [Addr.add,World.cell?,hnew3]
  ·match i,hi with
   | 0,hi=>injection hi with hi;subst hi;exact .int _ _
 obtain ⟨J,hJ⟩:∃J,J=(mP (x,y) es).getD es.length:=⟨_,rfl⟩
 have hJg:mB+J≠g:=by omega
 obtain ⟨ob,x0,hob,hx0,hap,hfl⟩:∃(ob:Option AObj) (x0:AV),h (mB+J)=ob∧(∀ {v},Rep w2 S h μ (entX (mE 0 es) (mP (x,y) es)) v→Rep w3 (fun q=>q=w1.heap.size) (oneH (mB+J) ob) μ3 x0 v) ∧
   appV (oneH (mB+J) ob) (mB+J) 1 bytes hT x0 (.lst 1 [.int .i64 n])=some (.arr (mB+J) ((mL (x,y) es).length+1) 0 ((mL (x,y) es).length+1),oneH (mB+J) (some (Zu I hT (mL (x,y) es++[n])))) ∧
   ∀o,ob=some o→∃ver esz el cells,o=.arr ver esz el cells false∧IntsL cells:=by
  have hlit:∀H:Heap,lenV H (.lst 1 [.int .i64 n])=some 1∧Q5 H 1 (.lst 1 [.int .i64 n])=some [.int .i64 n]:=fun H=>⟨rfl,rfl⟩
  have hcs:=Yw
  have hints:∀l:List Int,IntsL (Ac (α:=I.T) (Ty.cs I) l):=fun l a ha=>by
   rw [hcs] at ha
   obtain ⟨q,-,rfl⟩:=List.mem_map.1 ha
   exact ⟨_,_,rfl⟩
  cases hq:mP (x,y) es with
  | none =>
   have hl:=Jt1 hq
   rw [hq] at hJ
   have hJ:J=es.length:=hJ
   refine ⟨none,.nils,by rw [hJ];exact hfree,fun {v} hr=>?_,?_,fun o ho=>by cases ho⟩
   ·rw [Rep.nils_inv (h:=h) hr];exact .pure .nils
   ·rw [hl] at hfit ⊢
    unfold appV
    rw [(hlit _).1,(hlit _).2]
    have h2:(1:Int) * (bytes:Int)≤(room:Nat):=by have:=hfit.1;simp at this;omega
    simp only [List.cons_ne_nil,if_false,Int.toNat_one,Jp,Qe,Yo]
    rw [if_pos ⟨h2,by decide⟩]
    rfl
  | some j =>
   obtain ⟨k',hk'⟩:=Jtz hq
   rw [hq] at hJ
   have hJ:J=j:=hJ
   subst hJ
   have hr0:=hrow J _ hk'
   have hr0:h (mB+J)=some (.arr (mL (x,y) es).length 1 hT ((mL (x,y) es).flatMap (Ty.cs I)) false):=hr0
   have hlen:((mL (x,y) es).flatMap (Ty.cs I)).length=(mL (x,y) es).length:=by rw [hcs,List.length_map]
   refine ⟨_,.arr (mB+J) (mL (x,y) es).length 0 (mL (x,y) es).length,hr0,fun {v} hr=>?_,?_,fun o ho=>?_⟩
   ·have hx:entX (mE 0 es) (some J)=.arr (mB+J) (mL (x,y) es).length 0 (mL (x,y) es).length:=by
     simp only [entX]
     have:=(mE_get 0 es J).trans (congrArg (Option.map _) hk')
     rw [this,Nat.zero_add]
     rfl
    rw [hx] at hr
    have h3:=hr.evo hp2 ev3 vv3
    cases h3 with
    | pure hp=>cases hp
    | arr _ _ _ _ _ o ho hv h1 hr1 =>
     rw [Jb _ _ _ _ hJg,hr0] at ho
     exact .arr _ _ _ _ _ o (by rw [Qe];exact ho) hv h1 hr1
   ·unfold appV
    rw [(hlit _).1,(hlit _).2]
    simp only [Qe,Yo]
    have h2:((((mL (x,y) es).length:Nat):Int)+1) * (bytes:Int)≤(room:Nat):=by exact_mod_cast hfit.1
    refine (if_pos ⟨trivial,trivial,trivial,by rw [hlen];simp,h2,hfit.2⟩).trans ((if_neg (by simp)).trans ?_)
    have hcut:cut ((mL (x,y) es).flatMap (Ty.cs I)) (0 * 1) ((mL (x,y) es).length * 1)=(mL (x,y) es).flatMap (Ty.cs I):=by
     simp only [cut,Nat.zero_mul,Nat.mul_one,List.drop_zero]
     rw [←hlen,List.take_length]
    rw [hcut]
    rw [Jlu]
    rfl
   ·injection ho with ho
    subst ho
    exact ⟨_,_,_,_,rfl,hints _⟩
 have hob3:upd h g (some (.map 0 (entE (avT (.p I I) (x,y)) (mE 0 es) (mP (x,y) es)) false)) (mB+J)=ob:=by rw [Jb _ _ _ _ hJg];exact hob
 have hlv:∀o,ob=some o→o.live=true→μ3.b (mB+J)≠μ3.b g:=fun o ho hl e=>hJg (hp3.inj _ _ _ _ (by rw [hob3];exact ho) (Jc _ _ _) hl rfl e)
 have eμ:μ3.b g=μ.b g:=by
  obtain ⟨o',a1,a2,a3⟩:=vv3 g _ hm
  rw [Jc] at a1
  injection a1 with a1
  subst a1
  exact (a3 rfl).1.1
 have eJ:∀o,ob=some o→μ3.b (mB+J)=μ.b (mB+J):=fun o ho=>by
  obtain ⟨o',a1,a2,a3⟩:=vv3 (mB+J) o (by rw [hob];exact ho)
  rw [Jb _ _ _ _ hJg,hob,ho] at a1
  injection a1 with a1
  subst a1
  exact (a3 rfl).1.1
 have hp1:RepH w3 (fun q=>q=w1.heap.size) (oneH (mB+J) ob) μ3:=by
  refine repH_one hp3 hob3 hfl (fun q hq=>?_) fun o ho hl hq=>?_
  ·rw [hq];exact (Array.getElem?_eq_some_iff.1 hnew3).1
  ·have hq:μ3.b (mB+J)=w1.heap.size:=hq
   rw [eJ o ho] at hq
   have:=(hp.ob (mB+J) o (by rw [hob];exact ho)).lt hl
   have:=o1.size
   omega
 obtain ⟨cv,w4,rapp,hran⟩:=Jbp (P:=P) hp1 (t:=sT) (ty:=ty) T.hu hi T.hz (by omega) (hx0 hval) (.pure hy) (by rw [hsz1,hby];exact hap)
 have hmr:=Jlu hT (mL (x,y) es) n
 rw [hmr] at hran
 obtain ⟨μ4,hp4,ev4,vv4,hv4,hb4,frame⟩:=Jr4 hp3 hob3 (fun o ho=>by obtain ⟨_,_,_,_,rfl,_⟩:=hfl o ho;rfl) (by simp) (fun a ha=>by
  rcases List.mem_append.1 ha with ha|ha
  ·rw [Yw] at ha
   obtain ⟨q,-,rfl⟩:=List.mem_map.1 ha
   exact ⟨_,_,rfl⟩
  ·rw [Aa] at ha
   exact ⟨_,_,ha⟩) hran
 have hb4':w4.heap[μ.b g]?=some (.map es3 clock):=(frame _ (Array.getElem?_eq_some_iff.1 hb3).1 fun o ho hl e=>hlv o (by rw [←hob3];exact ho) hl (by rw [←e,eμ])).trans hb3
 have hge:μ4.b g=μ.b g:=(hb4 g fun e=>hJg e.symm).trans eμ
 have rst:=Jmv (P:=P) hb4' hborn he mt cv
 have ev24:=ev3.trans ev4
 have vv24:=vv3.trans vv4
 have hents4:=ents_set (ents_evo hents hp2 ev24 vv24) (j:=(mP (x,y) es).getD (mE 0 es).length) hv4
 have hset:(entE (avT (.p I I) (x,y)) (mE 0 es) (mP (x,y) es)).modify ((mP (x,y) es).getD (mE 0 es).length) (fun e=>(e.1,.arr (mB+J) ((mL (x,y) es).length+1) 0 ((mL (x,y) es).length+1)))=mE 0 (mS (x,y) (mL (x,y) es++[n]) es):=by
  have:=set_mo (x,y) (mL (x,y) es++[n]) 0 es
  rw [←this,Jvf,hJ]
  simp only [List.length_append,List.length_singleton,Nat.add_zero]
 rw [hset] at hents4
 obtain ⟨S5,μ5,-,hp5,ev5,vv5⟩:=map_set hp4 (g:=g) (ver:=0) (by rw [Jb _ _ _ _ (fun e=>hJg e.symm),Jc]) (by rw [hge];exact hb4') hents4 (Jak hborn _ _ fun _=>rfl)
 have hH:upd (upd (upd h g (some (.map 0 (entE (avT (.p I I) (x,y)) (mE 0 es) (mP (x,y) es)) false))) (mB+J) (some (.arr ((mL (x,y) es).length+1) 1 hT (Ac (α:=I.T) (Ty.cs I) (mL (x,y) es)++[AV.int .i64 n]) false))) g (some (.map 0 (mE 0 (mS (x,y) (mL (x,y) es++[n]) es)) false)) =
   upd (upd h (mB+J) (some (Zu I hT (mL (x,y) es++[n])))) g (some (.map 0 (mE 0 (mS (x,y) (mL (x,y) es++[n]) es)) false)):=by
  funext g'
  by_cases e1:g'=g
  ·subst e1;rw [Jc,Jc]
  ·rw [Jb _ _ _ _ e1,Jb _ _ _ _ e1]
   by_cases e2:g'=mB+J
   ·subst e2;rw [Jc,Jc,hmr]
   ·rw [Jb _ _ _ _ e2,Jb _ _ _ _ e2,Jb _ _ _ _ e1]
 rw [hH] at hp5 ev5 vv5
 rw [hge] at hp5 ev5
 rw [Jvf] at rst hp5 ev5
 rw [←hJ]
 exact ⟨p,w1,ck,_,w2,e.val,e.born,w3,cv,w4,_,rbox,rload,rlit,rent,rapp,rst,S5,μ5,hp5,(ev2.trans ev24).trans ev5,((EvoV.refl _ _).trans vv24).trans vv5⟩
def Jmn:Code→List Oper
 | .region _ ops _=>ops.toList
 | .seq a b=>Jmn a++Jmn b
 | _=>[]
def opAt (l:List Oper) (i:Nat) (dst:Option Tmp) (op:Op):Oper:={ l.getD i default with dst:=dst,op:=op,guard:=none }
def addCode (mt kT hT sT:TypeId) (l:List Oper):Code :=
 .seq (.region 0 #[opAt l 0 (some 4) (.box kT (.tmp 1))] false)
  (.region 1 #[opAt l 1 (some 6) (.move (.tmp 0)),opAt l 2 (some 7) (.load kT (.tmp 4)),opAt l 3 (some 9) (.move (.tmp 2)),opAt l 4 (some 10) (.buildSlice sT 1 #[(0,.tmp 9)]),
   opAt l 5 (some 11) (.mapEntry mt (.tmp 6) (.tmp 7)),opAt l 6 (some 8) (.extract (.tmp 11) 0),{ opAt l 7 (some 12) (.call ⟨.builtin .append,#[.tmp 8,.tmp 10],#[sT,sT]⟩) with type:=sT },
   opAt l 8 (some 13) (.extract (.tmp 11) 1),opAt l 9 none (.entryStore mt (.tmp 6) (.tmp 13) (.tmp 12))] false)
structure AddF (P:Program) (id:FuncId) (mt kT hT sT:TypeId):Prop where
 lt:Nat.ble yB id=false
 fn : ∃ fn c, P.funcs[id]? = some fn ∧ fn.body = some c ∧ c = addCode mt kT hT sT (Jmn c) ∧ fn.ntmps = 14 ∧ fn.results = #[] ∧ (fn.name == "runtime.NumGoroutine") = false
theorem Jsl {id:FuncId} {mt kT hT sT:TypeId} (F:AddF P id mt kT hT sT) {c0 c1 c2:Value} {p ck cy v0 cv:Value} {st:Int} {w1 w2 w3 w4 w5:World} {R:Ending→World→Prop}
  (r1:(Instr.box kT c1).run P w=.ok p w1) (r2:(Instr.loadAt kT p).run P w1=.ok ck w1) (r3:(Instr.buildSlice sT 1 #[(0,c2)]).run P w1=.ok cy w2) (r4:(Instr.mapEntry mt c0 ck).run P w2=.ok (.tuple #[v0,goInt st]) w3)
  (r5:(Builtin.append_ #[sT,sT] sT #[v0,cy]).run P w3=.ok cv w4) (r6:(Instr.entryStore mt c0 (goInt st) cv).run P w4=.ok () w5) (hR:R (.returned (.tuple #[])) w5):Calls P id #[c0,c1,c2] w R:=by
 obtain ⟨fn,c,hf,hb,hc,hnt,hrs,-⟩:=F.fn
 rw [hc] at hb
 refine callsIn_wide.1 (callsIn_of_wp (F:=Fr none) (n:=0) hf hb trivial ?_)
 rw [hnt]
 refine wpIn_seq (wpIn_region_list (Jg rfl (by intro c;simp [opAt]) (cv:=p) (w':=w1) ?_ ?_))
 ·simp [opAt,execOp,Act.eval,r1]
 refine wpListIn_nil (wpIn_region_list ?_)
 refine Jg rfl (by intro c;simp [opAt]) (cv:=c0) (w':=w1) (by simp [opAt,execOp,Act.eval,Act.put]) ?_
 refine Jg rfl (by intro c;simp [opAt]) (cv:=ck) (w':=w1) (by simp [opAt,execOp,Act.eval,Act.put,r2]) ?_
 refine Jg rfl (by intro c;simp [opAt]) (cv:=c2) (w':=w1) (by simp [opAt,execOp,Act.eval,Act.put]) ?_
 refine Jg rfl (by intro c;simp [opAt]) (cv:=cy) (w':=w2) (by simp [opAt,execOp,Act.eval,Act.put,r3]) ?_
 refine Jg rfl (by intro c;simp [opAt]) (cv:=.tuple #[v0,goInt st]) (w':=w3) (by simp [opAt,execOp,Act.eval,Act.put,r4]) ?_
 refine Jg rfl (by intro c;simp [opAt]) (cv:=v0) (w':=w3) (by simp [opAt,execOp,Act.eval,Act.put,Instr.extract]) ?_
 refine Jg rfl (by intro c;simp [opAt]) (cv:=cv) (w':=w4) (by simp [opAt,execOp,Act.eval,Act.put,resolve,invoke,builtin,r5]) ?_
 refine Jg rfl (by intro c;simp [opAt]) (cv:=goInt st) (w':=w4) (by simp [opAt,execOp,Act.eval,Act.put,Instr.extract]) ?_
 refine Jgj rfl (by intro c;simp [opAt]) (w':=w5) (by simp [opAt,execOp,Act.eval,Act.put,r6]) ?_
 refine wpListIn_nil ⟨rfl,.tuple #[],?_,hR⟩
 simp [results,hrs]
theorem add_good {id:FuncId} {mt kT hT sT:TypeId} {bytes:Nat} (F:AddF P id mt kT hT sT) (T:AddT P mt kT hT sT bytes):Jey P id (addB hT bytes):=by
 refine ⟨F.lt,?_,fun {α base vs s k r} hd {n0 w S μ a0 fr fs cargs} hF okv hsz hargs {R} hR=>?_⟩
 ·obtain ⟨fn,c,hf,hb,hc,hnt,hrs,hn⟩:=F.fn
  exact ⟨fn,hf,by rw [hb];rfl,hn⟩
 simp only [addB] at hd
 split at hd
 ·rename_i g kv hv g' el es hm
  obtain ⟨⟨e1,e2⟩,hd2⟩:=Jfg hd
  subst e1
  subst e2
  obtain ⟨kk,hk,hd3⟩:=Jd hd2
  obtain ⟨hh,hhv,hd4⟩:=Jd hd3
  have hkv:=Yp (s:=s) rfl hk
  have hhv:=Yp (s:=s) rfl hhv
  obtain ⟨x,y⟩:=kk
  obtain ⟨n,hn⟩:∃n:Int,n=hh:=⟨_,rfl⟩
  obtain ⟨es',hes⟩:∃es':List ((Ty.p I I).T×List Int),es'=es:=⟨_,rfl⟩
  obtain ⟨hft,hd5⟩:=Jv hd4
  have hd5:k (.tp []) (⟨s.sl,s.lo,s.ob,s.ln,some ⟨g,.p I I,I,el,mS (x,y) (mL (x,y) es'++[n]) es'⟩⟩:Dn.S Ty.T).pop=some r:=by rw [hes,hn];exact hd5
  have hm:s.mo=some ⟨g,.p I I,I,el,es'⟩:=by rw [hes];exact hm
  have hft:decide ((((mL (x,y) es').length:Int)+1) * (bytes:Int)≤(room:Nat)∧(((mL (x,y) es').length:Int)+1)≤9223372036854775807)=true:=by rw [hes];exact hft
  obtain ⟨f1,f2⟩:=of_decide_eq_true hft
  have hgm:look g s.ob=none:=by
   cases hq:look g s.ob with
   | none=>rfl
   | some o =>
    have:=hF.iv.free hq
    rw [hm] at this
    simp [moN] at this
  have hH:encH s g=some (.map 0 (mE 0 es') false):=by simp [encH,hgm,hm,moAt,Mo.at];rfl
  have hgB:g<mB:=(hF.iv.mo _ hm).1
  have hrows:∀j,look (mB+j) s.ob=none:=fun j=>by
   cases hq:look (mB+j) s.ob with
   | none=>rfl
   | some o =>
    have:=hF.iv.free hq
    rw [hm] at this
    simp [moN,Ar (Nat.le_add_right mB j)] at this
  have hat:∀j,encH s (mB+j)=(es'[j]?).map fun e=>Zu I el e.2:=fun j=>by
   simp only [encH,hrows,hm,moAt,Mo.at]
   rw [if_neg (by omega),if_pos (by omega),Ap]
   rfl
  have hr1:∀(j:Nat) (e:(Ty.p I I).T×List Int),es'[j]?=some e→encH s (mB+j)=some (Zu I el e.2):=fun j e he=>by rw [hat,he];rfl
  have hr2:encH s (mB+es'.length)=none:=by rw [hat,List.getElem?_eq_none (Af _)];rfl
  have a0r:=hargs 0 _ rfl
  have a1r:=hargs 1 _ rfl
  have a2r:=hargs 2 _ rfl
  rw [hkv] at a1r
  rw [hhv] at a2r
  have e0:cargs.getD 0 undef=.map (some (μ.b g)):=by
   have a0r:Rep w S (encH s) μ (.map g 0) (cargs.getD 0 undef):=a0r
   cases a0r with
   | pure hp=>cases hp
   | map _ _ _ o ho hv h1 hr =>
    rw [hH] at ho
    injection ho with ho
    subst ho
    exact hr rfl
  have e1:cargs.getD 1 undef=.agg #[.int .i64 x,.int .i64 y]:=by
   have a1r:Rep w S (encH s) μ (.agg [.int .i64 x,.int .i64 y]) (cargs.getD 1 undef):=a1r
   obtain ⟨cs,e,hl,h1⟩:=a1r.agg_inv
   rw [e]
   have q0:=(h1 0 _ rfl).1.int_inv
   have q1:=(h1 1 _ rfl).1.int_inv
   simp at hl
   congr 1
   apply Array.ext
   ·simp [←hl]
   ·intro j h1 h2
    match j,h1 with
    | 0,h1=>simpa [Array.getD_eq_getD_getElem?,h1] using q0
    | 1,h1=>simpa [Array.getD_eq_getD_getElem?,h1] using q1
    | j+2,h1=>omega
  have e2:cargs.getD 2 undef=.int .i64 n:=by
   rw [hn]
   have a2r:Rep w S (encH s) μ (.int .i64 hh) (cargs.getD 2 undef):=a2r
   exact a2r.int_inv
  have hsz:cargs.size=3:=hsz
  have ec:cargs=#[.map (some (μ.b g)),.agg #[.int .i64 x,.int .i64 y],.int .i64 n]:=by
   apply Array.ext
   ·rw [hsz];rfl
   ·intro j h1 h2
    have gd:cargs[j]=cargs.getD j undef:=by simp [Array.getD_eq_getD_getElem?,h1]
    rw [gd]
    match j,h1 with
    | 0,_=>exact e0
    | 1,_=>exact e1
    | 2,_=>exact e2
    | j+3,h1=>omega
  obtain ⟨p,w1,ck,cy,w2,v0,st,w3,cv,w4,w5,r1,r2,r3,r4,r5,r6,S',μ',q1,q2,q3⟩:=add_run (P:=P) T hF.fr.hp hH hr1 hr2 hgB x y n ⟨by exact_mod_cast f1,f2⟩ sT
  have eh:=encH_mo hF.iv hm (x,y) (mL (x,y) es'++[n])
  obtain ⟨s2,hs2⟩:∃s2:Dn.S Ty.T,s2=⟨s.sl,s.lo,s.ob,s.ln,some ⟨g,.p I I,I,el,mS (x,y) (mL (x,y) es'++[n]) es'⟩⟩:=⟨_,rfl⟩
  rw [←hs2] at eh hd5
  have q1:RepH w5 S' (encH s2) μ':=by rw [eh];exact q1
  have q2:Evo w S (encH s) μ w5 S' (encH s2) μ':=by rw [eh];exact q2
  have q3:EvoV (encH s) μ (encH s2) μ':=by rw [eh];exact q3
  have ec2:encC s2=encC s:=by rw [hs2];funext c;cases c<;>rfl
  have st2:Stab s s2:=by
   rw [hs2]
   exact ⟨rfl,rfl,fun c h=>⟨h,by cases c<;>rfl⟩⟩
  have iv2:Inv s2:=by
   rw [hs2]
   refine ⟨hF.iv.sl,hF.iv.lo,hF.iv.ob,fun m h=>?_⟩
   injection h with h
   subst h
   refine ⟨hgB,Nat.one_pos,fun g' o ho=>?_⟩
   have:=hF.iv.free ho
   rw [hm] at this
   exact this
  have hF2:RepF n0 w5 S' s2 μ' a0 (fr::fs):=by
   refine hF.step rfl ⟨fun d=>?_,q1,hF.fr.hp.marks hF.fr.df q2,hF.fr.sz⟩ st2.on iv2 q2 q3
   rw [Yv hF.iv st2]
   exact (hF.fr.fr d).evo hF.fr.hp q2 q3
  have eh2:encH s2.pop=encH s2:=by
   unfold Dn.S.pop
   split
   ·exact Xb rfl rfl
   ·rfl
  rw [ec]
  refine Jsl F r1 r2 r3 r4 r5 r6 (hR w5 S' μ' (.tp []) s2.pop (.tuple #[]) hF2.pop (fun c hc=>by cases hc) (.pure (.tup [] #[] rfl fun i x h=>by cases h)) (by rw [eh2];exact q2) hd5)
 ·cases hd
end
end Go.Dn
namespace Go.Dn
open Go Go.Vv
set_option linter.unusedVariables false
set_option linter.unusedSimpArgs false
open Go.Proofs Go.Shelf in
theorem del_run {P:Program} {ρ:Ren} (L:SlLaysE.n45 P ρ) (v23:∀w,(zeroValue (ρ.t 23)).run P w=.ok (.int .i64 0) w) {i0:TypeInfo} (hi0:P.info? (ρ.t 23)=some i0) (hz1:i0.size=1) {w:World} {b off cap i j:Nat} {l:List Int} {cs:Array Value} {el:TypeId}
  (hb:w.heap[b]?=some (.cells cs el (0,0))) (hsz:off+cap≤cs.size) (hlen:l.length≤cap) (hM:cap≤9223372036854775807) (hrow:∀(k:Nat) (x:Int),l[k]?=some x→cs.getD (off+k) undef=.int .i64 x) (hij:i≤j) (hj:j≤l.length) :
  Calls P (ρ.f 45) #[.slice (some ⟨b,off,none⟩) l.length cap,.int .i64 i,.int .i64 j] w fun e w'=>e=.returned (.slice (some ⟨b,off,none⟩) (l.length - (j - i)) cap)∧w'.os=w.os∧w'.tape=w.tape∧(w'.output=w.output∧w.drawn≤w'.drawn)∧w.heap.size≤w'.heap.size∧(∀q,q<w.heap.size→q≠b→w'.heap[q]?=w.heap[q]?) ∧
   ∃cs':Array Value,w'.heap[b]?=some (.cells cs' el (0,0))∧cs'.size=cs.size∧∀(k:Nat) (x:Int),(l.take i++l.drop j)[k]?=some x→cs'.getD (off+k) undef=.int .i64 x:=by
 have hblk:b<w.heap.size:=(Array.getElem?_eq_some_iff.1 hb).1
 have hH:Go.Sort.Holds (Value.int .i64) w b off l.toArray:=fun k hk=>by
  have hk':k<l.length:=by simpa using hk
  have e2:=hrow k _ (List.getElem?_eq_getElem hk')
  have hlt2:off+k<cs.size:=by omega
  refine ⟨?_,by simp [World.frozen?,hb]⟩
  simp only [World.cell?,hb]
  rw [Array.getD_eq_getD_getElem?,Array.getElem?_eq_getElem hlt2] at e2
  simp only [Option.isSome_none,Bool.false_eq_true,if_false]
  rw [Array.getElem?_eq_getElem hlt2]
  have:l.toArray[k]! = l[k]:=by simp [hk']
  rw [this]
  exact congrArg some e2
 have run:=AnyE.slices_Delete L (Value.int .i64) (fun _=>rfl) 0 v23 i0 hi0 hz1 b off cap i j l.toArray w hH (by simpa using hlen) hM hij (by simpa using hj)
 rw [show l.toArray.size=l.length from rfl] at run
 refine run.mono fun e w' ⟨e1,q,hw⟩=>⟨e1,?_⟩
 subst hw
 refine ⟨rfl,rfl,⟨rfl,Nat.le_add_right _ _⟩,?_,fun k hk hkb=>?_,Go.Sort.putCells (Value.int .i64) off (l.take i++l.drop j++Aj (j - i) 0).toArray cs,?_,by simp [Go.Sort.putCells],fun k x hk=>?_⟩
 ·show w.heap.size≤(w.heap.modify b _).size
  simp
 ·show (w.heap.modify b _)[k]?=_
  rw [Array.getElem?_modify,if_neg (fun q=>hkb q.symm)]
 ·show (w.heap.modify b _)[b]?=_
  rw [Array.getElem?_modify,if_pos rfl,hb]
  rfl
 ·have hk1:k<(l.take i++l.drop j).length:=(Ae.1 hk).1
  have hk2:(l.take i++l.drop j).length=l.length - (j - i):=by simp;omega
  have hlt2:off+k<cs.size:=by omega
  rw [Array.getD_eq_getD_getElem?]
  simp only [Go.Sort.putCells,Array.getElem?_mapIdx]
  rw [Array.getElem?_eq_getElem hlt2]
  simp only [Ad,Option.getD_some]
  rw [if_pos ⟨by omega,by simp;omega⟩,show off+k - off=k by omega]
  have:(l.take i++l.drop j++Aj (j - i) 0).toArray[k]! = x:=by
   have h3:(l.take i++l.drop j++Aj (j - i) (0:Int))[k]?=some x:=by rw [Ag hk1];exact hk
   have h4:(l.take i++l.drop j++Aj (j - i) (0:Int)).toArray[k]?=some x:=by simpa using h3
   rw [getElem!_def,h4]
  rw [this]
end Go.Dn
namespace Go.Dn
open Go Go.Vv
set_option linter.unusedVariables false
set_option linter.unusedSimpArgs false
def opAf (l:List Oper) (i:Nat) (dst:Option Tmp) (op:Op) (af:Array Edge):Oper:={ l.getD i default with dst:=dst,op:=op,guard:=none,after:=af }
def Xq (mt kT hT sT iT:TypeId) (cl dl:FuncId) (l:List Oper):Array Oper :=
 #[opAf l 0 (some 22) (.move (.tmp 0)) #[],opAf l 1 (some 23) (.load kT (.tmp 4)) #[],opAf l 2 (some 24) (.move (.tmp 0)) #[],opAf l 3 (some 25) (.load kT (.tmp 4)) #[],
  opAf l 4 (some 26) (.lookup mt (.tmp 24) (.tmp 25) false) #[⟨2,.data⟩,⟨3,.data⟩],opAf l 5 (some 27) (.call ⟨.value (.func cl),#[.tmp 26],#[sT]⟩) #[⟨4,.data⟩],
  opAf l 6 (some 28) (.move (.tmp 7)) #[],opAf l 7 (some 29) (.move (.tmp 7)) #[],opAf l 8 (some 30) (.binOp .add iT (.tmp 29) (.const (.int .i64 1)) iT) #[⟨7,.data⟩],
  opAf l 9 (some 31) (.call ⟨.value (.func dl),#[.tmp 27,.tmp 28,.tmp 30],#[sT,iT,iT]⟩) #[⟨5,.data⟩,⟨6,.data⟩,⟨8,.data⟩,⟨5,.chain⟩],
  opAf l 10 none (.mapUpdate mt (.tmp 22) (.tmp 23) (.tmp 31)) #[⟨0,.data⟩,⟨1,.data⟩,⟨9,.data⟩,⟨9,.chain⟩,⟨0,.phase⟩,⟨1,.phase⟩,⟨2,.phase⟩,⟨3,.phase⟩,⟨4,.phase⟩,⟨5,.phase⟩,⟨6,.phase⟩,⟨7,.phase⟩,⟨8,.phase⟩,⟨9,.phase⟩]]
section
variable {P:Program} {w:World}
theorem Jde {kT:TypeId} (hag:aggT P kT=some true) (hsz:szT P kT=some 2) {B:Nat} {x y:Int} (hB:w.heap[B]?=some (.cells #[.int .i64 x,.int .i64 y] kT (0,0))):(Instr.loadAt kT (.pointer (some ⟨B,0,none⟩))).run P w=.ok (keyV (x,y)) w:=by
 have hlt:=(Array.getElem?_eq_some_iff.1 hB).1
 have hp:RepH w (fun _=>False) (oneH 0 (some (.box 0 [.int .i64 x,.int .i64 y]))) ⟨fun _=>B,fun _=>0,fun _=>0⟩:=by
  refine ⟨fun g o ho=>?_,fun g g' o o' ho ho' _ _ _=>by rw [(J1 ho).1,(J1 ho').1],fun g o ho _ _ hs=>hs,fun b hb=>hb.elim⟩
  obtain ⟨rfl,e⟩:=J1 ho
  injection e with e
  subst e
  refine ⟨_,kT,hB,Af _,fun i z hi=>?_⟩
  match i,hi with
  | 0,hi=>injection hi with hi;subst hi;exact ⟨.pure (.int _ _),rfl⟩
  | 1,hi=>injection hi with hi;subst hi;exact ⟨.pure (.int _ _),rfl⟩
 obtain ⟨ck,rload,q5⟩:=Y4 (P:=P) hp hag hsz (.inl rfl) (x:=.ptr 0 0 0) (cx:=.pointer (some ⟨B,0,none⟩)) (.ptr 0 0 0 _ _ Qe (Af _) rfl fun _=>rfl) (v:=.agg [.int .i64 x,.int .i64 y]) (by simp [Yk,Q2,pack,oneH,cut])
 have hck:ck=.agg #[.int .i64 x,.int .i64 y]:=by
  obtain ⟨cs,rfl,hl,hh⟩:=q5.agg_inv
  have e0:=(hh 0 _ rfl).1.int_inv
  have e1:=(hh 1 _ rfl).1.int_inv
  simp at hl
  congr 1
  apply Array.ext
  ·simp [←hl]
  ·intro j h1 h2
   match j,h1 with
   | 0,h1=>simpa [Array.getD_eq_getD_getElem?,h1] using e0
   | 1,h1=>simpa [Array.getD_eq_getD_getElem?,h1] using e1
   | j+2,h1=>omega
 rw [hck] at rload
 exact rload
variable {mt kT hT sT iT:TypeId} {cl dl:FuncId} {l:List Oper}
structure TA (a0 a:Act):Prop where
 sz:a.tmps.size=a0.tmps.size
 df:a.defers=a0.defers
 fr:∀d,d<22→a.tmps.getD d undef=a0.tmps.getD d undef
theorem TA.put {a0 a:Act} (h:TA a0 a) {d:Nat} (hd:22≤d) (hs:d<a.tmps.size) (v:Value):TA a0 (a.put (some d) v) :=
 ⟨by rw [Jj];exact h.sz,by rw [Jh];exact h.df,fun e he=>by rw [Jn _ _ hs,if_neg (by omega)];exact h.fr e he⟩
section
variable {ops:Array Oper} {Q:Exit→Act→World→Prop} {a:Act} {w':World} {fuel:Nat} {listed:Array Bool}
theorem Zv {i:Nat} {o:Oper} {v:Value} (hi:ops[i]?=some o) (hg:o.guard=none) (hnd:∀c,o.op≠.defer c) (hrun:(execOp a.eval o).run P w=.ok (.value v) w') (h:wpAnyIn (Fr none) 0 P .any ops Q fuel (listed.setIfInBounds i true) (a.put o.dst v) w') :
  wpOpIn (Fr none) 0 P ops Q i (wpAnyIn (Fr none) 0 P .any ops Q fuel (listed.setIfInBounds i true)) a w :=
 wpOpIn_step hi fun K hK=>by
  simp only [Region.wanted,hg,if_true]
  exact Jc6 hnd (Vv.wp_value hrun (hK _ _ h))
theorem any_skip {i:Nat} {o:Oper} (hi:ops[i]?=some o) (hg:o.guard=none) (hnd:∀c,o.op≠.defer c) (hrun:(execOp a.eval o).run P w=.ok .skip w') (h:wpAnyIn (Fr none) 0 P .any ops Q fuel (listed.setIfInBounds i true) (a.put o.dst undef) w') :
  wpOpIn (Fr none) 0 P ops Q i (wpAnyIn (Fr none) 0 P .any ops Q fuel (listed.setIfInBounds i true)) a w :=
 wpOpIn_step hi fun K hK=>by
  simp only [Region.wanted,hg,if_true]
  exact Jc6 hnd (Vv.wp_skip hrun (hK _ _ h))
theorem Jdk {i:Nat} {o:Oper} {f:FuncId} {args:Array Value} {R:Value→World→Prop} (hi:ops[i]?=some o) (hg:o.guard=none) (hnd:∀c,o.op≠.defer c) (hrun:(execOp a.eval o).run P w=.ok (.enter f args) w)
  (hc:Calls P f args w fun e w1=>∃cv,e=.returned cv∧R cv w1) (h:∀cv w1,R cv w1→wpAnyIn (Fr none) 0 P .any ops Q fuel (listed.setIfInBounds i true) (a.put o.dst cv) w1) :
  wpOpIn (Fr none) 0 P ops Q i (wpAnyIn (Fr none) 0 P .any ops Q fuel (listed.setIfInBounds i true)) a w :=
 wpOpIn_step hi fun K hK=>by
  simp only [Region.wanted,hg,if_true]
  exact Jc6 hnd (Vv.wp_enter hrun hc fun e w1 ⟨cv,he,hr⟩=>⟨cv,he,hK _ _ (h cv w1 hr)⟩)
end
structure ES (a0:Act) (cm:Value) (i j:Int) (a:Act):Prop where
 ta:TA a0 a
 e22:a.tmps.getD 22 undef=cm
 e24:a.tmps.getD 24 undef=cm
 e28:a.tmps.getD 28 undef=.int .i64 i
 e30:a.tmps.getD 30 undef=.int .i64 j
theorem ES.put {a0 a:Act} {cm:Value} {i j:Int} (h:ES a0 cm i j a) (hs0:32≤a0.tmps.size) {d:Nat} (hd:22≤d) (hd2:d<32) (h1:d≠22) (h2:d≠24) (h3:d≠28) (h4:d≠30) (v:Value):ES a0 cm i j (a.put (some d) v)∧∀e,(a.put (some d) v).tmps.getD e undef=if e=d then v else a.tmps.getD e undef:=by
 have hs:d<a.tmps.size:=by rw [h.ta.sz];omega
 have g:∀e,(a.put (some d) v).tmps.getD e undef=if e=d then v else a.tmps.getD e undef:=fun e=>Jn _ _ hs e
 exact ⟨⟨h.ta.put hd hs v,by rw [g,if_neg (fun e=>h1 e.symm)];exact h.e22,by rw [g,if_neg (fun e=>h2 e.symm)];exact h.e24,by rw [g,if_neg (fun e=>h3 e.symm)];exact h.e28,by rw [g,if_neg (fun e=>h4 e.symm)];exact h.e30⟩,g⟩
theorem take6 (hag:aggT P kT=some true) (hsz2:szT P kT=some 2) (hcl:FnOK P cl) (hdl:FnOK P dl) {B:Nat} {x y i j:Int} {cm:Value} {a0:Act} (hs0:32≤a0.tmps.size) (e4:a0.tmps.getD 4 undef=.pointer (some ⟨B,0,none⟩)) {Q:Exit→Act→World→Prop}
  {PD PC PL:World→Value→Prop} {Bx:World→Prop} (hBx:∀w,Bx w→w.heap[B]?=some (.cells #[.int .i64 x,.int .i64 y] kT (0,0)))
  (bD:∀w v,PD w v→Bx w) (bC:∀w v,PC w v→Bx w) (bL:∀w v,PL w v→Bx w)
  (pD:∀w dv,PD w dv→∃w3,(Instr.mapUpdate mt cm (keyV (x,y)) dv).run P w=.ok () w3∧∀a',TA a0 a'→Q .normal a' w3)
  (pC:∀w cv,PC w cv→Calls P dl #[cv,.int .i64 i,.int .i64 j] w fun e w2=>∃dv,e=.returned dv∧PD w2 dv)
  (pL:∀w lv,PL w lv→Calls P cl #[lv] w fun e w1=>∃cv,e=.returned cv∧PC w1 cv)
  {lv:Value} (hlook:(Instr.lookup mt cm (keyV (x,y)) false).run P w=.ok lv w) (h0:PL w lv) {a:Act} (ha:ES a0 cm i j a) :
  wpAnyIn (Fr none) 0 P .any (Xq mt kT hT sT iT cl dl l) Q 6 #[true,false,true,false,false,false,true,true,true,false,false] a w:=by
 have nd:∀ {o:Oper} {op:Op},o.op=op→(∀c,op≠.defer c)→∀c,o.op≠.defer c:=fun e h c q=>h c (e▸q)
 have ev4:∀ {a:Act},ES a0 cm i j a→a.eval (.tmp 4)=.pointer (some ⟨B,0,none⟩):=fun h=>(h.ta.fr 4 (by decide)).trans e4
 have ld:∀ {a:Act} {w:World} {o:Oper},ES a0 cm i j a→Bx w→o.op=.load kT (.tmp 4)→(execOp a.eval o).run P w=.ok (.value (keyV (x,y))) w:=fun h hb ho=>by
  simp only [execOp,ho,ev4 h]
  rw [Sem.run_bind,Jde hag hsz2 (hBx _ hb)]
  rfl
 have T10t:∀ {a:Act} {w:World} {dv:Value},ES a0 cm i j a→a.tmps.getD 23 undef=keyV (x,y)→a.tmps.getD 31 undef=dv→PD w dv→wpAnyIn (Fr none) 0 P .any (Xq mt kT hT sT iT cl dl l) Q 1 #[true,true,true,true,true,true,true,true,true,true,false] a w:=fun {a w dv} h e23 e31 hp=>by
  obtain ⟨w3,r,fin⟩:=pD w dv hp
  refine wpAnyIn_all (rs:=[10]) (by kernel_rfl) (by decide) fun k hk=>?_
  obtain rfl:=Aa.1 hk
  refine any_skip (o:=opAf l 10 none (.mapUpdate mt (.tmp 22) (.tmp 23) (.tmp 31)) #[⟨0,.data⟩,⟨1,.data⟩,⟨9,.data⟩,⟨9,.chain⟩,⟨0,.phase⟩,⟨1,.phase⟩,⟨2,.phase⟩,⟨3,.phase⟩,⟨4,.phase⟩,⟨5,.phase⟩,⟨6,.phase⟩,⟨7,.phase⟩,⟨8,.phase⟩,⟨9,.phase⟩]) rfl rfl (by intro c;simp [opAf]) (w':=w3) ?_ ?_
  ·have a1:a.eval (.tmp 22)=cm:=h.e22
   have a2:a.eval (.tmp 23)=keyV (x,y):=e23
   have a3:a.eval (.tmp 31)=dv:=e31
   simp only [execOp,opAf,a1,a2,a3]
   rw [Sem.run_bind,r]
   rfl
  ·exact wpAnyIn_done (by kernel_rfl) (fin _ h.ta) _
 have T10f:∀ {a:Act} {w:World} {dv:Value},ES a0 cm i j a→a.tmps.getD 31 undef=dv→PD w dv→wpAnyIn (Fr none) 0 P .any (Xq mt kT hT sT iT cl dl l) Q 2 #[true,false,true,true,true,true,true,true,true,true,false] a w:=fun {a w dv} h e31 hp=>by
  refine wpAnyIn_all (rs:=[1]) (by kernel_rfl) (by decide) fun k hk=>?_
  obtain rfl:=Aa.1 hk
  obtain ⟨h2,g2⟩:=h.put hs0 (d:=23) (by decide) (by decide) (by decide) (by decide) (by decide) (by decide) (keyV (x,y))
  exact Zv (o:=opAf l 1 (some 23) (.load kT (.tmp 4)) #[]) rfl rfl (by intro c;simp [opAf]) (ld h (bD _ _ hp) rfl) (T10t h2 ((g2 23).trans (if_pos rfl)) ((g2 31).trans ((if_neg (by decide)).trans e31)) hp)
 have T9t:∀ {a:Act} {w:World} {cv:Value},ES a0 cm i j a→a.tmps.getD 23 undef=keyV (x,y)→a.tmps.getD 27 undef=cv→PC w cv→wpAnyIn (Fr none) 0 P .any (Xq mt kT hT sT iT cl dl l) Q 2 #[true,true,true,true,true,true,true,true,true,false,false] a w:=fun {a w cv} h e23 e27 hp=>by
  refine wpAnyIn_all (rs:=[9]) (by kernel_rfl) (by decide) fun k hk=>?_
  obtain rfl:=Aa.1 hk
  refine Jdk (o:=opAf l 9 (some 31) (.call ⟨.value (.func dl),#[.tmp 27,.tmp 28,.tmp 30],#[sT,iT,iT]⟩) #[⟨5,.data⟩,⟨6,.data⟩,⟨8,.data⟩,⟨5,.chain⟩]) rfl rfl (by intro c;simp [opAf]) (f:=dl) (args:=#[cv,.int .i64 i,.int .i64 j]) (R:=fun dv w2=>PD w2 dv) ?_ (pC w cv hp) fun dv w2 hq=>?_
  ·have a1:a.eval (.tmp 27)=cv:=e27
   have a2:a.eval (.tmp 28)=.int .i64 i:=h.e28
   have a3:a.eval (.tmp 30)=.int .i64 j:=h.e30
   simp [opAf,execOp,resolve,Deferred.ofValue,invoke,a1,a2,a3,show a.eval (.func dl)=.func (.func dl) #[] #[] from rfl,J0 hdl]
  ·obtain ⟨h2,g2⟩:=h.put hs0 (d:=31) (by decide) (by decide) (by decide) (by decide) (by decide) (by decide) dv
   exact T10t h2 ((g2 23).trans ((if_neg (by decide)).trans e23)) ((g2 31).trans (if_pos rfl)) hq
 have T9f:∀ {a:Act} {w:World} {cv:Value},ES a0 cm i j a→a.tmps.getD 27 undef=cv→PC w cv→wpAnyIn (Fr none) 0 P .any (Xq mt kT hT sT iT cl dl l) Q 3 #[true,false,true,true,true,true,true,true,true,false,false] a w:=fun {a w cv} h e27 hp=>by
  refine wpAnyIn_all (rs:=[1,9]) (by kernel_rfl) (by decide) fun k hk=>?_
  rcases Am.1 hk with rfl|hk
  ·obtain ⟨h2,g2⟩:=h.put hs0 (d:=23) (by decide) (by decide) (by decide) (by decide) (by decide) (by decide) (keyV (x,y))
   exact Zv (o:=opAf l 1 (some 23) (.load kT (.tmp 4)) #[]) rfl rfl (by intro c;simp [opAf]) (ld h (bC _ _ hp) rfl) (T9t h2 ((g2 23).trans (if_pos rfl)) ((g2 27).trans ((if_neg (by decide)).trans e27)) hp)
  obtain rfl:=Aa.1 hk
  refine Jdk (o:=opAf l 9 (some 31) (.call ⟨.value (.func dl),#[.tmp 27,.tmp 28,.tmp 30],#[sT,iT,iT]⟩) #[⟨5,.data⟩,⟨6,.data⟩,⟨8,.data⟩,⟨5,.chain⟩]) rfl rfl (by intro c;simp [opAf]) (f:=dl) (args:=#[cv,.int .i64 i,.int .i64 j]) (R:=fun dv w2=>PD w2 dv) ?_ (pC w cv hp) fun dv w2 hq=>?_
  ·have a1:a.eval (.tmp 27)=cv:=e27
   have a2:a.eval (.tmp 28)=.int .i64 i:=h.e28
   have a3:a.eval (.tmp 30)=.int .i64 j:=h.e30
   simp [opAf,execOp,resolve,Deferred.ofValue,invoke,a1,a2,a3,show a.eval (.func dl)=.func (.func dl) #[] #[] from rfl,J0 hdl]
  ·obtain ⟨h2,g2⟩:=h.put hs0 (d:=31) (by decide) (by decide) (by decide) (by decide) (by decide) (by decide) dv
   exact T10f h2 ((g2 31).trans (if_pos rfl)) hq
 have T5t:∀ {a:Act} {w:World} {lv:Value},ES a0 cm i j a→a.tmps.getD 23 undef=keyV (x,y)→a.tmps.getD 26 undef=lv→PL w lv→wpAnyIn (Fr none) 0 P .any (Xq mt kT hT sT iT cl dl l) Q 3 #[true,true,true,true,true,false,true,true,true,false,false] a w:=fun {a w lv} h e23 e26 hp=>by
  refine wpAnyIn_all (rs:=[5]) (by kernel_rfl) (by decide) fun k hk=>?_
  obtain rfl:=Aa.1 hk
  refine Jdk (o:=opAf l 5 (some 27) (.call ⟨.value (.func cl),#[.tmp 26],#[sT]⟩) #[⟨4,.data⟩]) rfl rfl (by intro c;simp [opAf]) (f:=cl) (args:=#[lv]) (R:=fun cv w2=>PC w2 cv) ?_ (pL w lv hp) fun cv w2 hq=>?_
  ·have a1:a.eval (.tmp 26)=lv:=e26
   simp [opAf,execOp,resolve,Deferred.ofValue,invoke,a1,show a.eval (.func cl)=.func (.func cl) #[] #[] from rfl,J0 hcl]
  ·obtain ⟨h2,g2⟩:=h.put hs0 (d:=27) (by decide) (by decide) (by decide) (by decide) (by decide) (by decide) cv
   exact T9t h2 ((g2 23).trans ((if_neg (by decide)).trans e23)) ((g2 27).trans (if_pos rfl)) hq
 have T5f:∀ {a:Act} {w:World} {lv:Value},ES a0 cm i j a→a.tmps.getD 26 undef=lv→PL w lv→wpAnyIn (Fr none) 0 P .any (Xq mt kT hT sT iT cl dl l) Q 4 #[true,false,true,true,true,false,true,true,true,false,false] a w:=fun {a w lv} h e26 hp=>by
  refine wpAnyIn_all (rs:=[1,5]) (by kernel_rfl) (by decide) fun k hk=>?_
  rcases Am.1 hk with rfl|hk
  ·obtain ⟨h2,g2⟩:=h.put hs0 (d:=23) (by decide) (by decide) (by decide) (by decide) (by decide) (by decide) (keyV (x,y))
   exact Zv (o:=opAf l 1 (some 23) (.load kT (.tmp 4)) #[]) rfl rfl (by intro c;simp [opAf]) (ld h (bL _ _ hp) rfl) (T5t h2 ((g2 23).trans (if_pos rfl)) ((g2 26).trans ((if_neg (by decide)).trans e26)) hp)
  obtain rfl:=Aa.1 hk
  refine Jdk (o:=opAf l 5 (some 27) (.call ⟨.value (.func cl),#[.tmp 26],#[sT]⟩) #[⟨4,.data⟩]) rfl rfl (by intro c;simp [opAf]) (f:=cl) (args:=#[lv]) (R:=fun cv w2=>PC w2 cv) ?_ (pL w lv hp) fun cv w2 hq=>?_
  ·have a1:a.eval (.tmp 26)=lv:=e26
   simp [opAf,execOp,resolve,Deferred.ofValue,invoke,a1,show a.eval (.func cl)=.func (.func cl) #[] #[] from rfl,J0 hcl]
  ·obtain ⟨h2,g2⟩:=h.put hs0 (d:=27) (by decide) (by decide) (by decide) (by decide) (by decide) (by decide) cv
   exact T9f h2 ((g2 27).trans (if_pos rfl)) hq
 have T4t:∀ {a:Act},ES a0 cm i j a→a.tmps.getD 23 undef=keyV (x,y)→a.tmps.getD 25 undef=keyV (x,y)→wpAnyIn (Fr none) 0 P .any (Xq mt kT hT sT iT cl dl l) Q 4 #[true,true,true,true,false,false,true,true,true,false,false] a w:=fun {a} h e23 e25=>by
  refine wpAnyIn_all (rs:=[4]) (by kernel_rfl) (by decide) fun k hk=>?_
  obtain rfl:=Aa.1 hk
  refine Zv (o:=opAf l 4 (some 26) (.lookup mt (.tmp 24) (.tmp 25) false) #[⟨2,.data⟩,⟨3,.data⟩]) rfl rfl (by intro c;simp [opAf]) (v:=lv) (w':=w) ?_ ?_
  ·have a1:a.eval (.tmp 24)=cm:=h.e24
   have a2:a.eval (.tmp 25)=keyV (x,y):=e25
   simp only [execOp,opAf,a1,a2]
   rw [Sem.run_bind,hlook]
   rfl
  ·obtain ⟨h2,g2⟩:=h.put hs0 (d:=26) (by decide) (by decide) (by decide) (by decide) (by decide) (by decide) lv
   exact T5t h2 ((g2 23).trans ((if_neg (by decide)).trans e23)) ((g2 26).trans (if_pos rfl)) h0
 have T4f:∀ {a:Act},ES a0 cm i j a→a.tmps.getD 25 undef=keyV (x,y)→wpAnyIn (Fr none) 0 P .any (Xq mt kT hT sT iT cl dl l) Q 5 #[true,false,true,true,false,false,true,true,true,false,false] a w:=fun {a} h e25=>by
  refine wpAnyIn_all (rs:=[1,4]) (by kernel_rfl) (by decide) fun k hk=>?_
  rcases Am.1 hk with rfl|hk
  ·obtain ⟨h2,g2⟩:=h.put hs0 (d:=23) (by decide) (by decide) (by decide) (by decide) (by decide) (by decide) (keyV (x,y))
   exact Zv (o:=opAf l 1 (some 23) (.load kT (.tmp 4)) #[]) rfl rfl (by intro c;simp [opAf]) (ld h (bL _ _ h0) rfl) (T4t h2 ((g2 23).trans (if_pos rfl)) ((g2 25).trans ((if_neg (by decide)).trans e25)))
  obtain rfl:=Aa.1 hk
  refine Zv (o:=opAf l 4 (some 26) (.lookup mt (.tmp 24) (.tmp 25) false) #[⟨2,.data⟩,⟨3,.data⟩]) rfl rfl (by intro c;simp [opAf]) (v:=lv) (w':=w) ?_ ?_
  ·have a1:a.eval (.tmp 24)=cm:=h.e24
   have a2:a.eval (.tmp 25)=keyV (x,y):=e25
   simp only [execOp,opAf,a1,a2]
   rw [Sem.run_bind,hlook]
   rfl
  ·obtain ⟨h2,g2⟩:=h.put hs0 (d:=26) (by decide) (by decide) (by decide) (by decide) (by decide) (by decide) lv
   exact T5f h2 ((g2 26).trans (if_pos rfl)) h0
 have T3t:∀ {a:Act},ES a0 cm i j a→a.tmps.getD 23 undef=keyV (x,y)→wpAnyIn (Fr none) 0 P .any (Xq mt kT hT sT iT cl dl l) Q 5 #[true,true,true,false,false,false,true,true,true,false,false] a w:=fun {a} h e23=>by
  refine wpAnyIn_all (rs:=[3]) (by kernel_rfl) (by decide) fun k hk=>?_
  obtain rfl:=Aa.1 hk
  obtain ⟨h2,g2⟩:=h.put hs0 (d:=25) (by decide) (by decide) (by decide) (by decide) (by decide) (by decide) (keyV (x,y))
  exact Zv (o:=opAf l 3 (some 25) (.load kT (.tmp 4)) #[]) rfl rfl (by intro c;simp [opAf]) (ld h (bL _ _ h0) rfl) (T4t h2 ((g2 23).trans ((if_neg (by decide)).trans e23)) ((g2 25).trans (if_pos rfl)))
 refine wpAnyIn_all (rs:=[1,3]) (by kernel_rfl) (by decide) fun k hk=>?_
 rcases Am.1 hk with rfl|hk
 ·obtain ⟨h2,g2⟩:=ha.put hs0 (d:=23) (by decide) (by decide) (by decide) (by decide) (by decide) (by decide) (keyV (x,y))
  exact Zv (o:=opAf l 1 (some 23) (.load kT (.tmp 4)) #[]) rfl rfl (by intro c;simp [opAf]) (ld ha (bL _ _ h0) rfl) (T3t h2 ((g2 23).trans (if_pos rfl)))
 obtain rfl:=Aa.1 hk
 obtain ⟨h2,g2⟩:=ha.put hs0 (d:=25) (by decide) (by decide) (by decide) (by decide) (by decide) (by decide) (keyV (x,y))
 exact Zv (o:=opAf l 3 (some 25) (.load kT (.tmp 4)) #[]) rfl rfl (by intro c;simp [opAf]) (ld ha (bL _ _ h0) rfl) (T4f h2 ((g2 25).trans (if_pos rfl)))
theorem reg6 (hm:P.follows .mixedOrders=true) (hiT:P.underlying iT=some (.int .i64)) (hag:aggT P kT=some true) (hsz2:szT P kT=some 2) (hcl:FnOK P cl) (hdl:FnOK P dl) {B:Nat} {x y i:Int} {cm:Value} {a0:Act} (hs0:32≤a0.tmps.size) (e0:a0.tmps.getD 0 undef=cm) (e4:a0.tmps.getD 4 undef=.pointer (some ⟨B,0,none⟩)) (e7:a0.tmps.getD 7 undef=.int .i64 i) {Q:Exit→Act→World→Prop}
  (hQp:∀c a d v w,Q (.panic c) (Act.put a d v) w→Q (.panic c) a w)
  {PD PC PL:World→Value→Prop} {Bx:World→Prop} (hBx:∀w,Bx w→w.heap[B]?=some (.cells #[.int .i64 x,.int .i64 y] kT (0,0)))
  (bD:∀w v,PD w v→Bx w) (bC:∀w v,PC w v→Bx w) (bL:∀w v,PL w v→Bx w)
  (pD:∀w dv,PD w dv→∃w3,(Instr.mapUpdate mt cm (keyV (x,y)) dv).run P w=.ok () w3∧∀a',TA a0 a'→Q .normal a' w3)
  (pC:∀w cv,PC w cv→Calls P dl #[cv,.int .i64 i,.int .i64 (IntKind.wrap .i64 (i+1))] w fun e w2=>∃dv,e=.returned dv∧PD w2 dv)
  (pL:∀w lv,PL w lv→Calls P cl #[lv] w fun e w1=>∃cv,e=.returned cv∧PC w1 cv)
  {lv:Value} (hlook:(Instr.lookup mt cm (keyV (x,y)) false).run P { w with drawn:=w.drawn+1 }=.ok lv { w with drawn:=w.drawn+1 }) (h0:PL { w with drawn:=w.drawn+1 } lv) (id:Nat) :
  (Code.region id (Xq mt kT hT sT iT cl dl l) true).wpIn (Fr none) 0 P Q a0 w:=by
 refine wpIn_region_any hm ?_
 refine wpAnyIn_take (i:=0) (oi:=opAf l 0 (some 22) (.move (.tmp 0)) #[]) (v:=cm) (fuel:=10) rfl rfl (by kernel_rfl) (by kernel_rfl) (by kernel_rfl) (fun c a w=>hQp c a _ _ w) ⟨.inl ⟨rfl,fun w=>?_⟩,fun w=>?_⟩ ?_
 ·have q1:a0.eval (.tmp 0)=cm:=e0
  simp only [execOp,opAf,q1];rfl
 ·simp [opAf,Oper.about]
 obtain ⟨a1,ha1⟩:∃a1,a1=a0.put (some 22) (cm):=⟨_,rfl⟩
 rw [show ((opAf l 0 (some 22) (.move (.tmp 0)) #[]:Oper).dst)=some 22 from rfl,←ha1]
 have Z1:a1.tmps.size=a0.tmps.size:=by rw [ha1,Jj]
 have G1:∀e,a1.tmps.getD e undef=if e=22 then cm else a0.tmps.getD e undef:=fun e=>by rw [ha1,Jn _ _ (by omega)]
 have TA1:TA a0 a1:=by rw [ha1];exact TA.put ⟨rfl,rfl,fun d _=>rfl⟩ (by decide) (by omega) _
 refine wpAnyIn_take (i:=2) (oi:=opAf l 2 (some 24) (.move (.tmp 0)) #[]) (v:=cm) (fuel:=9) rfl rfl (by kernel_rfl) (by kernel_rfl) (by kernel_rfl) (fun c a w=>hQp c a _ _ w) ⟨.inl ⟨rfl,fun w=>?_⟩,fun w=>?_⟩ ?_
 ·have q1:a1.eval (.tmp 0)=cm:=by
   show a1.tmps.getD 0 undef=_
   rw [G1,if_neg (by decide)];exact e0
  simp only [execOp,opAf,q1];rfl
 ·simp [opAf,Oper.about]
 obtain ⟨a2,ha2⟩:∃a2,a2=a1.put (some 24) (cm):=⟨_,rfl⟩
 rw [show ((opAf l 2 (some 24) (.move (.tmp 0)) #[]:Oper).dst)=some 24 from rfl,←ha2]
 have Z2:a2.tmps.size=a0.tmps.size:=by rw [ha2,Jj,Z1]
 have G2:∀e,a2.tmps.getD e undef=if e=24 then cm else a1.tmps.getD e undef:=fun e=>by rw [ha2,Jn _ _ (by omega)]
 have TA2:TA a0 a2:=by rw [ha2];exact TA.put TA1 (by decide) (by omega) _
 refine wpAnyIn_take (i:=6) (oi:=opAf l 6 (some 28) (.move (.tmp 7)) #[]) (v:=.int .i64 i) (fuel:=8) rfl rfl (by kernel_rfl) (by kernel_rfl) (by kernel_rfl) (fun c a w=>hQp c a _ _ w) ⟨.inl ⟨rfl,fun w=>?_⟩,fun w=>?_⟩ ?_
 ·have q1:a2.eval (.tmp 7)=.int .i64 i:=by
   show a2.tmps.getD 7 undef=_
   rw [G2,if_neg (by decide),G1,if_neg (by decide)];exact e7
  simp only [execOp,opAf,q1];rfl
 ·simp [opAf,Oper.about]
 obtain ⟨a3,ha3⟩:∃a3,a3=a2.put (some 28) (.int .i64 i):=⟨_,rfl⟩
 rw [show ((opAf l 6 (some 28) (.move (.tmp 7)) #[]:Oper).dst)=some 28 from rfl,←ha3]
 have Z3:a3.tmps.size=a0.tmps.size:=by rw [ha3,Jj,Z2]
 have G3:∀e,a3.tmps.getD e undef=if e=28 then .int .i64 i else a2.tmps.getD e undef:=fun e=>by rw [ha3,Jn _ _ (by omega)]
 have TA3:TA a0 a3:=by rw [ha3];exact TA.put TA2 (by decide) (by omega) _
 refine wpAnyIn_take (i:=7) (oi:=opAf l 7 (some 29) (.move (.tmp 7)) #[]) (v:=.int .i64 i) (fuel:=7) rfl rfl (by kernel_rfl) (by kernel_rfl) (by kernel_rfl) (fun c a w=>hQp c a _ _ w) ⟨.inl ⟨rfl,fun w=>?_⟩,fun w=>?_⟩ ?_
 ·have q1:a3.eval (.tmp 7)=.int .i64 i:=by
   show a3.tmps.getD 7 undef=_
   rw [G3,if_neg (by decide),G2,if_neg (by decide),G1,if_neg (by decide)];exact e7
  simp only [execOp,opAf,q1];rfl
 ·simp [opAf,Oper.about]
 obtain ⟨a4,ha4⟩:∃a4,a4=a3.put (some 29) (.int .i64 i):=⟨_,rfl⟩
 rw [show ((opAf l 7 (some 29) (.move (.tmp 7)) #[]:Oper).dst)=some 29 from rfl,←ha4]
 have Z4:a4.tmps.size=a0.tmps.size:=by rw [ha4,Jj,Z3]
 have G4:∀e,a4.tmps.getD e undef=if e=29 then .int .i64 i else a3.tmps.getD e undef:=fun e=>by rw [ha4,Jn _ _ (by omega)]
 have TA4:TA a0 a4:=by rw [ha4];exact TA.put TA3 (by decide) (by omega) _
 refine wpAnyIn_take (i:=8) (oi:=opAf l 8 (some 30) (.binOp .add iT (.tmp 29) (.const (.int .i64 1)) iT) #[⟨7,.data⟩]) (v:=.int .i64 (IntKind.wrap .i64 (i+1))) (fuel:=6) rfl rfl (by kernel_rfl) (by kernel_rfl) (by kernel_rfl) (fun c a w=>hQp c a _ _ w) ⟨.inl ⟨rfl,fun w=>?_⟩,fun w=>?_⟩ ?_
 ·have q1:a4.eval (.tmp 29)=.int .i64 i:=by show a4.tmps.getD 29 undef=_;rw [G4,if_pos rfl]
  have hb:(binOp .add iT (.int .i64 i) (.int .i64 1)).run P w=.ok (.int .i64 (IntKind.wrap .i64 (i+1))) w:=by
   obtain ⟨cv,r,hr⟩:=Jb0 (P:=P) (w:=w) (S:=fun _=>False) (h:=fun _=>none) (μ:=⟨fun _=>0,fun _=>0,fun _=>0⟩) (t:=iT) (op:=.add) (k:=.i64) (a:=i) (b:=1) (v:=.int .i64 (IntKind.wrap .i64 (i+1))) rfl
   rw [r,hr.int_inv]
  simp only [execOp,opAf,q1,show a4.eval (.const (.int .i64 1))=.int .i64 1 from rfl]
  simp [eqGuard,hb]
 ·simp [opAf,Oper.about]
 obtain ⟨a5,ha5⟩:∃a5,a5=a4.put (some 30) (.int .i64 (IntKind.wrap .i64 (i+1))):=⟨_,rfl⟩
 rw [show ((opAf l 8 (some 30) (.binOp .add iT (.tmp 29) (.const (.int .i64 1)) iT) #[⟨7,.data⟩]:Oper).dst)=some 30 from rfl,←ha5]
 have Z5:a5.tmps.size=a0.tmps.size:=by rw [ha5,Jj,Z4]
 have G5:∀e,a5.tmps.getD e undef=if e=30 then .int .i64 (IntKind.wrap .i64 (i+1)) else a4.tmps.getD e undef:=fun e=>by rw [ha5,Jn _ _ (by omega)]
 have TA5:TA a0 a5:=by rw [ha5];exact TA.put TA4 (by decide) (by omega) _
 have eL:(((((Array.replicate 11 false).setIfInBounds 0 true).setIfInBounds 2 true).setIfInBounds 6 true).setIfInBounds 7 true).setIfInBounds 8 true=#[true,false,true,false,false,false,true,true,true,false,false]:=by kernel_rfl
 show wpAnyIn (Fr none) 0 P .any _ Q 6 ((((((Array.replicate 11 false).setIfInBounds 0 true).setIfInBounds 2 true).setIfInBounds 6 true).setIfInBounds 7 true).setIfInBounds 8 true) _ _
 rw [eL]
 refine take6 hag hsz2 hcl hdl hs0 e4 hBx bD bC bL pD pC pL hlook h0 ⟨TA5,?_,?_,?_,?_⟩
 ·rw [G5,if_neg (by decide),G4,if_neg (by decide),G3,if_neg (by decide),G2,if_neg (by decide),G1,if_pos rfl]
 ·rw [G5,if_neg (by decide),G4,if_neg (by decide),G3,if_neg (by decide),G2,if_pos rfl]
 ·rw [G5,if_neg (by decide),G4,if_neg (by decide),G3,if_pos rfl]
 ·rw [G5,if_pos rfl]
theorem Jqs {P:Program} {ro:Option Nat} {ops:Array Oper} {Q:Exit→Act→World→Prop} {a:Act} {w:World} {rest:List Oper} {o:Oper} {f:FuncId} {args:Array Value} {R:Value→World→Prop} (hg:o.guard=none) (hnd:∀c,o.op≠.defer c)
  (hrun:(execOp a.eval o).run P w=.ok (.enter f args) w) (hc:Calls P f args w fun e w1=>∃cv,e=.returned cv∧R cv w1) (h:∀cv w1,R cv w1→wpListIn (Fr ro) 0 P ops Q rest (a.put o.dst cv) w1):wpListIn (Fr ro) 0 P ops Q (o::rest) a w :=
 wpListIn_plain hg fun K hK=>Jc6 hnd (Vv.wp_enter hrun hc fun e w1 ⟨cv,he,hr⟩=>⟨cv,he,hK _ _ (h cv w1 hr)⟩)
def Jg1 (id:Nat):Code→List Oper
 | .region i ops _=>if i=id then ops.toList else []
 | .seq a b=>Jg1 id a++Jg1 id b
 | .cond _ a b=>Jg1 id a++Jg1 id b
 | _=>[]
def takeCode (mt kT hT sT iT bT:TypeId) (ix cl dl:FuncId) (r:Nat→List Oper):Code :=
 .seq (.region 0 #[opAt (r 0) 0 (some 4) (.box kT (.tmp 1)),opAt (r 0) 1 (some 6) (.assign (.const (.bool false)))] false)
  (.seq (.region 1 #[opAt (r 1) 0 (some 8) (.move (.tmp 0)),opAt (r 1) 1 (some 9) (.load kT (.tmp 4)),opAt (r 1) 2 (some 10) (.lookup mt (.tmp 8) (.tmp 9) false),opAt (r 1) 3 (some 11) (.move (.tmp 2)),opAt (r 1) 4 (some 12) (.call ⟨.value (.func ix),#[.tmp 10,.tmp 11],#[sT,hT]⟩),opAt (r 1) 5 (some 7) (.assign (.tmp 12))] false)
   (.seq (.seq (.region 2 #[opAt (r 2) 0 (some 13) (.move (.tmp 7)),opAt (r 2) 1 (some 14) (.binOp .lss iT (.tmp 13) (.const (.int .i64 0)) iT)] false)
     (.cond (.tmp 14) (.seq (.region 3 #[opAt (r 3) 0 (some 6) (.assign (.const (.bool false)))] false) .ret) .skip))
    (.seq (.seq (.region 4 #[opAt (r 4) 0 (some 15) (.move (.tmp 0)),opAt (r 4) 1 (some 16) (.load kT (.tmp 4)),opAt (r 4) 2 (some 17) (.lookup mt (.tmp 15) (.tmp 16) false),{ opAt (r 4) 3 (some 18) (.call ⟨.builtin .len,#[.tmp 17],#[sT]⟩) with type:=iT },opAt (r 4) 4 (some 19) (.binOp .eql iT (.tmp 18) (.const (.int .i64 1)) iT)] false)
      (.cond (.tmp 19) (.region 5 #[opAt (r 5) 0 (some 20) (.move (.tmp 0)),opAt (r 5) 1 (some 21) (.load kT (.tmp 4)),opAt (r 5) 2 none (.call ⟨.builtin .delete,#[.tmp 20,.tmp 21],#[mt,kT]⟩)] false) (.region 6 (Xq mt kT hT sT iT cl dl (r 6)) true)))
     (.seq (.region 7 #[opAt (r 7) 0 (some 6) (.assign (.const (.bool true)))] false) .ret))))
structure TakeF (P:Program) (id ix cl dl:FuncId) (mt kT hT sT iT bT:TypeId):Prop where
 lt:Nat.ble yB id=false
 fn : ∃ fn c, P.funcs[id]? = some fn ∧ fn.body = some c ∧ c = takeCode mt kT hT sT iT bT ix cl dl (fun i => Jg1 i c) ∧ fn.ntmps = 32 ∧ fn.results = #[.tmp 6] ∧ (fn.name == "runtime.NumGoroutine") = false
def TakeI (P:Program) (mt kT:TypeId) (cl dl:FuncId) (c0:Value) (x y:Int) (B:Nat) (R:Ending→World→Prop) (i:Int) (w:World):Prop :=
 w.heap[B]?=some (.cells #[.int .i64 x,.int .i64 y] kT (0,0))∧(i<0→R (.returned (.bool false)) w) ∧
 (0≤i→∃(A:Option Addr) (n c:Nat),(Instr.lookup mt c0 (keyV (x,y)) false).run P w=.ok (.slice A n c) w ∧
  (n=1→∀ty,∃w3,(Builtin.delete_ #[mt,kT] ty #[c0,keyV (x,y)]).run P w=.ok (.tuple #[]) w3∧R (.returned (.bool true)) w3) ∧
  (n≠1→∃(PD PC PL:World→Value→Prop) (Bx:World→Prop) (lv:Value),(∀w,Bx w→w.heap[B]?=some (.cells #[.int .i64 x,.int .i64 y] kT (0,0)))∧(∀w v,PD w v→Bx w)∧(∀w v,PC w v→Bx w)∧(∀w v,PL w v→Bx w) ∧
   (∀w dv,PD w dv→∃w3,(Instr.mapUpdate mt c0 (keyV (x,y)) dv).run P w=.ok () w3∧R (.returned (.bool true)) w3) ∧
   (∀w cv,PC w cv→Calls P dl #[cv,.int .i64 i,.int .i64 (IntKind.wrap .i64 (i+1))] w fun e w2=>∃dv,e=.returned dv∧PD w2 dv) ∧
   (∀w lv,PL w lv→Calls P cl #[lv] w fun e w1=>∃cv,e=.returned cv∧PC w1 cv) ∧
   (Instr.lookup mt c0 (keyV (x,y)) false).run P { w with drawn:=w.drawn+1 }=.ok lv { w with drawn:=w.drawn+1 }∧PL { w with drawn:=w.drawn+1 } lv))
theorem Jrc {id ix:FuncId} {bT:TypeId} (F:TakeF P id ix cl dl mt kT hT sT iT bT) (hm:P.follows .mixedOrders=true) (hiT:P.underlying iT=some (.int .i64)) (hsT:P.underlying sT=some (.slice hT)) (hag:aggT P kT=some true) (hsz2:szT P kT=some 2) (hix:FnOK P ix) (hcl:FnOK P cl) (hdl:FnOK P dl)
  {c0 lv:Value} {x y hh:Int} {R:Ending→World→Prop} (hl1:(Instr.lookup mt c0 (keyV (x,y)) false).run P (w.alloc (.cells #[.int .i64 x,.int .i64 y] kT))=.ok lv (w.alloc (.cells #[.int .i64 x,.int .i64 y] kT)))
  (hI:Calls P ix #[lv,.int .i64 hh] (w.alloc (.cells #[.int .i64 x,.int .i64 y] kT)) fun e w2=>∃i,e=.returned (.int .i64 i)∧TakeI P mt kT cl dl c0 x y w.heap.size R i w2):Calls P id #[c0,keyV (x,y),.int .i64 hh] w R:=by
 obtain ⟨fn,c,hf,hb,hc,hnt,hrs,-⟩:=F.fn
 rw [hc] at hb
 generalize (fun i=>Jg1 i c)=r at hb
 refine callsIn_wide.1 (callsIn_of_wp (F:=Fr none) (n:=0) hf hb trivial ?_)
 rw [hnt]
 obtain ⟨A0,hA0⟩:∃A0:Act,A0={ tmps:=#[c0,keyV (x,y),.int .i64 hh]++Array.replicate (32 - #[c0,keyV (x,y),.int .i64 hh].size) undef,defers:=[] }:=⟨_,rfl⟩
 rw [←hA0]
 have Z0:A0.tmps.size=32:=by rw [hA0];simp
 have D0:A0.defers=[]:=by rw [hA0]
 have E0:A0.tmps.getD 0 undef=c0:=by rw [hA0];simp
 have E1:A0.tmps.getD 1 undef=keyV (x,y):=by rw [hA0];simp
 have E2:A0.tmps.getD 2 undef=.int .i64 hh:=by rw [hA0];simp
 obtain ⟨w1,hw1⟩:∃w1,w1=w.alloc (.cells #[.int .i64 x,.int .i64 y] kT):=⟨_,rfl⟩
 rw [←hw1] at hl1 hI
 have hB1:w1.heap[w.heap.size]?=some (.cells #[.int .i64 x,.int .i64 y] kT (0,0)):=by rw [hw1];show (w.heap.push _)[w.heap.size]?=_;simp
 refine wpIn_seq (wpIn_region_list ?_)
 refine Jg rfl (by intro c;simp [opAt]) (cv:=.pointer (some ⟨w.heap.size,0,none⟩)) (w':=w1) ?_ ?_
 ·have q1:A0.eval (.tmp 1)=keyV (x,y):=by
   show A0.tmps.getD 1 undef=_
   exact E1
  simp only [execOp,opAt,q1]
  rw [hw1]
  simp [Instr.box,newVar,newRow,keyV,Value.cells]
 obtain ⟨A1,hA1⟩:∃A1,A1=A0.put (some 4) (.pointer (some ⟨w.heap.size,0,none⟩)):=⟨_,rfl⟩
 refine (show wpListIn (Fr none) 0 P _ _ _ (A0.put (some 4) (.pointer (some ⟨w.heap.size,0,none⟩))) w1 from ?_)
 rw [←hA1]
 have Z1:A1.tmps.size=32:=by rw [hA1,Jj];exact Z0
 have D1:A1.defers=[]:=by rw [hA1,Jh];exact D0
 have G1:∀e,A1.tmps.getD e undef=if e=4 then .pointer (some ⟨w.heap.size,0,none⟩) else A0.tmps.getD e undef:=fun e=>by rw [hA1,Jn _ _ (by omega)]
 refine Jg rfl (by intro c;simp [opAt]) (cv:=.bool false) (w':=w1) ?_ ?_
 ·simp only [execOp,opAt];rfl
 obtain ⟨A2,hA2⟩:∃A2,A2=A1.put (some 6) (.bool false):=⟨_,rfl⟩
 refine (show wpListIn (Fr none) 0 P _ _ _ (A1.put (some 6) (.bool false)) w1 from ?_)
 rw [←hA2]
 have Z2:A2.tmps.size=32:=by rw [hA2,Jj];exact Z1
 have D2:A2.defers=[]:=by rw [hA2,Jh];exact D1
 have G2:∀e,A2.tmps.getD e undef=if e=6 then .bool false else A1.tmps.getD e undef:=fun e=>by rw [hA2,Jn _ _ (by omega)]
 refine wpListIn_nil (wpIn_seq (wpIn_region_list ?_))
 refine Jg rfl (by intro c;simp [opAt]) (cv:=c0) (w':=w1) ?_ ?_
 ·have q0:A2.eval (.tmp 0)=c0:=by
   show A2.tmps.getD 0 undef=_
   rw [G2,if_neg (by decide),G1,if_neg (by decide)];exact E0
  simp only [execOp,opAt,q0];rfl
 obtain ⟨A3,hA3⟩:∃A3,A3=A2.put (some 8) (c0):=⟨_,rfl⟩
 refine (show wpListIn (Fr none) 0 P _ _ _ (A2.put (some 8) (c0)) w1 from ?_)
 rw [←hA3]
 have Z3:A3.tmps.size=32:=by rw [hA3,Jj];exact Z2
 have D3:A3.defers=[]:=by rw [hA3,Jh];exact D2
 have G3:∀e,A3.tmps.getD e undef=if e=8 then c0 else A2.tmps.getD e undef:=fun e=>by rw [hA3,Jn _ _ (by omega)]
 refine Jg rfl (by intro c;simp [opAt]) (cv:=keyV (x,y)) (w':=w1) ?_ ?_
 ·have q4:A3.eval (.tmp 4)=.pointer (some ⟨w.heap.size,0,none⟩):=by
   show A3.tmps.getD 4 undef=_
   rw [G3,if_neg (by decide),G2,if_neg (by decide),G1,if_pos rfl]
  simp only [execOp,opAt,q4]
  rw [Sem.run_bind,Jde hag hsz2 hB1];rfl
 obtain ⟨A4,hA4⟩:∃A4,A4=A3.put (some 9) (keyV (x,y)):=⟨_,rfl⟩
 refine (show wpListIn (Fr none) 0 P _ _ _ (A3.put (some 9) (keyV (x,y))) w1 from ?_)
 rw [←hA4]
 have Z4:A4.tmps.size=32:=by rw [hA4,Jj];exact Z3
 have D4:A4.defers=[]:=by rw [hA4,Jh];exact D3
 have G4:∀e,A4.tmps.getD e undef=if e=9 then keyV (x,y) else A3.tmps.getD e undef:=fun e=>by rw [hA4,Jn _ _ (by omega)]
 refine Jg rfl (by intro c;simp [opAt]) (cv:=lv) (w':=w1) ?_ ?_
 ·have q8:A4.eval (.tmp 8)=c0:=by
   show A4.tmps.getD 8 undef=_
   rw [G4,if_neg (by decide),G3,if_pos rfl]
  have q9:A4.eval (.tmp 9)=keyV (x,y):=by
   show A4.tmps.getD 9 undef=_
   rw [G4,if_pos rfl]
  simp only [execOp,opAt,q8,q9]
  rw [Sem.run_bind,hl1];rfl
 obtain ⟨A5,hA5⟩:∃A5,A5=A4.put (some 10) (lv):=⟨_,rfl⟩
 refine (show wpListIn (Fr none) 0 P _ _ _ (A4.put (some 10) (lv)) w1 from ?_)
 rw [←hA5]
 have Z5:A5.tmps.size=32:=by rw [hA5,Jj];exact Z4
 have D5:A5.defers=[]:=by rw [hA5,Jh];exact D4
 have G5:∀e,A5.tmps.getD e undef=if e=10 then lv else A4.tmps.getD e undef:=fun e=>by rw [hA5,Jn _ _ (by omega)]
 refine Jg rfl (by intro c;simp [opAt]) (cv:=.int .i64 hh) (w':=w1) ?_ ?_
 ·have q2:A5.eval (.tmp 2)=.int .i64 hh:=by
   show A5.tmps.getD 2 undef=_
   rw [G5,if_neg (by decide),G4,if_neg (by decide),G3,if_neg (by decide),G2,if_neg (by decide),G1,if_neg (by decide)];exact E2
  simp only [execOp,opAt,q2];rfl
 obtain ⟨A6,hA6⟩:∃A6,A6=A5.put (some 11) (.int .i64 hh):=⟨_,rfl⟩
 refine (show wpListIn (Fr none) 0 P _ _ _ (A5.put (some 11) (.int .i64 hh)) w1 from ?_)
 rw [←hA6]
 have Z6:A6.tmps.size=32:=by rw [hA6,Jj];exact Z5
 have D6:A6.defers=[]:=by rw [hA6,Jh];exact D5
 have G6:∀e,A6.tmps.getD e undef=if e=11 then .int .i64 hh else A5.tmps.getD e undef:=fun e=>by rw [hA6,Jn _ _ (by omega)]
 refine Jqs rfl (by intro c;simp [opAt]) (f:=ix) (args:=#[lv,.int .i64 hh]) (R:=fun cv w2=>∃i,cv=.int .i64 i∧TakeI P mt kT cl dl c0 x y w.heap.size R i w2) ?_ (hI.mono fun e w2 ⟨i,he,hT⟩=>⟨_,he,i,rfl,hT⟩) fun cv w2 ⟨i,hcv,hT⟩=>?_
 ·have q10:A6.eval (.tmp 10)=lv:=by
   show A6.tmps.getD 10 undef=_
   rw [G6,if_neg (by decide),G5,if_pos rfl]
  have q11:A6.eval (.tmp 11)=.int .i64 hh:=by
   show A6.tmps.getD 11 undef=_
   rw [G6,if_pos rfl]
  simp [opAt,execOp,resolve,Deferred.ofValue,invoke,q10,q11,show ∀a:Act,a.eval (.func ix)=.func (.func ix) #[] #[] from fun _=>rfl,J0 hix]
 subst hcv
 obtain ⟨A7,hA7⟩:∃A7,A7=A6.put (some 12) (.int .i64 i):=⟨_,rfl⟩
 refine (show wpListIn (Fr none) 0 P _ _ _ (A6.put (some 12) (.int .i64 i)) w2 from ?_)
 rw [←hA7]
 have Z7:A7.tmps.size=32:=by rw [hA7,Jj];exact Z6
 have D7:A7.defers=[]:=by rw [hA7,Jh];exact D6
 have G7:∀e,A7.tmps.getD e undef=if e=12 then .int .i64 i else A6.tmps.getD e undef:=fun e=>by rw [hA7,Jn _ _ (by omega)]
 refine Jg rfl (by intro c;simp [opAt]) (cv:=.int .i64 i) (w':=w2) ?_ ?_
 ·have q12:A7.eval (.tmp 12)=.int .i64 i:=by
   show A7.tmps.getD 12 undef=_
   rw [G7,if_pos rfl]
  simp only [execOp,opAt,q12];rfl
 obtain ⟨A8,hA8⟩:∃A8,A8=A7.put (some 7) (.int .i64 i):=⟨_,rfl⟩
 refine (show wpListIn (Fr none) 0 P _ _ _ (A7.put (some 7) (.int .i64 i)) w2 from ?_)
 rw [←hA8]
 have Z8:A8.tmps.size=32:=by rw [hA8,Jj];exact Z7
 have D8:A8.defers=[]:=by rw [hA8,Jh];exact D7
 have G8:∀e,A8.tmps.getD e undef=if e=7 then .int .i64 i else A7.tmps.getD e undef:=fun e=>by rw [hA8,Jn _ _ (by omega)]
 obtain ⟨hB2,kneg,kpos⟩:=hT
 have cmp:∀ {op:BinOp} {a b:Int} {v:Bool} {w:World},Jf5 op .i64 a b=some (.bool v)→(binOp op iT (.int .i64 a) (.int .i64 b)).run P w=.ok (.bool v) w:=fun {op a b v w} h=>by
  obtain ⟨cv,r,hr⟩:=Jb0 (P:=P) (w:=w) (S:=fun _=>False) (h:=fun _=>none) (μ:=⟨fun _=>0,fun _=>0,fun _=>0⟩) (t:=iT) h
  rw [r,hr.bool_inv]
 refine wpListIn_nil (wpIn_seq (wpIn_seq (wpIn_region_list ?_)))
 refine Jg rfl (by intro c;simp [opAt]) (cv:=.int .i64 i) (w':=w2) ?_ ?_
 ·have q7:A8.eval (.tmp 7)=.int .i64 i:=by
   show A8.tmps.getD 7 undef=_
   rw [G8,if_pos rfl]
  simp only [execOp,opAt,q7];rfl
 obtain ⟨A9,hA9⟩:∃A9,A9=A8.put (some 13) (.int .i64 i):=⟨_,rfl⟩
 refine (show wpListIn (Fr none) 0 P _ _ _ (A8.put (some 13) (.int .i64 i)) w2 from ?_)
 rw [←hA9]
 have Z9:A9.tmps.size=32:=by rw [hA9,Jj];exact Z8
 have D9:A9.defers=[]:=by rw [hA9,Jh];exact D8
 have G9:∀e,A9.tmps.getD e undef=if e=13 then .int .i64 i else A8.tmps.getD e undef:=fun e=>by rw [hA9,Jn _ _ (by omega)]
 refine Jg rfl (by intro c;simp [opAt]) (cv:=.bool (decide (i<0))) (w':=w2) ?_ ?_
 ·have q13:A9.eval (.tmp 13)=.int .i64 i:=by
   show A9.tmps.getD 13 undef=_
   rw [G9,if_pos rfl]
  simp only [execOp,opAt,q13,show A9.eval (.const (.int .i64 0))=.int .i64 0 from rfl]
  rw [Sem.run_bind,Sem.run_bind]
  simp [eqGuard,cmp (op:=.lss) (a:=i) (b:=0) (v:=decide (i<0)) rfl,Result.andThen]
 obtain ⟨A10,hA10⟩:∃A10,A10=A9.put (some 14) (.bool (decide (i<0))):=⟨_,rfl⟩
 refine (show wpListIn (Fr none) 0 P _ _ _ (A9.put (some 14) (.bool (decide (i<0)))) w2 from ?_)
 rw [←hA10]
 have Z10:A10.tmps.size=32:=by rw [hA10,Jj];exact Z9
 have D10:A10.defers=[]:=by rw [hA10,Jh];exact D9
 have G10:∀e,A10.tmps.getD e undef=if e=14 then .bool (decide (i<0)) else A9.tmps.getD e undef:=fun e=>by rw [hA10,Jn _ _ (by omega)]
 refine wpListIn_nil (wpIn_cond_split (t:=decide (i<0)) (by show A10.tmps.getD 14 undef=_;rw [G10,if_pos rfl]) (fun hneg=>?_) fun hneg=>?_)
 ·have hneg:i<0:=of_decide_eq_true hneg
  refine wpIn_seq (wpIn_region_list ?_)
  refine Jg rfl (by intro c;simp [opAt]) (cv:=.bool false) (w':=w2) ?_ ?_
  ·simp only [execOp,opAt];rfl
  obtain ⟨A11,hA11⟩:∃A11,A11=A10.put (some 6) (.bool false):=⟨_,rfl⟩
  refine (show wpListIn (Fr none) 0 P _ _ _ (A10.put (some 6) (.bool false)) w2 from ?_)
  rw [←hA11]
  have Z11:A11.tmps.size=32:=by rw [hA11,Jj];exact Z10
  have D11:A11.defers=[]:=by rw [hA11,Jh];exact D10
  have G11:∀e,A11.tmps.getD e undef=if e=6 then .bool false else A10.tmps.getD e undef:=fun e=>by rw [hA11,Jn _ _ (by omega)]
  refine wpListIn_nil (wpIn_ret ?_)
  refine ⟨D11,.bool false,?_,kneg hneg⟩
  have q6:A11.tmps.getD 6 undef=.bool false:=by rw [G11,if_pos rfl]
  rw [Array.getD_eq_getD_getElem?] at q6
  simp [results,hrs,q6]
 have hneg:0≤i:=by have:=of_decide_eq_false hneg;omega
 obtain ⟨Al,n,cp,hl2,k1,kn⟩:=kpos hneg
 refine wpIn_skip (wpIn_seq (wpIn_seq (wpIn_region_list ?_)))
 refine Jg rfl (by intro c;simp [opAt]) (cv:=c0) (w':=w2) ?_ ?_
 ·have q0:A10.eval (.tmp 0)=c0:=by
   show A10.tmps.getD 0 undef=_
   rw [G10,if_neg (by decide),G9,if_neg (by decide),G8,if_neg (by decide),G7,if_neg (by decide),G6,if_neg (by decide),G5,if_neg (by decide),G4,if_neg (by decide),G3,if_neg (by decide),G2,if_neg (by decide),G1,if_neg (by decide)];exact E0
  simp only [execOp,opAt,q0];rfl
 obtain ⟨A11,hA11⟩:∃A11,A11=A10.put (some 15) (c0):=⟨_,rfl⟩
 refine (show wpListIn (Fr none) 0 P _ _ _ (A10.put (some 15) (c0)) w2 from ?_)
 rw [←hA11]
 have Z11:A11.tmps.size=32:=by rw [hA11,Jj];exact Z10
 have D11:A11.defers=[]:=by rw [hA11,Jh];exact D10
 have G11:∀e,A11.tmps.getD e undef=if e=15 then c0 else A10.tmps.getD e undef:=fun e=>by rw [hA11,Jn _ _ (by omega)]
 refine Jg rfl (by intro c;simp [opAt]) (cv:=keyV (x,y)) (w':=w2) ?_ ?_
 ·have q4:A11.eval (.tmp 4)=.pointer (some ⟨w.heap.size,0,none⟩):=by
   show A11.tmps.getD 4 undef=_
   rw [G11,if_neg (by decide),G10,if_neg (by decide),G9,if_neg (by decide),G8,if_neg (by decide),G7,if_neg (by decide),G6,if_neg (by decide),G5,if_neg (by decide),G4,if_neg (by decide),G3,if_neg (by decide),G2,if_neg (by decide),G1,if_pos rfl]
  simp only [execOp,opAt,q4]
  rw [Sem.run_bind,Jde hag hsz2 hB2];rfl
 obtain ⟨A12,hA12⟩:∃A12,A12=A11.put (some 16) (keyV (x,y)):=⟨_,rfl⟩
 refine (show wpListIn (Fr none) 0 P _ _ _ (A11.put (some 16) (keyV (x,y))) w2 from ?_)
 rw [←hA12]
 have Z12:A12.tmps.size=32:=by rw [hA12,Jj];exact Z11
 have D12:A12.defers=[]:=by rw [hA12,Jh];exact D11
 have G12:∀e,A12.tmps.getD e undef=if e=16 then keyV (x,y) else A11.tmps.getD e undef:=fun e=>by rw [hA12,Jn _ _ (by omega)]
 refine Jg rfl (by intro c;simp [opAt]) (cv:=.slice Al n cp) (w':=w2) ?_ ?_
 ·have q15:A12.eval (.tmp 15)=c0:=by
   show A12.tmps.getD 15 undef=_
   rw [G12,if_neg (by decide),G11,if_pos rfl]
  have q16:A12.eval (.tmp 16)=keyV (x,y):=by
   show A12.tmps.getD 16 undef=_
   rw [G12,if_pos rfl]
  simp only [execOp,opAt,q15,q16]
  rw [Sem.run_bind,hl2];rfl
 obtain ⟨A13,hA13⟩:∃A13,A13=A12.put (some 17) (.slice Al n cp):=⟨_,rfl⟩
 refine (show wpListIn (Fr none) 0 P _ _ _ (A12.put (some 17) (.slice Al n cp)) w2 from ?_)
 rw [←hA13]
 have Z13:A13.tmps.size=32:=by rw [hA13,Jj];exact Z12
 have D13:A13.defers=[]:=by rw [hA13,Jh];exact D12
 have G13:∀e,A13.tmps.getD e undef=if e=17 then .slice Al n cp else A12.tmps.getD e undef:=fun e=>by rw [hA13,Jn _ _ (by omega)]
 refine Jg rfl (by intro c;simp [opAt]) (cv:=.int .i64 (n:Int)) (w':=w2) ?_ ?_
 ·have q17:A13.eval (.tmp 17)=.slice Al n cp:=by
   show A13.tmps.getD 17 undef=_
   rw [G13,if_pos rfl]
  simp [execOp,opAt,resolve,invoke,builtin,q17,Builtin.len_,run_underlying hsT,Builtin.lenOf,goInt]
 obtain ⟨A14,hA14⟩:∃A14,A14=A13.put (some 18) (.int .i64 (n:Int)):=⟨_,rfl⟩
 refine (show wpListIn (Fr none) 0 P _ _ _ (A13.put (some 18) (.int .i64 (n:Int))) w2 from ?_)
 rw [←hA14]
 have Z14:A14.tmps.size=32:=by rw [hA14,Jj];exact Z13
 have D14:A14.defers=[]:=by rw [hA14,Jh];exact D13
 have G14:∀e,A14.tmps.getD e undef=if e=18 then .int .i64 (n:Int) else A13.tmps.getD e undef:=fun e=>by rw [hA14,Jn _ _ (by omega)]
 refine Jg rfl (by intro c;simp [opAt]) (cv:=.bool (decide ((n:Int)=1))) (w':=w2) ?_ ?_
 ·have q18:A14.eval (.tmp 18)=.int .i64 (n:Int):=by
   show A14.tmps.getD 18 undef=_
   rw [G14,if_pos rfl]
  simp only [execOp,opAt,q18,show A14.eval (.const (.int .i64 1))=.int .i64 1 from rfl]
  rw [Sem.run_bind,Sem.run_bind]
  simp [eqGuard,run_underlying hiT,cmp (op:=.eql) (a:=(n:Int)) (b:=1) (v:=decide ((n:Int)=1)) rfl,Result.andThen]
 obtain ⟨A15,hA15⟩:∃A15,A15=A14.put (some 19) (.bool (decide ((n:Int)=1))):=⟨_,rfl⟩
 refine (show wpListIn (Fr none) 0 P _ _ _ (A14.put (some 19) (.bool (decide ((n:Int)=1)))) w2 from ?_)
 rw [←hA15]
 have Z15:A15.tmps.size=32:=by rw [hA15,Jj];exact Z14
 have D15:A15.defers=[]:=by rw [hA15,Jh];exact D14
 have G15:∀e,A15.tmps.getD e undef=if e=19 then .bool (decide ((n:Int)=1)) else A14.tmps.getD e undef:=fun e=>by rw [hA15,Jn _ _ (by omega)]
 have last:∀ {A:Act} {w3:World},A.tmps.size=32→A.defers=[]→R (.returned (.bool true)) w3→(Code.seq (.region 7 #[opAt (r 7) 0 (some 6) (.assign (.const (.bool true)))] false) .ret).wpIn (Fr none) 0 P (bodyPost P fn R) A w3:=fun {A w3} hz hd hR=>by
  refine wpIn_seq (wpIn_region_list (Jg rfl (by intro c;simp [opAt]) (cv:=.bool true) (w':=w3) (by simp only [execOp,opAt];rfl) (wpListIn_nil (wpIn_ret ⟨?_,.bool true,?_,hR⟩))))
  ·show (A.put (some 6) _).defers=[]
   rw [Jh];exact hd
  ·have q6:(A.put (some 6) (.bool true)).tmps.getD 6 undef=.bool true:=by rw [Jn _ _ (by omega),if_pos rfl]
   rw [Array.getD_eq_getD_getElem?] at q6
   show (results fn (A.put (some 6) (.bool true)).tmps).run P w3=_
   simp [results,hrs,q6]
 refine wpListIn_nil (wpIn_cond_split (t:=decide ((n:Int)=1)) (by show A15.tmps.getD 19 undef=_;rw [G15,if_pos rfl]) (fun h1=>?_) fun h1=>?_)
 ·have h1:(n:Int)=1:=of_decide_eq_true h1
  refine wpIn_region_list ?_
  refine Jg rfl (by intro c;simp [opAt]) (cv:=c0) (w':=w2) ?_ ?_
  ·have q0:A15.eval (.tmp 0)=c0:=by
    show A15.tmps.getD 0 undef=_
    rw [G15,if_neg (by decide),G14,if_neg (by decide),G13,if_neg (by decide),G12,if_neg (by decide),G11,if_neg (by decide),G10,if_neg (by decide),G9,if_neg (by decide),G8,if_neg (by decide),G7,if_neg (by decide),G6,if_neg (by decide),G5,if_neg (by decide),G4,if_neg (by decide),G3,if_neg (by decide),G2,if_neg (by decide),G1,if_neg (by decide)];exact E0
   simp only [execOp,opAt,q0];rfl
  obtain ⟨A16,hA16⟩:∃A16,A16=A15.put (some 20) (c0):=⟨_,rfl⟩
  refine (show wpListIn (Fr none) 0 P _ _ _ (A15.put (some 20) (c0)) w2 from ?_)
  rw [←hA16]
  have Z16:A16.tmps.size=32:=by rw [hA16,Jj];exact Z15
  have D16:A16.defers=[]:=by rw [hA16,Jh];exact D15
  have G16:∀e,A16.tmps.getD e undef=if e=20 then c0 else A15.tmps.getD e undef:=fun e=>by rw [hA16,Jn _ _ (by omega)]
  refine Jg rfl (by intro c;simp [opAt]) (cv:=keyV (x,y)) (w':=w2) ?_ ?_
  ·have q4:A16.eval (.tmp 4)=.pointer (some ⟨w.heap.size,0,none⟩):=by
    show A16.tmps.getD 4 undef=_
    rw [G16,if_neg (by decide),G15,if_neg (by decide),G14,if_neg (by decide),G13,if_neg (by decide),G12,if_neg (by decide),G11,if_neg (by decide),G10,if_neg (by decide),G9,if_neg (by decide),G8,if_neg (by decide),G7,if_neg (by decide),G6,if_neg (by decide),G5,if_neg (by decide),G4,if_neg (by decide),G3,if_neg (by decide),G2,if_neg (by decide),G1,if_pos rfl]
   simp only [execOp,opAt,q4]
   rw [Sem.run_bind,Jde hag hsz2 hB2];rfl
  obtain ⟨A17,hA17⟩:∃A17,A17=A16.put (some 21) (keyV (x,y)):=⟨_,rfl⟩
  refine (show wpListIn (Fr none) 0 P _ _ _ (A16.put (some 21) (keyV (x,y))) w2 from ?_)
  rw [←hA17]
  have Z17:A17.tmps.size=32:=by rw [hA17,Jj];exact Z16
  have D17:A17.defers=[]:=by rw [hA17,Jh];exact D16
  have G17:∀e,A17.tmps.getD e undef=if e=21 then keyV (x,y) else A16.tmps.getD e undef:=fun e=>by rw [hA17,Jn _ _ (by omega)]
  obtain ⟨w3,rd,hR⟩:=k1 (by omega) ((r 5)[2]?.getD default).type
  refine Jg rfl (by intro c;simp [opAt]) (cv:=.tuple #[]) (w':=w3) ?_ ?_
  ·have q20:A17.eval (.tmp 20)=c0:=by
    show A17.tmps.getD 20 undef=_
    rw [G17,if_neg (by decide),G16,if_pos rfl]
   have q21:A17.eval (.tmp 21)=keyV (x,y):=by
    show A17.tmps.getD 21 undef=_
    rw [G17,if_pos rfl]
   simp [execOp,opAt,resolve,invoke,builtin,q20,q21,rd]
  ·exact wpListIn_nil (last Z17 D17 hR)
 ·have h1:n≠1:=fun e=>by have:=of_decide_eq_false h1;omega
  obtain ⟨PD,PC,PL,Bx,lv2,x1,x2,x3,x4,x5,x6,x7,x8,x9⟩:=kn h1
  refine reg6 hm hiT hag hsz2 hcl hdl (B:=w.heap.size) (x:=x) (y:=y) (i:=i) (cm:=c0) (by rw [Z15];exact Af _) (by rw [G15,if_neg (by decide),G14,if_neg (by decide),G13,if_neg (by decide),G12,if_neg (by decide),G11,if_neg (by decide),G10,if_neg (by decide),G9,if_neg (by decide),G8,if_neg (by decide),G7,if_neg (by decide),G6,if_neg (by decide),G5,if_neg (by decide),G4,if_neg (by decide),G3,if_neg (by decide),G2,if_neg (by decide),G1,if_neg (by decide)];exact E0) (by rw [G15,if_neg (by decide),G14,if_neg (by decide),G13,if_neg (by decide),G12,if_neg (by decide),G11,if_neg (by decide),G10,if_neg (by decide),G9,if_neg (by decide),G8,if_neg (by decide),G7,if_neg (by decide),G6,if_neg (by decide),G5,if_neg (by decide),G4,if_neg (by decide),G3,if_neg (by decide),G2,if_neg (by decide),G1,if_pos rfl]) (by rw [G15,if_neg (by decide),G14,if_neg (by decide),G13,if_neg (by decide),G12,if_neg (by decide),G11,if_neg (by decide),G10,if_neg (by decide),G9,if_neg (by decide),G8,if_pos rfl]) (fun c a d v w q=>?_) x1 x2 x3 x4 (fun w dv hq=>?_) x6 x7 x8 x9 6
  ·simp only [Exit.then] at q ⊢
   exact ⟨by have:=q.1;rw [Jh] at this;exact this,q.2⟩
  ·obtain ⟨w3,r1,r2⟩:=x5 w dv hq
   exact ⟨w3,r1,fun a' hT=>last (by rw [hT.sz,Z15]) (by rw [hT.df,D15]) r2⟩
end
end Go.Dn
namespace Go.Dn
open Go Go.Vv
set_option linter.unusedVariables false
set_option linter.unusedSimpArgs false
section
variable {nt:Nat} {w w':World} {S:Nat→Prop} {s:Dn.S Ty.T} {μ:Gh} {a:Act} {fs:List Fm}
theorem RepF.pin (hF:RepF nt w S s μ a fs) (o:Old w w') {b:Nat} (hb:w.heap.size≤b) (hb2:b<w'.heap.size):RepF nt w' (fun q=>S q∨q=b) s μ a fs∧Evo w S (encH s) μ w' (fun q=>S q∨q=b) (encH s) μ:=by
 have ev:Evo w S (encH s) μ w' (fun q=>S q∨q=b) (encH s) μ :=
  ⟨o.os,o.tape,o.output,o.size,fun b hb _=>o.keep b hb,fun b cs el z hc=>⟨cs,(o.keep b (Array.getElem?_eq_some_iff.1 hc).1).trans hc,rfl⟩,fun _ h=>.inl h,fun q h=>by rcases h with h|rfl;exact .inl h;exact .inr (.inl hb),fun _ h=>.inl h,rfl⟩
 have hp:RepH w' (fun q=>S q∨q=b) (encH s) μ:=by
  refine ⟨fun g ob ho=>(hF.fr.hp.ob g ob ho).evo hF.fr.hp ev (.refl _ _) fun hl=>o.keep _ ((hF.fr.hp.ob g ob ho).lt hl),hF.fr.hp.inj,fun g ob ho hz hl hs=>?_,fun q hq=>?_⟩
  ·rcases hs with hs|hs
   ·exact hF.fr.hp.own g ob ho hz hl hs
   ·have:=(hF.fr.hp.ob g ob ho).lt hl;omega
  ·rcases hq with hq|rfl
   ·exact Ab (hF.fr.hp.lt q hq) o.size
   ·exact hb2
 exact ⟨hF.step rfl ⟨fun d=>(hF.fr.fr d).evo hF.fr.hp ev (.refl _ _),hp,hF.fr.hp.marks hF.fr.df ev,hF.fr.sz⟩ (.refl s) hF.iv ev (.refl _ _),ev⟩
theorem RepF.mp (hF:RepF nt w S s μ a fs) {g ver:Nat} {kt vt:Ty} {es es':List (kt.T×vt.T)} (ho:look g s.ob=some (.mp ver kt vt es)) (hr:Ran w S (encH s) μ (.tup []) (upd (encH s) g (some (.map ver (encE kt vt es') false))) (.tuple #[]) w') :
  ∃S' μ',RepF nt w' S' (s.obj g (.mp ver kt vt es')) μ' a fs∧Evo w S (encH s) μ w' S' (encH (s.obj g (.mp ver kt vt es'))) μ':=by
 obtain ⟨S',μ',-,hp,ev,vv⟩:=hr
 have st:Stab s (s.obj g (.mp ver kt vt es')):=Qg fun o0 h0=>by rw [ho] at h0;injection h0 with h0;subst h0;exact ⟨rfl,rfl⟩
 have iv:Inv (s.obj g (.mp ver kt vt es')):=Yb hF.iv st (fun g'=>J2 g g' _) (fun c hc=>by cases hc) (hF.iv.free ho)
 have hh:=Qw hF.iv st (fun g'=>J2 g g' _)
 have hh:encH (s.obj g (.mp ver kt vt es'))=upd (encH s) g (some (.map ver (encE kt vt es') false)):=hh
 rw [←hh] at hp ev vv
 refine ⟨S',μ',hF.step rfl ⟨fun d=>?_,hp,hF.fr.hp.marks hF.fr.df ev,hF.fr.sz⟩ st.on iv ev vv,ev⟩
 rw [Yv hF.iv st]
 exact (hF.fr.fr d).evo hF.fr.hp ev vv
theorem Jt3 {w1 w2 w3:World} (a:Old w1 w2) (b:Old w2 w3):Old w1 w3 :=
 ⟨b.os.trans a.os,b.tape.trans a.tape,⟨b.output.1.trans a.output.1,Ai a.output.2 b.output.2⟩,Ai a.size b.size,fun q hq=>(b.keep q (Ab hq a.size)).trans (a.keep q hq)⟩
theorem old_drew {w:World}:Old w { w with drawn:=w.drawn+1 }:=⟨rfl,rfl,⟨rfl,Nat.le_succ _⟩,Af _,fun _ _=>rfl⟩
end
open Go.Proofs Go.Shelf in
theorem Juk {P:Program} {ρ:Ren} (L:SlLaysE.n45 P ρ) (v23:∀w,(zeroValue (ρ.t 23)).run P w=.ok (.int .i64 0) w) {i0:TypeInfo} (hi0:P.info? (ρ.t 23)=some i0) (hz1:i0.size=1) (hdl:FnOK P (ρ.f 45))
  {id ix cl:FuncId} {mt kT hT sT iT bT:TypeId} {bytes:Nat} {fn:List Int×Int→Option Int} {cfn:List Int→Option (List Int)} (F:TakeF P id ix cl (ρ.f 45) mt kT hT sT iT bT) (T:AddT P mt kT hT sT bytes) (hm:P.follows .mixedOrders=true) (hiT:P.underlying iT=some (.int .i64)) (gix:Good P (ixC ix fn))
  (goc:OGood P ⟨cl,[(.one,.ls I)],hT,I,cfn⟩) (hcfn:∀l:List Int,((l.length:Nat):Int) * bytes≤room∧((l.length:Nat):Int)≤9223372036854775807→cfn l=some l):Jey P id (takeB bytes ix fn):=by
 refine ⟨F.lt,?_,fun {α base vs s k r} hd {n0 w S μ a0 fr fs cargs} hF okv hsz hargs {R} hR=>?_⟩
 ·obtain ⟨f0,c,hf,hb,hc,hnt,hrs,hn⟩:=F.fn
  exact ⟨f0,hf,by rw [hb];rfl,hn⟩
 simp only [takeB] at hd
 split at hd
 ·rename_i g ver kv hv
  split at hd
  ·rename_i wv' es ho
   obtain ⟨e1,hd2⟩:=Jfg hd
   subst e1
   obtain ⟨kk,hk,hd3⟩:=Jd hd2
   obtain ⟨hh,hhv,hd4⟩:=Jd hd3
   have hkv:=Yp (s:=s) rfl hk
   have hhv:=Yp (s:=s) rfl hhv
   obtain ⟨x,y⟩:=kk
   obtain ⟨es',hes⟩:∃es':List ((Ty.p I I).T×List Int),es'=es:=⟨_,rfl⟩
   obtain ⟨n,hn⟩:∃n:Int,n=hh:=⟨_,rfl⟩
   obtain ⟨l,hl⟩:∃l:List Int,l=mL (x,y) es':=⟨_,rfl⟩
   have hd5:Jas (fn (l,n)) (fun i=>takeS val s g wv' bytes es (x,y) l i (iar .add .i64 i 1) k)=some r:=by rw [hl,hes,hn];exact hd4
   obtain ⟨i,hfi,hd6⟩:=Jcs hd5
   have ho':look g s.ob=some (.mp wv' (.p I I) (.ls I) es'):=by rw [hes];exact ho
   have eG:encH s g=some (.map wv' (encE (.p I I) (.ls I) es') false):=by rw [Jf ho'];rfl
   have a0r:=hargs 0 _ rfl
   have a1r:=hargs 1 _ rfl
   have a2r:=hargs 2 _ rfl
   rw [hkv] at a1r
   rw [hhv] at a2r
   have a0r:Rep w S (encH s) μ (.map g wv') (cargs.getD 0 undef):=a0r
   have e0:cargs.getD 0 undef=.map (some (μ.b g)):=a0r.map_inv eG
   have e1:cargs.getD 1 undef=keyV (x,y):=by
    have a1r:Rep w S (encH s) μ (.agg [.int .i64 x,.int .i64 y]) (cargs.getD 1 undef):=a1r
    obtain ⟨cs,e,hl,h1⟩:=a1r.agg_inv
    rw [e]
    have q0:=(h1 0 _ rfl).1.int_inv
    have q1:=(h1 1 _ rfl).1.int_inv
    simp at hl
    show Value.agg cs=Value.agg #[.int .i64 x,.int .i64 y]
    congr 1
    apply Array.ext
    ·simp [←hl]
    ·intro j h1 h2
     match j,h1 with
     | 0,h1=>simpa [Array.getD_eq_getD_getElem?,h1] using q0
     | 1,h1=>simpa [Array.getD_eq_getD_getElem?,h1] using q1
     | j+2,h1=>omega
   have e2:cargs.getD 2 undef=.int .i64 n:=by
    rw [hn]
    have a2r:Rep w S (encH s) μ (.int .i64 hh) (cargs.getD 2 undef):=a2r
    exact a2r.int_inv
   have hsz:cargs.size=3:=hsz
   have ec:cargs=#[.map (some (μ.b g)),keyV (x,y),.int .i64 n]:=by
    apply Array.ext
    ·rw [hsz];rfl
    ·intro j h1 h2
     have gd:cargs[j]=cargs.getD j undef:=by simp [Array.getD_eq_getD_getElem?,h1]
     rw [gd]
     match j,h1 with
     | 0,_=>exact e0
     | 1,_=>exact e1
     | 2,_=>exact e2
     | j+3,h1=>omega
   have hkey:∀ {w:World} {S:Nat→Prop},RepP w S (avT (.p I I) (x,y)) (keyV (x,y)):=fun {w S}=>by
    refine .agg _ _ rfl (fun i y hi=>?_) fun i y hi=>?_
    ·match i,hi with
     | 0,hi=>rfl
     | 1,hi=>rfl
    ·match i,hi with
     | 0,hi=>injection hi with hi;subst hi;exact .int _ _
     | 1,hi=>injection hi with hi;subst hi;exact .int _ _
   have hlt:=(hF.fr.hp.ob g _ eG).lt rfl
   have mapR:∀ {w1:World},Old w w1→Rep w1 S (encH s) μ (.map g wv') (.map (some (μ.b g))):=fun {w1} o=>by
    have:Rep w S (encH s) μ (.map g wv') (.map (some (μ.b g))):=by rw [←e0];exact a0r
    exact this.evo hF.fr.hp (Jag o) (.refl _ _)
   have LK:∀ {w1:World},Old w w1→∃lv,(Instr.lookup mt (.map (some (μ.b g))) (keyV (x,y)) false).run P w1=.ok lv w1∧RepP w1 S (.lst l.length (l.map (AV.int .i64))) lv:=fun {w1} o=>by
    have h1:=hF.old o
    have he:=mg_enc (kt:=.p I I) (vt:=.ls I) Jox rfl es' (x,y) [] (zv:=.lst 0 []) rfl false
    obtain ⟨lv,r1,r2⟩:=Jgh (P:=P) h1.fr.hp T.ht T.hsh T.hag T.hzs (mapR o) (.pure hkey) (x:=.map g wv') (k:=avT (.p I I) (x,y)) (ok:=false) (v:=.lst l.length (l.map (AV.int .i64))) (by
     have hc:esOf (encH s) (.map g wv')=some (encE (.p I I) (.ls I) es'):=Y7 ho'
     refine (congrArg (Jqv false true [false,false] (.lst 0 []) (avT (.p I I) (x,y))) hc).trans (he.trans ?_)
     rw [hl]
     exact congrArg some (by
      show AV.lst (mL (x,y) es').length (Ac (α:=I.T) (Ty.cs I) (mL (x,y) es'))=_
      rw [Yw]))
    exact ⟨lv,r1,r2.flat rfl⟩
   have sl:∀ {w1:World} {lv:Value},RepP w1 S (.lst l.length (l.map (AV.int .i64))) lv→∃A c,lv=.slice A l.length c:=fun {w1 lv} h=>by
    generalize hq:l.length=q at h
    generalize l.map (AV.int .i64)=C at h
    cases h with
    | lst0=>exact ⟨_,_,rfl⟩
    | lst _ _ a cap cv=>exact ⟨_,_,rfl⟩
   have hbx:w.heap.size<(w.alloc (.cells #[.int .i64 x,.int .i64 y] kT)).heap.size:=by show w.heap.size<(w.heap.push _).size;simp
   have o1:Old w (w.alloc (.cells #[.int .i64 x,.int .i64 y] kT)):=Je0 _
   have hB1:(w.alloc (.cells #[.int .i64 x,.int .i64 y] kT)).heap[w.heap.size]?=some (.cells #[.int .i64 x,.int .i64 y] kT (0,0)):=by show (w.heap.push _)[w.heap.size]?=_;simp
   obtain ⟨w1,hw1⟩:∃w1,w1=w.alloc (.cells #[.int .i64 x,.int .i64 y] kT):=⟨_,rfl⟩
   rw [←hw1] at hbx o1 hB1
   obtain ⟨lv,hlk,hlv⟩:=LK o1
   rw [ec]
   have hS1:∀b,S b→b<w1.heap.size:=fun b hb=>Ab (hF.fr.hp.lt b hb) o1.size
   refine Jrc F hm hiT T.hu T.hag T.hsz gix.fn goc.fn hdl (c0:=.map (some (μ.b g))) (lv:=lv) (by rw [←hw1];exact hlk) (by
    rw [←hw1]
    refine (gix.run (l,n) i hfi w1 S #[lv,.int .i64 n] hS1 rfl fun q z hz=>?_).mono fun e w2 ⟨cv,he,hrep,hold⟩=>?_
    ·match q,hz with
     | 0,hz =>
      injection hz with hz
      subst hz
      have:(AV.lst (List.length (α:=I.T) l) (Ac (α:=I.T) (Ty.cs I) l))=.lst l.length (l.map (AV.int .i64)):=by rw [Yw];rfl
      show RepP w1 S (AV.lst (List.length (α:=I.T) l) (Ac (α:=I.T) (Ty.cs I) l)) lv
      rw [this]
      exact hlv
     | 1,hz=>injection hz with hz;subst hz;exact .int _ _
    ·have hcv:cv=.int .i64 i:=by
      have hrep:RepP w2 (X8 S w1 w2) (.int .i64 i) cv:=hrep
      cases hrep
      rfl
     subst hcv
     refine ⟨i,he,?_⟩
     have o2:Old w w2:=Jt3 o1 hold
     have hB2:w2.heap[w.heap.size]?=some (.cells #[.int .i64 x,.int .i64 y] kT (0,0)):=(hold.keep _ hbx).trans hB1
     have fin:∀ {w3:World} {S3:Nat→Prop} {μ3:Gh} {s3:Dn.S Ty.T} {b:Bool},RepF n0 w3 S3 s3 μ3 a0 (fr::fs)→Evo w S (encH s) μ w3 S3 (encH s3) μ3→k (.c (.kb b)) s3.pop=some r→R (.returned (.bool b)) w3:=fun {w3 S3 μ3 s3 b} h3 ev hk=>by
      have eh:encH s3.pop=encH s3:=by
       unfold Dn.S.pop
       split
       ·exact Xb rfl rfl
       ·rfl
      exact hR w3 S3 μ3 (.c (.kb b)) s3.pop (.bool b) h3.pop (Km fun q hq=>by cases hq) (.pure (.bool b)) (by rw [eh];exact ev) hk
     unfold takeS at hd6
     rcases X9 hd6 with ⟨c1,hd7⟩|⟨c1,hd7⟩
     ·have c1:i<0:=of_decide_eq_true (show decide (i<0)=true from c1)
      exact ⟨hB2,fun _=>fin (hF.old o2) (Jag o2) hd7,fun h=>by omega⟩
     have c1:¬i<0:=of_decide_eq_false (show decide (i<0)=false from c1)
     refine ⟨hB2,fun h=>(c1 h).elim,fun _=>?_⟩
     obtain ⟨lv2,hlk2,hlv2⟩:=LK o2
     obtain ⟨A,c,rfl⟩:=sl hlv2
     refine ⟨A,l.length,c,hlk2,fun h1 ty=>?_,fun h1=>?_⟩
     ·rcases X9 hd7 with ⟨c2,hd8⟩|⟨c2,hd8⟩
      ·have h2:=hF.old o2
       have hde:=Jso (kt:=.p I I) (vt:=.ls I) Jox ho' (x,y)
       obtain ⟨w3,r1,r2⟩:=Jhl (P:=P) (ty:=ty) (ts:=#[mt,kT]) (t:=mt) h2.fr.hp rfl T.ht T.hsh T.hag (mapR o2) (.pure hkey) (x:=.map g wv') (k:=avT (.p I I) (x,y)) hde
       obtain ⟨S3,μ3,h3,ev3⟩:=h2.mp ho' r2
       refine ⟨w3,r1,fin h3 ((Jag o2).trans ev3) ?_⟩
       rw [hes]
       exact hd8
      ·exfalso
       have c2:(((l.length:Nat):Int)==1)=false:=c2
       rw [h1] at c2
       exact absurd c2 (by decide)
     ·rcases X9 hd7 with ⟨c2,hd8⟩|⟨c2,hd8⟩
      ·exfalso
       have c2:(((l.length:Nat):Int)==1)=true:=c2
       have:((l.length:Nat):Int)=1:=by simpa using c2
       exact h1 (by omega)
      obtain ⟨hft,hd9⟩:=Jv hd8
      have hft:=Jc4 hft
      have hft:((l.length:Nat):Int) * bytes≤room∧((l.length:Nat):Int)≤9223372036854775807:=hft
      obtain ⟨hg,hd10⟩:=Jv hd9
      obtain ⟨j,hj⟩:∃j:Int,j=IntKind.wrap .i64 (i+1):=⟨_,rfl⟩
      have hg:(decide (0≤i∧i<((l.length:Nat):Int))&&(decide (i+1≤j)&&decide (j≤((l.length:Nat):Int))))=true:=by rw [hj];exact hg
      simp only [Bool.and_eq_true,decide_eq_true_eq] at hg
      obtain ⟨⟨g1,g2⟩,g3,g4⟩:=hg
      obtain ⟨m,hmd⟩:∃m:List Int,m=l.take i.toNat++l.drop j.toNat:=⟨_,rfl⟩
      have hmm:(((l.drop (0:Int).toNat).take i.toNat)++((l.drop j.toNat).take (((l.length:Nat):Int) - j).toNat))=m:=by
       rw [hmd]
       congr 1
       rw [List.take_of_length_le (by simp;omega)]
      have hd11:k (.c (.kb true)) (s.obj g (.mp wv' (.p I I) (.ls I) (mS (x,y) m es'))).pop=some r:=by
       rw [←hmm,hes,hj]
       exact hd10
      obtain ⟨Bx,hBx⟩:∃Bx:World→Prop,Bx=fun w'=>Old w w'∧w'.heap[w.heap.size]?=some (.cells #[.int .i64 x,.int .i64 y] kT (0,0)):=⟨_,rfl⟩
      have o3:Old w { w2 with drawn:=w2.drawn+1 }:=Jt3 o2 old_drew
      obtain ⟨lv3,hlk3,hlv3⟩:=LK o3
      refine ⟨fun w' dv=>Bx w'∧∃b,w.heap.size≤b∧b<w'.heap.size∧RepP w' (fun q=>S q∨q=b) (.lst m.length (m.map (AV.int .i64))) dv,
       fun w' cv=>Bx w'∧∃(b o cap:Nat) (cs:Array Value),w.heap.size<b∧cv=.slice (some ⟨b,o,none⟩) l.length cap∧(l.length≤cap∧cap≤9223372036854775807)∧w'.heap[b]?=some (.cells cs hT (0,0))∧o+cap≤cs.size∧∀(q:Nat) (z:Int),l[q]?=some z→cs.getD (o+q) undef=.int .i64 z,
       fun w' lv=>Bx w'∧RepP w' S (.lst l.length (l.map (AV.int .i64))) lv,Bx,lv3,fun w' h=>by rw [hBx] at h;exact h.2,fun _ _ h=>h.1,fun _ _ h=>h.1,fun _ _ h=>h.1,?_,?_,?_,hlk3,⟨by rw [hBx];exact ⟨o3,hB2⟩,hlv3⟩⟩
      ·rintro w3 dv ⟨hb3,b,b1,b2,b3⟩
       rw [hBx] at hb3
       obtain ⟨h3,ev3⟩:=hF.pin hb3.1 b1 b2
       have hse:=Jtm (kt:=.p I I) (vt:=.ls I) Jox ho' (x,y) m
       have hmapR:Rep w3 (fun q=>S q∨q=b) (encH s) μ (.map g wv') (.map (some (μ.b g))):=by
        have:Rep w S (encH s) μ (.map g wv') (.map (some (μ.b g))):=by rw [←e0];exact a0r
        exact this.evo hF.fr.hp ev3 (.refl _ _)
       obtain ⟨w4,r1,r2⟩:=Jcn (P:=P) (t:=mt) h3.fr.hp T.ht T.hsh T.hag hmapR (.pure hkey) (.pure b3) (x:=.map g wv') (k:=avT (.p I I) (x,y)) (v:=.lst m.length (m.map (AV.int .i64))) (h':=upd (encH s) g (some (.map wv' (encE (.p I I) (.ls I) (mS (x,y) m es')) false))) (by
        refine Eq.trans ?_ hse
        have:(AV.lst m.length (m.map (AV.int .i64)))=avT (.ls I) m:=by
         show _=AV.lst (List.length (α:=I.T) m) (Ac (α:=I.T) (Ty.cs I) m)
         rw [Yw]
         rfl
        rw [this]
        rfl)
       obtain ⟨S4,μ4,h4,ev4⟩:=h3.mp ho' r2
       exact ⟨w4,r1,fin h4 (ev3.trans ev4) hd11⟩
      ·rintro w3 cv ⟨hb3,b,o,cap,cs,b1,rfl,b2,b3,b4,b5⟩
       rw [hBx] at hb3
       have run:=del_run L v23 hi0 hz1 (i:=i.toNat) (j:=j.toNat) b3 b4 b2.1 b2.2 b5 (by omega) (by omega)
       rw [show ((i.toNat:Nat):Int)=i by omega,show ((j.toNat:Nat):Int)=j by omega,hj] at run
       refine run.mono fun e w4 ⟨e0',r1,r2,r3,r4,r5,cs',r6,r7,r8⟩=>⟨_,e0',?_,b,by omega,Ab (Array.getElem?_eq_some_iff.1 b3).1 r4,?_⟩
       ·rw [hBx]
        exact ⟨⟨r1.trans hb3.1.os,r2.trans hb3.1.tape,⟨r3.1.trans hb3.1.output.1,Ai hb3.1.output.2 r3.2⟩,Ai hb3.1.size r4,fun q hq=>(r5 q (Ab hq hb3.1.size) (by omega)).trans (hb3.1.keep q hq)⟩,(r5 _ (Array.getElem?_eq_some_iff.1 hb3.2).1 (by omega)).trans hb3.2⟩
       ·rw [←hj] at r8
        rw [←hmd] at r8
        have hml:m.length=l.length - (j.toNat - i.toNat):=by rw [hmd];simp;omega
        rw [←hj,←hml]
        have cell:∀(q:Nat) (z:AV),(m.map (AV.int .i64))[q]?=some z→∃n,m[q]?=some n∧z=.int .i64 n:=fun q z hz=>by
         rw [List.getElem?_map] at hz
         cases hq:m[q]? with
         | none=>rw [hq] at hz;cases hz
         | some n=>rw [hq] at hz;injection hz with hz;exact ⟨n,rfl,hz.symm⟩
        refine .lst _ _ ⟨b,o,none⟩ cap (fun q=>cs'.getD (o+q) undef) (fun _=>.inr rfl) (by omega) (fun q z hz=>?_) (fun q z hz=>?_) fun q z hz=>?_
        ·obtain ⟨n,hn,-⟩:=cell q z hz
         have hq:=(Ae.1 hn).1
         rw [zg r6,getD_some (by omega)]
        ·obtain ⟨n,hn,rfl⟩:=cell q z hz
         rw [r8 q n hn];rfl
        ·obtain ⟨n,hn,rfl⟩:=cell q z hz
         show RepP _ _ _ (cs'.getD (o+q) undef)
         rw [r8 q n hn];exact .int _ _
      ·rintro w3 lw ⟨hb3,hlw⟩
       rw [hBx] at hb3
       have hS3:∀b,S b→b<w3.heap.size:=fun b hb=>Ab (hF.fr.hp.lt b hb) hb3.1.size
       refine (goc.run l l (hcfn l hft) w3 S #[lw] hS3 rfl fun q z hz=>?_).mono fun e w4 ⟨cv,he,hold4,hown⟩=>⟨cv,he,?_,?_⟩
       ·match q,hz with
        | 0,hz =>
         injection hz with hz
         subst hz
         have:(AV.lst (List.length (α:=I.T) l) (Ac (α:=I.T) (Ty.cs I) l))=.lst l.length (l.map (AV.int .i64)):=by rw [Yw];rfl
         show RepP w3 S (AV.lst (List.length (α:=I.T) l) (Ac (α:=I.T) (Ty.cs I) l)) lw
         rw [this]
         exact hlw
       ·rw [hBx]
        exact ⟨Jt3 hb3.1 hold4,(hold4.keep _ (Array.getElem?_eq_some_iff.1 hb3.2).1).trans hb3.2⟩
       ·rcases hown with ⟨q,-⟩|⟨-,b,o,cap,cs,q1,q2,q3,q4,q5,q6⟩
        ·have q:l=[]:=q
         subst q
         simp at g2
         omega
        ·refine ⟨b,o,cap,cs,Ab (Array.getElem?_eq_some_iff.1 hb3.2).1 q1,q2,q3,q4,by
          have q5:o+cap * 1≤cs.size:=q5
          omega,fun q z hz=>?_⟩
         have:(Ac (α:=I.T) (Ty.cs I) l)[q]?=some (.int .i64 z):=by rw [Yw,List.getElem?_map,hz];rfl
         have hx:=(q6 q _ this).1
         generalize cs.getD (o+q) undef=v at hx ⊢
         cases hx
         rfl)
  ·cases hd
 ·cases hd
end Go.Dn
