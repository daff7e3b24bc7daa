/- The evaluator's maps are right of the model's. Conditions: none. -/
import Derived.Test.YtmfagdfkpjgeiaaGreatNA
import Derived.MapKept
import Derived.TacticsIn
import Derived.OrdersIn
import Derived.RangeFuncRecord
import Derived.RangeFuncIn
import Derived.Tactics
import Derived.Orders
set_option linter.unusedSimpArgs false
namespace Go.Vv
open Go
open Prod.mk renaming injEq -> Aa
open List renaming getElem?_eq_some_iff -> Ab, getElem?_eq_getElem -> Ad, all_eq_true -> Af, mem_append -> Ag, mem_cons -> Ah, mem_of_getElem? -> Ai, mem_cons_self -> Aj, mem_cons_of_mem -> Ak, mem_append_left -> Ar, mem_flatMap -> Au, any_eq_true -> Av, pairwise_cons -> Aw, mem_append_right -> Ax, getElem?_map -> Az, contains_iff_mem -> Bc, getElem?_of_mem -> Bd, getElem?_append_left -> Bf, map_cons -> Bg, mem_map -> Bj, getElem?_eraseIdx -> Bn, eq_nil_iff_forall_not_mem -> Br, map_append -> Bs, getElem?_append_right -> Bt, getElem?_zip_eq_some -> Bu, pairwise_append -> By
open _root_.Array renaming getElem?_eq_some_iff -> Ac, getD_eq_getD_getElem? -> Am, toList_inj -> Ap, getElem_of_mem -> As, mem_of_getElem? -> Bb, eraseIdxIfInBounds -> Bh, any_eq_true -> Bk, getElem_mem -> Bl, all_eq_true -> Bm, getElem?_setIfInBounds_ne -> Bp, eq_empty_of_size_eq_zero -> Bq, replicate -> Bv, getElem?_toList -> Bw, length_toList -> Bz
open Bool renaming and_eq_true -> Ae, false_eq_true -> Aq, not_eq_true' -> Ba
open Nat renaming le_refl -> Ao
open Option renaming map_some -> Ay, bind_some -> Be, getD_some -> Bo
section
variable {P:Program} {w:World} {S:Nat->Prop} {h:Heap} {μ:Gh}
theorem Jsd{s:Bool}{x y:AV}{b:Bool}{v:Value}(a:LB s x y=some b)(hr:BF w S h μ x v):BD w S x v:=by
 unfold LB at a;split at a
 ·rw [hr.BI];exact .int _ _
 ·rw [hr.Ch];exact .bool _
 ·cases a
theorem rO:∀ {sh:List Bool} {l m:List AV} {b:Bool},Kb sh l m=some b->∀(i:Nat) (x:AV),l[i]?=some x->∃s y c,m[i]?=some y/\LB s x y=some c/\(b=true->c=true)
 | [],[],[],_,_,i,x,hi=>by simp at hi
 | s::ss,x::xs,y::ys,b,h,i,z,hi=>by
  unfold Kb at h;split at h
  ·rename_i a c g f;injection h with h;cases i with
   | zero=>
    simp at hi;subst hi;exact ⟨s,y,a,rfl,g,λe=>by rw [e] at h;simp at h;exact h.1⟩
   | succ i=>
    obtain ⟨s',d,c',v,r,o⟩:=rO f i z (by simpa using hi);exact ⟨s',d,c',by simpa using v,r,λe=>o (by rw [e] at h;simp at h;exact h.2)⟩
  ·cases h
 | [],_::_,_,_,h,_,_,_=>by simp [Kb] at h
 | [],[],_::_,_,h,_,_,_=>by simp [Kb] at h
 | _::_,[],_,_,h,_,_,_=>by simp [Kb] at h
 | _::_,_::_,[],_,h,_,_,_=>by simp [Kb] at h
theorem Jvv{ag:Bool}{sh:List Bool}{x y:AV}{b:Bool}{v:Value}(a:E9 ag sh x y=some b)(hr:BF w S h μ x v):BD w S x v:=by
 unfold E9 at a;split at a
 ·split at a
  ·rename_i l m;obtain ⟨cs,rfl,hl,f⟩:=hr.CP;refine .agg l cs hl (λi x hi=>(f i x hi).2) λi x hi=>?_;obtain ⟨s,y,c,-,d,-⟩:=rO a i x hi;exact Jsd d (f i x hi).1
  ·cases a
 ·obtain ⟨s,g,c,-,d,-⟩:=rO a 0 x rfl;exact Jsd d hr
theorem Jx1{s:Bool}{x y:AV}{v u:Value}(a:LB s x y=some true)(hx:BD w S x v)(d:BD w S y u)(n:Nat):Instr.sameBits n v u=true/\Instr.sameBits n u v=true:=by
 unfold LB at a;split at a
 ·split at a
  ·rename_i f;subst f;injection a with a;cases hx;cases d;cases n<;>simp_all [Instr.sameBits]
  ·cases a
 ·injection a with a;cases hx;cases d;cases n<;>simp_all [Instr.sameBits]
 ·cases a
theorem J4m{ag:Bool}{sh:List Bool}{x y:AV}{v u:Value}(d:E9 ag sh x y=some true)(hx:BD w S x v)(A:BD w S y u):Instr.sameBits 10000 u v=true:=by
 unfold E9 at d;split at d
 ·split at d
  ·rename_i l m;cases hx with
   | agg _ cs hl K hr=>
    cases A with
    | agg _ ds G J h=>
     have B:=wu d;show Instr.sameBits (9999+1) (.agg ds) (.agg cs)=true;simp only [Instr.sameBits,Ae,beq_iff_eq,Af];refine ⟨by omega,λp F=>?_⟩;obtain ⟨i,hi⟩:=Bd F;obtain ⟨a,b⟩:=p;rw [Bu] at hi;obtain ⟨H,E⟩:=hi;have f:i<l.length:=by have:=(Ab.1 E).1;simp at this;omega
     obtain ⟨s,z,c,g,r,o⟩:=rO d i l[i] (Ad f);obtain rfl:=o rfl;have ra:=hr i l[i] (Ad f);have rb:=h i z g;have ea:cs.getD i undef=b:=by
      have:cs[i]?=some b:=by simpa using E
      rw [Am,this];rfl
     have eb:ds.getD i undef=a:=by
      have:ds[i]?=some a:=by simpa using H
      rw [Am,this];rfl
     rw [ea] at ra;rw [eb] at rb;exact (Jx1 r ra rb 9999).2
  ·cases d
 ·obtain ⟨s,z,c,g,r,o⟩:=rO d 0 x rfl;obtain rfl:=o rfl;simp at g;subst g;exact (Jx1 r hx A 10000).2
def aV(em:Bool)(n:Nat)(cs:Array Value):List Field->Sem Unit
 | []=>pure ()
 | f::fs=>
  if f.name ≠ "_" then do
   let a <-part f.type cs f.offset
   Instr.checkKey em n f.type a
   aV em n cs fs
  else aV em n cs fs
theorem Jpw(em:Bool)(n:Nat)(t:TypeId)(cs:Array Value){fs:Array Field}(g:P.underlying t=some (.struct fs)):(Instr.checkKey em (n+1) t (.agg cs)).run P w=(aV em n cs fs.toList).run P w:=by
 simp only [Instr.checkKey,Sem.run_bind,run_underlying g,Result.andThen_ok];rw [<-Array.forIn_toList];generalize fs.toList=l;clear g
 induction l generalizing w with
 | nil=>simp [aV]
 | cons f l d=>
  simp only [List.forIn_cons,aV,Sem.run_bind,Sem.run_ite];split
  ·generalize (part f.type cs f.offset).run P w=m;cases m with
   | ok a w1=>
    simp only [Result.andThen_ok];generalize (Instr.checkKey em n f.type a).run P w1=h;cases h with
    | ok b o=>simp only [Result.andThen_ok,Sem.run_pure];exact d
    | _=>rfl
   | _=>rfl
  ·simp only [Sem.run_pure,Result.andThen_ok];exact d
theorem Jyu{g:TypeId->Option (List Bool)}{em:Bool}{d:Nat}(K:∀ {t:TypeId} {sh:List Bool} {ag:Bool} {x:AV} {cx:Value} {b:Bool},g t=some sh->Ct P t=some ag ->
  BF w S h μ x cx->E9 ag sh x x=some b->(Instr.checkKey em d t cx).run P w=.ok () w):∀ {fs:List Field} {k:Nat} {sh:List Bool} {l:List AV} {cs:Array Value} {b:Bool},jM P g fs k=some sh ->
  l.length=cs.size->Holds w S h μ l cs->Kb sh (l.drop k) (l.drop k)=some b->l.length=k+sh.length->(aV em d cs fs).run P w=.ok () w
 | [],k,sh,l,cs,b,m,hl,H,L,F=>by simp [aV]
 | f::r,k,sh,l,cs,b,m,hl,H,L,F=>by
  unfold jM at m;split at m
  ·rename_i a ag q ha E Y;split at m
   ·rename_i hc;obtain ⟨Z,hn,G,o⟩:=hc;split at m
    ·rename_i r' hr;injection m with m;subst m G;obtain ⟨b1,b2,M,e2,e3⟩:=Jgr L;have B:k+a.length<=l.length:=by simp at F;omega
     have pk:∃v,pack ag l f.offset a.length=some v/\(ag=true->v=.agg (cut l k a.length))/\(ag=false->cut l k a.length=[v]):=by
      rw [Z];cases ag with
      | true=>exact ⟨_,by simp [pack,B],λ_=>rfl,λh=>by cases h⟩
      | false=>
       have F:a.length=1:=by simpa using o
       have A:k<l.length:=by omega
       refine ⟨l[k],by simp [pack,B,A],(λh=>by cases h),λ_=>?_⟩;simp only [cut,F];rw [List.drop_eq_getElem_cons A];rfl
     obtain ⟨v1,X,R,Q⟩:=pk;obtain ⟨c1,O,N⟩:=rH (P:=P) E Y o hl H X;have J:E9 ag a v1 v1=some b1:=by
      cases ag with
      | true=>rw [R rfl];simpa [E9,cut] using M
      | false=>
       simp only [E9,Aq,if_false];rw [<-Q rfl];exact M
     have y:=K ha E N J;simp only [aV,hn,ne_eq,not_false_eq_true,if_true,Sem.run_bind,O,Result.andThen_ok,y];exact Jyu K hr hl H (by simpa [List.drop_drop] using e2) (by simp at F;omega)
    ·cases m
   ·cases m
  ·cases m
theorem qF(em:Bool):∀(n d:Nat) {t:TypeId} {sh:List Bool} {ag:Bool} {x:AV} {cx:Value} {b:Bool},n<=d->EU P n t=some sh->Ct P t=some ag ->
  BF w S h μ x cx->E9 ag sh x x=some b->(Instr.checkKey em d t cx).run P w=.ok () w
 | 0,_,_,_,_,_,_,_,_,h,_,_,_=>by simp [EU] at h
 | n+1,0,_,_,_,_,_,_,hd,_,_,_,_=>by omega
 | n+1,d+1,t,sh,ag,x,cx,b,hd,a,f,hx,r=>by
  unfold EU at a;unfold Ct at f;split at a
  ·rename_i g;simp only [Instr.checkKey,Sem.run_bind,run_underlying g,Result.andThen_ok,Sem.run_pure]
  ·rename_i k g;simp only [Instr.checkKey,Sem.run_bind,run_underlying g,Result.andThen_ok,Sem.run_pure]
  ·rename_i fs g;rw [g] at f;simp at f;subst f;split at a
   ·cases a
   ·simp only [E9,if_true] at r;split at r
    ·rename_i l m;obtain ⟨cs,rfl,hl,v⟩:=hx.CP;rw [Jpw em d t cs g];have o:=wu r;exact Jyu (λhx=>qF em n d (by omega) hx) a hl v (by simp;exact r) (by simp [o])
    ·cases r
  ·cases a
def DL(w:World)(S:Nat->Prop)(h:Heap)(μ:Gh)(es:List (AV×AV))(es':List MapEntry):Prop:=
 es'.length=es.length/\∀(i:Nat) (k v:AV),es[i]?=some (k,v)->∃e:MapEntry,es'[i]?=some e/\BD w S k e.key/\BF w S h μ v e.val
theorem DL.tail{p:AV×AV}{es:List (AV×AV)}{e:MapEntry}{es':List MapEntry}(a:DL w S h μ (p::es) (e::es')):DL w S h μ es es':=
 ⟨by have:=a.1;simp at this;exact this,λi k v hi=>by simpa using a.2 (i+1) k v (by simpa using hi)⟩
theorem J4q{kt:TypeId}{d:TypeDesc}{sh:List Bool}{ag:Bool}(M:P.underlying kt=some d)(B:EU P 6 kt=some sh)(m:Ct P kt=some ag){k:AV}{ck:Value}(J:BD w S k ck) :
  ∀ {es:List (AV×AV)} {es':List MapEntry} {n:Nat} {r:Option Nat},DL w S h μ es es'->posM ag sh k n es=some r ->
   (Instr.findAsking kt ck es' n).run P w=.ok (r.bind λj=>(es'[j - n]?).map λe=>(j,e.val)) w/\(Instr.findNow d ck es' n=none\/Instr.findNow d ck es' n=some (r.bind λj=>(es'[j - n]?).map λe=>(j,e.val))) /\
   ∀j,r=some j->n<=j/\∃k' H e,es[j - n]?=some (k',H)/\es'[j - n]?=some e/\BD w S k' e.key/\BF w S h μ H e.val/\E9 ag sh k k'=some true
 | [],es',n,r,F,v=>by
  cases es' with
  | cons e es'=>have:=F.1;simp at this
  | nil=>
   simp only [posM] at v;injection v with v;subst v;exact ⟨rfl,.inr rfl,λj y=>by cases y⟩
 | p::es,es',n,r,F,v=>by
  obtain ⟨pk,pv⟩:=p;cases es' with
  | nil=>have:=F.1;simp at this
  | cons e es'=>
   obtain ⟨e0,G,o,K⟩:=F.2 0 pk pv rfl;simp at G;subst G;simp only [posM] at v;have N:∀b,E9 ag sh k pk=some b->(Op.equal kt ck e.key).run P w=.ok b w:=λb l=>Jxw (h:=h) (μ:=μ) 6 10000 (by omega) B m (.pure J) (.pure o) l;have A:∀b,E9 ag sh k pk=some b->Instr.sameNow d ck e.key=none\/Instr.sameNow d ck e.key=some b:=by
    intro b l;have f:=B;unfold EU at f;unfold Ct at m;rw [M] at f m;cases d with
    | bool=>
     simp at f m;subst f m;simp only [E9,Aq,if_false,Kb] at l;split at l
     ·rename_i a c g E;injection l with l;injection E with E;subst E;unfold LB at g;split at g
      ·cases ‹true=false›
      ·injection g with g;generalize e.key=ek at o ⊢;cases J;cases o;right;simp only [Instr.sameNow];rw [g,<-l,Bool.and_true]
      ·cases g
     ·cases l
    | int q=>
     simp at f m;subst f m;simp only [E9,Aq,if_false,Kb] at l;split at l
     ·rename_i a c g E;injection l with l;injection E with E;subst E;unfold LB at g;split at g
      ·split at g
       ·rename_i L;subst L;injection g with g;generalize e.key=ek at o ⊢;cases J;cases o;right;simp only [Instr.sameNow,if_true];rw [g,<-l,Bool.and_true]
       ·cases g
      ·cases ‹false=true›
      ·cases g
     ·cases l
    | _=>first|(left;rfl)|(simp at f)
   split at v
   ·rename_i l;injection v with v;subst v;refine ⟨?_,?_,λj y=>?_⟩
    ·simp only [Instr.findAsking,Sem.run_bind,N true l,Result.andThen_ok,if_true,Sem.run_pure,Be,Nat.sub_self];rfl
    ·rcases A true l with g|g
     ·left;simp only [Instr.findNow,g]
     ·right;simp only [Instr.findNow,g,Be,Nat.sub_self];rfl
    ·injection y with y;subst y;exact ⟨Ao _,pk,pv,e,by simp,by simp,o,K,l⟩
   ·rename_i l;obtain ⟨Z,Y,a3⟩:=J4q M B m J F.tail v;have sub:∀j,r=some j->j - n=(j - (n+1))+1:=λj y=>by have:=(a3 j y).1;omega
    have eqr:(r.bind λj=>((e::es')[j - n]?).map λe=>(j,e.val))=r.bind λj=>(es'[j - (n+1)]?).map λe=>(j,e.val):=by
     cases r with
     | none=>rfl
     | some j=>simp only [Be];rw [sub j rfl];simp
    refine ⟨?_,?_,λj y=>?_⟩
    ·rw [eqr];simp only [Instr.findAsking,Sem.run_bind,N false l,Result.andThen_ok,Aq,if_false];exact Z
    ·rw [eqr];rcases A false l with g|g
     ·left;simp only [Instr.findNow,g]
     ·simp only [Instr.findNow,g];exact Y
    ·obtain ⟨b1,k',H,O,X,R,Q⟩:=a3 j y;refine ⟨by omega,k',H,O,?_,?_,Q⟩
     ·rw [sub j y];simpa using X
     ·rw [sub j y];simpa using R
   ·cases v
theorem wZ{kt:TypeId}{d:TypeDesc}{sh:List Bool}{ag:Bool}(m:P.underlying kt=some d)(f:EU P 6 kt=some sh)(g:Ct P kt=some ag){k:AV}{ck:Value}(y:BD w S k ck)
  {es:List (AV×AV)} {es':List MapEntry} {r:Option Nat} (B:DL w S h μ es es') (v:posM ag sh k 0 es=some r) :
  (Instr.findKey kt ck es').run P w=.ok (r.bind λj=>(es'[j]?).map λe=>(j,e.val)) w /\
   ∀j,r=some j->∃k' l e,es[j]?=some (k',l)/\es'[j]?=some e/\BD w S k' e.key/\BF w S h μ l e.val/\E9 ag sh k k'=some true:=by
 obtain ⟨o,a,a3⟩:=J4q (h:=h) (μ:=μ) m f g y B v;simp only [Nat.sub_zero] at o a a3;refine ⟨?_,λj A=>(a3 j A).2⟩;simp only [Instr.findKey,Sem.run_bind,run_underlying m,Result.andThen_ok];rcases a with a|a
 ·simp only [a];exact o
 ·simp only [a,Sem.run_pure]
theorem vW{kt:TypeId}{sh:List Bool}(a:EU P 6 kt=some sh):∃d,P.underlying kt=some d:=by
 unfold EU at a;split at a
 ·exact ⟨_,by assumption⟩
 ·exact ⟨_,by assumption⟩
 ·exact ⟨_,by assumption⟩
 ·cases a
theorem vU{ag:Bool}{sh:List Bool}{k:AV}(a:XY ag sh k=true):∃b,E9 ag sh k k=some b:=by unfold XY at a;exact Option.isSome_iff_exists.1 a
theorem Kaw(m:BK w S h μ){g ver:Nat}{es:List (AV×AV)}{cx:Value}(a:GD h g ver=some es)(hr:BF w S h μ (.map g ver) cx) :
  h g=some (.map ver es false)/\cx=.map (some (μ.b g))/\∃(es':Array MapEntry) (clock:Nat),w.heap[μ.b g]?=some (.map es' clock)/\DL w S h μ es es'.toList/\Fu es' clock:=by
 unfold GD at a;split at a
 ·rename_i v es1 r;split at a
  ·rename_i f;subst f;injection a with a;subst a;refine ⟨r,?_,?_⟩
   ·cases hr with
    | pure m=>cases m
    | map _ _ _ o d _ _ l=>rw [r] at d;cases d;exact l rfl
   ·obtain ⟨es',clock,F,y,-,E⟩:=m.ob g _ r;exact ⟨es',clock,F,⟨by simpa using y.1,λi k v hi=>by obtain ⟨e,B,A,f⟩:=E i k v hi;exact ⟨e,by simpa using B,A,f⟩⟩,y.2⟩
  ·cases a
 ·cases a
theorem UA{x:AV}{v:Value}(hr:BF w S h μ x v):BF w S h μ (jS x) v:=by
 cases x with
 | BM=>rw [hr.Cg];exact .pure .ER
 | _=>exact hr
theorem Jui(R:BK w S h μ){t kt et:TypeId}{ok ag:Bool}{sh:List Bool}{zv:AV}(J:P.underlying t=some (.map kt et))(F:EU P 6 kt=some sh)(N:Ct P kt=some ag)(H:mX P et=some zv)
  {x k v:AV} {cx ck:Value} (hx:BF w S h μ x cx) (Y:BF w S h μ k ck) (A:mR ok ag sh (jS zv) k (I8 h x)=some v) :
  ∃cv,(Instr.lookup t cx ck ok).run P w=.ok cv w/\BF w S h μ v cv:=by
 obtain ⟨d,hd⟩:=vW F;obtain ⟨zval,E,zrep⟩:∃zval,(zeroValue et).run P w=.ok zval w/\BF w S h μ (jS zv) zval:=by
  unfold mX at H;split at H
  ·rename_i i hi;split at H
   ·rename_i z Q;exact ⟨z,by simp [zeroValue,typeInfo,hi,Q],UA (J1x H)⟩
   ·cases H
  ·cases H
 have core:∀(es:List (AV×AV)) (es':Array MapEntry) (emp:Bool),DL w S h μ es es'.toList->XY ag sh k=true->ML ok (jS zv) es (posM ag sh k 0 es)=some v ->
   (Instr.checkKey emp 10000 kt ck).run P w=.ok () w/\(((Instr.findKey kt ck es'.toList).run P w=.ok none w/\BF w S h μ v (if ok=true then .tuple #[zval,.bool false] else zval)) \/
    ∃j cv,(Instr.findKey kt ck es'.toList).run P w=.ok (some (j,cv)) w/\BF w S h μ v (if ok=true then .tuple #[cv,.bool true] else cv)):=by
  intro es es' emp L m l;obtain ⟨b,Z⟩:=vU m;have M:=qF (P:=P) (w:=w) emp 6 10000 (by omega) F N Y Z;unfold ML at l;split at l
  ·rename_i r hr;obtain ⟨f1,f2⟩:=wZ (h:=h) (μ:=μ) hd F N (Jvv Z Y) L hr;injection l with l;have fin:∀(bv:Bool) (u:AV) (cu:Value),BF w S h μ u cu->v=(if ok=true then .Cn [u,.bool bv] else u)->BF w S h μ v (if ok=true then .tuple #[cu,.bool bv] else cu):=by
    intro bv u cu X e;rw [e];cases ok with
    | false=>exact X
    | true=>
     refine .Cn _ _ rfl λi y hi=>?_
     match i,hi with
     | 0,hi=>simp at hi;subst hi;simpa using X
     | 1,hi=>simp at hi;subst hi;exact .pure (.bool _)
   cases r with
   | none=>exact ⟨M,.inl ⟨f1,fin false (jS zv) zval zrep (by rw [<-l];rfl)⟩⟩
   | some j=>
    obtain ⟨k',v',e,g1,g2,-,g4,-⟩:=f2 j rfl;refine ⟨M,.inr ⟨j,e.val,by rw [f1];simp only [Be,g2,Ay],fin true v' e.val g4 (by rw [<-l];simp only [TQ,g1];rfl)⟩⟩
  ·cases l
 unfold mR at A;split at A
 ·rename_i es a;split at A
  ·rename_i m;unfold I8 at a;split at a
   ·injection a with a;subst a;obtain rfl:cx=.map none:=by cases hx with|pure R=>cases R;rfl
    obtain ⟨B,f⟩:=core [] #[] true ⟨rfl,λi k v hi=>by simp at hi⟩ m A;rcases f with ⟨f,o⟩|⟨j,cv,f,o⟩
    ·exact ⟨_,by simp [Instr.lookup,run_underlying J,B,f,E,Result.andThen],o⟩
    ·exact ⟨_,by simp [Instr.lookup,run_underlying J,B,f,Result.andThen],o⟩
   ·rename_i ks vs;injection a with a;subst a;obtain ⟨b,es',clock,rfl,-,K,n1,n2,r1,r2⟩:=hx.MK;have O:DL w S h μ (ks.zip vs) es'.toList:=by
     refine ⟨by rw [List.length_zip];simp;omega,λi k v hi=>?_⟩;rw [Bu] at hi;have G:i<es'.size:=by have:=(Ab.1 hi.1).1;omega
     exact ⟨es'[i],by simp [G],r1 i k _ hi.1 (by simp [G]),.pure (r2 i v _ hi.2 (by simp [G]))⟩
    obtain ⟨B,f⟩:=core _ es' es'.isEmpty O m A;rcases f with ⟨f,o⟩|⟨j,cv,f,o⟩
    ·exact ⟨_,by simp [Instr.lookup,run_underlying J,MapKept.run_getObj_map K,B,f,E,Result.andThen],o⟩
    ·exact ⟨_,by simp [Instr.lookup,run_underlying J,MapKept.run_getObj_map K,B,f,Result.andThen],o⟩
   ·rename_i g ver;obtain ⟨-,rfl,es',clock,K,O,mbn⟩:=Kaw R a hx;obtain ⟨B,f⟩:=core es es' es'.isEmpty O m A;rcases f with ⟨f,o⟩|⟨j,cv,f,o⟩
    ·exact ⟨_,by simp [Instr.lookup,run_underlying J,MapKept.run_getObj_map K,B,f,E,Result.andThen],o⟩
    ·exact ⟨_,by simp [Instr.lookup,run_underlying J,MapKept.run_getObj_map K,B,f,Result.andThen],o⟩
   ·cases a
  ·cases A
 ·cases A
def EL(w:World)(b:Nat)(new:Array MapEntry)(clock:Nat):World:={ w with heap:=w.heap.setIfInBounds b (.map new clock) }
theorem map_set(l:BK w S h μ){g ver:Nat}{es es2:List (AV×AV)}(r:h g=some (.map ver es false)){old:Array MapEntry}{clock:Nat}(L:w.heap[μ.b g]?=some (.map old clock)){new:Array MapEntry}{clock':Nat}(K:DL w S h μ es2 new.toList)(H:Fu new clock') :
  Ran w S h μ (.Cn []) (upd h g (some (.map ver es2 false))) (.tuple #[]) (EL w (μ.b g) new clock'):=by
 have F:μ.b g<w.heap.size:=(Ac.1 L).1;have oth:∀b,b≠μ.b g->(EL w (μ.b g) new clock').heap[b]?=w.heap[b]?:=λb E=>by simp only [EL,Array.getElem?_setIfInBounds];rw [if_neg (λe=>E e.symm)]
 have same:(EL w (μ.b g) new clock').heap[μ.b g]?=some (.map new clock'):=by simp [EL,F]
 have ev:Ci w S h μ (EL w (μ.b g) new clock') S (upd h g (some (.map ver es2 false))) μ:=by
  refine ⟨rfl,rfl,⟨rfl,Ao _⟩,by simp [EL],λb _ B=>oth b λe=>B ⟨g,_,r,rfl,rfl,e.symm⟩,λb cs el z G=>⟨cs,?_,rfl⟩,λ_ h=>h,λ_ h=>.inl h,λb ⟨d,o',a,hz,m,e⟩=>?_,rfl⟩
  ·rw [oth b λe=>by rw [e,L] at G;cases G];exact G
  ·by_cases f:d=g
   ·subst f;exact .inl ⟨d,_,r,rfl,rfl,e⟩
   ·rw [Je _ _ _ _ f] at a;exact .inl ⟨d,o',a,hz,m,e⟩
 have vv:Cj h μ (upd h g (some (.map ver es2 false))) μ:=by
  intro d o' a;by_cases f:d=g
  ·subst f;rw [r] at a;cases a;exact ⟨_,Jj _ _ _,Ao _,λ_=>⟨⟨rfl,rfl⟩,by simp [AZ.like,AZ.kind]⟩⟩
  ·exact ⟨o',by rw [Je _ _ _ _ f];exact a,Ao _,λ_=>⟨⟨rfl,rfl⟩,.refl o'⟩⟩
 refine ⟨S,μ,.pure (.Cn [] #[] rfl λi x hi=>by simp at hi),⟨λd o' a=>?_,λN M o1 Z h1 h2 l1 l2 e=>?_,λd o' a A m hs=>?_,λb J=>by have:=l.lt b J;simpa [EL] using this⟩,ev,vv⟩
 ·by_cases f:d=g
  ·subst f;rw [Jj] at a;cases a;refine ⟨new,clock',same,⟨by simpa using K.1,H⟩,λq=>absurd q (by simp),λi k v hi=>?_⟩;obtain ⟨e,he,hk,hv⟩:=K.2 i k v hi;exact ⟨e,by simpa using he,hk.DK l ev,hv.DK l ev vv⟩
  ·rw [Je _ _ _ _ f] at a;exact (l.ob d o' a).DK l ev vv (λy=>oth _ λe=>f (l.inj d g o' _ a r y rfl e))
 ·have key:∀d o',upd h g (some (.map ver es2 false)) d=some o'->o'.live=true->∃o,h d=some o/\o.live=true:=λd o' a y=>by
   by_cases f:d=g
   ·subst f;exact ⟨_,r,rfl⟩
   ·rw [Je _ _ _ _ f] at a;exact ⟨_,a,y⟩
  obtain ⟨Y,R,P⟩:=key N o1 h1 l1;obtain ⟨X,Q,O⟩:=key M Z h2 l2;exact l.inj N M Y X R Q P O e
 ·by_cases f:d=g
  ·subst f;exact l.own d _ r rfl rfl hs
  ·rw [Je _ _ _ _ f] at a;exact l.own d o' a A m hs
theorem Jo6(K:BK w S h μ){t kt et:TypeId}{ag:Bool}{sh:List Bool}(Z:P.underlying t=some (.map kt et))(m:EU P 6 kt=some sh)(G:Ct P kt=some ag)
  {x k v:AV} {h':Heap} {cx ck cv:Value} (hx:BF w S h μ x cx) (hk:BF w S h μ k ck) (Y:BF w S h μ v cv) (a:OL h ag sh k v x=some h') :
  ∃w',(Instr.mapUpdate t cx ck cv).run P w=.ok () w'/\Ran w S h μ (.Cn []) h' (.tuple #[]) w':=by
 obtain ⟨d,hd⟩:=vW m;unfold OL at a;split at a
 ·rename_i g ver;split at a
  ·rename_i es Q;split at a
   ·rename_i N;obtain ⟨b,hb⟩:=vU N;obtain ⟨ho,rfl,es',clock,B,A,mbn⟩:=Kaw K Q hx;have F:=qF (P:=P) (w:=w) false 6 10000 (by omega) m G hk hb;have f:=Jvv hb hk;unfold bg at a;split at a
    ·rename_i r hr;injection a with a;subst a;obtain ⟨f1,f2⟩:=wZ (h:=h) (μ:=μ) hd m G f A hr;cases r with
     | none=>
      refine ⟨EL w (μ.b g) (es'.push { key:=ck,val:=cv,born:=clock }) (clock+1),by simp [EL,Instr.mapUpdate,run_underlying Z,MapKept.run_getObj_map B,F,f1,MapKept.run_setObj_map _ B,Result.andThen],map_set K ho B ⟨by simp [FK,A.1],λi J v2 hi=>?_⟩ (Jzq mbn _ _)⟩;simp only [FK] at hi;by_cases L:i<es.length
      ·rw [Bf L] at hi;obtain ⟨e,a,X⟩:=A.2 i J v2 hi;have:=(Ab.1 a).1;exact ⟨e,by simpa [Bf this] using a,X⟩
      ·rw [Bt (by omega)] at hi;have O:i=es.length:=by have:=(Ab.1 hi).1;simp at this;omega
       subst O;simp at hi;obtain ⟨rfl,rfl⟩:=hi;have M:es'.size=es.length:=by simpa using A.1
       exact ⟨{ key:=ck,val:=cv,born:=clock },by simp [M],f,Y⟩
     | some j=>
      obtain ⟨k',v',e,g1,g2,g3,g4,g5⟩:=f2 j rfl;have H:es'[j]?=some e:=by simpa using g2
      have y:=J4m g5 f g3;have l:(Instr.keyThatStays e.key ck).run P w=.ok ck w:=by simp [Instr.keyThatStays,y]
      refine ⟨EL w (μ.b g) (es'.modify j λe=>{ e with key:=ck,val:=cv }) clock,by simp [EL,Instr.mapUpdate,run_underlying Z,MapKept.run_getObj_map B,F,f1,H,l,MapKept.run_setObj_map _ B,Result.andThen],map_set K ho B ⟨by simp [FK];simpa using A.1,λi J v2 hi=>?_⟩ (Jmp mbn _ _ λ_=>rfl)⟩;simp only [FK,List.getElem?_set] at hi;split at hi
      ·rename_i o;subst o;split at hi
       ·simp at hi;obtain ⟨rfl,rfl⟩:=hi;exact ⟨{ e with key:=ck,val:=cv },by simp [H],f,Y⟩
       ·cases hi
      ·rename_i o;obtain ⟨e2,R,X⟩:=A.2 i J v2 hi;have E:es'[i]?=some e2:=by simpa using R
       exact ⟨e2,by simp [E,o],X⟩
    ·cases a
   ·cases a
  ·cases a
 ·cases a
theorem Jt4(G:BK w S h μ){t kt et ty:TypeId}{ts:Array TypeId}(A:ts[0]?=some t){ag:Bool}{sh:List Bool}(Q:P.underlying t=some (.map kt et))(l:EU P 6 kt=some sh)(F:Ct P kt=some ag)
  {x k:AV} {h':Heap} {cx ck:Value} (hx:BF w S h μ x cx) (X:BF w S h μ k ck) (a:Rv h ag sh k x=some h') :
  ∃w',(Builtin.delete_ ts ty #[cx,ck]).run P w=.ok (.tuple #[]) w'/\Ran w S h μ (.Cn []) h' (.tuple #[]) w':=by
 obtain ⟨d,hd⟩:=vW l;unfold Rv at a;split at a
 ·rename_i g ver;split at a
  ·rename_i es K;split at a
   ·rename_i J;obtain ⟨b,Y⟩:=vU J;obtain ⟨R,rfl,es',clock,v,y,mbn⟩:=Kaw G K hx;have E:=qF (P:=P) (w:=w) es'.isEmpty 6 10000 (by omega) l F X Y;have H:=Jvv Y X;unfold fM at a;split at a
    ·rename_i r hr;injection a with a;subst a;obtain ⟨Z,f2⟩:=wZ (h:=h) (μ:=μ) hd l F H y hr;cases r with
     | none=>
      refine ⟨EL w (μ.b g) es' clock,by simp [EL,Builtin.delete_,A,run_underlying Q,MapKept.run_getObj_map v,E,Z,MapKept.run_setObj_map _ v,Result.andThen],map_set G R v y mbn⟩
     | some j=>
      obtain ⟨k',v',e,g1,g2,g3,g4,g5⟩:=f2 j rfl;have f:es'[j]?=some e:=by simpa using g2
      refine ⟨EL w (μ.b g) (es'.eraseIdxIfInBounds j) clock,by simp [EL,Builtin.delete_,A,run_underlying Q,MapKept.run_getObj_map v,E,Z,f,MapKept.run_setObj_map _ v,Result.andThen],map_set G R v ⟨?_,λi O v2 hi=>?_⟩ (SF mbn (by have B:=(Ac.1 f).1;rw [show (es'.eraseIdxIfInBounds j).toList=es'.toList.eraseIdx j by simp [Bh,B]];exact List.eraseIdx_sublist _ _))⟩
      ·have B:=(Ac.1 f).1;have hl:=y.1;simp only [Bz] at hl;simp only [VI,Bz,List.length_eraseIdx];rw [if_pos (by omega)];simp [Bh,B];omega
      ·have B:=(Ac.1 f).1;have L:(es'.eraseIdxIfInBounds j).toList=es'.toList.eraseIdx j:=by simp [Bh,B]
       simp only [VI,Bn] at hi;rw [L];split at hi
       ·rename_i m;obtain ⟨N,o,M⟩:=y.2 i O v2 hi;exact ⟨N,by rw [Bn,if_pos m];exact o,M⟩
       ·rename_i m;obtain ⟨N,o,M⟩:=y.2 (i+1) O v2 hi;exact ⟨N,by rw [Bn,if_neg m];exact o,M⟩
    ·cases a
   ·cases a
  ·cases a
 ·cases a
theorem J8a(a:BK w S h μ){t kt et:TypeId}(_:P.underlying t=some (.map kt et))(g:Nat) :
  ∃cv w',(Instr.makeMap t none).run P w=.ok cv w'/\Ran w S h μ (.map g (Kg h g)) (upd h g (some (.map (Kg h g) [] false))) cv w':=by
 obtain ⟨ev,vv⟩:=J2w (w:=w) (S:=S) (h:=h) (μ:=μ) g (.map (Kg h g) [] false) (.map #[] 0) (.inl rfl);refine ⟨.map (some w.heap.size),w.alloc (.map #[] 0),by simp [Instr.makeMap],S,_,?_,J42 a (.inl rfl) ?_,ev,vv⟩
 ·exact .map g _ _ (.map (Kg h g) [] false) (Jj _ _ _) (Ao _) rfl λ_=>by simp [Gh.set,Jj]
 ·exact ⟨#[],0,heap_alloc_new w (.map #[] 0),⟨rfl,SG 0⟩,λq=>absurd q (by simp),λi k v hi=>by simp at hi⟩
end
theorem Tk{α β:Type}{f:α->Option β}:∀ {l:List α} {ps:List β},l.mapM f=some ps->ps.length=l.length/\∀(i:Nat) (x:α),l[i]?=some x->∃p,ps[i]?=some p/\f x=some p
 | [],ps,h=>by simp at h;subst h;exact ⟨rfl,λi x hi=>by simp at hi⟩
 | x::l,ps,h=>by
  rw [List.mapM_cons] at h;cases hx:f x with
  | none=>rw [hx] at h;cases h
  | some y=>
   cases hl:l.mapM f with
   | none=>rw [hx,hl] at h;cases h
   | some qs=>
    rw [hx,hl] at h;injection h with h;subst h;obtain ⟨d,a⟩:=Tk hl;refine ⟨by simp [d],λi z hi=>?_⟩;cases i with
    | zero=>simp at hi;subst hi;exact ⟨y,rfl,hx⟩
    | succ i=>simpa using a i z (by simpa using hi)
section
variable {w:World} {S:Nat->Prop} {h:Heap} {μ:Gh}
theorem BF.flat{x:AV}{v:Value}(hr:BF w S h μ x v)(a:x.flat=true):BD w S x v:=by
 cases hr with
 | pure d=>exact d
 | any=>simp [AV.flat] at a
 | fn=>simp [AV.flat] at a
 | agg=>simp [AV.flat] at a
 | Cn=>simp [AV.flat] at a
 | arr=>simp [AV.flat] at a
 | ptr=>simp [AV.flat] at a
 | map=>simp [AV.flat] at a
 | Hf=>simp [AV.flat] at a
def MW(h:Heap)(μ:Gh)(ns:List Nat)(b:Nat):Prop:=∃g∈ns,∃o,h g=some o/\o.live=true/\μ.b g=b
def Met(S':Nat->Prop)(h:Heap)(μ:Gh)(ns:List Nat):Prop:=∀g,g∈ns->∀o,h g=some o->o.live=true->S' (μ.b g)
theorem iw(hp:BK w S h μ){S':Nat->Prop}(hS:∀b,S b->S' b):∀(k:Nat) {v u:AV} {ns:List Nat} {c:Value},snap h k v=some (u,ns)->BF w S h μ v c->Met S' h μ ns->BD w S' u c
 | 0,v,u,ns,c,hs,_,_=>by simp [snap] at hs
 | k+1,v,u,ns,c,hs,hr,hm=>by
  have CB:∀ {l:List AV} {ps:List (AV×List Nat)},l.mapM (snap h k)=some ps->(∀g,g∈ps.flatMap (·.2)->g∈ns) ->
    (ps.map (·.1)).length=l.length/\∀(i:Nat) (y:AV),(ps.map (·.1))[i]?=some y->∃x,l[i]?=some x/\∀c,BF w S h μ x c->BD w S' y c:=by
   intro l ps hl O;obtain ⟨X,J⟩:=Tk hl;refine ⟨by simp [X],λi y hi=>?_⟩;rw [Az] at hi;cases H:ps[i]? with
   | none=>rw [H] at hi;cases hi
   | some p=>
    rw [H] at hi;injection hi with hi;have L:i<l.length:=by have:=(Ab.1 H).1;omega
    obtain ⟨p',K,Z⟩:=J i l[i] (Ad L);rw [H] at K;injection K with K;subst K;refine ⟨l[i],Ad L,λc hc=>?_⟩;subst hi;exact iw hp hS k (u:=p.1) (ns:=p.2) Z hc (λg hg=>hm g (O g (Au.2 ⟨p,Ai H,hg⟩)))
  unfold snap at hs;split at hs
  ·cases hs
  ·cases hs
  ·cases hs
  ·cases hs
  ·rename_i g ver off len;split at hs
   ·rename_i ver' esz el cells fz P;split at hs
    ·rename_i hc;obtain ⟨rfl,hle⟩:=hc;by_cases d:cells=[]
     ·obtain ⟨rfl,rfl,A,rfl⟩:=(hr.DJ P).1 d;have hc0:cut cells (0 * esz) (0 * esz)=[]:=by simp [cut]
      simp only [hc0,List.all_nil,if_true] at hs;cases hs;cases A with
      | none=>exact .ER
      | some a=>exact .CB 0 [] a 0 (λ_=>undef) (λq=>(q rfl).elim) (Ao _) (λi x hi=>by simp at hi) (λi x hi=>by simp at hi) (λi x hi=>by simp at hi)
     obtain ⟨a,cap,cs0,el0,z0,rfl,R,hb0,hsz0,ha⟩:=hr.EB P d;obtain ⟨cs,hb,hsz,G,_⟩:=hp.ob g _ P d;have key:∀i x,(cut cells (off * esz) (len * esz))[i]?=some x->0<cap/\cells[off * esz+i]?=some x/\w.cell? (a.add i)=some (cs.getD (μ.o g+(off * esz+i)) undef):=by
      intro i x hi;simp only [cut,List.getElem?_take,List.getElem?_drop] at hi;split at hi
      ·rename_i L;have M:0<cap:=by
        rcases Nat.eq_zero_or_pos len with h0|h0
        ·rw [h0,Nat.zero_mul] at L;omega
        ·omega
       have Q:μ.o g+(off * esz+i)<cs.size:=by have:=(Ab.1 hi).1;omega
       exact ⟨M,hi,by rw [ha M,iV hb,Nat.add_assoc,getD_some Q]⟩
      ·cases hi
     simp only at hs;split at hs
     ·rename_i F;injection hs with hs;simp only [Aa] at hs;obtain ⟨rfl,rfl⟩:=hs;refine .CB _ _ _ _ (λi=>cs.getD (μ.o g+(off * esz+i)) undef) (λN=>?_) R.1 (λi x hi=>(key i x hi).2.2) (λi x hi=>(G _ x (key i x hi).2.1).2) (λi x hi=>?_)
      ·cases m:cut cells (off * esz) (len * esz) with
       | nil=>exact (N m).elim
       | cons x r=>rw [ha (key 0 x (by rw [m];rfl)).1];exact hm g (by simp) _ P (Qj.2 d)
      ·have hf:=Af.1 F x (Ai hi);exact ((G _ x (key i x hi).2.1).1.flat hf).mono hS (λ_ _=>rfl)
     ·split at hs
      ·rename_i ps B;injection hs with hs;simp only [Aa] at hs;obtain ⟨rfl,rfl⟩:=hs;obtain ⟨X,J⟩:=CB B (λg' E=>Ak _ E);have key2:∀i y,(ps.map (·.1))[i]?=some y->∃x,(cut cells (off * esz) (len * esz))[i]?=some x/\∀c,BF w S h μ x c->BD w S' y c:=J;refine .CB _ _ _ _ (λi=>cs.getD (μ.o g+(off * esz+i)) undef) (λN=>?_) R.1 (λi y hi=>?_) (λi y hi=>?_) (λi y hi=>?_)
       ·cases m:ps.map (·.1) with
        | nil=>exact (N m).elim
        | cons x r=>
         obtain ⟨x',Y,_⟩:=key2 0 x (by rw [m];rfl);rw [ha (key 0 x' Y).1];exact hm g (by simp) _ P (Qj.2 d)
       ·obtain ⟨x,hx,_⟩:=key2 i y hi;exact (key i x hx).2.2
       ·obtain ⟨x,hx,_⟩:=key2 i y hi;exact (G _ x (key i x hx).2.1).2
       ·obtain ⟨x,hx,o⟩:=key2 i y hi;exact o _ (G _ x (key i x hx).2.1).1
      ·cases hs
    ·cases hs
   ·cases hs
  ·rename_i f caps;split at hs
   ·rename_i ps B;injection hs with hs;simp only [Aa] at hs;obtain ⟨rfl,rfl⟩:=hs;obtain ⟨X,J⟩:=CB B (λg' E=>E);obtain ⟨cs,rfl,hl,G⟩:=hr.FU;exact .fn _ _ cs (by omega) (λi y hi=>by obtain ⟨x,hx,o⟩:=J i y hi;exact o _ (G i x hx))
   ·cases hs
  ·rename_i l;split at hs
   ·rename_i F;injection hs with hs;simp only [Aa] at hs;obtain ⟨rfl,rfl⟩:=hs;obtain ⟨cs,rfl,hl,G⟩:=hr.CP;exact .agg _ cs hl (λi x hi=>(G i x hi).2) (λi x hi=>((G i x hi).1.flat (Af.1 F x (Ai hi))).mono hS (λ_ _=>rfl))
   ·split at hs
    ·rename_i ps B;injection hs with hs;simp only [Aa] at hs;obtain ⟨rfl,rfl⟩:=hs;obtain ⟨X,J⟩:=CB B (λg' E=>E);obtain ⟨cs,rfl,hl,G⟩:=hr.CP;exact .agg _ cs (by omega) (λi y hi=>by obtain ⟨x,hx,_⟩:=J i y hi;exact (G i x hx).2) (λi y hi=>by obtain ⟨x,hx,o⟩:=J i y hi;exact o _ (G i x hx).1)
    ·cases hs
  ·rename_i l;split at hs
   ·rename_i ps B;injection hs with hs;simp only [Aa] at hs;obtain ⟨rfl,rfl⟩:=hs;obtain ⟨X,J⟩:=CB B (λg' E=>E);obtain ⟨cs,rfl,hl,G⟩:=hr.FY;exact .Cn _ cs (by omega) (λi y hi=>by obtain ⟨x,hx,o⟩:=J i y hi;exact o _ (G i x hx))
   ·cases hs
  ·rename_i x1 x2 xy x3 x4 x5 x6 x7;injection hs with hs;simp only [Aa] at hs;obtain ⟨rfl,rfl⟩:=hs;cases hr with
   | pure hp'=>exact hp'.mono hS (λ_ _=>rfl)
   | any=>exact (x1 rfl).elim
   | fn=>exact (x5 _ _ rfl).elim
   | agg=>exact (x6 _ rfl).elim
   | Cn=>exact (x7 _ rfl).elim
   | arr=>exact (x4 _ _ _ _ rfl).elim
   | ptr=>exact (x2 _ _ _ rfl).elim
   | map=>exact (x3 _ _ rfl).elim
   | Hf=>exact (xy _ rfl).elim
theorem iq:∀(k:Nat) {v u:AV} {ns:List Nat},snap h k v=some (u,ns)->∀g∈ns,∃o,h g=some o/\o.freeze.fz=true
 | 0,v,u,ns,hs=>by simp [snap] at hs
 | k+1,v,u,ns,hs=>by
  have CB:∀ {l:List AV} {ps:List (AV×List Nat)},l.mapM (snap h k)=some ps->∀g∈ps.flatMap (·.2),∃o,h g=some o/\o.freeze.fz=true:=by
   intro l ps hl g d;obtain ⟨E,A⟩:=Tk hl;obtain ⟨p,y,d⟩:=Au.1 d;obtain ⟨i,hi⟩:=Bd y;have r:i<l.length:=by have:=(Ab.1 hi).1;omega
   obtain ⟨B,f,m⟩:=A i l[i] (Ad r);rw [hi] at f;injection f with f;subst f;exact iq k (u:=p.1) (ns:=p.2) m g d
  unfold snap at hs;split at hs
  ·cases hs
  ·cases hs
  ·cases hs
  ·cases hs
  ·rename_i g0 ver off len;split at hs
   ·rename_i ver' esz el cells fz w;split at hs
    ·simp only at hs;split at hs
     ·injection hs with hs;simp only [Aa] at hs;obtain ⟨rfl,rfl⟩:=hs;intro g d;simp at d;subst d;exact ⟨_,w,rfl⟩
     ·split at hs
      ·rename_i ps a;injection hs with hs;simp only [Aa] at hs;obtain ⟨rfl,rfl⟩:=hs;intro g d;rcases Ah.1 d with rfl|d
       ·exact ⟨_,w,rfl⟩
       ·exact CB a g d
      ·cases hs
    ·cases hs
   ·cases hs
  ·split at hs
   ·rename_i ps a;injection hs with hs;simp only [Aa] at hs;obtain ⟨rfl,rfl⟩:=hs;exact CB a
   ·cases hs
  ·split at hs
   ·injection hs with hs;simp only [Aa] at hs;obtain ⟨rfl,rfl⟩:=hs;intro g d;simp at d
   ·split at hs
    ·rename_i ps a;injection hs with hs;simp only [Aa] at hs;obtain ⟨rfl,rfl⟩:=hs;exact CB a
    ·cases hs
  ·split at hs
   ·rename_i ps a;injection hs with hs;simp only [Aa] at hs;obtain ⟨rfl,rfl⟩:=hs;exact CB a
   ·cases hs
  ·injection hs with hs;simp only [Aa] at hs;obtain ⟨rfl,rfl⟩:=hs;intro g d;simp at d
theorem Jmg(r:BK w S h μ){S':Nat->Prop}(hS:∀b,S b->S' b){l vs:List AV}{ns:List Nat}(hs:KO h l=some (vs,ns))(v:Met S' h μ ns) :
  vs.length=l.length/\∀(i:Nat) (y:AV),vs[i]?=some y->∃x,l[i]?=some x/\∀c,BF w S h μ x c->BD w S' y c:=by
 unfold KO at hs;split at hs
 ·rename_i ps m;injection hs with hs;simp only [Aa] at hs;obtain ⟨rfl,rfl⟩:=hs;obtain ⟨F,E⟩:=Tk m;refine ⟨by simp [F],λi y hi=>?_⟩;rw [Az] at hi;cases a:ps[i]? with
  | none=>rw [a] at hi;cases hi
  | some p=>
   rw [a] at hi;injection hi with hi;have f:i<l.length:=by have:=(Ab.1 a).1;omega
   obtain ⟨G,d,o⟩:=E i l[i] (Ad f);rw [a] at d;injection d with d;subst d;refine ⟨l[i],Ad f,λc B=>?_⟩;subst hi;exact iw r hS depth (u:=p.1) (ns:=p.2) o B (λg A=>v g (Au.2 ⟨p,Ai a,A⟩))
 ·cases hs
theorem wS{l vs:List AV}{ns:List Nat}(hs:KO h l=some (vs,ns)):∀g∈ns,∃o,h g=some o/\o.freeze.fz=true:=by
 unfold KO at hs;split at hs
 ·rename_i ps d;injection hs with hs;simp only [Aa] at hs;obtain ⟨rfl,rfl⟩:=hs;intro g r;obtain ⟨p,v,r⟩:=Au.1 r;obtain ⟨A,w⟩:=Tk d;obtain ⟨i,hi⟩:=Bd v;have m:i<l.length:=by have:=(Ab.1 hi).1;omega
  obtain ⟨y,a,f⟩:=w i l[i] (Ad m);rw [hi] at a;injection a with a;subst a;exact iq depth (u:=p.1) (ns:=p.2) f g r
 ·cases hs
theorem Ju2(o:AZ):o.freeze.ver=o.ver:=by cases o<;>rfl
theorem Jsn(o:AZ):o.like o.freeze:=by cases o<;>simp [AZ.freeze,AZ.like,AZ.kind]
theorem vg(E:BK w S h μ){ns:List Nat}(Y:∀g∈ns,∃o,h g=some o/\o.freeze.fz=true) :
  BK w (λb=>S b\/MW h μ ns b) (Jl h ns) μ/\Ci w S h μ w (λb=>S b\/MW h μ ns b) (Jl h ns) μ/\Cj h μ (Jl h ns) μ:=by
 have inv:∀g o,Jl h ns g=some o->∃f,h g=some f/\(o=f\/(o=f.freeze/\g∈ns)):=by
  intro g o a;unfold Jl at a;split at a
  ·rename_i y;cases d:h g with
   | none=>rw [d] at a;cases a
   | some f=>rw [d] at a;injection a with a;exact ⟨f,rfl,.inr ⟨a.symm,y⟩⟩
  ·exact ⟨o,a,.inl rfl⟩
 have fz:∀g∈ns,∀o,Jl h ns g=some o->o.fz=true:=by intro g y o a;obtain ⟨f,F,A⟩:=Y g y;unfold Jl at a;rw [if_pos y,F] at a;injection a with a;subst a;exact A
 have vv:Cj h μ (Jl h ns) μ:=by
  intro g o a;unfold Jl;split
  ·exact ⟨o.freeze,by rw [a];rfl,by rw [Ju2];exact Ao _,λ_=>⟨⟨rfl,rfl⟩,Jsn o⟩⟩
  ·exact ⟨o,a,Ao _,λ_=>⟨⟨rfl,rfl⟩,.refl o⟩⟩
 have ev:Ci w S h μ w (λb=>S b\/MW h μ ns b) (Jl h ns) μ:=by
  refine ⟨rfl,rfl,⟨rfl,Ao _⟩,Ao _,λ_ _ _=>rfl,λ_ cs _ _ Z=>⟨cs,Z,rfl⟩,λ_ h=>.inl h,λb r=>?_,λb r=>?_,rfl⟩
  ·rcases r with r|⟨g,y,f,F,H,rfl⟩
   ·exact .inl r
   ·cases B:f.fz with
    | false=>exact .inr (.inr ⟨g,_,F,B,H,rfl⟩)
    | true=>
     refine .inl ?_;have:=E.ob g _ F;cases f with
     | box=>cases B
     | arr=>obtain ⟨_,_,_,_,K⟩:=this (Qj.1 H);exact K B
     | map=>obtain ⟨_,_,_,_,K,_⟩:=this;exact K B
  ·obtain ⟨g,o,a,A,hl,e⟩:=r;obtain ⟨f,d,m⟩:=inv g o a;rcases m with rfl|⟨rfl,y⟩
   ·exact .inl ⟨g,o,d,A,hl,e⟩
   ·have:=fz g y _ a;rw [this] at A;cases A
 have flv:∀o:AZ,o.freeze.live=o.live:=λo=>by
  cases o with
  | arr v e t c z=>cases c<;>rfl
  | _=>rfl
 refine ⟨⟨λg o a=>?_,λg J o o' a L l Q e=>?_,λg o a A hl r=>?_,λb r=>?_⟩,ev,vv⟩
 ·obtain ⟨f,d,m⟩:=inv g o a;have:=(E.ob g f d).DK E ev vv (λ_=>rfl);rcases m with rfl|⟨rfl,y⟩
  ·exact this
  ·cases f with
   | box=>exact this
   | map v es z=>exact this
   | arr v e t c z=>
    intro G;obtain ⟨cs,h1,h2,h3,K⟩:=this G;exact ⟨cs,h1,h2,h3,λ_=>.inr ⟨g,y,_,d,Qj.2 G,rfl⟩⟩
 ·obtain ⟨f,d,X⟩:=inv g o a;obtain ⟨P,m,R⟩:=inv J o' L;exact E.inj g J f P d m (by rcases X with rfl|⟨rfl,_⟩<;>simpa [flv] using l) (by rcases R with rfl|⟨rfl,_⟩<;>simpa [flv] using Q) e
 ·obtain ⟨f,d,m⟩:=inv g o a;rcases m with rfl|⟨rfl,y⟩
  ·rcases r with r|⟨J,O,o',N,M,e⟩
   ·exact E.own g o d A hl r
   ·have:=E.inj J g _ _ N d M hl e;subst this;have:=fz J O _ a;rw [this] at A;cases A
  ·have:=fz g y _ a;rw [this] at A;cases A
 ·rcases r with r|⟨g,y,o,F,hl,rfl⟩
  ·exact E.lt b r
  ·exact (E.ob g _ F).lt hl
theorem Jsa{nt:Nat}{σ:St}{a:Act}{w':World}{S':Nat->Prop}{h':Heap}{μ':Gh}{d:Option Nat}{v:AV}{cv:Value}(hs:DR nt w S σ μ a)(hd:mM nt d=true)
  (hr:BF w' S' h' μ' v cv) (f:BK w' S' h' μ') (ev:Ci w S σ.h μ w' S' h' μ') (vv:Cj σ.h μ h' μ'):DR nt w' S' (σ.put d v h') μ' (a.put d cv):=by
 cases d with
 | none=>exact ⟨λk=>(hs.fr k).DK hs.hp ev vv,f,hs.hp.marks hs.df ev,hs.sz⟩
 | some d=>
  simp only [mM,decide_eq_true_eq] at hd;refine ⟨λk=>?_,f,hs.hp.marks hs.df ev,by simpa [Act.put] using hs.sz⟩;simp only [St.put,Act.put];rw [Ju1];by_cases g:k=d
  ·subst g;rw [Jj,if_pos ⟨rfl,by have:=hs.sz;omega⟩];exact hr
  ·rw [Je _ _ _ _ g,if_neg (by omega)];exact (hs.fr k).DK hs.hp ev vv
end
abbrev Fr(ro:Option Nat):Fence:={ Fence.wide with round:=ro }
def IW(ro:Option Nat)(P:Program)(o:Oper)(a:Act)(w:World)(next:Act->World->Prop)(Q:Exit->Act->World->Prop):Prop:=o.uponIn (Fr ro) 0 P a next Q ((execOp a.eval o).run P w)
theorem aH{ro:Option Nat}{P:Program}{o:Oper}{a:Act}{w:World}{next:Act->World->Prop}{Q:Exit->Act->World->Prop}(d:∀c,o.op≠.defer c)(h:IW ro P o a w next Q):o.wpIn (Fr ro) 0 P a w next Q:=
 ⟨λ_ _=>trivial,by rw [Oper.semAt_eq _ _ _ d];exact h⟩
theorem SA{ro:Option Nat}{n:Nat}{P:Program}{f:FuncId}{args:Array Value}{w:World}{R:Ending->World->Prop}(h:Calls P f args w R):CallsIn (Fr ro) n P f args w R:=by
 have:=callsIn_wide (n:=n).2 h;cases ro with
 | none=>exact this
 | some l=>exact this
def DT(P : Program)(f : FuncId) : Prop := ∃ fn, P.funcs[f]? = some fn /\ fn.body.isSome = true /\ (fn.name == "runtime.NumGoroutine") = false
structure Old (w w':World):Prop where
 os:w'.os=w.os
 tape:w'.tape=w.tape
 output:w'.output=w.output/\w.drawn<=w'.drawn
 size:w.heap.size<=w'.heap.size
 keep:∀b,b<w.heap.size->w'.heap[b]?=w.heap[b]?
def JV(S:Nat->Prop)(w w':World)(b:Nat):Prop:=S b\/(w.heap.size<=b/\b<w'.heap.size)
structure Lm (P:Program) (call:Call):Prop where
 fn:∀f vs m r,call f vs m=some r->DT P f
 pure:∀f vs v h',call f vs none=some (v,h')->∀(w:World) (S:Nat->Prop) (cargs:Array Value),(∀b,S b->b<w.heap.size)->cargs.size=vs.length->(∀i x,vs[i]?=some x->BD w S x (cargs.getD i undef)) ->
  Calls P f cargs w λe w'=>∃cv,e=.returned cv/\BD w' (JV S w w') v cv/\Old w w'
theorem wH(h:Heap)(k:Nat)(v:AV)(a:v.flat=true):snap h (k+1) v=some (v,[]):=by cases v<;>first|rfl|cases a
section
variable {ro:Option Nat} {P:Program} {w:World} {S:Nat->Prop} {h:Heap} {μ:Gh}
theorem Xp{f:FuncId}(hf:DT P f)(args:Array Value)(w:World):(callFunc f args).run P w=.ok (.enter f args) w:=by
 obtain ⟨fn,h1,h2,h3⟩:=hf;have hn:fn.body≠none:=by rintro e;rw [e] at h2;cases h2
 have hm : fn.name ≠ "runtime.NumGoroutine" := by simpa using h3
 simp [callFunc,program,Sem.run,h1,hm,hn]
theorem CG{o:Oper}{a:Act}{next:Act->World->Prop}{Q:Exit->Act->World->Prop}{cv:Value}{w':World}(d:(execOp a.eval o).run P w=.ok (.value cv) w')(f:next (a.put o.dst cv) w'):IW ro P o a w next Q:=by unfold IW;rw [d];exact f
theorem wp_skip{o:Oper}{a:Act}{next:Act->World->Prop}{Q:Exit->Act->World->Prop}{w':World}(d:(execOp a.eval o).run P w=.ok .skip w')(f:next (a.put o.dst undef) w'):IW ro P o a w next Q:=by unfold IW;rw [d];exact f
theorem EC{o:Oper}{a:Act}{next:Act->World->Prop}{Q:Exit->Act->World->Prop}{f:FuncId}{args:Array Value}{R:Ending->World->Prop}(d:(execOp a.eval o).run P w=.ok (.enter f args) w)(m:Calls P f args w R)
  (l:∀e w',R e w'->∃cv,e=.returned cv/\next (a.put o.dst cv) w'):IW ro P o a w next Q:=by unfold IW;rw [d,Oper.uponIn_enter];refine ⟨λh=>(by cases h),(SA m).mono λe w' hr=>?_⟩;obtain ⟨cv,rfl,g⟩:=l e w' hr;exact g
theorem iI{S1:Nat->Prop}{m:Heap}{v:AV}{cv:Value}{w':World}(f:BK w S1 m μ)(d:Old w w')(hr:BD w' (JV S1 w w') v cv):Ran w S1 m μ v m cv w':=by
 have ev:Ci w S1 m μ w' (JV S1 w w') m μ:=by
  refine ⟨d.os,d.tape,d.output,d.size,λb a _=>d.keep b a,λb cs el z r=>⟨cs,?_,rfl⟩,λ_ h=>.inl h,λb a=>?_,λ_ h=>.inl h,rfl⟩
  ·rw [d.keep b (Ac.1 r).1];exact r
  ·rcases a with a|a
   ·exact .inl a
   ·exact .inr (.inl a.1)
 refine ⟨JV S1 w w',μ,.pure hr,⟨λg o l=>(f.ob g o l).DK f ev (.refl _ _) (λhl=>d.keep _ ((f.ob g o l).lt hl)),f.inj,λg o l y hl a=>?_,λb a=>?_⟩,ev,.refl _ _⟩
 ·rcases a with a|a
  ·exact f.own g o l y hl a
  ·have:=(f.ob g o l).lt hl;omega
 ·rcases a with a|a
  ·have:=f.lt b a;have:=d.size;omega
  ·exact a.2
theorem Ran.after{S1:Nat->Prop}{a:Heap}{v:AV}{h':Heap}{cv:Value}{w':World}(hr:Ran w S1 a μ v h' cv w')(ev:Ci w S h μ w S1 a μ)(vv:Cj h μ a μ):Ran w S h μ v h' cv w':=by obtain ⟨S',μ',l,g,f,d⟩:=hr;exact ⟨S',μ',l,g,ev.trans f,vv.trans d⟩
theorem BD.F6{S':Nat->Prop}{v:AV}{cv:Value}(hs:v.scalar=true)(hr:BD w S v cv):BD w S' v cv:=by
 have one:∀ {x:AV} {c:Value},(match x with|.bool _|.int _ _|.str _=>true|_=>false)=true->BD w S x c->BD w S' x c:=by intro x c hx hr;cases hr<;>simp at hx<;>constructor
 cases hr with
 | bool=>exact .bool _
 | int=>exact .int _ _
 | str=>exact .str _
 | agg l cs hl m hr=>exact .agg l cs hl m (λi x hi=>one (Af.1 (by simpa [AV.scalar] using hs) x (Ai hi)) (hr i x hi))
 | Cn l cs hl hr=>
  refine .Cn l cs hl (λi x hi=>?_);have hx:=Af.1 (show l.all _=true from hs) x (Ai hi);have a:=hr i x hi;generalize cs.getD i undef=c at a ⊢;cases a with
  | bool=>exact .bool _
  | int=>exact .int _ _
  | str=>exact .str _
  | agg h cs' f g d=>exact .agg h cs' f g (λi x hi=>one (Af.1 (by simpa using hx) x (Ai hi)) (d i x hi))
  | _=>simp at hx
 | _=>simp [AV.scalar] at hs
theorem Jz7{call:Call}(K:Lm P call)(r:BK w S h μ){f:FuncId}{l vs:List AV}{ns:List Nat}{v:AV}{E:Heap}(hs:KO h l=some (vs,ns))(G:call f vs none=some (v,E)){cargs:Array Value}
  (H:cargs.size=l.length) (hl:∀i x,l[i]?=some x->BF w S h μ x (cargs.getD i undef)) :
  Calls P f cargs w λe w'=>∃cv,e=.returned cv/\((ns=[]\/v.scalar=true)->Ran w S h μ v h cv w')/\Ran w S h μ v (Jl h ns) cv w':=by
 obtain ⟨F,N,M⟩:=vg r (wS hs);obtain ⟨O,L⟩:=Jmg r (S':=λb=>S b\/MW h μ ns b) (λb d=>.inl d) hs (λg B o m hl=>.inr ⟨g,B,o,m,hl,rfl⟩);refine (K.pure f vs v E G w _ cargs F.lt (by omega) (λi y hi=>?_)).mono λe w' ⟨cv,J,hr,m⟩=>⟨cv,J,λa=>?_,(iI F m hr).after N M⟩
 ·obtain ⟨x,hx,A⟩:=L i y hi;exact A _ (hl i x hx)
 ·rcases a with a|a
  ·subst a;refine iI r m (hr.mono (λb d=>?_) (λ_ _=>rfl));rcases d with (d|⟨g,B,_⟩)|d
   ·exact .inl d
   ·cases B
   ·exact .inr d
  ·exact iI r m (hr.F6 a)
theorem dY{f:LO->AV}{l:List LO}{i:Nat}{x:AV}(hi:(l.map f)[i]?=some x):∃y,l[i]?=some y/\f y=x:=by
 rw [Az] at hi;cases a:l[i]? with
 | none=>rw [a] at hi;cases hi
 | some y=>rw [a] at hi;injection hi with hi;exact ⟨y,rfl,hi⟩
theorem iP{nt:Nat}{σ:St}{a:Act}(hs:DR nt w S σ μ a){l:Array Operand}{m:List LO}(g:II l.toList=some m) :
  (l.map a.eval).size=(m.map σ.ev).length/\∀i x,(m.map σ.ev)[i]?=some x->BF w S σ.h μ x ((l.map a.eval).getD i undef):=by
 obtain ⟨o,h⟩:=J4n hs g;refine ⟨by simp [o],λi x hi=>?_⟩;obtain ⟨y,f,rfl⟩:=dY hi;obtain ⟨z,d,hr⟩:=h i y f;have e:(l.map a.eval).getD i undef=a.eval z:=by
  have:l[i]?=some z:=by simpa using d
  simp [this]
 rw [e];exact hr
theorem Jsy(f:BK w S h μ){S':Nat->Prop}(hS:∀b,S b->S' b){x u:AV}{ns:List Nat}{c:Value}(hs:XW h x=some (u,ns))(hr:BF w S h μ x c)(J:Met S' h μ ns) :
  BD w S' u c:=by
 unfold XW at hs;split at hs
 ·rename_i g ver off;cases m:h g with
  | none=>rw [m] at hs;cases hs
  | some o=>
   rw [m] at hs;unfold KE at hs;split at hs
   ·rename_i v cells P;cases P;split at hs
    ·rename_i X;subst X;obtain ⟨cs,el,e1,e2,e3⟩:=f.ob g _ m;have E:c=.pointer (some ⟨μ.b g,μ.o g+off,none⟩):=by
      cases hr with
      | pure f=>cases f
      | ptr _ _ _ _ o2 A _ _ M=>rw [m] at A;cases A;exact M rfl
     subst E;have core:∀(l:List AV),l.length=cells.length->(∀(i:Nat) (y:AV),l[i]?=some y->∃z,cells[i]?=some z/\∀c,BF w S h μ z c->BD w S' y c)->S' (μ.b g) ->
       BD w S' (.CW (l.drop off)) (.pointer (some ⟨μ.b g,μ.o g+off,none⟩)):=by
      intro l hl F hb;have at':∀(i:Nat) (y:AV),(l.drop off)[i]?=some y->∃z,cells[off+i]?=some z/\BD w S' y (cs.getD (μ.o g+off+i) undef)/\(cs.getD (μ.o g+off+i) undef).oneCell'=true:=by intro i y hi;rw [List.getElem?_drop] at hi;obtain ⟨z,H,K⟩:=F _ y hi;have:=e3 _ z H;rw [<-Nat.add_assoc] at this;exact ⟨z,H,K _ this.1,this.2⟩
      refine .CW _ _ (λi=>cs.getD (μ.o g+off+i) undef) (λ_=>hb) (λi y hi=>?_) (λi y hi=>(at' i y hi).choose_spec.2.2) (λi y hi=>(at' i y hi).choose_spec.2.1);obtain ⟨z,H,-⟩:=at' i y hi;have d:off+i<cells.length:=(Ab.1 H).1;have G:(⟨μ.b g,μ.o g+off,none⟩:Addr).add i=⟨μ.b g,μ.o g+off+i,none⟩:=by cases i<;>simp [Addr.add]
      rw [G];have B:μ.o g+off+i<cs.size:=by omega
      simp [World.cell?,e1,B]
     split at hs
     ·rename_i Z;injection hs with hs;simp only [Aa] at hs;obtain ⟨rfl,rfl⟩:=hs;refine core cells rfl (λi y hi=>⟨y,hi,λc E=>?_⟩) (J g (by simp) _ m rfl);exact iw f hS depth (wH h 7 y (Af.1 Z y (Ai hi))) E (λg Y=>by cases Y)
     ·unfold sO at hs;split at hs
      ·rename_i ps N;injection hs with hs;simp only [Aa] at hs;obtain ⟨rfl,rfl⟩:=hs;obtain ⟨R,Q⟩:=Tk N;refine core (ps.map (·.1)) (by simp [R]) (λi y hi=>?_) (J g (by simp) _ m rfl);rw [Az] at hi;obtain ⟨p,a,rfl⟩:=Option.map_eq_some_iff.1 hi;have d:i<cells.length:=by have:=(Ab.1 a).1;omega
       obtain ⟨p',r,L⟩:=Q i cells[i] (Ad d);rw [a] at r;cases r;refine ⟨cells[i],Ad d,λc E=>iw f hS depth (u:=p.1) (ns:=p.2) L E λg' O=>J g' ?_⟩;exact Ak _ (Au.2 ⟨p,Ai a,O⟩)
      ·cases hs
    ·cases hs
   ·cases hs
 ·exact iw f hS depth hs hr J
theorem Jmd{x u:AV}{ns:List Nat}(hs:XW h x=some (u,ns)):∀g∈ns,∃o,h g=some o:=by
 unfold XW at hs;split at hs
 ·rename_i g ver off;cases f:h g with
  | none=>rw [f] at hs;cases hs
  | some o=>
   rw [f] at hs;unfold KE at hs;split at hs
   ·rename_i v cells G;split at hs
    ·split at hs
     ·injection hs with hs;simp only [Aa] at hs;obtain ⟨-,rfl⟩:=hs;intro B a;rw [List.mem_singleton] at a;exact ⟨o,by rw [a];exact f⟩
     ·unfold sO at hs;split at hs
      ·rename_i ps m;injection hs with hs;simp only [Aa] at hs;obtain ⟨-,rfl⟩:=hs;intro B a;rcases Ah.1 a with rfl|a
       ·exact ⟨o,f⟩
       ·obtain ⟨p,w,r⟩:=Au.1 a;obtain ⟨i,hi⟩:=Bd w;obtain ⟨J,E⟩:=Tk m;have y:i<cells.length:=by have:=(Ab.1 hi).1;omega
        obtain ⟨H,d,l⟩:=E i cells[i] (Ad y);rw [hi] at d;cases d;obtain ⟨_,A,_⟩:=iq depth (u:=p.1) (ns:=p.2) l B r;exact ⟨_,A⟩
      ·cases hs
    ·cases hs
   ·cases hs
 ·intro g F;obtain ⟨_,A,_⟩:=iq depth hs g F;exact ⟨_,A⟩
theorem Jrs(f:BK w S h μ){S':Nat->Prop}(hS:∀b,S b->S' b):∀ {l vs:List AV} {ns:List Nat},YD h l=some (vs,ns)->(Met S' h μ ns) ->
  vs.length=l.length/\(∀g∈ns,∃o,h g=some o)/\∀(i:Nat) (y:AV),vs[i]?=some y->∃x,l[i]?=some x/\∀c,BF w S h μ x c->BD w S' y c
 | [],vs,ns,hs,_=>by cases hs;exact ⟨rfl,λg d=>(by cases d),λi y hi=>(by simp at hi)⟩
 | x::l,vs,ns,hs,m=>by
  simp only [YD] at hs;unfold YB at hs;split at hs
  ·rename_i u E us B r A;injection hs with hs;simp only [Aa] at hs;obtain ⟨rfl,rfl⟩:=hs;obtain ⟨a,b,c⟩:=Jrs f hS A λg d=>m g (Ax _ d);refine ⟨by simp [a],λg d=>?_,λi y hi=>?_⟩
   ·rcases Ag.1 d with d|d
    ·exact Jmd r g d
    ·exact b g d
   ·cases i with
    | zero=>
     simp at hi;subst hi;exact ⟨x,rfl,λc v=>Jsy f hS r v λg d=>m g (Ar _ d)⟩
    | succ i=>simpa using c i y (by simpa using hi)
  ·cases hs
theorem J5i(l:BK w S h μ){S':Nat->Prop}(hS:∀b,S b->S' b){x u:AV}{ns:List Nat}{c:Value}(hs:Ho h x=some (u,ns))(hr:BF w S h μ x c)(m:Met S' h μ ns):BD w S' u c:=by
 unfold Ho at hs;split at hs
 ·rename_i f caps;unfold tN at hs;split at hs
  ·rename_i us ms r;injection hs with hs;simp only [Aa] at hs;obtain ⟨rfl,rfl⟩:=hs;obtain ⟨a,b,d⟩:=Jrs l hS r m;obtain ⟨cs,rfl,hl,v⟩:=hr.FU;refine .fn f us cs (by omega) λi y hi=>?_;obtain ⟨z,o,g⟩:=d i y hi;exact g _ (v i z o)
  ·cases hs
 ·exact Jsy l hS hs hr m
theorem Jr9:∀ {l us:List AV} {ns:List Nat},YD h l=some (us,ns)->∀g∈ns,∃o,h g=some o
 | [],us,ns,hs=>by cases hs;exact λg a=>(by cases a)
 | x::l,us,ns,hs=>by
  simp only [YD] at hs;unfold YB at hs;split at hs
  ·rename_i u r us m f d;injection hs with hs;simp only [Aa] at hs;obtain ⟨rfl,rfl⟩:=hs;intro g a;rcases Ag.1 a with a|a
   ·exact Jmd f g a
   ·exact Jr9 d g a
  ·cases hs
theorem J6g{x u:AV}{ns:List Nat}(hs:Ho h x=some (u,ns)):∀g∈ns,∃o,h g=some o:=by
 unfold Ho at hs;split at hs
 ·unfold tN at hs;split at hs
  ·rename_i us ms a;injection hs with hs;simp only [Aa] at hs;obtain ⟨-,rfl⟩:=hs;exact Jr9 a
  ·cases hs
 ·exact Jmd hs
theorem Jq2(f:BK w S h μ){S':Nat->Prop}(hS:∀b,S b->S' b):∀ {l vs:List AV} {ns:List Nat},Sl h l=some (vs,ns)->(Met S' h μ ns) ->
  vs.length=l.length/\(∀g∈ns,∃o,h g=some o)/\∀(i:Nat) (y:AV),vs[i]?=some y->∃x,l[i]?=some x/\∀c,BF w S h μ x c->BD w S' y c
 | [],vs,ns,hs,_=>by cases hs;exact ⟨rfl,λg d=>(by cases d),λi y hi=>(by simp at hi)⟩
 | x::l,vs,ns,hs,m=>by
  simp only [Sl] at hs;unfold YB at hs;split at hs
  ·rename_i u E us B r A;injection hs with hs;simp only [Aa] at hs;obtain ⟨rfl,rfl⟩:=hs;obtain ⟨a,b,c⟩:=Jq2 f hS A λg d=>m g (Ax _ d);refine ⟨by simp [a],λg d=>?_,λi y hi=>?_⟩
   ·rcases Ag.1 d with d|d
    ·exact J6g r g d
    ·exact b g d
   ·cases i with
    | zero=>
     simp at hi;subst hi;exact ⟨x,rfl,λc v=>J5i f hS r v λg d=>m g (Ar _ d)⟩
    | succ i=>simpa using c i y (by simpa using hi)
  ·cases hs
theorem fU{call:Call}(J:Lm P call)(B:BK w S h μ){f:FuncId}{l:List AV}{v:AV}{h':Heap}(d:Mv call f h (Sl h l)=some (v,h')){cargs:Array Value}
  (K:cargs.size=l.length) (hl:∀i x,l[i]?=some x->BF w S h μ x (cargs.getD i undef)) :
  DT P f/\Calls P f cargs w λe w'=>∃cv,e=.returned cv/\Ran w S h μ v h' cv w':=by
 unfold Mv at d;split at d
 ·rename_i vs ns L;unfold Oc at d;split at d
  ·rename_i u O m;split at d
   ·rename_i F;injection d with d;simp only [Aa] at d;obtain ⟨rfl,rfl⟩:=d;obtain ⟨a,b,c⟩:=Jq2 B (S':=λb=>S b\/MW h μ ns b) (λb N=>.inl N) L (λg H o A hl=>.inr ⟨g,H,o,A,hl,rfl⟩);refine ⟨J.fn _ _ _ _ m,(J.pure f vs u O m w (λb=>S b\/MW h μ ns b) cargs (λQ r=>?_) (by omega) (λi y hi=>?_)).mono λe w' ⟨cv,M,hr,A⟩=>⟨cv,M,iI B A (hr.F6 F)⟩⟩
    ·rcases r with r|⟨g,H,o,A,G,rfl⟩
     ·exact B.lt Q r
     ·exact (B.ob g o A).lt G
    ·obtain ⟨x,hx,E⟩:=c i y hi;exact E _ (hl i x hx)
   ·cases d
  ·cases d
 ·cases d
end
section
variable {ro:Option Nat} {P:Program} {w:World} {S:Nat->Prop} {σ:St} {μ:Gh} {a:Act} {nt:Nat}
theorem zi{α β:Type}{x:Option α}{f:α->β}{r:β}(h:x.map f=some r):∃y,x=some y/\r=f y:=by
 cases x with
 | none=>cases h
 | some y=>injection h with h;exact ⟨y,rfl,h.symm⟩
theorem hOut{x:Option AV}{a:Heap}{r:AV×Heap}(h:(match x with|some v=>some (v,a)|none=>none)=some r):x=some r.1/\a=r.2:=by
 cases x with
 | none=>cases h
 | some y=>injection h with h;subst h;exact ⟨rfl,rfl⟩
theorem J1y{h:Heap}:∀ {k:Nat} {v:AV} {f:FuncId} {caps:List AV} {ns:List Nat},snap h k v=some (.fn f caps,ns)->∃l,v=.fn f l
 | 0,_,_,_,_,hs=>by simp [snap] at hs
 | k+1,v,f,caps,ns,hs=>by
  unfold snap at hs;split at hs
  ·cases hs
  ·cases hs
  ·cases hs
  ·cases hs
  ·split at hs
   ·split at hs
    ·simp only at hs;split at hs
     ·cases hs
     ·split at hs<;>cases hs
    ·cases hs
   ·cases hs
  ·split at hs
   ·injection hs with hs;simp only [Aa] at hs;obtain ⟨e,_⟩:=hs;injection e with a _;subst a;exact ⟨_,rfl⟩
   ·cases hs
  ·split at hs
   ·cases hs
   ·split at hs<;>cases hs
  ·split at hs<;>cases hs
  ·rename_i x1 x2 x3 x4 x5 g d;injection hs with hs;simp only [Aa] at hs;exact ⟨caps,hs.1⟩
theorem J06{t e:TypeId}(r:P.underlying t=some (.slice e)){x:AV}{cx cy:Value}{X Y:Operand}{b ne:Bool}(hr:BF w S σ.h μ x cx)(B:BF w S σ.h μ .BM cy)(f:YF σ.h x=some b) :
  (eqGuard (if ne then .neq else .eql) t X Y cx cy).run P w=.ok () w/\(binOp (if ne then .neq else .eql) t cx cy).run P w=.ok (.bool (if ne then !b else b)) w:=by
 have m:cy=.slice none 0 0:=by
  cases B with
  | pure g=>cases g;rfl
 subst m;have key:(b=true/\cx=.slice none 0 0)\/(b=false/\∃a n c,cx=.slice (some a) n c):=by
  unfold YF at f;split at f
  ·injection f with f;subst f;cases hr with
   | pure g=>cases g;exact .inl ⟨rfl,rfl⟩
  ·cases f
  ·rename_i h;injection f with f;subst f;cases hr with
   | pure g=>
    cases g with
    | ER=>exact (h rfl rfl).elim
    | CB n l a cap cv=>exact .inr ⟨rfl,a,_,cap,rfl⟩
  ·split at f
   ·rename_i A;injection f with f;subst f;obtain ⟨esz,el,cells,fz,y⟩:=Jo1 A.1;obtain ⟨a,cap,cs,el',z,o,_⟩:=hr.EB y (λe=>A.2 ((hr.DJ y).1 e).2.1);exact .inr ⟨rfl,a,_,cap,o⟩
   ·cases f
  ·cases f
 have v:(Op.equal t cx (.slice none 0 0)).run P w=.ok b w:=by
  have hd:∀d,(Op.equalIn (d+1) t cx (.slice none 0 0)).run P w=.ok b w:=λd=>by
   rcases key with ⟨rfl,rfl⟩|⟨rfl,a,n,c,rfl⟩
   ·simp [Op.equalIn,run_underlying r]
   ·simp [Op.equalIn,run_underlying r]
  exact hd 9999
 have E:∃q n c,cx=.slice q n c:=by
  rcases key with ⟨rfl,rfl⟩|⟨rfl,a,n,c,rfl⟩
  ·exact ⟨_,_,_,rfl⟩
  ·exact ⟨_,_,_,rfl⟩
 obtain ⟨q,n,c,rfl⟩:=E;cases ne with
 | true=>exact ⟨by simp [eqGuard],by simp only [if_true,binOp,Sem.run_bind,v];rfl⟩
 | false=>exact ⟨by simp [eqGuard],by simp only [Aq,if_false,binOp,Sem.run_bind,v];rfl⟩
theorem J0s(f:BK w S σ.h μ){e:TypeId}{z:List AV}(a:zc P e=some z)(esz g:Nat) :
  ∃cv w',(Instr.alloc e true (.tuple #[])).run P w=.ok cv w'/\Ran w S σ.h μ (.ptr g (Kg σ.h g) 0) (upd σ.h g (some (.arr (Kg σ.h g) esz e z false))) cv w':=by
 obtain ⟨i,v,hi,d,hl,A,hs⟩:=gu a;have l:=lN (w:=w) (S:=S) (h:=σ.h) (μ:=μ) hl;obtain ⟨y,r,m⟩:=aX (el:=e) (g:=g) (o:=.arr (Kg σ.h g) esz e z false) (cs:=v.cells) f (.inl rfl) (by simpa using l) (.inr ⟨_,_,rfl,by omega⟩);exact ⟨.pointer (some ⟨w.heap.size,0,none⟩),w.alloc (.cells v.cells e),by simp [Instr.alloc,zeroValue,typeInfo,hi,d,newVar,newRow],S,_,
  .ptr _ _ _ _ _ (Jj _ _ _) (Ao _) rfl (λ_=>by simp [Gh.set,Jj]),y,r,m⟩
theorem J5r(B:BK w S σ.h μ){t el:TypeId}{n sz:Nat}(y:P.underlying t=some (.array n el))(r:E8 P el=some sz)(hM:n<=9223372036854775807){x v:AV}{cx:Value}(hr:BF w S σ.h μ x cx)
  (d:ZX σ.h n sz x=some v):∃cv,(Instr.sliceAt t cx none none none).run P w=.ok cv w/\BF w S σ.h μ v cv:=by
 unfold ZX at d;split at d
 ·rename_i g ver;unfold ME at d;split at d
  ·rename_i ver' esz' el' cells fz l;split at d
   ·rename_i E;obtain ⟨rfl,rfl,o,f⟩:=E;injection d with d;subst d;have m:=hr.Eh (by simp [cur,l,AZ.ver]);subst m;obtain ⟨cs,F,A,G,_⟩:=B.ob g _ l f;have h:∀a:Addr,(if n=0 then a else a.add 0)=a:=λa=>by split<;>simp [Addr.add]
    refine ⟨.slice (some ⟨μ.b g,μ.o g,none⟩) n n,?_,?_⟩
    ·simp [Instr.sliceAt,run_underlying y,run_sizeOf r,Instr.sureAddr,Instr.sliceBounds,h]
    ·exact .arr g ver 0 n _ _ l (Ao _) rfl λ_=>⟨sz,el',cells,fz,rfl,λq=>(f q).elim,λ_=>⟨_,n,cs,el',(0,0),rfl,⟨Ao _,hM⟩,F,by simp only [Nat.zero_add];omega,λ_=>by simp⟩⟩
   ·cases d
  ·cases d
 ·cases d
theorem nK{call:Call}{cm:List (Nat×CM)}{o:Oper}{lop:CQ}{base g0:Nat}{v:AV}{h':Heap}{next:Act->World->Prop}{Q:Exit->Act->World->Prop}(R:Lm P call)(hs:DR nt w S σ μ a)
  (A:JI P cm o.dst o.op=some lop) (B:Ja call base σ g0 lop=some (v,h')) (K:∀cv w',Ran w S σ.h μ v h' cv w'->next (a.put o.dst cv) w'):IW ro P o a w next Q:=by
 have V:∀ {s:Sem Value} {cv:Value} {w':World},execOp a.eval o=(do pure (.value (<-s)))->s.run P w=.ok cv w'->Ran w S σ.h μ v h' cv w'->IW ro P o a w next Q:=λ{s cv w'} F H h3=>CG (by rw [F];simp [H]) (K _ _ h3)
 have V0:∀ {s:Sem Value} {cv:Value},execOp a.eval o=(do pure (.value (<-s)))->s.run P w=.ok cv w->BF w S σ.h μ v cv->σ.h=h'->IW ro P o a w next Q:=λ{s cv} F H h3 h4=>V F H (by subst h4;exact Ran.same hs.hp h3)
 cases E:o.op<;>rw [E] at A<;>simp only [JI] at A<;>try (cases A;done)
 case move x=>
  obtain ⟨y,hy,rfl⟩:=zi A;simp only [Ja] at B;injection B with B;simp only [Aa] at B;obtain ⟨rfl,rfl⟩:=B;exact CG (cv:=a.eval x) (w':=w) (by simp [execOp,E]) (K _ _ (Ran.same hs.hp (Jx hs hy)))
 case assign x=>
  obtain ⟨y,hy,rfl⟩:=zi A;simp only [Ja] at B;injection B with B;simp only [Aa] at B;obtain ⟨rfl,rfl⟩:=B;exact CG (cv:=a.eval x) (w':=w) (by simp [execOp,E]) (K _ _ (Ran.same hs.hp (Jx hs hy)))
 case pick c x y=>
  split at A
  ·rename_i c' x' y' F H h3;injection A with A;subst A;simp only [Ja] at B;split at B
   ·rename_i t ht;injection B with B;simp only [Aa] at B;obtain ⟨rfl,rfl⟩:=B;have hb:=Jx hs F;rw [ht] at hb;refine CG (cv:=if t then a.eval x else a.eval y) (w':=w) (by simp [execOp,E,hb.Ch,asBool]) (K _ _ (Ran.same hs.hp ?_));cases t with
    | true=>exact Jx hs H
    | false=>exact Jx hs h3
   ·cases B
  ·cases A
 case alloc e=>
  split at A
  ·split at A
   ·rename_i len el M;split at A
    ·rename_i n z hn hz;injection A with A;subst A;simp only [Ja] at B;injection B with B;simp only [Aa] at B;obtain ⟨rfl,rfl⟩:=B;obtain ⟨cv,w',F,H⟩:=J0s hs.hp hz n g0;exact V (by simp only [execOp,E]<;>rfl) F H
    ·cases A
   ·cases A
  ·obtain ⟨z,hz,rfl⟩:=zi A;simp only [Ja] at B;injection B with B;simp only [Aa] at B;obtain ⟨rfl,rfl⟩:=B;obtain ⟨cv,w',F,H⟩:=Jsr hs.hp hz g0;exact V (by simp only [execOp,E]<;>rfl) F H
 case box e x=>
  obtain ⟨y,hy,rfl⟩:=zi A;simp only [Ja] at B;split at B
  ·rename_i c hcc;injection B with B;simp only [Aa] at B;obtain ⟨rfl,rfl⟩:=B;obtain ⟨cv,w',F,H⟩:=Jy7 (P:=P) (e:=e) hs.hp (Jx hs hy) hcc g0;exact V (by simp only [execOp,E]<;>rfl) F H
  ·cases B
 case build t ps=>
  split at A
  ·rename_i z fs hz M;split at A
   ·rename_i pl hpl;obtain ⟨l,hl,rfl⟩:=zi A;simp only [Ja] at B;split at B
    ·rename_i r hr;injection B with B;simp only [Aa] at B;obtain ⟨rfl,rfl⟩:=B;obtain ⟨cv,F,H⟩:=Jsh (cp:=ps.map λ(i,x)=>(i,a.eval x)) hz (.inl ⟨fs,pl,M,hpl,by simpa using wY hs hl⟩) hr;exact V0 (by simp only [execOp,E]<;>rfl) F H rfl
    ·cases B
   ·cases A
  ·rename_i z n e hz M;split at A
   ·rename_i i hi;obtain ⟨l,hl,rfl⟩:=zi A;simp only [Ja] at B;split at B
    ·rename_i r hr;injection B with B;simp only [Aa] at B;obtain ⟨rfl,rfl⟩:=B;obtain ⟨cv,F,H⟩:=Jsh (cp:=ps.map λ(i,x)=>(i,a.eval x)) hz (.inr ⟨n,e,i,M,hi,by simpa using wY hs hl⟩) hr;exact V0 (by simp only [execOp,E]<;>rfl) F H rfl
    ·cases B
   ·cases A
  ·cases A
 case buildSlice t n ps=>
  split at A
  ·rename_i e M;split at A
   ·rename_i i z hi hz;split at A
    ·rename_i hb;obtain ⟨b1,b3⟩:=hb;obtain ⟨l,hl,rfl⟩:=zi A;simp only [Ja] at B;split at B
     ·rename_i r hr;injection B with B;simp only [Aa] at B;obtain ⟨rfl,rfl⟩:=B;obtain ⟨cv,w',F,H⟩:=Jx5 (cp:=ps.map λ(i,x)=>(i,a.eval x)) hs.hp M hi hz b1 b3 (by simpa using wY hs hl) hr g0;exact V (by simp only [execOp,E]<;>rfl) F H
     ·cases B
    ·cases A
   ·cases A
  ·cases A
 case load t x=>
  split at A
  ·rename_i ag n y F H h3;split at A
   ·rename_i hn;injection A with A;subst A;simp only [Ja] at B;obtain ⟨N,e2⟩:=hOut B;obtain ⟨cv,J,L⟩:=rF (P:=P) hs.hp F H hn (Jx hs h3) N;exact V0 (by simp only [execOp,E]<;>rfl) J L e2
   ·cases A
  ·cases A
 case makeMap t r=>
  cases r with
  | some x=>simp at A
  | none=>
   simp only at A;split at A
   ·rename_i kt et M;injection A with A;subst A;simp only [Ja] at B;injection B with B;simp only [Aa] at B;obtain ⟨rfl,rfl⟩:=B;obtain ⟨cv,w',J,L⟩:=J8a (P:=P) hs.hp M g0;exact CG (cv:=cv) (w':=w') (by simp [execOp,E,J]) (K _ _ L)
   ·cases A
 case lookup t x k ok=>
  split at A
  ·rename_i kt et M;split at A
   ·rename_i sh ag z F H h3;split at A
    ·rename_i x' k' h4 h5;injection A with A;subst A;simp only [Ja] at B;obtain ⟨N,e2⟩:=hOut B;obtain ⟨cv,J,L⟩:=Jui (P:=P) hs.hp M F H h3 (Jx hs h4) (Jx hs h5) N;exact V0 (cv:=cv) (by simp only [execOp,E]<;>rfl) J L e2
    ·cases A
   ·cases A
  ·cases A
 case mapUpdate t x k v'=>
  split at A
  ·rename_i kt et M;split at A
   ·rename_i sh ag F H;split at A
    ·rename_i x' k' v'' h4 h5 h6;injection A with A;subst A;simp only [Ja] at B;split at B
     ·rename_i hh hst;injection B with B;simp only [Aa] at B;obtain ⟨rfl,rfl⟩:=B;obtain ⟨w',J,S',μ',-,L⟩:=Jo6 (P:=P) hs.hp M F H (Jx hs h4) (Jx hs h5) (Jx hs h6) hst;exact wp_skip (by simp [execOp,E,J]) (K _ _ ⟨S',μ',.any _,L⟩)
     ·cases B
    ·cases A
   ·cases A
  ·cases A
 case insert t x k v'=>
  split at A
  ·rename_i kt et M;split at A
   ·rename_i sh ag F H;split at A
    ·rename_i x' k' v'' h4 h5 h6;injection A with A;subst A;simp only [Ja] at B;split at B
     ·rename_i hh hst;injection B with B;simp only [Aa] at B;obtain ⟨rfl,rfl⟩:=B;obtain ⟨w',J,S',μ',-,L⟩:=Jo6 (P:=P) hs.hp M F H (Jx hs h4) (Jx hs h5) (Jx hs h6) hst;exact wp_skip (by simp [execOp,E,J]) (K _ _ ⟨S',μ',.any _,L⟩)
     ·cases B
    ·cases A
   ·cases A
  ·cases A
 case store t x y=>
  split at A
  ·rename_i n x' y' F H h3;injection A with A;subst A;simp only [Ja] at B;split at B
   ·rename_i hh hst;injection B with B;simp only [Aa] at B;obtain ⟨rfl,rfl⟩:=B;obtain ⟨w',J,L⟩:=Jqq (P:=P) hs.hp F (Jx hs H) (Jx hs h3) hst;exact wp_skip (by simp [execOp,E,J]) (K _ _ L)
   ·cases B
  ·cases A
 case nilCheck x=>
  obtain ⟨y,hy,rfl⟩:=zi A;have hr:=Jx hs hy;simp only [Ja] at B;split at B
  ·rename_i g ver off hx;split at B
   ·rename_i hcur;injection B with B;simp only [Aa] at B;obtain ⟨rfl,rfl⟩:=B;rw [hx] at hr;have e:=hr.Eh hcur;exact CG (cv:=a.eval x) (w':=w) (by simp [execOp,E,e]) (K _ _ (Ran.same hs.hp hr))
   ·cases B
  ·rename_i l hx;injection B with B;simp only [Aa] at B;obtain ⟨rfl,rfl⟩:=B;rw [hx] at hr;have:∃ad,a.eval x=.pointer (some ad):=by generalize a.eval x=c at hr;cases hr with|pure hp=>cases hp;exact ⟨_,rfl⟩
   obtain ⟨ad,e⟩:=this;exact CG (cv:=a.eval x) (w':=w) (by simp [execOp,E,e]) (K _ _ (Ran.same hs.hp hr))
  ·rename_i f caps hx;injection B with B;simp only [Aa] at B;obtain ⟨rfl,rfl⟩:=B;rw [hx] at hr;obtain ⟨cs,e,_⟩:=hr.FU;exact CG (cv:=a.eval x) (w':=w) (by simp [execOp,E,e]) (K _ _ (Ran.same hs.hp hr))
  ·rename_i f l hx;injection B with B;simp only [Aa] at B;obtain ⟨rfl,rfl⟩:=B;rw [hx] at hr;obtain ⟨cs,e,_⟩:=hr.MU;exact CG (cv:=a.eval x) (w':=w) (by simp [execOp,E,e]) (K _ _ (Ran.same hs.hp hr))
  ·cases B
 case binOp op t x y yt=>
  split at A
  ·rename_i k x' y' M F H;have fin:lop=.KJ op x' y'->IW ro P o a w next Q:=by
    rintro rfl;simp only [Ja] at B;split at B
    ·rename_i k1 n1 k2 n2 hx hy;split at B
     ·rename_i hk;subst hk;obtain ⟨N,e2⟩:=hOut B;obtain ⟨cv,J,L⟩:=Joc (w:=w) (S:=S) (h:=σ.h) (μ:=μ) (P:=P) (t:=t) N;have hx':=Jx hs F;have Z:=Jx hs H;rw [hx] at hx';rw [hy] at Z;refine V0 (cv:=cv) (by simp only [execOp,E]<;>rfl) ?_ L e2;rw [hx'.BI,Z.BI];simp [Jsg,J]
     ·cases B
    ·cases B
   have finS:∀b,op=b->(∃q,P.underlying yt=some (.int q))->lop=.bZ b x' y'->IW ro P o a w next Q:=by
    rintro b rfl hyt rfl;simp only [Ja] at B;split at B
    ·rename_i k1 n1 k2 n2 hx hy;obtain ⟨N,e2⟩:=hOut B;have hx':=Jx hs F;have Z:=Jx hs H;rw [hx] at hx';rw [hy] at Z;obtain ⟨cv,J,L⟩:∃cv,(binOp op t (.int k1 n1) (.int k2 n2)).run P w=.ok cv w/\BF w S σ.h μ v cv:=by
      unfold UL at N;split at N
      ·cases N
      ·rename_i hb;split at N
       ·injection N with N;have e1':v=.int k1 (k1.wrap (n1 * 2 ^ min n2.toNat k1.bits)):=N.symm;exact ⟨.int k1 (k1.wrap (n1 * 2 ^ min n2.toNat k1.bits)),by simp [binOp_shl,Op.shift,hb],by rw [e1'];exact .pure (.int _ _)⟩
       ·injection N with N;have e1':v=.int k1 (n1.fdiv (2 ^ min n2.toNat k1.bits)):=N.symm;exact ⟨.int k1 (n1.fdiv (2 ^ min n2.toNat k1.bits)),by simp [binOp_shr,Op.shift,hb],by rw [e1'];exact .pure (.int _ _)⟩
       ·cases N
     refine V0 (cv:=cv) (by simp only [execOp,E]<;>rfl) ?_ L e2;rw [hx'.BI,Z.BI];simp [Jsg,J]
    ·cases B
   split at A
   ·split at A
    ·rename_i q hq;injection A with A;exact finS .shl rfl ⟨q,hq⟩ A.symm
    ·cases A
   ·split at A
    ·rename_i q hq;injection A with A;exact finS .shr rfl ⟨q,hq⟩ A.symm
    ·cases A
   ·injection A with A;exact fin A.symm
  ·rename_i e x' M F H;have fin:∀ne,op=(if ne then .neq else .eql)->lop=.Er ne x'->IW ro P o a w next Q:=by
    rintro ne rfl rfl;simp only [Ja] at B;split at B
    ·rename_i b hb;injection B with B;simp only [Aa] at B;obtain ⟨rfl,rfl⟩:=B;obtain ⟨J,L⟩:=J06 (X:=x) (Y:=y) (ne:=ne) M (Jx hs F) (by simpa [St.ev] using Jx hs H) hb;refine V0 (cv:=.bool (if ne then !b else b)) (by simp only [execOp,E]<;>rfl) ?_ (.pure (.bool _)) rfl;simp [J,L]
    ·cases B
   split at A
   ·injection A with A;exact fin false rfl A.symm
   ·injection A with A;exact fin true rfl A.symm
   ·cases A
  ·rename_i d x' y' hni hns M F H;have hnk:∀k,P.underlying t≠some (.int k):=λk e=>by rw [M] at e;injection e with e;exact hni k e
   have fin:∀ne ag sh,oC P t=some (ag,sh)->op=(if ne then .neq else .eql)->lop=.eqv ne ag sh x' y'->IW ro P o a w next Q:=by
    rintro ne ag sh ht rfl rfl;simp only [Ja] at B;split at B
    ·rename_i b hb;injection B with B;simp only [Aa] at B;obtain ⟨rfl,rfl⟩:=B;obtain ⟨J,L⟩:=J9b (X:=x) (Y:=y) (ne:=ne) ht hnk (Jx hs F) (Jx hs H) hb;refine V0 (cv:=.bool (if ne then !b else b)) (by simp only [execOp,E]<;>rfl) ?_ (.pure (.bool _)) rfl;simp [J,L]
    ·cases B
   split at A
   ·split at A
    ·rename_i ag sh ht;injection A with A;exact fin false ag sh ht rfl A.symm
    ·cases A
   ·split at A
    ·rename_i ag sh ht;injection A with A;exact fin true ag sh ht rfl A.symm
    ·cases A
   ·cases A
  ·cases A
 case unOp op t x=>
  obtain ⟨y,hy,rfl⟩:=zi A;have hr:=Jx hs hy;simp only [Ja] at B;split at B
  ·rename_i b hx;injection B with B;simp only [Aa] at B;obtain ⟨rfl,rfl⟩:=B;rw [hx] at hr;refine V0 (cv:=.bool !b) (by simp only [execOp,E]<;>rfl) ?_ (.pure (.bool _)) rfl;rw [hr.Ch];rfl
  ·rename_i k n hx;injection B with B;simp only [Aa] at B;obtain ⟨rfl,rfl⟩:=B;rw [hx] at hr;refine V0 (cv:=.int k (k.wrap (0 - n))) (by simp only [execOp,E]<;>rfl) ?_ (.pure (.int _ _)) rfl;rw [hr.BI];rfl
  ·cases B
 case convert s d x=>
  split at A
  ·rename_i k1 k2 y F H h3;injection A with A;subst A;simp only [Ja] at B;split at B
   ·rename_i k n hx;injection B with B;simp only [Aa] at B;obtain ⟨rfl,rfl⟩:=B;have hr:=Jx hs h3;rw [hx] at hr;refine V0 (by simp only [execOp,E]<;>rfl) ?_ (.pure (.int _ _)) rfl;rw [hr.BI];exact J6d ⟨_,F⟩ H
   ·cases B
  ·cases A
 case makeFunc fn first caps=>
  cases fn with
  | func f=>
   simp only at A;split at A
   ·rename_i h0;obtain ⟨l,hl,rfl⟩:=zi A;simp only [Ja] at B;injection B with B;simp only [Aa] at B;obtain ⟨rfl,rfl⟩:=B;obtain ⟨J,L⟩:=iP hs hl;have hf:first=#[]:=Bq h0
    subst hf;refine V0 (cv:=.func (.func f) #[] (caps.map a.eval)) (by simp only [execOp,E]<;>rfl) (by simp [Instr.makeFunc]) (.fn f _ _ J.symm L) rfl
   ·split at A
    ·rename_i h0;split at A
     ·rename_i x hl;injection A with A;subst A;simp only [Ja] at B;split at B
      ·rename_i l hx;split at B
       ·rename_i hfl;injection B with B;simp only [Aa] at B;obtain ⟨rfl,rfl⟩:=B;obtain ⟨J,L⟩:=iP hs hl;have hr:=L 0 _ rfl;rw [hx] at hr;obtain ⟨cs,ec,hl',hcs⟩:=hr.CP;have hcp:caps=#[]:=Bq h0;subst hcp;have hf1:first.map a.eval=#[.agg cs]:=by
         have hz:(first.map a.eval).size=1:=by rw [J];rfl
         apply Array.ext
         ·rw [hz];rfl
         ·intro i F H;have hi:i=0:=by omega
          subst hi;rw [Am,Array.getElem?_eq_getElem F] at ec;exact ec
        refine V0 (cv:=.func (.func f) #[.agg cs] #[]) (by simp only [execOp,E]<;>rfl) (by rw [hf1];simp [Instr.makeFunc]) (.pure (.Lf f l cs hl' (λi y hi=>(hcs i y hi).2) λi y hi=>?_)) rfl;exact (hcs i y hi).1.flat (Af.1 hfl y (Ai hi))
       ·cases B
      ·cases B
     ·cases A
    ·cases A
  | _=>cases A
 case makeSlice t l c=>
  split at A
  ·rename_i e M;split at A
   ·rename_i i z l' c' hi hz F H;split at A
    ·rename_i hi0;injection A with A;subst A;simp only [Ja] at B;split at B
     ·rename_i k n k' m hx hy;split at B
      ·rename_i hb;obtain ⟨b1,b2,b5,b3,b4⟩:=hb;injection B with B;simp only [Aa] at B;obtain ⟨rfl,rfl⟩:=B;have hx':=Jx hs F;have Z:=Jx hs H;rw [hx] at hx';rw [hy] at Z;obtain ⟨cv,w',J,L⟩:=J67 (k:=k) (k':=k') hs.hp M hi hz hi0 b1 b2 b5 b3 b4 g0;refine V (by simp only [execOp,E]<;>rfl) ?_ L;rw [hx'.BI,Z.BI];exact J
      ·cases B
     ·cases B
    ·cases A
   ·cases A
  ·cases A
 case slice t x lo hi mx=>
  cases mx with
  | some _=>cases A
  | none=>
   simp only at A;split at A
   ·rename_i e M;split at A
    ·rename_i n x' hn F;have fin:∀lo' hi',lop=.slc n x' lo' hi'->kL w S σ.h μ (lo'.map σ.ev) (lo.map a.eval)->kL w S σ.h μ (hi'.map σ.ev) (hi.map a.eval)->IW ro P o a w next Q:=by rintro lo' hi' rfl J L;simp only [Ja] at B;obtain ⟨N,e2⟩:=hOut B;obtain ⟨cv,s1,s2⟩:=J1b (P:=P) M hn (Jx hs F) J L N;exact V0 (by simp only [execOp,E]<;>rfl) s1 s2 e2
     split at A
     ·injection A with A;exact fin none none A.symm trivial trivial
     ·split at A
      ·rename_i p q hp;injection A with A;exact fin (some q) none A.symm (Jx hs hp) trivial
      ·cases A
     ·split at A
      ·rename_i p q hp;injection A with A;exact fin none (some q) A.symm trivial (Jx hs hp)
      ·cases A
     ·split at A
      ·rename_i p q p' q' hp hq;injection A with A;exact fin (some p') (some q') A.symm (Jx hs hp) (Jx hs hq)
      ·cases A
    ·cases A
   ·rename_i n el M;split at A
    ·split at A
     ·rename_i sz x' hz F;split at A
      ·rename_i hM;injection A with A;subst A;simp only [Ja] at B;obtain ⟨N,e2⟩:=hOut B;obtain ⟨cv,s1,s2⟩:=J5r (P:=P) hs.hp M hz (Nat.le_of_ble_eq_true hM) (Jx hs F) N;exact V0 (by simp only [execOp,E]<;>rfl) s1 s2 e2
      ·cases A
     ·cases A
    ·cases A
   ·cases A
 case fieldAddr s x f=>
  split at A
  ·rename_i fs M;split at A
   ·rename_i fd x' hf F;split at A
    ·rename_i n hn;split at A
     ·rename_i hn0;injection A with A;subst A;simp only [Ja] at B;obtain ⟨N,e2⟩:=hOut B;obtain ⟨cv,J,L⟩:=J21 (P:=P) M hf hn hn0 (Jx hs F) N;exact V0 (by simp only [execOp,E]<;>rfl) J L e2
     ·cases A
    ·cases A
   ·cases A
  ·cases A
 case field s x f=>
  split at A
  ·rename_i fs M;split at A
   ·rename_i fd x' hf F;split at A
    ·rename_i ag n hag hn;split at A
     ·rename_i hn0;injection A with A;subst A;simp only [Ja] at B;split at B
      ·rename_i l hx;obtain ⟨N,e2⟩:=hOut B;have hr:=Jx hs F;rw [hx] at hr;obtain ⟨cv,J,L⟩:=Kay (P:=P) M hf hag hn hn0 hr N;exact V0 (by simp only [execOp,E]<;>rfl) J L e2
      ·cases B
     ·cases A
    ·cases A
   ·cases A
  ·cases A
 case indexAddr t x i=>
  split at A
  ·rename_i e x' i' M F H;split at A
   ·rename_i n hn;injection A with A;subst A;simp only [Ja] at B;obtain ⟨N,e2⟩:=hOut B;obtain ⟨cv,J,L⟩:=J09 (P:=P) M hn (Jx hs F) (Jx hs H) N;exact V0 (by simp only [execOp,E]<;>rfl) J L e2
   ·cases A
  ·rename_i len e x' i' M F H;split at A
   ·rename_i n hn;injection A with A;subst A;simp only [Ja] at B;obtain ⟨N,e2⟩:=hOut B;obtain ⟨cv,J,L⟩:=Jz1 (P:=P) M hn (Jx hs F) (Jx hs H) N;exact V0 (by simp only [execOp,E]<;>rfl) J L e2
   ·cases A
  ·cases A
 case index t x i=>
  split at A
  ·rename_i len e x' i' M F H;split at A
   ·rename_i ag n hag hn;split at A
    ·rename_i hn0;injection A with A;subst A;simp only [Ja] at B;obtain ⟨N,e2⟩:=hOut B;obtain ⟨cv,J,L⟩:=J7h (P:=P) M hag hn hn0 (Jx hs F) (Jx hs H) N;exact V0 (by simp only [execOp,E]<;>rfl) J L e2
    ·cases A
   ·cases A
  ·cases A
 case extract x i=>
  obtain ⟨y,hy,rfl⟩:=zi A;simp only [Ja] at B;split at B
  ·rename_i l hx;obtain ⟨N,e2⟩:=hOut B;have hr:=Jx hs hy;rw [hx] at hr;obtain ⟨cv,J,L⟩:=J9o (P:=P) hr N;exact V0 (by simp only [execOp,E]<;>rfl) J L e2
  ·cases B
 case call c=>
  obtain ⟨callee,args,argTypes⟩:=c;simp only at A;split at A
  ·-- len
   split at A
   ·rename_i x t G htys;have ha:args=#[x]:=by rw [<-Ap];exact G
    have ht:argTypes=#[t]:=by rw [<-Ap];exact htys
    subst ha ht;split at A
    ·rename_i e y M F;injection A with A;subst A;simp only [Ja] at B;split at B
     ·rename_i n hn;injection B with B;simp only [Aa] at B;obtain ⟨rfl,rfl⟩:=B;have:=J86 (P:=P) (ty:=o.type) M (Jx hs F) hn;exact CG (cv:=.int .i64 n) (w':=w) (by simp [execOp,E,resolve,invoke,builtin,this]) (K _ _ (Ran.same hs.hp (.pure (.int _ _))))
     ·cases B
    ·rename_i k e y M F;injection A with A;subst A;simp only [Ja] at B;split at B
     ·rename_i n hn;injection B with B;simp only [Aa] at B;obtain ⟨rfl,rfl⟩:=B;have:=J6c (P:=P) (ty:=o.type) M hs.hp (Jx hs F) hn;exact CG (cv:=.int .i64 n) (w':=w) (by simp [execOp,E,resolve,invoke,builtin,this]) (K _ _ (Ran.same hs.hp (.pure (.int _ _))))
     ·cases B
    ·rename_i y M F;injection A with A;subst A;simp only [Ja] at B;split at B
     ·rename_i n hn;injection B with B;simp only [Aa] at B;obtain ⟨rfl,rfl⟩:=B;have:=J6h (P:=P) (ty:=o.type) M (Jx hs F) hn;exact CG (cv:=.int .i64 n) (w':=w) (by simp [execOp,E,resolve,invoke,builtin,this]) (K _ _ (Ran.same hs.hp (.pure (.int _ _))))
     ·cases B
    ·cases A
   ·cases A
  ·-- append
   split at A
   ·rename_i x y t t' G htys;have ha:args=#[x,y]:=by rw [<-Ap];exact G
    have ht:argTypes=#[t,t']:=by rw [<-Ap];exact htys
    subst ha ht;split at A
    ·rename_i htt;subst htt;split at A
     ·rename_i e x' y' M F H;split at A
      ·rename_i i z hi hz;split at A
       ·rename_i hi0;injection A with A;subst A;simp only [Ja] at B;obtain ⟨cv,w',J,L⟩:=vZ (P:=P) (ty:=o.type) hs.hp M hi hz hi0 (Jx hs F) (Jx hs H) B;exact CG (cv:=cv) (w':=w') (by simp [execOp,E,resolve,invoke,builtin,J]) (K _ _ L)
       ·cases A
      ·cases A
     ·cases A
    ·cases A
   ·cases A
  ·-- delete
   split at A
   ·rename_i x k t r G htys;have ha:args=#[x,k]:=by rw [<-Ap];exact G
    have ht:argTypes[0]?=some t:=by rw [<-Bw,htys];rfl
    subst ha;split at A
    ·rename_i kt et M;split at A
     ·rename_i sh ag F H;split at A
      ·rename_i x' k' h4 h5;injection A with A;subst A;simp only [Ja] at B;split at B
       ·rename_i hh hst;injection B with B;simp only [Aa] at B;obtain ⟨rfl,rfl⟩:=B;obtain ⟨w',J,L⟩:=Jt4 (P:=P) (ty:=o.type) hs.hp ht M F H (Jx hs h4) (Jx hs h5) hst;exact CG (cv:=.tuple #[]) (w':=w') (by simp [execOp,E,resolve,invoke,builtin,J]) (K _ _ L)
       ·cases B
      ·cases A
     ·cases A
    ·cases A
   ·cases A
  ·-- copy
   split at A
   ·rename_i x y t ts G htys;have ha:args=#[x,y]:=by rw [<-Ap];exact G
    subst ha;have hts:argTypes[0]?=some t:=by rw [<-Bw,htys];rfl
    split at A
    ·rename_i e x' y' M h4 h5;split at A
     ·rename_i n hn;injection A with A;subst A;simp only [Ja] at B;obtain ⟨cv,w',J,L⟩:=J6o (P:=P) (ty:=o.type) hs.hp hts M hn (Jx hs h4) (Jx hs h5) B;exact CG (cv:=cv) (w':=w') (by simp [execOp,E,resolve,invoke,builtin,J]) (K _ _ L)
     ·cases A
    ·cases A
   ·cases A
  ·-- max
   split at A
   ·rename_i x y G;have ha:args=#[x,y]:=by rw [<-Ap];exact G
    subst ha;split at A
    ·rename_i x' y' F H;injection A with A;subst A;simp only [Ja] at B;split at B
     ·rename_i k1 n1 k2 n2 hx hy;injection B with B;simp only [Aa] at B;obtain ⟨rfl,rfl⟩:=B;have hx':=Jx hs F;have Z:=Jx hs H;rw [hx] at hx';rw [hy] at Z;refine CG (cv:=.int k1 (if n2 > n1 then n2 else n1)) (w':=w) (by simp [execOp,E,resolve,invoke,builtin,hx'.BI,Z.BI,Builtin.max_,Builtin.max2]) (K _ _ (Ran.same hs.hp ?_));simp only [zK,if_true];exact .pure (.int _ _)
     ·cases B
    ·cases A
   ·cases A
  ·-- min
   split at A
   ·rename_i x y G;have ha:args=#[x,y]:=by rw [<-Ap];exact G
    subst ha;split at A
    ·rename_i x' y' F H;injection A with A;subst A;simp only [Ja] at B;split at B
     ·rename_i k1 n1 k2 n2 hx hy;injection B with B;simp only [Aa] at B;obtain ⟨rfl,rfl⟩:=B;have hx':=Jx hs F;have Z:=Jx hs H;rw [hx] at hx';rw [hy] at Z;refine CG (cv:=.int k1 (if n2<n1 then n2 else n1)) (w':=w) (by simp [execOp,E,resolve,invoke,builtin,hx'.BI,Z.BI,Builtin.min_,Builtin.min2]) (K _ _ (Ran.same hs.hp ?_));simp only [zK,Aq,if_false];exact .pure (.int _ _)
     ·cases B
    ·cases A
   ·cases A
  ·-- a call
   rename_i f;split at A
   ·rename_i l hl;injection A with A;obtain ⟨J,L⟩:=iP hs hl;have enter:DT P f->(execOp a.eval o).run P w=.ok (.enter f (args.map a.eval)) w:=λhf=>by simp [execOp,E,resolve,Act.eval,Deferred.ofValue,invoke,Xp hf]
    split at A
    ·subst A;simp only [Ja] at B;split at B
     ·rename_i vs ns hsn;split at B
      ·rename_i u h0 hv;split at B
       ·rename_i O;injection B with B;simp only [Aa] at B;obtain ⟨rfl,rfl⟩:=B;exact EC (enter (R.fn _ _ _ _ hv)) (Jz7 R hs.hp hsn hv J L) λe w' ⟨cv,B,hr,_⟩=>⟨cv,B,K _ _ (hr O)⟩
       ·cases B
      ·cases B
     ·cases B
    ·subst A;simp only [Ja] at B;split at B
     ·rename_i vs ns hsn;split at B
      ·rename_i u h0 hv;injection B with B;simp only [Aa] at B;obtain ⟨rfl,rfl⟩:=B;exact EC (enter (R.fn _ _ _ _ hv)) (Jz7 R hs.hp hsn hv J L) λe w' ⟨cv,B,_,hr⟩=>⟨cv,B,K _ _ hr⟩
      ·cases B
     ·cases B
    ·subst A;simp only [Ja] at B;obtain ⟨c1,c2⟩:=fU R hs.hp B J L;exact EC (enter c1) c2 λe w' ⟨cv,B,hr⟩=>⟨cv,B,K _ _ hr⟩
   ·cases A
  ·-- a call of a value
   rename_i x;obtain ⟨l,hl,rfl⟩:=zi A;simp only [Ja] at B;split at B
   ·rename_i f caps vs ns hsn;split at B
    ·rename_i u h0 hv;split at B
     ·rename_i O;injection B with B;simp only [Aa] at B;obtain ⟨rfl,rfl⟩:=B;have hx:=hs.fr x;obtain ⟨J,L⟩:=iP hs hl;have hsn':=hsn;unfold KO at hsn';split at hsn'
      ·rename_i ps hps;injection hsn' with hsn';simp only [Aa] at hsn';obtain ⟨N,e2⟩:=hsn';obtain ⟨m1,m2⟩:=Tk hps;obtain ⟨p,hp1,hp2⟩:=m2 0 (σ.ev (.t x)) rfl;have hp0:p.1=.fn f caps:=by
        have:(ps.map (·.1))[0]?=some p.1:=by simp [Az,hp1]
        rw [N] at this;simpa using this.symm
       have hfn:∃cs:Array Value,a.tmps.getD x undef=.func (.func f) #[] cs:=by obtain ⟨l',hl'⟩:=J1y (k:=depth) (v:=σ.f x) (f:=f) (caps:=caps) (ns:=p.2) (h:=σ.h) (by rw [<-hp0];exact hp2);rw [hl'] at hx;obtain ⟨cs,e,_⟩:=hx.FU;exact ⟨cs,e⟩
       obtain ⟨cs,hcs⟩:=hfn;obtain ⟨f1,f2,f3⟩:=vg hs.hp (wS hsn);obtain ⟨n1,n2⟩:=Jmg hs.hp (S':=λb=>S b\/MW σ.h μ ns b) (λb hb=>.inl hb) hsn (λg hg o ho hl=>.inr ⟨g,hg,o,ho,hl,rfl⟩);have hcap:BD w (λb=>S b\/MW σ.h μ ns b) (.fn f caps) (.func (.func f) #[] cs):=by obtain ⟨x0,hx0,hxr⟩:=n2 0 (.fn f caps) rfl;simp at hx0;subst hx0;refine hxr _ ?_;have:=hs.fr x;rw [hcs] at this;exact this
       have G:∀i y,(vs++caps)[i]?=some y->BD w (λb=>S b\/MW σ.h μ ns b) y ((args.map a.eval++cs).getD i undef):=by
        intro i y hi;have hvl:vs.length=(args.map a.eval).size:=by simp at n1;rw [J];simp;omega
        by_cases hlt:i<vs.length
        ·rw [Bf hlt] at hi;obtain ⟨x0,hx0,hxr⟩:=n2 (i+1) y (by simpa using hi);have e:(args.map a.eval++cs).getD i undef=(args.map a.eval).getD i undef:=by simp only [Am];rw [Array.getElem?_append_left (by omega)]
         rw [e];exact hxr _ (L i x0 (by simpa using hx0))
        ·rw [Bt (by omega)] at hi;have e:(args.map a.eval++cs).getD i undef=cs.getD (i - vs.length) undef:=by simp only [Am];rw [Array.getElem?_append_right (by omega),hvl]
         rw [e];cases hcap with
         | fn _ _ _ hl hr=>exact hr _ y hi
       have hcl:caps.length=cs.size:=by cases hcap with|fn _ _ _ hl hr=>exact hl
       have hrun:(execOp a.eval o).run P w=.ok (.enter f (args.map a.eval++cs)) w:=by have hev:a.eval (.tmp x)=.func (.func f) #[] cs:=hcs;simp [execOp,E,resolve,hev,Deferred.ofValue,invoke,Xp (R.fn _ _ _ _ hv)]
       refine EC hrun (R.pure f (vs++caps) u h0 hv w _ _ f1.lt (by simp;simp at n1;rw [n1];simp at J;omega) G) λe w' ⟨cv,B,hr,ho⟩=>⟨cv,B,K _ _ ?_⟩;rcases O with O|O
       ·subst O;refine iI hs.hp ho (hr.mono (λb hb=>?_) (λ_ _=>rfl));rcases hb with (hb|⟨g,hg,_⟩)|hb
        ·exact .inl hb
        ·cases hg
        ·exact .inr hb
       ·exact iI hs.hp ho (hr.F6 O)
      ·cases hsn'
     ·cases B
    ·cases B
   ·cases B
  ·cases A
end
section
variable {ro:Option Nat} {P:Program} {w:World} {S:Nat->Prop} {σ:St} {μ:Gh} {a:Act} {nt:Nat}
def Nk:Value->Option Bool
 | .bool b=>some b
 | _=>none
theorem wF{ops:Array Oper}{j d:Nat}(hs:DR nt w S σ μ a)(h:(ops[j]?).bind (·.dst)=some d)(hd:d<nt){v:Value}(g:a.tmps.getD d undef=v):yielded ops a.tmps j=Nk v:=by
 unfold yielded;rw [h];have f:d<a.tmps.size:=by have:=hs.sz;omega
 have:a.tmps[d]?=some v:=by rw [<-g];exact getD_some f
 simp only [Be,this];cases v<;>rfl
theorem uL{call:Call}{cm:List (Nat×CM)}{ops:Array Oper}{o:Oper}{lo:AX}{base:Nat}{σ':St}{K:Act->World->Prop}{Q:Exit->Act->World->Prop}(r:Lm P call)(hs:DR nt w S σ μ a)
  (g:comp P cm nt ops o=some lo) (f:Ih call base lo σ=some σ')
  (hK:∀a' w' S' μ',a'.defers=a.defers->DR nt w' S' σ' μ' a'->Ci w S σ.h μ w' S' σ'.h μ'->Cj σ.h μ σ'.h μ'->K a' w') :
  if Region.wanted o (yielded ops a.tmps)=true then IW ro P o a w K Q else K (a.put o.dst undef) w:=by
 unfold comp at g;split at g
 ·cases g
 ·rename_i lop B;split at g
  ·rename_i hd;have run:∀ {g0 v h},Ja call base σ g0 lop=some (v,h)->σ'=σ.put o.dst v h->IW ro P o a w K Q:=by
    rintro g0 v h l rfl;refine nK r hs B l λcv w' ⟨S',μ',O,N,J,H⟩=>hK _ _ S' μ' (by cases o.dst<;>rfl) (Jsa hs hd O N J H) ?_ ?_
    ·cases o.dst<;>exact J
    ·cases o.dst<;>exact H
   have skip:σ'=σ.put o.dst (.Cn []) σ.h->K (a.put o.dst undef) w:=by
    rintro rfl;refine hK _ _ S μ (by cases o.dst<;>rfl) (Jsa hs hd (.Cn [] #[] rfl (λi x hi=>by simp at hi)) hs.hp .refl (.refl _ _)) ?_ ?_
    ·cases o.dst<;>exact .refl
    ·cases o.dst<;>exact .refl _ _
   split at g
   ·rename_i E;injection g with g;subst g;rw [if_pos (by simp [Region.wanted,E])];simp only [Ih] at f;split at f
    ·rename_i v h l;injection f with f;exact run l f.symm
    ·cases f
   ·rename_i j want E;split at g
    ·rename_i d M;split at g
     ·rename_i A;injection g with g;subst g;simp only [Ih] at f;have m:=hs.fr d;split at f
      ·rename_i b G;rw [G] at m;have F:=wF hs M A m.Ch;have L:Region.wanted o (yielded ops a.tmps)=(b==want):=by simp [Region.wanted,E,F,Nk]
       split at f
       ·rename_i y;rw [if_pos (by rw [L];simpa using y)];split at f
        ·rename_i v h l;injection f with f;exact run l f.symm
        ·cases f
       ·rename_i y;rw [if_neg (by rw [L];simpa using y)];injection f with f;exact skip f.symm
      ·rename_i G;rw [G] at m;have F:=wF hs M A m.JX;rw [if_neg (by simp [Region.wanted,E,F,Nk])];injection f with f;exact skip f.symm
      ·cases f
     ·cases g
    ·cases g
  ·cases g
theorem Jua{cm:List (Nat×CM)}{ops:Array Oper}{o:Oper}{lo:AX}(a:comp P cm nt ops o=some lo):∀c,o.op≠.defer c:=by intro c h;unfold comp at a;rw [h] at a;simp [JI] at a
end
def LO.tmp?:LO->List Nat
 | .t n=>[n]
 | .c _=>[]
def CQ.looks:CQ->List Nat
 | .alloc _|.IK .. | .dV ..=>[]
 | .dS x|.Ms _ x|.box x|.load _ _ x|.un _ x|.conv _ x|.Ep x|.Et _ x|.jZ _ _ _ x|.ext x _|.len x|.Fh x|.Ia x|.Er _ x|.LU _ _ x=>x.tmp?
 | .pick c a b=>c.tmp?++a.tmp?++b.tmp?
 | .build _ ps|.EX _ _ _ _ ps=>ps.flatMap λp=>p.2.2.tmp?
 | .store _ x y|.KJ _ x y|.eqv _ _ _ x y|.mkS _ _ _ _ x y|.Es _ x y|.EO _ _ x y|.idx _ _ _ x y|.app _ _ _ _ x y|.KM _ _ _ _ _ x y|.LP _ _ x y|.look _ _ _ _ x y|.Mt _ _ x y|.bZ _ x y|.mm _ x y|.kD _ x y=>x.tmp?++y.tmp?
 | .LV _ _ x k v=>x.tmp?++k.tmp?++v.tmp?
 | .Lb _ l|.Cz _ l|.Eu _ l|.FN _ l=>l.flatMap LO.tmp?
 | .Fp x l=>x.tmp?++l.flatMap LO.tmp?
 | .slc _ x lo hi=>x.tmp?++(lo.map LO.tmp?).getD []++(hi.map LO.tmp?).getD []
 | .F7 _ op=>op.looks
def AX.looks(o:AX):List Nat:=o.op.looks++(o.guard.map λg=>[g.1]).getD []
def CQ.still:CQ->Bool
 | .load .. | .Ep _|.slc .. | .Et .. | .Es .. | .EO .. | .len _|.Er .. | .LU .. | .Cz _ []=>true
 | _=>false
def CQ.GU:CQ->Bool
 | .Eu ..=>true
 | _=>false
def CQ.ld:CQ->Bool
 | .load ..=>true
 | _=>false
def CQ.gD:CQ->Bool
 | .app ..=>true
 | .KM ..=>true
 | _=>false
def CQ.dJ:CQ->Option (List Nat)
 | .KM ds _ _ _ _ _ _=>some ds
 | .LP ds _ _ _=>some ds
 | _=>none
def CQ.past(i j:CQ):Bool:=
 match i,j.dJ with
 | .F7 ds _,some ds'=>ds'.all λd=>ds.contains d
 | _,_=>false
def CQ.nN(j:CQ)(d:Option Nat):Bool:=
 match j,d with
 | .F7 ds _,some x=>ds.contains x
 | _,_=>false
def ZY(i j:AX):Bool:=
 (match i.dst with|some d=>!j.looks.contains d&&j.dst != some d|none=>true) &&
 (match j.dst with|some d=>!i.looks.contains d|none=>true) &&
 (i.op.cls==0 || j.op.cls==0 || (i.op.cls==1&&(j.op.cls==1 || j.op.cls==2)) || (i.op.cls==2&&j.op.cls==2) || (i.op.still&&j.op.GU) || i.op.past j.op || (i.op.GU&&j.op.cls==2) || (i.op.gD&&i.dst.isSome&&j.op.cls==2) || (i.op.cls==2&&j.op.nN i.dst) || j.op.past i.op || (i.op.GU&&j.op.ld)) &&
 (i.op.cls != 2 || i.dst.isSome)&&(j.op.cls != 2 || j.dst.isSome)
theorem Ls{σ σ':St}{x:LO}(h:∀n∈x.tmp?,σ.f n=σ'.f n):σ.ev x=σ'.ev x:=by
 cases x with
 | t n=>exact h n (by simp [LO.tmp?])
 | c v=>rfl
theorem rR{σ σ':St}{l:List LO}(h:∀n∈l.flatMap LO.tmp?,σ.f n=σ'.f n):l.map σ.ev=l.map σ'.ev:=
 List.map_congr_left λx hx=>Ls λn a=>h n (Au.2 ⟨x,hx,a⟩)
theorem Jma{σ σ':St}:∀ {ps:List (Nat×Nat×LO)} {z:List AV},(∀n∈ps.flatMap (λp=>p.2.2.tmp?),σ.f n=σ'.f n)->M9 σ.ev z ps=M9 σ'.ev z ps
 | [],z,_=>rfl
 | (off,n,x)::r,z,h=>by
  simp only [M9];rw [Ls (x:=x) (σ':=σ') λm a=>h m (by simp [a])];split
  ·split
   ·exact Jma λm a=>h m (by simp only [List.flatMap_cons,Ag];exact .inr a)
   ·rfl
  ·rfl
theorem Jxa{call:Call}{base g0:Nat}{σ σ':St}{op:CQ}(d:∀ds o,op≠.F7 ds o)(g:σ.h=σ'.h)(h:∀n∈op.looks,σ.f n=σ'.f n):Ja call base σ g0 op=Ja call base σ' g0 op:=by
 cases op<;>(try (exact (d _ _ rfl).elim))<;>simp only [CQ.looks,Ag] at h<;>simp only [Ja,g]
 case slc e x lo hi=>
  rw [Ls (x:=x) λn a=>h n (.inl (.inl a))];have r:lo.map σ.ev=lo.map σ'.ev:=by
   cases lo with
   | none=>rfl
   | some y=>simp only [Ay];rw [Ls λn a=>h n (.inl (.inr (by simpa using a)))]
  have m:hi.map σ.ev=hi.map σ'.ev:=by
   cases hi with
   | none=>rfl
   | some y=>simp only [Ay];rw [Ls λn a=>h n (.inr (by simpa using a))]
  rw [r,m]
 case pick c x y=>rw [Ls (x:=c) λn a=>h n (.inl (.inl a)),Ls (x:=x) λn a=>h n (.inl (.inr a)),Ls (x:=y) λn a=>h n (.inr a)]
 case LV ag sh x k v=>rw [Ls (x:=x) λn a=>h n (.inl (.inl a)),Ls (x:=k) λn a=>h n (.inl (.inr a)),Ls (x:=v) λn a=>h n (.inr a)]
 case build z ps=>rw [Jma h]
 case EX n e t z ps=>rw [Jma h]
 case Lb f l=>rw [rR h]
 case Cz f l=>rw [rR h]
 case Eu f l=>rw [rR h]
 case FN f l=>rw [rR h]
 case Fp x l=>rw [Ls (x:=x) λn a=>h n (.inl a),rR λn a=>h n (.inr a)]
 all_goals first
  | rw [Ls h]
  | (rename_i x y;rw [Ls (x:=x) λn a=>h n (.inl a),Ls (x:=y) λn a=>h n (.inr a)])
theorem Jzf{call:Call}{base g0:Nat}{op:CQ}:∀ {σ σ':St},σ.h=σ'.h->(∀n∈op.looks,σ.f n=σ'.f n)->Ja call base σ g0 op=Ja call base σ' g0 op:=by
 induction op with
 | F7 ds op d=>
  intro σ σ' a h;simp only [Ja,a];rw [d (σ:=⟨σ.f,X3 base ds σ'.h⟩) (σ':=⟨σ'.f,X3 base ds σ'.h⟩) rfl h]
 | _=>exact λa h=>Jxa (by rintro _ _ ⟨⟩) a h
def EH(call:Call)(base:Nat)(o:AX)(f:Nat->AV)(h:Heap):Option (AV×Heap):=
 match o.guard with
 | none=>Ja call base ⟨f,h⟩ (base+o.dst.getD 0) o.op
 | some (g,want)=>
  match f g with
  | .bool b=>if b=want then Ja call base ⟨f,h⟩ (base+o.dst.getD 0) o.op else some (.Cn [],h)
  | .Cn []=>some (.Cn [],h)
  | _=>none
theorem Jue(call:Call)(base:Nat)(o:AX)(σ:St):Ih call base o σ=(EH call base o σ.f σ.h).map λr=>σ.put o.dst r.1 r.2:=by
 unfold Ih EH;cases d:o.guard with
 | none=>
  simp only;cases Ja call base σ (base+o.dst.getD 0) o.op<;>rfl
 | some g=>
  obtain ⟨g,want⟩:=g;simp only;cases f:σ.f g with
  | bool b=>
   simp only;by_cases a:b=want
   ·rw [if_pos a,if_pos a];cases Ja call base σ (base+o.dst.getD 0) o.op<;>rfl
   ·rw [if_neg a,if_neg a];rfl
  | Cn l=>cases l<;>rfl
  | _=>rfl
theorem J0b{call:Call}{base:Nat}{o:AX}{f f':Nat->AV}{h:Heap}(hl:∀n∈o.looks,f n=f' n):EH call base o f h=EH call base o f' h:=by
 unfold EH;have a:Ja call base ⟨f,h⟩ (base+o.dst.getD 0) o.op=Ja call base ⟨f',h⟩ (base+o.dst.getD 0) o.op:=Jzf rfl λn d=>hl n (by simp [AX.looks,d]);split
 ·exact a
 ·rename_i g want l;rw [hl g (by simp [AX.looks,l]),a]
theorem J9h{call:Call}{base g0:Nat}{op:CQ}(g:op.cls=0){f:Nat->AV}{h d:Heap}{v:AV}(a:Ja call base ⟨f,h⟩ g0 op=some (v,d)):d=h/\∀h',Ja call base ⟨f,h'⟩ g0 op=some (v,h'):=by
 have ev:∀x h h',(St.mk f h).ev x=(St.mk f h').ev x:=λx h h'=>by cases x<;>rfl
 have evf:∀h h',(St.mk f h).ev=(St.mk f h').ev:=λh h'=>funext λx=>ev x h h';cases op<;>simp [CQ.cls] at g
 all_goals
  simp only [Ja] at a ⊢;refine ⟨?_,λh'=>?_⟩
  all_goals try rw [evf h' h]
  all_goals (repeat' split at a)<;>first|(cases a;done)|(injection a with a;simp only [Aa] at a;obtain ⟨rfl,rfl⟩:=a;first|rfl|simp_all)
theorem Nb{h:Heap}{g d:Nat}{ob o:AZ}(f:h g=none)(a:h d=some o):upd h g (some ob) d=some o:=by
 rw [Je]
 ·exact a
 ·rintro rfl;rw [f] at a;cases a
theorem J2g{h:Heap}{g:Nat}{ob:AZ}(d:h g=none){x:AV}{r:List AV×Nat}(hd:JK h x=some r):JK (upd h g (some ob)) x=some r:=by
 unfold JK at hd ⊢;split at hd
 ·exact hd
 ·split at hd
  ·rename_i f c a;rw [Nb d a];exact hd
  ·rename_i f e t c z a;rw [Nb d a];exact hd
  ·cases hd
 ·cases hd
theorem Jv2{h:Heap}{g a ver:Nat}{ob:AZ}(f:h g=none)(hd:cur h a ver=true):cur (upd h g (some ob)) a ver=true:=by obtain ⟨o,d,e⟩:=uR hd;simp [cur,Nb f d,e]
theorem Jyx{h:Heap}{g a ver esz:Nat}{ob:AZ}(f:h g=none)(hd:Ee h a ver esz=true):Ee (upd h g (some ob)) a ver esz=true:=by obtain ⟨el,c,z,d⟩:=Jwl hd;simp [Ee,Nb f d]
theorem Jl9{h:Heap}{g a ver:Nat}{ob:AZ}(f:h g=none)(hd:GX h a ver=true):GX (upd h g (some ob)) a ver=true:=by obtain ⟨e,el,c,z,d⟩:=Jo1 hd;simp [GX,Nb f d]
theorem J0m{h:Heap}{g a ver:Nat}{ob:AZ}{es:List (AV×AV)}(d:h g=none)(hd:GD h a ver=some es):GD (upd h g (some ob)) a ver=some es:=by simp [GD,Nb d (J28 hd)]
theorem Zr{α β:Type}{f f':α->Option β}:∀ {l:List α} {r:List β},(∀x y,f x=some y->f' x=some y)->l.mapM f=some r->l.mapM f'=some r
 | [],r,_,h=>by simpa using h
 | x::l,r,a,h=>by
  rw [List.mapM_cons] at h ⊢;cases hx:f x with
  | none=>rw [hx] at h;cases h
  | some y=>
   cases hl:l.mapM f with
   | none=>rw [hx,hl] at h;cases h
   | some q=>rw [hx,hl] at h;rw [a x y hx,Zr a hl];exact h
theorem vY{h:Heap}{g:Nat}{ob:AZ}(o:h g=none):∀(k:Nat) (x:AV) (r:AV×List Nat),snap h k x=some r->snap (upd h g (some ob)) k x=some r
 | 0,x,r,hs=>by simp [snap] at hs
 | k+1,x,r,hs=>by
  have m:=vY o (ob:=ob) k;cases x<;>(try simp only [snap] at hs ⊢)<;>try (exact hs)
  case arr A ver off len=>
   split at hs
   ·rename_i y e t c z v;rw [Nb o v];simp only;split at hs
    ·rename_i w;rw [if_pos w];split at hs
     ·rename_i d;rw [if_pos d];exact hs
     ·rename_i d;rw [if_neg d];split at hs
      ·rename_i ps a;rw [Zr m a];exact hs
      ·cases hs
    ·cases hs
   ·cases hs
  case fn f caps=>
   split at hs
   ·rename_i ps a;rw [Zr m a];exact hs
   ·cases hs
  case agg l=>
   split at hs
   ·rename_i d;rw [if_pos d];exact hs
   ·rename_i d;rw [if_neg d];split at hs
    ·rename_i ps a;rw [Zr m a];exact hs
    ·cases hs
  case Cn l=>
   split at hs
   ·rename_i ps a;rw [Zr m a];exact hs
   ·cases hs
theorem Jou{h:Heap}{g:Nat}{ob:AZ}(d:h g=none){l:List AV}{r:List AV×List Nat}(hs:KO h l=some r):KO (upd h g (some ob)) l=some r:=by
 unfold KO at hs ⊢;split at hs
 ·rename_i ps a;rw [Zr (vY d depth) a];exact hs
 ·cases hs
theorem Juu{h:Heap}{g:Nat}{ob:AZ}(f:h g=none){x:AV}{r:AV×List Nat}(hs:XW h x=some r):XW (upd h g (some ob)) x=some r:=by
 unfold XW at hs ⊢;split at hs
 ·rename_i v ver off;cases d:h v with
  | none=>rw [d] at hs;cases hs
  | some o=>
   rw [d] at hs;rw [Nb f d];unfold KE at hs ⊢;split at hs
   ·split at hs
    ·rename_i m;simp only [if_pos m];split at hs
     ·rename_i l;rw [if_pos l];exact hs
     ·rename_i l;rw [if_neg l];unfold sO at hs ⊢;split at hs
      ·rename_i ps a;rw [Zr (vY f depth) a];exact hs
      ·cases hs
    ·cases hs
   ·cases hs
 ·exact vY f depth _ r hs
theorem Jup{h:Heap}{g:Nat}{ob:AZ}(a:h g=none):∀ {l:List AV} {r:List AV×List Nat},YD h l=some r->YD (upd h g (some ob)) l=some r
 | [],r,hs=>hs
 | x::l,r,hs=>by
  simp only [YD] at hs ⊢;unfold YB at hs;split at hs
  ·rename_i u o us m f d;rw [Juu a f,Jup a d];exact hs
  ·cases hs
theorem J95{h:Heap}{g:Nat}{ob:AZ}(a:h g=none){x:AV}{r:AV×List Nat}(hs:Ho h x=some r):Ho (upd h g (some ob)) x=some r:=by
 unfold Ho at hs ⊢;split at hs
 ·unfold tN at hs;split at hs
  ·rename_i us ms d;rw [Jup a d];exact hs
  ·cases hs
 ·exact Juu a hs
theorem Jtv{h:Heap}{g:Nat}{ob:AZ}(a:h g=none):∀ {l:List AV} {r:List AV×List Nat},Sl h l=some r->Sl (upd h g (some ob)) l=some r
 | [],r,hs=>hs
 | x::l,r,hs=>by
  simp only [Sl] at hs ⊢;unfold YB at hs;split at hs
  ·rename_i u o us m f d;rw [J95 a f,Jtv a d];exact hs
  ·cases hs
theorem R6{call:Call}{base g0:Nat}{op:CQ}(R:∀ds o,op≠.F7 ds o)(A:op.cls=1){f:Nat->AV}{h N:Heap}{v:AV}(a:Ja call base ⟨f,h⟩ g0 op=some (v,N)) :
  N=h/\∀g ob,h g=none->Ja call base ⟨f,upd h g (some ob)⟩ g0 op=some (v,upd h g (some ob)):=by
 have evf:∀h h',(St.mk f h).ev=(St.mk f h').ev:=λh h'=>funext λx=>by cases x<;>rfl
 cases op<;>simp [CQ.cls] at A
 case F7 ds o=>exact (R ds o rfl).elim
 case load ag n x=>
  simp only [Ja] at a ⊢;obtain ⟨d,E⟩:=hOut a;subst E;refine ⟨rfl,λg ob m=>?_⟩;have:IQ (upd h g (some ob)) ag n ((St.mk f (upd h g (some ob))).ev x)=some v:=by
   rw [evf _ h];unfold IQ at d ⊢;split at d
   ·rename_i l off hd;rw [J2g m hd];exact d
   ·cases d
  rw [this]
 case Ep x=>
  simp only [Ja] at a ⊢;split at a
  ·rename_i P ver off hx;split at a
   ·rename_i H;injection a with a;simp only [Aa] at a;obtain ⟨rfl,rfl⟩:=a;refine ⟨rfl,λg ob m=>?_⟩;rw [evf _ h,hx];simp only;rw [if_pos (Jv2 m H)]
   ·cases a
  ·rename_i l hx;injection a with a;simp only [Aa] at a;obtain ⟨rfl,rfl⟩:=a;exact ⟨rfl,λg ob m=>by rw [evf _ h,hx]⟩
  ·rename_i f' l hx;injection a with a;simp only [Aa] at a;obtain ⟨rfl,rfl⟩:=a;exact ⟨rfl,λg ob m=>by rw [evf _ h,hx]⟩
  ·rename_i f' l hx;injection a with a;simp only [Aa] at a;obtain ⟨rfl,rfl⟩:=a;exact ⟨rfl,λg ob m=>by rw [evf _ h,hx]⟩
  ·cases a
 case slc e x lo hi=>
  simp only [Ja] at a ⊢;obtain ⟨d,E⟩:=hOut a;subst E;refine ⟨rfl,λg ob m=>?_⟩;have:Ij (upd h g (some ob)) e ((St.mk f (upd h g (some ob))).ev x) (lo.map (St.mk f (upd h g (some ob))).ev) (hi.map (St.mk f (upd h g (some ob))).ev)=some v:=by
   rw [evf _ h];unfold Ij at d ⊢;split at d
   ·exact d
   ·split at d
    ·split at d
     ·rename_i M;obtain ⟨c1,Z,Y,X⟩:=M;rw [if_pos ⟨c1,Z,Y,Jyx m X⟩];exact d
     ·cases d
    ·cases d
   ·exact d
   ·cases d
  rw [this]
 case Et off x=>
  simp only [Ja] at a ⊢;obtain ⟨d,E⟩:=hOut a;subst E;refine ⟨rfl,λg ob m=>?_⟩;have:LD (upd h g (some ob)) off ((St.mk f (upd h g (some ob))).ev x)=some v:=by
   rw [evf _ h];unfold LD at d ⊢;split at d
   ·split at d
    ·rename_i A;rw [if_pos (Jv2 m A)];exact d
    ·cases d
   ·exact d
   ·cases d
  rw [this]
 case Es e x i=>
  simp only [Ja] at a ⊢;obtain ⟨d,E⟩:=hOut a;subst E;refine ⟨rfl,λg ob m=>?_⟩;have:JU (upd h g (some ob)) e ((St.mk f (upd h g (some ob))).ev x) ((St.mk f (upd h g (some ob))).ev i)=some v:=by
   rw [evf _ h];unfold JU at d ⊢;split at d
   ·exact d
   ·split at d
    ·rename_i A;rw [if_pos ⟨A.1,A.2.1,Jyx m A.2.2⟩];exact d
    ·cases d
   ·cases d
  rw [this]
 case EO n e x i=>
  simp only [Ja] at a ⊢;obtain ⟨d,E⟩:=hOut a;subst E;refine ⟨rfl,λg ob m=>?_⟩;have:YK (upd h g (some ob)) n e ((St.mk f (upd h g (some ob))).ev x) ((St.mk f (upd h g (some ob))).ev i)=some v:=by
   rw [evf _ h];unfold YK at d ⊢;split at d
   ·split at d
    ·rename_i A;rw [if_pos ⟨A.1,A.2.1,Jv2 m A.2.2⟩];exact d
    ·cases d
   ·exact d
   ·cases d
  rw [this]
 case len x=>
  simp only [Ja] at a ⊢;split at a
  ·rename_i n r;injection a with a;simp only [Aa] at a;obtain ⟨rfl,rfl⟩:=a;refine ⟨rfl,λg ob m=>?_⟩;have:C9 (upd h g (some ob)) ((St.mk f (upd h g (some ob))).ev x)=some n:=by
    rw [evf _ h];unfold C9 at r ⊢;split at r
    ·exact r
    ·exact r
    ·split at r
     ·rename_i A;rw [if_pos (Jl9 m A)];exact r
     ·cases r
    ·cases r
   rw [this]
  ·cases a
 case Fh x=>
  simp only [Ja] at a ⊢;split at a
  ·rename_i n r;injection a with a;simp only [Aa] at a;obtain ⟨rfl,rfl⟩:=a;refine ⟨rfl,λg ob m=>?_⟩;have:Fh (upd h g (some ob)) ((St.mk f (upd h g (some ob))).ev x)=some n:=by
    rw [evf _ h];unfold Fh at r ⊢;split at r
    ·exact r
    ·exact r
    ·split at r
     ·rename_i es A;rw [J0m m A];exact r
     ·cases r
    ·cases r
   rw [this]
  ·cases a
 case Er ne x=>
  simp only [Ja] at a ⊢;split at a
  ·rename_i n r;injection a with a;simp only [Aa] at a;obtain ⟨rfl,rfl⟩:=a;refine ⟨rfl,λg ob m=>?_⟩;have:YF (upd h g (some ob)) ((St.mk f (upd h g (some ob))).ev x)=some n:=by
    rw [evf _ h];unfold YF at r ⊢;split at r
    ·exact r
    ·exact r
    ·exact r
    ·split at r
     ·rename_i A;rw [if_pos ⟨Jl9 m A.1,A.2⟩];exact r
     ·cases r
    ·cases r
   rw [this]
  ·cases a
 case LU n e x=>
  simp only [Ja] at a ⊢;obtain ⟨d,E⟩:=hOut a;subst E;refine ⟨rfl,λg ob m=>?_⟩;have:ZX (upd h g (some ob)) n e ((St.mk f (upd h g (some ob))).ev x)=some v:=by
   rw [evf _ h];unfold ZX at d ⊢;split at d
   ·rename_i P ver hx;cases L:h P with
    | none=>rw [L] at d;cases d
    | some o=>rw [Nb m L];rw [L] at d;exact d
   ·cases d
  rw [this]
 case look ok ag sh z x k=>
  simp only [Ja] at a ⊢;obtain ⟨d,E⟩:=hOut a;subst E;refine ⟨rfl,λg ob m=>?_⟩;rw [evf _ h];have:∀y es,I8 h y=some es->I8 (upd h g (some ob)) y=some es:=λy es w=>by
   unfold I8 at w ⊢;split at w
   ·exact w
   ·exact w
   ·exact J0m m w
   ·cases w
  cases w:I8 h ((St.mk f h).ev x) with
  | none=>rw [w] at d;cases d
  | some es=>rw [this _ es w,<-w,d]
 case FN f' l=>
  simp only [Ja] at a ⊢;unfold Mv at a;split at a
  ·rename_i vs ns Q;unfold Oc at a;split at a
   ·rename_i u O G;split at a
    ·rename_i K;injection a with a;simp only [Aa] at a;obtain ⟨rfl,rfl⟩:=a;refine ⟨rfl,λg ob m=>?_⟩;rw [evf _ h,Jtv m Q];simp only [Mv,Oc,G];rw [if_pos K]
    ·cases a
   ·cases a
  ·cases a
 case Cz f' l=>
  simp only [Ja] at a ⊢;split at a
  ·rename_i vs ns F;split at a
   ·rename_i u O J;split at a
    ·rename_i B;injection a with a;simp only [Aa] at a;obtain ⟨rfl,rfl⟩:=a;refine ⟨rfl,λg ob m=>?_⟩;rw [evf _ h,Jou m F];simp only [J];rw [if_pos B]
    ·cases a
   ·cases a
  ·cases a
 case Fp x l=>
  simp only [Ja] at a ⊢;split at a
  ·rename_i f' caps vs ns F;split at a
   ·rename_i u O J;split at a
    ·rename_i B;injection a with a;simp only [Aa] at a;obtain ⟨rfl,rfl⟩:=a;refine ⟨rfl,λg ob m=>?_⟩;rw [evf _ h,Jou m F];simp only [J];rw [if_pos B]
    ·cases a
   ·cases a
  ·cases a
theorem xH{base g:Nat}{ds:List Nat}{h:Heap}{o:Option AZ}(d:Ce base ds g=true):X3 base ds (upd h g o)=X3 base ds h:=by
 funext k;unfold X3 upd;by_cases a:Ce base ds k=true
 ·rw [if_pos a,if_pos a]
 ·rw [if_neg a,if_neg a,if_neg (by rintro rfl;exact a d)]
theorem Jw0{base g:Nat}{ds:List Nat}{h:Heap}{o:Option AZ}(f:¬Ce base ds g=true):X3 base ds (upd h g o)=upd (X3 base ds h) g o:=by
 funext k;by_cases a:Ce base ds k=true
 ·have d:k≠g:=by rintro rfl;exact f a
  rw [Je _ _ _ _ d];unfold X3;rw [if_pos a,if_pos a]
 ·simp only [X3,upd,a,if_false,Aq]
theorem qM{call:Call}{base g0:Nat}{op:CQ}:op.cls=1->∀ {f:Nat->AV} {h o:Heap} {v:AV},Ja call base ⟨f,h⟩ g0 op=some (v,o) ->
  o=h/\∀g ob,h g=none->Ja call base ⟨f,upd h g (some ob)⟩ g0 op=some (v,upd h g (some ob)):=by
 induction op with
 | F7 ds op w=>
  intro _ f h o v a;simp only [Ja] at a ⊢;split at a
  ·rename_i m;cases hr:Ja call base ⟨f,X3 base ds h⟩ g0 op with
   | none=>rw [hr] at a;cases a
   | some r=>
    obtain ⟨u,A⟩:=r;rw [hr] at a;injection a with a;simp only [Aa] at a;obtain ⟨rfl,rfl⟩:=a;obtain ⟨rfl,l⟩:=w m hr;refine ⟨rfl,λg ob y=>?_⟩;rw [if_pos m];by_cases d:Ce base ds g=true
    ·rw [xH d,hr];rfl
    ·rw [Jw0 d,l g ob (by unfold X3;split<;>first|rfl|exact y)];rfl
  ·cases a
 | _=>exact λm _ _ _ _ a=>R6 (by rintro _ _ ⟨⟩) m a
theorem Jr3{call:Call}{base g0:Nat}{op:CQ}(l:op.cls=1){f:Nat->AV}{h:Heap}{v:AV}:∀ {ds:List Nat} {m:Heap},Ja call base ⟨f,X3 base ds h⟩ g0 op=some (v,m)->Ja call base ⟨f,h⟩ g0 op=some (v,h)
 | [],m,a=>by
  have:X3 base [] h=h:=by funext k;rfl
  rw [this] at a;rw [a,(qM l a).1]
 | d::ds,m,a=>by
  have key:X3 base (d::ds) h=X3 base ds h\/∃ob,X3 base (d::ds) h (base+d)=none/\X3 base ds h=upd (X3 base (d::ds) h) (base+d) (some ob):=by
   cases o:X3 base ds h (base+d) with
   | none=>
    refine .inl (funext λk=>?_);by_cases g:k=base+d
    ·subst g;rw [o];unfold X3;rw [if_pos (by simp [Ce])]
    ·unfold X3;have:Ce base (d::ds) k=Ce base ds k:=by simp [Ce,List.any_cons];intro h';exact (g h'.symm).elim
     rw [this]
   | some ob=>
    refine .inr ⟨ob,by unfold X3;rw [if_pos (by simp [Ce])],funext λk=>?_⟩;by_cases g:k=base+d
    ·subst g;rw [o,Jj]
    ·rw [Je _ _ _ _ g];unfold X3;have:Ce base (d::ds) k=Ce base ds k:=by simp [Ce,List.any_cons];intro h';exact (g h'.symm).elim
     rw [this]
  rcases key with e|⟨ob,r,e⟩
  ·rw [e] at a;exact Jr3 l a
  ·have:=(qM l a).2 (base+d) ob r;rw [<-e] at this;exact Jr3 l this
theorem kH{call:Call}{base g0:Nat}{σ:St}{op:CQ}{ds:List Nat}{v:AV}{d:Heap}(a:Ja call base σ g0 (.F7 ds op)=some (v,d)):Ja call base σ g0 op=some (v,d):=by
 simp only [Ja] at a;split at a
 ·rename_i f;cases hr:Ja call base ⟨σ.f,X3 base ds σ.h⟩ g0 op with
  | none=>rw [hr] at a;cases a
  | some r=>
   obtain ⟨u,g⟩:=r;rw [hr] at a;injection a with a;simp only [Aa] at a;obtain ⟨rfl,rfl⟩:=a;exact Jr3 f hr
 ·cases a
theorem J7d{call:Call}{base g0:Nat}{σ:St}{ds ds':List Nat}{esz bytes:Nat}{el:TypeId}{zz:List AV}{x y:LO}{v:AV}{f:Heap}(hd:∀g,Ce base ds g=true->Ce base ds' g=true)
  (a:Ja call base σ g0 (.KM ds esz bytes el zz x y)=some (v,f)):X3 base ds' f=X3 base ds' σ.h:=by
 simp only [Ja,Mw] at a;split at a
 ·rename_i d;unfold EN at a;split at a
  ·split at a
   ·rename_i hx;rw [hx] at d
    (repeat' split at a)<;>first|(cases a;done)|(injection a with a;simp only [Aa] at a;obtain ⟨-,rfl⟩:=a;first|rfl|exact xH (hd _ d))
   ·rename_i hx;rw [hx] at d
    (repeat' split at a)<;>first|(cases a;done)|(injection a with a;simp only [Aa] at a;obtain ⟨-,rfl⟩:=a;first|rfl|exact xH (hd _ d))
   ·split at a
    ·injection a with a;simp only [Aa] at a;obtain ⟨-,rfl⟩:=a;rfl
    ·cases a
   ·cases a
  ·cases a
 ·cases a
theorem UG{call:Call}{base g0:Nat}{σ:St}{ds:List Nat}{n:Nat}{x y:LO}{v:AV}{d:Heap}(a:Ja call base σ g0 (.LP ds n x y)=some (v,d)) :
  Ja call base σ g0 (.store n x y)=some (v,d):=by
 simp only [Ja] at a ⊢;split at a
 ·exact a
 ·cases a
theorem Kbj{call:Call}{base g0:Nat}{σ:St}{ds ds':List Nat}{n:Nat}{x y:LO}{v:AV}{h:Heap}(hd:∀g,Ce base ds g=true->Ce base ds' g=true)
  (d:Ja call base σ g0 (.LP ds n x y)=some (v,h)):X3 base ds' h=X3 base ds' σ.h:=by
 simp only [Ja] at d;split at d
 ·rename_i f;split at d
  ·rename_i m a;injection d with d;simp only [Aa] at d;obtain ⟨-,rfl⟩:=d;unfold Sn at a;split at a
   ·rename_i g ver off c hx l;rw [hx] at f
    (repeat' split at a)<;>first|(cases a;done)|(injection a with a;subst a;exact xH (hd _ f))
   ·cases a
  ·cases d
 ·cases d
theorem uO{call:Call}{base g0:Nat}{σ:St}{op:CQ}{ds ds':List Nat}{v:AV}{f:Heap}(a:op.dJ=some ds)(hd:∀g,Ce base ds g=true->Ce base ds' g=true)
  (d:Ja call base σ g0 op=some (v,f)):X3 base ds' f=X3 base ds' σ.h:=by
 unfold CQ.dJ at a;split at a
 ·injection a with a;subst a;exact J7d hd d
 ·injection a with a;subst a;exact Kbj hd d
 ·cases a
theorem Wt{call:Call}{base g0:Nat}{op:CQ}(l:op.cls=2){f:Nat->AV}{h g:Heap}{v:AV}(m:h g0=none)(a:Ja call base ⟨f,h⟩ g0 op=some (v,g)) :
  ∃ob,g=upd h g0 (some ob)/\∀h',h' g0=none->Ja call base ⟨f,h'⟩ g0 op=some (v,upd h' g0 (some ob)):=by
 have evf:∀h h',(St.mk f h).ev=(St.mk f h').ev:=λh h'=>funext λx=>by cases x<;>rfl
 have nv:∀h',h' g0=none->Kg h' g0=0:=λh' d=>by simp [Kg,d]
 cases op<;>simp [CQ.cls] at l
 all_goals
  simp only [Ja,nv h m] at a
  (repeat' split at a)<;>first|(cases a;done)|skip
  all_goals
   injection a with a;simp only [Aa] at a;obtain ⟨rfl,rfl⟩:=a;refine ⟨_,rfl,λh' d=>?_⟩;simp only [Ja,nv h' d]
   try rw [evf h' h]
   try simp_all
theorem lC{op:CQ}(h:op.cls=2):op.CJ=true:=by cases op<;>simp [CQ.cls] at h<;>rfl
theorem PY{op:CQ}(h:op.CJ=true):op.cls=2:=by cases op<;>simp [CQ.CJ] at h<;>rfl
def TL(call:Call)(base:Nat)(o:AX)(f:Nat->AV)(h a:Heap)(v:AV):Prop:=
 (o.op.cls=0->a=h/\∀h',EH call base o f h'=some (v,h')) /\
  (o.op.cls=1->a=h/\∀g ob,h g=none->EH call base o f (upd h g (some ob))=some (v,upd h g (some ob))) /\
  (o.op.cls=2->(a=h/\∀h',EH call base o f h'=some (v,h')) \/
   ∃ob,a=upd h (base+o.dst.getD 0) (some ob)/\∀h',h' (base+o.dst.getD 0)=none->EH call base o f h'=some (v,upd h' (base+o.dst.getD 0) (some ob)))
theorem J74{call:Call}{base:Nat}{o:AX}{f:Nat->AV}{h A:Heap}{v:AV}(d:EH call base o f h=some (v,A))(B:o.op.CJ=true->h (base+o.dst.getD 0)=none):TL call base o f h A v:=by
 have main:Ja call base ⟨f,h⟩ (base+o.dst.getD 0) o.op=some (v,A)->(∀h' r,Ja call base ⟨f,h'⟩ (base+o.dst.getD 0) o.op=some r->EH call base o f h'=some r)->TL call base o f h A v:=λl a=>
  ⟨λm=>⟨(J9h m l).1,λh'=>a h' _ ((J9h m l).2 h')⟩,λm=>⟨(qM m l).1,λg ob w=>a _ _ ((qM m l).2 g ob w)⟩,λm=>by obtain ⟨ob,e,F⟩:=Wt m (B (lC m)) l;exact .inr ⟨ob,e,λh' G=>a _ _ (F h' G)⟩⟩
 have skip:A=h->(∀h',EH call base o f h'=some (v,h'))->TL call base o f h A v:=λe a=>
  ⟨λ_=>⟨e,a⟩,λ_=>⟨e,λg ob _=>a _⟩,λ_=>.inl ⟨e,a⟩⟩
 unfold EH at d;split at d
 ·rename_i w;exact main d λh' r hr=>by unfold EH;rw [w];exact hr
 ·rename_i g want w;split at d
  ·rename_i b E;split at d
   ·rename_i y;exact main d λh' r hr=>by unfold EH;rw [w];simp only [E];rw [if_pos y];exact hr
   ·rename_i y;injection d with d;simp only [Aa] at d;obtain ⟨rfl,rfl⟩:=d;exact skip rfl λh'=>by unfold EH;rw [w];simp only [E];rw [if_neg y]
  ·rename_i E;injection d with d;simp only [Aa] at d;obtain ⟨rfl,rfl⟩:=d;exact skip rfl λh'=>by unfold EH;rw [w];simp only [E]
  ·cases d
section
variable {h:Heap} {ns:List Nat}
theorem Jt1(x:AV):JK (Jl h ns) x=JK h x:=by
 cases x<;>try rfl
 rename_i g ver off;simp only [JK,Jl];by_cases a:g∈ns
 ·simp only [a,if_true];cases h g with
  | none=>rfl
  | some o=>cases o<;>rfl
 ·simp only [a,if_false]
theorem J1o(g ver:Nat):cur (Jl h ns) g ver=cur h g ver:=by
 simp only [cur,Jl];by_cases a:g∈ns
 ·simp only [a,if_true];cases h g with
  | none=>rfl
  | some o=>cases o<;>rfl
 ·simp only [a,if_false]
theorem J32(g ver esz:Nat):Ee (Jl h ns) g ver esz=Ee h g ver esz:=by
 simp only [Ee,Jl];by_cases a:g∈ns
 ·simp only [a,if_true];cases h g with
  | none=>rfl
  | some o=>cases o<;>rfl
 ·simp only [a,if_false]
theorem Jum(g ver:Nat):GX (Jl h ns) g ver=GX h g ver:=by
 simp only [GX,Jl];by_cases a:g∈ns
 ·simp only [a,if_true];cases h g with
  | none=>rfl
  | some o=>cases o<;>rfl
 ·simp only [a,if_false]
theorem Kau(g ver n esz k:Nat):ME g ver n esz (Jl h ns k)=ME g ver n esz (h k):=by
 simp only [Jl];by_cases a:k∈ns
 ·simp only [a,if_true];cases h k with
  | none=>rfl
  | some o=>cases o<;>rfl
 ·simp only [a,if_false]
theorem Jnv:Jl h []=h:=by funext g;simp [Jl]
theorem Kbd(f:Nat->AV)(h h':Heap)(x:LO):(St.mk f h).ev x=(St.mk f h').ev x:=by cases x<;>rfl
theorem J30{call:Call}{base g0:Nat}{f:Nat->AV}{op:CQ}{v:AV}{y:Heap}(r:op.still=true)(d:Ja call base ⟨f,h⟩ g0 op=some (v,y)) :
  y=h/\Ja call base ⟨f,Jl h ns⟩ g0 op=some (v,Jl h ns):=by
 have E:∀x,(St.mk f (Jl h ns)).ev x=(St.mk f h).ev x:=λx=>Kbd f _ _ x;cases op<;>(try (simp [CQ.still] at r;done))<;>simp only [Ja,E] at d ⊢
 case load ag n x=>
  obtain ⟨m,o⟩:=hOut d;refine ⟨o.symm,?_⟩;simp only [IQ,Jt1] at m ⊢;rw [m]
 case Ep x=>
  split at d
  ·rename_i g ver off hx;split at d
   ·rename_i r;injection d with d;simp only [Aa] at d;obtain ⟨rfl,rfl⟩:=d;exact ⟨rfl,by rw [J1o,if_pos r]⟩
   ·cases d
  ·injection d with d;simp only [Aa] at d;obtain ⟨rfl,rfl⟩:=d;exact ⟨rfl,rfl⟩
  ·injection d with d;simp only [Aa] at d;obtain ⟨rfl,rfl⟩:=d;exact ⟨rfl,rfl⟩
  ·injection d with d;simp only [Aa] at d;obtain ⟨rfl,rfl⟩:=d;exact ⟨rfl,rfl⟩
  ·cases d
 case slc e x lo hi=>
  obtain ⟨m,o⟩:=hOut d;refine ⟨o.symm,?_⟩;have E2:(St.mk f (Jl h ns)).ev=(St.mk f h).ev:=funext E;simp only [E2];have:∀x lo hi,Ij (Jl h ns) e x lo hi=Ij h e x lo hi:=λx lo hi=>by cases x<;>simp only [Ij,J32]
  rw [this,m]
 case Et off x=>
  obtain ⟨m,o⟩:=hOut d;refine ⟨o.symm,?_⟩;have:∀x,LD (Jl h ns) off x=LD h off x:=λx=>by cases x<;>simp only [LD,J1o]
  rw [this,m]
 case Es e x i=>
  obtain ⟨m,o⟩:=hOut d;refine ⟨o.symm,?_⟩;have:∀x i,JU (Jl h ns) e x i=JU h e x i:=λx i=>by cases x<;>cases i<;>simp only [JU,J32]
  rw [this,m]
 case EO n e x i=>
  obtain ⟨m,o⟩:=hOut d;refine ⟨o.symm,?_⟩;have:∀x i,YK (Jl h ns) n e x i=YK h n e x i:=λx i=>by cases x<;>cases i<;>simp only [YK,J1o]
  rw [this,m]
 case len x=>
  have:∀x,C9 (Jl h ns) x=C9 h x:=λx=>by cases x<;>simp only [C9,Jum]
  rw [this];split at d
  ·rename_i n A;injection d with d;simp only [Aa] at d;obtain ⟨rfl,rfl⟩:=d;exact ⟨rfl,rfl⟩
  ·cases d
 case Er ne x=>
  have:∀x,YF (Jl h ns) x=YF h x:=λx=>by
   cases x
   case arr g ver off len=>simp only [YF,Jum]
   case CB n l=>cases n<;>cases l<;>rfl
   all_goals rfl
  rw [this];split at d
  ·rename_i n A;injection d with d;simp only [Aa] at d;obtain ⟨rfl,rfl⟩:=d;exact ⟨rfl,rfl⟩
  ·cases d
 case Cz g l=>
  cases l with
  | cons a l=>simp [CQ.still] at r
  | nil=>
   have hs:∀h,KO h []=some ([],[]):=λh=>rfl;simp only [List.map_nil,hs] at d ⊢;split at d
   ·rename_i u B w;rw [if_pos (.inl trivial)] at d;injection d with d;simp only [Aa] at d;obtain ⟨rfl,rfl⟩:=d;exact ⟨rfl,by rw [if_pos (.inl trivial)]⟩
   ·cases d
 case LU n e x=>
  obtain ⟨m,o⟩:=hOut d;refine ⟨o.symm,?_⟩;have:∀x,ZX (Jl h ns) n e x=ZX h n e x:=λx=>by
   cases x<;>try rfl
   rename_i g ver off;cases off<;>simp only [ZX,Kau]
  rw [this,m]
theorem Kae{call:Call}{base g0:Nat}{f:Nat->AV}{op:CQ}{v:AV}{d:Heap}(m:op.GU=true)(a:Ja call base ⟨f,h⟩ g0 op=some (v,d)):∃ns,d=Jl h ns:=by
 cases op<;>(try (simp [CQ.GU] at m;done))<;>simp only [Ja] at a
 case Eu g l=>
  split at a
  ·split at a
   ·injection a with a;simp only [Aa] at a;exact ⟨_,a.2.symm⟩
   ·cases a
  ·cases a
end
theorem Jvm{call:Call}{base:Nat}{o:AX}{f:Nat->AV}{h g:Heap}{v:AV}(d:o.op.GU=true)(a:EH call base o f h=some (v,g)):∃ns,g=Jl h ns:=by
 unfold EH at a;split at a
 ·exact Kae d a
 ·split at a
  ·split at a
   ·exact Kae d a
   ·injection a with a;simp only [Aa] at a;exact ⟨[],by rw [Jnv];exact a.2.symm⟩
  ·injection a with a;simp only [Aa] at a;exact ⟨[],by rw [Jnv];exact a.2.symm⟩
  ·cases a
theorem J8s{call:Call}{base:Nat}{o:AX}{f:Nat->AV}{h l:Heap}{v:AV}(g:o.op.still=true)(a:EH call base o f h=some (v,l))(ns:List Nat):l=h/\EH call base o f (Jl h ns)=some (v,Jl h ns):=by
 unfold EH at a ⊢;split at a
 ·exact J30 g a
 ·split at a
  ·split at a
   ·rename_i d;rw [if_pos d];exact J30 g a
   ·rename_i d;rw [if_neg d];injection a with a;simp only [Aa] at a;exact ⟨a.2.symm,by rw [a.1]⟩
  ·injection a with a;simp only [Aa] at a;exact ⟨a.2.symm,by rw [a.1]⟩
  ·cases a
theorem Rb{call:Call}{base:Nat}{i j:AX}{f:Nat->AV}{h m v:Heap}{v1 v2:AV}{ds ds':List Nat}{op:CQ}(hi:i.op=.F7 ds op)(y:j.op.dJ=some ds')
  (hd:∀g,Ce base ds' g=true->Ce base ds g=true) (a:EH call base i f h=some (v1,m)) (d:EH call base j f m=some (v2,v)):m=h/\EH call base i f v=some (v1,v):=by
 have o:X3 base ds v=X3 base ds m:=by
  unfold EH at d;split at d
  ·exact uO y hd d
  ·split at d
   ·split at d
    ·exact uO y hd d
    ·injection d with d;simp only [Aa] at d;rw [d.2]
   ·injection d with d;simp only [Aa] at d;rw [d.2]
   ·cases d
 have main:∀g0,Ja call base ⟨f,h⟩ g0 (.F7 ds op)=some (v1,m)->m=h/\Ja call base ⟨f,v⟩ g0 (.F7 ds op)=some (v1,v):=λg0 l=>by
  have A:m=h:=(qM (op:=.F7 ds op) rfl l).1;subst A;refine ⟨rfl,?_⟩;simp only [Ja] at l ⊢;rw [o];split at l
  ·rename_i B;rw [if_pos B];cases hr:Ja call base ⟨f,X3 base ds m⟩ g0 op with
   | none=>rw [hr] at l;cases l
   | some r=>
    obtain ⟨u,E⟩:=r;rw [hr] at l;injection l with l;simp only [Aa] at l;obtain ⟨rfl,-⟩:=l;rfl
  ·cases l
 unfold EH at a ⊢;rw [hi] at a ⊢;split at a
 ·exact main _ a
 ·split at a
  ·split at a
   ·rename_i w;rw [if_pos w];exact main _ a
   ·rename_i w;rw [if_neg w];injection a with a;simp only [Aa] at a;exact ⟨a.2.symm,by rw [a.1]⟩
  ·injection a with a;simp only [Aa] at a;exact ⟨a.2.symm,by rw [a.1]⟩
  ·cases a
theorem Jwc{h:Heap}{ns:List Nat}{g:Nat}{ob:AZ}(d:g∉ns):Jl (upd h g (some ob)) ns=upd (Jl h ns) g (some ob):=by
 funext k;by_cases a:k=g
 ·subst a;rw [Jj];unfold Jl;rw [if_neg d,Jj]
 ·rw [Je _ _ _ _ a];unfold Jl;rw [Je _ _ _ _ a]
theorem ZH{call:Call}{base g0:Nat}{f:Nat->AV}{h:Heap}{ns:List Nat}{op:CQ}{v:AV}{g:Heap}(l:op.ld=true)(a:Ja call base ⟨f,Jl h ns⟩ g0 op=some (v,g)) :
  g=Jl h ns/\Ja call base ⟨f,h⟩ g0 op=some (v,h):=by
 have E:∀x,(St.mk f (Jl h ns)).ev x=(St.mk f h).ev x:=λx=>Kbd f _ _ x;cases op<;>(try (simp [CQ.ld] at l;done))<;>simp only [Ja,E] at a ⊢
 case load ag n x=>
  obtain ⟨d,m⟩:=hOut a;refine ⟨m.symm,?_⟩;simp only [IQ,Jt1] at d ⊢;rw [d]
theorem fG{call:Call}{base:Nat}{o:AX}{f:Nat->AV}{h l:Heap}{v:AV}{ns:List Nat}(g:o.op.ld=true)(a:EH call base o f (Jl h ns)=some (v,l)):l=Jl h ns/\EH call base o f h=some (v,h):=by
 unfold EH at a ⊢;split at a
 ·exact ZH g a
 ·split at a
  ·split at a
   ·rename_i d;rw [if_pos d];exact ZH g a
   ·rename_i d;rw [if_neg d];injection a with a;simp only [Aa] at a;exact ⟨a.2.symm,by rw [a.1]⟩
  ·injection a with a;simp only [Aa] at a;exact ⟨a.2.symm,by rw [a.1]⟩
  ·cases a
theorem Jye{call:Call}{base g0:Nat}{f:Nat->AV}{op:CQ}{v:AV}{h w:Heap}(A:op.GU=true)(a:Ja call base ⟨f,h⟩ g0 op=some (v,w)){g:Nat}{ob:AZ}(r:h g=none) :
  Ja call base ⟨f,upd h g (some ob)⟩ g0 op=some (v,upd w g (some ob)):=by
 have evf:∀h h',(St.mk f h).ev=(St.mk f h').ev:=λh h'=>funext λx=>by cases x<;>rfl
 cases op<;>(try (simp [CQ.GU] at A;done))<;>simp only [Ja] at a ⊢
 case Eu f' l=>
  rw [evf _ h];split at a
  ·rename_i vs ns hs;split at a
   ·rename_i u B d;injection a with a;simp only [Aa] at a;obtain ⟨rfl,rfl⟩:=a;have:g∉ns:=λy=>by obtain ⟨o,m,_⟩:=wS hs g y;rw [r] at m;cases m
    simp only [Jou r hs,d,Jwc this]
   ·cases a
  ·cases a
theorem Jvk{call:Call}{base:Nat}{o:AX}{f:Nat->AV}{h r:Heap}{v:AV}(m:o.op.GU=true)(a:EH call base o f h=some (v,r)){g:Nat}{ob:AZ}(l:h g=none) :
  EH call base o f (upd h g (some ob))=some (v,upd r g (some ob)):=by
 unfold EH at a ⊢;split at a
 ·exact Jye m a l
 ·split at a
  ·split at a
   ·rename_i d;rw [if_pos d];exact Jye m a l
   ·rename_i d;rw [if_neg d];injection a with a;simp only [Aa] at a;rw [a.1,a.2]
  ·injection a with a;simp only [Aa] at a;rw [a.1,a.2]
  ·cases a
theorem vM{α:Type}(f:Nat->α){d e:Nat}(u v:α)(h:d≠e):upd (upd f d u) e v=upd (upd f e v) d u:=by funext n;unfold upd;by_cases g:n=e<;>by_cases a:n=d<;>simp_all
theorem Kap{h:Heap}{g:Nat}{ob:AZ}(a:h g=none){x:AV}{n:Int}(hs:C9 h x=some n):C9 (upd h g (some ob)) x=some n:=by
 cases x<;>try exact hs
 rename_i f ver off len;simp only [C9] at hs ⊢;split at hs
 ·rename_i d;rw [if_pos (Jl9 a d)];exact hs
 ·cases hs
theorem J11{h:Heap}{g esz:Nat}{ob:AZ}(d:h g=none){x:AV}{l:List AV}(hs:Ii h esz x=some l):Ii (upd h g (some ob)) esz x=some l:=by
 cases x<;>try exact hs
 rename_i f ver off len;simp only [Ii] at hs ⊢;split at hs
 ·rename_i a;rw [Nb d a];exact hs
 ·cases hs
theorem Jzw{h F:Heap}{g g0 esz bytes:Nat}{el:TypeId}{x y v:AV}{ob:AZ}(o:h g=none)(r:g0≠g)(a:EN h g0 esz bytes el x y=some (v,F)):EN (upd h g (some ob)) g0 esz bytes el x y=some (v,upd F g (some ob)):=by
 unfold EN at a;split at a
 ·rename_i m new hl J;have B:=Kap (ob:=ob) o hl;have A:=J11 (ob:=ob) o J;have H:Kg (upd h g (some ob)) g0=Kg h g0:=by unfold Kg;rw [Je _ _ _ _ r]
  unfold EN;rw [B,A,H];split at a
  ·simp only;split at a
   ·rename_i d;rw [if_pos d];injection a with a;simp only [Aa] at a;obtain ⟨rfl,rfl⟩:=a;rfl
   ·rename_i d;rw [if_neg d];split at a
    ·rename_i E;rw [if_pos E];injection a with a;simp only [Aa] at a;obtain ⟨rfl,rfl⟩:=a;rw [vM _ _ _ r]
    ·cases a
  ·rename_i G ver off len;simp only;split at a
   ·rename_i ver' esz' el' cells f;have w:G≠g:=by rintro rfl;rw [o] at f;cases f
    rw [Nb o f];simp only;split at a
    ·rename_i d;rw [if_pos d];split at a
     ·rename_i l;rw [if_pos l];injection a with a;simp only [Aa] at a;obtain ⟨rfl,rfl⟩:=a;rfl
     ·rename_i l;rw [if_neg l];injection a with a;simp only [Aa] at a;obtain ⟨rfl,rfl⟩:=a;rw [vM _ _ _ w]
    ·cases a
   ·rename_i ver' esz' el' cells f;have w:G≠g:=by rintro rfl;rw [o] at f;cases f
    rw [Nb o f];simp only;split at a
    ·rename_i d;rw [if_pos d];injection a with a;simp only [Aa] at a;obtain ⟨rfl,rfl⟩:=a;rfl
    ·cases a
   ·cases a
  ·simp only;split at a
   ·rename_i d;rw [if_pos d];injection a with a;simp only [Aa] at a;obtain ⟨rfl,rfl⟩:=a;rfl
   ·cases a
  ·cases a
 ·cases a
theorem J4a{call:Call}{base g0:Nat}{f:Nat->AV}{op:CQ}{v:AV}{h m:Heap}(r:op.gD=true)(a:Ja call base ⟨f,h⟩ g0 op=some (v,m)){g:Nat}{ob:AZ}(l:h g=none)(d:g0≠g) :
  Ja call base ⟨f,upd h g (some ob)⟩ g0 op=some (v,upd m g (some ob)):=by
 have evf:∀h h',(St.mk f h).ev=(St.mk f h').ev:=λh h'=>funext λx=>by cases x<;>rfl
 cases op<;>(try (simp [CQ.gD] at r;done))<;>simp only [Ja] at a ⊢
 case app esz bytes el zz x y=>
  rw [evf _ h];exact Jzw l d a
 case KM ds esz bytes el zz x y=>
  rw [evf _ h];unfold Mw at a ⊢;split at a
  ·rename_i o;rw [if_pos o];exact Jzw l d a
  ·cases a
theorem J0j{call:Call}{base:Nat}{o:AX}{f:Nat->AV}{h w:Heap}{v:AV}(r:o.op.gD=true)(a:EH call base o f h=some (v,w)){g:Nat}{ob:AZ}(m:h g=none)(d:base+o.dst.getD 0≠g) :
  EH call base o f (upd h g (some ob))=some (v,upd w g (some ob)):=by
 unfold EH at a ⊢;split at a
 ·exact J4a r a m d
 ·split at a
  ·split at a
   ·rename_i l;rw [if_pos l];exact J4a r a m d
   ·rename_i l;rw [if_neg l];injection a with a;simp only [Aa] at a;rw [a.1,a.2]
  ·injection a with a;simp only [Aa] at a;rw [a.1,a.2]
  ·cases a
theorem Jym{h m:Heap}{g g0 esz bytes:Nat}{el:TypeId}{x y v:AV}(a:EN h g0 esz bytes el x y=some (v,m))(l:m g=none):h g=none:=by
 have key:∀(k:Nat) (o:AZ),upd h k (some o) g=none->h g=none:=λk o f=>by
  by_cases d:g=k
  ·subst d;rw [Jj] at f;cases f
  ·rwa [Je _ _ _ _ d] at f
 unfold EN at a
 (repeat' split at a)<;>first|(cases a;done)|(injection a with a;simp only [Aa] at a;obtain ⟨-,rfl⟩:=a;first|exact l|exact key _ _ l)
theorem SS{call:Call}{base:Nat}{o:AX}{f:Nat->AV}{h m:Heap}{v:AV}{g:Nat}(r:o.op.gD=true)(a:EH call base o f h=some (v,m))(d:m g=none):h g=none:=by
 have main:∀g0,Ja call base ⟨f,h⟩ g0 o.op=some (v,m)->h g=none:=λg0 a=>by
  cases l:o.op<;>rw [l] at r a<;>(try (simp [CQ.gD] at r;done))<;>simp only [Ja] at a
  ·exact Jym a d
  ·unfold Mw at a;split at a
   ·exact Jym a d
   ·cases a
 unfold EH at a;split at a
 ·exact main _ a
 ·split at a
  ·split at a
   ·exact main _ a
   ·injection a with a;simp only [Aa] at a;rw [a.2];exact d
  ·injection a with a;simp only [Aa] at a;rw [a.2];exact d
  ·cases a
theorem J5s{σ:St}{d e:Option Nat}{u v:AV}{l h g f:Heap}(a:∀x,d=some x->e≠some x):((σ.put d u l).put e v g).f=((σ.put e v h).put d u f).f:=by cases d<;>cases e<;>simp only [St.put];rename_i d e;exact vM σ.f u v (by rintro rfl;exact a d rfl rfl)
theorem sN{σ:St}{d:Option Nat}{u:AV}{h:Heap}:(σ.put d u h).h=h:=by cases d<;>rfl
theorem Jqn{σ:St}{d:Option Nat}{u:AV}{h:Heap}{n:Nat}(a:d≠some n):(σ.put d u h).f n=σ.f n:=by
 cases d with
 | none=>rfl
 | some d=>exact Je _ _ _ _ (by rintro rfl;exact a rfl)
theorem St.ext'{σ τ:St}(d:σ.f=τ.f)(a:σ.h=τ.h):σ=τ:=by cases σ;cases τ;simp_all
theorem Jr5{call:Call}{base:Nat}{o:AX}{σ σ':St}(h:JW call base o σ=some σ') :
  (o.op.CJ=true->σ.h (base+o.dst.getD 0)=none)/\∃v a,EH call base o σ.f σ.h=some (v,a)/\σ'=σ.put o.dst v a:=by
 unfold JW at h;split at h
 ·cases h
 ·rename_i d;rw [Jue] at h;obtain ⟨⟨v,a⟩,l,g⟩:=zi h;refine ⟨λhi=>?_,v,a,l,g⟩;cases f:σ.h (base+o.dst.getD 0) with
  | none=>rfl
  | some x=>exact absurd ⟨hi,by rw [f];rfl⟩ d
theorem Jt7{call:Call}{base:Nat}{o:AX}{σ:St}{v:AV}{a:Heap}(f:o.op.CJ=true->σ.h (base+o.dst.getD 0)=none)(g:EH call base o σ.f σ.h=some (v,a)):JW call base o σ=some (σ.put o.dst v a):=by unfold JW;rw [if_neg (by rintro ⟨a,d⟩;rw [f a] at d;cases d),Jue,g];rfl
theorem Jtq{call:Call}{base:Nat}{j:AX}{ds:List Nat}{op:CQ}(d:j.op=.F7 ds op){f:Nat->AV}{h k:Heap}{v:AV}(em:X3 base ds k=X3 base ds h)(a:EH call base j f k=some (v,k)) :
  EH call base j f h=some (v,h):=by
 have main:∀g0,Ja call base ⟨f,k⟩ g0 j.op=some (v,k)->Ja call base ⟨f,h⟩ g0 j.op=some (v,h):=λg0 a=>by
  rw [d] at a ⊢;simp only [Ja] at a ⊢;split at a
  ·rename_i l;rw [if_pos l];rw [em] at a;cases hr:Ja call base ⟨f,X3 base ds h⟩ g0 op with
   | none=>rw [hr] at a;cases a
   | some r=>
    obtain ⟨u,k⟩:=r;rw [hr] at a;simp only [dQ,Option.some.injEq,Aa] at a ⊢;exact ⟨a.1,trivial⟩
  ·cases a
 unfold EH at a ⊢;split at a
 ·exact main _ a
 ·split at a
  ·split at a
   ·rename_i g;rw [if_pos g];exact main _ a
   ·rename_i g;rw [if_neg g];injection a with a;simp only [Aa] at a;rw [a.1]
  ·injection a with a;simp only [Aa] at a;rw [a.1]
  ·cases a
theorem J2n{call:Call}{base:Nat}{j:AX}{ds:List Nat}{op:CQ}(a:j.op=.F7 ds op){g:Nat}(l:Ce base ds g=true){f:Nat->AV}{h:Heap}{ob:AZ}{v:AV}(m:EH call base j f (upd h g (some ob))=some (v,upd h g (some ob))) :
  EH call base j f h=some (v,h):=by
 refine Jtq a ?_ m;funext k;unfold X3;by_cases d:k=g
 ·subst d;rw [if_pos l,if_pos l]
 ·rw [Je _ _ _ _ d]
theorem PN{call:Call}{base:Nat}{j:AX}{f:Nat->AV}{l h:Heap}{v2:AV}{ds ds':List Nat}(d:j.op.dJ=some ds')(hd:∀g,Ce base ds' g=true->Ce base ds g=true)(a:EH call base j f l=some (v2,h)):X3 base ds h=X3 base ds l:=by
 unfold EH at a;split at a
 ·exact uO d hd a
 ·split at a
  ·split at a
   ·exact uO d hd a
   ·injection a with a;simp only [Aa] at a;rw [a.2]
  ·injection a with a;simp only [Aa] at a;rw [a.2]
  ·cases a
theorem swap{call:Call}{base:Nat}{i j:AX}{σ σ1 σ2:St}(hi:ZY i j=true)(X:JW call base i σ=some σ1)(R:JW call base j σ1=some σ2) :
  ∃σ',JW call base j σ=some σ'/\JW call base i σ'=some σ2:=by
 simp only [ZY,Ae] at hi;obtain ⟨⟨⟨⟨Y,t2⟩,t3⟩,t4⟩,t5⟩:=hi;have a1:∀n∈j.looks,i.dst≠some n:=λn a e=>by rw [e] at Y;simp at Y;exact Y.1 a
 have a2:∀n∈i.looks,j.dst≠some n:=λn a e=>by rw [e] at t2;simp at t2;exact t2 a
 have a3:∀x,i.dst=some x->j.dst≠some x:=λx e=>by rw [e] at Y;simp at Y;exact Y.2
 have a3':∀x,j.dst=some x->i.dst≠some x:=λx e e'=>a3 x e' e;obtain ⟨L,v1,g1,B,rfl⟩:=Jr5 X;obtain ⟨K,v2,O,e2,rfl⟩:=Jr5 R;rw [sN] at K e2;have m:EH call base j σ.f g1=some (v2,O):=by rw [<-e2];exact J0b λn a=>(Jqn (a1 n a)).symm
 obtain ⟨i0,i1,i2⟩:=J74 B L;obtain ⟨j0,j1,j2⟩:=J74 m K;have fin:∀k,(j.op.CJ=true->σ.h (base+j.dst.getD 0)=none)->EH call base j σ.f σ.h=some (v2,k)->(i.op.CJ=true->k (base+i.dst.getD 0)=none)->EH call base i σ.f k=some (v1,O) ->
   ∃σ',JW call base j σ=some σ'/\JW call base i σ'=some ((σ.put i.dst v1 g1).put j.dst v2 O):=by
  intro k q1 Z q3 q4;refine ⟨σ.put j.dst v2 k,Jt7 q1 Z,?_⟩;have:EH call base i (σ.put j.dst v2 k).f (σ.put j.dst v2 k).h=some (v1,O):=by rw [sN,<-q4];exact J0b λn a=>Jqn (a2 n a)
  rw [Jt7 (by rw [sN];exact q3) this]
  congr 1
  exact St.ext' (J5s a3') (by rw [sN,sN])
 have notnew:∀ {o:AX} {n:Nat},o.op.cls=n->n≠2->o.op.CJ=true->False:=λ{o n} h a hnew=>a (h▸PY hnew);simp only [Bool.or_eq_true,Ae,beq_iff_eq] at t3;by_cases c0:i.op.cls=0
 ·obtain ⟨rfl,r⟩:=i0 c0;exact fin O K m (λh=>(notnew c0 (by decide) h).elim) (r O)
 ·by_cases d0:j.op.cls=0
  ·obtain ⟨rfl,r⟩:=j0 d0;exact fin σ.h (λh=>(notnew d0 (by decide) h).elim) (r σ.h) L B
  ·rcases t3 with ((((((((((t3|t3)|t3)|t3)|t3)|t3)|t3)|t3)|t3)|t3)|t3)
   ·exact (c0 t3).elim
   ·exact (d0 t3).elim
   ·obtain ⟨c1,t3⟩:=t3;obtain ⟨rfl,r⟩:=i1 c1;rcases t3 with d1|H
    ·obtain ⟨rfl,_⟩:=j1 d1;exact fin σ.h K m L B
    ·rcases j2 H with ⟨rfl,_⟩|⟨ob,rfl,_⟩
     ·exact fin σ.h K m L B
     ·exact fin _ K m (λh=>(notnew c1 (by decide) h).elim) (r _ ob (K (lC H)))
   ·obtain ⟨c2,H⟩:=t3;have hj:j.op.CJ=true:=lC H;have hni:i.op.CJ=true:=lC c2;have F:base+j.dst.getD 0≠base+i.dst.getD 0:=by
     rw [c2] at t4;rw [H] at t5;cases G:i.dst with
     | none=>rw [G] at t4;simp at t4
     | some x=>
      cases M:j.dst with
      | none=>rw [M] at t5;simp at t5
      | some y=>
       have:=a3 x G;rw [M] at this;simp;rintro rfl;exact this rfl
    rcases i2 c2 with ⟨rfl,r⟩|⟨oi,rfl,r⟩
    ·rcases j2 H with ⟨rfl,_⟩|⟨oj,rfl,_⟩
     ·exact fin σ.h K m L B
     ·exact fin _ K m (λh=>by rw [Je _ _ _ _ F.symm];exact L h) (r _)
    ·have Q:σ.h (base+j.dst.getD 0)=none:=by have:=K hj;rwa [Je _ _ _ _ F] at this
     rcases j2 H with ⟨rfl,q⟩|⟨oj,rfl,q⟩
     ·exact fin σ.h (λ_=>Q) (q σ.h) L B
     ·refine fin _ (λ_=>Q) (q σ.h Q) (λh=>by rw [Je _ _ _ _ F.symm];exact L h) ?_;rw [r _ (by rw [Je _ _ _ _ F.symm];exact L hni)];rw [vM _ _ _ F]
   ·obtain ⟨hs,E⟩:=t3;have v:j.op.CJ=true->False:=λa=>by cases l:j.op<;>rw [l] at E a<;>simp [CQ.GU,CQ.CJ] at E a
    have w:i.op.CJ=true->False:=λa=>by cases l:i.op<;>rw [l] at hs a<;>simp [CQ.still,CQ.CJ] at hs a
    obtain ⟨ns,hg2⟩:=Jvm E m;obtain ⟨q1,Z⟩:=J8s hs B ns;subst q1;rw [<-hg2] at Z;exact fin O (λh=>(v h).elim) m (λh=>(w h).elim) Z
   ·obtain ⟨ds,op,ds',J,A,N⟩:∃ds op ds',i.op=.F7 ds op/\j.op.dJ=some ds'/\(ds'.all λd=>ds.contains d)=true:=by
     unfold CQ.past at t3;split at t3
     ·rename_i ds op ds' X R;exact ⟨_,_,_,X,R,t3⟩
     ·cases t3
    have v:j.op.CJ=true->False:=λa=>by cases l:j.op<;>rw [l] at A a<;>first|(cases A;done)|(cases a;done)
    have w:i.op.CJ=true->False:=λa=>by rw [J] at a;cases a
    have hd:∀g,Ce base ds' g=true->Ce base ds g=true:=λg Q=>by obtain ⟨d,hd,e⟩:=Av.1 Q;exact Av.2 ⟨d,by simpa using Af.1 N d hd,e⟩
    obtain ⟨q1,Z⟩:=Rb J A hd B m;subst q1;exact fin O (λh=>(v h).elim) m (λh=>(w h).elim) Z
   ·obtain ⟨E,H⟩:=t3;have v:j.op.CJ=true:=lC H;have w:i.op.CJ=true->False:=λa=>by cases l:i.op<;>rw [l] at E a<;>simp [CQ.GU,CQ.CJ] at E a
    obtain ⟨ns,P⟩:=Jvm E B;have f:σ.h (base+j.dst.getD 0)=none:=by
     have:=K v;rw [P] at this;unfold Jl at this;split at this
     ·cases ho:σ.h (base+j.dst.getD 0) with
      | none=>rfl
      | some o=>rw [ho] at this;cases this
     ·exact this
    rcases j2 H with ⟨rfl,q⟩|⟨oj,rfl,q⟩
    ·exact fin σ.h (λ_=>f) (q σ.h) (λh=>(w h).elim) B
    ·exact fin _ (λ_=>f) (q σ.h f) (λh=>(w h).elim) (Jvk E B f)
   ·obtain ⟨⟨E,di⟩,H⟩:=t3;have v:j.op.CJ=true:=lC H;have w:i.op.CJ=true->False:=λa=>by cases l:i.op<;>rw [l] at E a<;>simp [CQ.gD,CQ.CJ] at E a
    have f:σ.h (base+j.dst.getD 0)=none:=SS E B (K v);have F:base+i.dst.getD 0≠base+j.dst.getD 0:=by
     rw [H] at t5;cases G:i.dst with
     | none=>rw [G] at di;simp at di
     | some x=>
      cases M:j.dst with
      | none=>rw [M] at t5;simp at t5
      | some y=>
       have:=a3 x G;rw [M] at this;simp;rintro rfl;exact this rfl
    rcases j2 H with ⟨rfl,q⟩|⟨oj,rfl,q⟩
    ·exact fin σ.h (λ_=>f) (q σ.h) (λh=>(w h).elim) B
    ·exact fin _ (λ_=>f) (q σ.h f) (λh=>(w h).elim) (J0j E B f F)
   ·obtain ⟨c2,t3⟩:=t3;obtain ⟨ds,op,x,A,G,hx⟩:∃ds op x,j.op=.F7 ds op/\i.dst=some x/\ds.contains x=true:=by
     unfold CQ.nN at t3;split at t3
     ·rename_i ds op x X R;exact ⟨_,_,_,X,R,t3⟩
     ·cases t3
    have v:j.op.CJ=true->False:=λa=>by rw [A] at a;cases a
    have d1:j.op.cls=1:=by rw [A];rfl
    obtain ⟨rfl,-⟩:=j1 d1;rcases i2 c2 with ⟨rfl,r⟩|⟨oi,rfl,r⟩
    ·exact fin σ.h (λh=>(v h).elim) m L B
    ·refine fin σ.h (λh=>(v h).elim) (J2n A ?_ m) L B;rw [G];exact Av.2 ⟨x,by simpa using hx,by simp⟩
   ·obtain ⟨ds,op,ds',A,J,N⟩:∃ds op ds',j.op=.F7 ds op/\i.op.dJ=some ds'/\(ds'.all λd=>ds.contains d)=true:=by
     unfold CQ.past at t3;split at t3
     ·rename_i ds op ds' X R;exact ⟨_,_,_,X,R,t3⟩
     ·cases t3
    have v:j.op.CJ=true->False:=λa=>by rw [A] at a;cases a
    have w:i.op.CJ=true->False:=λa=>by cases l:i.op<;>rw [l] at J a<;>first|(cases J;done)|(cases a;done)
    have d1:j.op.cls=1:=by rw [A];rfl
    obtain ⟨rfl,-⟩:=j1 d1;have hd:∀g,Ce base ds' g=true->Ce base ds g=true:=λg Q=>by obtain ⟨d,hd,e⟩:=Av.1 Q;exact Av.2 ⟨d,by simpa using Af.1 N d hd,e⟩
    exact fin σ.h (λh=>(v h).elim) (Jtq A (PN J hd B) m) (λh=>(w h).elim) B
   ·obtain ⟨E,hl⟩:=t3;have v:j.op.CJ=true->False:=λa=>by cases l:j.op<;>rw [l] at hl a<;>simp [CQ.ld,CQ.CJ] at hl a
    have w:i.op.CJ=true->False:=λa=>by cases l:i.op<;>rw [l] at E a<;>simp [CQ.GU,CQ.CJ] at E a
    obtain ⟨ns,P⟩:=Jvm E B;subst P;obtain ⟨rfl,q⟩:=fG hl m;exact fin σ.h (λh=>(v h).elim) q (λh=>(w h).elim) B
theorem bubble{call:Call}{base:Nat}{j:AX}:∀ {A B:List AX} {σ σf:St},(∀i∈A,ZY i j=true)->Mi call base (A++j::B) σ=some σf->∃σ',JW call base j σ=some σ'/\Mi call base (A++B) σ'=some σf
 | [],B,σ,σf,_,h=>by
  simp only [List.nil_append,Mi] at h ⊢;split at h
  ·rename_i σ' h';exact ⟨σ',h',h⟩
  ·cases h
 | i::A,B,σ,σf,hA,h=>by
  simp only [List.cons_append,Mi] at h ⊢;split at h
  ·rename_i σ1 m;obtain ⟨σ2,l,g⟩:=bubble (λk f=>hA k (Ak _ f)) h;obtain ⟨σ',d,a⟩:=swap (hA i (Aj ..)) m l;refine ⟨σ',d,?_⟩;rw [a];exact g
  ·cases h
def dep(ops:Array Oper)(p q:Nat):Bool:=((ops[p]?).map λo=>o.after.any λe=>Region.binds .any e&&e.on==q).getD false
def Ip(P:Program)(cm:List (Nat×CM))(nt:Nat)(ops:Array Oper):List Nat->Option (List (Nat×AX))
  | []=>some []
  | i::r=>
    match ops[i]? with
    | some o=>(match comp P cm nt ops o,Ip P cm nt ops r with|some x,some l=>some ((i,x)::l)|_,_=>none)
    | none=>none
inductive Lx (ops:Array Oper):Nat->Nat->Prop where
  | one {k i:Nat} (h:dep ops i k=true):Lx ops k i
  | more {k x i:Nat} (h:dep ops i x=true) (hx:Lx ops k x):Lx ops k i
def qB(ops:Array Oper)(p:Nat×AX):List Nat->List (Nat×AX)->Bool
  | _,[]=>true
  | acc,q::r=>
    !dep ops p.1 q.1&&p.1 != q.1&&(if dep ops q.1 p.1 || acc.any (λx=>dep ops q.1 x) then qB ops p (q.1::acc) r else ZY p.2 q.2&&qB ops p acc r)
def pQ(ops:Array Oper):List (Nat×AX)->Bool
  | []=>true
  | p::r=>qB ops p [] r&&!dep ops p.1 p.1&&pQ ops r
theorem Jn7{ops:Array Oper}{p:Nat×AX}:∀ {r:List (Nat×AX)} {acc:List Nat},qB ops p acc r=true->(∀x∈acc,Lx ops p.1 x)->∀q∈r,dep ops p.1 q.1=false/\(Lx ops p.1 q.1\/ZY p.2 q.2=true)/\p.1≠q.1
  | [],_,_,_,q,f=>by cases f
  | q::r,acc,h,a,x,hx=>by
    simp only [qB,Ae,Ba,bne_iff_ne,ne_eq] at h;obtain ⟨⟨m,l⟩,d⟩:=h;split at d
    · rename_i hd
      have f:Lx ops p.1 q.1:=by
        simp only [Bool.or_eq_true,Av] at hd;rcases hd with hd|⟨y,g,hd⟩
        · exact .one hd
        · exact .more hd (a y g)
      rcases Ah.1 hx with rfl|hx
      · exact ⟨m,.inl f,l⟩
      · exact Jn7 d (λy g=>(Ah.1 g).elim (λe=>e▸f) (a y)) x hx
    · simp only [Ae] at d
      rcases Ah.1 hx with rfl|hx
      · exact ⟨m,.inr d.1,l⟩
      · exact Jn7 d.2 a x hx
def kN(ops:Array Oper)(L:List (Nat×AX)):Bool:=
  pQ ops L&&L.length==ops.size&&((List.range ops.size).all λi=>(L.map (·.1)).contains i)&&ops.all λo=>o.after.all λe=>decide (e.on<ops.size)
theorem Joh{ops:Array Oper}:∀ {L:List (Nat×AX)},pQ ops L=true->L.Pairwise (λp q=>dep ops p.1 q.1=false/\(Lx ops p.1 q.1\/ZY p.2 q.2=true)/\p.1≠q.1)/\∀p∈L,dep ops p.1 p.1=false
  | [],_=>⟨.nil,λp d=>by cases d⟩
  | p::r,h=>by
    simp only [pQ,Ae,Ba] at h;obtain ⟨⟨o,m⟩,l⟩:=h;obtain ⟨g,f⟩:=Joh l;refine ⟨Aw.2 ⟨Jn7 o (λx hx=>by cases hx),g⟩,λq a=>?_⟩;rcases Ah.1 a with rfl|a
    · exact m
    · exact f q a
theorem Lx.listed{ops:Array Oper}{X:Nat->Prop}(hX:∀x,X x->∀k,dep ops x k=true->X k){k i:Nat}(h:Lx ops k i):(∀k,dep ops i k=true->X k)->X k:=by
  induction h with
  | one h=>exact λhi=>hi _ h
  | more h _ a=>exact λhi=>a (hX _ (hi _ h))
theorem Jr0{P:Program}{cm:List (Nat×CM)}{nt:Nat}{ops:Array Oper}:∀ {l:List Nat} {L:List (Nat×AX)},Ip P cm nt ops l=some L->∀p∈L,∃o,ops[p.1]?=some o/\comp P cm nt ops o=some p.2
  | [],L,h,p,a=>by simp [Ip] at h;subst h;cases a
  | i::r,L,h,p,a=>by
    unfold Ip at h;split at h
    · rename_i o d
      split at h
      · rename_i x l hx hl
        injection h with h;subst h;rcases Ah.1 a with rfl|a
        · exact ⟨o,d,hx⟩
        · exact Jr0 hl p a
      · cases h
    · cases h
theorem J17{call:Call}{base:Nat}{o:AX}{σ σ':St}(h:JW call base o σ=some σ'):Ih call base o σ=some σ':=by
  unfold JW at h;split at h
  · cases h
  · exact h
section
variable {ro:Option Nat} {P:Program} {nt:Nat} {ops:Array Oper} {call:Call} {base:Nat} {Q:Exit->Act->World->Prop}
theorem J8c(H:Lm P call)(hin:∀o∈ops,∀e∈o.after,e.on<ops.size):∀(m:Nat) {R:List Nat} (fuel:Nat) {listed:Array Bool} {L:List (Nat×AX)} {w:World} {S:Nat->Prop} {σ σf:St} {μ:Gh} {a:Act},L.length=fuel->listed.size=ops.size ->
    (∀p∈L,∃(cm:List (Nat×CM)) (o:Oper) (x:AX),ops[p.1]?=some o/\comp P cm nt ops o=some x/\∀σ σ',Ih call base p.2 σ=some σ'->Ih call base x σ=some σ')->(∀k,k<ops.size->(listed.getD k true=false↔k∈L.map (·.1)\/k∈R))->(∀i∈R,∀p∈L,Lx ops p.1 i/\dep ops p.1 i=false/\p.1≠i) ->
    L.Pairwise (λp q=>dep ops p.1 q.1=false/\(Lx ops p.1 q.1\/ZY p.2 q.2=true)/\p.1≠q.1)->(∀p∈L,dep ops p.1 p.1=false) ->
    (∀x,(x<ops.size/\x∉L.map (·.1)/\x∉R)->∀k,dep ops x k=true->k<ops.size/\k∉L.map (·.1)/\k∉R) ->
    DR nt w S σ μ a->Mi call base (L.map (·.2)) σ=some σf ->
    (∀listed' a' w' S' μ',listed'.size=ops.size->(∀k,k<ops.size->(listed'.getD k true=false↔k∈R))->a'.defers=a.defers->DR nt w' S' σf μ' a'->Ci w S σ.h μ w' S' σf.h μ'->Cj σ.h μ σf.h μ'->wpAnyIn (Fr ro) 0 P .any ops Q m listed' a' w')->wpAnyIn (Fr ro) 0 P .any ops Q (m+fuel) listed a w
  | m,R,0,listed,L,w,S,σ,σf,μ,a,l,hsz,y,hl,hR,_,_,_,hs,he,hQ=>by have:L=[]:=List.eq_nil_of_length_eq_zero l;subst this;simp [Mi] at he;subst he;exact hQ listed _ _ _ _ hsz (λk E=>by rw [hl k E];simp) rfl hs .refl (.refl _ _)
  | m,R,fuel+1,listed,L,w,S,σ,σf,μ,a,l,hsz,y,hl,hR,M,F,hcl,hs,he,hQ=>by
    have hgd:∀k,k<ops.size->(listed.getD k true=false↔listed.getD k false=false):=λk E=>by
      have:k<listed.size:=by omega
      simp [this]
    refine ⟨λhr=>?_,λi hi=>?_⟩
    · exfalso
      cases L with
      | nil=>simp at l
      | cons p r=>
        obtain ⟨cm,o,_,J,_⟩:=y p (Aj ..);have hp:p.1<ops.size:=(Ac.1 J).1;have:p.1∈Region.ready .any ops listed:=by
          refine mem_ready.2 ⟨(hl p.1 hp).2 (.inl (by simp)),o,J,λe G hb=>?_⟩;have hlt:=hin o (Bb J) e G;cases hle:listed.getD e.on false with
          | true=>rfl
          | false=>
            exfalso;have:=(hl e.on hlt).1 ((hgd e.on hlt).2 hle);have f:dep ops p.1 e.on=true:=by
              simp only [dep,J,Ay,Bo];exact Bk.2 (by obtain ⟨n,hn,e'⟩:=As G;exact ⟨n,hn,by rw [e'];simp [hb]⟩)
            simp only [Bg,Ah] at this;rcases this with (h1|h1)|h1
            rotate_left 2
            · have:=(hR _ h1 p (Aj ..)).2.1
              rw [this] at f;cases f
            · rw [h1,F p (Aj ..)] at f;cases f
            · obtain ⟨q,v,h2⟩:=Bj.1 h1
              have:=(Aw.1 M).1 q v;rw [<-h2,this.1] at f;cases f
        rw [hr] at this;cases this
    · obtain ⟨h1,o,J,O⟩:=mem_ready.1 hi
      have hi':i<ops.size:=(Ac.1 J).1;have Y:∀k,dep ops i k=true->k<ops.size/\k∉L.map (·.1)/\k∉R:=by
        intro k hd;simp only [dep,J,Ay,Bo] at hd;obtain ⟨n,hn,hx⟩:=Bk.1 hd;simp only [Ae,beq_iff_eq] at hx;have G:=O (o.after[n]) (Bl hn) hx.1;have E:=hin o (Bb J) (o.after[n]) (Bl hn);rw [hx.2] at G E;have key:¬(k∈L.map (·.1)\/k∈R):=λhm=>by have:=(hl k E).2 hm;rw [hgd k E,G] at this;cases this
        exact ⟨E,λq=>key (.inl q),λq=>key (.inr q)⟩
      have hiL:i∈L.map (·.1):=by
        rcases (hl i hi').1 h1 with q|q
        · exact q
        · exfalso
          cases L with
          | nil=>simp at l
          | cons p r=>
            have:=(hR i q p (Aj ..)).1.listed (X:=λx=>x<ops.size/\x∉(p::r).map (·.1)/\x∉R) hcl Y;exact this.2.1 (by simp)
      obtain ⟨p,hp,rfl⟩:=Bj.1 hiL;obtain ⟨A,B,rfl⟩:=List.append_of_mem hp;obtain ⟨cm,o',x',N,hc,hrf⟩:=y p hp;rw [J] at N;injection N with N;subst N;have d:=Y;have hA:∀q∈A,dep ops q.1 p.1=false/\ZY q.2 p.2=true/\q.1≠p.1:=by
        intro q v;have hpq:=(By.1 M).2.2 q v p (Aj ..);refine ⟨hpq.1,?_,hpq.2.2⟩;rcases hpq.2.1 with hd|hd
        · exfalso
          have:=hd.listed (X:=λx=>x<ops.size/\x∉(A++p::B).map (·.1)/\x∉R) hcl d;exact this.2.1 (Bj.2 ⟨q,Ar _ v,rfl⟩)
        · exact hd
      simp only [Bs,Bg] at he;obtain ⟨σ',b1,b2⟩:=bubble (λk E=>by obtain ⟨q,v,rfl⟩:=Bj.1 E;exact (hA q v).2.1) he;have hB:∀q∈B,p.1≠q.1:=λq v=>((Aw.1 (By.1 M).2.1).1 q v).2.2;unfold wpOpIn;simp only [J];have g:=uL (K:=wpAnyIn (Fr ro) 0 P .any ops Q (m+fuel) (listed.setIfInBounds p.1 true)) (Q:=Q) (ro:=ro) H hs hc (hrf _ _ (J17 b1)) λa1 w1 S1 μ1 r0 r1 r2 r3=>by
        refine J8c H hin m (R:=R) fuel (L:=A++B) (by simp at l ⊢;omega) (by simpa using hsz) (λq v=>y q ?_) (λk E=>?_) (λi hi q v=>hR i hi q ?_) (M.sublist ?_) (λq v=>F q ?_) ?_ r1 (by simpa using b2) λl2 a2 w2 S2 μ2 p1 p2 q0 q1 q2 q3=>hQ _ _ _ _ _ p1 p2 (q0.trans r0) q1 (r2.trans q2) (r3.trans q3)
        · rcases Ag.1 v with h|h
          · exact Ar _ h
          · exact Ax _ (Ak _ h)
        · have hk2:k<listed.size:=by omega
          by_cases hkp:k=p.1
          · subst hkp
            refine ⟨λh=>?_,λh=>?_⟩
            · simp [hk2] at h
            · exfalso
              rcases h with h|h
              · obtain ⟨q,v,e⟩:=Bj.1 h
                rcases Ag.1 v with h|h
                · exact (hA q h).2.2 e
                · exact hB q h e.symm
              · exact (hR _ h p hp).2.2 rfl
          · have:(listed.setIfInBounds p.1 true).getD k true=listed.getD k true:=by simp [Bp (Ne.symm hkp)]
            rw [this,hl k E];simp only [Bs,Bg,Ag,Ah];refine ⟨λh=>?_,λh=>?_⟩
            · rcases h with (h|h|h)|h
              · exact .inl (.inl h)
              · exact (hkp h).elim
              · exact .inl (.inr h)
              · exact .inr h
            · rcases h with (h|h)|h
              · exact .inl (.inl h)
              · exact .inl (.inr (.inr h))
              · exact .inr h
        · rcases Ag.1 v with h|h
          · exact Ar _ h
          · exact Ax _ (Ak _ h)
        · exact List.Sublist.append (List.Sublist.refl A) (List.sublist_cons_self p B)
        · rcases Ag.1 v with h|h
          · exact Ar _ h
          · exact Ax _ (Ak _ h)
        · have sub:∀k,k∈(A++B).map (·.1)->k∈(A++p::B).map (·.1):=λk E=>by
            simp only [Bs,Bg,Ag,Ah] at E ⊢;rcases E with h|h
            · exact .inl h
            · exact .inr (.inr h)
          rintro x ⟨hx1,Z,hx3⟩ k hd;by_cases hxp:x=p.1
          · subst hxp
            exact ⟨(d k hd).1,λh=>(d k hd).2.1 (sub k h),(d k hd).2.2⟩
          · have:=hcl x ⟨hx1,λh=>by
              simp only [Bs,Bg,Ag,Ah] at h Z;rcases h with h|h|h
              · exact Z (.inl h)
              · exact hxp h
              · exact Z (.inr h),hx3⟩ k hd
            exact ⟨this.1,λh=>this.2.1 (sub k h),this.2.2⟩
      split
      · rename_i hw
        rw [if_pos hw] at g;exact aH (Jua hc) g
      · rename_i hw
        rw [if_neg hw] at g;exact ⟨λ_ _=>trivial,g⟩
theorem J7b(g:Lm P call)(r:P.follows .mixedOrders=true){id:Nat}{L:List (Nat×AX)}{w:World}{S:Nat->Prop}{σ σf:St}{μ:Gh}{a:Act}(hs:DR nt w S σ μ a)(O:∀p∈L,∃(cm:List (Nat×CM)) (o:Oper) (x:AX),ops[p.1]?=some o/\comp P cm nt ops o=some x/\∀σ σ',Ih call base p.2 σ=some σ'->Ih call base x σ=some σ')(hd:kN ops L=true)
    (N:Mi call base (L.map (·.2)) σ=some σf) (hQ:∀a' w' S' μ',a'.defers=a.defers->DR nt w' S' σf μ' a'->Ci w S σ.h μ w' S' σf.h μ'->Cj σ.h μ σf.h μ'->Q .normal a' w'):(Code.region id ops true).wpIn (Fr ro) 0 P Q a w:=by
  simp only [kN,Ae,beq_iff_eq] at hd;obtain ⟨⟨⟨d1,d2⟩,d3⟩,d4⟩:=hd;obtain ⟨H,G⟩:=Joh d1;have J:DR nt { w with drawn:=w.drawn+1 } S σ μ a:=⟨λd=>(hs.fr d).DK hs.hp Ti (.refl _ _),hs.hp.of_same (w':=w.drew) rfl rfl rfl ⟨rfl,Nat.le_succ _⟩,hs.df,hs.sz⟩;have f:∀k,k<ops.size->k∈L.map (·.1):=λk h=>by have:=Af.1 d3 k (List.mem_range.2 h);exact Bc.1 this
  have main:wpAnyIn (Fr ro) 0 P .any ops Q (0+ops.size) (Bv ops.size false) a { w with drawn:=w.drawn+1 }:=by
   refine J8c g (ops:=ops) (nt:=nt) (Q:=Q) (ro:=ro) (λo l e v=>?_) 0 (R:=[]) ops.size (listed:=Bv ops.size false) d2 (by simp) O (λk h=>?_) (λi hi=>by cases hi) H G (λx hx=>(hx.2.1 (f x hx.1)).elim) J N λl' a' w' S' μ' s1 y F E B A=>⟨?_,hQ _ _ _ _ F E (Ti.trans B) A⟩
   · obtain ⟨n,K,Z⟩:=As l
     have:=Bm.1 d4 n K;rw [Z] at this;obtain ⟨m,r,Y⟩:=As v;have:=Bm.1 this m r;rw [Y] at this;simpa using this
   · have:=f k h
     simp [h,this]
   · apply Br.2
     intro j M;obtain ⟨X,o,l,_⟩:=mem_ready.1 M;have:=(y j (Ac.1 l).1).1 X;cases this
  rw [Nat.zero_add] at main;exact wpIn_region_any r main
def aN(ops:Array Oper):List Nat->Bool
  | []=>true
  | [_]=>true
  | x::y::r=>dep ops y x&&aN ops (y::r)
theorem Jto{ops:Array Oper}:∀ {i:Nat} {R:List Nat},aN ops (i::R)=true->∀j∈R,∃q∈i::R,dep ops j q=true
  | i,[],_,j,a=>by cases a
  | i,y::r,h,j,a=>by
    simp only [aN,Ae] at h;rcases Ah.1 a with rfl|a
    · exact ⟨i,Aj ..,h.1⟩
    · obtain ⟨q,d,hd⟩:=Jto h.2 j a
      exact ⟨q,Ak _ d,hd⟩
theorem J5b{ops:Array Oper}{i:Nat}{R:List Nat}(h:aN ops (i::R)=true):aN ops R=true:=by
  cases R with
  | nil=>rfl
  | cons y r=>simp only [aN,Ae] at h;exact h.2
theorem J3c(E:∀o∈ops,∀e∈o.after,e.on<ops.size):∀ {R:List Nat} {os:List Oper} {listed:Array Bool} {a:Act} {w:World},R.map (λi=>ops[i]?)=os.map some->listed.size=ops.size->(∀k,k<ops.size->(listed.getD k true=false↔k∈R))->R.Nodup->aN ops R=true ->
    R.Pairwise (λx y=>dep ops x y=false)->(∀x∈R,dep ops x x=false)->wpListIn (Fr ro) 0 P ops Q os a w->wpAnyIn (Fr ro) 0 P .any ops Q R.length listed a w
  | [],os,listed,a,w,v,G,hl,_,_,_,_,h=>by
    cases os with
    | cons o os=>simp at v
    | nil=>
      refine ⟨?_,h⟩;apply Br.2;intro j hj;obtain ⟨h1,o,v,_⟩:=mem_ready.1 hj;have:=(hl j (Ac.1 v).1).1 h1;cases this
  | i::R,[],listed,a,w,v,_,_,_,_,_,_,_=>by simp at v
  | i::R,o::os,listed,a,w,v,G,hl,X,L,H,f,h=>by
    simp only [Bg,List.cons.injEq] at v;obtain ⟨g,O⟩:=v;have hi:i<ops.size:=(Ac.1 g).1;have K:∀k,k<ops.size->(listed.getD k true=false↔listed.getD k false=false):=λk F=>by
      have:k<listed.size:=by omega
      simp [this]
    obtain ⟨Z,Y⟩:=List.nodup_cons.1 X;have r:∀a w,wpListIn (Fr ro) 0 P ops Q os a w->wpAnyIn (Fr ro) 0 P .any ops Q R.length (listed.setIfInBounds i true) a w:=λa w h=>
      J3c E O (by simpa using G) (λk F=>by
        have hk2:k<listed.size:=by omega
        by_cases B:k=i
        · subst B
          refine ⟨λh=>?_,λh=>(Z h).elim⟩;simp [hk2] at h
        · have:(listed.setIfInBounds i true).getD k true=listed.getD k true:=by simp [Bp (Ne.symm B)]
          rw [this,hl k F,Ah];exact ⟨λh=>h.resolve_left B,.inr⟩) Y (J5b L) (Aw.1 H).2 (λx hx=>f x (Ak _ hx)) h
    refine ⟨λhr=>?_,λj hj=>?_⟩
    · exfalso
      have:i∈Region.ready .any ops listed:=by
        refine mem_ready.2 ⟨(hl i hi).2 (Aj ..),o,g,λe l hb=>?_⟩;have J:=E o (Bb g) e l;cases hle:listed.getD e.on false with
        | true=>rfl
        | false=>
          exfalso;have hm:=(hl e.on J).1 ((K e.on J).2 hle);have d:dep ops i e.on=true:=by
            simp only [dep,g,Ay,Bo];exact Bk.2 (by obtain ⟨n,M,e'⟩:=As l;exact ⟨n,M,by rw [e'];simp [hb]⟩)
          rcases Ah.1 hm with e1|e1
          · rw [e1,f i (Aj ..)] at d;cases d
          · rw [(Aw.1 H).1 _ e1] at d;cases d
      rw [hr] at this;cases this
    · obtain ⟨h1,o',A,m⟩:=mem_ready.1 hj
      have hj':j<ops.size:=(Ac.1 A).1;have hji:j=i:=by
        rcases Ah.1 ((hl j hj').1 h1) with e|e
        · exact e
        · exfalso
          obtain ⟨q,hq,hd⟩:=Jto L j e;simp only [dep,A,Ay,Bo] at hd;obtain ⟨n,M,hx⟩:=Bk.1 hd;simp only [Ae,beq_iff_eq] at hx;have l:=m (o'.after[n]) (Bl M) hx.1;have F:=E o' (Bb A) (o'.after[n]) (Bl M);rw [hx.2] at l F;have:=(hl q F).2 hq;rw [K q F,l] at this;cases this
      subst hji;unfold wpOpIn;simp only [g];unfold wpListIn at h;split at h
      · rename_i N
        rw [if_pos N];exact Oper.wpIn_mono r h
      · rename_i N
        rw [if_neg N];exact ⟨h.1,r _ _ h.2⟩
def gG(ops:Array Oper):Nat->List Nat->List Nat
  | 0,acc=>acc
  | n+1,acc=>gG ops n (acc++(List.range ops.size).filter λk=>!acc.contains k&&acc.any λx=>dep ops x k)
theorem J4p{ops:Array Oper}{i:Nat}:∀(n:Nat) (acc:List Nat),(∀k∈acc,k=i\/Lx ops k i)->∀k∈gG ops n acc,k=i\/Lx ops k i
  | 0,acc,h,k,d=>h k d
  | n+1,acc,h,k,d=>by
    refine J4p n _ (λk d=>?_) k d;rcases Ag.1 d with d|d
    · exact h k d
    · simp only [List.mem_filter,Ae,Av] at d
      obtain ⟨x,hx,hd⟩:=d.2.2;rcases h x hx with rfl|hx
      · exact .inr (.one hd)
      · have key:∀ {a b c:Nat},Lx ops b c->dep ops b a=true->Lx ops a c:=λf g=>by
          induction f with
          | one h=>exact .more h (.one g)
          | more h _ l=>exact .more h l
        exact .inr (key hx hd)
def yO:List Nat->Bool
  | []=>true
  | x::r=>!r.contains x&&yO r
theorem Jub:∀ {l:List Nat},yO l=true->l.Nodup
  | [],_=>List.nodup_nil
  | x::r,h=>by simp only [yO,Ae,Ba] at h;refine List.nodup_cons.2 ⟨λhx=>?_,Jub h.2⟩;rw [Bc.2 hx] at h;cases h.1
def tO(ops:Array Oper):List Nat->Bool
  | []=>true
  | x::r=>!dep ops x x&&r.all (λy=>!dep ops x y)&&tO ops r
theorem J80{ops:Array Oper}:∀ {R:List Nat},tO ops R=true->R.Pairwise (λx y=>dep ops x y=false)/\∀x∈R,dep ops x x=false
  | [],_=>⟨.nil,λx hx=>by cases hx⟩
  | x::r,h=>by
    simp only [tO,Ae,Ba,Af] at h;obtain ⟨⟨m,l⟩,g⟩:=h;obtain ⟨f,d⟩:=J80 g;refine ⟨Aw.2 ⟨l,f⟩,λy a=>?_⟩;rcases Ah.1 a with rfl|a
    · exact m
    · exact d y a
def uM(ops:Array Oper)(L:List (Nat×AX))(R:List Nat):Bool:=
  pQ ops L&&L.length+R.length==ops.size&&((List.range ops.size).all λi=>(L.map (·.1)++R).contains i)&&(ops.all λo=>o.after.all λe=>decide (e.on<ops.size)) &&
  yO (L.map (·.1)++R)&&aN ops R&&tO ops R&&R.all λi=>L.all λp=>!dep ops p.1 i&&(gG ops ops.size [i]).contains p.1
theorem N8(g:Lm P call)(F:P.follows .mixedOrders=true){id:Nat}{L:List (Nat×AX)}{R:List Nat}{os:List Oper}{w:World}{S:Nat->Prop}{σ σf:St}{μ:Gh}{a:Act}(hs:DR nt w S σ μ a)(hc:∀p∈L,∃(cm:List (Nat×CM)) (o:Oper),ops[p.1]?=some o/\comp P cm nt ops o=some p.2)(hd:uM ops L R=true)
    (B:R.map (λi=>ops[i]?)=os.map some) (he:Mi call base (L.map (·.2)) σ=some σf) (hQ:∀a' w' S' μ',a'.defers=a.defers->DR nt w' S' σf μ' a'->Ci w S σ.h μ w' S' σf.h μ'->Cj σ.h μ σf.h μ'->wpListIn (Fr ro) 0 P ops Q os a' w'):(Code.region id ops true).wpIn (Fr ro) 0 P Q a w:=by
  simp only [uM,Ae,beq_iff_eq] at hd;obtain ⟨⟨⟨⟨⟨⟨⟨d1,d2⟩,d3⟩,d4⟩,d5⟩,d6⟩,d7⟩,d8⟩:=hd;obtain ⟨p1,Z⟩:=Joh d1;have E:=Jub d5;obtain ⟨hndL,hndR,y⟩:=List.nodup_append.1 E;obtain ⟨M,K⟩:=J80 d7;have v:∀o∈ops,∀e∈o.after,e.on<ops.size:=λo ho e G=>by obtain ⟨n,hn,e1⟩:=As ho;have:=Bm.1 d4 n hn;rw [e1] at this;obtain ⟨m,F,e2⟩:=As G;have:=Bm.1 this m F;rw [e2] at this;simpa using this
  have f:∀k,k<ops.size->k∈L.map (·.1)\/k∈R:=λk l=>by have:=Af.1 d3 k (List.mem_range.2 l);exact Ag.1 (Bc.1 this)
  have hw:DR nt { w with drawn:=w.drawn+1 } S σ μ a:=⟨λd=>(hs.fr d).DK hs.hp Ti (.refl _ _),hs.hp.of_same (w':=w.drew) rfl rfl rfl ⟨rfl,Nat.le_succ _⟩,hs.df,hs.sz⟩;have main:wpAnyIn (Fr ro) 0 P .any ops Q (R.length+L.length) (Bv ops.size false) a { w with drawn:=w.drawn+1 }:=by
    refine J8c g (ops:=ops) (nt:=nt) (Q:=Q) (ro:=ro) v R.length (R:=R) L.length rfl (by simp) (λp A=>by obtain ⟨cm,o,h1,h2⟩:=hc p A;exact ⟨cm,o,p.2,h1,h2,λ_ _ h=>h⟩) (λk l=>⟨λ_=>f k l,λ_=>by simp [l]⟩) (λi hi p A=>?_) p1 Z (λx hx=>((f x hx.1).elim hx.2.1 hx.2.2).elim) hw he λl' a' w' S' μ' J H Y X O N=>J3c v B J H hndR d6 M K (hQ _ _ _ _ Y X (Ti.trans O) N)
    have:=Af.1 (Af.1 d8 i hi) p A;simp only [Ae,Ba] at this;have r:p.1≠i:=y p.1 (Bj.2 ⟨p,A,rfl⟩) i hi;refine ⟨?_,this.1,r⟩;exact (J4p ops.size [i] (λk l=>.inl (List.mem_singleton.1 l)) p.1 (Bc.1 this.2)).resolve_left r
  rw [Nat.add_comm,d2] at main;exact wpIn_region_any F main
end
end Go.Vv
