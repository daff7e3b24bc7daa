/- The evaluator's maps are right of the model's. Conditions: none. -/
import Derived.Test.YtmfagdfkpjgeiaaGreatNA
import Derived.MapKept
import Derived.TacticsIn
import Derived.OrdersIn
import Derived.RangeFuncRecord
import Derived.RangeFuncIn
import Derived.Tactics
import Derived.Orders
set_option linter.unusedSimpArgs false
namespace Go.Vv
open Go
open Prod.mk renaming injEq -> Aa
open List renaming getElem?_eq_some_iff -> Ab, getElem?_eq_getElem -> Ae, all_eq_true -> Af, mem_append -> Ag, mem_cons -> Ah, mem_of_getElem? -> Ai, mem_cons_self -> Aj, mem_cons_of_mem -> Ak, mem_append_left -> Aq, mem_flatMap -> As, any_eq_true -> Au, pairwise_cons -> Av, mem_append_right -> Aw, getElem?_map -> Ay, contains_iff_mem -> Bb, getElem?_of_mem -> Bc, getElem?_append_left -> Be, map_cons -> Bf, mem_map -> Bh, getElem?_eraseIdx -> Bm, eq_nil_iff_forall_not_mem -> Bq, map_append -> Br, getElem?_append_right -> Bs, getElem?_zip_eq_some -> Bt, pairwise_append -> Bw
open _root_.Array renaming getElem?_eq_some_iff -> Ac, getD_eq_getD_getElem? -> Al, toList_inj -> Ao, getElem_of_mem -> Ar, mem_of_getElem? -> Ba, eraseIdxIfInBounds -> Bg, any_eq_true -> Bj, getElem_mem -> Bk, all_eq_true -> Bl, getElem?_setIfInBounds_ne -> Bo, eq_empty_of_size_eq_zero -> Bp, replicate -> Bu, getElem?_toList -> Bv, length_toList -> Bx
open Bool renaming and_eq_true -> Ad, false_eq_true -> Ap, not_eq_true' -> Az
open Nat renaming le_refl -> Am
open Option renaming map_some -> Ax, bind_some -> Bd, getD_some -> Bn
section
variable {P:Program} {w:World} {S:Nat->Prop} {h:Heap} {μ:Gh}
theorem Jjr{s:Bool}{x y:AV}{b:Bool}{v:Value}(a:zq s x y=some b)(d:Rep w S h μ x v):RepP w S x v:=by
 unfold zq at a;split at a
 ·rw [d.int_inv];exact .int _ _
 ·rw [d.bool_inv];exact .bool _
 ·cases a
theorem Jaj:∀ {sh:List Bool} {l m:List AV} {b:Bool},Jm sh l m=some b->∀(i:Nat) (x:AV),l[i]?=some x->∃s y c,m[i]?=some y/\zq s x y=some c/\(b=true->c=true)
 | [],[],[],_,_,i,x,d=>by simp at d
 | s::ss,x::xs,y::ys,b,h,i,z,d=>by
  unfold Jm at h;split at h
  ·rename_i a c o g;injection h with h;cases i with
   | zero=>
    simp at d;subst d;exact ⟨s,y,a,rfl,o,λe=>by rw [e] at h;simp at h;exact h.1⟩
   | succ i=>
    obtain ⟨s',f,c',w,v,r⟩:=Jaj g i z (by simpa using d);exact ⟨s',f,c',by simpa using w,v,λe=>r (by rw [e] at h;simp at h;exact h.2)⟩
  ·cases h
 | [],_::_,_,_,h,_,_,_=>by simp [Jm] at h
 | [],[],_::_,_,h,_,_,_=>by simp [Jm] at h
 | _::_,[],_,_,h,_,_,_=>by simp [Jm] at h
 | _::_,_::_,[],_,h,_,_,_=>by simp [Jm] at h
theorem Jog{ag:Bool}{sh:List Bool}{x y:AV}{b:Bool}{v:Value}(a:eqV ag sh x y=some b)(f:Rep w S h μ x v):RepP w S x v:=by
 unfold eqV at a;split at a
 ·split at a
  ·rename_i l m;obtain ⟨cs,rfl,hl,g⟩:=f.agg_inv;refine .agg l cs hl (λi x d=>(g i x d).2) λi x d=>?_;obtain ⟨s,y,c,-,e,-⟩:=Jaj a i x d;exact Jjr e (g i x d).1
  ·cases a
 ·obtain ⟨s,o,c,-,e,-⟩:=Jaj a 0 x rfl;exact Jjr e f
theorem Joz{s:Bool}{x y:AV}{v u:Value}(a:zq s x y=some true)(hx:RepP w S x v)(d:RepP w S y u)(n:Nat):Instr.sameBits n v u=true/\Instr.sameBits n u v=true:=by
 unfold zq at a;split at a
 ·split at a
  ·rename_i e;subst e;injection a with a;cases hx;cases d;cases n<;>simp_all [Instr.sameBits]
  ·cases a
 ·injection a with a;cases hx;cases d;cases n<;>simp_all [Instr.sameBits]
 ·cases a
theorem eqV_bits{ag:Bool}{sh:List Bool}{x y:AV}{v u:Value}(d:eqV ag sh x y=some true)(hx:RepP w S x v)(r:RepP w S y u):Instr.sameBits 10000 u v=true:=by
 unfold eqV at d;split at d
 ·split at d
  ·rename_i l m;cases hx with
   | agg _ cs hl L F=>
    cases r with
    | agg _ ds H K g=>
     have A:=Jb4 d;show Instr.sameBits (9999+1) (.agg ds) (.agg cs)=true;simp only [Instr.sameBits,Ad,beq_iff_eq,Af];refine ⟨by omega,λp G=>?_⟩;obtain ⟨i,B⟩:=Bc G;obtain ⟨a,b⟩:=p;rw [Bt] at B;obtain ⟨J,E⟩:=B;have e:i<l.length:=by have:=(Ab.1 E).1;simp at this;omega
     obtain ⟨s,z,c,f,o,h⟩:=Jaj d i l[i] (Ae e);obtain rfl:=h rfl;have ra:=F i l[i] (Ae e);have rb:=g i z f;have ea:cs.getD i undef=b:=by
      have:cs[i]?=some b:=by simpa using E
      rw [Al,this];rfl
     have eb:ds.getD i undef=a:=by
      have:ds[i]?=some a:=by simpa using J
      rw [Al,this];rfl
     rw [ea] at ra;rw [eb] at rb;exact (Joz o ra rb 9999).2
  ·cases d
 ·obtain ⟨s,z,c,f,o,h⟩:=Jaj d 0 x rfl;obtain rfl:=h rfl;simp at f;subst f;exact (Joz o hx r 10000).2
def Ja9(em:Bool)(n:Nat)(cs:Array Value):List Field->Sem Unit
 | []=>pure ()
 | f::fs=>
  if f.name ≠ "_" then do
   let a <-part f.type cs f.offset
   Instr.checkKey em n f.type a
   Ja9 em n cs fs
  else Ja9 em n cs fs
theorem Jho(em:Bool)(n:Nat)(t:TypeId)(cs:Array Value){fs:Array Field}(e:P.underlying t=some (.struct fs)):(Instr.checkKey em (n+1) t (.agg cs)).run P w=(Ja9 em n cs fs.toList).run P w:=by
 simp only [Instr.checkKey,Sem.run_bind,run_underlying e,Result.andThen_ok];rw [<-Array.forIn_toList];generalize fs.toList=l;clear e
 induction l generalizing w with
 | nil=>simp [Ja9]
 | cons f l d=>
  simp only [List.forIn_cons,Ja9,Sem.run_bind,Sem.run_ite];split
  ·generalize (part f.type cs f.offset).run P w=h;cases h with
   | ok a w1=>
    simp only [Result.andThen_ok];generalize (Instr.checkKey em n f.type a).run P w1=g;cases g with
    | ok b m=>simp only [Result.andThen_ok,Sem.run_pure];exact d
    | _=>rfl
   | _=>rfl
  ·simp only [Sem.run_pure,Result.andThen_ok];exact d
theorem Jp2{g:TypeId->Option (List Bool)}{em:Bool}{d:Nat}(J:∀ {t:TypeId} {sh:List Bool} {ag:Bool} {x:AV} {cx:Value} {b:Bool},g t=some sh->aggT P t=some ag ->
  Rep w S h μ x cx->eqV ag sh x x=some b->(Instr.checkKey em d t cx).run P w=.ok () w):∀ {fs:List Field} {k:Nat} {sh:List Bool} {l:List AV} {cs:Array Value} {b:Bool},Jrj P g fs k=some sh ->
  l.length=cs.size->Holds w S h μ l cs->Jm sh (l.drop k) (l.drop k)=some b->l.length=k+sh.length->(Ja9 em d cs fs).run P w=.ok () w
 | [],k,sh,l,cs,b,e,hl,G,K,E=>by simp [Ja9]
 | f::r,k,sh,l,cs,b,e,hl,G,K,E=>by
  unfold Jrj at e;split at e
  ·rename_i a ag q ha B Y;split at e
   ·rename_i hc;obtain ⟨Z,hn,F,m⟩:=hc;split at e
    ·rename_i r' X;injection e with e;subst e F;obtain ⟨b1,b2,L,e2,e3⟩:=Jbf K;have A:k+a.length<=l.length:=by simp at E;omega
     have pk:∃v,pack ag l f.offset a.length=some v/\(ag=true->v=.agg (cut l k a.length))/\(ag=false->cut l k a.length=[v]):=by
      rw [Z];cases ag with
      | true=>exact ⟨_,by simp [pack,A],λ_=>rfl,λh=>by cases h⟩
      | false=>
       have E:a.length=1:=by simpa using m
       have y:k<l.length:=by omega
       refine ⟨l[k],by simp [pack,A,y],(λh=>by cases h),λ_=>?_⟩;simp only [cut,E];rw [List.drop_eq_getElem_cons y];rfl
     obtain ⟨v1,R,Q,O⟩:=pk;obtain ⟨c1,N,M⟩:=Jbo (P:=P) B Y m hl G R;have H:eqV ag a v1 v1=some b1:=by
      cases ag with
      | true=>rw [Q rfl];simpa [eqV,cut] using L
      | false=>
       simp only [eqV,Ap,if_false];rw [<-O rfl];exact L
     have o:=J ha B M H;simp only [Ja9,hn,ne_eq,not_false_eq_true,if_true,Sem.run_bind,N,Result.andThen_ok,o];exact Jp2 J X hl G (by simpa [List.drop_drop] using e2) (by simp at E;omega)
    ·cases e
   ·cases e
  ·cases e
theorem Js2(em:Bool):∀(n d:Nat) {t:TypeId} {sh:List Bool} {ag:Bool} {x:AV} {cx:Value} {b:Bool},n<=d->eqSh P n t=some sh->aggT P t=some ag ->
  Rep w S h μ x cx->eqV ag sh x x=some b->(Instr.checkKey em d t cx).run P w=.ok () w
 | 0,_,_,_,_,_,_,_,_,h,_,_,_=>by simp [eqSh] at h
 | n+1,0,_,_,_,_,_,_,hd,_,_,_,_=>by omega
 | n+1,d+1,t,sh,ag,x,cx,b,hd,a,e,hx,o=>by
  unfold eqSh at a;unfold aggT at e;split at a
  ·rename_i f;simp only [Instr.checkKey,Sem.run_bind,run_underlying f,Result.andThen_ok,Sem.run_pure]
  ·rename_i k f;simp only [Instr.checkKey,Sem.run_bind,run_underlying f,Result.andThen_ok,Sem.run_pure]
  ·rename_i fs f;rw [f] at e;simp at e;subst e;split at a
   ·cases a
   ·simp only [eqV,if_true] at o;split at o
    ·rename_i l m;obtain ⟨cs,rfl,hl,r⟩:=hx.agg_inv;rw [Jho em d t cs f];have g:=Jb4 o;exact Jp2 (λhx=>Js2 em n d (by omega) hx) a hl r (by simp;exact o) (by simp [g])
    ·cases o
  ·cases a
def EntsOK(w:World)(S:Nat->Prop)(h:Heap)(μ:Gh)(es:List (AV×AV))(es':List MapEntry):Prop:=
 es'.length=es.length/\∀(i:Nat) (k v:AV),es[i]?=some (k,v)->∃e:MapEntry,es'[i]?=some e/\RepP w S k e.key/\Rep w S h μ v e.val
theorem EntsOK.tail{p:AV×AV}{es:List (AV×AV)}{e:MapEntry}{es':List MapEntry}(a:EntsOK w S h μ (p::es) (e::es')):EntsOK w S h μ es es':=
 ⟨by have:=a.1;simp at this;exact this,λi k v d=>by simpa using a.2 (i+1) k v (by simpa using d)⟩
theorem Jum{kt:TypeId}{d:TypeDesc}{sh:List Bool}{ag:Bool}(M:P.underlying kt=some d)(B:eqSh P 6 kt=some sh)(m:aggT P kt=some ag){k:AV}{ck:Value}(J:RepP w S k ck) :
  ∀ {es:List (AV×AV)} {es':List MapEntry} {n:Nat} {r:Option Nat},EntsOK w S h μ es es'->posM ag sh k n es=some r ->
   (Instr.findAsking kt ck es' n).run P w=.ok (r.bind λj=>(es'[j - n]?).map λe=>(j,e.val)) w/\(Instr.findNow d ck es' n=none\/Instr.findNow d ck es' n=some (r.bind λj=>(es'[j - n]?).map λe=>(j,e.val))) /\
   ∀j,r=some j->n<=j/\∃k' H e,es[j - n]?=some (k',H)/\es'[j - n]?=some e/\RepP w S k' e.key/\Rep w S h μ H e.val/\eqV ag sh k k'=some true
 | [],es',n,r,F,v=>by
  cases es' with
  | cons e es'=>have:=F.1;simp at this
  | nil=>
   simp only [posM] at v;injection v with v;subst v;exact ⟨rfl,.inr rfl,λj y=>by cases y⟩
 | p::es,es',n,r,F,v=>by
  obtain ⟨pk,pv⟩:=p;cases es' with
  | nil=>have:=F.1;simp at this
  | cons e es'=>
   obtain ⟨e0,G,o,K⟩:=F.2 0 pk pv rfl;simp at G;subst G;simp only [posM] at v;have N:∀b,eqV ag sh k pk=some b->(Op.equal kt ck e.key).run P w=.ok b w:=λb l=>Jmz (h:=h) (μ:=μ) 6 10000 (by omega) B m (.pure J) (.pure o) l;have A:∀b,eqV ag sh k pk=some b->Instr.sameNow d ck e.key=none\/Instr.sameNow d ck e.key=some b:=by
    intro b l;have f:=B;unfold eqSh at f;unfold aggT at m;rw [M] at f m;cases d with
    | bool=>
     simp at f m;subst f m;simp only [eqV,Ap,if_false,Jm] at l;split at l
     ·rename_i a c g E;injection l with l;injection E with E;subst E;unfold zq at g;split at g
      ·cases ‹true=false›
      ·injection g with g;generalize e.key=ek at o ⊢;cases J;cases o;right;simp only [Instr.sameNow];rw [g,<-l,Bool.and_true]
      ·cases g
     ·cases l
    | int q=>
     simp at f m;subst f m;simp only [eqV,Ap,if_false,Jm] at l;split at l
     ·rename_i a c g E;injection l with l;injection E with E;subst E;unfold zq at g;split at g
      ·split at g
       ·rename_i L;subst L;injection g with g;generalize e.key=ek at o ⊢;cases J;cases o;right;simp only [Instr.sameNow,if_true];rw [g,<-l,Bool.and_true]
       ·cases g
      ·cases ‹false=true›
      ·cases g
     ·cases l
    | _=>first|(left;rfl)|(simp at f)
   split at v
   ·rename_i l;injection v with v;subst v;refine ⟨?_,?_,λj y=>?_⟩
    ·simp only [Instr.findAsking,Sem.run_bind,N true l,Result.andThen_ok,if_true,Sem.run_pure,Bd,Nat.sub_self];rfl
    ·rcases A true l with g|g
     ·left;simp only [Instr.findNow,g]
     ·right;simp only [Instr.findNow,g,Bd,Nat.sub_self];rfl
    ·injection y with y;subst y;exact ⟨Am _,pk,pv,e,by simp,by simp,o,K,l⟩
   ·rename_i l;obtain ⟨Z,Y,a3⟩:=Jum M B m J F.tail v;have sub:∀j,r=some j->j - n=(j - (n+1))+1:=λj y=>by have:=(a3 j y).1;omega
    have eqr:(r.bind λj=>((e::es')[j - n]?).map λe=>(j,e.val))=r.bind λj=>(es'[j - (n+1)]?).map λe=>(j,e.val):=by
     cases r with
     | none=>rfl
     | some j=>simp only [Bd];rw [sub j rfl];simp
    refine ⟨?_,?_,λj y=>?_⟩
    ·rw [eqr];simp only [Instr.findAsking,Sem.run_bind,N false l,Result.andThen_ok,Ap,if_false];exact Z
    ·rw [eqr];rcases A false l with g|g
     ·left;simp only [Instr.findNow,g]
     ·simp only [Instr.findNow,g];exact Y
    ·obtain ⟨b1,k',H,O,X,R,Q⟩:=a3 j y;refine ⟨by omega,k',H,O,?_,?_,Q⟩
     ·rw [sub j y];simpa using X
     ·rw [sub j y];simpa using R
   ·cases v
theorem Jer{kt:TypeId}{d:TypeDesc}{sh:List Bool}{ag:Bool}(m:P.underlying kt=some d)(f:eqSh P 6 kt=some sh)(g:aggT P kt=some ag){k:AV}{ck:Value}(y:RepP w S k ck)
  {es:List (AV×AV)} {es':List MapEntry} {r:Option Nat} (B:EntsOK w S h μ es es') (v:posM ag sh k 0 es=some r) :
  (Instr.findKey kt ck es').run P w=.ok (r.bind λj=>(es'[j]?).map λe=>(j,e.val)) w /\
   ∀j,r=some j->∃k' l e,es[j]?=some (k',l)/\es'[j]?=some e/\RepP w S k' e.key/\Rep w S h μ l e.val/\eqV ag sh k k'=some true:=by
 obtain ⟨o,a,a3⟩:=Jum (h:=h) (μ:=μ) m f g y B v;simp only [Nat.sub_zero] at o a a3;refine ⟨?_,λj A=>(a3 j A).2⟩;simp only [Instr.findKey,Sem.run_bind,run_underlying m,Result.andThen_ok];rcases a with a|a
 ·simp only [a];exact o
 ·simp only [a,Sem.run_pure]
theorem Jko{kt:TypeId}{sh:List Bool}(a:eqSh P 6 kt=some sh):∃d,P.underlying kt=some d:=by
 unfold eqSh at a;split at a
 ·exact ⟨_,by assumption⟩
 ·exact ⟨_,by assumption⟩
 ·exact ⟨_,by assumption⟩
 ·cases a
theorem Jii{ag:Bool}{sh:List Bool}{k:AV}(a:Jrc ag sh k=true):∃b,eqV ag sh k k=some b:=by unfold Jrc at a;exact Option.isSome_iff_exists.1 a
theorem J0g(m:RepH w S h μ){g ver:Nat}{es:List (AV×AV)}{cx:Value}(a:curM h g ver=some es)(A:Rep w S h μ (.map g ver) cx) :
  h g=some (.map ver es false)/\cx=.map (some (μ.b g))/\∃(es':Array MapEntry) (clock:Nat),w.heap[μ.b g]?=some (.map es' clock)/\EntsOK w S h μ es es'.toList/\Born es' clock:=by
 unfold curM at a;split at a
 ·rename_i v es1 r;split at a
  ·rename_i f;subst f;injection a with a;subst a;refine ⟨r,?_,?_⟩
   ·cases A with
    | pure m=>cases m
    | map _ _ _ o d _ _ l=>rw [r] at d;cases d;exact l rfl
   ·obtain ⟨es',clock,H,y,-,G⟩:=m.ob g _ r;exact ⟨es',clock,H,⟨by simpa using y.1,λi k v E=>by obtain ⟨e,F,B,f⟩:=G i k v E;exact ⟨e,by simpa using F,B,f⟩⟩,y.2⟩
  ·cases a
 ·cases a
theorem upZ_rep{x:AV}{v:Value}(a:Rep w S h μ x v):Rep w S h μ (upZ x) v:=by
 cases x with
 | nils=>rw [a.nils_inv];exact .pure .lst0
 | _=>exact a
theorem Jvh(X:RepH w S h μ){t kt et:TypeId}{ok ag:Bool}{sh:List Bool}{zv:AV}(K:P.underlying t=some (.map kt et))(G:eqSh P 6 kt=some sh)(O:aggT P kt=some ag)(J:zvC P et=some zv)
  {x k v:AV} {cx ck:Value} (hx:Rep w S h μ x cx) (Z:Rep w S h μ k ck) (B:Jyk ok ag sh (upZ zv) k (esOf h x)=some v) :
  ∃cv,(Instr.lookup t cx ck ok).run P w=.ok cv w/\Rep w S h μ v cv:=by
 obtain ⟨d,hd⟩:=Jko G;obtain ⟨zval,F,zrep⟩:∃zval,(zeroValue et).run P w=.ok zval w/\Rep w S h μ (upZ zv) zval:=by
  unfold zvC at J;split at J
  ·rename_i i l;split at J
   ·rename_i z R;exact ⟨z,by simp [zeroValue,typeInfo,l,R],upZ_rep (Jw1 J)⟩
   ·cases J
  ·cases J
 have core:∀(es:List (AV×AV)) (es':Array MapEntry) (emp:Bool),EntsOK w S h μ es es'.toList->Jrc ag sh k=true->lookP ok (upZ zv) es (posM ag sh k 0 es)=some v ->
   (Instr.checkKey emp 10000 kt ck).run P w=.ok () w/\(((Instr.findKey kt ck es'.toList).run P w=.ok none w/\Rep w S h μ v (if ok=true then .tuple #[zval,.bool false] else zval)) \/
    ∃j cv,(Instr.findKey kt ck es'.toList).run P w=.ok (some (j,cv)) w/\Rep w S h μ v (if ok=true then .tuple #[cv,.bool true] else cv)):=by
  intro es es' emp M o m;obtain ⟨b,hb⟩:=Jii o;have N:=Js2 (P:=P) (w:=w) emp 6 10000 (by omega) G O Z hb;unfold lookP at m;split at m
  ·rename_i r hr;obtain ⟨f1,f2⟩:=Jer (h:=h) (μ:=μ) hd G O (Jog hb Z) M hr;injection m with m;have fin:∀(bv:Bool) (u:AV) (cu:Value),Rep w S h μ u cu->v=(if ok=true then .tup [u,.bool bv] else u)->Rep w S h μ v (if ok=true then .tuple #[cu,.bool bv] else cu):=by
    intro bv u cu Y e;rw [e];cases ok with
    | false=>exact Y
    | true=>
     refine .tup _ _ rfl λi y l=>?_
     match i,l with
     | 0,l=>simp at l;subst l;simpa using Y
     | 1,l=>simp at l;subst l;exact .pure (.bool _)
   cases r with
   | none=>exact ⟨N,.inl ⟨f1,fin false (upZ zv) zval zrep (by rw [<-m];rfl)⟩⟩
   | some j=>
    obtain ⟨k',v',e,g1,g2,-,g4,-⟩:=f2 j rfl;refine ⟨N,.inr ⟨j,e.val,by rw [f1];simp only [Bd,g2,Ax],fin true v' e.val g4 (by rw [<-m];simp only [atM,g1];rfl)⟩⟩
  ·cases m
 unfold Jyk at B;split at B
 ·rename_i es a;split at B
  ·rename_i o;unfold esOf at a;split at a
   ·injection a with a;subst a;obtain rfl:cx=.map none:=by cases hx with|pure X=>cases X;rfl
    obtain ⟨E,f⟩:=core [] #[] true ⟨rfl,λi k v l=>by simp at l⟩ o B;rcases f with ⟨f,A⟩|⟨j,cv,f,A⟩
    ·exact ⟨_,by simp [Instr.lookup,run_underlying K,E,f,F,Result.andThen],A⟩
    ·exact ⟨_,by simp [Instr.lookup,run_underlying K,E,f,Result.andThen],A⟩
   ·rename_i ks vs;injection a with a;subst a;obtain ⟨b,es',clock,rfl,-,L,n1,n2,r1,r2⟩:=hx.mpr_inv;have Q:EntsOK w S h μ (ks.zip vs) es'.toList:=by
     refine ⟨by rw [List.length_zip];simp;omega,λi k v l=>?_⟩;rw [Bt] at l;have H:i<es'.size:=by have:=(Ab.1 l.1).1;omega
     exact ⟨es'[i],by simp [H],r1 i k _ l.1 (by simp [H]),.pure (r2 i v _ l.2 (by simp [H]))⟩
    obtain ⟨E,f⟩:=core _ es' es'.isEmpty Q o B;rcases f with ⟨f,A⟩|⟨j,cv,f,A⟩
    ·exact ⟨_,by simp [Instr.lookup,run_underlying K,MapKept.run_getObj_map L,E,f,F,Result.andThen],A⟩
    ·exact ⟨_,by simp [Instr.lookup,run_underlying K,MapKept.run_getObj_map L,E,f,Result.andThen],A⟩
   ·rename_i g ver;obtain ⟨-,rfl,es',clock,L,Q,mbn⟩:=J0g X a hx;obtain ⟨E,f⟩:=core es es' es'.isEmpty Q o B;rcases f with ⟨f,A⟩|⟨j,cv,f,A⟩
    ·exact ⟨_,by simp [Instr.lookup,run_underlying K,MapKept.run_getObj_map L,E,f,F,Result.andThen],A⟩
    ·exact ⟨_,by simp [Instr.lookup,run_underlying K,MapKept.run_getObj_map L,E,f,Result.andThen],A⟩
   ·cases a
  ·cases B
 ·cases B
def mapW(w:World)(b:Nat)(new:Array MapEntry)(clock:Nat):World:={ w with heap:=w.heap.setIfInBounds b (.map new clock) }
theorem map_set(l:RepH w S h μ){g ver:Nat}{es es2:List (AV×AV)}(r:h g=some (.map ver es false)){old:Array MapEntry}{clock:Nat}(M:w.heap[μ.b g]?=some (.map old clock)){new:Array MapEntry}{clock':Nat}(L:EntsOK w S h μ es2 new.toList)(J:Born new clock') :
  Ran w S h μ (.tup []) (upd h g (some (.map ver es2 false))) (.tuple #[]) (mapW w (μ.b g) new clock'):=by
 have F:μ.b g<w.heap.size:=(Ac.1 M).1;have oth:∀b,b≠μ.b g->(mapW w (μ.b g) new clock').heap[b]?=w.heap[b]?:=λb E=>by simp only [mapW,Array.getElem?_setIfInBounds];rw [if_neg (λe=>E e.symm)]
 have same:(mapW w (μ.b g) new clock').heap[μ.b g]?=some (.map new clock'):=by simp [mapW,F]
 have ev:Evo w S h μ (mapW w (μ.b g) new clock') S (upd h g (some (.map ver es2 false))) μ:=by
  refine ⟨rfl,rfl,⟨rfl,Am _⟩,by simp [mapW],λb _ B=>oth b λe=>B ⟨g,_,r,rfl,rfl,e.symm⟩,λb cs el z H=>⟨cs,?_,rfl⟩,λ_ h=>h,λ_ h=>.inl h,λb ⟨d,o',a,hz,m,e⟩=>?_,rfl⟩
  ·rw [oth b λe=>by rw [e,M] at H;cases H];exact H
  ·by_cases f:d=g
   ·subst f;exact .inl ⟨d,_,r,rfl,rfl,e⟩
   ·rw [Jc _ _ _ _ f] at a;exact .inl ⟨d,o',a,hz,m,e⟩
 have vv:EvoV h μ (upd h g (some (.map ver es2 false))) μ:=by
  intro d o' a;by_cases f:d=g
  ·subst f;rw [r] at a;cases a;exact ⟨_,Jh _ _ _,Am _,λ_=>⟨⟨rfl,rfl⟩,by simp [AObj.like,AObj.kind]⟩⟩
  ·exact ⟨o',by rw [Jc _ _ _ _ f];exact a,Am _,λ_=>⟨⟨rfl,rfl⟩,.refl o'⟩⟩
 refine ⟨S,μ,.pure (.tup [] #[] rfl λi x G=>by simp at G),⟨λd o' a=>?_,λO N o1 o2 h1 h2 l1 l2 e=>?_,λd o' a A m hs=>?_,λb K=>by have:=l.lt b K;simpa [mapW] using this⟩,ev,vv⟩
 ·by_cases f:d=g
  ·subst f;rw [Jh] at a;cases a;refine ⟨new,clock',same,⟨by simpa using L.1,J⟩,λq=>absurd q (by simp),λi k v G=>?_⟩;obtain ⟨e,he,hk,hv⟩:=L.2 i k v G;exact ⟨e,by simpa using he,hk.evo l ev,hv.evo l ev vv⟩
  ·rw [Jc _ _ _ _ f] at a;exact (l.ob d o' a).evo l ev vv (λy=>oth _ λe=>f (l.inj d g o' _ a r y rfl e))
 ·have key:∀d o',upd h g (some (.map ver es2 false)) d=some o'->o'.live=true->∃o,h d=some o/\o.live=true:=λd o' a y=>by
   by_cases f:d=g
   ·subst f;exact ⟨_,r,rfl⟩
   ·rw [Jc _ _ _ _ f] at a;exact ⟨_,a,y⟩
  obtain ⟨Z,X,Q⟩:=key O o1 h1 l1;obtain ⟨Y,R,P⟩:=key N o2 h2 l2;exact l.inj O N Z Y X R Q P e
 ·by_cases f:d=g
  ·subst f;exact l.own d _ r rfl rfl hs
  ·rw [Jc _ _ _ _ f] at a;exact l.own d o' a A m hs
theorem Jlc(L:RepH w S h μ){t kt et:TypeId}{ag:Bool}{sh:List Bool}(ht:P.underlying t=some (.map kt et))(o:eqSh P 6 kt=some sh)(H:aggT P kt=some ag)
  {x k v:AV} {h':Heap} {cx ck cv:Value} (hx:Rep w S h μ x cx) (hk:Rep w S h μ k ck) (Z:Rep w S h μ v cv) (a:setV h ag sh k v x=some h') :
  ∃w',(Instr.mapUpdate t cx ck cv).run P w=.ok () w'/\Ran w S h μ (.tup []) h' (.tuple #[]) w':=by
 obtain ⟨d,hd⟩:=Jko o;unfold setV at a;split at a
 ·rename_i g ver;split at a
  ·rename_i es R;split at a
   ·rename_i O;obtain ⟨b,hb⟩:=Jii O;obtain ⟨ho,rfl,es',clock,E,B,mbn⟩:=J0g L R hx;have G:=Js2 (P:=P) (w:=w) false 6 10000 (by omega) o H hk hb;have l:=Jog hb hk;unfold setE at a;split at a
    ·rename_i r hr;injection a with a;subst a;obtain ⟨f1,f2⟩:=Jer (h:=h) (μ:=μ) hd o H l B hr;cases r with
     | none=>
      refine ⟨mapW w (μ.b g) (es'.push { key:=ck,val:=cv,born:=clock }) (clock+1),by simp [mapW,Instr.mapUpdate,run_underlying ht,MapKept.run_getObj_map E,G,f1,MapKept.run_setObj_map _ E,Result.andThen],map_set L ho E ⟨by simp [putM,B.1],λi K v2 f=>?_⟩ (Jzj mbn _ _)⟩;simp only [putM] at f;by_cases M:i<es.length
      ·rw [Be M] at f;obtain ⟨e,a,Y⟩:=B.2 i K v2 f;have:=(Ab.1 a).1;exact ⟨e,by simpa [Be this] using a,Y⟩
      ·rw [Bs (by omega)] at f;have Q:i=es.length:=by have:=(Ab.1 f).1;simp at this;omega
       subst Q;simp at f;obtain ⟨rfl,rfl⟩:=f;have N:es'.size=es.length:=by simpa using B.1
       exact ⟨{ key:=ck,val:=cv,born:=clock },by simp [N],l,Z⟩
     | some j=>
      obtain ⟨k',v',e,g1,g2,g3,g4,g5⟩:=f2 j rfl;have J:es'[j]?=some e:=by simpa using g2
      have A:=eqV_bits g5 l g3;have m:(Instr.keyThatStays e.key ck).run P w=.ok ck w:=by simp [Instr.keyThatStays,A]
      refine ⟨mapW w (μ.b g) (es'.modify j λe=>{ e with key:=ck,val:=cv }) clock,by simp [mapW,Instr.mapUpdate,run_underlying ht,MapKept.run_getObj_map E,G,f1,J,m,MapKept.run_setObj_map _ E,Result.andThen],map_set L ho E ⟨by simp [putM];simpa using B.1,λi K v2 f=>?_⟩ (Jr6 mbn _ _ λ_=>rfl)⟩;simp only [putM,List.getElem?_set] at f;split at f
      ·rename_i y;subst y;split at f
       ·simp at f;obtain ⟨rfl,rfl⟩:=f;exact ⟨{ e with key:=ck,val:=cv },by simp [J],l,Z⟩
       ·cases f
      ·rename_i y;obtain ⟨e2,X,Y⟩:=B.2 i K v2 f;have F:es'[i]?=some e2:=by simpa using X
       exact ⟨e2,by simp [F,y],Y⟩
    ·cases a
   ·cases a
  ·cases a
 ·cases a
theorem Jwj(H:RepH w S h μ){t kt et ty:TypeId}{ts:Array TypeId}(A:ts[0]?=some t){ag:Bool}{sh:List Bool}(R:P.underlying t=some (.map kt et))(l:eqSh P 6 kt=some sh)(F:aggT P kt=some ag)
  {x k:AV} {h':Heap} {cx ck:Value} (hx:Rep w S h μ x cx) (Y:Rep w S h μ k ck) (a:delV h ag sh k x=some h') :
  ∃w',(Builtin.delete_ ts ty #[cx,ck]).run P w=.ok (.tuple #[]) w'/\Ran w S h μ (.tup []) h' (.tuple #[]) w':=by
 obtain ⟨d,hd⟩:=Jko l;unfold delV at a;split at a
 ·rename_i g ver;split at a
  ·rename_i es L;split at a
   ·rename_i K;obtain ⟨b,Z⟩:=Jii K;obtain ⟨X,rfl,es',clock,v,y,mbn⟩:=J0g H L hx;have E:=Js2 (P:=P) (w:=w) es'.isEmpty 6 10000 (by omega) l F Y Z;have J:=Jog Z Y;unfold delE at a;split at a
    ·rename_i r hr;injection a with a;subst a;obtain ⟨f1,f2⟩:=Jer (h:=h) (μ:=μ) hd l F J y hr;cases r with
     | none=>
      refine ⟨mapW w (μ.b g) es' clock,by simp [mapW,Builtin.delete_,A,run_underlying R,MapKept.run_getObj_map v,E,f1,MapKept.run_setObj_map _ v,Result.andThen],map_set H X v y mbn⟩
     | some j=>
      obtain ⟨k',v',e,g1,g2,g3,g4,g5⟩:=f2 j rfl;have f:es'[j]?=some e:=by simpa using g2
      refine ⟨mapW w (μ.b g) (es'.eraseIdxIfInBounds j) clock,by simp [mapW,Builtin.delete_,A,run_underlying R,MapKept.run_getObj_map v,E,f1,f,MapKept.run_setObj_map _ v,Result.andThen],map_set H X v ⟨?_,λi Q v2 G=>?_⟩ (born_sub mbn (by have B:=(Ac.1 f).1;rw [show (es'.eraseIdxIfInBounds j).toList=es'.toList.eraseIdx j by simp [Bg,B]];exact List.eraseIdx_sublist _ _))⟩
      ·have B:=(Ac.1 f).1;have hl:=y.1;simp only [Bx] at hl;simp only [outM,Bx,List.length_eraseIdx];rw [if_pos (by omega)];simp [Bg,B];omega
      ·have B:=(Ac.1 f).1;have M:(es'.eraseIdxIfInBounds j).toList=es'.toList.eraseIdx j:=by simp [Bg,B]
       simp only [outM,Bm] at G;rw [M];split at G
       ·rename_i m;obtain ⟨O,o,N⟩:=y.2 i Q v2 G;exact ⟨O,by rw [Bm,if_pos m];exact o,N⟩
       ·rename_i m;obtain ⟨O,o,N⟩:=y.2 (i+1) Q v2 G;exact ⟨O,by rw [Bm,if_neg m];exact o,N⟩
    ·cases a
   ·cases a
  ·cases a
 ·cases a
theorem Jz6(a:RepH w S h μ){t kt et:TypeId}(_:P.underlying t=some (.map kt et))(g:Nat) :
  ∃cv w',(Instr.makeMap t none).run P w=.ok cv w'/\Ran w S h μ (.map g (Jv h g)) (upd h g (some (.map (Jv h g) [] false))) cv w':=by
 obtain ⟨ev,vv⟩:=Jrr (w:=w) (S:=S) (h:=h) (μ:=μ) g (.map (Jv h g) [] false) (.map #[] 0) (.inl rfl);refine ⟨.map (some w.heap.size),w.alloc (.map #[] 0),by simp [Instr.makeMap],S,_,?_,Juj a (.inl rfl) ?_,ev,vv⟩
 ·exact .map g _ _ (.map (Jv h g) [] false) (Jh _ _ _) (Am _) rfl λ_=>by simp [Gh.set,Jh]
 ·exact ⟨#[],0,heap_alloc_new w (.map #[] 0),⟨rfl,born_nil 0⟩,λq=>absurd q (by simp),λi k v d=>by simp at d⟩
end
theorem za{α β:Type}{f:α->Option β}:∀ {l:List α} {ps:List β},l.mapM f=some ps->ps.length=l.length/\∀(i:Nat) (x:α),l[i]?=some x->∃p,ps[i]?=some p/\f x=some p
 | [],ps,h=>by simp at h;subst h;exact ⟨rfl,λi x a=>by simp at a⟩
 | x::l,ps,h=>by
  rw [List.mapM_cons] at h;cases hx:f x with
  | none=>rw [hx] at h;cases h
  | some y=>
   cases hl:l.mapM f with
   | none=>rw [hx,hl] at h;cases h
   | some qs=>
    rw [hx,hl] at h;injection h with h;subst h;obtain ⟨e,d⟩:=za hl;refine ⟨by simp [e],λi z a=>?_⟩;cases i with
    | zero=>simp at a;subst a;exact ⟨y,rfl,hx⟩
    | succ i=>simpa using d i z (by simpa using a)
section
variable {w:World} {S:Nat->Prop} {h:Heap} {μ:Gh}
theorem Rep.flat{x:AV}{v:Value}(d:Rep w S h μ x v)(a:x.flat=true):RepP w S x v:=by
 cases d with
 | pure e=>exact e
 | any=>simp [AV.flat] at a
 | fn=>simp [AV.flat] at a
 | agg=>simp [AV.flat] at a
 | tup=>simp [AV.flat] at a
 | arr=>simp [AV.flat] at a
 | ptr=>simp [AV.flat] at a
 | map=>simp [AV.flat] at a
 | yld=>simp [AV.flat] at a
theorem Jf5:∀ {l:List AV},Jvr l=true->∀(i:Nat) (x:AV),l[i]?=some x->x.noNm=true
 | [],_,i,x,hx=>by simp at hx
 | v::r,a,i,x,hx=>by
  simp only [Jvr,Ad] at a;cases i with
  | zero=>simp at hx;subst hx;exact a.1
  | succ i=>exact Jf5 a.2 i x (by simpa using hx)
theorem Rep.noNm{x:AV}{v:Value}(g:Rep w S h μ x v)(d:x.noNm=true):RepP w S x v:=by
 induction g with
 | pure m=>exact m
 | any=>simp [AV.noNm] at d
 | fn f l cs hl g e=>exact .fn f l cs hl λi x a=>e i x a (Jf5 (by simpa only [AV.noNm] using d) i x a)
 | agg l cs hl o g e=>exact .agg l cs hl o λi x a=>e i x a (Jf5 (by simpa only [AV.noNm] using d) i x a)
 | tup l cs hl g e=>exact .tup l cs hl λi x a=>e i x a (Jf5 (by simpa only [AV.noNm] using d) i x a)
 | arr=>simp [AV.noNm] at d
 | ptr=>simp [AV.noNm] at d
 | map=>simp [AV.noNm] at d
 | yld=>simp [AV.noNm] at d
def Liv(h:Heap)(μ:Gh)(ns:List Nat)(b:Nat):Prop:=∃g∈ns,∃o,h g=some o/\o.live=true/\μ.b g=b
def Met(S':Nat->Prop)(h:Heap)(μ:Gh)(ns:List Nat):Prop:=∀g,g∈ns->∀o,h g=some o->o.live=true->S' (μ.b g)
theorem jk(hp:RepH w S h μ){S':Nat->Prop}(hS:∀b,S b->S' b):∀(k:Nat) {v u:AV} {ns:List Nat} {c:Value},snap h k v=some (u,ns)->Rep w S h μ v c->Met S' h μ ns->RepP w S' u c
 | 0,v,u,ns,c,hs,_,_=>by simp [snap] at hs
 | k+1,v,u,ns,c,hs,N,hm=>by
  have lst:∀ {l:List AV} {ps:List (AV×List Nat)},l.mapM (snap h k)=some ps->(∀g,g∈ps.flatMap (·.2)->g∈ns) ->
    (ps.map (·.1)).length=l.length/\∀(i:Nat) (y:AV),(ps.map (·.1))[i]?=some y->∃x,l[i]?=some x/\∀c,Rep w S h μ x c->RepP w S' y c:=by
   intro l ps hl P;obtain ⟨Y,J⟩:=za hl;refine ⟨by simp [Y],λi y d=>?_⟩;rw [Ay] at d;cases H:ps[i]? with
   | none=>rw [H] at d;cases d
   | some p=>
    rw [H] at d;injection d with d;have L:i<l.length:=by have:=(Ab.1 H).1;omega
    obtain ⟨p',K,hp2⟩:=J i l[i] (Ae L);rw [H] at K;injection K with K;subst K;refine ⟨l[i],Ae L,λc hc=>?_⟩;subst d;exact jk hp hS k (u:=p.1) (ns:=p.2) hp2 hc (λg hg=>hm g (P g (As.2 ⟨p,Ai H,hg⟩)))
  unfold snap at hs;split at hs
  ·cases hs
  ·cases hs
  ·cases hs
  ·cases hs
  ·rename_i g ver off len;split at hs
   ·rename_i ver' esz el cells fz Q;split at hs
    ·rename_i hc;obtain ⟨rfl,hle⟩:=hc;by_cases e:cells=[]
     ·obtain ⟨rfl,rfl,A,rfl⟩:=(N.arr_inv0 Q).1 e;have hc0:cut cells (0 * esz) (0 * esz)=[]:=by simp [cut]
      simp only [hc0,List.all_nil,if_true] at hs;cases hs;cases A with
      | none=>exact .lst0
      | some a=>exact .lst 0 [] a 0 (λ_=>undef) (λq=>(q rfl).elim) (Am _) (λi x d=>by simp at d) (λi x d=>by simp at d) (λi x d=>by simp at d)
     obtain ⟨a,cap,cs0,el0,z0,rfl,X,hb0,hsz0,ha⟩:=N.arr_inv Q e;obtain ⟨cs,hb,hsz,G,_⟩:=hp.ob g _ Q e;have key:∀i x,(cut cells (off * esz) (len * esz))[i]?=some x->0<cap/\cells[off * esz+i]?=some x/\w.cell? (a.add i)=some (cs.getD (μ.o g+(off * esz+i)) undef):=by
      intro i x d;simp only [cut,List.getElem?_take,List.getElem?_drop] at d;split at d
      ·rename_i L;have M:0<cap:=by
        rcases Nat.eq_zero_or_pos len with h0|h0
        ·rw [h0,Nat.zero_mul] at L;omega
        ·omega
       have R:μ.o g+(off * esz+i)<cs.size:=by have:=(Ab.1 d).1;omega
       exact ⟨M,d,by rw [ha M,Jff hb,Nat.add_assoc,getD_some R]⟩
      ·cases d
     simp only at hs;split at hs
     ·rename_i F;injection hs with hs;simp only [Aa] at hs;obtain ⟨rfl,rfl⟩:=hs;refine .lst _ _ _ _ (λi=>cs.getD (μ.o g+(off * esz+i)) undef) (λO=>?_) X.1 (λi x d=>(key i x d).2.2) (λi x d=>(G _ x (key i x d).2.1).2) (λi x d=>?_)
      ·cases m:cut cells (off * esz) (len * esz) with
       | nil=>exact (O m).elim
       | cons x r=>rw [ha (key 0 x (by rw [m];rfl)).1];exact hm g (by simp) _ Q (Ki.2 e)
      ·have hf:=Af.1 F x (Ai d);exact ((G _ x (key i x d).2.1).1.flat hf).mono hS (λ_ _=>rfl)
     ·split at hs
      ·rename_i ps B;injection hs with hs;simp only [Aa] at hs;obtain ⟨rfl,rfl⟩:=hs;obtain ⟨Y,J⟩:=lst B (λg' E=>Ak _ E);have key2:∀i y,(ps.map (·.1))[i]?=some y->∃x,(cut cells (off * esz) (len * esz))[i]?=some x/\∀c,Rep w S h μ x c->RepP w S' y c:=J;refine .lst _ _ _ _ (λi=>cs.getD (μ.o g+(off * esz+i)) undef) (λO=>?_) X.1 (λi y d=>?_) (λi y d=>?_) (λi y d=>?_)
       ·cases m:ps.map (·.1) with
        | nil=>exact (O m).elim
        | cons x r=>
         obtain ⟨x',Z,_⟩:=key2 0 x (by rw [m];rfl);rw [ha (key 0 x' Z).1];exact hm g (by simp) _ Q (Ki.2 e)
       ·obtain ⟨x,hx,_⟩:=key2 i y d;exact (key i x hx).2.2
       ·obtain ⟨x,hx,_⟩:=key2 i y d;exact (G _ x (key i x hx).2.1).2
       ·obtain ⟨x,hx,o⟩:=key2 i y d;exact o _ (G _ x (key i x hx).2.1).1
      ·cases hs
    ·cases hs
   ·cases hs
  ·rename_i f caps;split at hs
   ·rename_i ps B;injection hs with hs;simp only [Aa] at hs;obtain ⟨rfl,rfl⟩:=hs;obtain ⟨Y,J⟩:=lst B (λg' E=>E);obtain ⟨cs,rfl,hl,G⟩:=N.fn_inv;exact .fn _ _ cs (by omega) (λi y d=>by obtain ⟨x,hx,o⟩:=J i y d;exact o _ (G i x hx))
   ·cases hs
  ·rename_i l;split at hs
   ·rename_i F;injection hs with hs;simp only [Aa] at hs;obtain ⟨rfl,rfl⟩:=hs;obtain ⟨cs,rfl,hl,G⟩:=N.agg_inv;exact .agg _ cs hl (λi x d=>(G i x d).2) (λi x d=>((G i x d).1.flat (Af.1 F x (Ai d))).mono hS (λ_ _=>rfl))
   ·split at hs
    ·rename_i ps B;injection hs with hs;simp only [Aa] at hs;obtain ⟨rfl,rfl⟩:=hs;obtain ⟨Y,J⟩:=lst B (λg' E=>E);obtain ⟨cs,rfl,hl,G⟩:=N.agg_inv;exact .agg _ cs (by omega) (λi y d=>by obtain ⟨x,hx,_⟩:=J i y d;exact (G i x hx).2) (λi y d=>by obtain ⟨x,hx,o⟩:=J i y d;exact o _ (G i x hx).1)
    ·cases hs
  ·rename_i l;split at hs
   ·rename_i ps B;injection hs with hs;simp only [Aa] at hs;obtain ⟨rfl,rfl⟩:=hs;obtain ⟨Y,J⟩:=lst B (λg' E=>E);obtain ⟨cs,rfl,hl,G⟩:=N.tup_inv;exact .tup _ cs (by omega) (λi y d=>by obtain ⟨x,hx,o⟩:=J i y d;exact o _ (G i x hx))
   ·cases hs
  ·rename_i x1 x2 xy x3 x4 x5 x6 x7;injection hs with hs;simp only [Aa] at hs;obtain ⟨rfl,rfl⟩:=hs;cases N with
   | pure hp'=>exact hp'.mono hS (λ_ _=>rfl)
   | any=>exact (x1 rfl).elim
   | fn=>exact (x5 _ _ rfl).elim
   | agg=>exact (x6 _ rfl).elim
   | tup=>exact (x7 _ rfl).elim
   | arr=>exact (x4 _ _ _ _ rfl).elim
   | ptr=>exact (x2 _ _ _ rfl).elim
   | map=>exact (x3 _ _ rfl).elim
   | yld=>exact (xy _ rfl).elim
theorem jv:∀(k:Nat) {v u:AV} {ns:List Nat},snap h k v=some (u,ns)->∀g∈ns,∃o,h g=some o/\o.freeze.fz=true
 | 0,v,u,ns,hs=>by simp [snap] at hs
 | k+1,v,u,ns,hs=>by
  have lst:∀ {l:List AV} {ps:List (AV×List Nat)},l.mapM (snap h k)=some ps->∀g∈ps.flatMap (·.2),∃o,h g=some o/\o.freeze.fz=true:=by
   intro l ps hl g d;obtain ⟨E,A⟩:=za hl;obtain ⟨p,y,d⟩:=As.1 d;obtain ⟨i,w⟩:=Bc y;have m:i<l.length:=by have:=(Ab.1 w).1;omega
   obtain ⟨B,e,f⟩:=A i l[i] (Ae m);rw [w] at e;injection e with e;subst e;exact jv k (u:=p.1) (ns:=p.2) f g d
  unfold snap at hs;split at hs
  ·cases hs
  ·cases hs
  ·cases hs
  ·cases hs
  ·rename_i g0 ver off len;split at hs
   ·rename_i ver' esz el cells fz r;split at hs
    ·simp only at hs;split at hs
     ·injection hs with hs;simp only [Aa] at hs;obtain ⟨rfl,rfl⟩:=hs;intro g d;simp at d;subst d;exact ⟨_,r,rfl⟩
     ·split at hs
      ·rename_i ps a;injection hs with hs;simp only [Aa] at hs;obtain ⟨rfl,rfl⟩:=hs;intro g d;rcases Ah.1 d with rfl|d
       ·exact ⟨_,r,rfl⟩
       ·exact lst a g d
      ·cases hs
    ·cases hs
   ·cases hs
  ·split at hs
   ·rename_i ps a;injection hs with hs;simp only [Aa] at hs;obtain ⟨rfl,rfl⟩:=hs;exact lst a
   ·cases hs
  ·split at hs
   ·injection hs with hs;simp only [Aa] at hs;obtain ⟨rfl,rfl⟩:=hs;intro g d;simp at d
   ·split at hs
    ·rename_i ps a;injection hs with hs;simp only [Aa] at hs;obtain ⟨rfl,rfl⟩:=hs;exact lst a
    ·cases hs
  ·split at hs
   ·rename_i ps a;injection hs with hs;simp only [Aa] at hs;obtain ⟨rfl,rfl⟩:=hs;exact lst a
   ·cases hs
  ·injection hs with hs;simp only [Aa] at hs;obtain ⟨rfl,rfl⟩:=hs;intro g d;simp at d
theorem Jey(r:RepH w S h μ){S':Nat->Prop}(hS:∀b,S b->S' b){l vs:List AV}{ns:List Nat}(hs:Jco h l=some (vs,ns))(v:Met S' h μ ns) :
  vs.length=l.length/\∀(i:Nat) (y:AV),vs[i]?=some y->∃x,l[i]?=some x/\∀c,Rep w S h μ x c->RepP w S' y c:=by
 unfold Jco at hs;split at hs
 ·rename_i ps m;injection hs with hs;simp only [Aa] at hs;obtain ⟨rfl,rfl⟩:=hs;obtain ⟨F,E⟩:=za m;refine ⟨by simp [F],λi y e=>?_⟩;rw [Ay] at e;cases a:ps[i]? with
  | none=>rw [a] at e;cases e
  | some p=>
   rw [a] at e;injection e with e;have f:i<l.length:=by have:=(Ab.1 a).1;omega
   obtain ⟨G,d,o⟩:=E i l[i] (Ae f);rw [a] at d;injection d with d;subst d;refine ⟨l[i],Ae f,λc B=>?_⟩;subst e;exact jk r hS depth (u:=p.1) (ns:=p.2) o B (λg A=>v g (As.2 ⟨p,Ai a,A⟩))
 ·cases hs
theorem Jcf{l vs:List AV}{ns:List Nat}(hs:Jco h l=some (vs,ns)):∀g∈ns,∃o,h g=some o/\o.freeze.fz=true:=by
 unfold Jco at hs;split at hs
 ·rename_i ps d;injection hs with hs;simp only [Aa] at hs;obtain ⟨rfl,rfl⟩:=hs;intro g m;obtain ⟨p,v,m⟩:=As.1 m;obtain ⟨A,w⟩:=za d;obtain ⟨i,r⟩:=Bc v;have f:i<l.length:=by have:=(Ab.1 r).1;omega
  obtain ⟨y,a,e⟩:=w i l[i] (Ae f);rw [r] at a;injection a with a;subst a;exact jv depth (u:=p.1) (ns:=p.2) e g m
 ·cases hs
theorem Jl0(o:AObj):o.freeze.ver=o.ver:=by cases o<;>rfl
theorem Jjm(o:AObj):o.like o.freeze:=by cases o<;>simp [AObj.freeze,AObj.like,AObj.kind]
theorem Jfn(E:RepH w S h μ){ns:List Nat}(Y:∀g∈ns,∃o,h g=some o/\o.freeze.fz=true) :
  RepH w (λb=>S b\/Liv h μ ns b) (Jd h ns) μ/\Evo w S h μ w (λb=>S b\/Liv h μ ns b) (Jd h ns) μ/\EvoV h μ (Jd h ns) μ:=by
 have inv:∀g o,Jd h ns g=some o->∃f,h g=some f/\(o=f\/(o=f.freeze/\g∈ns)):=by
  intro g o a;unfold Jd at a;split at a
  ·rename_i y;cases d:h g with
   | none=>rw [d] at a;cases a
   | some f=>rw [d] at a;injection a with a;exact ⟨f,rfl,.inr ⟨a.symm,y⟩⟩
  ·exact ⟨o,a,.inl rfl⟩
 have fz:∀g∈ns,∀o,Jd h ns g=some o->o.fz=true:=by intro g y o a;obtain ⟨f,F,A⟩:=Y g y;unfold Jd at a;rw [if_pos y,F] at a;injection a with a;subst a;exact A
 have vv:EvoV h μ (Jd h ns) μ:=by
  intro g o a;unfold Jd;split
  ·exact ⟨o.freeze,by rw [a];rfl,by rw [Jl0];exact Am _,λ_=>⟨⟨rfl,rfl⟩,Jjm o⟩⟩
  ·exact ⟨o,a,Am _,λ_=>⟨⟨rfl,rfl⟩,.refl o⟩⟩
 have ev:Evo w S h μ w (λb=>S b\/Liv h μ ns b) (Jd h ns) μ:=by
  refine ⟨rfl,rfl,⟨rfl,Am _⟩,Am _,λ_ _ _=>rfl,λ_ cs _ _ Z=>⟨cs,Z,rfl⟩,λ_ h=>.inl h,λb r=>?_,λb r=>?_,rfl⟩
  ·rcases r with r|⟨g,y,f,F,H,rfl⟩
   ·exact .inl r
   ·cases B:f.fz with
    | false=>exact .inr (.inr ⟨g,_,F,B,H,rfl⟩)
    | true=>
     refine .inl ?_;have:=E.ob g _ F;cases f with
     | box=>cases B
     | arr=>obtain ⟨_,_,_,_,K⟩:=this (Ki.1 H);exact K B
     | map=>obtain ⟨_,_,_,_,K,_⟩:=this;exact K B
  ·obtain ⟨g,o,a,A,hl,e⟩:=r;obtain ⟨f,d,m⟩:=inv g o a;rcases m with rfl|⟨rfl,y⟩
   ·exact .inl ⟨g,o,d,A,hl,e⟩
   ·have:=fz g y _ a;rw [this] at A;cases A
 have flv:∀o:AObj,o.freeze.live=o.live:=λo=>by
  cases o with
  | arr v e t c z=>cases c<;>rfl
  | _=>rfl
 refine ⟨⟨λg o a=>?_,λg J o o' a L l Q e=>?_,λg o a A hl r=>?_,λb r=>?_⟩,ev,vv⟩
 ·obtain ⟨f,d,m⟩:=inv g o a;have:=(E.ob g f d).evo E ev vv (λ_=>rfl);rcases m with rfl|⟨rfl,y⟩
  ·exact this
  ·cases f with
   | box=>exact this
   | map v es z=>exact this
   | arr v e t c z=>
    intro G;obtain ⟨cs,h1,h2,h3,K⟩:=this G;exact ⟨cs,h1,h2,h3,λ_=>.inr ⟨g,y,_,d,Ki.2 G,rfl⟩⟩
 ·obtain ⟨f,d,X⟩:=inv g o a;obtain ⟨P,m,R⟩:=inv J o' L;exact E.inj g J f P d m (by rcases X with rfl|⟨rfl,_⟩<;>simpa [flv] using l) (by rcases R with rfl|⟨rfl,_⟩<;>simpa [flv] using Q) e
 ·obtain ⟨f,d,m⟩:=inv g o a;rcases m with rfl|⟨rfl,y⟩
  ·rcases r with r|⟨J,O,o',N,M,e⟩
   ·exact E.own g o d A hl r
   ·have:=E.inj J g _ _ N d M hl e;subst this;have:=fz J O _ a;rw [this] at A;cases A
  ·have:=fz g y _ a;rw [this] at A;cases A
 ·rcases r with r|⟨g,y,o,F,hl,rfl⟩
  ·exact E.lt b r
  ·exact (E.ob g _ F).lt hl
theorem Jjt{nt:Nat}{σ:St}{a:Act}{w':World}{S':Nat->Prop}{h':Heap}{μ':Gh}{d:Option Nat}{v:AV}{cv:Value}(hs:RepS nt w S σ μ a)(hd:Jvl nt d=true)
  (g:Rep w' S' h' μ' v cv) (e:RepH w' S' h' μ') (ev:Evo w S σ.h μ w' S' h' μ') (vv:EvoV σ.h μ h' μ'):RepS nt w' S' (σ.put d v h') μ' (a.put d cv):=by
 cases d with
 | none=>exact ⟨λk=>(hs.fr k).evo hs.hp ev vv,e,hs.hp.marks hs.df ev,hs.sz⟩
 | some d=>
  simp only [Jvl,decide_eq_true_eq] at hd;refine ⟨λk=>?_,e,hs.hp.marks hs.df ev,by simpa [Act.put] using hs.sz⟩;simp only [St.put,Act.put];rw [Jl1];by_cases f:k=d
  ·subst f;rw [Jh,if_pos ⟨rfl,by have:=hs.sz;omega⟩];exact g
  ·rw [Jc _ _ _ _ f,if_neg (by omega)];exact (hs.fr k).evo hs.hp ev vv
end
abbrev Fr(ro:Option Nat):Fence:={ Fence.wide with round:=ro }
def wpO(ro:Option Nat)(P:Program)(o:Oper)(a:Act)(w:World)(next:Act->World->Prop)(Q:Exit->Act->World->Prop):Prop:=o.uponIn (Fr ro) 0 P a next Q ((execOp a.eval o).run P w)
theorem Js3{ro:Option Nat}{P:Program}{o:Oper}{a:Act}{w:World}{next:Act->World->Prop}{Q:Exit->Act->World->Prop}(d:∀c,o.op≠.defer c)(h:wpO ro P o a w next Q):o.wpIn (Fr ro) 0 P a w next Q:=
 ⟨λ_ _=>trivial,by rw [Oper.semAt_eq _ _ _ d];exact h⟩
theorem Juc{ro:Option Nat}{n:Nat}{P:Program}{f:FuncId}{args:Array Value}{w:World}{R:Ending->World->Prop}(h:Calls P f args w R):CallsIn (Fr ro) n P f args w R:=by
 have:=callsIn_wide (n:=n).2 h;cases ro with
 | none=>exact this
 | some l=>exact this
def FnOK(P : Program)(f : FuncId) : Prop := ∃ fn, P.funcs[f]? = some fn /\ fn.body.isSome = true /\ (fn.name == "runtime.NumGoroutine") = false
structure Old (w w':World):Prop where
 os:w'.os=w.os
 tape:w'.tape=w.tape
 output:w'.output=w.output/\w.drawn<=w'.drawn
 size:w.heap.size<=w'.heap.size
 keep:∀b,b<w.heap.size->w'.heap[b]?=w.heap[b]?
def Zu(S:Nat->Prop)(w w':World)(b:Nat):Prop:=S b\/(w.heap.size<=b/\b<w'.heap.size)
structure jg (P:Program) (call:Call):Prop where
 fn:∀f vs m r,call f vs m=some r->FnOK P f
 pure:∀f vs v h',call f vs none=some (v,h')->∀(w:World) (S:Nat->Prop) (cargs:Array Value),(∀b,S b->b<w.heap.size)->cargs.size=vs.length->(∀i x,vs[i]?=some x->RepP w S x (cargs.getD i undef)) ->
  Calls P f cargs w λe w'=>∃cv,e=.returned cv/\RepP w' (Zu S w w') v cv/\Old w w'
 fresh:∀f vs v h' m p,call f vs none=some (v,h')->call f vs (some m)=some p->∀(w:World) (S:Nat->Prop) (cargs:Array Value),(∀b,S b->b<w.heap.size)->cargs.size=vs.length->(∀i x,vs[i]?=some x->RepP w S x (cargs.getD i undef)) ->
  Calls P f cargs w λe w'=>∃cv,e=.returned cv/\RepP w' (Zu (λ_=>False) w w') v cv/\Old w w'
theorem Jdv(h:Heap)(k:Nat)(v:AV)(a:v.flat=true):snap h (k+1) v=some (v,[]):=by cases v<;>first|rfl|cases a
section
variable {ro:Option Nat} {P:Program} {w:World} {S:Nat->Prop} {h:Heap} {μ:Gh}
theorem Qb{f:FuncId}(hf:FnOK P f)(args:Array Value)(w:World):(callFunc f args).run P w=.ok (.enter f args) w:=by
 obtain ⟨fn,h1,h2,h3⟩:=hf;have hn:fn.body≠none:=by rintro e;rw [e] at h2;cases h2
 have hm : fn.name ≠ "runtime.NumGoroutine" := by simpa using h3
 simp [callFunc,program,Sem.run,h1,hm,hn]
theorem wp_value{o:Oper}{a:Act}{next:Act->World->Prop}{Q:Exit->Act->World->Prop}{cv:Value}{w':World}(d:(execOp a.eval o).run P w=.ok (.value cv) w')(e:next (a.put o.dst cv) w'):wpO ro P o a w next Q:=by unfold wpO;rw [d];exact e
theorem wp_skip{o:Oper}{a:Act}{next:Act->World->Prop}{Q:Exit->Act->World->Prop}{w':World}(d:(execOp a.eval o).run P w=.ok .skip w')(e:next (a.put o.dst undef) w'):wpO ro P o a w next Q:=by unfold wpO;rw [d];exact e
theorem Jd2{o:Oper}{a:Act}{next:Act->World->Prop}{Q:Exit->Act->World->Prop}{f:FuncId}{args:Array Value}{R:Ending->World->Prop}(d:(execOp a.eval o).run P w=.ok (.enter f args) w)(r:Calls P f args w R)
  (m:∀e w',R e w'->∃cv,e=.returned cv/\next (a.put o.dst cv) w'):wpO ro P o a w next Q:=by unfold wpO;rw [d,Oper.uponIn_enter];refine ⟨λh=>(by cases h),(Juc r).mono λe w' g=>?_⟩;obtain ⟨cv,rfl,l⟩:=m e w' g;exact l
theorem Jcx{S1:Nat->Prop}{l:Heap}{v:AV}{cv:Value}{w':World}(e:RepH w S1 l μ)(d:Old w w')(y:RepP w' (Zu S1 w w') v cv):Ran w S1 l μ v l cv w':=by
 have ev:Evo w S1 l μ w' (Zu S1 w w') l μ:=by
  refine ⟨d.os,d.tape,d.output,d.size,λb a _=>d.keep b a,λb cs el z m=>⟨cs,?_,rfl⟩,λ_ h=>.inl h,λb a=>?_,λ_ h=>.inl h,rfl⟩
  ·rw [d.keep b (Ac.1 m).1];exact m
  ·rcases a with a|a
   ·exact .inl a
   ·exact .inr (.inl a.1)
 refine ⟨Zu S1 w w',μ,.pure y,⟨λg o f=>(e.ob g o f).evo e ev (.refl _ _) (λhl=>d.keep _ ((e.ob g o f).lt hl)),e.inj,λg o f r hl a=>?_,λb a=>?_⟩,ev,.refl _ _⟩
 ·rcases a with a|a
  ·exact e.own g o f r hl a
  ·have:=(e.ob g o f).lt hl;omega
 ·rcases a with a|a
  ·have:=e.lt b a;have:=d.size;omega
  ·exact a.2
theorem Ran.after{S1:Nat->Prop}{a:Heap}{v:AV}{h':Heap}{cv:Value}{w':World}(l:Ran w S1 a μ v h' cv w')(ev:Evo w S h μ w S1 a μ)(vv:EvoV h μ a μ):Ran w S h μ v h' cv w':=by obtain ⟨S',μ',g,f,e,d⟩:=l;exact ⟨S',μ',g,f,ev.trans e,vv.trans d⟩
theorem RepP.of_scalar{S':Nat->Prop}{v:AV}{cv:Value}(hs:v.scalar=true)(d:RepP w S v cv):RepP w S' v cv:=by
 have one:∀ {x:AV} {c:Value},(match x with|.bool _|.int _ _|.str _=>true|_=>false)=true->RepP w S x c->RepP w S' x c:=by intro x c hx d;cases d<;>simp at hx<;>constructor
 cases d with
 | bool=>exact .bool _
 | int=>exact .int _ _
 | str=>exact .str _
 | agg l cs hl o d=>exact .agg l cs hl o (λi x a=>one (Af.1 (by simpa [AV.scalar] using hs) x (Ai a)) (d i x a))
 | tup l cs hl d=>
  refine .tup l cs hl (λi x a=>?_);have hx:=Af.1 (show l.all _=true from hs) x (Ai a);have e:=d i x a;generalize cs.getD i undef=c at e ⊢;cases e with
  | bool=>exact .bool _
  | int=>exact .int _ _
  | str=>exact .str _
  | agg m cs' g h f=>exact .agg m cs' g h (λi x a=>one (Af.1 (by simpa using hx) x (Ai a)) (f i x a))
  | _=>simp at hx
 | _=>simp [AV.scalar] at hs
theorem Jpp{call:Call}(L:jg P call)(A:RepH w S h μ){f:FuncId}{l vs:List AV}{ns:List Nat}{v:AV}{J:Heap}(hs:Jco h l=some (vs,ns))(K:call f vs none=some (v,J)){cargs:Array Value}
  (Q:cargs.size=l.length) (hl:∀i x,l[i]?=some x->Rep w S h μ x (cargs.getD i undef)) :
  Calls P f cargs w λe w'=>∃cv,e=.returned cv/\((ns=[]\/v.scalar=true\/(call f vs (some (λ_=>none,0))).isSome=true)->Ran w S h μ v h cv w')/\Ran w S h μ v (Jd h ns) cv w':=by
 obtain ⟨B,O,N⟩:=Jfn A (Jcf hs);obtain ⟨Y,X⟩:=Jey A (S':=λb=>S b\/Liv h μ ns b) (λb d=>.inl d) hs (λg F o m hl=>.inr ⟨g,F,o,m,hl,rfl⟩);have M:∀i y,vs[i]?=some y->RepP w (λb=>S b\/Liv h μ ns b) y (cargs.getD i undef):=λi y R=>by obtain ⟨x,hx,E⟩:=X i y R;exact E _ (hl i x hx)
 cases G:call f vs (some (λ_=>none,0)) with
 | some p=>
  refine (L.fresh f vs v J _ p K G w _ cargs B.lt (by omega) M).mono λe w' ⟨cv,H,r,m⟩=>⟨cv,H,λ_=>?_,(Jcx B m (r.mono (λb d=>.inr (d.resolve_left id)) λ_ _=>rfl)).after O N⟩;exact Jcx A m (r.mono (λb d=>.inr (d.resolve_left id)) λ_ _=>rfl)
 | none=>
 refine (L.pure f vs v J K w _ cargs B.lt (by omega) M).mono λe w' ⟨cv,H,r,m⟩=>⟨cv,H,λa=>?_,(Jcx B m r).after O N⟩
 ·rcases a with a|a|a
  ·subst a;refine Jcx A m (r.mono (λb d=>?_) (λ_ _=>rfl));rcases d with (d|⟨g,F,_⟩)|d
   ·exact .inl d
   ·cases F
   ·exact .inr d
  ·exact Jcx A m (r.of_scalar a)
  ·cases a
theorem mapGet{f:LO->AV}{l:List LO}{i:Nat}{x:AV}(a:(l.map f)[i]?=some x):∃y,l[i]?=some y/\f y=x:=by
 rw [Ay] at a;cases d:l[i]? with
 | none=>rw [d] at a;cases a
 | some y=>rw [d] at a;injection a with a;exact ⟨y,rfl,a⟩
theorem Jbt{nt:Nat}{σ:St}{a:Act}(hs:RepS nt w S σ μ a){l:Array Operand}{m:List LO}(h:cLOs l.toList=some m) :
  (l.map a.eval).size=(m.map σ.ev).length/\∀i x,(m.map σ.ev)[i]?=some x->Rep w S σ.h μ x ((l.map a.eval).getD i undef):=by
 obtain ⟨v,r⟩:=Ju0 hs h;refine ⟨by simp [v],λi x o=>?_⟩;obtain ⟨y,f,rfl⟩:=mapGet o;obtain ⟨z,d,g⟩:=r i y f;have e:(l.map a.eval).getD i undef=a.eval z:=by
  have:l[i]?=some z:=by simpa using d
  simp [this]
 rw [e];exact g
theorem Jew(f:RepH w S h μ){S':Nat->Prop}(hS:∀b,S b->S' b){x u:AV}{ns:List Nat}{c:Value}(hs:Jks h x=some (u,ns))(Q:Rep w S h μ x c)(J:Met S' h μ ns) :
  RepP w S' u c:=by
 unfold Jks at hs;split at hs
 ·rename_i g ver off;cases m:h g with
  | none=>rw [m] at hs;cases hs
  | some o=>
   rw [m] at hs;unfold qbox at hs;split at hs
   ·rename_i v cells P;cases P;split at hs
    ·rename_i Y;subst Y;obtain ⟨cs,el,e1,e2,e3⟩:=f.ob g _ m;have E:c=.pointer (some ⟨μ.b g,μ.o g+off,none⟩):=by
      cases Q with
      | pure f=>cases f
      | ptr _ _ _ _ o2 A _ _ M=>rw [m] at A;cases A;exact M rfl
     subst E;have core:∀(l:List AV),l.length=cells.length->(∀(i:Nat) (y:AV),l[i]?=some y->∃z,cells[i]?=some z/\∀c,Rep w S h μ z c->RepP w S' y c)->S' (μ.b g) ->
       RepP w S' (.rptr (l.drop off)) (.pointer (some ⟨μ.b g,μ.o g+off,none⟩)):=by
      intro l hl F hb;have at':∀(i:Nat) (y:AV),(l.drop off)[i]?=some y->∃z,cells[off+i]?=some z/\RepP w S' y (cs.getD (μ.o g+off+i) undef)/\(cs.getD (μ.o g+off+i) undef).oneCell'=true:=by intro i y a;rw [List.getElem?_drop] at a;obtain ⟨z,H,K⟩:=F _ y a;have:=e3 _ z H;rw [<-Nat.add_assoc] at this;exact ⟨z,H,K _ this.1,this.2⟩
      refine .rptr _ _ (λi=>cs.getD (μ.o g+off+i) undef) (λ_=>hb) (λi y a=>?_) (λi y a=>(at' i y a).choose_spec.2.2) (λi y a=>(at' i y a).choose_spec.2.1);obtain ⟨z,H,-⟩:=at' i y a;have e:off+i<cells.length:=(Ab.1 H).1;have G:(⟨μ.b g,μ.o g+off,none⟩:Addr).add i=⟨μ.b g,μ.o g+off+i,none⟩:=by cases i<;>simp [Addr.add]
      rw [G];have B:μ.o g+off+i<cs.size:=by omega
      simp [World.cell?,e1,B]
     split at hs
     ·rename_i hf;injection hs with hs;simp only [Aa] at hs;obtain ⟨rfl,rfl⟩:=hs;refine core cells rfl (λi y a=>⟨y,a,λc E=>?_⟩) (J g (by simp) _ m rfl);exact jk f hS depth (Jdv h 7 y (Af.1 hf y (Ai a))) E (λg Z=>by cases Z)
     ·unfold J0d at hs;split at hs
      ·rename_i ps N;injection hs with hs;simp only [Aa] at hs;obtain ⟨rfl,rfl⟩:=hs;obtain ⟨X,R⟩:=za N;refine core (ps.map (·.1)) (by simp [X]) (λi y a=>?_) (J g (by simp) _ m rfl);rw [Ay] at a;obtain ⟨p,d,rfl⟩:=Option.map_eq_some_iff.1 a;have e:i<cells.length:=by have:=(Ab.1 d).1;omega
       obtain ⟨p',r,L⟩:=R i cells[i] (Ae e);rw [d] at r;cases r;refine ⟨cells[i],Ae e,λc E=>jk f hS depth (u:=p.1) (ns:=p.2) L E λg' O=>J g' ?_⟩;exact Ak _ (As.2 ⟨p,Ai d,O⟩)
      ·cases hs
    ·cases hs
   ·cases hs
 ·exact jk f hS depth hs Q J
theorem Je4{x u:AV}{ns:List Nat}(hs:Jks h x=some (u,ns)):∀g∈ns,∃o,h g=some o:=by
 unfold Jks at hs;split at hs
 ·rename_i g ver off;cases e:h g with
  | none=>rw [e] at hs;cases hs
  | some o=>
   rw [e] at hs;unfold qbox at hs;split at hs
   ·rename_i v cells G;split at hs
    ·split at hs
     ·injection hs with hs;simp only [Aa] at hs;obtain ⟨-,rfl⟩:=hs;intro B a;rw [List.mem_singleton] at a;exact ⟨o,by rw [a];exact e⟩
     ·unfold J0d at hs;split at hs
      ·rename_i ps l;injection hs with hs;simp only [Aa] at hs;obtain ⟨-,rfl⟩:=hs;intro B a;rcases Ah.1 a with rfl|a
       ·exact ⟨o,e⟩
       ·obtain ⟨p,r,m⟩:=As.1 a;obtain ⟨i,A⟩:=Bc r;obtain ⟨J,E⟩:=za l;have w:i<cells.length:=by have:=(Ab.1 A).1;omega
        obtain ⟨H,d,f⟩:=E i cells[i] (Ae w);rw [A] at d;cases d;obtain ⟨_,y,_⟩:=jv depth (u:=p.1) (ns:=p.2) f B m;exact ⟨_,y⟩
      ·cases hs
    ·cases hs
   ·cases hs
 ·intro g F;obtain ⟨_,y,_⟩:=jv depth hs g F;exact ⟨_,y⟩
theorem Jjq(f:RepH w S h μ){S':Nat->Prop}(hS:∀b,S b->S' b):∀ {l vs:List AV} {ns:List Nat},Jm7 h l=some (vs,ns)->(Met S' h μ ns) ->
  vs.length=l.length/\(∀g∈ns,∃o,h g=some o)/\∀(i:Nat) (y:AV),vs[i]?=some y->∃x,l[i]?=some x/\∀c,Rep w S h μ x c->RepP w S' y c
 | [],vs,ns,hs,_=>by cases hs;exact ⟨rfl,λg d=>(by cases d),λi y e=>(by simp at e)⟩
 | x::l,vs,ns,hs,m=>by
  simp only [Jm7] at hs;unfold Jmv at hs;split at hs
  ·rename_i u E us B r A;injection hs with hs;simp only [Aa] at hs;obtain ⟨rfl,rfl⟩:=hs;obtain ⟨a,b,c⟩:=Jjq f hS A λg d=>m g (Aw _ d);refine ⟨by simp [a],λg d=>?_,λi y e=>?_⟩
   ·rcases Ag.1 d with d|d
    ·exact Je4 r g d
    ·exact b g d
   ·cases i with
    | zero=>
     simp at e;subst e;exact ⟨x,rfl,λc v=>Jew f hS r v λg d=>m g (Aq _ d)⟩
    | succ i=>simpa using c i y (by simpa using e)
  ·cases hs
theorem Jwa(l:RepH w S h μ){S':Nat->Prop}(hS:∀b,S b->S' b){x u:AV}{ns:List Nat}{c:Value}(hs:qarg h x=some (u,ns))(g:Rep w S h μ x c)(m:Met S' h μ ns):RepP w S' u c:=by
 unfold qarg at hs;split at hs
 ·rename_i f caps;unfold qfn at hs;split at hs
  ·rename_i us ms r;injection hs with hs;simp only [Aa] at hs;obtain ⟨rfl,rfl⟩:=hs;obtain ⟨a,b,d⟩:=Jjq l hS r m;obtain ⟨cs,rfl,hl,A⟩:=g.fn_inv;refine .fn f us cs (by omega) λi y v=>?_;obtain ⟨z,o,e⟩:=d i y v;exact e _ (A i z o)
  ·cases hs
 ·exact Jew l hS hs g m
theorem Jix:∀ {l us:List AV} {ns:List Nat},Jm7 h l=some (us,ns)->∀g∈ns,∃o,h g=some o
 | [],us,ns,hs=>by cases hs;exact λg a=>(by cases a)
 | x::l,us,ns,hs=>by
  simp only [Jm7] at hs;unfold Jmv at hs;split at hs
  ·rename_i u m us f e d;injection hs with hs;simp only [Aa] at hs;obtain ⟨rfl,rfl⟩:=hs;intro g a;rcases Ag.1 a with a|a
   ·exact Je4 e g a
   ·exact Jix d g a
  ·cases hs
theorem Jv6{x u:AV}{ns:List Nat}(hs:qarg h x=some (u,ns)):∀g∈ns,∃o,h g=some o:=by
 unfold qarg at hs;split at hs
 ·unfold qfn at hs;split at hs
  ·rename_i us ms a;injection hs with hs;simp only [Aa] at hs;obtain ⟨-,rfl⟩:=hs;exact Jix a
  ·cases hs
 ·exact Je4 hs
theorem Jjk(f:RepH w S h μ){S':Nat->Prop}(hS:∀b,S b->S' b):∀ {l vs:List AV} {ns:List Nat},Jkp h l=some (vs,ns)->(Met S' h μ ns) ->
  vs.length=l.length/\(∀g∈ns,∃o,h g=some o)/\∀(i:Nat) (y:AV),vs[i]?=some y->∃x,l[i]?=some x/\∀c,Rep w S h μ x c->RepP w S' y c
 | [],vs,ns,hs,_=>by cases hs;exact ⟨rfl,λg d=>(by cases d),λi y e=>(by simp at e)⟩
 | x::l,vs,ns,hs,m=>by
  simp only [Jkp] at hs;unfold Jmv at hs;split at hs
  ·rename_i u E us B r A;injection hs with hs;simp only [Aa] at hs;obtain ⟨rfl,rfl⟩:=hs;obtain ⟨a,b,c⟩:=Jjk f hS A λg d=>m g (Aw _ d);refine ⟨by simp [a],λg d=>?_,λi y e=>?_⟩
   ·rcases Ag.1 d with d|d
    ·exact Jv6 r g d
    ·exact b g d
   ·cases i with
    | zero=>
     simp at e;subst e;exact ⟨x,rfl,λc v=>Jwa f hS r v λg d=>m g (Aq _ d)⟩
    | succ i=>simpa using c i y (by simpa using e)
  ·cases hs
theorem call_q{call:Call}(J:jg P call)(B:RepH w S h μ){f:FuncId}{l:List AV}{v:AV}{h':Heap}(d:calQ call f h (Jkp h l)=some (v,h')){cargs:Array Value}
  (K:cargs.size=l.length) (hl:∀i x,l[i]?=some x->Rep w S h μ x (cargs.getD i undef)) :
  FnOK P f/\Calls P f cargs w λe w'=>∃cv,e=.returned cv/\Ran w S h μ v h' cv w':=by
 unfold calQ at d;split at d
 ·rename_i vs ns M;unfold retQ at d;split at d
  ·rename_i u R m;split at d
   ·rename_i F;injection d with d;simp only [Aa] at d;obtain ⟨rfl,rfl⟩:=d;obtain ⟨a,b,c⟩:=Jjk B (S':=λb=>S b\/Liv h μ ns b) (λb Q=>.inl Q) M (λg H o A hl=>.inr ⟨g,H,o,A,hl,rfl⟩);refine ⟨J.fn _ _ _ _ m,(J.pure f vs u R m w (λb=>S b\/Liv h μ ns b) cargs (λX r=>?_) (by omega) (λi y N=>?_)).mono λe w' ⟨cv,O,L,A⟩=>⟨cv,O,Jcx B A (L.of_scalar F)⟩⟩
    ·rcases r with r|⟨g,H,o,A,G,rfl⟩
     ·exact B.lt X r
     ·exact (B.ob g o A).lt G
    ·obtain ⟨x,hx,E⟩:=c i y N;exact E _ (hl i x hx)
   ·cases d
  ·cases d
 ·cases d
end
section
variable {ro:Option Nat} {P:Program} {w:World} {S:Nat->Prop} {σ:St} {μ:Gh} {a:Act} {nt:Nat}
theorem Qy{α β:Type}{x:Option α}{f:α->β}{r:β}(h:x.map f=some r):∃y,x=some y/\r=f y:=by
 cases x with
 | none=>cases h
 | some y=>injection h with h;exact ⟨y,rfl,h.symm⟩
theorem hOut{x:Option AV}{a:Heap}{r:AV×Heap}(h:(match x with|some v=>some (v,a)|none=>none)=some r):x=some r.1/\a=r.2:=by
 cases x with
 | none=>cases h
 | some y=>injection h with h;subst h;exact ⟨rfl,rfl⟩
theorem Jry{h:Heap}:∀ {k:Nat} {v:AV} {f:FuncId} {caps:List AV} {ns:List Nat},snap h k v=some (.fn f caps,ns)->∃l,v=.fn f l
 | 0,_,_,_,_,hs=>by simp [snap] at hs
 | k+1,v,f,caps,ns,hs=>by
  unfold snap at hs;split at hs
  ·cases hs
  ·cases hs
  ·cases hs
  ·cases hs
  ·split at hs
   ·split at hs
    ·simp only at hs;split at hs
     ·cases hs
     ·split at hs<;>cases hs
    ·cases hs
   ·cases hs
  ·split at hs
   ·injection hs with hs;simp only [Aa] at hs;obtain ⟨e,_⟩:=hs;injection e with a _;subst a;exact ⟨_,rfl⟩
   ·cases hs
  ·split at hs
   ·cases hs
   ·split at hs<;>cases hs
  ·split at hs<;>cases hs
  ·rename_i x1 x2 x3 x4 x5 g d;injection hs with hs;simp only [Aa] at hs;exact ⟨caps,hs.1⟩
theorem Jsn{t e:TypeId}(v:P.underlying t=some (.slice e)){x:AV}{cx cy:Value}{X Y:Operand}{b ne:Bool}(h:Rep w S σ.h μ x cx)(E:Rep w S σ.h μ .nils cy)(f:Je7 σ.h x=some b) :
  (eqGuard (if ne then .neq else .eql) t X Y cx cy).run P w=.ok () w/\(binOp (if ne then .neq else .eql) t cx cy).run P w=.ok (.bool (if ne then !b else b)) w:=by
 have o:cy=.slice none 0 0:=by
  cases E with
  | pure g=>cases g;rfl
 subst o;have key:(b=true/\cx=.slice none 0 0)\/(b=false/\∃a n c,cx=.slice (some a) n c):=by
  unfold Je7 at f;split at f
  ·injection f with f;subst f;cases h with
   | pure g=>cases g;exact .inl ⟨rfl,rfl⟩
  ·cases f
  ·rename_i m;injection f with f;subst f;cases h with
   | pure g=>
    cases g with
    | lst0=>exact (m rfl rfl).elim
    | lst n l a cap cv=>exact .inr ⟨rfl,a,_,cap,rfl⟩
  ·split at f
   ·rename_i B;injection f with f;subst f;obtain ⟨esz,el,cells,fz,A⟩:=Jg4 B.1;obtain ⟨a,cap,cs,el',z,r,_⟩:=h.arr_inv A (λe=>B.2 ((h.arr_inv0 A).1 e).2.1);exact .inr ⟨rfl,a,_,cap,r⟩
   ·cases f
  ·cases f
 have y:(Op.equal t cx (.slice none 0 0)).run P w=.ok b w:=by
  have hd:∀d,(Op.equalIn (d+1) t cx (.slice none 0 0)).run P w=.ok b w:=λd=>by
   rcases key with ⟨rfl,rfl⟩|⟨rfl,a,n,c,rfl⟩
   ·simp [Op.equalIn,run_underlying v]
   ·simp [Op.equalIn,run_underlying v]
  exact hd 9999
 have F:∃q n c,cx=.slice q n c:=by
  rcases key with ⟨rfl,rfl⟩|⟨rfl,a,n,c,rfl⟩
  ·exact ⟨_,_,_,rfl⟩
  ·exact ⟨_,_,_,rfl⟩
 obtain ⟨q,n,c,rfl⟩:=F;cases ne with
 | true=>exact ⟨by simp [eqGuard],by simp only [if_true,binOp,Sem.run_bind,y];rfl⟩
 | false=>exact ⟨by simp [eqGuard],by simp only [Ap,if_false,binOp,Sem.run_bind,y];rfl⟩
theorem Jqr(f:RepH w S σ.h μ){e:TypeId}{z:List AV}(a:zc P e=some z)(esz g:Nat) :
  ∃cv w',(Instr.alloc e true (.tuple #[])).run P w=.ok cv w'/\Ran w S σ.h μ (.ptr g (Jv σ.h g) 0) (upd σ.h g (some (.arr (Jv σ.h g) esz e z false))) cv w':=by
 obtain ⟨i,v,l,d,hl,B,hs⟩:=Jjw a;have m:=z8 (w:=w) (S:=S) (h:=σ.h) (μ:=μ) hl;obtain ⟨A,y,r⟩:=zo (el:=e) (g:=g) (o:=.arr (Jv σ.h g) esz e z false) (cs:=v.cells) f (.inl rfl) (by simpa using m) (.inr ⟨_,_,rfl,by omega⟩);exact ⟨.pointer (some ⟨w.heap.size,0,none⟩),w.alloc (.cells v.cells e),by simp [Instr.alloc,zeroValue,typeInfo,l,d,newVar,newRow],S,_,
  .ptr _ _ _ _ _ (Jh _ _ _) (Am _) rfl (λ_=>by simp [Gh.set,Jh]),A,y,r⟩
theorem Jvo(B:RepH w S σ.h μ){t el:TypeId}{n sz:Nat}(r:P.underlying t=some (.array n el))(o:szT P el=some sz)(hM:n<=9223372036854775807){x v:AV}{cx:Value}(A:Rep w S σ.h μ x cx)
  (d:Jqj σ.h n sz x=some v):∃cv,(Instr.sliceAt t cx none none none).run P w=.ok cv w/\Rep w S σ.h μ v cv:=by
 unfold Jqj at d;split at d
 ·rename_i g ver;unfold slcAO at d;split at d
  ·rename_i ver' esz' el' cells fz h;split at d
   ·rename_i E;obtain ⟨rfl,rfl,m,e⟩:=E;injection d with d;subst d;have l:=A.ptr_inv (by simp [cur,h,AObj.ver]);subst l;obtain ⟨cs,F,y,G,_⟩:=B.ob g _ h e;have f:∀a:Addr,(if n=0 then a else a.add 0)=a:=λa=>by split<;>simp [Addr.add]
    refine ⟨.slice (some ⟨μ.b g,μ.o g,none⟩) n n,?_,?_⟩
    ·simp [Instr.sliceAt,run_underlying r,Ka o,Instr.sureAddr,Instr.sliceBounds,f]
    ·exact .arr g ver 0 n _ _ h (Am _) rfl λ_=>⟨sz,el',cells,fz,rfl,λq=>(e q).elim,λ_=>⟨_,n,cs,el',(0,0),rfl,⟨Am _,hM⟩,F,by simp only [Nat.zero_add];omega,λ_=>by simp⟩⟩
   ·cases d
  ·cases d
 ·cases d
theorem op_wp{call:Call}{cm:List (Nat×CM)}{o:Oper}{lop:LOp}{base g0:Nat}{v:AV}{h':Heap}{next:Act->World->Prop}{Q:Exit->Act->World->Prop}(Z:jg P call)(hs:RepS nt w S σ μ a)
  (A:Zq P cm o.dst o.op=some lop) (B:Ja call base σ g0 lop=some (v,h')) (K:∀cv w',Ran w S σ.h μ v h' cv w'->next (a.put o.dst cv) w'):wpO ro P o a w next Q:=by
 have V:∀ {s:Sem Value} {cv:Value} {w':World},execOp a.eval o=(do pure (.value (<-s)))->s.run P w=.ok cv w'->Ran w S σ.h μ v h' cv w'->wpO ro P o a w next Q:=λ{s cv w'} F H h3=>wp_value (by rw [F];simp [H]) (K _ _ h3)
 have V0:∀ {s:Sem Value} {cv:Value},execOp a.eval o=(do pure (.value (<-s)))->s.run P w=.ok cv w->Rep w S σ.h μ v cv->σ.h=h'->wpO ro P o a w next Q:=λ{s cv} F H h3 h4=>V F H (by subst h4;exact Ran.same hs.hp h3)
 cases E:o.op<;>rw [E] at A<;>simp only [Zq] at A<;>try (cases A;done)
 case move x=>
  obtain ⟨y,hy,rfl⟩:=Qy A;simp only [Ja] at B;injection B with B;simp only [Aa] at B;obtain ⟨rfl,rfl⟩:=B;exact wp_value (cv:=a.eval x) (w':=w) (by simp [execOp,E]) (K _ _ (Ran.same hs.hp (Ji hs hy)))
 case assign x=>
  obtain ⟨y,hy,rfl⟩:=Qy A;simp only [Ja] at B;injection B with B;simp only [Aa] at B;obtain ⟨rfl,rfl⟩:=B;exact wp_value (cv:=a.eval x) (w':=w) (by simp [execOp,E]) (K _ _ (Ran.same hs.hp (Ji hs hy)))
 case pick c x y=>
  split at A
  ·rename_i c' x' y' F H h3;injection A with A;subst A;simp only [Ja] at B;split at B
   ·rename_i t ht;injection B with B;simp only [Aa] at B;obtain ⟨rfl,rfl⟩:=B;have hb:=Ji hs F;rw [ht] at hb;refine wp_value (cv:=if t then a.eval x else a.eval y) (w':=w) (by simp [execOp,E,hb.bool_inv,asBool]) (K _ _ (Ran.same hs.hp ?_));cases t with
    | true=>exact Ji hs H
    | false=>exact Ji hs h3
   ·cases B
  ·cases A
 case alloc e=>
  split at A
  ·split at A
   ·rename_i len el N;split at A
    ·rename_i n z hn hz;injection A with A;subst A;simp only [Ja] at B;injection B with B;simp only [Aa] at B;obtain ⟨rfl,rfl⟩:=B;obtain ⟨cv,w',F,H⟩:=Jqr hs.hp hz n g0;exact V (by simp only [execOp,E]<;>rfl) F H
    ·cases A
   ·cases A
  ·obtain ⟨z,hz,rfl⟩:=Qy A;simp only [Ja] at B;injection B with B;simp only [Aa] at B;obtain ⟨rfl,rfl⟩:=B;obtain ⟨cv,w',F,H⟩:=Jif hs.hp hz g0;exact V (by simp only [execOp,E]<;>rfl) F H
 case box e x=>
  obtain ⟨y,hy,rfl⟩:=Qy A;simp only [Ja] at B;split at B
  ·rename_i c hcc;injection B with B;simp only [Aa] at B;obtain ⟨rfl,rfl⟩:=B;obtain ⟨cv,w',F,H⟩:=Jxx (P:=P) (e:=e) hs.hp (Ji hs hy) hcc g0;exact V (by simp only [execOp,E]<;>rfl) F H
  ·cases B
 case build t ps=>
  split at A
  ·rename_i z fs hz N;split at A
   ·rename_i pl hpl;obtain ⟨l,hl,rfl⟩:=Qy A;simp only [Ja] at B;split at B
    ·rename_i r M;injection B with B;simp only [Aa] at B;obtain ⟨rfl,rfl⟩:=B;obtain ⟨cv,F,H⟩:=Jjg (cp:=ps.map λ(i,x)=>(i,a.eval x)) hz (.inl ⟨fs,pl,N,hpl,by simpa using Jb0 hs hl⟩) M;exact V0 (by simp only [execOp,E]<;>rfl) F H rfl
    ·cases B
   ·cases A
  ·rename_i z n e hz N;split at A
   ·rename_i i hi;obtain ⟨l,hl,rfl⟩:=Qy A;simp only [Ja] at B;split at B
    ·rename_i r M;injection B with B;simp only [Aa] at B;obtain ⟨rfl,rfl⟩:=B;obtain ⟨cv,F,H⟩:=Jjg (cp:=ps.map λ(i,x)=>(i,a.eval x)) hz (.inr ⟨n,e,i,N,hi,by simpa using Jb0 hs hl⟩) M;exact V0 (by simp only [execOp,E]<;>rfl) F H rfl
    ·cases B
   ·cases A
  ·cases A
 case buildSlice t n ps=>
  split at A
  ·rename_i e N;split at A
   ·rename_i i z hi hz;split at A
    ·rename_i hb;obtain ⟨b1,b3⟩:=hb;obtain ⟨l,hl,rfl⟩:=Qy A;simp only [Ja] at B;split at B
     ·rename_i r M;injection B with B;simp only [Aa] at B;obtain ⟨rfl,rfl⟩:=B;obtain ⟨cv,w',F,H⟩:=Jqa (cp:=ps.map λ(i,x)=>(i,a.eval x)) hs.hp N hi hz b1 b3 (by simpa using Jb0 hs hl) M g0;exact V (by simp only [execOp,E]<;>rfl) F H
     ·cases B
    ·cases A
   ·cases A
  ·cases A
 case load t x=>
  split at A
  ·rename_i ag n y F H h3;split at A
   ·rename_i hn;injection A with A;subst A;simp only [Ja] at B;obtain ⟨O,e2⟩:=hOut B;obtain ⟨cv,J,L⟩:=Jgq (P:=P) hs.hp F H hn (Ji hs h3) O;exact V0 (by simp only [execOp,E]<;>rfl) J L e2
   ·cases A
  ·cases A
 case makeMap t r=>
  cases r with
  | some x=>simp at A
  | none=>
   simp only at A;split at A
   ·rename_i kt et N;injection A with A;subst A;simp only [Ja] at B;injection B with B;simp only [Aa] at B;obtain ⟨rfl,rfl⟩:=B;obtain ⟨cv,w',J,L⟩:=Jz6 (P:=P) hs.hp N g0;exact wp_value (cv:=cv) (w':=w') (by simp [execOp,E,J]) (K _ _ L)
   ·cases A
 case lookup t x k ok=>
  split at A
  ·rename_i kt et N;split at A
   ·rename_i sh ag z F H h3;split at A
    ·rename_i x' k' h4 h5;injection A with A;subst A;simp only [Ja] at B;obtain ⟨O,e2⟩:=hOut B;obtain ⟨cv,J,L⟩:=Jvh (P:=P) hs.hp N F H h3 (Ji hs h4) (Ji hs h5) O;exact V0 (cv:=cv) (by simp only [execOp,E]<;>rfl) J L e2
    ·cases A
   ·cases A
  ·cases A
 case mapUpdate t x k v'=>
  split at A
  ·rename_i kt et N;split at A
   ·rename_i sh ag F H;split at A
    ·rename_i x' k' v'' h4 h5 h6;injection A with A;subst A;simp only [Ja] at B;split at B
     ·rename_i hh hst;injection B with B;simp only [Aa] at B;obtain ⟨rfl,rfl⟩:=B;obtain ⟨w',J,S',μ',-,L⟩:=Jlc (P:=P) hs.hp N F H (Ji hs h4) (Ji hs h5) (Ji hs h6) hst;exact wp_skip (by simp [execOp,E,J]) (K _ _ ⟨S',μ',.any _,L⟩)
     ·cases B
    ·cases A
   ·cases A
  ·cases A
 case insert t x k v'=>
  split at A
  ·rename_i kt et N;split at A
   ·rename_i sh ag F H;split at A
    ·rename_i x' k' v'' h4 h5 h6;injection A with A;subst A;simp only [Ja] at B;split at B
     ·rename_i hh hst;injection B with B;simp only [Aa] at B;obtain ⟨rfl,rfl⟩:=B;obtain ⟨w',J,S',μ',-,L⟩:=Jlc (P:=P) hs.hp N F H (Ji hs h4) (Ji hs h5) (Ji hs h6) hst;exact wp_skip (by simp [execOp,E,J]) (K _ _ ⟨S',μ',.any _,L⟩)
     ·cases B
    ·cases A
   ·cases A
  ·cases A
 case store t x y=>
  split at A
  ·rename_i n x' y' F H h3;injection A with A;subst A;simp only [Ja] at B;split at B
   ·rename_i hh hst;injection B with B;simp only [Aa] at B;obtain ⟨rfl,rfl⟩:=B;obtain ⟨w',J,L⟩:=Ji2 (P:=P) hs.hp F (Ji hs H) (Ji hs h3) hst;exact wp_skip (by simp [execOp,E,J]) (K _ _ L)
   ·cases B
  ·cases A
 case nilCheck x=>
  obtain ⟨y,hy,rfl⟩:=Qy A;have M:=Ji hs hy;simp only [Ja] at B;split at B
  ·rename_i g ver off hx;split at B
   ·rename_i hcur;injection B with B;simp only [Aa] at B;obtain ⟨rfl,rfl⟩:=B;rw [hx] at M;have e:=M.ptr_inv hcur;exact wp_value (cv:=a.eval x) (w':=w) (by simp [execOp,E,e]) (K _ _ (Ran.same hs.hp M))
   ·cases B
  ·rename_i l hx;injection B with B;simp only [Aa] at B;obtain ⟨rfl,rfl⟩:=B;rw [hx] at M;have:∃ad,a.eval x=.pointer (some ad):=by generalize a.eval x=c at M;cases M with|pure hp=>cases hp;exact ⟨_,rfl⟩
   obtain ⟨ad,e⟩:=this;exact wp_value (cv:=a.eval x) (w':=w) (by simp [execOp,E,e]) (K _ _ (Ran.same hs.hp M))
  ·rename_i f caps hx;injection B with B;simp only [Aa] at B;obtain ⟨rfl,rfl⟩:=B;rw [hx] at M;obtain ⟨cs,e,_⟩:=M.fn_inv;exact wp_value (cv:=a.eval x) (w':=w) (by simp [execOp,E,e]) (K _ _ (Ran.same hs.hp M))
  ·rename_i f l hx;injection B with B;simp only [Aa] at B;obtain ⟨rfl,rfl⟩:=B;rw [hx] at M;obtain ⟨cs,e,_⟩:=M.bfn_inv;exact wp_value (cv:=a.eval x) (w':=w) (by simp [execOp,E,e]) (K _ _ (Ran.same hs.hp M))
  ·cases B
 case binOp op t x y yt=>
  split at A
  ·rename_i k x' y' N F H;have fin:lop=.ibin op x' y'->wpO ro P o a w next Q:=by
    rintro rfl;simp only [Ja] at B;split at B
    ·rename_i k1 n1 k2 n2 hx hy;split at B
     ·rename_i hk;subst hk;obtain ⟨O,e2⟩:=hOut B;obtain ⟨cv,J,L⟩:=Jvm (w:=w) (S:=S) (h:=σ.h) (μ:=μ) (P:=P) (t:=t) O;have hx':=Ji hs F;have hy':=Ji hs H;rw [hx] at hx';rw [hy] at hy';refine V0 (cv:=cv) (by simp only [execOp,E]<;>rfl) ?_ L e2;rw [hx'.int_inv,hy'.int_inv];simp [Jjy,J]
     ·cases B
    ·cases B
   have finS:∀b,op=b->(∃q,P.underlying yt=some (.int q))->lop=.shf b x' y'->wpO ro P o a w next Q:=by
    rintro b rfl hyt rfl;simp only [Ja] at B;split at B
    ·rename_i k1 n1 k2 n2 hx hy;obtain ⟨O,e2⟩:=hOut B;have hx':=Ji hs F;have hy':=Ji hs H;rw [hx] at hx';rw [hy] at hy';obtain ⟨cv,J,L⟩:∃cv,(binOp op t (.int k1 n1) (.int k2 n2)).run P w=.ok cv w/\Rep w S σ.h μ v cv:=by
      unfold shfV at O;split at O
      ·cases O
      ·rename_i hb;split at O
       ·injection O with O;have e1':v=.int k1 (k1.wrap (n1 * 2 ^ min n2.toNat k1.bits)):=O.symm;exact ⟨.int k1 (k1.wrap (n1 * 2 ^ min n2.toNat k1.bits)),by simp [binOp_shl,Op.shift,hb],by rw [e1'];exact .pure (.int _ _)⟩
       ·injection O with O;have e1':v=.int k1 (n1.fdiv (2 ^ min n2.toNat k1.bits)):=O.symm;exact ⟨.int k1 (n1.fdiv (2 ^ min n2.toNat k1.bits)),by simp [binOp_shr,Op.shift,hb],by rw [e1'];exact .pure (.int _ _)⟩
       ·cases O
     refine V0 (cv:=cv) (by simp only [execOp,E]<;>rfl) ?_ L e2;rw [hx'.int_inv,hy'.int_inv];simp [Jjy,J]
    ·cases B
   split at A
   ·split at A
    ·rename_i q hq;injection A with A;exact finS .shl rfl ⟨q,hq⟩ A.symm
    ·cases A
   ·split at A
    ·rename_i q hq;injection A with A;exact finS .shr rfl ⟨q,hq⟩ A.symm
    ·cases A
   ·injection A with A;exact fin A.symm
  ·rename_i e x' N F H;have fin:∀ne,op=(if ne then .neq else .eql)->lop=.isnil ne x'->wpO ro P o a w next Q:=by
    rintro ne rfl rfl;simp only [Ja] at B;split at B
    ·rename_i b hb;injection B with B;simp only [Aa] at B;obtain ⟨rfl,rfl⟩:=B;obtain ⟨J,L⟩:=Jsn (X:=x) (Y:=y) (ne:=ne) N (Ji hs F) (by simpa [St.ev] using Ji hs H) hb;refine V0 (cv:=.bool (if ne then !b else b)) (by simp only [execOp,E]<;>rfl) ?_ (.pure (.bool _)) rfl;simp [J,L]
    ·cases B
   split at A
   ·injection A with A;exact fin false rfl A.symm
   ·injection A with A;exact fin true rfl A.symm
   ·cases A
  ·rename_i d x' y' hni hns N F H;have hnk:∀k,P.underlying t≠some (.int k):=λk e=>by rw [N] at e;injection e with e;exact hni k e
   have fin:∀ne ag sh,eqT P t=some (ag,sh)->op=(if ne then .neq else .eql)->lop=.eqv ne ag sh x' y'->wpO ro P o a w next Q:=by
    rintro ne ag sh ht rfl rfl;simp only [Ja] at B;split at B
    ·rename_i b hb;injection B with B;simp only [Aa] at B;obtain ⟨rfl,rfl⟩:=B;obtain ⟨J,L⟩:=Jwt (X:=x) (Y:=y) (ne:=ne) ht hnk (Ji hs F) (Ji hs H) hb;refine V0 (cv:=.bool (if ne then !b else b)) (by simp only [execOp,E]<;>rfl) ?_ (.pure (.bool _)) rfl;simp [J,L]
    ·cases B
   split at A
   ·split at A
    ·rename_i ag sh ht;injection A with A;exact fin false ag sh ht rfl A.symm
    ·cases A
   ·split at A
    ·rename_i ag sh ht;injection A with A;exact fin true ag sh ht rfl A.symm
    ·cases A
   ·cases A
  ·cases A
 case unOp op t x=>
  obtain ⟨y,hy,rfl⟩:=Qy A;have M:=Ji hs hy;simp only [Ja] at B;split at B
  ·rename_i b hx;injection B with B;simp only [Aa] at B;obtain ⟨rfl,rfl⟩:=B;rw [hx] at M;refine V0 (cv:=.bool !b) (by simp only [execOp,E]<;>rfl) ?_ (.pure (.bool _)) rfl;rw [M.bool_inv];rfl
  ·rename_i k n hx;injection B with B;simp only [Aa] at B;obtain ⟨rfl,rfl⟩:=B;rw [hx] at M;refine V0 (cv:=.int k (k.wrap (0 - n))) (by simp only [execOp,E]<;>rfl) ?_ (.pure (.int _ _)) rfl;rw [M.int_inv];rfl
  ·cases B
 case convert s d x=>
  split at A
  ·rename_i k1 k2 y F H h3;injection A with A;subst A;simp only [Ja] at B;split at B
   ·rename_i k n hx;injection B with B;simp only [Aa] at B;obtain ⟨rfl,rfl⟩:=B;have M:=Ji hs h3;rw [hx] at M;refine V0 (by simp only [execOp,E]<;>rfl) ?_ (.pure (.int _ _)) rfl;rw [M.int_inv];exact Ju6 ⟨_,F⟩ H
   ·cases B
  ·cases A
 case makeFunc fn first caps=>
  cases fn with
  | func f=>
   simp only at A;split at A
   ·rename_i h0;obtain ⟨l,hl,rfl⟩:=Qy A;simp only [Ja] at B;injection B with B;simp only [Aa] at B;obtain ⟨rfl,rfl⟩:=B;obtain ⟨J,L⟩:=Jbt hs hl;have hf:first=#[]:=Bp h0
    subst hf;refine V0 (cv:=.func (.func f) #[] (caps.map a.eval)) (by simp only [execOp,E]<;>rfl) (by simp [Instr.makeFunc]) (.fn f _ _ J.symm L) rfl
   ·split at A
    ·rename_i h0;split at A
     ·rename_i x hl;injection A with A;subst A;simp only [Ja] at B;split at B
      ·rename_i l hx;split at B
       ·rename_i hfl;injection B with B;simp only [Aa] at B;obtain ⟨rfl,rfl⟩:=B;obtain ⟨J,L⟩:=Jbt hs hl;have M:=L 0 _ rfl;rw [hx] at M;obtain ⟨cs,ec,hl',hcs⟩:=M.agg_inv;have hcp:caps=#[]:=Bp h0;subst hcp;have hf1:first.map a.eval=#[.agg cs]:=by
         have hz:(first.map a.eval).size=1:=by rw [J];rfl
         apply Array.ext
         ·rw [hz];rfl
         ·intro i F H;have hi:i=0:=by omega
          subst hi;rw [Al,Array.getElem?_eq_getElem F] at ec;exact ec
        refine V0 (cv:=.func (.func f) #[.agg cs] #[]) (by simp only [execOp,E]<;>rfl) (by rw [hf1];simp [Instr.makeFunc]) (.pure (.bfn f l cs hl' (λi y hi=>(hcs i y hi).2) λi y hi=>?_)) rfl;exact (hcs i y hi).1.flat (Af.1 hfl y (Ai hi))
       ·cases B
      ·cases B
     ·cases A
    ·cases A
  | _=>cases A
 case makeSlice t l c=>
  split at A
  ·rename_i e N;split at A
   ·rename_i i z l' c' hi hz F H;split at A
    ·rename_i hi0;injection A with A;subst A;simp only [Ja] at B;split at B
     ·rename_i k n k' m hx hy;split at B
      ·rename_i hb;obtain ⟨b1,b2,b5,b3,b4⟩:=hb;injection B with B;simp only [Aa] at B;obtain ⟨rfl,rfl⟩:=B;have hx':=Ji hs F;have hy':=Ji hs H;rw [hx] at hx';rw [hy] at hy';obtain ⟨cv,w',J,L⟩:=Jyu (k:=k) (k':=k') hs.hp N hi hz hi0 b1 b2 b5 b3 b4 g0;refine V (by simp only [execOp,E]<;>rfl) ?_ L;rw [hx'.int_inv,hy'.int_inv];exact J
      ·cases B
     ·cases B
    ·cases A
   ·cases A
  ·cases A
 case slice t x lo hi mx=>
  cases mx with
  | some _=>cases A
  | none=>
   simp only at A;split at A
   ·rename_i e N;split at A
    ·rename_i n x' hn F;have fin:∀lo' hi',lop=.slc n x' lo' hi'->Jlf w S σ.h μ (lo'.map σ.ev) (lo.map a.eval)->Jlf w S σ.h μ (hi'.map σ.ev) (hi.map a.eval)->wpO ro P o a w next Q:=by rintro lo' hi' rfl J L;simp only [Ja] at B;obtain ⟨O,e2⟩:=hOut B;obtain ⟨cv,s1,s2⟩:=Jr0 (P:=P) N hn (Ji hs F) J L O;exact V0 (by simp only [execOp,E]<;>rfl) s1 s2 e2
     split at A
     ·injection A with A;exact fin none none A.symm trivial trivial
     ·split at A
      ·rename_i p q hp;injection A with A;exact fin (some q) none A.symm (Ji hs hp) trivial
      ·cases A
     ·split at A
      ·rename_i p q hp;injection A with A;exact fin none (some q) A.symm trivial (Ji hs hp)
      ·cases A
     ·split at A
      ·rename_i p q p' q' hp hq;injection A with A;exact fin (some p') (some q') A.symm (Ji hs hp) (Ji hs hq)
      ·cases A
    ·cases A
   ·rename_i n el N;split at A
    ·split at A
     ·rename_i sz x' hz F;split at A
      ·rename_i hM;injection A with A;subst A;simp only [Ja] at B;obtain ⟨O,e2⟩:=hOut B;obtain ⟨cv,s1,s2⟩:=Jvo (P:=P) hs.hp N hz (Nat.le_of_ble_eq_true hM) (Ji hs F) O;exact V0 (by simp only [execOp,E]<;>rfl) s1 s2 e2
      ·cases A
     ·cases A
    ·cases A
   ·cases A
 case fieldAddr s x f=>
  split at A
  ·rename_i fs N;split at A
   ·rename_i fd x' hf F;split at A
    ·rename_i n hn;split at A
     ·rename_i hn0;injection A with A;subst A;simp only [Ja] at B;obtain ⟨O,e2⟩:=hOut B;obtain ⟨cv,J,L⟩:=Jrv (P:=P) N hf hn hn0 (Ji hs F) O;exact V0 (by simp only [execOp,E]<;>rfl) J L e2
     ·cases A
    ·cases A
   ·cases A
  ·cases A
 case field s x f=>
  split at A
  ·rename_i fs N;split at A
   ·rename_i fd x' hf F;split at A
    ·rename_i ag n hag hn;split at A
     ·rename_i hn0;injection A with A;subst A;simp only [Ja] at B;split at B
      ·rename_i l hx;obtain ⟨O,e2⟩:=hOut B;have M:=Ji hs F;rw [hx] at M;obtain ⟨cv,J,L⟩:=J0j (P:=P) N hf hag hn hn0 M O;exact V0 (by simp only [execOp,E]<;>rfl) J L e2
      ·cases B
     ·cases A
    ·cases A
   ·cases A
  ·cases A
 case indexAddr t x i=>
  split at A
  ·rename_i e x' i' N F H;split at A
   ·rename_i n hn;injection A with A;subst A;simp only [Ja] at B;obtain ⟨O,e2⟩:=hOut B;obtain ⟨cv,J,L⟩:=Jrm (P:=P) N hn (Ji hs F) (Ji hs H) O;exact V0 (by simp only [execOp,E]<;>rfl) J L e2
   ·cases A
  ·rename_i len e x' i' N F H;split at A
   ·rename_i n hn;injection A with A;subst A;simp only [Ja] at B;obtain ⟨O,e2⟩:=hOut B;obtain ⟨cv,J,L⟩:=Jpk (P:=P) N hn (Ji hs F) (Ji hs H) O;exact V0 (by simp only [execOp,E]<;>rfl) J L e2
   ·cases A
  ·cases A
 case index t x i=>
  split at A
  ·rename_i len e x' i' N F H;split at A
   ·rename_i ag n hag hn;split at A
    ·rename_i hn0;injection A with A;subst A;simp only [Ja] at B;obtain ⟨O,e2⟩:=hOut B;obtain ⟨cv,J,L⟩:=Jyp (P:=P) N hag hn hn0 (Ji hs F) (Ji hs H) O;exact V0 (by simp only [execOp,E]<;>rfl) J L e2
    ·cases A
   ·cases A
  ·cases A
 case extract x i=>
  obtain ⟨y,hy,rfl⟩:=Qy A;simp only [Ja] at B;split at B
  ·rename_i l hx;obtain ⟨O,e2⟩:=hOut B;have M:=Ji hs hy;rw [hx] at M;obtain ⟨cv,J,L⟩:=Jzs (P:=P) M O;exact V0 (by simp only [execOp,E]<;>rfl) J L e2
  ·cases B
 case call c=>
  obtain ⟨callee,args,argTypes⟩:=c;simp only at A;split at A
  ·-- len
   split at A
   ·rename_i x t G htys;have ha:args=#[x]:=by rw [<-Ao];exact G
    have ht:argTypes=#[t]:=by rw [<-Ao];exact htys
    subst ha ht;split at A
    ·rename_i e y N F;injection A with A;subst A;simp only [Ja] at B;split at B
     ·rename_i n hn;injection B with B;simp only [Aa] at B;obtain ⟨rfl,rfl⟩:=B;have:=Jxh (P:=P) (ty:=o.type) N (Ji hs F) hn;exact wp_value (cv:=.int .i64 n) (w':=w) (by simp [execOp,E,resolve,invoke,builtin,this]) (K _ _ (Ran.same hs.hp (.pure (.int _ _))))
     ·cases B
    ·rename_i k e y N F;injection A with A;subst A;simp only [Ja] at B;split at B
     ·rename_i n hn;injection B with B;simp only [Aa] at B;obtain ⟨rfl,rfl⟩:=B;have:=Jva (P:=P) (ty:=o.type) N hs.hp (Ji hs F) hn;exact wp_value (cv:=.int .i64 n) (w':=w) (by simp [execOp,E,resolve,invoke,builtin,this]) (K _ _ (Ran.same hs.hp (.pure (.int _ _))))
     ·cases B
    ·rename_i y N F;injection A with A;subst A;simp only [Ja] at B;split at B
     ·rename_i n hn;injection B with B;simp only [Aa] at B;obtain ⟨rfl,rfl⟩:=B;have:=Jv9 (P:=P) (ty:=o.type) N (Ji hs F) hn;exact wp_value (cv:=.int .i64 n) (w':=w) (by simp [execOp,E,resolve,invoke,builtin,this]) (K _ _ (Ran.same hs.hp (.pure (.int _ _))))
     ·cases B
    ·cases A
   ·cases A
  ·-- append
   split at A
   ·rename_i x y t t' G htys;have ha:args=#[x,y]:=by rw [<-Ao];exact G
    have ht:argTypes=#[t,t']:=by rw [<-Ao];exact htys
    subst ha ht;split at A
    ·rename_i htt;subst htt;split at A
     ·rename_i e x' y' N F H;split at A
      ·rename_i i z hi hz;split at A
       ·rename_i hi0;injection A with A;subst A;simp only [Ja] at B;obtain ⟨cv,w',J,L⟩:=Jiv (P:=P) (ty:=o.type) hs.hp N hi hz hi0 (Ji hs F) (Ji hs H) B;exact wp_value (cv:=cv) (w':=w') (by simp [execOp,E,resolve,invoke,builtin,J]) (K _ _ L)
       ·cases A
      ·cases A
     ·cases A
    ·cases A
   ·cases A
  ·-- delete
   split at A
   ·rename_i x k t r G htys;have ha:args=#[x,k]:=by rw [<-Ao];exact G
    have ht:argTypes[0]?=some t:=by rw [<-Bv,htys];rfl
    subst ha;split at A
    ·rename_i kt et N;split at A
     ·rename_i sh ag F H;split at A
      ·rename_i x' k' h4 h5;injection A with A;subst A;simp only [Ja] at B;split at B
       ·rename_i hh hst;injection B with B;simp only [Aa] at B;obtain ⟨rfl,rfl⟩:=B;obtain ⟨w',J,L⟩:=Jwj (P:=P) (ty:=o.type) hs.hp ht N F H (Ji hs h4) (Ji hs h5) hst;exact wp_value (cv:=.tuple #[]) (w':=w') (by simp [execOp,E,resolve,invoke,builtin,J]) (K _ _ L)
       ·cases B
      ·cases A
     ·cases A
    ·cases A
   ·cases A
  ·-- copy
   split at A
   ·rename_i x y t ts G htys;have ha:args=#[x,y]:=by rw [<-Ao];exact G
    subst ha;have hts:argTypes[0]?=some t:=by rw [<-Bv,htys];rfl
    split at A
    ·rename_i e x' y' N h4 h5;split at A
     ·rename_i n hn;injection A with A;subst A;simp only [Ja] at B;obtain ⟨cv,w',J,L⟩:=Jv0 (P:=P) (ty:=o.type) hs.hp hts N hn (Ji hs h4) (Ji hs h5) B;exact wp_value (cv:=cv) (w':=w') (by simp [execOp,E,resolve,invoke,builtin,J]) (K _ _ L)
     ·cases A
    ·cases A
   ·cases A
  ·-- max
   split at A
   ·rename_i x y G;have ha:args=#[x,y]:=by rw [<-Ao];exact G
    subst ha;split at A
    ·rename_i x' y' F H;injection A with A;subst A;simp only [Ja] at B;split at B
     ·rename_i k1 n1 k2 n2 hx hy;injection B with B;simp only [Aa] at B;obtain ⟨rfl,rfl⟩:=B;have hx':=Ji hs F;have hy':=Ji hs H;rw [hx] at hx';rw [hy] at hy';refine wp_value (cv:=.int k1 (if n2 > n1 then n2 else n1)) (w':=w) (by simp [execOp,E,resolve,invoke,builtin,hx'.int_inv,hy'.int_inv,Builtin.max_,Builtin.max2]) (K _ _ (Ran.same hs.hp ?_));simp only [mmV,if_true];exact .pure (.int _ _)
     ·cases B
    ·cases A
   ·cases A
  ·-- min
   split at A
   ·rename_i x y G;have ha:args=#[x,y]:=by rw [<-Ao];exact G
    subst ha;split at A
    ·rename_i x' y' F H;injection A with A;subst A;simp only [Ja] at B;split at B
     ·rename_i k1 n1 k2 n2 hx hy;injection B with B;simp only [Aa] at B;obtain ⟨rfl,rfl⟩:=B;have hx':=Ji hs F;have hy':=Ji hs H;rw [hx] at hx';rw [hy] at hy';refine wp_value (cv:=.int k1 (if n2<n1 then n2 else n1)) (w':=w) (by simp [execOp,E,resolve,invoke,builtin,hx'.int_inv,hy'.int_inv,Builtin.min_,Builtin.min2]) (K _ _ (Ran.same hs.hp ?_));simp only [mmV,Ap,if_false];exact .pure (.int _ _)
     ·cases B
    ·cases A
   ·cases A
  ·-- a call
   rename_i f;split at A
   ·rename_i l hl;injection A with A;obtain ⟨J,L⟩:=Jbt hs hl;have enter:FnOK P f->(execOp a.eval o).run P w=.ok (.enter f (args.map a.eval)) w:=λhf=>by simp [execOp,E,resolve,Act.eval,Deferred.ofValue,invoke,Qb hf]
    split at A
    ·subst A;simp only [Ja] at B;split at B
     ·rename_i vs ns hsn;split at B
      ·rename_i u h0 hv;split at B
       ·rename_i R;injection B with B;simp only [Aa] at B;obtain ⟨rfl,rfl⟩:=B;exact Jd2 (enter (Z.fn _ _ _ _ hv)) (Jpp Z hs.hp hsn hv J L) λe w' ⟨cv,B,M,_⟩=>⟨cv,B,K _ _ (M R)⟩
       ·cases B
      ·cases B
     ·cases B
    ·subst A;simp only [Ja] at B;split at B
     ·rename_i vs ns hsn;split at B
      ·rename_i u h0 hv;injection B with B;simp only [Aa] at B;obtain ⟨rfl,rfl⟩:=B;exact Jd2 (enter (Z.fn _ _ _ _ hv)) (Jpp Z hs.hp hsn hv J L) λe w' ⟨cv,B,_,M⟩=>⟨cv,B,K _ _ M⟩
      ·cases B
     ·cases B
    ·subst A;simp only [Ja] at B;obtain ⟨c1,c2⟩:=call_q Z hs.hp B J L;exact Jd2 (enter c1) c2 λe w' ⟨cv,B,M⟩=>⟨cv,B,K _ _ M⟩
   ·cases A
  ·-- a call of a value
   rename_i x;obtain ⟨l,hl,rfl⟩:=Qy A;simp only [Ja] at B;split at B
   ·rename_i f caps vs ns hsn;split at B
    ·rename_i u h0 hv;split at B
     ·rename_i R;injection B with B;simp only [Aa] at B;obtain ⟨rfl,rfl⟩:=B;have hx:=hs.fr x;obtain ⟨J,L⟩:=Jbt hs hl;have hsn':=hsn;unfold Jco at hsn';split at hsn'
      ·rename_i ps hps;injection hsn' with hsn';simp only [Aa] at hsn';obtain ⟨O,e2⟩:=hsn';obtain ⟨m1,m2⟩:=za hps;obtain ⟨p,hp1,hp2⟩:=m2 0 (σ.ev (.t x)) rfl;have hp0:p.1=.fn f caps:=by
        have:(ps.map (·.1))[0]?=some p.1:=by simp [Ay,hp1]
        rw [O] at this;simpa using this.symm
       have hfn:∃cs:Array Value,a.tmps.getD x undef=.func (.func f) #[] cs:=by obtain ⟨l',hl'⟩:=Jry (k:=depth) (v:=σ.f x) (f:=f) (caps:=caps) (ns:=p.2) (h:=σ.h) (by rw [<-hp0];exact hp2);rw [hl'] at hx;obtain ⟨cs,e,_⟩:=hx.fn_inv;exact ⟨cs,e⟩
       obtain ⟨cs,hcs⟩:=hfn;obtain ⟨f1,f2,f3⟩:=Jfn hs.hp (Jcf hsn);obtain ⟨n1,n2⟩:=Jey hs.hp (S':=λb=>S b\/Liv σ.h μ ns b) (λb hb=>.inl hb) hsn (λg hg o ho hl=>.inr ⟨g,hg,o,ho,hl,rfl⟩);have hcap:RepP w (λb=>S b\/Liv σ.h μ ns b) (.fn f caps) (.func (.func f) #[] cs):=by obtain ⟨x0,hx0,hxr⟩:=n2 0 (.fn f caps) rfl;simp at hx0;subst hx0;refine hxr _ ?_;have:=hs.fr x;rw [hcs] at this;exact this
       have G:∀i y,(vs++caps)[i]?=some y->RepP w (λb=>S b\/Liv σ.h μ ns b) y ((args.map a.eval++cs).getD i undef):=by
        intro i y hi;have hvl:vs.length=(args.map a.eval).size:=by simp at n1;rw [J];simp;omega
        by_cases hlt:i<vs.length
        ·rw [Be hlt] at hi;obtain ⟨x0,hx0,hxr⟩:=n2 (i+1) y (by simpa using hi);have e:(args.map a.eval++cs).getD i undef=(args.map a.eval).getD i undef:=by simp only [Al];rw [Array.getElem?_append_left (by omega)]
         rw [e];exact hxr _ (L i x0 (by simpa using hx0))
        ·rw [Bs (by omega)] at hi;have e:(args.map a.eval++cs).getD i undef=cs.getD (i - vs.length) undef:=by simp only [Al];rw [Array.getElem?_append_right (by omega),hvl]
         rw [e];cases hcap with
         | fn _ _ _ hl M=>exact M _ y hi
       have hcl:caps.length=cs.size:=by cases hcap with|fn _ _ _ hl M=>exact hl
       have hrun:(execOp a.eval o).run P w=.ok (.enter f (args.map a.eval++cs)) w:=by have hev:a.eval (.tmp x)=.func (.func f) #[] cs:=hcs;simp [execOp,E,resolve,hev,Deferred.ofValue,invoke,Qb (Z.fn _ _ _ _ hv)]
       refine Jd2 hrun (Z.pure f (vs++caps) u h0 hv w _ _ f1.lt (by simp;simp at n1;rw [n1];simp at J;omega) G) λe w' ⟨cv,B,M,ho⟩=>⟨cv,B,K _ _ ?_⟩;rcases R with R|R
       ·subst R;refine Jcx hs.hp ho (M.mono (λb hb=>?_) (λ_ _=>rfl));rcases hb with (hb|⟨g,hg,_⟩)|hb
        ·exact .inl hb
        ·cases hg
        ·exact .inr hb
       ·exact Jcx hs.hp ho (M.of_scalar R)
      ·cases hsn'
     ·cases B
    ·cases B
   ·cases B
  ·cases A
end
section
variable {ro:Option Nat} {P:Program} {w:World} {S:Nat->Prop} {σ:St} {μ:Gh} {a:Act} {nt:Nat}
def valB:Value->Option Bool
 | .bool b=>some b
 | _=>none
theorem Jdi{ops:Array Oper}{j d:Nat}(hs:RepS nt w S σ μ a)(g:(ops[j]?).bind (·.dst)=some d)(hd:d<nt){v:Value}(f:a.tmps.getD d undef=v):yielded ops a.tmps j=valB v:=by
 unfold yielded;rw [g];have e:d<a.tmps.size:=by have:=hs.sz;omega
 have:a.tmps[d]?=some v:=by rw [<-f];exact getD_some e
 simp only [Bd,this];cases v<;>rfl
theorem Jnk{call:Call}{cm:List (Nat×CM)}{ops:Array Oper}{o:Oper}{lo:LOper}{base:Nat}{σ':St}{K:Act->World->Prop}{Q:Exit->Act->World->Prop}(m:jg P call)(hs:RepS nt w S σ μ a)
  (f:comp P cm nt ops o=some lo) (e:Y4 call base lo σ=some σ')
  (hK:∀a' w' S' μ',a'.defers=a.defers->RepS nt w' S' σ' μ' a'->Evo w S σ.h μ w' S' σ'.h μ'->EvoV σ.h μ σ'.h μ'->K a' w') :
  if Region.wanted o (yielded ops a.tmps)=true then wpO ro P o a w K Q else K (a.put o.dst undef) w:=by
 unfold comp at f;split at f
 ·cases f
 ·rename_i lop A;split at f
  ·rename_i hd;have run:∀ {g0 v h},Ja call base σ g0 lop=some (v,h)->σ'=σ.put o.dst v h->wpO ro P o a w K Q:=by
    rintro g0 v h g rfl;refine op_wp m hs A g λcv w' ⟨S',μ',N,M,H,G⟩=>hK _ _ S' μ' (by cases o.dst<;>rfl) (Jjt hs hd N M H G) ?_ ?_
    ·cases o.dst<;>exact H
    ·cases o.dst<;>exact G
   have skip:σ'=σ.put o.dst (.tup []) σ.h->K (a.put o.dst undef) w:=by
    rintro rfl;refine hK _ _ S μ (by cases o.dst<;>rfl) (Jjt hs hd (.tup [] #[] rfl (λi x O=>by simp at O)) hs.hp .refl (.refl _ _)) ?_ ?_
    ·cases o.dst<;>exact .refl
    ·cases o.dst<;>exact .refl _ _
   split at f
   ·rename_i B;injection f with f;subst f;rw [if_pos (by simp [Region.wanted,B])];simp only [Y4] at e;split at e
    ·rename_i v h g;injection e with e;exact run g e.symm
    ·cases e
   ·rename_i j want B;split at f
    ·rename_i d L;split at f
     ·rename_i y;injection f with f;subst f;simp only [Y4] at e;have l:=hs.fr d;split at e
      ·rename_i b F;rw [F] at l;have E:=Jdi hs L y l.bool_inv;have J:Region.wanted o (yielded ops a.tmps)=(b==want):=by simp [Region.wanted,B,E,valB]
       split at e
       ·rename_i r;rw [if_pos (by rw [J];simpa using r)];split at e
        ·rename_i v h g;injection e with e;exact run g e.symm
        ·cases e
       ·rename_i r;rw [if_neg (by rw [J];simpa using r)];injection e with e;exact skip e.symm
      ·rename_i F;rw [F] at l;have E:=Jdi hs L y l.tup0_inv;rw [if_neg (by simp [Region.wanted,B,E,valB])];injection e with e;exact skip e.symm
      ·cases e
     ·cases f
    ·cases f
  ·cases f
theorem Jma{cm:List (Nat×CM)}{ops:Array Oper}{o:Oper}{lo:LOper}(a:comp P cm nt ops o=some lo):∀c,o.op≠.defer c:=by intro c h;unfold comp at a;rw [h] at a;simp [Zq] at a
end
def LO.tmp?:LO->List Nat
 | .t n=>[n]
 | .c _=>[]
def LOp.looks:LOp->List Nat
 | .alloc _|.allocA .. | .mkM ..=>[]
 | .mov x|.mkbf _ x|.box x|.load _ _ x|.un _ x|.conv _ x|.nilck x|.faddr _ x|.fld _ _ _ x|.ext x _|.len x|.lenM x|.lenS x|.isnil _ x|.slcA _ _ x=>x.tmp?
 | .pick c a b=>c.tmp?++a.tmp?++b.tmp?
 | .build _ ps|.bslice _ _ _ _ ps=>ps.flatMap λp=>p.2.2.tmp?
 | .store _ x y|.ibin _ x y|.eqv _ _ _ x y|.mkS _ _ _ _ x y|.iaddr _ x y|.iaddrA _ _ x y|.idx _ _ _ x y|.app _ _ _ _ x y|.appn _ _ _ _ _ x y|.ston _ _ x y|.look _ _ _ _ x y|.delM _ _ x y|.shf _ x y|.mm _ x y|.cpy _ x y=>x.tmp?++y.tmp?
 | .setM _ _ x k v=>x.tmp?++k.tmp?++v.tmp?
 | .mkfn _ l|.callp _ l|.callz _ l|.callq _ l=>l.flatMap LO.tmp?
 | .callv x l=>x.tmp?++l.flatMap LO.tmp?
 | .slc _ x lo d=>x.tmp?++(lo.map LO.tmp?).getD []++(d.map LO.tmp?).getD []
 | .msk _ op=>op.looks
def LOper.looks(o:LOper):List Nat:=o.op.looks++(o.guard.map λg=>[g.1]).getD []
def LOp.still:LOp->Bool
 | .load .. | .nilck _|.slc .. | .faddr .. | .iaddr .. | .iaddrA .. | .len _|.isnil .. | .slcA .. | .callp _ []=>true
 | _=>false
def LOp.frzs:LOp->Bool
 | .callz ..=>true
 | _=>false
def LOp.ld:LOp->Bool
 | .load ..=>true
 | _=>false
def LOp.aps:LOp->Bool
 | .app ..=>true
 | .appn ..=>true
 | _=>false
def LOp.nwD:LOp->Option (List Nat)
 | .appn ds _ _ _ _ _ _=>some ds
 | .ston ds _ _ _=>some ds
 | _=>none
def LOp.past(i j:LOp):Bool:=
 match i,j.nwD with
 | .msk ds _,some ds'=>ds'.all λd=>ds.contains d
 | _,_=>false
def LOp.offN(j:LOp)(d:Option Nat):Bool:=
 match j,d with
 | .msk ds _,some x=>ds.contains x
 | _,_=>false
def Jpt(i j:LOper):Bool:=
 (match i.dst with|some d=>!j.looks.contains d&&j.dst != some d|none=>true) &&
 (match j.dst with|some d=>!i.looks.contains d|none=>true) &&
 (i.op.cls==0 || j.op.cls==0 || (i.op.cls==1&&(j.op.cls==1 || j.op.cls==2)) || (i.op.cls==2&&j.op.cls==2) || (i.op.still&&j.op.frzs) || i.op.past j.op || (i.op.frzs&&j.op.cls==2) || (i.op.aps&&i.dst.isSome&&j.op.cls==2) || (i.op.cls==2&&j.op.offN i.dst) || j.op.past i.op || (i.op.frzs&&j.op.ld)) &&
 (i.op.cls != 2 || i.dst.isSome)&&(j.op.cls != 2 || j.dst.isSome)
theorem Xx{σ σ':St}{x:LO}(h:∀n∈x.tmp?,σ.f n=σ'.f n):σ.ev x=σ'.ev x:=by
 cases x with
 | t n=>exact h n (by simp [LO.tmp?])
 | c v=>rfl
theorem zh{σ σ':St}{l:List LO}(h:∀n∈l.flatMap LO.tmp?,σ.f n=σ'.f n):l.map σ.ev=l.map σ'.ev:=
 List.map_congr_left λx hx=>Xx λn a=>h n (As.2 ⟨x,hx,a⟩)
theorem Jet{σ σ':St}:∀ {ps:List (Nat×Nat×LO)} {z:List AV},(∀n∈ps.flatMap (λp=>p.2.2.tmp?),σ.f n=σ'.f n)->Jgs σ.ev z ps=Jgs σ'.ev z ps
 | [],z,_=>rfl
 | (off,n,x)::r,z,h=>by
  simp only [Jgs];rw [Xx (x:=x) (σ':=σ') λm a=>h m (by simp [a])];split
  ·split
   ·exact Jet λm a=>h m (by simp only [List.flatMap_cons,Ag];exact .inr a)
   ·rfl
  ·rfl
theorem Jny{call:Call}{base g0:Nat}{σ σ':St}{op:LOp}(g:∀ds o,op≠.msk ds o)(m:σ.h=σ'.h)(h:∀n∈op.looks,σ.f n=σ'.f n):Ja call base σ g0 op=Ja call base σ' g0 op:=by
 cases op<;>(try (exact (g _ _ rfl).elim))<;>simp only [LOp.looks,Ag] at h<;>simp only [Ja,m]
 case slc e x lo d=>
  rw [Xx (x:=x) λn a=>h n (.inl (.inl a))];have w:lo.map σ.ev=lo.map σ'.ev:=by
   cases lo with
   | none=>rfl
   | some y=>simp only [Ax];rw [Xx λn a=>h n (.inl (.inr (by simpa using a)))]
  have r:d.map σ.ev=d.map σ'.ev:=by
   cases d with
   | none=>rfl
   | some y=>simp only [Ax];rw [Xx λn a=>h n (.inr (by simpa using a))]
  rw [w,r]
 case pick c x y=>rw [Xx (x:=c) λn a=>h n (.inl (.inl a)),Xx (x:=x) λn a=>h n (.inl (.inr a)),Xx (x:=y) λn a=>h n (.inr a)]
 case setM ag sh x k v=>rw [Xx (x:=x) λn a=>h n (.inl (.inl a)),Xx (x:=k) λn a=>h n (.inl (.inr a)),Xx (x:=v) λn a=>h n (.inr a)]
 case build z ps=>rw [Jet h]
 case bslice n e t z ps=>rw [Jet h]
 case mkfn f l=>rw [zh h]
 case callp f l=>rw [zh h]
 case callz f l=>rw [zh h]
 case callq f l=>rw [zh h]
 case callv x l=>rw [Xx (x:=x) λn a=>h n (.inl a),zh λn a=>h n (.inr a)]
 all_goals first
  | rw [Xx h]
  | (rename_i x y;rw [Xx (x:=x) λn a=>h n (.inl a),Xx (x:=y) λn a=>h n (.inr a)])
theorem Jq5{call:Call}{base g0:Nat}{op:LOp}:∀ {σ σ':St},σ.h=σ'.h->(∀n∈op.looks,σ.f n=σ'.f n)->Ja call base σ g0 op=Ja call base σ' g0 op:=by
 induction op with
 | msk ds op d=>
  intro σ σ' a h;simp only [Ja,a];rw [d (σ:=⟨σ.f,K2 base ds σ'.h⟩) (σ':=⟨σ'.f,K2 base ds σ'.h⟩) rfl h]
 | _=>exact λa h=>Jny (by rintro _ _ ⟨⟩) a h
def evG(call:Call)(base:Nat)(o:LOper)(f:Nat->AV)(h:Heap):Option (AV×Heap):=
 match o.guard with
 | none=>Ja call base ⟨f,h⟩ (base+o.dst.getD 0) o.op
 | some (g,want)=>
  match f g with
  | .bool b=>if b=want then Ja call base ⟨f,h⟩ (base+o.dst.getD 0) o.op else some (.tup [],h)
  | .tup []=>some (.tup [],h)
  | _=>none
theorem Jl8(call:Call)(base:Nat)(o:LOper)(σ:St):Y4 call base o σ=(evG call base o σ.f σ.h).map λr=>σ.put o.dst r.1 r.2:=by
 unfold Y4 evG;cases d:o.guard with
 | none=>
  simp only;cases Ja call base σ (base+o.dst.getD 0) o.op<;>rfl
 | some g=>
  obtain ⟨g,want⟩:=g;simp only;cases e:σ.f g with
  | bool b=>
   simp only;by_cases a:b=want
   ·rw [if_pos a,if_pos a];cases Ja call base σ (base+o.dst.getD 0) o.op<;>rfl
   ·rw [if_neg a,if_neg a];rfl
  | tup l=>cases l<;>rfl
  | _=>rfl
theorem Jpy{call:Call}{base:Nat}{o:LOper}{f f':Nat->AV}{h:Heap}(hl:∀n∈o.looks,f n=f' n):evG call base o f h=evG call base o f' h:=by
 unfold evG;have a:Ja call base ⟨f,h⟩ (base+o.dst.getD 0) o.op=Ja call base ⟨f',h⟩ (base+o.dst.getD 0) o.op:=Jq5 rfl λn d=>hl n (by simp [LOper.looks,d]);split
 ·exact a
 ·rename_i g want e;rw [hl g (by simp [LOper.looks,e]),a]
theorem Jxa{call:Call}{base g0:Nat}{op:LOp}(e:op.cls=0){f:Nat->AV}{h d:Heap}{v:AV}(a:Ja call base ⟨f,h⟩ g0 op=some (v,d)):d=h/\∀h',Ja call base ⟨f,h'⟩ g0 op=some (v,h'):=by
 have ev:∀x h h',(St.mk f h).ev x=(St.mk f h').ev x:=λx h h'=>by cases x<;>rfl
 have evf:∀h h',(St.mk f h).ev=(St.mk f h').ev:=λh h'=>funext λx=>ev x h h';cases op<;>simp [LOp.cls] at e
 all_goals
  simp only [Ja] at a ⊢;refine ⟨?_,λh'=>?_⟩
  all_goals try rw [evf h' h]
  all_goals (repeat' split at a)<;>first|(cases a;done)|(injection a with a;simp only [Aa] at a;obtain ⟨rfl,rfl⟩:=a;first|rfl|simp_all)
theorem Ze{h:Heap}{g d:Nat}{ob o:AObj}(e:h g=none)(a:h d=some o):upd h g (some ob) d=some o:=by
 rw [Jc]
 ·exact a
 ·rintro rfl;rw [e] at a;cases a
theorem Jrg{h:Heap}{g:Nat}{ob:AObj}(d:h g=none){x:AV}{r:List AV×Nat}(hd:zp h x=some r):zp (upd h g (some ob)) x=some r:=by
 unfold zp at hd ⊢;split at hd
 ·exact hd
 ·split at hd
  ·rename_i f c a;rw [Ze d a];exact hd
  ·rename_i f e t c z a;rw [Ze d a];exact hd
  ·cases hd
 ·cases hd
theorem Jod{h:Heap}{g a ver:Nat}{ob:AObj}(f:h g=none)(hd:cur h a ver=true):cur (upd h g (some ob)) a ver=true:=by obtain ⟨o,d,e⟩:=Jmx hd;simp [cur,Ze f d,e]
theorem Jq6{h:Heap}{g a ver esz:Nat}{ob:AObj}(e:h g=none)(hd:curA h a ver esz=true):curA (upd h g (some ob)) a ver esz=true:=by obtain ⟨el,c,z,d⟩:=Jnm hd;simp [curA,Ze e d]
theorem Je2{h:Heap}{g a ver:Nat}{ob:AObj}(f:h g=none)(hd:X2 h a ver=true):X2 (upd h g (some ob)) a ver=true:=by obtain ⟨e,el,c,z,d⟩:=Jg4 hd;simp [X2,Ze f d]
theorem Jo6{h:Heap}{g a ver:Nat}{ob:AObj}{es:List (AV×AV)}(d:h g=none)(hd:curM h a ver=some es):curM (upd h g (some ob)) a ver=some es:=by simp [curM,Ze d (Juq hd)]
theorem Qt{α β:Type}{f f':α->Option β}:∀ {l:List α} {r:List β},(∀x y,f x=some y->f' x=some y)->l.mapM f=some r->l.mapM f'=some r
 | [],r,_,h=>by simpa using h
 | x::l,r,a,h=>by
  rw [List.mapM_cons] at h ⊢;cases hx:f x with
  | none=>rw [hx] at h;cases h
  | some y=>
   cases hl:l.mapM f with
   | none=>rw [hx,hl] at h;cases h
   | some q=>rw [hx,hl] at h;rw [a x y hx,Qt a hl];exact h
theorem Jfm{h:Heap}{g:Nat}{ob:AObj}(o:h g=none):∀(k:Nat) (x:AV) (r:AV×List Nat),snap h k x=some r->snap (upd h g (some ob)) k x=some r
 | 0,x,r,hs=>by simp [snap] at hs
 | k+1,x,r,hs=>by
  have m:=Jfm o (ob:=ob) k;cases x<;>(try simp only [snap] at hs ⊢)<;>try (exact hs)
  case arr A ver off len=>
   split at hs
   ·rename_i y e t c z v;rw [Ze o v];simp only;split at hs
    ·rename_i w;rw [if_pos w];split at hs
     ·rename_i d;rw [if_pos d];exact hs
     ·rename_i d;rw [if_neg d];split at hs
      ·rename_i ps a;rw [Qt m a];exact hs
      ·cases hs
    ·cases hs
   ·cases hs
  case fn f caps=>
   split at hs
   ·rename_i ps a;rw [Qt m a];exact hs
   ·cases hs
  case agg l=>
   split at hs
   ·rename_i d;rw [if_pos d];exact hs
   ·rename_i d;rw [if_neg d];split at hs
    ·rename_i ps a;rw [Qt m a];exact hs
    ·cases hs
  case tup l=>
   split at hs
   ·rename_i ps a;rw [Qt m a];exact hs
   ·cases hs
theorem Jg1{h:Heap}{g:Nat}{ob:AObj}(d:h g=none){l:List AV}{r:List AV×List Nat}(hs:Jco h l=some r):Jco (upd h g (some ob)) l=some r:=by
 unfold Jco at hs ⊢;split at hs
 ·rename_i ps a;rw [Qt (Jfm d depth) a];exact hs
 ·cases hs
theorem Jmk{h:Heap}{g:Nat}{ob:AObj}(e:h g=none){x:AV}{r:AV×List Nat}(hs:Jks h x=some r):Jks (upd h g (some ob)) x=some r:=by
 unfold Jks at hs ⊢;split at hs
 ·rename_i m ver off;cases d:h m with
  | none=>rw [d] at hs;cases hs
  | some o=>
   rw [d] at hs;rw [Ze e d];unfold qbox at hs ⊢;split at hs
   ·split at hs
    ·rename_i l;simp only [if_pos l];split at hs
     ·rename_i f;rw [if_pos f];exact hs
     ·rename_i f;rw [if_neg f];unfold J0d at hs ⊢;split at hs
      ·rename_i ps a;rw [Qt (Jfm e depth) a];exact hs
      ·cases hs
    ·cases hs
   ·cases hs
 ·exact Jfm e depth _ r hs
theorem Jle{h:Heap}{g:Nat}{ob:AObj}(a:h g=none):∀ {l:List AV} {r:List AV×List Nat},Jm7 h l=some r->Jm7 (upd h g (some ob)) l=some r
 | [],r,hs=>hs
 | x::l,r,hs=>by
  simp only [Jm7] at hs ⊢;unfold Jmv at hs;split at hs
  ·rename_i u m us f e d;rw [Jmk a e,Jle a d];exact hs
  ·cases hs
theorem J0a{h:Heap}{g:Nat}{ob:AObj}(a:h g=none){x:AV}{r:AV×List Nat}(hs:qarg h x=some r):qarg (upd h g (some ob)) x=some r:=by
 unfold qarg at hs ⊢;split at hs
 ·unfold qfn at hs;split at hs
  ·rename_i us ms d;rw [Jle a d];exact hs
  ·cases hs
 ·exact Jmk a hs
theorem Jl6{h:Heap}{g:Nat}{ob:AObj}(a:h g=none):∀ {l:List AV} {r:List AV×List Nat},Jkp h l=some r->Jkp (upd h g (some ob)) l=some r
 | [],r,hs=>hs
 | x::l,r,hs=>by
  simp only [Jkp] at hs ⊢;unfold Jmv at hs;split at hs
  ·rename_i u m us f e d;rw [J0a a e,Jl6 a d];exact hs
  ·cases hs
theorem cls1_ev0{call:Call}{base g0:Nat}{op:LOp}(R:∀ds o,op≠.msk ds o)(A:op.cls=1){f:Nat->AV}{h N:Heap}{v:AV}(a:Ja call base ⟨f,h⟩ g0 op=some (v,N)) :
  N=h/\∀g ob,h g=none->Ja call base ⟨f,upd h g (some ob)⟩ g0 op=some (v,upd h g (some ob)):=by
 have evf:∀h h',(St.mk f h).ev=(St.mk f h').ev:=λh h'=>funext λx=>by cases x<;>rfl
 cases op<;>simp [LOp.cls] at A
 case msk ds o=>exact (R ds o rfl).elim
 case load ag n x=>
  simp only [Ja] at a ⊢;obtain ⟨d,E⟩:=hOut a;subst E;refine ⟨rfl,λg ob m=>?_⟩;have:Jbg (upd h g (some ob)) ag n ((St.mk f (upd h g (some ob))).ev x)=some v:=by
   rw [evf _ h];unfold Jbg at d ⊢;split at d
   ·rename_i l off hd;rw [Jrg m hd];exact d
   ·cases d
  rw [this]
 case nilck x=>
  simp only [Ja] at a ⊢;split at a
  ·rename_i P ver off hx;split at a
   ·rename_i H;injection a with a;simp only [Aa] at a;obtain ⟨rfl,rfl⟩:=a;refine ⟨rfl,λg ob m=>?_⟩;rw [evf _ h,hx];simp only;rw [if_pos (Jod m H)]
   ·cases a
  ·rename_i l hx;injection a with a;simp only [Aa] at a;obtain ⟨rfl,rfl⟩:=a;exact ⟨rfl,λg ob m=>by rw [evf _ h,hx]⟩
  ·rename_i f' l hx;injection a with a;simp only [Aa] at a;obtain ⟨rfl,rfl⟩:=a;exact ⟨rfl,λg ob m=>by rw [evf _ h,hx]⟩
  ·rename_i f' l hx;injection a with a;simp only [Aa] at a;obtain ⟨rfl,rfl⟩:=a;exact ⟨rfl,λg ob m=>by rw [evf _ h,hx]⟩
  ·cases a
 case slc e x lo X=>
  simp only [Ja] at a ⊢;obtain ⟨d,E⟩:=hOut a;subst E;refine ⟨rfl,λg ob m=>?_⟩;have:Y3 (upd h g (some ob)) e ((St.mk f (upd h g (some ob))).ev x) (lo.map (St.mk f (upd h g (some ob))).ev) (X.map (St.mk f (upd h g (some ob))).ev)=some v:=by
   rw [evf _ h];unfold Y3 at d ⊢;split at d
   ·exact d
   ·split at d
    ·split at d
     ·rename_i M;obtain ⟨c1,c2,Z,Y⟩:=M;rw [if_pos ⟨c1,c2,Z,Jq6 m Y⟩];exact d
     ·cases d
    ·cases d
   ·exact d
   ·cases d
  rw [this]
 case faddr off x=>
  simp only [Ja] at a ⊢;obtain ⟨d,E⟩:=hOut a;subst E;refine ⟨rfl,λg ob m=>?_⟩;have:zu (upd h g (some ob)) off ((St.mk f (upd h g (some ob))).ev x)=some v:=by
   rw [evf _ h];unfold zu at d ⊢;split at d
   ·split at d
    ·rename_i A;rw [if_pos (Jod m A)];exact d
    ·cases d
   ·exact d
   ·cases d
  rw [this]
 case iaddr e x i=>
  simp only [Ja] at a ⊢;obtain ⟨d,E⟩:=hOut a;subst E;refine ⟨rfl,λg ob m=>?_⟩;have:je (upd h g (some ob)) e ((St.mk f (upd h g (some ob))).ev x) ((St.mk f (upd h g (some ob))).ev i)=some v:=by
   rw [evf _ h];unfold je at d ⊢;split at d
   ·exact d
   ·split at d
    ·rename_i A;rw [if_pos ⟨A.1,A.2.1,Jq6 m A.2.2⟩];exact d
    ·cases d
   ·cases d
  rw [this]
 case iaddrA n e x i=>
  simp only [Ja] at a ⊢;obtain ⟨d,E⟩:=hOut a;subst E;refine ⟨rfl,λg ob m=>?_⟩;have:Jbq (upd h g (some ob)) n e ((St.mk f (upd h g (some ob))).ev x) ((St.mk f (upd h g (some ob))).ev i)=some v:=by
   rw [evf _ h];unfold Jbq at d ⊢;split at d
   ·split at d
    ·rename_i A;rw [if_pos ⟨A.1,A.2.1,Jod m A.2.2⟩];exact d
    ·cases d
   ·exact d
   ·cases d
  rw [this]
 case len x=>
  simp only [Ja] at a ⊢;split at a
  ·rename_i n r;injection a with a;simp only [Aa] at a;obtain ⟨rfl,rfl⟩:=a;refine ⟨rfl,λg ob m=>?_⟩;have:lenV (upd h g (some ob)) ((St.mk f (upd h g (some ob))).ev x)=some n:=by
    rw [evf _ h];unfold lenV at r ⊢;split at r
    ·exact r
    ·exact r
    ·split at r
     ·rename_i A;rw [if_pos (Je2 m A)];exact r
     ·cases r
    ·cases r
   rw [this]
  ·cases a
 case lenM x=>
  simp only [Ja] at a ⊢;split at a
  ·rename_i n r;injection a with a;simp only [Aa] at a;obtain ⟨rfl,rfl⟩:=a;refine ⟨rfl,λg ob m=>?_⟩;have:lenM (upd h g (some ob)) ((St.mk f (upd h g (some ob))).ev x)=some n:=by
    rw [evf _ h];unfold lenM at r ⊢;split at r
    ·exact r
    ·exact r
    ·split at r
     ·rename_i es A;rw [Jo6 m A];exact r
     ·cases r
    ·cases r
   rw [this]
  ·cases a
 case isnil ne x=>
  simp only [Ja] at a ⊢;split at a
  ·rename_i n r;injection a with a;simp only [Aa] at a;obtain ⟨rfl,rfl⟩:=a;refine ⟨rfl,λg ob m=>?_⟩;have:Je7 (upd h g (some ob)) ((St.mk f (upd h g (some ob))).ev x)=some n:=by
    rw [evf _ h];unfold Je7 at r ⊢;split at r
    ·exact r
    ·exact r
    ·exact r
    ·split at r
     ·rename_i A;rw [if_pos ⟨Je2 m A.1,A.2⟩];exact r
     ·cases r
    ·cases r
   rw [this]
  ·cases a
 case slcA n e x=>
  simp only [Ja] at a ⊢;obtain ⟨d,E⟩:=hOut a;subst E;refine ⟨rfl,λg ob m=>?_⟩;have:Jqj (upd h g (some ob)) n e ((St.mk f (upd h g (some ob))).ev x)=some v:=by
   rw [evf _ h];unfold Jqj at d ⊢;split at d
   ·rename_i P ver hx;cases L:h P with
    | none=>rw [L] at d;cases d
    | some o=>rw [Ze m L];rw [L] at d;exact d
   ·cases d
  rw [this]
 case look ok ag sh z x k=>
  simp only [Ja] at a ⊢;obtain ⟨d,E⟩:=hOut a;subst E;refine ⟨rfl,λg ob m=>?_⟩;rw [evf _ h];have:∀y es,esOf h y=some es->esOf (upd h g (some ob)) y=some es:=λy es w=>by
   unfold esOf at w ⊢;split at w
   ·exact w
   ·exact w
   ·exact Jo6 m w
   ·cases w
  cases w:esOf h ((St.mk f h).ev x) with
  | none=>rw [w] at d;cases d
  | some es=>rw [this _ es w,<-w,d]
 case callq f' l=>
  simp only [Ja] at a ⊢;unfold calQ at a;split at a
  ·rename_i vs ns Q;unfold retQ at a;split at a
   ·rename_i u O G;split at a
    ·rename_i K;injection a with a;simp only [Aa] at a;obtain ⟨rfl,rfl⟩:=a;refine ⟨rfl,λg ob m=>?_⟩;rw [evf _ h,Jl6 m Q];simp only [calQ,retQ,G];rw [if_pos K]
    ·cases a
   ·cases a
  ·cases a
 case callp f' l=>
  simp only [Ja] at a ⊢;split at a
  ·rename_i vs ns F;split at a
   ·rename_i u O J;split at a
    ·rename_i B;injection a with a;simp only [Aa] at a;obtain ⟨rfl,rfl⟩:=a;refine ⟨rfl,λg ob m=>?_⟩;rw [evf _ h,Jg1 m F];simp only [J];rw [if_pos B]
    ·cases a
   ·cases a
  ·cases a
 case callv x l=>
  simp only [Ja] at a ⊢;split at a
  ·rename_i f' caps vs ns F;split at a
   ·rename_i u O J;split at a
    ·rename_i B;injection a with a;simp only [Aa] at a;obtain ⟨rfl,rfl⟩:=a;refine ⟨rfl,λg ob m=>?_⟩;rw [evf _ h,Jg1 m F];simp only [J];rw [if_pos B]
    ·cases a
   ·cases a
  ·cases a
theorem Ja3{base g:Nat}{ds:List Nat}{h:Heap}{o:Option AObj}(d:inNm base ds g=true):K2 base ds (upd h g o)=K2 base ds h:=by
 funext k;unfold K2 upd;by_cases a:inNm base ds k=true
 ·rw [if_pos a,if_pos a]
 ·rw [if_neg a,if_neg a,if_neg (by rintro rfl;exact a d)]
theorem Jop{base g:Nat}{ds:List Nat}{h:Heap}{o:Option AObj}(e:¬inNm base ds g=true):K2 base ds (upd h g o)=upd (K2 base ds h) g o:=by
 funext k;by_cases a:inNm base ds k=true
 ·have d:k≠g:=by rintro rfl;exact e a
  rw [Jc _ _ _ _ d];unfold K2;rw [if_pos a,if_pos a]
 ·simp only [K2,upd,a,if_false,Ap]
theorem Jis{call:Call}{base g0:Nat}{op:LOp}:op.cls=1->∀ {f:Nat->AV} {h o:Heap} {v:AV},Ja call base ⟨f,h⟩ g0 op=some (v,o) ->
  o=h/\∀g ob,h g=none->Ja call base ⟨f,upd h g (some ob)⟩ g0 op=some (v,upd h g (some ob)):=by
 induction op with
 | msk ds op w=>
  intro _ f h o v a;simp only [Ja] at a ⊢;split at a
  ·rename_i m;cases l:Ja call base ⟨f,K2 base ds h⟩ g0 op with
   | none=>rw [l] at a;cases a
   | some r=>
    obtain ⟨u,A⟩:=r;rw [l] at a;injection a with a;simp only [Aa] at a;obtain ⟨rfl,rfl⟩:=a;obtain ⟨rfl,e⟩:=w m l;refine ⟨rfl,λg ob y=>?_⟩;rw [if_pos m];by_cases d:inNm base ds g=true
    ·rw [Ja3 d,l];rfl
    ·rw [Jop d,e g ob (by unfold K2;split<;>first|rfl|exact y)];rfl
  ·cases a
 | _=>exact λm _ _ _ _ a=>cls1_ev0 (by rintro _ _ ⟨⟩) m a
theorem Jj9{call:Call}{base g0:Nat}{op:LOp}(l:op.cls=1){f:Nat->AV}{h:Heap}{v:AV}:∀ {ds:List Nat} {m:Heap},Ja call base ⟨f,K2 base ds h⟩ g0 op=some (v,m)->Ja call base ⟨f,h⟩ g0 op=some (v,h)
 | [],m,a=>by
  have:K2 base [] h=h:=by funext k;rfl
  rw [this] at a;rw [a,(Jis l a).1]
 | d::ds,m,a=>by
  have key:K2 base (d::ds) h=K2 base ds h\/∃ob,K2 base (d::ds) h (base+d)=none/\K2 base ds h=upd (K2 base (d::ds) h) (base+d) (some ob):=by
   cases o:K2 base ds h (base+d) with
   | none=>
    refine .inl (funext λk=>?_);by_cases g:k=base+d
    ·subst g;rw [o];unfold K2;rw [if_pos (by simp [inNm])]
    ·unfold K2;have:inNm base (d::ds) k=inNm base ds k:=by simp [inNm,List.any_cons];intro h';exact (g h'.symm).elim
     rw [this]
   | some ob=>
    refine .inr ⟨ob,by unfold K2;rw [if_pos (by simp [inNm])],funext λk=>?_⟩;by_cases g:k=base+d
    ·subst g;rw [o,Jh]
    ·rw [Jc _ _ _ _ g];unfold K2;have:inNm base (d::ds) k=inNm base ds k:=by simp [inNm,List.any_cons];intro h';exact (g h'.symm).elim
     rw [this]
  rcases key with e|⟨ob,r,e⟩
  ·rw [e] at a;exact Jj9 l a
  ·have:=(Jis l a).2 (base+d) ob r;rw [<-e] at this;exact Jj9 l this
theorem Jlv{call:Call}{base g0:Nat}{σ:St}{op:LOp}{ds:List Nat}{v:AV}{e:Heap}(a:Ja call base σ g0 (.msk ds op)=some (v,e)):Ja call base σ g0 op=some (v,e):=by
 simp only [Ja] at a;split at a
 ·rename_i f;cases d:Ja call base ⟨σ.f,K2 base ds σ.h⟩ g0 op with
  | none=>rw [d] at a;cases a
  | some r=>
   obtain ⟨u,g⟩:=r;rw [d] at a;injection a with a;simp only [Aa] at a;obtain ⟨rfl,rfl⟩:=a;exact Jj9 f d
 ·cases a
theorem Jx9{call:Call}{base g0:Nat}{σ:St}{ds ds':List Nat}{esz bytes:Nat}{el:TypeId}{zz:List AV}{x y:LO}{v:AV}{e:Heap}(hd:∀g,inNm base ds g=true->inNm base ds' g=true)
  (a:Ja call base σ g0 (.appn ds esz bytes el zz x y)=some (v,e)):K2 base ds' e=K2 base ds' σ.h:=by
 simp only [Ja,apnV] at a;split at a
 ·rename_i d;unfold appV at a;split at a
  ·split at a
   ·rename_i hx;rw [hx] at d
    (repeat' split at a)<;>first|(cases a;done)|(injection a with a;simp only [Aa] at a;obtain ⟨-,rfl⟩:=a;first|rfl|exact Ja3 (hd _ d))
   ·rename_i hx;rw [hx] at d
    (repeat' split at a)<;>first|(cases a;done)|(injection a with a;simp only [Aa] at a;obtain ⟨-,rfl⟩:=a;first|rfl|exact Ja3 (hd _ d))
   ·split at a
    ·injection a with a;simp only [Aa] at a;obtain ⟨-,rfl⟩:=a;rfl
    ·cases a
   ·cases a
  ·cases a
 ·cases a
theorem ston_ev{call:Call}{base g0:Nat}{σ:St}{ds:List Nat}{n:Nat}{x y:LO}{v:AV}{d:Heap}(a:Ja call base σ g0 (.ston ds n x y)=some (v,d)) :
  Ja call base σ g0 (.store n x y)=some (v,d):=by
 simp only [Ja] at a ⊢;split at a
 ·exact a
 ·cases a
theorem Jxy{call:Call}{base g0:Nat}{σ:St}{ds ds':List Nat}{n:Nat}{x y:LO}{v:AV}{f:Heap}(hd:∀g,inNm base ds g=true->inNm base ds' g=true)
  (d:Ja call base σ g0 (.ston ds n x y)=some (v,f)):K2 base ds' f=K2 base ds' σ.h:=by
 simp only [Ja] at d;split at d
 ·rename_i e;split at d
  ·rename_i l a;injection d with d;simp only [Aa] at d;obtain ⟨-,rfl⟩:=d;unfold Jcz at a;split at a
   ·rename_i g ver off c hx h;rw [hx] at e
    (repeat' split at a)<;>first|(cases a;done)|(injection a with a;subst a;exact Ja3 (hd _ e))
   ·cases a
  ·cases d
 ·cases d
theorem Jni{call:Call}{base g0:Nat}{σ:St}{op:LOp}{ds ds':List Nat}{v:AV}{e:Heap}(a:op.nwD=some ds)(hd:∀g,inNm base ds g=true->inNm base ds' g=true)
  (d:Ja call base σ g0 op=some (v,e)):K2 base ds' e=K2 base ds' σ.h:=by
 unfold LOp.nwD at a;split at a
 ·injection a with a;subst a;exact Jx9 hd d
 ·injection a with a;subst a;exact Jxy hd d
 ·cases a
theorem cls2_ev{call:Call}{base g0:Nat}{op:LOp}(g:op.cls=2){f:Nat->AV}{h e:Heap}{v:AV}(l:h g0=none)(a:Ja call base ⟨f,h⟩ g0 op=some (v,e)) :
  ∃ob,e=upd h g0 (some ob)/\∀h',h' g0=none->Ja call base ⟨f,h'⟩ g0 op=some (v,upd h' g0 (some ob)):=by
 have evf:∀h h',(St.mk f h).ev=(St.mk f h').ev:=λh h'=>funext λx=>by cases x<;>rfl
 have nv:∀h',h' g0=none->Jv h' g0=0:=λh' d=>by simp [Jv,d]
 cases op<;>simp [LOp.cls] at g
 all_goals
  simp only [Ja,nv h l] at a
  (repeat' split at a)<;>first|(cases a;done)|skip
  all_goals
   injection a with a;simp only [Aa] at a;obtain ⟨rfl,rfl⟩:=a;refine ⟨_,rfl,λh' d=>?_⟩;simp only [Ja,nv h' d]
   try rw [evf h' h]
   try simp_all
theorem Jdp{op:LOp}(h:op.cls=2):op.isNew=true:=by cases op<;>simp [LOp.cls] at h<;>rfl
theorem new_cls2{op:LOp}(h:op.isNew=true):op.cls=2:=by cases op<;>simp [LOp.isNew] at h<;>rfl
def ClsOK(call:Call)(base:Nat)(o:LOper)(f:Nat->AV)(h a:Heap)(v:AV):Prop:=
 (o.op.cls=0->a=h/\∀h',evG call base o f h'=some (v,h')) /\
  (o.op.cls=1->a=h/\∀g ob,h g=none->evG call base o f (upd h g (some ob))=some (v,upd h g (some ob))) /\
  (o.op.cls=2->(a=h/\∀h',evG call base o f h'=some (v,h')) \/
   ∃ob,a=upd h (base+o.dst.getD 0) (some ob)/\∀h',h' (base+o.dst.getD 0)=none->evG call base o f h'=some (v,upd h' (base+o.dst.getD 0) (some ob)))
theorem Jx1{call:Call}{base:Nat}{o:LOper}{f:Nat->AV}{h A:Heap}{v:AV}(d:evG call base o f h=some (v,A))(B:o.op.isNew=true->h (base+o.dst.getD 0)=none):ClsOK call base o f h A v:=by
 have main:Ja call base ⟨f,h⟩ (base+o.dst.getD 0) o.op=some (v,A)->(∀h' r,Ja call base ⟨f,h'⟩ (base+o.dst.getD 0) o.op=some r->evG call base o f h'=some r)->ClsOK call base o f h A v:=λl a=>
  ⟨λm=>⟨(Jxa m l).1,λh'=>a h' _ ((Jxa m l).2 h')⟩,λm=>⟨(Jis m l).1,λg ob w=>a _ _ ((Jis m l).2 g ob w)⟩,λm=>by obtain ⟨ob,e,G⟩:=cls2_ev m (B (Jdp m)) l;exact .inr ⟨ob,e,λh' H=>a _ _ (G h' H)⟩⟩
 have skip:A=h->(∀h',evG call base o f h'=some (v,h'))->ClsOK call base o f h A v:=λe a=>
  ⟨λ_=>⟨e,a⟩,λ_=>⟨e,λg ob _=>a _⟩,λ_=>.inl ⟨e,a⟩⟩
 unfold evG at d;split at d
 ·rename_i w;exact main d λh' r F=>by unfold evG;rw [w];exact F
 ·rename_i g want w;split at d
  ·rename_i b E;split at d
   ·rename_i y;exact main d λh' r F=>by unfold evG;rw [w];simp only [E];rw [if_pos y];exact F
   ·rename_i y;injection d with d;simp only [Aa] at d;obtain ⟨rfl,rfl⟩:=d;exact skip rfl λh'=>by unfold evG;rw [w];simp only [E];rw [if_neg y]
  ·rename_i E;injection d with d;simp only [Aa] at d;obtain ⟨rfl,rfl⟩:=d;exact skip rfl λh'=>by unfold evG;rw [w];simp only [E]
  ·cases d
section
variable {h:Heap} {ns:List Nat}
theorem Jmf(x:AV):zp (Jd h ns) x=zp h x:=by
 cases x<;>try rfl
 rename_i g ver off;simp only [zp,Jd];by_cases a:g∈ns
 ·simp only [a,if_true];cases h g with
  | none=>rfl
  | some o=>cases o<;>rfl
 ·simp only [a,if_false]
theorem Jr4(g ver:Nat):cur (Jd h ns) g ver=cur h g ver:=by
 simp only [cur,Jd];by_cases a:g∈ns
 ·simp only [a,if_true];cases h g with
  | none=>rfl
  | some o=>cases o<;>rfl
 ·simp only [a,if_false]
theorem Juw(g ver esz:Nat):curA (Jd h ns) g ver esz=curA h g ver esz:=by
 simp only [curA,Jd];by_cases a:g∈ns
 ·simp only [a,if_true];cases h g with
  | none=>rfl
  | some o=>cases o<;>rfl
 ·simp only [a,if_false]
theorem Jml(g ver:Nat):X2 (Jd h ns) g ver=X2 h g ver:=by
 simp only [X2,Jd];by_cases a:g∈ns
 ·simp only [a,if_true];cases h g with
  | none=>rfl
  | some o=>cases o<;>rfl
 ·simp only [a,if_false]
theorem J0b(g ver n esz k:Nat):slcAO g ver n esz (Jd h ns k)=slcAO g ver n esz (h k):=by
 simp only [Jd];by_cases a:k∈ns
 ·simp only [a,if_true];cases h k with
  | none=>rfl
  | some o=>cases o<;>rfl
 ·simp only [a,if_false]
theorem Jfw:Jd h []=h:=by funext g;simp [Jd]
theorem Jyl(f:Nat->AV)(h h':Heap)(x:LO):(St.mk f h).ev x=(St.mk f h').ev x:=by cases x<;>rfl
theorem Juk{call:Call}{base g0:Nat}{f:Nat->AV}{op:LOp}{v:AV}{A:Heap}(w:op.still=true)(d:Ja call base ⟨f,h⟩ g0 op=some (v,A)) :
  A=h/\Ja call base ⟨f,Jd h ns⟩ g0 op=some (v,Jd h ns):=by
 have E:∀x,(St.mk f (Jd h ns)).ev x=(St.mk f h).ev x:=λx=>Jyl f _ _ x;cases op<;>(try (simp [LOp.still] at w;done))<;>simp only [Ja,E] at d ⊢
 case load ag n x=>
  obtain ⟨m,o⟩:=hOut d;refine ⟨o.symm,?_⟩;simp only [Jbg,Jmf] at m ⊢;rw [m]
 case nilck x=>
  split at d
  ·rename_i g ver off hx;split at d
   ·rename_i w;injection d with d;simp only [Aa] at d;obtain ⟨rfl,rfl⟩:=d;exact ⟨rfl,by rw [Jr4,if_pos w]⟩
   ·cases d
  ·injection d with d;simp only [Aa] at d;obtain ⟨rfl,rfl⟩:=d;exact ⟨rfl,rfl⟩
  ·injection d with d;simp only [Aa] at d;obtain ⟨rfl,rfl⟩:=d;exact ⟨rfl,rfl⟩
  ·injection d with d;simp only [Aa] at d;obtain ⟨rfl,rfl⟩:=d;exact ⟨rfl,rfl⟩
  ·cases d
 case slc e x lo r=>
  obtain ⟨m,o⟩:=hOut d;refine ⟨o.symm,?_⟩;have E2:(St.mk f (Jd h ns)).ev=(St.mk f h).ev:=funext E;simp only [E2];have:∀x lo r,Y3 (Jd h ns) e x lo r=Y3 h e x lo r:=λx lo r=>by cases x<;>simp only [Y3,Juw]
  rw [this,m]
 case faddr off x=>
  obtain ⟨m,o⟩:=hOut d;refine ⟨o.symm,?_⟩;have:∀x,zu (Jd h ns) off x=zu h off x:=λx=>by cases x<;>simp only [zu,Jr4]
  rw [this,m]
 case iaddr e x i=>
  obtain ⟨m,o⟩:=hOut d;refine ⟨o.symm,?_⟩;have:∀x i,je (Jd h ns) e x i=je h e x i:=λx i=>by cases x<;>cases i<;>simp only [je,Juw]
  rw [this,m]
 case iaddrA n e x i=>
  obtain ⟨m,o⟩:=hOut d;refine ⟨o.symm,?_⟩;have:∀x i,Jbq (Jd h ns) n e x i=Jbq h n e x i:=λx i=>by cases x<;>cases i<;>simp only [Jbq,Jr4]
  rw [this,m]
 case len x=>
  have:∀x,lenV (Jd h ns) x=lenV h x:=λx=>by cases x<;>simp only [lenV,Jml]
  rw [this];split at d
  ·rename_i n B;injection d with d;simp only [Aa] at d;obtain ⟨rfl,rfl⟩:=d;exact ⟨rfl,rfl⟩
  ·cases d
 case isnil ne x=>
  have:∀x,Je7 (Jd h ns) x=Je7 h x:=λx=>by
   cases x
   case arr g ver off len=>simp only [Je7,Jml]
   case lst n l=>cases n<;>cases l<;>rfl
   all_goals rfl
  rw [this];split at d
  ·rename_i n B;injection d with d;simp only [Aa] at d;obtain ⟨rfl,rfl⟩:=d;exact ⟨rfl,rfl⟩
  ·cases d
 case callp g l=>
  cases l with
  | cons a l=>simp [LOp.still] at w
  | nil=>
   have hs:∀h,Jco h []=some ([],[]):=λh=>rfl;simp only [List.map_nil,hs] at d ⊢;split at d
   ·rename_i u F y;rw [if_pos (.inl trivial)] at d;injection d with d;simp only [Aa] at d;obtain ⟨rfl,rfl⟩:=d;exact ⟨rfl,by rw [if_pos (.inl trivial)]⟩
   ·cases d
 case slcA n e x=>
  obtain ⟨m,o⟩:=hOut d;refine ⟨o.symm,?_⟩;have:∀x,Jqj (Jd h ns) n e x=Jqj h n e x:=λx=>by
   cases x<;>try rfl
   rename_i g ver off;cases off<;>simp only [Jqj,J0b]
  rw [this,m]
theorem Jxt{call:Call}{base g0:Nat}{f:Nat->AV}{op:LOp}{v:AV}{d:Heap}(e:op.frzs=true)(a:Ja call base ⟨f,h⟩ g0 op=some (v,d)):∃ns,d=Jd h ns:=by
 cases op<;>(try (simp [LOp.frzs] at e;done))<;>simp only [Ja] at a
 case callz g l=>
  split at a
  ·split at a
   ·injection a with a;simp only [Aa] at a;exact ⟨_,a.2.symm⟩
   ·cases a
  ·cases a
end
theorem Jol{call:Call}{base:Nat}{o:LOper}{f:Nat->AV}{h e:Heap}{v:AV}(d:o.op.frzs=true)(a:evG call base o f h=some (v,e)):∃ns,e=Jd h ns:=by
 unfold evG at a;split at a
 ·exact Jxt d a
 ·split at a
  ·split at a
   ·exact Jxt d a
   ·injection a with a;simp only [Aa] at a;exact ⟨[],by rw [Jfw];exact a.2.symm⟩
  ·injection a with a;simp only [Aa] at a;exact ⟨[],by rw [Jfw];exact a.2.symm⟩
  ·cases a
theorem Jx5{call:Call}{base:Nat}{o:LOper}{f:Nat->AV}{h g:Heap}{v:AV}(e:o.op.still=true)(a:evG call base o f h=some (v,g))(ns:List Nat):g=h/\evG call base o f (Jd h ns)=some (v,Jd h ns):=by
 unfold evG at a ⊢;split at a
 ·exact Juk e a
 ·split at a
  ·split at a
   ·rename_i d;rw [if_pos d];exact Juk e a
   ·rename_i d;rw [if_neg d];injection a with a;simp only [Aa] at a;exact ⟨a.2.symm,by rw [a.1]⟩
  ·injection a with a;simp only [Aa] at a;exact ⟨a.2.symm,by rw [a.1]⟩
  ·cases a
theorem evG_past{call:Call}{base:Nat}{i j:LOper}{f:Nat->AV}{h l o:Heap}{v1 v2:AV}{ds ds':List Nat}{op:LOp}(A:i.op=.msk ds op)(y:j.op.nwD=some ds')
  (hd:∀g,inNm base ds' g=true->inNm base ds g=true) (a:evG call base i f h=some (v1,l)) (d:evG call base j f l=some (v2,o)):l=h/\evG call base i f o=some (v1,o):=by
 have m:K2 base ds o=K2 base ds l:=by
  unfold evG at d;split at d
  ·exact Jni y hd d
  ·split at d
   ·split at d
    ·exact Jni y hd d
    ·injection d with d;simp only [Aa] at d;rw [d.2]
   ·injection d with d;simp only [Aa] at d;rw [d.2]
   ·cases d
 have main:∀g0,Ja call base ⟨f,h⟩ g0 (.msk ds op)=some (v1,l)->l=h/\Ja call base ⟨f,o⟩ g0 (.msk ds op)=some (v1,o):=λg0 e=>by
  have B:l=h:=(Jis (op:=.msk ds op) rfl e).1;subst B;refine ⟨rfl,?_⟩;simp only [Ja] at e ⊢;rw [m];split at e
  ·rename_i E;rw [if_pos E];cases w:Ja call base ⟨f,K2 base ds l⟩ g0 op with
   | none=>rw [w] at e;cases e
   | some r=>
    obtain ⟨u,F⟩:=r;rw [w] at e;injection e with e;simp only [Aa] at e;obtain ⟨rfl,-⟩:=e;rfl
  ·cases e
 unfold evG at a ⊢;rw [A] at a ⊢;split at a
 ·exact main _ a
 ·split at a
  ·split at a
   ·rename_i v;rw [if_pos v];exact main _ a
   ·rename_i v;rw [if_neg v];injection a with a;simp only [Aa] at a;exact ⟨a.2.symm,by rw [a.1]⟩
  ·injection a with a;simp only [Aa] at a;exact ⟨a.2.symm,by rw [a.1]⟩
  ·cases a
theorem Jnw{h:Heap}{ns:List Nat}{g:Nat}{ob:AObj}(d:g∉ns):Jd (upd h g (some ob)) ns=upd (Jd h ns) g (some ob):=by
 funext k;by_cases a:k=g
 ·subst a;rw [Jh];unfold Jd;rw [if_neg d,Jh]
 ·rw [Jc _ _ _ _ a];unfold Jd;rw [Jc _ _ _ _ a]
theorem ld_ev{call:Call}{base g0:Nat}{f:Nat->AV}{h:Heap}{ns:List Nat}{op:LOp}{v:AV}{e:Heap}(g:op.ld=true)(a:Ja call base ⟨f,Jd h ns⟩ g0 op=some (v,e)) :
  e=Jd h ns/\Ja call base ⟨f,h⟩ g0 op=some (v,h):=by
 have E:∀x,(St.mk f (Jd h ns)).ev x=(St.mk f h).ev x:=λx=>Jyl f _ _ x;cases op<;>(try (simp [LOp.ld] at g;done))<;>simp only [Ja,E] at a ⊢
 case load ag n x=>
  obtain ⟨d,l⟩:=hOut a;refine ⟨l.symm,?_⟩;simp only [Jbg,Jmf] at d ⊢;rw [d]
theorem evG_ld{call:Call}{base:Nat}{o:LOper}{f:Nat->AV}{h g:Heap}{v:AV}{ns:List Nat}(e:o.op.ld=true)(a:evG call base o f (Jd h ns)=some (v,g)):g=Jd h ns/\evG call base o f h=some (v,h):=by
 unfold evG at a ⊢;split at a
 ·exact ld_ev e a
 ·split at a
  ·split at a
   ·rename_i d;rw [if_pos d];exact ld_ev e a
   ·rename_i d;rw [if_neg d];injection a with a;simp only [Aa] at a;exact ⟨a.2.symm,by rw [a.1]⟩
  ·injection a with a;simp only [Aa] at a;exact ⟨a.2.symm,by rw [a.1]⟩
  ·cases a
theorem Jp8{call:Call}{base g0:Nat}{f:Nat->AV}{op:LOp}{v:AV}{h r:Heap}(y:op.frzs=true)(a:Ja call base ⟨f,h⟩ g0 op=some (v,r)){g:Nat}{ob:AObj}(m:h g=none) :
  Ja call base ⟨f,upd h g (some ob)⟩ g0 op=some (v,upd r g (some ob)):=by
 have evf:∀h h',(St.mk f h).ev=(St.mk f h').ev:=λh h'=>funext λx=>by cases x<;>rfl
 cases op<;>(try (simp [LOp.frzs] at y;done))<;>simp only [Ja] at a ⊢
 case callz f' l=>
  rw [evf _ h];split at a
  ·rename_i vs ns hs;split at a
   ·rename_i u A d;injection a with a;simp only [Aa] at a;obtain ⟨rfl,rfl⟩:=a;have:g∉ns:=λw=>by obtain ⟨o,e,_⟩:=Jcf hs g w;rw [m] at e;cases e
    simp only [Jg1 m hs,d,Jnw this]
   ·cases a
  ·cases a
theorem Job{call:Call}{base:Nat}{o:LOper}{f:Nat->AV}{h m:Heap}{v:AV}(l:o.op.frzs=true)(a:evG call base o f h=some (v,m)){g:Nat}{ob:AObj}(e:h g=none) :
  evG call base o f (upd h g (some ob))=some (v,upd m g (some ob)):=by
 unfold evG at a ⊢;split at a
 ·exact Jp8 l a e
 ·split at a
  ·split at a
   ·rename_i d;rw [if_pos d];exact Jp8 l a e
   ·rename_i d;rw [if_neg d];injection a with a;simp only [Aa] at a;rw [a.1,a.2]
  ·injection a with a;simp only [Aa] at a;rw [a.1,a.2]
  ·cases a
theorem Jh4{α:Type}(f:Nat->α){d e:Nat}(u v:α)(h:d≠e):upd (upd f d u) e v=upd (upd f e v) d u:=by funext n;unfold upd;by_cases g:n=e<;>by_cases a:n=d<;>simp_all
theorem Jwn{h:Heap}{g:Nat}{ob:AObj}(a:h g=none){x:AV}{n:Int}(hs:lenV h x=some n):lenV (upd h g (some ob)) x=some n:=by
 cases x<;>try exact hs
 rename_i e ver off len;simp only [lenV] at hs ⊢;split at hs
 ·rename_i d;rw [if_pos (Je2 a d)];exact hs
 ·cases hs
theorem Jru{h:Heap}{g esz:Nat}{ob:AObj}(d:h g=none){x:AV}{l:List AV}(hs:Zj h esz x=some l):Zj (upd h g (some ob)) esz x=some l:=by
 cases x<;>try exact hs
 rename_i e ver off len;simp only [Zj] at hs ⊢;split at hs
 ·rename_i a;rw [Ze d a];exact hs
 ·cases hs
theorem Jps{h E:Heap}{g g0 esz bytes:Nat}{el:TypeId}{x y v:AV}{ob:AObj}(l:h g=none)(o:g0≠g)(a:appV h g0 esz bytes el x y=some (v,E)):appV (upd h g (some ob)) g0 esz bytes el x y=some (v,upd E g (some ob)):=by
 unfold appV at a;split at a
 ·rename_i m new hl H;have A:=Jwn (ob:=ob) l hl;have w:=Jru (ob:=ob) l H;have G:Jv (upd h g (some ob)) g0=Jv h g0:=by unfold Jv;rw [Jc _ _ _ _ o]
  unfold appV;rw [A,w,G];split at a
  ·simp only;split at a
   ·rename_i d;rw [if_pos d];injection a with a;simp only [Aa] at a;obtain ⟨rfl,rfl⟩:=a;rfl
   ·rename_i d;rw [if_neg d];split at a
    ·rename_i B;rw [if_pos B];injection a with a;simp only [Aa] at a;obtain ⟨rfl,rfl⟩:=a;rw [Jh4 _ _ _ o]
    ·cases a
  ·rename_i F ver off len;simp only;split at a
   ·rename_i ver' esz' el' cells e;have r:F≠g:=by rintro rfl;rw [l] at e;cases e
    rw [Ze l e];simp only;split at a
    ·rename_i d;rw [if_pos d];split at a
     ·rename_i f;rw [if_pos f];injection a with a;simp only [Aa] at a;obtain ⟨rfl,rfl⟩:=a;rfl
     ·rename_i f;rw [if_neg f];injection a with a;simp only [Aa] at a;obtain ⟨rfl,rfl⟩:=a;rw [Jh4 _ _ _ r]
    ·cases a
   ·rename_i ver' esz' el' cells e;have r:F≠g:=by rintro rfl;rw [l] at e;cases e
    rw [Ze l e];simp only;split at a
    ·rename_i d;rw [if_pos d];injection a with a;simp only [Aa] at a;obtain ⟨rfl,rfl⟩:=a;rfl
    ·cases a
   ·cases a
  ·simp only;split at a
   ·rename_i d;rw [if_pos d];injection a with a;simp only [Aa] at a;obtain ⟨rfl,rfl⟩:=a;rfl
   ·cases a
  ·cases a
 ·cases a
theorem Jtv{call:Call}{base g0:Nat}{f:Nat->AV}{op:LOp}{v:AV}{h l:Heap}(o:op.aps=true)(a:Ja call base ⟨f,h⟩ g0 op=some (v,l)){g:Nat}{ob:AObj}(e:h g=none)(d:g0≠g) :
  Ja call base ⟨f,upd h g (some ob)⟩ g0 op=some (v,upd l g (some ob)):=by
 have evf:∀h h',(St.mk f h).ev=(St.mk f h').ev:=λh h'=>funext λx=>by cases x<;>rfl
 cases op<;>(try (simp [LOp.aps] at o;done))<;>simp only [Ja] at a ⊢
 case app esz bytes el zz x y=>
  rw [evf _ h];exact Jps e d a
 case appn ds esz bytes el zz x y=>
  rw [evf _ h];unfold apnV at a ⊢;split at a
  ·rename_i m;rw [if_pos m];exact Jps e d a
  ·cases a
theorem Jpv{call:Call}{base:Nat}{o:LOper}{f:Nat->AV}{h r:Heap}{v:AV}(m:o.op.aps=true)(a:evG call base o f h=some (v,r)){g:Nat}{ob:AObj}(l:h g=none)(d:base+o.dst.getD 0≠g) :
  evG call base o f (upd h g (some ob))=some (v,upd r g (some ob)):=by
 unfold evG at a ⊢;split at a
 ·exact Jtv m a l d
 ·split at a
  ·split at a
   ·rename_i e;rw [if_pos e];exact Jtv m a l d
   ·rename_i e;rw [if_neg e];injection a with a;simp only [Aa] at a;rw [a.1,a.2]
  ·injection a with a;simp only [Aa] at a;rw [a.1,a.2]
  ·cases a
theorem Jpd{h l:Heap}{g g0 esz bytes:Nat}{el:TypeId}{x y v:AV}(a:appV h g0 esz bytes el x y=some (v,l))(f:l g=none):h g=none:=by
 have key:∀(k:Nat) (o:AObj),upd h k (some o) g=none->h g=none:=λk o e=>by
  by_cases d:g=k
  ·subst d;rw [Jh] at e;cases e
  ·rwa [Jc _ _ _ _ d] at e
 unfold appV at a
 (repeat' split at a)<;>first|(cases a;done)|(injection a with a;simp only [Aa] at a;obtain ⟨-,rfl⟩:=a;first|exact f|exact key _ _ f)
theorem aps_none{call:Call}{base:Nat}{o:LOper}{f:Nat->AV}{h l:Heap}{v:AV}{g:Nat}(m:o.op.aps=true)(a:evG call base o f h=some (v,l))(d:l g=none):h g=none:=by
 have main:∀g0,Ja call base ⟨f,h⟩ g0 o.op=some (v,l)->h g=none:=λg0 a=>by
  cases e:o.op<;>rw [e] at m a<;>(try (simp [LOp.aps] at m;done))<;>simp only [Ja] at a
  ·exact Jpd a d
  ·unfold apnV at a;split at a
   ·exact Jpd a d
   ·cases a
 unfold evG at a;split at a
 ·exact main _ a
 ·split at a
  ·split at a
   ·exact main _ a
   ·injection a with a;simp only [Aa] at a;rw [a.2];exact d
  ·injection a with a;simp only [Aa] at a;rw [a.2];exact d
  ·cases a
theorem Jwb{σ:St}{d e:Option Nat}{u v:AV}{l h g f:Heap}(a:∀x,d=some x->e≠some x):((σ.put d u l).put e v g).f=((σ.put e v h).put d u f).f:=by cases d<;>cases e<;>simp only [St.put];rename_i d e;exact Jh4 σ.f u v (by rintro rfl;exact a d rfl rfl)
theorem Jxc{σ:St}{d:Option Nat}{u:AV}{h:Heap}:(σ.put d u h).h=h:=by cases d<;>rfl
theorem Jij{σ:St}{d:Option Nat}{u:AV}{h:Heap}{n:Nat}(a:d≠some n):(σ.put d u h).f n=σ.f n:=by
 cases d with
 | none=>rfl
 | some d=>exact Jc _ _ _ _ (by rintro rfl;exact a rfl)
theorem St.ext'{σ τ:St}(d:σ.f=τ.f)(a:σ.h=τ.h):σ=τ:=by cases σ;cases τ;simp_all
theorem Jiz{call:Call}{base:Nat}{o:LOper}{σ σ':St}(h:X9 call base o σ=some σ') :
  (o.op.isNew=true->σ.h (base+o.dst.getD 0)=none)/\∃v a,evG call base o σ.f σ.h=some (v,a)/\σ'=σ.put o.dst v a:=by
 unfold X9 at h;split at h
 ·cases h
 ·rename_i d;rw [Jl8] at h;obtain ⟨⟨v,a⟩,l,g⟩:=Qy h;refine ⟨λe=>?_,v,a,l,g⟩;cases f:σ.h (base+o.dst.getD 0) with
  | none=>rfl
  | some x=>exact absurd ⟨e,by rw [f];rfl⟩ d
theorem Jme{call:Call}{base:Nat}{o:LOper}{σ:St}{v:AV}{a:Heap}(e:o.op.isNew=true->σ.h (base+o.dst.getD 0)=none)(f:evG call base o σ.f σ.h=some (v,a)):X9 call base o σ=some (σ.put o.dst v a):=by unfold X9;rw [if_neg (by rintro ⟨a,d⟩;rw [e a] at d;cases d),Jl8,f];rfl
theorem Jmm{call:Call}{base:Nat}{j:LOper}{ds:List Nat}{op:LOp}(d:j.op=.msk ds op){f:Nat->AV}{h k:Heap}{v:AV}(em:K2 base ds k=K2 base ds h)(a:evG call base j f k=some (v,k)) :
  evG call base j f h=some (v,h):=by
 have main:∀g0,Ja call base ⟨f,k⟩ g0 j.op=some (v,k)->Ja call base ⟨f,h⟩ g0 j.op=some (v,h):=λg0 a=>by
  rw [d] at a ⊢;simp only [Ja] at a ⊢;split at a
  ·rename_i l;rw [if_pos l];rw [em] at a;cases g:Ja call base ⟨f,K2 base ds h⟩ g0 op with
   | none=>rw [g] at a;cases a
   | some r=>
    obtain ⟨u,k⟩:=r;rw [g] at a;simp only [mskR,Option.some.injEq,Aa] at a ⊢;exact ⟨a.1,trivial⟩
  ·cases a
 unfold evG at a ⊢;split at a
 ·exact main _ a
 ·split at a
  ·split at a
   ·rename_i e;rw [if_pos e];exact main _ a
   ·rename_i e;rw [if_neg e];injection a with a;simp only [Aa] at a;rw [a.1]
  ·injection a with a;simp only [Aa] at a;rw [a.1]
  ·cases a
theorem Jsf{call:Call}{base:Nat}{j:LOper}{ds:List Nat}{op:LOp}(a:j.op=.msk ds op){g:Nat}(e:inNm base ds g=true){f:Nat->AV}{h:Heap}{ob:AObj}{v:AV}(l:evG call base j f (upd h g (some ob))=some (v,upd h g (some ob))) :
  evG call base j f h=some (v,h):=by
 refine Jmm a ?_ l;funext k;unfold K2;by_cases d:k=g
 ·subst d;rw [if_pos e,if_pos e]
 ·rw [Jc _ _ _ _ d]
theorem nw_maskG{call:Call}{base:Nat}{j:LOper}{f:Nat->AV}{h e:Heap}{v2:AV}{ds ds':List Nat}(d:j.op.nwD=some ds')(hd:∀g,inNm base ds' g=true->inNm base ds g=true)(a:evG call base j f h=some (v2,e)):K2 base ds e=K2 base ds h:=by
 unfold evG at a;split at a
 ·exact Jni d hd a
 ·split at a
  ·split at a
   ·exact Jni d hd a
   ·injection a with a;simp only [Aa] at a;rw [a.2]
  ·injection a with a;simp only [Aa] at a;rw [a.2]
  ·cases a
theorem swap{call:Call}{base:Nat}{i j:LOper}{σ σ1 σ2:St}(hi:Jpt i j=true)(X:X9 call base i σ=some σ1)(R:X9 call base j σ1=some σ2) :
  ∃σ',X9 call base j σ=some σ'/\X9 call base i σ'=some σ2:=by
 simp only [Jpt,Ad] at hi;obtain ⟨⟨⟨⟨Y,t2⟩,t3⟩,t4⟩,t5⟩:=hi;have a1:∀n∈j.looks,i.dst≠some n:=λn a e=>by rw [e] at Y;simp at Y;exact Y.1 a
 have a2:∀n∈i.looks,j.dst≠some n:=λn a e=>by rw [e] at t2;simp at t2;exact t2 a
 have a3:∀x,i.dst=some x->j.dst≠some x:=λx e=>by rw [e] at Y;simp at Y;exact Y.2
 have a3':∀x,j.dst=some x->i.dst≠some x:=λx e e'=>a3 x e' e;obtain ⟨L,v1,g1,B,rfl⟩:=Jiz X;obtain ⟨K,v2,O,e2,rfl⟩:=Jiz R;rw [Jxc] at K e2;have m:evG call base j σ.f g1=some (v2,O):=by rw [<-e2];exact Jpy λn a=>(Jij (a1 n a)).symm
 obtain ⟨i0,i1,i2⟩:=Jx1 B L;obtain ⟨j0,j1,j2⟩:=Jx1 m K;have fin:∀k,(j.op.isNew=true->σ.h (base+j.dst.getD 0)=none)->evG call base j σ.f σ.h=some (v2,k)->(i.op.isNew=true->k (base+i.dst.getD 0)=none)->evG call base i σ.f k=some (v1,O) ->
   ∃σ',X9 call base j σ=some σ'/\X9 call base i σ'=some ((σ.put i.dst v1 g1).put j.dst v2 O):=by
  intro k q1 Z q3 q4;refine ⟨σ.put j.dst v2 k,Jme q1 Z,?_⟩;have:evG call base i (σ.put j.dst v2 k).f (σ.put j.dst v2 k).h=some (v1,O):=by rw [Jxc,<-q4];exact Jpy λn a=>Jij (a2 n a)
  rw [Jme (by rw [Jxc];exact q3) this]
  congr 1
  exact St.ext' (Jwb a3') (by rw [Jxc,Jxc])
 have notnew:∀ {o:LOper} {n:Nat},o.op.cls=n->n≠2->o.op.isNew=true->False:=λ{o n} h a hnew=>a (h▸new_cls2 hnew);simp only [Bool.or_eq_true,Ad,beq_iff_eq] at t3;by_cases c0:i.op.cls=0
 ·obtain ⟨rfl,r⟩:=i0 c0;exact fin O K m (λh=>(notnew c0 (by decide) h).elim) (r O)
 ·by_cases d0:j.op.cls=0
  ·obtain ⟨rfl,r⟩:=j0 d0;exact fin σ.h (λh=>(notnew d0 (by decide) h).elim) (r σ.h) L B
  ·rcases t3 with ((((((((((t3|t3)|t3)|t3)|t3)|t3)|t3)|t3)|t3)|t3)|t3)
   ·exact (c0 t3).elim
   ·exact (d0 t3).elim
   ·obtain ⟨c1,t3⟩:=t3;obtain ⟨rfl,r⟩:=i1 c1;rcases t3 with d1|H
    ·obtain ⟨rfl,_⟩:=j1 d1;exact fin σ.h K m L B
    ·rcases j2 H with ⟨rfl,_⟩|⟨ob,rfl,_⟩
     ·exact fin σ.h K m L B
     ·exact fin _ K m (λh=>(notnew c1 (by decide) h).elim) (r _ ob (K (Jdp H)))
   ·obtain ⟨c2,H⟩:=t3;have hj:j.op.isNew=true:=Jdp H;have hni:i.op.isNew=true:=Jdp c2;have F:base+j.dst.getD 0≠base+i.dst.getD 0:=by
     rw [c2] at t4;rw [H] at t5;cases G:i.dst with
     | none=>rw [G] at t4;simp at t4
     | some x=>
      cases M:j.dst with
      | none=>rw [M] at t5;simp at t5
      | some y=>
       have:=a3 x G;rw [M] at this;simp;rintro rfl;exact this rfl
    rcases i2 c2 with ⟨rfl,r⟩|⟨oi,rfl,r⟩
    ·rcases j2 H with ⟨rfl,_⟩|⟨oj,rfl,_⟩
     ·exact fin σ.h K m L B
     ·exact fin _ K m (λh=>by rw [Jc _ _ _ _ F.symm];exact L h) (r _)
    ·have Q:σ.h (base+j.dst.getD 0)=none:=by have:=K hj;rwa [Jc _ _ _ _ F] at this
     rcases j2 H with ⟨rfl,q⟩|⟨oj,rfl,q⟩
     ·exact fin σ.h (λ_=>Q) (q σ.h) L B
     ·refine fin _ (λ_=>Q) (q σ.h Q) (λh=>by rw [Jc _ _ _ _ F.symm];exact L h) ?_;rw [r _ (by rw [Jc _ _ _ _ F.symm];exact L hni)];rw [Jh4 _ _ _ F]
   ·obtain ⟨hs,E⟩:=t3;have v:j.op.isNew=true->False:=λa=>by cases l:j.op<;>rw [l] at E a<;>simp [LOp.frzs,LOp.isNew] at E a
    have w:i.op.isNew=true->False:=λa=>by cases l:i.op<;>rw [l] at hs a<;>simp [LOp.still,LOp.isNew] at hs a
    obtain ⟨ns,hg2⟩:=Jol E m;obtain ⟨q1,Z⟩:=Jx5 hs B ns;subst q1;rw [<-hg2] at Z;exact fin O (λh=>(v h).elim) m (λh=>(w h).elim) Z
   ·obtain ⟨ds,op,ds',J,A,N⟩:∃ds op ds',i.op=.msk ds op/\j.op.nwD=some ds'/\(ds'.all λd=>ds.contains d)=true:=by
     unfold LOp.past at t3;split at t3
     ·rename_i ds op ds' X R;exact ⟨_,_,_,X,R,t3⟩
     ·cases t3
    have v:j.op.isNew=true->False:=λa=>by cases l:j.op<;>rw [l] at A a<;>first|(cases A;done)|(cases a;done)
    have w:i.op.isNew=true->False:=λa=>by rw [J] at a;cases a
    have hd:∀g,inNm base ds' g=true->inNm base ds g=true:=λg Q=>by obtain ⟨d,hd,e⟩:=Au.1 Q;exact Au.2 ⟨d,by simpa using Af.1 N d hd,e⟩
    obtain ⟨q1,Z⟩:=evG_past J A hd B m;subst q1;exact fin O (λh=>(v h).elim) m (λh=>(w h).elim) Z
   ·obtain ⟨E,H⟩:=t3;have v:j.op.isNew=true:=Jdp H;have w:i.op.isNew=true->False:=λa=>by cases l:i.op<;>rw [l] at E a<;>simp [LOp.frzs,LOp.isNew] at E a
    obtain ⟨ns,P⟩:=Jol E B;have f:σ.h (base+j.dst.getD 0)=none:=by
     have:=K v;rw [P] at this;unfold Jd at this;split at this
     ·cases ho:σ.h (base+j.dst.getD 0) with
      | none=>rfl
      | some o=>rw [ho] at this;cases this
     ·exact this
    rcases j2 H with ⟨rfl,q⟩|⟨oj,rfl,q⟩
    ·exact fin σ.h (λ_=>f) (q σ.h) (λh=>(w h).elim) B
    ·exact fin _ (λ_=>f) (q σ.h f) (λh=>(w h).elim) (Job E B f)
   ·obtain ⟨⟨E,di⟩,H⟩:=t3;have v:j.op.isNew=true:=Jdp H;have w:i.op.isNew=true->False:=λa=>by cases l:i.op<;>rw [l] at E a<;>simp [LOp.aps,LOp.isNew] at E a
    have f:σ.h (base+j.dst.getD 0)=none:=aps_none E B (K v);have F:base+i.dst.getD 0≠base+j.dst.getD 0:=by
     rw [H] at t5;cases G:i.dst with
     | none=>rw [G] at di;simp at di
     | some x=>
      cases M:j.dst with
      | none=>rw [M] at t5;simp at t5
      | some y=>
       have:=a3 x G;rw [M] at this;simp;rintro rfl;exact this rfl
    rcases j2 H with ⟨rfl,q⟩|⟨oj,rfl,q⟩
    ·exact fin σ.h (λ_=>f) (q σ.h) (λh=>(w h).elim) B
    ·exact fin _ (λ_=>f) (q σ.h f) (λh=>(w h).elim) (Jpv E B f F)
   ·obtain ⟨c2,t3⟩:=t3;obtain ⟨ds,op,x,A,G,hx⟩:∃ds op x,j.op=.msk ds op/\i.dst=some x/\ds.contains x=true:=by
     unfold LOp.offN at t3;split at t3
     ·rename_i ds op x X R;exact ⟨_,_,_,X,R,t3⟩
     ·cases t3
    have v:j.op.isNew=true->False:=λa=>by rw [A] at a;cases a
    have d1:j.op.cls=1:=by rw [A];rfl
    obtain ⟨rfl,-⟩:=j1 d1;rcases i2 c2 with ⟨rfl,r⟩|⟨oi,rfl,r⟩
    ·exact fin σ.h (λh=>(v h).elim) m L B
    ·refine fin σ.h (λh=>(v h).elim) (Jsf A ?_ m) L B;rw [G];exact Au.2 ⟨x,by simpa using hx,by simp⟩
   ·obtain ⟨ds,op,ds',A,J,N⟩:∃ds op ds',j.op=.msk ds op/\i.op.nwD=some ds'/\(ds'.all λd=>ds.contains d)=true:=by
     unfold LOp.past at t3;split at t3
     ·rename_i ds op ds' X R;exact ⟨_,_,_,X,R,t3⟩
     ·cases t3
    have v:j.op.isNew=true->False:=λa=>by rw [A] at a;cases a
    have w:i.op.isNew=true->False:=λa=>by cases l:i.op<;>rw [l] at J a<;>first|(cases J;done)|(cases a;done)
    have d1:j.op.cls=1:=by rw [A];rfl
    obtain ⟨rfl,-⟩:=j1 d1;have hd:∀g,inNm base ds' g=true->inNm base ds g=true:=λg Q=>by obtain ⟨d,hd,e⟩:=Au.1 Q;exact Au.2 ⟨d,by simpa using Af.1 N d hd,e⟩
    exact fin σ.h (λh=>(v h).elim) (Jmm A (nw_maskG J hd B) m) (λh=>(w h).elim) B
   ·obtain ⟨E,hl⟩:=t3;have v:j.op.isNew=true->False:=λa=>by cases l:j.op<;>rw [l] at hl a<;>simp [LOp.ld,LOp.isNew] at hl a
    have w:i.op.isNew=true->False:=λa=>by cases l:i.op<;>rw [l] at E a<;>simp [LOp.frzs,LOp.isNew] at E a
    obtain ⟨ns,P⟩:=Jol E B;subst P;obtain ⟨rfl,q⟩:=evG_ld hl m;exact fin σ.h (λh=>(v h).elim) q (λh=>(w h).elim) B
theorem bubble{call:Call}{base:Nat}{j:LOper}:∀ {A B:List LOper} {σ σf:St},(∀i∈A,Jpt i j=true)->Ye call base (A++j::B) σ=some σf->∃σ',X9 call base j σ=some σ'/\Ye call base (A++B) σ'=some σf
 | [],B,σ,σf,_,h=>by
  simp only [List.nil_append,Ye] at h ⊢;split at h
  ·rename_i σ' h';exact ⟨σ',h',h⟩
  ·cases h
 | i::A,B,σ,σf,hA,h=>by
  simp only [List.cons_append,Ye] at h ⊢;split at h
  ·rename_i σ1 l;obtain ⟨σ2,g,f⟩:=bubble (λk e=>hA k (Ak _ e)) h;obtain ⟨σ',d,a⟩:=swap (hA i (Aj ..)) l g;refine ⟨σ',d,?_⟩;rw [a];exact f
  ·cases h
def dep(ops:Array Oper)(p q:Nat):Bool:=((ops[p]?).map λo=>o.after.any λe=>Region.binds .any e&&e.on==q).getD false
def Jbk(P:Program)(cm:List (Nat×CM))(nt:Nat)(ops:Array Oper):List Nat->Option (List (Nat×LOper))
  | []=>some []
  | i::r=>
    match ops[i]? with
    | some o=>(match comp P cm nt ops o,Jbk P cm nt ops r with|some x,some l=>some ((i,x)::l)|_,_=>none)
    | none=>none
inductive Anc (ops:Array Oper):Nat->Nat->Prop where
  | one {k i:Nat} (h:dep ops i k=true):Anc ops k i
  | more {k x i:Nat} (h:dep ops i x=true) (hx:Anc ops k x):Anc ops k i
def Jqs(ops:Array Oper)(p:Nat×LOper):List Nat->List (Nat×LOper)->Bool
  | _,[]=>true
  | acc,q::r=>
    !dep ops p.1 q.1&&p.1 != q.1&&(if dep ops q.1 p.1 || acc.any (λx=>dep ops q.1 x) then Jqs ops p (q.1::acc) r else Jpt p.2 q.2&&Jqs ops p acc r)
def Jqi(ops:Array Oper):List (Nat×LOper)->Bool
  | []=>true
  | p::r=>Jqs ops p [] r&&!dep ops p.1 p.1&&Jqi ops r
theorem Jgp{ops:Array Oper}{p:Nat×LOper}:∀ {r:List (Nat×LOper)} {acc:List Nat},Jqs ops p acc r=true->(∀x∈acc,Anc ops p.1 x)->∀q∈r,dep ops p.1 q.1=false/\(Anc ops p.1 q.1\/Jpt p.2 q.2=true)/\p.1≠q.1
  | [],_,_,_,q,f=>by cases f
  | q::r,acc,h,a,x,hx=>by
    simp only [Jqs,Ad,Az,bne_iff_ne,ne_eq] at h;obtain ⟨⟨m,l⟩,d⟩:=h;split at d
    · rename_i hd
      have f:Anc ops p.1 q.1:=by
        simp only [Bool.or_eq_true,Au] at hd;rcases hd with hd|⟨y,g,hd⟩
        · exact .one hd
        · exact .more hd (a y g)
      rcases Ah.1 hx with rfl|hx
      · exact ⟨m,.inl f,l⟩
      · exact Jgp d (λy g=>(Ah.1 g).elim (λe=>e▸f) (a y)) x hx
    · simp only [Ad] at d
      rcases Ah.1 hx with rfl|hx
      · exact ⟨m,.inr d.1,l⟩
      · exact Jgp d.2 a x hx
def Jlx(ops:Array Oper)(L:List (Nat×LOper)):Bool:=
  Jqi ops L&&L.length==ops.size&&((List.range ops.size).all λi=>(L.map (·.1)).contains i)&&ops.all λo=>o.after.all λe=>decide (e.on<ops.size)
theorem Jgr{ops:Array Oper}:∀ {L:List (Nat×LOper)},Jqi ops L=true->L.Pairwise (λp q=>dep ops p.1 q.1=false/\(Anc ops p.1 q.1\/Jpt p.2 q.2=true)/\p.1≠q.1)/\∀p∈L,dep ops p.1 p.1=false
  | [],_=>⟨.nil,λp d=>by cases d⟩
  | p::r,h=>by
    simp only [Jqi,Ad,Az] at h;obtain ⟨⟨m,l⟩,g⟩:=h;obtain ⟨f,e⟩:=Jgr g;refine ⟨Av.2 ⟨Jgp m (λx hx=>by cases hx),f⟩,λq a=>?_⟩;rcases Ah.1 a with rfl|a
    · exact l
    · exact e q a
theorem Anc.listed{ops:Array Oper}{X:Nat->Prop}(hX:∀x,X x->∀k,dep ops x k=true->X k){k i:Nat}(h:Anc ops k i):(∀k,dep ops i k=true->X k)->X k:=by
  induction h with
  | one h=>exact λa=>a _ h
  | more h _ d=>exact λa=>d (hX _ (a _ h))
theorem Jj3{P:Program}{cm:List (Nat×CM)}{nt:Nat}{ops:Array Oper}:∀ {l:List Nat} {L:List (Nat×LOper)},Jbk P cm nt ops l=some L->∀p∈L,∃o,ops[p.1]?=some o/\comp P cm nt ops o=some p.2
  | [],L,h,p,a=>by simp [Jbk] at h;subst h;cases a
  | i::r,L,h,p,a=>by
    unfold Jbk at h;split at h
    · rename_i o d
      split at h
      · rename_i x l hx hl
        injection h with h;subst h;rcases Ah.1 a with rfl|a
        · exact ⟨o,d,hx⟩
        · exact Jj3 hl p a
      · cases h
    · cases h
theorem Jrw{call:Call}{base:Nat}{o:LOper}{σ σ':St}(h:X9 call base o σ=some σ'):Y4 call base o σ=some σ':=by
  unfold X9 at h;split at h
  · cases h
  · exact h
section
variable {ro:Option Nat} {P:Program} {nt:Nat} {ops:Array Oper} {call:Call} {base:Nat} {Q:Exit->Act->World->Prop}
theorem Jyg(H:jg P call)(hin:∀o∈ops,∀e∈o.after,e.on<ops.size):∀(m:Nat) {R:List Nat} (fuel:Nat) {listed:Array Bool} {L:List (Nat×LOper)} {w:World} {S:Nat->Prop} {σ σf:St} {μ:Gh} {a:Act},L.length=fuel->listed.size=ops.size ->
    (∀p∈L,∃(cm:List (Nat×CM)) (o:Oper) (x:LOper),ops[p.1]?=some o/\comp P cm nt ops o=some x/\∀σ σ',Y4 call base p.2 σ=some σ'->Y4 call base x σ=some σ')->(∀k,k<ops.size->(listed.getD k true=false↔k∈L.map (·.1)\/k∈R))->(∀i∈R,∀p∈L,Anc ops p.1 i/\dep ops p.1 i=false/\p.1≠i) ->
    L.Pairwise (λp q=>dep ops p.1 q.1=false/\(Anc ops p.1 q.1\/Jpt p.2 q.2=true)/\p.1≠q.1)->(∀p∈L,dep ops p.1 p.1=false) ->
    (∀x,(x<ops.size/\x∉L.map (·.1)/\x∉R)->∀k,dep ops x k=true->k<ops.size/\k∉L.map (·.1)/\k∉R) ->
    RepS nt w S σ μ a->Ye call base (L.map (·.2)) σ=some σf ->
    (∀listed' a' w' S' μ',listed'.size=ops.size->(∀k,k<ops.size->(listed'.getD k true=false↔k∈R))->a'.defers=a.defers->RepS nt w' S' σf μ' a'->Evo w S σ.h μ w' S' σf.h μ'->EvoV σ.h μ σf.h μ'->wpAnyIn (Fr ro) 0 P .any ops Q m listed' a' w')->wpAnyIn (Fr ro) 0 P .any ops Q (m+fuel) listed a w
  | m,R,0,listed,L,w,S,σ,σf,μ,a,l,hsz,y,hl,hR,_,_,_,hs,he,hQ=>by have:L=[]:=List.eq_nil_of_length_eq_zero l;subst this;simp [Ye] at he;subst he;exact hQ listed _ _ _ _ hsz (λk E=>by rw [hl k E];simp) rfl hs .refl (.refl _ _)
  | m,R,fuel+1,listed,L,w,S,σ,σf,μ,a,l,hsz,y,hl,hR,M,F,hcl,hs,he,hQ=>by
    have hgd:∀k,k<ops.size->(listed.getD k true=false↔listed.getD k false=false):=λk E=>by
      have:k<listed.size:=by omega
      simp [this]
    refine ⟨λhr=>?_,λi hi=>?_⟩
    · exfalso
      cases L with
      | nil=>simp at l
      | cons p r=>
        obtain ⟨cm,o,_,J,_⟩:=y p (Aj ..);have hp:p.1<ops.size:=(Ac.1 J).1;have:p.1∈Region.ready .any ops listed:=by
          refine mem_ready.2 ⟨(hl p.1 hp).2 (.inl (by simp)),o,J,λe G hb=>?_⟩;have hlt:=hin o (Ba J) e G;cases hle:listed.getD e.on false with
          | true=>rfl
          | false=>
            exfalso;have:=(hl e.on hlt).1 ((hgd e.on hlt).2 hle);have f:dep ops p.1 e.on=true:=by
              simp only [dep,J,Ax,Bn];exact Bj.2 (by obtain ⟨n,hn,e'⟩:=Ar G;exact ⟨n,hn,by rw [e'];simp [hb]⟩)
            simp only [Bf,Ah] at this;rcases this with (h1|h1)|h1
            rotate_left 2
            · have:=(hR _ h1 p (Aj ..)).2.1
              rw [this] at f;cases f
            · rw [h1,F p (Aj ..)] at f;cases f
            · obtain ⟨q,v,h2⟩:=Bh.1 h1
              have:=(Av.1 M).1 q v;rw [<-h2,this.1] at f;cases f
        rw [hr] at this;cases this
    · obtain ⟨h1,o,J,O⟩:=mem_ready.1 hi
      have hi':i<ops.size:=(Ac.1 J).1;have Y:∀k,dep ops i k=true->k<ops.size/\k∉L.map (·.1)/\k∉R:=by
        intro k hd;simp only [dep,J,Ax,Bn] at hd;obtain ⟨n,hn,hx⟩:=Bj.1 hd;simp only [Ad,beq_iff_eq] at hx;have G:=O (o.after[n]) (Bk hn) hx.1;have E:=hin o (Ba J) (o.after[n]) (Bk hn);rw [hx.2] at G E;have key:¬(k∈L.map (·.1)\/k∈R):=λhm=>by have:=(hl k E).2 hm;rw [hgd k E,G] at this;cases this
        exact ⟨E,λq=>key (.inl q),λq=>key (.inr q)⟩
      have hiL:i∈L.map (·.1):=by
        rcases (hl i hi').1 h1 with q|q
        · exact q
        · exfalso
          cases L with
          | nil=>simp at l
          | cons p r=>
            have:=(hR i q p (Aj ..)).1.listed (X:=λx=>x<ops.size/\x∉(p::r).map (·.1)/\x∉R) hcl Y;exact this.2.1 (by simp)
      obtain ⟨p,hp,rfl⟩:=Bh.1 hiL;obtain ⟨A,B,rfl⟩:=List.append_of_mem hp;obtain ⟨cm,o',x',N,hc,hrf⟩:=y p hp;rw [J] at N;injection N with N;subst N;have d:=Y;have hA:∀q∈A,dep ops q.1 p.1=false/\Jpt q.2 p.2=true/\q.1≠p.1:=by
        intro q v;have hpq:=(Bw.1 M).2.2 q v p (Aj ..);refine ⟨hpq.1,?_,hpq.2.2⟩;rcases hpq.2.1 with hd|hd
        · exfalso
          have:=hd.listed (X:=λx=>x<ops.size/\x∉(A++p::B).map (·.1)/\x∉R) hcl d;exact this.2.1 (Bh.2 ⟨q,Aq _ v,rfl⟩)
        · exact hd
      simp only [Br,Bf] at he;obtain ⟨σ',b1,b2⟩:=bubble (λk E=>by obtain ⟨q,v,rfl⟩:=Bh.1 E;exact (hA q v).2.1) he;have hB:∀q∈B,p.1≠q.1:=λq v=>((Av.1 (Bw.1 M).2.1).1 q v).2.2;unfold wpOpIn;simp only [J];have g:=Jnk (K:=wpAnyIn (Fr ro) 0 P .any ops Q (m+fuel) (listed.setIfInBounds p.1 true)) (Q:=Q) (ro:=ro) H hs hc (hrf _ _ (Jrw b1)) λa1 w1 S1 μ1 r0 r1 r2 r3=>by
        refine Jyg H hin m (R:=R) fuel (L:=A++B) (by simp at l ⊢;omega) (by simpa using hsz) (λq v=>y q ?_) (λk E=>?_) (λi hi q v=>hR i hi q ?_) (M.sublist ?_) (λq v=>F q ?_) ?_ r1 (by simpa using b2) λl2 a2 w2 S2 μ2 p1 p2 q0 q1 q2 q3=>hQ _ _ _ _ _ p1 p2 (q0.trans r0) q1 (r2.trans q2) (r3.trans q3)
        · rcases Ag.1 v with h|h
          · exact Aq _ h
          · exact Aw _ (Ak _ h)
        · have hk2:k<listed.size:=by omega
          by_cases hkp:k=p.1
          · subst hkp
            refine ⟨λh=>?_,λh=>?_⟩
            · simp [hk2] at h
            · exfalso
              rcases h with h|h
              · obtain ⟨q,v,e⟩:=Bh.1 h
                rcases Ag.1 v with h|h
                · exact (hA q h).2.2 e
                · exact hB q h e.symm
              · exact (hR _ h p hp).2.2 rfl
          · have:(listed.setIfInBounds p.1 true).getD k true=listed.getD k true:=by simp [Bo (Ne.symm hkp)]
            rw [this,hl k E];simp only [Br,Bf,Ag,Ah];refine ⟨λh=>?_,λh=>?_⟩
            · rcases h with (h|h|h)|h
              · exact .inl (.inl h)
              · exact (hkp h).elim
              · exact .inl (.inr h)
              · exact .inr h
            · rcases h with (h|h)|h
              · exact .inl (.inl h)
              · exact .inl (.inr (.inr h))
              · exact .inr h
        · rcases Ag.1 v with h|h
          · exact Aq _ h
          · exact Aw _ (Ak _ h)
        · exact List.Sublist.append (List.Sublist.refl A) (List.sublist_cons_self p B)
        · rcases Ag.1 v with h|h
          · exact Aq _ h
          · exact Aw _ (Ak _ h)
        · have sub:∀k,k∈(A++B).map (·.1)->k∈(A++p::B).map (·.1):=λk E=>by
            simp only [Br,Bf,Ag,Ah] at E ⊢;rcases E with h|h
            · exact .inl h
            · exact .inr (.inr h)
          rintro x ⟨hx1,Z,hx3⟩ k hd;by_cases hxp:x=p.1
          · subst hxp
            exact ⟨(d k hd).1,λh=>(d k hd).2.1 (sub k h),(d k hd).2.2⟩
          · have:=hcl x ⟨hx1,λh=>by
              simp only [Br,Bf,Ag,Ah] at h Z;rcases h with h|h|h
              · exact Z (.inl h)
              · exact hxp h
              · exact Z (.inr h),hx3⟩ k hd
            exact ⟨this.1,λh=>this.2.1 (sub k h),this.2.2⟩
      split
      · rename_i hw
        rw [if_pos hw] at g;exact Js3 (Jma hc) g
      · rename_i hw
        rw [if_neg hw] at g;exact ⟨λ_ _=>trivial,g⟩
theorem Jx7(g:jg P call)(r:P.follows .mixedOrders=true){id:Nat}{L:List (Nat×LOper)}{w:World}{S:Nat->Prop}{σ σf:St}{μ:Gh}{a:Act}(hs:RepS nt w S σ μ a)(X:∀p∈L,∃(cm:List (Nat×CM)) (o:Oper) (x:LOper),ops[p.1]?=some o/\comp P cm nt ops o=some x/\∀σ σ',Y4 call base p.2 σ=some σ'->Y4 call base x σ=some σ')(hd:Jlx ops L=true)
    (O:Ye call base (L.map (·.2)) σ=some σf) (hQ:∀a' w' S' μ',a'.defers=a.defers->RepS nt w' S' σf μ' a'->Evo w S σ.h μ w' S' σf.h μ'->EvoV σ.h μ σf.h μ'->Q .normal a' w'):(Code.region id ops true).wpIn (Fr ro) 0 P Q a w:=by
  simp only [Jlx,Ad,beq_iff_eq] at hd;obtain ⟨⟨⟨d1,d2⟩,d3⟩,d4⟩:=hd;obtain ⟨H,G⟩:=Jgr d1;have J:RepS nt { w with drawn:=w.drawn+1 } S σ μ a:=⟨λd=>(hs.fr d).evo hs.hp j8 (.refl _ _),hs.hp.of_same (w':=w.drew) rfl rfl rfl ⟨rfl,Nat.le_succ _⟩,hs.df,hs.sz⟩;have f:∀k,k<ops.size->k∈L.map (·.1):=λk h=>by have:=Af.1 d3 k (List.mem_range.2 h);exact Bb.1 this
  have main:wpAnyIn (Fr ro) 0 P .any ops Q (0+ops.size) (Bu ops.size false) a { w with drawn:=w.drawn+1 }:=by
   refine Jyg g (ops:=ops) (nt:=nt) (Q:=Q) (ro:=ro) (λo l e v=>?_) 0 (R:=[]) ops.size (listed:=Bu ops.size false) d2 (by simp) X (λk h=>?_) (λi N=>by cases N) H G (λx hx=>(hx.2.1 (f x hx.1)).elim) J O λl' a' w' S' μ' s1 y F E B A=>⟨?_,hQ _ _ _ _ F E (j8.trans B) A⟩
   · obtain ⟨n,K,e1⟩:=Ar l
     have:=Bl.1 d4 n K;rw [e1] at this;obtain ⟨m,r,Z⟩:=Ar v;have:=Bl.1 this m r;rw [Z] at this;simpa using this
   · have:=f k h
     simp [h,this]
   · apply Bq.2
     intro j M;obtain ⟨Y,o,l,_⟩:=mem_ready.1 M;have:=(y j (Ac.1 l).1).1 Y;cases this
  rw [Nat.zero_add] at main;exact wpIn_region_any r main
def Jde(ops:Array Oper):List Nat->Bool
  | []=>true
  | [_]=>true
  | x::y::r=>dep ops y x&&Jde ops (y::r)
theorem Jlg{ops:Array Oper}:∀ {i:Nat} {R:List Nat},Jde ops (i::R)=true->∀j∈R,∃q∈i::R,dep ops j q=true
  | i,[],_,j,a=>by cases a
  | i,y::r,h,j,a=>by
    simp only [Jde,Ad] at h;rcases Ah.1 a with rfl|a
    · exact ⟨i,Aj ..,h.1⟩
    · obtain ⟨q,d,hd⟩:=Jlg h.2 j a
      exact ⟨q,Ak _ d,hd⟩
theorem Jvx{ops:Array Oper}{i:Nat}{R:List Nat}(h:Jde ops (i::R)=true):Jde ops R=true:=by
  cases R with
  | nil=>rfl
  | cons y r=>simp only [Jde,Ad] at h;exact h.2
theorem Jtz(E:∀o∈ops,∀e∈o.after,e.on<ops.size):∀ {R:List Nat} {os:List Oper} {listed:Array Bool} {a:Act} {w:World},R.map (λi=>ops[i]?)=os.map some->listed.size=ops.size->(∀k,k<ops.size->(listed.getD k true=false↔k∈R))->R.Nodup->Jde ops R=true ->
    R.Pairwise (λx y=>dep ops x y=false)->(∀x∈R,dep ops x x=false)->wpListIn (Fr ro) 0 P ops Q os a w->wpAnyIn (Fr ro) 0 P .any ops Q R.length listed a w
  | [],os,listed,a,w,v,G,hl,_,_,_,_,h=>by
    cases os with
    | cons o os=>simp at v
    | nil=>
      refine ⟨?_,h⟩;apply Bq.2;intro j hj;obtain ⟨h1,o,v,_⟩:=mem_ready.1 hj;have:=(hl j (Ac.1 v).1).1 h1;cases this
  | i::R,[],listed,a,w,v,_,_,_,_,_,_,_=>by simp at v
  | i::R,o::os,listed,a,w,v,G,hl,X,L,H,f,h=>by
    simp only [Bf,List.cons.injEq] at v;obtain ⟨g,O⟩:=v;have hi:i<ops.size:=(Ac.1 g).1;have K:∀k,k<ops.size->(listed.getD k true=false↔listed.getD k false=false):=λk F=>by
      have:k<listed.size:=by omega
      simp [this]
    obtain ⟨Z,Y⟩:=List.nodup_cons.1 X;have r:∀a w,wpListIn (Fr ro) 0 P ops Q os a w->wpAnyIn (Fr ro) 0 P .any ops Q R.length (listed.setIfInBounds i true) a w:=λa w h=>
      Jtz E O (by simpa using G) (λk F=>by
        have hk2:k<listed.size:=by omega
        by_cases B:k=i
        · subst B
          refine ⟨λh=>?_,λh=>(Z h).elim⟩;simp [hk2] at h
        · have:(listed.setIfInBounds i true).getD k true=listed.getD k true:=by simp [Bo (Ne.symm B)]
          rw [this,hl k F,Ah];exact ⟨λh=>h.resolve_left B,.inr⟩) Y (Jvx L) (Av.1 H).2 (λx hx=>f x (Ak _ hx)) h
    refine ⟨λhr=>?_,λj hj=>?_⟩
    · exfalso
      have:i∈Region.ready .any ops listed:=by
        refine mem_ready.2 ⟨(hl i hi).2 (Aj ..),o,g,λe l hb=>?_⟩;have J:=E o (Ba g) e l;cases hle:listed.getD e.on false with
        | true=>rfl
        | false=>
          exfalso;have hm:=(hl e.on J).1 ((K e.on J).2 hle);have d:dep ops i e.on=true:=by
            simp only [dep,g,Ax,Bn];exact Bj.2 (by obtain ⟨n,M,e'⟩:=Ar l;exact ⟨n,M,by rw [e'];simp [hb]⟩)
          rcases Ah.1 hm with e1|e1
          · rw [e1,f i (Aj ..)] at d;cases d
          · rw [(Av.1 H).1 _ e1] at d;cases d
      rw [hr] at this;cases this
    · obtain ⟨h1,o',A,m⟩:=mem_ready.1 hj
      have hj':j<ops.size:=(Ac.1 A).1;have hji:j=i:=by
        rcases Ah.1 ((hl j hj').1 h1) with e|e
        · exact e
        · exfalso
          obtain ⟨q,hq,hd⟩:=Jlg L j e;simp only [dep,A,Ax,Bn] at hd;obtain ⟨n,M,hx⟩:=Bj.1 hd;simp only [Ad,beq_iff_eq] at hx;have l:=m (o'.after[n]) (Bk M) hx.1;have F:=E o' (Ba A) (o'.after[n]) (Bk M);rw [hx.2] at l F;have:=(hl q F).2 hq;rw [K q F,l] at this;cases this
      subst hji;unfold wpOpIn;simp only [g];unfold wpListIn at h;split at h
      · rename_i N
        rw [if_pos N];exact Oper.wpIn_mono r h
      · rename_i N
        rw [if_neg N];exact ⟨h.1,r _ _ h.2⟩
def ancL(ops:Array Oper):Nat->List Nat->List Nat
  | 0,acc=>acc
  | n+1,acc=>ancL ops n (acc++(List.range ops.size).filter λk=>!acc.contains k&&acc.any λx=>dep ops x k)
theorem Jt7{ops:Array Oper}{i:Nat}:∀(n:Nat) (acc:List Nat),(∀k∈acc,k=i\/Anc ops k i)->∀k∈ancL ops n acc,k=i\/Anc ops k i
  | 0,acc,h,k,d=>h k d
  | n+1,acc,h,k,d=>by
    refine Jt7 n _ (λk d=>?_) k d;rcases Ag.1 d with d|d
    · exact h k d
    · simp only [List.mem_filter,Ad,Au] at d
      obtain ⟨x,hx,hd⟩:=d.2.2;rcases h x hx with rfl|hx
      · exact .inr (.one hd)
      · have key:∀ {a b c:Nat},Anc ops b c->dep ops b a=true->Anc ops a c:=λe f=>by
          induction e with
          | one h=>exact .more h (.one f)
          | more h _ g=>exact .more h g
        exact .inr (key hx hd)
def Jtb:List Nat->Bool
  | []=>true
  | x::r=>!r.contains x&&Jtb r
theorem Jlr:∀ {l:List Nat},Jtb l=true->l.Nodup
  | [],_=>List.nodup_nil
  | x::r,h=>by simp only [Jtb,Ad,Az] at h;refine List.nodup_cons.2 ⟨λhx=>?_,Jlr h.2⟩;rw [Bb.2 hx] at h;cases h.1
def pwB(ops:Array Oper):List Nat->Bool
  | []=>true
  | x::r=>!dep ops x x&&r.all (λy=>!dep ops x y)&&pwB ops r
theorem Jzx{ops:Array Oper}:∀ {R:List Nat},pwB ops R=true->R.Pairwise (λx y=>dep ops x y=false)/\∀x∈R,dep ops x x=false
  | [],_=>⟨.nil,λx hx=>by cases hx⟩
  | x::r,h=>by
    simp only [pwB,Ad,Az,Af] at h;obtain ⟨⟨l,g⟩,f⟩:=h;obtain ⟨e,d⟩:=Jzx f;refine ⟨Av.2 ⟨g,e⟩,λy a=>?_⟩;rcases Ah.1 a with rfl|a
    · exact l
    · exact d y a
def Jm6(ops:Array Oper)(L:List (Nat×LOper))(R:List Nat):Bool:=
  Jqi ops L&&L.length+R.length==ops.size&&((List.range ops.size).all λi=>(L.map (·.1)++R).contains i)&&(ops.all λo=>o.after.all λe=>decide (e.on<ops.size)) &&
  Jtb (L.map (·.1)++R)&&Jde ops R&&pwB ops R&&R.all λi=>L.all λp=>!dep ops p.1 i&&(ancL ops ops.size [i]).contains p.1
theorem split_wp(g:jg P call)(F:P.follows .mixedOrders=true){id:Nat}{L:List (Nat×LOper)}{R:List Nat}{os:List Oper}{w:World}{S:Nat->Prop}{σ σf:St}{μ:Gh}{a:Act}(hs:RepS nt w S σ μ a)(hc:∀p∈L,∃(cm:List (Nat×CM)) (o:Oper),ops[p.1]?=some o/\comp P cm nt ops o=some p.2)(hd:Jm6 ops L R=true)
    (B:R.map (λi=>ops[i]?)=os.map some) (he:Ye call base (L.map (·.2)) σ=some σf) (hQ:∀a' w' S' μ',a'.defers=a.defers->RepS nt w' S' σf μ' a'->Evo w S σ.h μ w' S' σf.h μ'->EvoV σ.h μ σf.h μ'->wpListIn (Fr ro) 0 P ops Q os a' w'):(Code.region id ops true).wpIn (Fr ro) 0 P Q a w:=by
  simp only [Jm6,Ad,beq_iff_eq] at hd;obtain ⟨⟨⟨⟨⟨⟨⟨d1,d2⟩,d3⟩,d4⟩,d5⟩,d6⟩,d7⟩,d8⟩:=hd;obtain ⟨p1,p2⟩:=Jgr d1;have E:=Jlr d5;obtain ⟨hndL,hndR,y⟩:=List.nodup_append.1 E;obtain ⟨N,M⟩:=Jzx d7;have v:∀o∈ops,∀e∈o.after,e.on<ops.size:=λo ho e G=>by obtain ⟨n,hn,e1⟩:=Ar ho;have:=Bl.1 d4 n hn;rw [e1] at this;obtain ⟨m,F,e2⟩:=Ar G;have:=Bl.1 this m F;rw [e2] at this;simpa using this
  have f:∀k,k<ops.size->k∈L.map (·.1)\/k∈R:=λk l=>by have:=Af.1 d3 k (List.mem_range.2 l);exact Ag.1 (Bb.1 this)
  have hw:RepS nt { w with drawn:=w.drawn+1 } S σ μ a:=⟨λd=>(hs.fr d).evo hs.hp j8 (.refl _ _),hs.hp.of_same (w':=w.drew) rfl rfl rfl ⟨rfl,Nat.le_succ _⟩,hs.df,hs.sz⟩;have main:wpAnyIn (Fr ro) 0 P .any ops Q (R.length+L.length) (Bu ops.size false) a { w with drawn:=w.drawn+1 }:=by
    refine Jyg g (ops:=ops) (nt:=nt) (Q:=Q) (ro:=ro) v R.length (R:=R) L.length rfl (by simp) (λp A=>by obtain ⟨cm,o,h1,h2⟩:=hc p A;exact ⟨cm,o,p.2,h1,h2,λ_ _ h=>h⟩) (λk l=>⟨λ_=>f k l,λ_=>by simp [l]⟩) (λi H p A=>?_) p1 p2 (λx hx=>((f x hx.1).elim hx.2.1 hx.2.2).elim) hw he λl' a' w' S' μ' K J Z Y X O=>Jtz v B K J hndR d6 N M (hQ _ _ _ _ Z Y (j8.trans X) O)
    have:=Af.1 (Af.1 d8 i H) p A;simp only [Ad,Az] at this;have r:p.1≠i:=y p.1 (Bh.2 ⟨p,A,rfl⟩) i H;refine ⟨?_,this.1,r⟩;exact (Jt7 ops.size [i] (λk l=>.inl (List.mem_singleton.1 l)) p.1 (Bb.1 this.2)).resolve_left r
  rw [Nat.add_comm,d2] at main;exact wpIn_region_any F main
end
end Go.Vv
