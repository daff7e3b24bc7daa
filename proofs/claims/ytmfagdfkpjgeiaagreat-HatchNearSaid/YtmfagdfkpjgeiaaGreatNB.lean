/- The evaluator's maps are right of the model's. Conditions: none. -/
import Derived.Test.YtmfagdfkpjgeiaaGreatNA
import Derived.MapKept
import Derived.TacticsIn
import Derived.OrdersIn
import Derived.RangeFuncRecord
import Derived.RangeFuncIn
import Derived.Tactics
import Derived.Orders
open Option renaming some -> AC, none -> AD
open Bool renaming true -> AE, false -> AF
open _root_ renaming List -> AG, Nat -> AM, Bool -> AN, Option -> AH, if_neg -> AR, if_pos -> AS, Int -> AI
set_option linter.unusedSimpArgs false
namespace Go.Vv
open Go
open Prod.mk renaming injEq -> Aa
open _root_.Array renaming getElem?_eq_some_iff -> Ab, getD_eq_getD_getElem? -> Ao, toList_inj -> Ap, getElem_of_mem -> As, mem_of_getElem? -> Bb, eraseIdxIfInBounds -> Bh, any_eq_true -> Bk, getElem_mem -> Bl, all_eq_true -> Bm, getElem?_setIfInBounds_ne -> Bp, eq_empty_of_size_eq_zero -> Bq, replicate -> Bv, getElem?_toList -> Bw, length_toList -> Da
open List renaming getElem?_eq_some_iff -> Ac, getElem?_eq_getElem -> Ae, all_eq_true -> Af, mem_append -> Ag, mem_cons -> Ah, mem_of_getElem? -> Ai, mem_cons_self -> Ak, mem_cons_of_mem -> Am, mem_append_left -> Ar, mem_flatMap -> Au, any_eq_true -> Av, pairwise_cons -> Aw, mem_append_right -> Ax, getElem?_map -> Az, contains_iff_mem -> Bc, getElem?_of_mem -> Bd, getElem?_append_left -> Bf, map_cons -> Bg, mem_map -> Bj, getElem?_eraseIdx -> Bn, eq_nil_iff_forall_not_mem -> Br, map_append -> Bs, getElem?_append_right -> Bt, getElem?_zip_eq_some -> Bu, mapM_cons -> By, pairwise_append -> Bz
open Bool renaming and_eq_true -> Ad, false_eq_true -> Aq, not_eq_true' -> Ba
open Nat renaming le_refl -> Aj, zero_add -> Db
open Option renaming map_some -> Ay, bind_some -> Be, getD_some -> Bo
section
variable {P:Program} {w:World} {S:AM->Prop} {h:Heap} {μ:Gh}
theorem Jpd{s:AN}{x y:AV}{b:AN}{v:Value}(a:LA s x y=AC b)(hr:AX w S h μ x v):AY w S x v:=by
 unfold LA at a;split at a
 .rw [hr.BI];exact .int _ _
 .rw [hr.Ca];exact .bool _
 .cases a
theorem uU:∀ {sh:AG AN} {l m:AG AV} {b:AN},J9 sh l m=AC b->∀(i:AM) (x:AV),l[i]?=AC x->∃s y c,m[i]?=AC y/\LA s x y=AC c/\(b=AE->c=AE)
 | [],[],[],_,_,i,x,hi=>by simp at hi
 | s::ss,x::xs,y::ys,b,h,i,z,hi=>by
  unfold J9 at h;split at h
  .rename_i a c g f;injection h with h;cases i with
   | zero=>
    simp at hi;subst hi;exact ⟨s,y,a,rfl,g,λe=>by rw [e] at h;simp at h;exact h.1⟩
   | succ i=>
    obtain ⟨s',d,c',w,v,r⟩:=uU f i z (by simpa using hi);exact ⟨s',d,c',by simpa using w,v,λe=>r (by rw [e] at h;simp at h;exact h.2)⟩
  .cases h
 | [],_::_,_,_,h,_,_,_=>by simp [J9] at h
 | [],[],_::_,_,h,_,_,_=>by simp [J9] at h
 | _::_,[],_,_,h,_,_,_=>by simp [J9] at h
 | _::_,_::_,[],_,h,_,_,_=>by simp [J9] at h
theorem Jui{ag:AN}{sh:AG AN}{x y:AV}{b:AN}{v:Value}(a:Ez ag sh x y=AC b)(hr:AX w S h μ x v):AY w S x v:=by
 unfold Ez at a;split at a
 .split at a
  .rename_i l m;obtain ⟨cs,rfl,hl,f⟩:=hr.CB;refine .agg l cs hl (λi x hi=>(f i x hi).2) λi x hi=>?_;obtain ⟨s,y,c,-,d,-⟩:=uU a i x hi;exact Jpd d (f i x hi).1
  .cases a
 .obtain ⟨s,g,c,-,d,-⟩:=uU a 0 x rfl;exact Jpd d hr
theorem Jy6{s:AN}{x y:AV}{v u:Value}(a:LA s x y=AC AE)(hx:AY w S x v)(d:AY w S y u)(n:AM):Instr.sameBits n v u=AE/\Instr.sameBits n u v=AE:=by
 unfold LA at a;split at a
 .split at a
  .rename_i f;subst f;injection a with a;cases hx;cases d;cases n<;>simp_all [Instr.sameBits]
  .cases a
 .injection a with a;cases hx;cases d;cases n<;>simp_all [Instr.sameBits]
 .cases a
theorem J1s{ag:AN}{sh:AG AN}{x y:AV}{v u:Value}(d:Ez ag sh x y=AC AE)(hx:AY w S x v)(B:AY w S y u):Instr.sameBits 10000 u v=AE:=by
 unfold Ez at d;split at d
 .split at d
  .rename_i l m;cases hx with
   | agg _ cs hl L hr=>
    cases B with
    | agg _ ds H K h=>
     have E:=yj d;show Instr.sameBits (9999+1) (.agg ds) (.agg cs)=AE;simp only [Instr.sameBits,Ad,beq_iff_eq,Af];refine ⟨by omega,λp G=>?_⟩;obtain ⟨i,hi⟩:=Bd G;obtain ⟨a,b⟩:=p;rw [Bu] at hi;obtain ⟨J,F⟩:=hi;have f:i<l.length:=by have:=(Ac.1 F).1;simp at this;omega
     obtain ⟨s,z,c,g,A,r⟩:=uU d i l[i] (Ae f);obtain rfl:=r rfl;have ra:=hr i l[i] (Ae f);have rb:=h i z g;have ea:cs.getD i undef=b:=by
      have:cs[i]?=AC b:=by simpa using F
      rw [Ao,this];rfl
     have eb:ds.getD i undef=a:=by
      have:ds[i]?=AC a:=by simpa using J
      rw [Ao,this];rfl
     rw [ea] at ra;rw [eb] at rb;exact (Jy6 A ra rb 9999).2
  .cases d
 .obtain ⟨s,z,c,g,A,r⟩:=uU d 0 x rfl;obtain rfl:=r rfl;simp at g;subst g;exact (Jy6 A hx B 10000).2
def bn(em:AN)(n:AM)(cs:Array Value):AG Field->Sem Unit
 | []=>pure ()
 | f::fs=>
  if f.name ≠ "_" then do
   let a <-part f.type cs f.offset
   Instr.checkKey em n f.type a
   bn em n cs fs
  else bn em n cs fs
theorem Jn1(em:AN)(n:AM)(t:TypeId)(cs:Array Value){fs:Array Field}(g:P.underlying t=AC (.struct fs)):(Instr.checkKey em (n+1) t (.agg cs)).run P w=(bn em n cs fs.toList).run P w:=by
 simp only [Instr.checkKey,Sem.run_bind,run_underlying g,Result.andThen_ok];rw [<-Array.forIn_toList];generalize fs.toList=l;clear g
 induction l generalizing w with
 | nil=>simp [bn]
 | cons f l d=>
  simp only [List.forIn_cons,bn,Sem.run_bind,Sem.run_ite];split
  .generalize (part f.type cs f.offset).run P w=m;cases m with
   | ok a w1=>
    simp only [Result.andThen_ok];generalize (Instr.checkKey em n f.type a).run P w1=h;cases h with
    | ok b r=>simp only [Result.andThen_ok,Sem.run_pure];exact d
    | _=>rfl
   | _=>rfl
  .simp only [Sem.run_pure,Result.andThen_ok];exact d
theorem Jyb{g:TypeId->AH (AG AN)}{em:AN}{d:AM}(L:∀ {t:TypeId} {sh:AG AN} {ag:AN} {x:AV} {cx:Value} {b:AN},g t=AC sh->Cn P t=AC ag ->
  AX w S h μ x cx->Ez ag sh x x=AC b->(Instr.checkKey em d t cx).run P w=.ok () w):∀ {fs:AG Field} {k:AM} {sh:AG AN} {l:AG AV} {cs:Array Value} {b:AN},kL P g fs k=AC sh ->
  l.length=cs.size->Holds w S h μ l cs->J9 sh (l.drop k) (l.drop k)=AC b->l.length=k+sh.length->(bn em d cs fs).run P w=.ok () w
 | [],k,sh,l,cs,b,m,hl,J,M,G=>by simp [bn]
 | f::r,k,sh,l,cs,b,m,hl,J,M,G=>by
  unfold kL at m;split at m
  .rename_i a ag q ha F Z;split at m
   .rename_i hc;obtain ⟨ho,hn,H,y⟩:=hc;split at m
    .rename_i r' hr;injection m with m;subst m H;obtain ⟨b1,b2,N,e2,e3⟩:=Jfj M;have E:k+a.length<=l.length:=by simp at G;omega
     have pk:∃v,pack ag l f.offset a.length=AC v/\(ag=AE->v=.agg (cut l k a.length))/\(ag=AF->cut l k a.length=[v]):=by
      rw [ho];cases ag with
      | true=>exact ⟨_,by simp [pack,E],λ_=>rfl,λh=>by cases h⟩
      | false=>
       have G:a.length=1:=by simpa using y
       have B:k<l.length:=by omega
       refine ⟨l[k],by simp [pack,E,B],(λh=>by cases h),λ_=>?_⟩;simp only [cut,G];rw [List.drop_eq_getElem_cons B];rfl
     obtain ⟨v1,Y,X,R⟩:=pk;obtain ⟨c1,Q,O⟩:=uH (P:=P) F Z y hl J Y;have K:Ez ag a v1 v1=AC b1:=by
      cases ag with
      | true=>rw [X rfl];simpa [Ez,cut] using N
      | false=>
       simp only [Ez,Aq,if_false];rw [<-R rfl];exact N
     have A:=L ha F O K;simp only [bn,hn,ne_eq,not_false_eq_true,if_true,Sem.run_bind,Q,Result.andThen_ok,A];exact Jyb L hr hl J (by simpa [List.drop_drop] using e2) (by simp at G;omega)
    .cases m
   .cases m
  .cases m
theorem rZ(em:AN):∀(n d:AM) {t:TypeId} {sh:AG AN} {ag:AN} {x:AV} {cx:Value} {b:AN},n<=d->EU P n t=AC sh->Cn P t=AC ag ->
  AX w S h μ x cx->Ez ag sh x x=AC b->(Instr.checkKey em d t cx).run P w=.ok () w
 | 0,_,_,_,_,_,_,_,_,h,_,_,_=>by simp [EU] at h
 | n+1,0,_,_,_,_,_,_,hd,_,_,_,_=>by omega
 | n+1,d+1,t,sh,ag,x,cx,b,hd,a,f,hx,v=>by
  unfold EU at a;unfold Cn at f;split at a
  .rename_i g;simp only [Instr.checkKey,Sem.run_bind,run_underlying g,Result.andThen_ok,Sem.run_pure]
  .rename_i k g;simp only [Instr.checkKey,Sem.run_bind,run_underlying g,Result.andThen_ok,Sem.run_pure]
  .rename_i fs g;rw [g] at f;simp at f;subst f;split at a
   .cases a
   .simp only [Ez,if_true] at v;split at v
    .rename_i l m;obtain ⟨cs,rfl,hl,y⟩:=hx.CB;rw [Jn1 em d t cs g];have r:=yj v;exact Jyb (λhx=>rZ em n d (by omega) hx) a hl y (by simp;exact v) (by simp [r])
    .cases v
  .cases a
def DK(w:World)(S:AM->Prop)(h:Heap)(μ:Gh)(es:AG (AV×AV))(es':AG MapEntry):Prop:=
 es'.length=es.length/\∀(i:AM) (k v:AV),es[i]?=AC (k,v)->∃e:MapEntry,es'[i]?=AC e/\AY w S k e.key/\AX w S h μ v e.val
theorem DK.tail{p:AV×AV}{es:AG (AV×AV)}{e:MapEntry}{es':AG MapEntry}(a:DK w S h μ (p::es) (e::es')):DK w S h μ es es':=
 ⟨by have:=a.1;simp at this;exact this,λi k v hi=>by simpa using a.2 (i+1) k v (by simpa using hi)⟩
theorem J2k{kt:TypeId}{d:TypeDesc}{sh:AG AN}{ag:AN}(N:P.underlying kt=AC d)(E:EU P 6 kt=AC sh)(m:Cn P kt=AC ag){k:AV}{ck:Value}(K:AY w S k ck) :
  ∀ {es:AG (AV×AV)} {es':AG MapEntry} {n:AM} {r:AH AM},DK w S h μ es es'->posM ag sh k n es=AC r ->
   (Instr.findAsking kt ck es' n).run P w=.ok (r.bind λj=>(es'[j - n]?).map λe=>(j,e.val)) w/\(Instr.findNow d ck es' n=AD\/Instr.findNow d ck es' n=AC (r.bind λj=>(es'[j - n]?).map λe=>(j,e.val))) /\
   ∀j,r=AC j->n<=j/\∃k' J e,es[j - n]?=AC (k',J)/\es'[j - n]?=AC e/\AY w S k' e.key/\AX w S h μ J e.val/\Ez ag sh k k'=AC AE
 | [],es',n,r,G,y=>by
  cases es' with
  | cons e es'=>have:=G.1;simp at this
  | nil=>
   simp only [posM] at y;injection y with y;subst y;exact ⟨rfl,.inr rfl,λj A=>by cases A⟩
 | p::es,es',n,r,G,y=>by
  obtain ⟨pk,pv⟩:=p;cases es' with
  | nil=>have:=G.1;simp at this
  | cons e es'=>
   obtain ⟨e0,H,v,L⟩:=G.2 0 pk pv rfl;simp at H;subst H;simp only [posM] at y;have O:∀b,Ez ag sh k pk=AC b->(Op.equal kt ck e.key).run P w=.ok b w:=λb l=>Ju6 (h:=h) (μ:=μ) 6 10000 (by omega) E m (.pure K) (.pure v) l;have B:∀b,Ez ag sh k pk=AC b->Instr.sameNow d ck e.key=AD\/Instr.sameNow d ck e.key=AC b:=by
    intro b l;have f:=E;unfold EU at f;unfold Cn at m;rw [N] at f m;cases d with
    | bool=>
     simp at f m;subst f m;simp only [Ez,Aq,if_false,J9] at l;split at l
     .rename_i a c g F;injection l with l;injection F with F;subst F;unfold LA at g;split at g
      .cases ‹AE=AF›
      .injection g with g;generalize e.key=ek at v ⊢;cases K;cases v;right;simp only [Instr.sameNow];rw [g,<-l,Bool.and_true]
      .cases g
     .cases l
    | int q=>
     simp at f m;subst f m;simp only [Ez,Aq,if_false,J9] at l;split at l
     .rename_i a c g F;injection l with l;injection F with F;subst F;unfold LA at g;split at g
      .split at g
       .rename_i M;subst M;injection g with g;generalize e.key=ek at v ⊢;cases K;cases v;right;simp only [Instr.sameNow,if_true];rw [g,<-l,Bool.and_true]
       .cases g
      .cases ‹AF=AE›
      .cases g
     .cases l
    | _=>first|(left;rfl)|(simp at f)
   split at y
   .rename_i l;injection y with y;subst y;refine ⟨?_,?_,λj A=>?_⟩
    .simp only [Instr.findAsking,Sem.run_bind,O AE l,Result.andThen_ok,if_true,Sem.run_pure,Be,Nat.sub_self];rfl
    .rcases B AE l with g|g
     .left;simp only [Instr.findNow,g]
     .right;simp only [Instr.findNow,g,Be,Nat.sub_self];rfl
    .injection A with A;subst A;exact ⟨Aj _,pk,pv,e,by simp,by simp,v,L,l⟩
   .rename_i l;obtain ⟨a1,Z,a3⟩:=J2k N E m K G.tail y;have sub:∀j,r=AC j->j - n=(j - (n+1))+1:=λj A=>by have:=(a3 j A).1;omega
    have eqr:(r.bind λj=>((e::es')[j - n]?).map λe=>(j,e.val))=r.bind λj=>(es'[j - (n+1)]?).map λe=>(j,e.val):=by
     cases r with
     | none=>rfl
     | some j=>simp only [Be];rw [sub j rfl];simp
    refine ⟨?_,?_,λj A=>?_⟩
    .rw [eqr];simp only [Instr.findAsking,Sem.run_bind,O AF l,Result.andThen_ok,Aq,if_false];exact a1
    .rw [eqr];rcases B AF l with g|g
     .left;simp only [Instr.findNow,g]
     .simp only [Instr.findNow,g];exact Z
    .obtain ⟨b1,k',J,Q,Y,X,R⟩:=a3 j A;refine ⟨by omega,k',J,Q,?_,?_,R⟩
     .rw [sub j A];simpa using Y
     .rw [sub j A];simpa using X
   .cases y
theorem yc{kt:TypeId}{d:TypeDesc}{sh:AG AN}{ag:AN}(m:P.underlying kt=AC d)(f:EU P 6 kt=AC sh)(g:Cn P kt=AC ag){k:AV}{ck:Value}(A:AY w S k ck)
  {es:AG (AV×AV)} {es':AG MapEntry} {r:AH AM} (E:DK w S h μ es es') (y:posM ag sh k 0 es=AC r) :
  (Instr.findKey kt ck es').run P w=.ok (r.bind λj=>(es'[j]?).map λe=>(j,e.val)) w /\
   ∀j,r=AC j->∃k' l e,es[j]?=AC (k',l)/\es'[j]?=AC e/\AY w S k' e.key/\AX w S h μ l e.val/\Ez ag sh k k'=AC AE:=by
 obtain ⟨v,a,a3⟩:=J2k (h:=h) (μ:=μ) m f g A E y;simp only [Nat.sub_zero] at v a a3;refine ⟨?_,λj B=>(a3 j B).2⟩;simp only [Instr.findKey,Sem.run_bind,run_underlying m,Result.andThen_ok];rcases a with a|a
 .simp only [a];exact v
 .simp only [a,Sem.run_pure]
theorem yF{kt:TypeId}{sh:AG AN}(a:EU P 6 kt=AC sh):∃d,P.underlying kt=AC d:=by
 unfold EU at a;split at a
 .exact ⟨_,by assumption⟩
 .exact ⟨_,by assumption⟩
 .exact ⟨_,by assumption⟩
 .cases a
theorem yC{ag:AN}{sh:AG AN}{k:AV}(a:YP ag sh k=AE):∃b,Ez ag sh k k=AC b:=by unfold YP at a;exact Option.isSome_iff_exists.1 a
theorem Ka4(m:BJ w S h μ){g ver:AM}{es:AG (AV×AV)}{cx:Value}(a:HY h g ver=AC es)(hr:AX w S h μ (.map g ver) cx) :
  h g=AC (.map ver es AF)/\cx=.map (AC (μ.b g))/\∃(es':Array MapEntry) (clock:AM),w.heap[μ.b g]?=AC (.map es' clock)/\DK w S h μ es es'.toList/\GJ es' clock:=by
 unfold HY at a;split at a
 .rename_i v es1 r;split at a
  .rename_i f;subst f;injection a with a;subst a;refine ⟨r,?_,?_⟩
   .cases hr with
    | pure m=>cases m
    | map _ _ _ o d _ _ l=>rw [r] at d;cases d;exact l rfl
   .obtain ⟨es',clock,F,y,-,E⟩:=m.ob g _ r;exact ⟨es',clock,F,⟨by simpa using y.1,λi k v hi=>by obtain ⟨e,B,A,f⟩:=E i k v hi;exact ⟨e,by simpa using B,A,f⟩⟩,y.2⟩
  .cases a
 .cases a
theorem Tt{x:AV}{v:Value}(hr:AX w S h μ x v):AX w S h μ (kV x) v:=by
 cases x with
 | BK=>rw [hr.CW];exact .pure .FQ
 | _=>exact hr
theorem Jsz(X:BJ w S h μ){t kt et:TypeId}{ok ag:AN}{sh:AG AN}{zv:AV}(K:P.underlying t=AC (.map kt et))(G:EU P 6 kt=AC sh)(O:Cn P kt=AC ag)(J:oZ P et=AC zv)
  {x k v:AV} {cx ck:Value} (hx:AX w S h μ x cx) (Z:AX w S h μ k ck) (B:oG ok ag sh (kV zv) k (JC h x)=AC v) :
  ∃cv,(Instr.lookup t cx ck ok).run P w=.ok cv w/\AX w S h μ v cv:=by
 obtain ⟨d,hd⟩:=yF G;obtain ⟨zval,F,zrep⟩:∃zval,(zeroValue et).run P w=.ok zval w/\AX w S h μ (kV zv) zval:=by
  unfold oZ at J;split at J
  .rename_i i hi;split at J
   .rename_i z R;exact ⟨z,by simp [zeroValue,typeInfo,hi,R],Tt (J0l J)⟩
   .cases J
  .cases J
 have core:∀(es:AG (AV×AV)) (es':Array MapEntry) (emp:AN),DK w S h μ es es'.toList->YP ag sh k=AE->MH ok (kV zv) es (posM ag sh k 0 es)=AC v ->
   (Instr.checkKey emp 10000 kt ck).run P w=.ok () w/\(((Instr.findKey kt ck es'.toList).run P w=.ok AD w/\AX w S h μ v (if ok=AE then .tuple #[zval,.bool AF] else zval)) \/
    ∃j cv,(Instr.findKey kt ck es'.toList).run P w=.ok (AC (j,cv)) w/\AX w S h μ v (if ok=AE then .tuple #[cv,.bool AE] else cv)):=by
  intro es es' emp M m l;obtain ⟨b,hb⟩:=yC m;have N:=rZ (P:=P) (w:=w) emp 6 10000 (by omega) G O Z hb;unfold MH at l;split at l
  .rename_i r hr;obtain ⟨f1,f2⟩:=yc (h:=h) (μ:=μ) hd G O (Jui hb Z) M hr;injection l with l;have fin:∀(bv:AN) (u:AV) (cu:Value),AX w S h μ u cu->v=(if ok=AE then .Cb [u,.bool bv] else u)->AX w S h μ v (if ok=AE then .tuple #[cu,.bool bv] else cu):=by
    intro bv u cu Y e;rw [e];cases ok with
    | false=>exact Y
    | true=>
     refine .Cb _ _ rfl λi y hi=>?_
     match i,hi with
     | 0,hi=>simp at hi;subst hi;simpa using Y
     | 1,hi=>simp at hi;subst hi;exact .pure (.bool _)
   cases r with
   | none=>exact ⟨N,.inl ⟨f1,fin AF (kV zv) zval zrep (by rw [<-l];rfl)⟩⟩
   | some j=>
    obtain ⟨k',v',e,g1,g2,-,g4,-⟩:=f2 j rfl;refine ⟨N,.inr ⟨j,e.val,by rw [f1];simp only [Be,g2,Ay],fin AE v' e.val g4 (by rw [<-l];simp only [TJ,g1];rfl)⟩⟩
  .cases l
 unfold oG at B;split at B
 .rename_i es a;split at B
  .rename_i m;unfold JC at a;split at a
   .injection a with a;subst a;obtain rfl:cx=.map AD:=by cases hx with|pure X=>cases X;rfl
    obtain ⟨E,f⟩:=core [] #[] AE ⟨rfl,λi k v hi=>by simp at hi⟩ m B;rcases f with ⟨f,A⟩|⟨j,cv,f,A⟩
    .exact ⟨_,by simp [Instr.lookup,run_underlying K,E,f,F,Result.andThen],A⟩
    .exact ⟨_,by simp [Instr.lookup,run_underlying K,E,f,Result.andThen],A⟩
   .rename_i ks vs;injection a with a;subst a;obtain ⟨b,es',clock,rfl,-,L,n1,n2,r1,r2⟩:=hx.MG;have Q:DK w S h μ (ks.zip vs) es'.toList:=by
     refine ⟨by rw [List.length_zip];simp;omega,λi k v hi=>?_⟩;rw [Bu] at hi;have H:i<es'.size:=by have:=(Ac.1 hi.1).1;omega
     exact ⟨es'[i],by simp [H],r1 i k _ hi.1 (by simp [H]),.pure (r2 i v _ hi.2 (by simp [H]))⟩
    obtain ⟨E,f⟩:=core _ es' es'.isEmpty Q m B;rcases f with ⟨f,A⟩|⟨j,cv,f,A⟩
    .exact ⟨_,by simp [Instr.lookup,run_underlying K,MapKept.run_getObj_map L,E,f,F,Result.andThen],A⟩
    .exact ⟨_,by simp [Instr.lookup,run_underlying K,MapKept.run_getObj_map L,E,f,Result.andThen],A⟩
   .rename_i g ver;obtain ⟨-,rfl,es',clock,L,Q,mbn⟩:=Ka4 X a hx;obtain ⟨E,f⟩:=core es es' es'.isEmpty Q m B;rcases f with ⟨f,A⟩|⟨j,cv,f,A⟩
    .exact ⟨_,by simp [Instr.lookup,run_underlying K,MapKept.run_getObj_map L,E,f,F,Result.andThen],A⟩
    .exact ⟨_,by simp [Instr.lookup,run_underlying K,MapKept.run_getObj_map L,E,f,Result.andThen],A⟩
   .cases a
  .cases B
 .cases B
def EL(w:World)(b:AM)(new:Array MapEntry)(clock:AM):World:={ w with heap:=w.heap.setIfInBounds b (.map new clock) }
theorem map_set(l:BJ w S h μ){g ver:AM}{es es2:AG (AV×AV)}(r:h g=AC (.map ver es AF)){old:Array MapEntry}{clock:AM}(L:w.heap[μ.b g]?=AC (.map old clock)){new:Array MapEntry}{clock':AM}(K:DK w S h μ es2 new.toList)(H:GJ new clock') :
  Ran w S h μ (.Cb []) (upd h g (AC (.map ver es2 AF))) (.tuple #[]) (EL w (μ.b g) new clock'):=by
 have F:μ.b g<w.heap.size:=(Ab.1 L).1;have oth:∀b,b≠μ.b g->(EL w (μ.b g) new clock').heap[b]?=w.heap[b]?:=λb E=>by simp only [EL,Array.getElem?_setIfInBounds];rw [AR (λe=>E e.symm)]
 have same:(EL w (μ.b g) new clock').heap[μ.b g]?=AC (.map new clock'):=by simp [EL,F]
 have ev:CY w S h μ (EL w (μ.b g) new clock') S (upd h g (AC (.map ver es2 AF))) μ:=by
  refine ⟨rfl,rfl,⟨rfl,Aj _⟩,by simp [EL],λb _ B=>oth b λe=>B ⟨g,_,r,rfl,rfl,e.symm⟩,λb cs el z G=>⟨cs,?_,rfl⟩,λ_ h=>h,λ_ h=>.inl h,λb ⟨d,o',a,hz,m,e⟩=>?_,rfl⟩
  .rw [oth b λe=>by rw [e,L] at G;cases G];exact G
  .by_cases f:d=g
   .subst f;exact .inl ⟨d,_,r,rfl,rfl,e⟩
   .rw [Jd _ _ _ _ f] at a;exact .inl ⟨d,o',a,hz,m,e⟩
 have vv:Cg h μ (upd h g (AC (.map ver es2 AF))) μ:=by
  intro d o' a;by_cases f:d=g
  .subst f;rw [r] at a;cases a;exact ⟨_,Jg _ _ _,Aj _,λ_=>⟨⟨rfl,rfl⟩,by simp [AU.like,AU.kind]⟩⟩
  .exact ⟨o',by rw [Jd _ _ _ _ f];exact a,Aj _,λ_=>⟨⟨rfl,rfl⟩,.refl o'⟩⟩
 refine ⟨S,μ,.pure (.Cb [] #[] rfl λi x hi=>by simp at hi),⟨λd o' a=>?_,λN M o1 Z h1 h2 l1 l2 e=>?_,λd o' a A m hs=>?_,λb J=>by have:=l.lt b J;simpa [EL] using this⟩,ev,vv⟩
 .by_cases f:d=g
  .subst f;rw [Jg] at a;cases a;refine ⟨new,clock',same,⟨by simpa using K.1,H⟩,λq=>absurd q (by simp),λi k v hi=>?_⟩;obtain ⟨e,he,hk,hv⟩:=K.2 i k v hi;exact ⟨e,by simpa using he,hk.Cz l ev,hv.Cz l ev vv⟩
  .rw [Jd _ _ _ _ f] at a;exact (l.ob d o' a).Cz l ev vv (λy=>oth _ λe=>f (l.inj d g o' _ a r y rfl e))
 .have key:∀d o',upd h g (AC (.map ver es2 AF)) d=AC o'->o'.live=AE->∃o,h d=AC o/\o.live=AE:=λd o' a y=>by
   by_cases f:d=g
   .subst f;exact ⟨_,r,rfl⟩
   .rw [Jd _ _ _ _ f] at a;exact ⟨_,a,y⟩
  obtain ⟨Y,R,P⟩:=key N o1 h1 l1;obtain ⟨X,Q,O⟩:=key M Z h2 l2;exact l.inj N M Y X R Q P O e
 .by_cases f:d=g
  .subst f;exact l.own d _ r rfl rfl hs
  .rw [Jd _ _ _ _ f] at a;exact l.own d o' a A m hs
theorem Jmp(L:BJ w S h μ){t kt et:TypeId}{ag:AN}{sh:AG AN}(ht:P.underlying t=AC (.map kt et))(m:EU P 6 kt=AC sh)(H:Cn P kt=AC ag)
  {x k v:AV} {h':Heap} {cx ck cv:Value} (hx:AX w S h μ x cx) (hk:AX w S h μ k ck) (Z:AX w S h μ v cv) (a:OC h ag sh k v x=AC h') :
  ∃w',(Instr.mapUpdate t cx ck cv).run P w=.ok () w'/\Ran w S h μ (.Cb []) h' (.tuple #[]) w':=by
 obtain ⟨d,hd⟩:=yF m;unfold OC at a;split at a
 .rename_i g ver;split at a
  .rename_i es R;split at a
   .rename_i O;obtain ⟨b,hb⟩:=yC O;obtain ⟨ho,rfl,es',clock,E,B,mbn⟩:=Ka4 L R hx;have G:=rZ (P:=P) (w:=w) AF 6 10000 (by omega) m H hk hb;have f:=Jui hb hk;unfold dZ at a;split at a
    .rename_i r hr;injection a with a;subst a;obtain ⟨f1,f2⟩:=yc (h:=h) (μ:=μ) hd m H f B hr;cases r with
     | none=>
      refine ⟨EL w (μ.b g) (es'.push { key:=ck,val:=cv,born:=clock }) (clock+1),by simp [EL,Instr.mapUpdate,run_underlying ht,MapKept.run_getObj_map E,G,f1,MapKept.run_setObj_map _ E,Result.andThen],map_set L ho E ⟨by simp [FP,B.1],λi K v2 hi=>?_⟩ (Jy9 mbn _ _)⟩;simp only [FP] at hi;by_cases M:i<es.length
      .rw [Bf M] at hi;obtain ⟨e,a,Y⟩:=B.2 i K v2 hi;have:=(Ac.1 a).1;exact ⟨e,by simpa [Bf this] using a,Y⟩
      .rw [Bt (by omega)] at hi;have Q:i=es.length:=by have:=(Ac.1 hi).1;simp at this;omega
       subst Q;simp at hi;obtain ⟨rfl,rfl⟩:=hi;have N:es'.size=es.length:=by simpa using B.1
       exact ⟨{ key:=ck,val:=cv,born:=clock },by simp [N],f,Z⟩
     | some j=>
      obtain ⟨k',v',e,g1,g2,g3,g4,g5⟩:=f2 j rfl;have J:es'[j]?=AC e:=by simpa using g2
      have A:=J1s g5 f g3;have l:(Instr.keyThatStays e.key ck).run P w=.ok ck w:=by simp [Instr.keyThatStays,A]
      refine ⟨EL w (μ.b g) (es'.modify j λe=>{ e with key:=ck,val:=cv }) clock,by simp [EL,Instr.mapUpdate,run_underlying ht,MapKept.run_getObj_map E,G,f1,J,l,MapKept.run_setObj_map _ E,Result.andThen],map_set L ho E ⟨by simp [FP];simpa using B.1,λi K v2 hi=>?_⟩ (Jj3 mbn _ _ λ_=>rfl)⟩;simp only [FP,List.getElem?_set] at hi;split at hi
      .rename_i y;subst y;split at hi
       .simp at hi;obtain ⟨rfl,rfl⟩:=hi;exact ⟨{ e with key:=ck,val:=cv },by simp [J],f,Z⟩
       .cases hi
      .rename_i y;obtain ⟨e2,X,Y⟩:=B.2 i K v2 hi;have F:es'[i]?=AC e2:=by simpa using X
       exact ⟨e2,by simp [F,y],Y⟩
    .cases a
   .cases a
  .cases a
 .cases a
theorem Jsb(H:BJ w S h μ){t kt et ty:TypeId}{ts:Array TypeId}(B:ts[0]?=AC t){ag:AN}{sh:AG AN}(R:P.underlying t=AC (.map kt et))(l:EU P 6 kt=AC sh)(G:Cn P kt=AC ag)
  {x k:AV} {h':Heap} {cx ck:Value} (hx:AX w S h μ x cx) (Y:AX w S h μ k ck) (a:Rm h ag sh k x=AC h') :
  ∃w',(Builtin.delete_ ts ty #[cx,ck]).run P w=.ok (.tuple #[]) w'/\Ran w S h μ (.Cb []) h' (.tuple #[]) w':=by
 obtain ⟨d,hd⟩:=yF l;unfold Rm at a;split at a
 .rename_i g ver;split at a
  .rename_i es L;split at a
   .rename_i K;obtain ⟨b,Z⟩:=yC K;obtain ⟨X,rfl,es',clock,y,A,mbn⟩:=Ka4 H L hx;have F:=rZ (P:=P) (w:=w) es'.isEmpty 6 10000 (by omega) l G Y Z;have J:=Jui Z Y;unfold gy at a;split at a
    .rename_i r hr;injection a with a;subst a;obtain ⟨f1,f2⟩:=yc (h:=h) (μ:=μ) hd l G J A hr;cases r with
     | none=>
      refine ⟨EL w (μ.b g) es' clock,by simp [EL,Builtin.delete_,B,run_underlying R,MapKept.run_getObj_map y,F,f1,MapKept.run_setObj_map _ y,Result.andThen],map_set H X y A mbn⟩
     | some j=>
      obtain ⟨k',v',e,g1,g2,g3,g4,g5⟩:=f2 j rfl;have f:es'[j]?=AC e:=by simpa using g2
      refine ⟨EL w (μ.b g) (es'.eraseIdxIfInBounds j) clock,by simp [EL,Builtin.delete_,B,run_underlying R,MapKept.run_getObj_map y,F,f1,f,MapKept.run_setObj_map _ y,Result.andThen],map_set H X y ⟨?_,λi Q v2 hi=>?_⟩ (R8 mbn (by have E:=(Ab.1 f).1;rw [show (es'.eraseIdxIfInBounds j).toList=es'.toList.eraseIdx j by simp [Bh,E]];exact List.eraseIdx_sublist _ _))⟩
      .have E:=(Ab.1 f).1;have hl:=A.1;simp only [Da] at hl;simp only [VK,Da,List.length_eraseIdx];rw [AS (by omega)];simp [Bh,E];omega
      .have E:=(Ab.1 f).1;have M:(es'.eraseIdxIfInBounds j).toList=es'.toList.eraseIdx j:=by simp [Bh,E]
       simp only [VK,Bn] at hi;rw [M];split at hi
       .rename_i m;obtain ⟨O,v,N⟩:=A.2 i Q v2 hi;exact ⟨O,by rw [Bn,AS m];exact v,N⟩
       .rename_i m;obtain ⟨O,v,N⟩:=A.2 (i+1) Q v2 hi;exact ⟨O,by rw [Bn,AR m];exact v,N⟩
    .cases a
   .cases a
  .cases a
 .cases a
theorem J90(a:BJ w S h μ){t kt et:TypeId}(_:P.underlying t=AC (.map kt et))(g:AM) :
  ∃cv w',(Instr.makeMap t AD).run P w=.ok cv w'/\Ran w S h μ (.map g (Kh h g)) (upd h g (AC (.map (Kh h g) [] AF))) cv w':=by
 obtain ⟨ev,vv⟩:=Jzp (w:=w) (S:=S) (h:=h) (μ:=μ) g (.map (Kh h g) [] AF) (.map #[] 0) (.inl rfl);refine ⟨.map (AC w.heap.size),w.alloc (.map #[] 0),by simp [Instr.makeMap],S,_,?_,J2j a (.inl rfl) ?_,ev,vv⟩
 .exact .map g _ _ (.map (Kh h g) [] AF) (Jg _ _ _) (Aj _) rfl λ_=>by simp [Gh.set,Jg]
 .exact ⟨#[],0,heap_alloc_new w (.map #[] 0),⟨rfl,R9 0⟩,λq=>absurd q (by simp),λi k v hi=>by simp at hi⟩
end
theorem TW{α β:Type}{f:α->AH β}:∀ {l:AG α} {ps:AG β},l.mapM f=AC ps->ps.length=l.length/\∀(i:AM) (x:α),l[i]?=AC x->∃p,ps[i]?=AC p/\f x=AC p
 | [],ps,h=>by simp at h;subst h;exact ⟨rfl,λi x hi=>by simp at hi⟩
 | x::l,ps,h=>by
  rw [By] at h;cases hx:f x with
  | none=>rw [hx] at h;cases h
  | some y=>
   cases hl:l.mapM f with
   | none=>rw [hx,hl] at h;cases h
   | some qs=>
    rw [hx,hl] at h;injection h with h;subst h;obtain ⟨d,a⟩:=TW hl;refine ⟨by simp [d],λi z hi=>?_⟩;cases i with
    | zero=>simp at hi;subst hi;exact ⟨y,rfl,hx⟩
    | succ i=>simpa using a i z (by simpa using hi)
section
variable {w:World} {S:AM->Prop} {h:Heap} {μ:Gh}
theorem AX.flat{x:AV}{v:Value}(hr:AX w S h μ x v)(a:x.flat=AE):AY w S x v:=by
 cases hr with
 | pure d=>exact d
 | any=>simp [AV.flat] at a
 | fn=>simp [AV.flat] at a
 | agg=>simp [AV.flat] at a
 | Cb=>simp [AV.flat] at a
 | arr=>simp [AV.flat] at a
 | ptr=>simp [AV.flat] at a
 | map=>simp [AV.flat] at a
 | Fu=>simp [AV.flat] at a
theorem yA:∀ {l:AG AV},oM l=AE->∀(i:AM) (x:AV),l[i]?=AC x->x.FB=AE
 | [],_,i,x,hx=>by simp at hx
 | v::r,a,i,x,hx=>by
  simp only [oM,Ad] at a;cases i with
  | zero=>simp at hx;subst hx;exact a.1
  | succ i=>exact yA a.2 i x (by simpa using hx)
theorem AX.FB{x:AV}{v:Value}(hr:AX w S h μ x v)(a:x.FB=AE):AY w S x v:=by
 induction hr with
 | pure g=>exact g
 | any=>simp [AV.FB] at a
 | fn f l cs hl hr d=>exact .fn f l cs hl λi x hi=>d i x hi (yA (by simpa only [AV.FB] using a) i x hi)
 | agg l cs hl m hr d=>exact .agg l cs hl m λi x hi=>d i x hi (yA (by simpa only [AV.FB] using a) i x hi)
 | Cb l cs hl hr d=>exact .Cb l cs hl λi x hi=>d i x hi (yA (by simpa only [AV.FB] using a) i x hi)
 | arr=>simp [AV.FB] at a
 | ptr=>simp [AV.FB] at a
 | map=>simp [AV.FB] at a
 | Fu=>simp [AV.FB] at a
def KQ(h:Heap)(μ:Gh)(ns:AG AM)(b:AM):Prop:=∃g∈ns,∃o,h g=AC o/\o.live=AE/\μ.b g=b
def Met(S':AM->Prop)(h:Heap)(μ:Gh)(ns:AG AM):Prop:=∀g,g∈ns->∀o,h g=AC o->o.live=AE->S' (μ.b g)
theorem kD(hp:BJ w S h μ){S':AM->Prop}(hS:∀b,S b->S' b):∀(k:AM) {v u:AV} {ns:AG AM} {c:Value},snap h k v=AC (u,ns)->AX w S h μ v c->Met S' h μ ns->AY w S' u c
 | 0,v,u,ns,c,hs,_,_=>by simp [snap] at hs
 | k+1,v,u,ns,c,hs,hr,hm=>by
  have CF:∀ {l:AG AV} {ps:AG (AV×AG AM)},l.mapM (snap h k)=AC ps->(∀g,g∈ps.flatMap (·.2)->g∈ns) ->
    (ps.map (·.1)).length=l.length/\∀(i:AM) (y:AV),(ps.map (·.1))[i]?=AC y->∃x,l[i]?=AC x/\∀c,AX w S h μ x c->AY w S' y c:=by
   intro l ps hl P;obtain ⟨Y,K⟩:=TW hl;refine ⟨by simp [Y],λi y hi=>?_⟩;rw [Az] at hi;cases J:ps[i]? with
   | none=>rw [J] at hi;cases hi
   | some p=>
    rw [J] at hi;injection hi with hi;have M:i<l.length:=by have:=(Ac.1 J).1;omega
    obtain ⟨p',L,hp2⟩:=K i l[i] (Ae M);rw [J] at L;injection L with L;subst L;refine ⟨l[i],Ae M,λc hc=>?_⟩;subst hi;exact kD hp hS k (u:=p.1) (ns:=p.2) hp2 hc (λg hg=>hm g (P g (Au.2 ⟨p,Ai J,hg⟩)))
  unfold snap at hs;split at hs
  .cases hs
  .cases hs
  .cases hs
  .cases hs
  .rename_i g ver off len;split at hs
   .rename_i ver' esz el cells fz Q;split at hs
    .rename_i hc;obtain ⟨rfl,hle⟩:=hc;by_cases d:cells=[]
     .obtain ⟨rfl,rfl,A,rfl⟩:=(hr.DF Q).1 d;have hc0:cut cells (0 * esz) (0 * esz)=[]:=by simp [cut]
      simp only [hc0,List.all_nil,if_true] at hs;cases hs;cases A with
      | none=>exact .FQ
      | some a=>exact .CF 0 [] a 0 (λ_=>undef) (λq=>(q rfl).elim) (Aj _) (λi x hi=>by simp at hi) (λi x hi=>by simp at hi) (λi x hi=>by simp at hi)
     obtain ⟨a,cap,cs0,el0,z0,rfl,X,hb0,hsz0,ha⟩:=hr.EF Q d;obtain ⟨cs,hb,hsz,H,_⟩:=hp.ob g _ Q d;have key:∀i x,(cut cells (off * esz) (len * esz))[i]?=AC x->0<cap/\cells[off * esz+i]?=AC x/\w.cell? (a.add i)=AC (cs.getD (μ.o g+(off * esz+i)) undef):=by
      intro i x hi;simp only [cut,List.getElem?_take,List.getElem?_drop] at hi;split at hi
      .rename_i M;have N:0<cap:=by
        rcases Nat.eq_zero_or_pos len with h0|h0
        .rw [h0,Nat.zero_mul] at M;omega
        .omega
       have R:μ.o g+(off * esz+i)<cs.size:=by have:=(Ac.1 hi).1;omega
       exact ⟨N,hi,by rw [ha N,jP hb,Nat.add_assoc,getD_some R]⟩
      .cases hi
     simp only at hs;split at hs
     .rename_i G;injection hs with hs;simp only [Aa] at hs;obtain ⟨rfl,rfl⟩:=hs;refine .CF _ _ _ _ (λi=>cs.getD (μ.o g+(off * esz+i)) undef) (λO=>?_) X.1 (λi x hi=>(key i x hi).2.2) (λi x hi=>(H _ x (key i x hi).2.1).2) (λi x hi=>?_)
      .cases m:cut cells (off * esz) (len * esz) with
       | nil=>exact (O m).elim
       | cons x r=>rw [ha (key 0 x (by rw [m];rfl)).1];exact hm g (by simp) _ Q (Kz.2 d)
      .have hf:=Af.1 G x (Ai hi);exact ((H _ x (key i x hi).2.1).1.flat hf).mono hS (λ_ _=>rfl)
     .split at hs
      .rename_i ps E;injection hs with hs;simp only [Aa] at hs;obtain ⟨rfl,rfl⟩:=hs;obtain ⟨Y,K⟩:=CF E (λg' F=>Am _ F);have key2:∀i y,(ps.map (·.1))[i]?=AC y->∃x,(cut cells (off * esz) (len * esz))[i]?=AC x/\∀c,AX w S h μ x c->AY w S' y c:=K;refine .CF _ _ _ _ (λi=>cs.getD (μ.o g+(off * esz+i)) undef) (λO=>?_) X.1 (λi y hi=>?_) (λi y hi=>?_) (λi y hi=>?_)
       .cases m:ps.map (·.1) with
        | nil=>exact (O m).elim
        | cons x r=>
         obtain ⟨x',Z,_⟩:=key2 0 x (by rw [m];rfl);rw [ha (key 0 x' Z).1];exact hm g (by simp) _ Q (Kz.2 d)
       .obtain ⟨x,hx,_⟩:=key2 i y hi;exact (key i x hx).2.2
       .obtain ⟨x,hx,_⟩:=key2 i y hi;exact (H _ x (key i x hx).2.1).2
       .obtain ⟨x,hx,B⟩:=key2 i y hi;exact B _ (H _ x (key i x hx).2.1).1
      .cases hs
    .cases hs
   .cases hs
  .rename_i f caps;split at hs
   .rename_i ps E;injection hs with hs;simp only [Aa] at hs;obtain ⟨rfl,rfl⟩:=hs;obtain ⟨Y,K⟩:=CF E (λg' F=>F);obtain ⟨cs,rfl,hl,H⟩:=hr.EZ;exact .fn _ _ cs (by omega) (λi y hi=>by obtain ⟨x,hx,B⟩:=K i y hi;exact B _ (H i x hx))
   .cases hs
  .rename_i l;split at hs
   .rename_i G;injection hs with hs;simp only [Aa] at hs;obtain ⟨rfl,rfl⟩:=hs;obtain ⟨cs,rfl,hl,H⟩:=hr.CB;exact .agg _ cs hl (λi x hi=>(H i x hi).2) (λi x hi=>((H i x hi).1.flat (Af.1 G x (Ai hi))).mono hS (λ_ _=>rfl))
   .split at hs
    .rename_i ps E;injection hs with hs;simp only [Aa] at hs;obtain ⟨rfl,rfl⟩:=hs;obtain ⟨Y,K⟩:=CF E (λg' F=>F);obtain ⟨cs,rfl,hl,H⟩:=hr.CB;exact .agg _ cs (by omega) (λi y hi=>by obtain ⟨x,hx,_⟩:=K i y hi;exact (H i x hx).2) (λi y hi=>by obtain ⟨x,hx,B⟩:=K i y hi;exact B _ (H i x hx).1)
    .cases hs
  .rename_i l;split at hs
   .rename_i ps E;injection hs with hs;simp only [Aa] at hs;obtain ⟨rfl,rfl⟩:=hs;obtain ⟨Y,K⟩:=CF E (λg' F=>F);obtain ⟨cs,rfl,hl,H⟩:=hr.FI;exact .Cb _ cs (by omega) (λi y hi=>by obtain ⟨x,hx,B⟩:=K i y hi;exact B _ (H i x hx))
   .cases hs
  .rename_i x1 x2 xy x3 x4 x5 x6 x7;injection hs with hs;simp only [Aa] at hs;obtain ⟨rfl,rfl⟩:=hs;cases hr with
   | pure hp'=>exact hp'.mono hS (λ_ _=>rfl)
   | any=>exact (x1 rfl).elim
   | fn=>exact (x5 _ _ rfl).elim
   | agg=>exact (x6 _ rfl).elim
   | Cb=>exact (x7 _ rfl).elim
   | arr=>exact (x4 _ _ _ _ rfl).elim
   | ptr=>exact (x2 _ _ _ rfl).elim
   | map=>exact (x3 _ _ rfl).elim
   | Fu=>exact (xy _ rfl).elim
theorem kF:∀(k:AM) {v u:AV} {ns:AG AM},snap h k v=AC (u,ns)->∀g∈ns,∃o,h g=AC o/\o.freeze.fz=AE
 | 0,v,u,ns,hs=>by simp [snap] at hs
 | k+1,v,u,ns,hs=>by
  have CF:∀ {l:AG AV} {ps:AG (AV×AG AM)},l.mapM (snap h k)=AC ps->∀g∈ps.flatMap (·.2),∃o,h g=AC o/\o.freeze.fz=AE:=by
   intro l ps hl g d;obtain ⟨E,A⟩:=TW hl;obtain ⟨p,y,d⟩:=Au.1 d;obtain ⟨i,hi⟩:=Bd y;have r:i<l.length:=by have:=(Ac.1 hi).1;omega
   obtain ⟨B,f,m⟩:=A i l[i] (Ae r);rw [hi] at f;injection f with f;subst f;exact kF k (u:=p.1) (ns:=p.2) m g d
  unfold snap at hs;split at hs
  .cases hs
  .cases hs
  .cases hs
  .cases hs
  .rename_i g0 ver off len;split at hs
   .rename_i ver' esz el cells fz w;split at hs
    .simp only at hs;split at hs
     .injection hs with hs;simp only [Aa] at hs;obtain ⟨rfl,rfl⟩:=hs;intro g d;simp at d;subst d;exact ⟨_,w,rfl⟩
     .split at hs
      .rename_i ps a;injection hs with hs;simp only [Aa] at hs;obtain ⟨rfl,rfl⟩:=hs;intro g d;rcases Ah.1 d with rfl|d
       .exact ⟨_,w,rfl⟩
       .exact CF a g d
      .cases hs
    .cases hs
   .cases hs
  .split at hs
   .rename_i ps a;injection hs with hs;simp only [Aa] at hs;obtain ⟨rfl,rfl⟩:=hs;exact CF a
   .cases hs
  .split at hs
   .injection hs with hs;simp only [Aa] at hs;obtain ⟨rfl,rfl⟩:=hs;intro g d;simp at d
   .split at hs
    .rename_i ps a;injection hs with hs;simp only [Aa] at hs;obtain ⟨rfl,rfl⟩:=hs;exact CF a
    .cases hs
  .split at hs
   .rename_i ps a;injection hs with hs;simp only [Aa] at hs;obtain ⟨rfl,rfl⟩:=hs;exact CF a
   .cases hs
  .injection hs with hs;simp only [Aa] at hs;obtain ⟨rfl,rfl⟩:=hs;intro g d;simp at d
theorem uV(v:BJ w S h μ){S':AM->Prop}(hS:∀b,S b->S' b){l vs:AG AV}{ns:AG AM}(hs:Hg h l=AC (vs,ns))(A:Met S' h μ ns) :
  vs.length=l.length/\∀(i:AM) (y:AV),vs[i]?=AC y->∃x,l[i]?=AC x/\∀c,AX w S h μ x c->AY w S' y c:=by
 unfold Hg at hs;split at hs
 .rename_i ps m;injection hs with hs;simp only [Aa] at hs;obtain ⟨rfl,rfl⟩:=hs;obtain ⟨G,F⟩:=TW m;refine ⟨by simp [G],λi y hi=>?_⟩;rw [Az] at hi;cases a:ps[i]? with
  | none=>rw [a] at hi;cases hi
  | some p=>
   rw [a] at hi;injection hi with hi;have f:i<l.length:=by have:=(Ac.1 a).1;omega
   obtain ⟨H,d,r⟩:=F i l[i] (Ae f);rw [a] at d;injection d with d;subst d;refine ⟨l[i],Ae f,λc E=>?_⟩;subst hi;exact kD v hS depth (u:=p.1) (ns:=p.2) r E (λg B=>A g (Au.2 ⟨p,Ai a,B⟩))
 .cases hs
theorem uX{l vs:AG AV}{ns:AG AM}(hs:Hg h l=AC (vs,ns)):∀g∈ns,∃o,h g=AC o/\o.freeze.fz=AE:=by
 unfold Hg at hs;split at hs
 .rename_i ps d;injection hs with hs;simp only [Aa] at hs;obtain ⟨rfl,rfl⟩:=hs;intro g r;obtain ⟨p,v,r⟩:=Au.1 r;obtain ⟨A,w⟩:=TW d;obtain ⟨i,hi⟩:=Bd v;have m:i<l.length:=by have:=(Ac.1 hi).1;omega
  obtain ⟨y,a,f⟩:=w i l[i] (Ae m);rw [hi] at a;injection a with a;subst a;exact kF depth (u:=p.1) (ns:=p.2) f g r
 .cases hs
theorem Jsu(o:AU):o.freeze.ver=o.ver:=by cases o<;>rfl
theorem Jqf(o:AU):o.like o.freeze:=by cases o<;>simp [AU.freeze,AU.like,AU.kind]
theorem tY(E:BJ w S h μ){ns:AG AM}(Y:∀g∈ns,∃o,h g=AC o/\o.freeze.fz=AE) :
  BJ w (λb=>S b\/KQ h μ ns b) (Jh h ns) μ/\CY w S h μ w (λb=>S b\/KQ h μ ns b) (Jh h ns) μ/\Cg h μ (Jh h ns) μ:=by
 have inv:∀g o,Jh h ns g=AC o->∃f,h g=AC f/\(o=f\/(o=f.freeze/\g∈ns)):=by
  intro g o a;unfold Jh at a;split at a
  .rename_i y;cases d:h g with
   | none=>rw [d] at a;cases a
   | some f=>rw [d] at a;injection a with a;exact ⟨f,rfl,.inr ⟨a.symm,y⟩⟩
  .exact ⟨o,a,.inl rfl⟩
 have fz:∀g∈ns,∀o,Jh h ns g=AC o->o.fz=AE:=by intro g y o a;obtain ⟨f,F,A⟩:=Y g y;unfold Jh at a;rw [AS y,F] at a;injection a with a;subst a;exact A
 have vv:Cg h μ (Jh h ns) μ:=by
  intro g o a;unfold Jh;split
  .exact ⟨o.freeze,by rw [a];rfl,by rw [Jsu];exact Aj _,λ_=>⟨⟨rfl,rfl⟩,Jqf o⟩⟩
  .exact ⟨o,a,Aj _,λ_=>⟨⟨rfl,rfl⟩,.refl o⟩⟩
 have ev:CY w S h μ w (λb=>S b\/KQ h μ ns b) (Jh h ns) μ:=by
  refine ⟨rfl,rfl,⟨rfl,Aj _⟩,Aj _,λ_ _ _=>rfl,λ_ cs _ _ Z=>⟨cs,Z,rfl⟩,λ_ h=>.inl h,λb r=>?_,λb r=>?_,rfl⟩
  .rcases r with r|⟨g,y,f,F,H,rfl⟩
   .exact .inl r
   .cases B:f.fz with
    | false=>exact .inr (.inr ⟨g,_,F,B,H,rfl⟩)
    | true=>
     refine .inl ?_;have:=E.ob g _ F;cases f with
     | box=>cases B
     | arr=>obtain ⟨_,_,_,_,K⟩:=this (Kz.1 H);exact K B
     | map=>obtain ⟨_,_,_,_,K,_⟩:=this;exact K B
  .obtain ⟨g,o,a,A,hl,e⟩:=r;obtain ⟨f,d,m⟩:=inv g o a;rcases m with rfl|⟨rfl,y⟩
   .exact .inl ⟨g,o,d,A,hl,e⟩
   .have:=fz g y _ a;rw [this] at A;cases A
 have flv:∀o:AU,o.freeze.live=o.live:=λo=>by
  cases o with
  | arr v e t c z=>cases c<;>rfl
  | _=>rfl
 refine ⟨⟨λg o a=>?_,λg J o o' a L l Q e=>?_,λg o a A hl r=>?_,λb r=>?_⟩,ev,vv⟩
 .obtain ⟨f,d,m⟩:=inv g o a;have:=(E.ob g f d).Cz E ev vv (λ_=>rfl);rcases m with rfl|⟨rfl,y⟩
  .exact this
  .cases f with
   | box=>exact this
   | map v es z=>exact this
   | arr v e t c z=>
    intro G;obtain ⟨cs,h1,h2,h3,K⟩:=this G;exact ⟨cs,h1,h2,h3,λ_=>.inr ⟨g,y,_,d,Kz.2 G,rfl⟩⟩
 .obtain ⟨f,d,X⟩:=inv g o a;obtain ⟨P,m,R⟩:=inv J o' L;exact E.inj g J f P d m (by rcases X with rfl|⟨rfl,_⟩<;>simpa [flv] using l) (by rcases R with rfl|⟨rfl,_⟩<;>simpa [flv] using Q) e
 .obtain ⟨f,d,m⟩:=inv g o a;rcases m with rfl|⟨rfl,y⟩
  .rcases r with r|⟨J,O,o',N,M,e⟩
   .exact E.own g o d A hl r
   .have:=E.inj J g _ _ N d M hl e;subst this;have:=fz J O _ a;rw [this] at A;cases A
  .have:=fz g y _ a;rw [this] at A;cases A
 .rcases r with r|⟨g,y,o,F,hl,rfl⟩
  .exact E.lt b r
  .exact (E.ob g _ F).lt hl
theorem Jpa{nt:AM}{σ:St}{a:Act}{w':World}{S':AM->Prop}{h':Heap}{μ':Gh}{d:AH AM}{v:AV}{cv:Value}(hs:DN nt w S σ μ a)(hd:oL nt d=AE)
  (hr:AX w' S' h' μ' v cv) (f:BJ w' S' h' μ') (ev:CY w S σ.h μ w' S' h' μ') (vv:Cg σ.h μ h' μ'):DN nt w' S' (σ.put d v h') μ' (a.put d cv):=by
 cases d with
 | none=>exact ⟨λk=>(hs.fr k).Cz hs.hp ev vv,f,hs.hp.marks hs.df ev,hs.sz⟩
 | some d=>
  simp only [oL,decide_eq_true_eq] at hd;refine ⟨λk=>?_,f,hs.hp.marks hs.df ev,by simpa [Act.put] using hs.sz⟩;simp only [St.put,Act.put];rw [Jsa];by_cases g:k=d
  .subst g;rw [Jg,AS ⟨rfl,by have:=hs.sz;omega⟩];exact hr
  .rw [Jd _ _ _ _ g,AR (by omega)];exact (hs.fr k).Cz hs.hp ev vv
end
abbrev Fr(ro:AH AM):Fence:={ Fence.wide with round:=ro }
def Ie(ro:AH AM)(P:Program)(o:Oper)(a:Act)(w:World)(next:Act->World->Prop)(Q:Exit->Act->World->Prop):Prop:=o.uponIn (Fr ro) 0 P a next Q ((execOp a.eval o).run P w)
theorem bJ{ro:AH AM}{P:Program}{o:Oper}{a:Act}{w:World}{next:Act->World->Prop}{Q:Exit->Act->World->Prop}(d:∀c,o.op≠.defer c)(h:Ie ro P o a w next Q):o.wpIn (Fr ro) 0 P a w next Q:=
 ⟨λ_ _=>trivial,by rw [Oper.semAt_eq _ _ _ d];exact h⟩
theorem J3t{ro:AH AM}{n:AM}{P:Program}{f:FuncId}{args:Array Value}{w:World}{R:Ending->World->Prop}(h:Calls P f args w R):CallsIn (Fr ro) n P f args w R:=by
 have:=callsIn_wide (n:=n).2 h;cases ro with
 | none=>exact this
 | some l=>exact this
def C9(P : Program)(f : FuncId) : Prop := ∃ fn, P.funcs[f]? = AC fn /\ fn.body.isSome = AE /\ (fn.name == "runtime.NumGoroutine") = AF
structure Old (w w':World):Prop where
 os:w'.os=w.os
 tape:w'.tape=w.tape
 output:w'.output=w.output/\w.drawn<=w'.drawn
 size:w.heap.size<=w'.heap.size
 keep:∀b,b<w.heap.size->w'.heap[b]?=w.heap[b]?
def zb(S:AM->Prop)(w w':World)(b:AM):Prop:=S b\/(w.heap.size<=b/\b<w'.heap.size)
def iY(w w':World)(S:AM->Prop)(el:TypeId)(esz n:AM)(L:AG AV)(cv:Value):Prop:=
 (L=[]/\n=0/\∃A,cv=.slice A 0 0) \/
 (L≠[]/\∃(b o cap:AM) (cs:Array Value),w.heap.size<=b/\cv=.slice (AC ⟨b,o,AD⟩) n cap/\(n<=cap/\cap<=9223372036854775807)/\w'.heap[b]?=AC (.cells cs el (0,0))/\o+cap * esz<=cs.size/\L.length=n * esz /\
  ∀(i:AM) (x:AV),L[i]?=AC x->AY w' (λq=>zb S w w' q/\q≠b) x (cs.getD (o+i) undef)/\(cs.getD (o+i) undef).oneCell'=AE)
structure JJ (P:Program) (call:Call):Prop where
 fn:∀f vs m r,call f vs m=AC r->C9 P f
 pure:∀f vs v h',call f vs AD=AC (v,h')->∀(w:World) (S:AM->Prop) (cargs:Array Value),(∀b,S b->b<w.heap.size)->cargs.size=vs.length->(∀i x,vs[i]?=AC x->AY w S x (cargs.getD i undef)) ->
  Calls P f cargs w λe w'=>∃cv,e=.returned cv/\AY w' (zb S w w') v cv/\Old w w'
 fresh:∀f vs v h' p,call f vs AD=AC (v,h')->call f vs (AC (λ_=>AD,0))=AC p->∀(w:World) (S:AM->Prop) (cargs:Array Value),(∀b,S b->b<w.heap.size)->cargs.size=vs.length->(∀i x,vs[i]?=AC x->AY w S x (cargs.getD i undef)) ->
  Calls P f cargs w λe w'=>∃cv,e=.returned cv/\AY w' (zb (λ_=>False) w w') v cv/\Old w w'
 own:∀f vs n L h' esz el,call f vs (AC (oH esz el))=AC (.CF n L,h')->∀(w:World) (S:AM->Prop) (cargs:Array Value),(∀b,S b->b<w.heap.size)->cargs.size=vs.length->(∀i x,vs[i]?=AC x->AY w S x (cargs.getD i undef)) ->
  Calls P f cargs w λe w'=>∃cv,e=.returned cv/\Old w w'/\iY w w' S el esz n L cv
theorem yP(h:Heap)(k:AM)(v:AV)(a:v.flat=AE):snap h (k+1) v=AC (v,[]):=by cases v<;>first|rfl|cases a
section
variable {ro:AH AM} {P:Program} {w:World} {S:AM->Prop} {h:Heap} {μ:Gh}
theorem Kx{f:FuncId}(hf:C9 P f)(args:Array Value)(w:World):(callFunc f args).run P w=.ok (.enter f args) w:=by
 obtain ⟨fn,h1,h2,h3⟩:=hf;have hn:fn.body≠AD:=by rintro e;rw [e] at h2;cases h2
 have hm : fn.name ≠ "runtime.NumGoroutine" := by simpa using h3
 simp [callFunc,program,Sem.run,h1,hm,hn]
theorem BU{o:Oper}{a:Act}{next:Act->World->Prop}{Q:Exit->Act->World->Prop}{cv:Value}{w':World}(d:(execOp a.eval o).run P w=.ok (.value cv) w')(f:next (a.put o.dst cv) w'):Ie ro P o a w next Q:=by unfold Ie;rw [d];exact f
theorem wp_skip{o:Oper}{a:Act}{next:Act->World->Prop}{Q:Exit->Act->World->Prop}{w':World}(d:(execOp a.eval o).run P w=.ok .skip w')(f:next (a.put o.dst undef) w'):Ie ro P o a w next Q:=by unfold Ie;rw [d];exact f
theorem DR{o:Oper}{a:Act}{next:Act->World->Prop}{Q:Exit->Act->World->Prop}{f:FuncId}{args:Array Value}{R:Ending->World->Prop}(d:(execOp a.eval o).run P w=.ok (.enter f args) w)(m:Calls P f args w R)
  (l:∀e w',R e w'->∃cv,e=.returned cv/\next (a.put o.dst cv) w'):Ie ro P o a w next Q:=by unfold Ie;rw [d,Oper.uponIn_enter];refine ⟨λh=>(by cases h),(J3t m).mono λe w' hr=>?_⟩;obtain ⟨cv,rfl,g⟩:=l e w' hr;exact g
section
variable {w':World} {S':AM->Prop}
theorem oW(l:BJ w S h μ)(o:Old w w'){g b k esz:AM}{el:TypeId}{cells:AG AV}(P:h g=AD)(hS1:∀q,S q->S' q)(hS2:∀q,S' q->zb S w w' q)(hS3:cells≠[]->¬S' b)
  (G:cells≠[]->w.heap.size<=b) (Q:cells≠[]->∃cs,w'.heap[b]?=AC (.cells cs el (0,0))/\k+cells.length<=cs.size/\∀(i:AM) (x:AV),cells[i]?=AC x->AY w' S' x (cs.getD (k+i) undef)/\(cs.getD (k+i) undef).oneCell'=AE) :
  BJ w' S' (upd h g (AC (.arr 0 esz el cells AF))) (μ.set g b k)/\CY w S h μ w' S' (upd h g (AC (.arr 0 esz el cells AF))) (μ.set g b k)/\Cg h μ (upd h g (AC (.arr 0 esz el cells AF))) (μ.set g b k):=by
 have mb:∀ {d},d≠g->(μ.set g b k).b d=μ.b d/\(μ.set g b k).o d=μ.o d:=λN=>⟨Jd _ _ _ _ N,Jd _ _ _ _ N⟩;have ne:∀ {d o'},h d=AC o'->d≠g:=λM e=>by subst e;rw [P] at M;cases M
 have vv:Cg h μ (upd h g (AC (.arr 0 esz el cells AF))) (μ.set g b k):=λd o' a=>
  ⟨o',by rw [Jd _ _ _ _ (ne a)];exact a,Aj _,λ_=>⟨mb (ne a),.refl o'⟩⟩
 have ev:CY w S h μ w' S' (upd h g (AC (.arr 0 esz el cells AF))) (μ.set g b k):=by
  refine ⟨o.os,o.tape,o.output,o.size,λq m _=>o.keep q m,λq cs e z m=>⟨cs,(o.keep q (Ab.1 m).1).trans m,rfl⟩,hS1,λq m=>?_,?_,rfl⟩
  .rcases hS2 q m with x|x
   .exact .inl x
   .exact .inr (.inl x.1)
  .rintro q ⟨d,o',a,E,hl,e⟩;by_cases f:d=g
   .subst f;rw [Jg] at a;injection a with a;subst a;simp only [Gh.set,Jg] at e;exact .inr (e▸G (Kz.1 hl))
   .rw [Jd _ _ _ _ f] at a;rw [(mb f).1] at e;exact .inl ⟨d,o',a,E,hl,e⟩
 refine ⟨⟨λd o' a=>?_,λJ H L K v r B A e=>?_,λd o' a E hl hs=>?_,λq m=>?_⟩,ev,vv⟩
 .by_cases f:d=g
  .subst f;rw [Jg] at a;injection a with a;subst a;simp only [Gh.set,Jg];intro F;obtain ⟨cs,X,R,O⟩:=Q F;exact ⟨cs,X,R,λi x hi=>⟨.pure (O i x hi).1,(O i x hi).2⟩,λq=>by cases q⟩
  .rw [Jd _ _ _ _ f] at a;rw [(mb f).1,(mb f).2];exact (l.ob d o' a).Cz l ev vv λhl=>o.keep _ ((l.ob d o' a).lt hl)
 .by_cases f:J=g<;>by_cases y:H=g
  .rw [f,y]
  .subst f;rw [Jg] at v;injection v with v;subst v;rw [Jd _ _ _ _ y] at r;rw [(mb y).1] at e;simp only [Gh.set,Jg] at e;have:=(l.ob H K r).lt A;have:=G (Kz.1 B);omega
  .subst y;rw [Jg] at r;injection r with r;subst r;rw [Jd _ _ _ _ f] at v;rw [(mb f).1] at e;simp only [Gh.set,Jg] at e;have:=(l.ob J L v).lt B;have:=G (Kz.1 A);omega
  .rw [Jd _ _ _ _ f] at v;rw [Jd _ _ _ _ y] at r;rw [(mb f).1,(mb y).1] at e;exact l.inj J H L K v r B A e
 .by_cases f:d=g
  .subst f;rw [Jg] at a;injection a with a;subst a;simp only [Gh.set,Jg] at hs;exact hS3 (Kz.1 hl) hs
  .rw [Jd _ _ _ _ f] at a;rw [(mb f).1] at hs;rcases hS2 _ hs with x|x
   .exact l.own d o' a E hl x
   .have:=(l.ob d o' a).lt hl;omega
 .rcases hS2 q m with x|x
  .exact Nat.lt_of_lt_of_le (l.lt q x) o.size
  .exact x.2
end
theorem ZL{S1:AM->Prop}{m:Heap}{v:AV}{cv:Value}{w':World}(f:BJ w S1 m μ)(d:Old w w')(hr:AY w' (zb S1 w w') v cv):Ran w S1 m μ v m cv w':=by
 have ev:CY w S1 m μ w' (zb S1 w w') m μ:=by
  refine ⟨d.os,d.tape,d.output,d.size,λb a _=>d.keep b a,λb cs el z r=>⟨cs,?_,rfl⟩,λ_ h=>.inl h,λb a=>?_,λ_ h=>.inl h,rfl⟩
  .rw [d.keep b (Ab.1 r).1];exact r
  .rcases a with a|a
   .exact .inl a
   .exact .inr (.inl a.1)
 refine ⟨zb S1 w w',μ,.pure hr,⟨λg o l=>(f.ob g o l).Cz f ev (.refl _ _) (λhl=>d.keep _ ((f.ob g o l).lt hl)),f.inj,λg o l y hl a=>?_,λb a=>?_⟩,ev,.refl _ _⟩
 .rcases a with a|a
  .exact f.own g o l y hl a
  .have:=(f.ob g o l).lt hl;omega
 .rcases a with a|a
  .have:=f.lt b a;have:=d.size;omega
  .exact a.2
theorem Ran.after{S1:AM->Prop}{a:Heap}{v:AV}{h':Heap}{cv:Value}{w':World}(hr:Ran w S1 a μ v h' cv w')(ev:CY w S h μ w S1 a μ)(vv:Cg h μ a μ):Ran w S h μ v h' cv w':=by obtain ⟨S',μ',l,g,f,d⟩:=hr;exact ⟨S',μ',l,g,ev.trans f,vv.trans d⟩
theorem AY.GV{S':AM->Prop}{v:AV}{cv:Value}(hs:v.scalar=AE)(hr:AY w S v cv):AY w S' v cv:=by
 have one:∀ {x:AV} {c:Value},(match x with|.bool _|.int _ _|.str _=>AE|_=>AF)=AE->AY w S x c->AY w S' x c:=by intro x c hx hr;cases hr<;>simp at hx<;>constructor
 cases hr with
 | bool=>exact .bool _
 | int=>exact .int _ _
 | str=>exact .str _
 | agg l cs hl m hr=>exact .agg l cs hl m (λi x hi=>one (Af.1 (by simpa [AV.scalar] using hs) x (Ai hi)) (hr i x hi))
 | Cb l cs hl hr=>
  refine .Cb l cs hl (λi x hi=>?_);have hx:=Af.1 (show l.all _=AE from hs) x (Ai hi);have a:=hr i x hi;generalize cs.getD i undef=c at a ⊢;cases a with
  | bool=>exact .bool _
  | int=>exact .int _ _
  | str=>exact .str _
  | agg h cs' f g d=>exact .agg h cs' f g (λi x hi=>one (Af.1 (by simpa using hx) x (Ai hi)) (d i x hi))
  | _=>simp at hx
 | _=>simp [AV.scalar] at hs
theorem Jyr{call:Call}(K:JJ P call)(r:BJ w S h μ){f:FuncId}{l vs:AG AV}{ns:AG AM}{v:AV}{H:Heap}(hs:Hg h l=AC (vs,ns))(J:call f vs AD=AC (v,H)){cargs:Array Value}
  (O:cargs.size=l.length) (hl:∀i x,l[i]?=AC x->AX w S h μ x (cargs.getD i undef)) :
  Calls P f cargs w λe w'=>∃cv,e=.returned cv/\((ns=[]\/v.scalar=AE\/(call f vs (AC (λ_=>AD,0))).isSome=AE)->Ran w S h μ v h cv w')/\Ran w S h μ v (Jh h ns) cv w':=by
 obtain ⟨A,N,M⟩:=tY r (uX hs);obtain ⟨R,Q⟩:=uV r (S':=λb=>S b\/KQ h μ ns b) (λb d=>.inl d) hs (λg E o m hl=>.inr ⟨g,E,o,m,hl,rfl⟩);have L:∀i y,vs[i]?=AC y->AY w (λb=>S b\/KQ h μ ns b) y (cargs.getD i undef):=λi y hi=>by obtain ⟨x,hx,B⟩:=Q i y hi;exact B _ (hl i x hx)
 cases F:call f vs (AC (λ_=>AD,0)) with
 | some p=>
  refine (K.fresh f vs v H p J F w _ cargs A.lt (by omega) L).mono λe w' ⟨cv,G,hr,m⟩=>⟨cv,G,λ_=>?_,(ZL A m (hr.mono (λb d=>.inr (d.resolve_left id)) λ_ _=>rfl)).after N M⟩;exact ZL r m (hr.mono (λb d=>.inr (d.resolve_left id)) λ_ _=>rfl)
 | none=>
 refine (K.pure f vs v H J w _ cargs A.lt (by omega) L).mono λe w' ⟨cv,G,hr,m⟩=>⟨cv,G,λa=>?_,(ZL A m hr).after N M⟩
 .rcases a with a|a|a
  .subst a;refine ZL r m (hr.mono (λb d=>?_) (λ_ _=>rfl));rcases d with (d|⟨g,E,_⟩)|d
   .exact .inl d
   .cases E
   .exact .inr d
  .exact ZL r m (hr.GV a)
  .cases a
theorem R7{call:Call}(N:JJ P call)(m:BJ w S h μ){f:FuncId}{l vs:AG AV}{v:AV}{h':Heap}{g0 esz:AM}{el:TypeId}(hs:Hg h l=AC (vs,[]))(d:Mc h g0 esz el (call f vs (AC (oH esz el)))=AC (v,h')){cargs:Array Value}
  (X:cargs.size=l.length) (hl:∀i x,l[i]?=AC x->AX w S h μ x (cargs.getD i undef)):C9 P f/\Calls P f cargs w λe w'=>∃cv,e=.returned cv/\Ran w S h μ v h' cv w':=by
 unfold Mc at d;split at d
 case h_2=>cases d
 rename_i n L h0 B r;injection d with d;injection d with e1 e2;subst e1;subst e2;obtain ⟨h1,h2⟩:=uV m (S':=S) (λb Z=>Z) hs (λg B=>by cases B);refine ⟨N.fn _ _ _ _ r,(N.own f vs n L h0 esz el r w S cargs m.lt (by omega) λi y hi=>?_).mono λe w' ⟨cv,Y,K,hr⟩=>⟨cv,Y,?_⟩⟩
 .obtain ⟨x,hx,E⟩:=h2 i y hi;exact E _ (hl i x hx)
 .rcases hr with ⟨e,e0,A,rfl⟩|⟨e,b,o,cap,cs,R,rfl,J,H,Q,q6,O⟩
  .subst e;subst e0;obtain ⟨G,F,a3⟩:=oW (S':=zb S w w') (g:=g0) (b:=0) (k:=0) (esz:=esz) (el:=el) (cells:=[]) m K B (λq a=>.inl a) (λq a=>a) (λq=>(q rfl).elim) (λq=>(q rfl).elim) (λq=>(q rfl).elim);exact ⟨_,_,.arr g0 0 0 0 _ _ (Jg _ _ _) (Aj _) rfl λ_=>⟨esz,el,_,AF,rfl,λ_=>⟨rfl,rfl,A,rfl⟩,λq=>(q rfl).elim⟩,G,F,a3⟩
  .have M:n * esz<=cap * esz:=Nat.mul_le_mul_right _ J.1;obtain ⟨G,F,a3⟩:=oW (S':=λq=>zb S w w' q/\q≠b) (g:=g0) (b:=b) (k:=o) (esz:=esz) (el:=el) (cells:=L) m K B
    (λq a=>⟨.inl a,λe=>by subst e;have:=m.lt q a;omega⟩) (λq a=>a.1) (λ_ q=>q.2 rfl) (λ_=>R) (λ_=>⟨cs,H,by omega,O⟩)
   refine ⟨_,_,.arr g0 0 0 n _ _ (Jg _ _ _) (Aj _) rfl λ_=>⟨esz,el,_,AF,rfl,λq=>(e q).elim,λ_=>?_⟩,G,F,a3⟩;simp only [Gh.set,Jg];exact ⟨⟨b,o,AD⟩,cap,cs,el,(0,0),rfl,J,H,by rw [Db];exact Q,λ_=>by rw [Nat.zero_mul,Nat.add_zero]⟩
theorem fM{f:LO->AV}{l:AG LO}{i:AM}{x:AV}(hi:(l.map f)[i]?=AC x):∃y,l[i]?=AC y/\f y=x:=by
 rw [Az] at hi;cases a:l[i]? with
 | none=>rw [a] at hi;cases hi
 | some y=>rw [a] at hi;injection hi with hi;exact ⟨y,rfl,hi⟩
theorem jQ{nt:AM}{σ:St}{a:Act}(hs:DN nt w S σ μ a){l:Array Operand}{m:AG LO}(g:IU l.toList=AC m) :
  (l.map a.eval).size=(m.map σ.ev).length/\∀i x,(m.map σ.ev)[i]?=AC x->AX w S σ.h μ x ((l.map a.eval).getD i undef):=by
 obtain ⟨r,h⟩:=J1v hs g;refine ⟨by simp [r],λi x hi=>?_⟩;obtain ⟨y,f,rfl⟩:=fM hi;obtain ⟨z,d,hr⟩:=h i y f;have e:(l.map a.eval).getD i undef=a.eval z:=by
  have:l[i]?=AC z:=by simpa using d
  simp [this]
 rw [e];exact hr
theorem Jj0(f:BJ w S h μ){S':AM->Prop}(hS:∀b,S b->S' b){x u:AV}{ns:AG AM}{c:Value}(hs:TS h x=AC (u,ns))(hr:AX w S h μ x c)(J:Met S' h μ ns) :
  AY w S' u c:=by
 unfold TS at hs;split at hs
 .rename_i g ver off;cases m:h g with
  | none=>rw [m] at hs;cases hs
  | some o=>
   rw [m] at hs;unfold Iz at hs;split at hs
   .rename_i v cells P;cases P;split at hs
    .rename_i X;subst X;obtain ⟨cs,el,e1,e2,e3⟩:=f.ob g _ m;have E:c=.pointer (AC ⟨μ.b g,μ.o g+off,AD⟩):=by
      cases hr with
      | pure f=>cases f
      | ptr _ _ _ _ o2 A _ _ M=>rw [m] at A;cases A;exact M rfl
     subst E;have core:∀(l:AG AV),l.length=cells.length->(∀(i:AM) (y:AV),l[i]?=AC y->∃z,cells[i]?=AC z/\∀c,AX w S h μ z c->AY w S' y c)->S' (μ.b g) ->
       AY w S' (.CP (l.drop off)) (.pointer (AC ⟨μ.b g,μ.o g+off,AD⟩)):=by
      intro l hl F hb;have at':∀(i:AM) (y:AV),(l.drop off)[i]?=AC y->∃z,cells[off+i]?=AC z/\AY w S' y (cs.getD (μ.o g+off+i) undef)/\(cs.getD (μ.o g+off+i) undef).oneCell'=AE:=by intro i y hi;rw [List.getElem?_drop] at hi;obtain ⟨z,H,K⟩:=F _ y hi;have:=e3 _ z H;rw [<-Nat.add_assoc] at this;exact ⟨z,H,K _ this.1,this.2⟩
      refine .CP _ _ (λi=>cs.getD (μ.o g+off+i) undef) (λ_=>hb) (λi y hi=>?_) (λi y hi=>(at' i y hi).choose_spec.2.2) (λi y hi=>(at' i y hi).choose_spec.2.1);obtain ⟨z,H,-⟩:=at' i y hi;have d:off+i<cells.length:=(Ac.1 H).1;have G:(⟨μ.b g,μ.o g+off,AD⟩:Addr).add i=⟨μ.b g,μ.o g+off+i,AD⟩:=by cases i<;>simp [Addr.add]
      rw [G];have B:μ.o g+off+i<cs.size:=by omega
      simp [World.cell?,e1,B]
     split at hs
     .rename_i Z;injection hs with hs;simp only [Aa] at hs;obtain ⟨rfl,rfl⟩:=hs;refine core cells rfl (λi y hi=>⟨y,hi,λc E=>?_⟩) (J g (by simp) _ m rfl);exact kD f hS depth (yP h 7 y (Af.1 Z y (Ai hi))) E (λg Y=>by cases Y)
     .unfold vJ at hs;split at hs
      .rename_i ps N;injection hs with hs;simp only [Aa] at hs;obtain ⟨rfl,rfl⟩:=hs;obtain ⟨R,Q⟩:=TW N;refine core (ps.map (·.1)) (by simp [R]) (λi y hi=>?_) (J g (by simp) _ m rfl);rw [Az] at hi;obtain ⟨p,a,rfl⟩:=Option.map_eq_some_iff.1 hi;have d:i<cells.length:=by have:=(Ac.1 a).1;omega
       obtain ⟨p',r,L⟩:=Q i cells[i] (Ae d);rw [a] at r;cases r;refine ⟨cells[i],Ae d,λc E=>kD f hS depth (u:=p.1) (ns:=p.2) L E λg' O=>J g' ?_⟩;exact Am _ (Au.2 ⟨p,Ai a,O⟩)
      .cases hs
    .cases hs
   .cases hs
 .exact kD f hS depth hs hr J
theorem Jjy{x u:AV}{ns:AG AM}(hs:TS h x=AC (u,ns)):∀g∈ns,∃o,h g=AC o:=by
 unfold TS at hs;split at hs
 .rename_i g ver off;cases f:h g with
  | none=>rw [f] at hs;cases hs
  | some o=>
   rw [f] at hs;unfold Iz at hs;split at hs
   .rename_i v cells G;split at hs
    .split at hs
     .injection hs with hs;simp only [Aa] at hs;obtain ⟨-,rfl⟩:=hs;intro B a;rw [List.mem_singleton] at a;exact ⟨o,by rw [a];exact f⟩
     .unfold vJ at hs;split at hs
      .rename_i ps m;injection hs with hs;simp only [Aa] at hs;obtain ⟨-,rfl⟩:=hs;intro B a;rcases Ah.1 a with rfl|a
       .exact ⟨o,f⟩
       .obtain ⟨p,w,r⟩:=Au.1 a;obtain ⟨i,hi⟩:=Bd w;obtain ⟨J,E⟩:=TW m;have y:i<cells.length:=by have:=(Ac.1 hi).1;omega
        obtain ⟨H,d,l⟩:=E i cells[i] (Ae y);rw [hi] at d;cases d;obtain ⟨_,A,_⟩:=kF depth (u:=p.1) (ns:=p.2) l B r;exact ⟨_,A⟩
      .cases hs
    .cases hs
   .cases hs
 .intro g F;obtain ⟨_,A,_⟩:=kF depth hs g F;exact ⟨_,A⟩
theorem Jpn(f:BJ w S h μ){S':AM->Prop}(hS:∀b,S b->S' b):∀ {l vs:AG AV} {ns:AG AM},YM h l=AC (vs,ns)->(Met S' h μ ns) ->
  vs.length=l.length/\(∀g∈ns,∃o,h g=AC o)/\∀(i:AM) (y:AV),vs[i]?=AC y->∃x,l[i]?=AC x/\∀c,AX w S h μ x c->AY w S' y c
 | [],vs,ns,hs,_=>by cases hs;exact ⟨rfl,λg d=>(by cases d),λi y hi=>(by simp at hi)⟩
 | x::l,vs,ns,hs,m=>by
  simp only [YM] at hs;unfold YQ at hs;split at hs
  .rename_i u E us B r A;injection hs with hs;simp only [Aa] at hs;obtain ⟨rfl,rfl⟩:=hs;obtain ⟨a,b,c⟩:=Jpn f hS A λg d=>m g (Ax _ d);refine ⟨by simp [a],λg d=>?_,λi y hi=>?_⟩
   .rcases Ag.1 d with d|d
    .exact Jjy r g d
    .exact b g d
   .cases i with
    | zero=>
     simp at hi;subst hi;exact ⟨x,rfl,λc v=>Jj0 f hS r v λg d=>m g (Ar _ d)⟩
    | succ i=>simpa using c i y (by simpa using hi)
  .cases hs
theorem J4k(l:BJ w S h μ){S':AM->Prop}(hS:∀b,S b->S' b){x u:AV}{ns:AG AM}{c:Value}(hs:Hr h x=AC (u,ns))(hr:AX w S h μ x c)(m:Met S' h μ ns):AY w S' u c:=by
 unfold Hr at hs;split at hs
 .rename_i f caps;unfold vW at hs;split at hs
  .rename_i us ms v;injection hs with hs;simp only [Aa] at hs;obtain ⟨rfl,rfl⟩:=hs;obtain ⟨a,b,d⟩:=Jpn l hS v m;obtain ⟨cs,rfl,hl,A⟩:=hr.EZ;refine .fn f us cs (by omega) λi y hi=>?_;obtain ⟨z,r,g⟩:=d i y hi;exact g _ (A i z r)
  .cases hs
 .exact Jj0 l hS hs hr m
theorem Jqe:∀ {l us:AG AV} {ns:AG AM},YM h l=AC (us,ns)->∀g∈ns,∃o,h g=AC o
 | [],us,ns,hs=>by cases hs;exact λg a=>(by cases a)
 | x::l,us,ns,hs=>by
  simp only [YM] at hs;unfold YQ at hs;split at hs
  .rename_i u r us m f d;injection hs with hs;simp only [Aa] at hs;obtain ⟨rfl,rfl⟩:=hs;intro g a;rcases Ag.1 a with a|a
   .exact Jjy f g a
   .exact Jqe d g a
  .cases hs
theorem J4t{x u:AV}{ns:AG AM}(hs:Hr h x=AC (u,ns)):∀g∈ns,∃o,h g=AC o:=by
 unfold Hr at hs;split at hs
 .unfold vW at hs;split at hs
  .rename_i us ms a;injection hs with hs;simp only [Aa] at hs;obtain ⟨-,rfl⟩:=hs;exact Jqe a
  .cases hs
 .exact Jjy hs
theorem Jpg(f:BJ w S h μ){S':AM->Prop}(hS:∀b,S b->S' b):∀ {l vs:AG AV} {ns:AG AM},Si h l=AC (vs,ns)->(Met S' h μ ns) ->
  vs.length=l.length/\(∀g∈ns,∃o,h g=AC o)/\∀(i:AM) (y:AV),vs[i]?=AC y->∃x,l[i]?=AC x/\∀c,AX w S h μ x c->AY w S' y c
 | [],vs,ns,hs,_=>by cases hs;exact ⟨rfl,λg d=>(by cases d),λi y hi=>(by simp at hi)⟩
 | x::l,vs,ns,hs,m=>by
  simp only [Si] at hs;unfold YQ at hs;split at hs
  .rename_i u E us B r A;injection hs with hs;simp only [Aa] at hs;obtain ⟨rfl,rfl⟩:=hs;obtain ⟨a,b,c⟩:=Jpg f hS A λg d=>m g (Ax _ d);refine ⟨by simp [a],λg d=>?_,λi y hi=>?_⟩
   .rcases Ag.1 d with d|d
    .exact J4t r g d
    .exact b g d
   .cases i with
    | zero=>
     simp at hi;subst hi;exact ⟨x,rfl,λc v=>J4k f hS r v λg d=>m g (Ar _ d)⟩
    | succ i=>simpa using c i y (by simpa using hi)
  .cases hs
theorem iE{call:Call}(J:JJ P call)(B:BJ w S h μ){f:FuncId}{l:AG AV}{v:AV}{h':Heap}(d:Mg call f h (Si h l)=AC (v,h')){cargs:Array Value}
  (K:cargs.size=l.length) (hl:∀i x,l[i]?=AC x->AX w S h μ x (cargs.getD i undef)) :
  C9 P f/\Calls P f cargs w λe w'=>∃cv,e=.returned cv/\Ran w S h μ v h' cv w':=by
 unfold Mg at d;split at d
 .rename_i vs ns L;unfold OV at d;split at d
  .rename_i u O m;split at d
   .rename_i F;injection d with d;simp only [Aa] at d;obtain ⟨rfl,rfl⟩:=d;obtain ⟨a,b,c⟩:=Jpg B (S':=λb=>S b\/KQ h μ ns b) (λb N=>.inl N) L (λg H o A hl=>.inr ⟨g,H,o,A,hl,rfl⟩);refine ⟨J.fn _ _ _ _ m,(J.pure f vs u O m w (λb=>S b\/KQ h μ ns b) cargs (λQ r=>?_) (by omega) (λi y hi=>?_)).mono λe w' ⟨cv,M,hr,A⟩=>⟨cv,M,ZL B A (hr.GV F)⟩⟩
    .rcases r with r|⟨g,H,o,A,G,rfl⟩
     .exact B.lt Q r
     .exact (B.ob g o A).lt G
    .obtain ⟨x,hx,E⟩:=c i y hi;exact E _ (hl i x hx)
   .cases d
  .cases d
 .cases d
end
section
variable {ro:AH AM} {P:Program} {w:World} {S:AM->Prop} {σ:St} {μ:Gh} {a:Act} {nt:AM}
theorem Yd{α β:Type}{x:AH α}{f:α->β}{r:β}(h:x.map f=AC r):∃y,x=AC y/\r=f y:=by
 cases x with
 | none=>cases h
 | some y=>injection h with h;exact ⟨y,rfl,h.symm⟩
theorem hOut{x:AH AV}{a:Heap}{r:AV×Heap}(h:(match x with|some v=>AC (v,a)|none=>AD)=AC r):x=AC r.1/\a=r.2:=by
 cases x with
 | none=>cases h
 | some y=>injection h with h;subst h;exact ⟨rfl,rfl⟩
theorem Jz1{h:Heap}:∀ {k:AM} {v:AV} {f:FuncId} {caps:AG AV} {ns:AG AM},snap h k v=AC (.fn f caps,ns)->∃l,v=.fn f l
 | 0,_,_,_,_,hs=>by simp [snap] at hs
 | k+1,v,f,caps,ns,hs=>by
  unfold snap at hs;split at hs
  .cases hs
  .cases hs
  .cases hs
  .cases hs
  .split at hs
   .split at hs
    .simp only at hs;split at hs
     .cases hs
     .split at hs<;>cases hs
    .cases hs
   .cases hs
  .split at hs
   .injection hs with hs;simp only [Aa] at hs;obtain ⟨e,_⟩:=hs;injection e with a _;subst a;exact ⟨_,rfl⟩
   .cases hs
  .split at hs
   .cases hs
   .split at hs<;>cases hs
  .split at hs<;>cases hs
  .rename_i x1 x2 x3 x4 x5 g d;injection hs with hs;simp only [Aa] at hs;exact ⟨caps,hs.1⟩
theorem J0r{t e:TypeId}(v:P.underlying t=AC (.slice e)){x:AV}{cx cy:Value}{X Y:Operand}{b ne:AN}(hr:AX w S σ.h μ x cx)(E:AX w S σ.h μ .BK cy)(f:ZF σ.h x=AC b) :
  (eqGuard (if ne then .neq else .eql) t X Y cx cy).run P w=.ok () w/\(binOp (if ne then .neq else .eql) t cx cy).run P w=.ok (.bool (if ne then !b else b)) w:=by
 have m:cy=.slice AD 0 0:=by
  cases E with
  | pure g=>cases g;rfl
 subst m;have key:(b=AE/\cx=.slice AD 0 0)\/(b=AF/\∃a n c,cx=.slice (AC a) n c):=by
  unfold ZF at f;split at f
  .injection f with f;subst f;cases hr with
   | pure g=>cases g;exact .inl ⟨rfl,rfl⟩
  .cases f
  .rename_i h;injection f with f;subst f;cases hr with
   | pure g=>
    cases g with
    | FQ=>exact (h rfl rfl).elim
    | CF n l a cap cv=>exact .inr ⟨rfl,a,_,cap,rfl⟩
  .split at f
   .rename_i B;injection f with f;subst f;obtain ⟨esz,el,cells,fz,A⟩:=Jmg B.1;obtain ⟨a,cap,cs,el',z,r,_⟩:=hr.EF A (λe=>B.2 ((hr.DF A).1 e).2.1);exact .inr ⟨rfl,a,_,cap,r⟩
   .cases f
  .cases f
 have y:(Op.equal t cx (.slice AD 0 0)).run P w=.ok b w:=by
  have hd:∀d,(Op.equalIn (d+1) t cx (.slice AD 0 0)).run P w=.ok b w:=λd=>by
   rcases key with ⟨rfl,rfl⟩|⟨rfl,a,n,c,rfl⟩
   .simp [Op.equalIn,run_underlying v]
   .simp [Op.equalIn,run_underlying v]
  exact hd 9999
 have F:∃q n c,cx=.slice q n c:=by
  rcases key with ⟨rfl,rfl⟩|⟨rfl,a,n,c,rfl⟩
  .exact ⟨_,_,_,rfl⟩
  .exact ⟨_,_,_,rfl⟩
 obtain ⟨q,n,c,rfl⟩:=F;cases ne with
 | true=>exact ⟨by simp [eqGuard],by simp only [if_true,binOp,Sem.run_bind,y];rfl⟩
 | false=>exact ⟨by simp [eqGuard],by simp only [Aq,if_false,binOp,Sem.run_bind,y];rfl⟩
theorem Jwv(f:BJ w S σ.h μ){e:TypeId}{z:AG AV}(a:zc P e=AC z)(esz g:AM) :
  ∃cv w',(Instr.alloc e AE (.tuple #[])).run P w=.ok cv w'/\Ran w S σ.h μ (.ptr g (Kh σ.h g) 0) (upd σ.h g (AC (.arr (Kh σ.h g) esz e z AF))) cv w':=by
 obtain ⟨i,v,hi,d,hl,A,hs⟩:=jD a;have l:=nW (w:=w) (S:=S) (h:=σ.h) (μ:=μ) hl;obtain ⟨y,r,m⟩:=cO (el:=e) (g:=g) (o:=.arr (Kh σ.h g) esz e z AF) (cs:=v.cells) f (.inl rfl) (by simpa using l) (.inr ⟨_,_,rfl,by omega⟩);exact ⟨.pointer (AC ⟨w.heap.size,0,AD⟩),w.alloc (.cells v.cells e),by simp [Instr.alloc,zeroValue,typeInfo,hi,d,newVar,newRow],S,_,
  .ptr _ _ _ _ _ (Jg _ _ _) (Aj _) rfl (λ_=>by simp [Gh.set,Jg]),y,r,m⟩
theorem J4n(E:BJ w S σ.h μ){t el:TypeId}{n sz:AM}(A:P.underlying t=AC (.array n el))(y:FJ P el=AC sz)(hM:n<=9223372036854775807){x v:AV}{cx:Value}(hr:AX w S σ.h μ x cx)
  (d:bB σ.h n sz x=AC v):∃cv,(Instr.sliceAt t cx AD AD AD).run P w=.ok cv w/\AX w S σ.h μ v cv:=by
 unfold bB at d;split at d
 .rename_i g ver;unfold L6 at d;split at d
  .rename_i ver' esz' el' cells fz l;split at d
   .rename_i F;obtain ⟨rfl,rfl,r,f⟩:=F;injection d with d;subst d;have m:=hr.Ej (by simp [cur,l,AU.ver]);subst m;obtain ⟨cs,G,B,H,_⟩:=E.ob g _ l f;have h:∀a:Addr,(if n=0 then a else a.add 0)=a:=λa=>by split<;>simp [Addr.add]
    refine ⟨.slice (AC ⟨μ.b g,μ.o g,AD⟩) n n,?_,?_⟩
    .simp [Instr.sliceAt,run_underlying A,K5 y,Instr.sureAddr,Instr.sliceBounds,h]
    .exact .arr g ver 0 n _ _ l (Aj _) rfl λ_=>⟨sz,el',cells,fz,rfl,λq=>(f q).elim,λ_=>⟨_,n,cs,el',(0,0),rfl,⟨Aj _,hM⟩,G,by simp only [Db];omega,λ_=>by simp⟩⟩
   .cases d
  .cases d
 .cases d
theorem pY{call:Call}{cm:AG (AM×CM)}{o:Oper}{lop:CO}{base g0:AM}{v:AV}{h':Heap}{next:Act->World->Prop}{Q:Exit->Act->World->Prop}(N:JJ P call)(hs:DN nt w S σ μ a)
  (A:JK P cm o.dst o.op=AC lop) (B:Ja call base σ g0 lop=AC (v,h')) (K:∀cv w',Ran w S σ.h μ v h' cv w'->next (a.put o.dst cv) w'):Ie ro P o a w next Q:=by
 have V:∀ {s:Sem Value} {cv:Value} {w':World},execOp a.eval o=(do pure (.value (<-s)))->s.run P w=.ok cv w'->Ran w S σ.h μ v h' cv w'->Ie ro P o a w next Q:=λ{s cv w'} F J h3=>BU (by rw [F];simp [J]) (K _ _ h3)
 have V0:∀ {s:Sem Value} {cv:Value},execOp a.eval o=(do pure (.value (<-s)))->s.run P w=.ok cv w->AX w S σ.h μ v cv->σ.h=h'->Ie ro P o a w next Q:=λ{s cv} F J h3 h4=>V F J (by subst h4;exact Ran.same hs.hp h3)
 cases E:o.op<;>rw [E] at A<;>simp only [JK] at A<;>try (cases A;done)
 case move x=>
  obtain ⟨y,hy,rfl⟩:=Yd A;simp only [Ja] at B;injection B with B;simp only [Aa] at B;obtain ⟨rfl,rfl⟩:=B;exact BU (cv:=a.eval x) (w':=w) (by simp [execOp,E]) (K _ _ (Ran.same hs.hp (Jr hs hy)))
 case assign x=>
  obtain ⟨y,hy,rfl⟩:=Yd A;simp only [Ja] at B;injection B with B;simp only [Aa] at B;obtain ⟨rfl,rfl⟩:=B;exact BU (cv:=a.eval x) (w':=w) (by simp [execOp,E]) (K _ _ (Ran.same hs.hp (Jr hs hy)))
 case pick c x y=>
  split at A
  .rename_i c' x' y' F J h3;injection A with A;subst A;simp only [Ja] at B;split at B
   .rename_i t ht;injection B with B;simp only [Aa] at B;obtain ⟨rfl,rfl⟩:=B;have hb:=Jr hs F;rw [ht] at hb;refine BU (cv:=if t then a.eval x else a.eval y) (w':=w) (by simp [execOp,E,hb.Ca,asBool]) (K _ _ (Ran.same hs.hp ?_));cases t with
    | true=>exact Jr hs J
    | false=>exact Jr hs h3
   .cases B
  .cases A
 case alloc e=>
  split at A
  .split at A
   .rename_i len el M;split at A
    .rename_i n z hn hz;injection A with A;subst A;simp only [Ja] at B;injection B with B;simp only [Aa] at B;obtain ⟨rfl,rfl⟩:=B;obtain ⟨cv,w',F,J⟩:=Jwv hs.hp hz n g0;exact V (by simp only [execOp,E]<;>rfl) F J
    .cases A
   .cases A
  .obtain ⟨z,hz,rfl⟩:=Yd A;simp only [Ja] at B;injection B with B;simp only [Aa] at B;obtain ⟨rfl,rfl⟩:=B;obtain ⟨cv,w',F,J⟩:=Jpm hs.hp hz g0;exact V (by simp only [execOp,E]<;>rfl) F J
 case box e x=>
  obtain ⟨y,hy,rfl⟩:=Yd A;simp only [Ja] at B;split at B
  .rename_i c hcc;injection B with B;simp only [Aa] at B;obtain ⟨rfl,rfl⟩:=B;obtain ⟨cv,w',F,J⟩:=Jw4 (P:=P) (e:=e) hs.hp (Jr hs hy) hcc g0;exact V (by simp only [execOp,E]<;>rfl) F J
  .cases B
 case build t ps=>
  split at A
  .rename_i z fs hz M;split at A
   .rename_i pl hpl;obtain ⟨l,hl,rfl⟩:=Yd A;simp only [Ja] at B;split at B
    .rename_i r hr;injection B with B;simp only [Aa] at B;obtain ⟨rfl,rfl⟩:=B;obtain ⟨cv,F,J⟩:=Jrc (cp:=ps.map λ(i,x)=>(i,a.eval x)) hz (.inl ⟨fs,pl,M,hpl,by simpa using yg hs hl⟩) hr;exact V0 (by simp only [execOp,E]<;>rfl) F J rfl
    .cases B
   .cases A
  .rename_i z n e hz M;split at A
   .rename_i i hi;obtain ⟨l,hl,rfl⟩:=Yd A;simp only [Ja] at B;split at B
    .rename_i r hr;injection B with B;simp only [Aa] at B;obtain ⟨rfl,rfl⟩:=B;obtain ⟨cv,F,J⟩:=Jrc (cp:=ps.map λ(i,x)=>(i,a.eval x)) hz (.inr ⟨n,e,i,M,hi,by simpa using yg hs hl⟩) hr;exact V0 (by simp only [execOp,E]<;>rfl) F J rfl
    .cases B
   .cases A
  .cases A
 case buildSlice t n ps=>
  split at A
  .rename_i e M;split at A
   .rename_i i z hi hz;split at A
    .rename_i hb;obtain ⟨b1,b3⟩:=hb;obtain ⟨l,hl,rfl⟩:=Yd A;simp only [Ja] at B;split at B
     .rename_i r hr;injection B with B;simp only [Aa] at B;obtain ⟨rfl,rfl⟩:=B;obtain ⟨cv,w',F,J⟩:=Jyu (cp:=ps.map λ(i,x)=>(i,a.eval x)) hs.hp M hi hz b1 b3 (by simpa using yg hs hl) hr g0;exact V (by simp only [execOp,E]<;>rfl) F J
     .cases B
    .cases A
   .cases A
  .cases A
 case load t x=>
  split at A
  .rename_i ag n y F J h3;split at A
   .rename_i hn;injection A with A;subst A;simp only [Ja] at B;obtain ⟨O,e2⟩:=hOut B;obtain ⟨cv,H,L⟩:=uJ (P:=P) hs.hp F J hn (Jr hs h3) O;exact V0 (by simp only [execOp,E]<;>rfl) H L e2
   .cases A
  .cases A
 case makeMap t r=>
  cases r with
  | some x=>simp at A
  | none=>
   simp only at A;split at A
   .rename_i kt et M;injection A with A;subst A;simp only [Ja] at B;injection B with B;simp only [Aa] at B;obtain ⟨rfl,rfl⟩:=B;obtain ⟨cv,w',H,L⟩:=J90 (P:=P) hs.hp M g0;exact BU (cv:=cv) (w':=w') (by simp [execOp,E,H]) (K _ _ L)
   .cases A
 case lookup t x k ok=>
  split at A
  .rename_i kt et M;split at A
   .rename_i sh ag z F J h3;split at A
    .rename_i x' k' h4 h5;injection A with A;subst A;simp only [Ja] at B;obtain ⟨O,e2⟩:=hOut B;obtain ⟨cv,H,L⟩:=Jsz (P:=P) hs.hp M F J h3 (Jr hs h4) (Jr hs h5) O;exact V0 (cv:=cv) (by simp only [execOp,E]<;>rfl) H L e2
    .cases A
   .cases A
  .cases A
 case mapUpdate t x k v'=>
  split at A
  .rename_i kt et M;split at A
   .rename_i sh ag F J;split at A
    .rename_i x' k' v'' h4 h5 h6;injection A with A;subst A;simp only [Ja] at B;split at B
     .rename_i hh hst;injection B with B;simp only [Aa] at B;obtain ⟨rfl,rfl⟩:=B;obtain ⟨w',H,S',μ',-,L⟩:=Jmp (P:=P) hs.hp M F J (Jr hs h4) (Jr hs h5) (Jr hs h6) hst;exact wp_skip (by simp [execOp,E,H]) (K _ _ ⟨S',μ',.any _,L⟩)
     .cases B
    .cases A
   .cases A
  .cases A
 case insert t x k v'=>
  split at A
  .rename_i kt et M;split at A
   .rename_i sh ag F J;split at A
    .rename_i x' k' v'' h4 h5 h6;injection A with A;subst A;simp only [Ja] at B;split at B
     .rename_i hh hst;injection B with B;simp only [Aa] at B;obtain ⟨rfl,rfl⟩:=B;obtain ⟨w',H,S',μ',-,L⟩:=Jmp (P:=P) hs.hp M F J (Jr hs h4) (Jr hs h5) (Jr hs h6) hst;exact wp_skip (by simp [execOp,E,H]) (K _ _ ⟨S',μ',.any _,L⟩)
     .cases B
    .cases A
   .cases A
  .cases A
 case store t x y=>
  split at A
  .rename_i n x' y' F J h3;injection A with A;subst A;simp only [Ja] at B;split at B
   .rename_i hh hst;injection B with B;simp only [Aa] at B;obtain ⟨rfl,rfl⟩:=B;obtain ⟨w',H,L⟩:=Jqn (P:=P) hs.hp F (Jr hs J) (Jr hs h3) hst;exact wp_skip (by simp [execOp,E,H]) (K _ _ L)
   .cases B
  .cases A
 case nilCheck x=>
  obtain ⟨y,hy,rfl⟩:=Yd A;have hr:=Jr hs hy;simp only [Ja] at B;split at B
  .rename_i g ver off hx;split at B
   .rename_i hcur;injection B with B;simp only [Aa] at B;obtain ⟨rfl,rfl⟩:=B;rw [hx] at hr;have e:=hr.Ej hcur;exact BU (cv:=a.eval x) (w':=w) (by simp [execOp,E,e]) (K _ _ (Ran.same hs.hp hr))
   .cases B
  .rename_i l hx;injection B with B;simp only [Aa] at B;obtain ⟨rfl,rfl⟩:=B;rw [hx] at hr;have:∃ad,a.eval x=.pointer (AC ad):=by generalize a.eval x=c at hr;cases hr with|pure hp=>cases hp;exact ⟨_,rfl⟩
   obtain ⟨ad,e⟩:=this;exact BU (cv:=a.eval x) (w':=w) (by simp [execOp,E,e]) (K _ _ (Ran.same hs.hp hr))
  .rename_i f caps hx;injection B with B;simp only [Aa] at B;obtain ⟨rfl,rfl⟩:=B;rw [hx] at hr;obtain ⟨cs,e,_⟩:=hr.EZ;exact BU (cv:=a.eval x) (w':=w) (by simp [execOp,E,e]) (K _ _ (Ran.same hs.hp hr))
  .rename_i f l hx;injection B with B;simp only [Aa] at B;obtain ⟨rfl,rfl⟩:=B;rw [hx] at hr;obtain ⟨cs,e,_⟩:=hr.MO;exact BU (cv:=a.eval x) (w':=w) (by simp [execOp,E,e]) (K _ _ (Ran.same hs.hp hr))
  .cases B
 case binOp op t x y yt=>
  split at A
  .rename_i k x' y' M F J;have fin:lop=.KI op x' y'->Ie ro P o a w next Q:=by
    rintro rfl;simp only [Ja] at B;split at B
    .rename_i k1 n1 k2 n2 hx hy;split at B
     .rename_i hk;subst hk;obtain ⟨O,e2⟩:=hOut B;obtain ⟨cv,H,L⟩:=Jm6 (w:=w) (S:=S) (h:=σ.h) (μ:=μ) (P:=P) (t:=t) O;have hx':=Jr hs F;have Z:=Jr hs J;rw [hx] at hx';rw [hy] at Z;refine V0 (cv:=cv) (by simp only [execOp,E]<;>rfl) ?_ L e2;rw [hx'.BI,Z.BI];simp [Jqd,H]
     .cases B
    .cases B
   have finS:∀b,op=b->(∃q,P.underlying yt=AC (.int q))->lop=.dY b x' y'->Ie ro P o a w next Q:=by
    rintro b rfl hyt rfl;simp only [Ja] at B;split at B
    .rename_i k1 n1 k2 n2 hx hy;obtain ⟨O,e2⟩:=hOut B;have hx':=Jr hs F;have Z:=Jr hs J;rw [hx] at hx';rw [hy] at Z;obtain ⟨cv,H,L⟩:∃cv,(binOp op t (.int k1 n1) (.int k2 n2)).run P w=.ok cv w/\AX w S σ.h μ v cv:=by
      unfold UG at O;split at O
      .cases O
      .rename_i hb;split at O
       .injection O with O;have e1':v=.int k1 (k1.wrap (n1 * 2 ^ min n2.toNat k1.bits)):=O.symm;exact ⟨.int k1 (k1.wrap (n1 * 2 ^ min n2.toNat k1.bits)),by simp [binOp_shl,Op.shift,hb],by rw [e1'];exact .pure (.int _ _)⟩
       .injection O with O;have e1':v=.int k1 (n1.fdiv (2 ^ min n2.toNat k1.bits)):=O.symm;exact ⟨.int k1 (n1.fdiv (2 ^ min n2.toNat k1.bits)),by simp [binOp_shr,Op.shift,hb],by rw [e1'];exact .pure (.int _ _)⟩
       .cases O
     refine V0 (cv:=cv) (by simp only [execOp,E]<;>rfl) ?_ L e2;rw [hx'.BI,Z.BI];simp [Jqd,H]
    .cases B
   split at A
   .split at A
    .rename_i q hq;injection A with A;exact finS .shl rfl ⟨q,hq⟩ A.symm
    .cases A
   .split at A
    .rename_i q hq;injection A with A;exact finS .shr rfl ⟨q,hq⟩ A.symm
    .cases A
   .injection A with A;exact fin A.symm
  .rename_i e x' M F J;have fin:∀ne,op=(if ne then .neq else .eql)->lop=.Ep ne x'->Ie ro P o a w next Q:=by
    rintro ne rfl rfl;simp only [Ja] at B;split at B
    .rename_i b hb;injection B with B;simp only [Aa] at B;obtain ⟨rfl,rfl⟩:=B;obtain ⟨H,L⟩:=J0r (X:=x) (Y:=y) (ne:=ne) M (Jr hs F) (by simpa [St.ev] using Jr hs J) hb;refine V0 (cv:=.bool (if ne then !b else b)) (by simp only [execOp,E]<;>rfl) ?_ (.pure (.bool _)) rfl;simp [H,L]
    .cases B
   split at A
   .injection A with A;exact fin AF rfl A.symm
   .injection A with A;exact fin AE rfl A.symm
   .cases A
  .rename_i d x' y' hni hns M F J;have hnk:∀k,P.underlying t≠AC (.int k):=λk e=>by rw [M] at e;injection e with e;exact hni k e
   have fin:∀ne ag sh,qU P t=AC (ag,sh)->op=(if ne then .neq else .eql)->lop=.eqv ne ag sh x' y'->Ie ro P o a w next Q:=by
    rintro ne ag sh ht rfl rfl;simp only [Ja] at B;split at B
    .rename_i b hb;injection B with B;simp only [Aa] at B;obtain ⟨rfl,rfl⟩:=B;obtain ⟨H,L⟩:=Kbx (X:=x) (Y:=y) (ne:=ne) ht hnk (Jr hs F) (Jr hs J) hb;refine V0 (cv:=.bool (if ne then !b else b)) (by simp only [execOp,E]<;>rfl) ?_ (.pure (.bool _)) rfl;simp [H,L]
    .cases B
   split at A
   .split at A
    .rename_i ag sh ht;injection A with A;exact fin AF ag sh ht rfl A.symm
    .cases A
   .split at A
    .rename_i ag sh ht;injection A with A;exact fin AE ag sh ht rfl A.symm
    .cases A
   .cases A
  .cases A
 case unOp op t x=>
  obtain ⟨y,hy,rfl⟩:=Yd A;have hr:=Jr hs hy;simp only [Ja] at B;split at B
  .rename_i b hx;injection B with B;simp only [Aa] at B;obtain ⟨rfl,rfl⟩:=B;rw [hx] at hr;refine V0 (cv:=.bool !b) (by simp only [execOp,E]<;>rfl) ?_ (.pure (.bool _)) rfl;rw [hr.Ca];rfl
  .rename_i k n hx;injection B with B;simp only [Aa] at B;obtain ⟨rfl,rfl⟩:=B;rw [hx] at hr;refine V0 (cv:=.int k (k.wrap (0 - n))) (by simp only [execOp,E]<;>rfl) ?_ (.pure (.int _ _)) rfl;rw [hr.BI];rfl
  .cases B
 case convert s d x=>
  split at A
  .rename_i k1 k2 y F J h3;injection A with A;subst A;simp only [Ja] at B;split at B
   .rename_i k n hx;injection B with B;simp only [Aa] at B;obtain ⟨rfl,rfl⟩:=B;have hr:=Jr hs h3;rw [hx] at hr;refine V0 (by simp only [execOp,E]<;>rfl) ?_ (.pure (.int _ _)) rfl;rw [hr.BI];exact J5h ⟨_,F⟩ J
   .cases B
  .cases A
 case makeFunc fn first caps=>
  cases fn with
  | func f=>
   simp only at A;split at A
   .rename_i h0;obtain ⟨l,hl,rfl⟩:=Yd A;simp only [Ja] at B;injection B with B;simp only [Aa] at B;obtain ⟨rfl,rfl⟩:=B;obtain ⟨H,L⟩:=jQ hs hl;have hf:first=#[]:=Bq h0
    subst hf;refine V0 (cv:=.func (.func f) #[] (caps.map a.eval)) (by simp only [execOp,E]<;>rfl) (by simp [Instr.makeFunc]) (.fn f _ _ H.symm L) rfl
   .split at A
    .rename_i h0;split at A
     .rename_i x hl;injection A with A;subst A;simp only [Ja] at B;split at B
      .rename_i l hx;split at B
       .rename_i hfl;injection B with B;simp only [Aa] at B;obtain ⟨rfl,rfl⟩:=B;obtain ⟨H,L⟩:=jQ hs hl;have hr:=L 0 _ rfl;rw [hx] at hr;obtain ⟨cs,ec,hl',hcs⟩:=hr.CB;have hcp:caps=#[]:=Bq h0;subst hcp;have hf1:first.map a.eval=#[.agg cs]:=by
         have hz:(first.map a.eval).size=1:=by rw [H];rfl
         apply Array.ext
         .rw [hz];rfl
         .intro i F J;have hi:i=0:=by omega
          subst hi;rw [Ao,Array.getElem?_eq_getElem F] at ec;exact ec
        refine V0 (cv:=.func (.func f) #[.agg cs] #[]) (by simp only [execOp,E]<;>rfl) (by rw [hf1];simp [Instr.makeFunc]) (.pure (.Ld f l cs hl' (λi y hi=>(hcs i y hi).2) λi y hi=>?_)) rfl;exact (hcs i y hi).1.flat (Af.1 hfl y (Ai hi))
       .cases B
      .cases B
     .cases A
    .cases A
  | _=>cases A
 case makeSlice t l c=>
  split at A
  .rename_i e M;split at A
   .rename_i i z l' c' hi hz F J;split at A
    .rename_i hi0;injection A with A;subst A;simp only [Ja] at B;split at B
     .rename_i k n k' m hx hy;split at B
      .rename_i hb;obtain ⟨b1,b2,b5,b3,b4⟩:=hb;injection B with B;simp only [Aa] at B;obtain ⟨rfl,rfl⟩:=B;have hx':=Jr hs F;have Z:=Jr hs J;rw [hx] at hx';rw [hy] at Z;obtain ⟨cv,w',H,L⟩:=J8m (k:=k) (k':=k') hs.hp M hi hz hi0 b1 b2 b5 b3 b4 g0;refine V (by simp only [execOp,E]<;>rfl) ?_ L;rw [hx'.BI,Z.BI];exact H
      .cases B
     .cases B
    .cases A
   .cases A
  .cases A
 case slice t x lo hi mx=>
  cases mx with
  | some _=>cases A
  | none=>
   simp only at A;split at A
   .rename_i e M;split at A
    .rename_i n x' hn F;have fin:∀lo' hi',lop=.slc n x' lo' hi'->lq w S σ.h μ (lo'.map σ.ev) (lo.map a.eval)->lq w S σ.h μ (hi'.map σ.ev) (hi.map a.eval)->Ie ro P o a w next Q:=by rintro lo' hi' rfl H L;simp only [Ja] at B;obtain ⟨O,e2⟩:=hOut B;obtain ⟨cv,s1,s2⟩:=Jzz (P:=P) M hn (Jr hs F) H L O;exact V0 (by simp only [execOp,E]<;>rfl) s1 s2 e2
     split at A
     .injection A with A;exact fin AD AD A.symm trivial trivial
     .split at A
      .rename_i p q hp;injection A with A;exact fin (AC q) AD A.symm (Jr hs hp) trivial
      .cases A
     .split at A
      .rename_i p q hp;injection A with A;exact fin AD (AC q) A.symm trivial (Jr hs hp)
      .cases A
     .split at A
      .rename_i p q p' q' hp hq;injection A with A;exact fin (AC p') (AC q') A.symm (Jr hs hp) (Jr hs hq)
      .cases A
    .cases A
   .rename_i n el M;split at A
    .split at A
     .rename_i sz x' hz F;split at A
      .rename_i hM;injection A with A;subst A;simp only [Ja] at B;obtain ⟨O,e2⟩:=hOut B;obtain ⟨cv,s1,s2⟩:=J4n (P:=P) hs.hp M hz (Nat.le_of_ble_eq_true hM) (Jr hs F) O;exact V0 (by simp only [execOp,E]<;>rfl) s1 s2 e2
      .cases A
     .cases A
    .cases A
   .cases A
 case fieldAddr s x f=>
  split at A
  .rename_i fs M;split at A
   .rename_i fd x' hf F;split at A
    .rename_i n hn;split at A
     .rename_i hn0;injection A with A;subst A;simp only [Ja] at B;obtain ⟨O,e2⟩:=hOut B;obtain ⟨cv,H,L⟩:=J01 (P:=P) M hf hn hn0 (Jr hs F) O;exact V0 (by simp only [execOp,E]<;>rfl) H L e2
     .cases A
    .cases A
   .cases A
  .cases A
 case field s x f=>
  split at A
  .rename_i fs M;split at A
   .rename_i fd x' hf F;split at A
    .rename_i ag n hag hn;split at A
     .rename_i hn0;injection A with A;subst A;simp only [Ja] at B;split at B
      .rename_i l hx;obtain ⟨O,e2⟩:=hOut B;have hr:=Jr hs F;rw [hx] at hr;obtain ⟨cv,H,L⟩:=J63 (P:=P) M hf hag hn hn0 hr O;exact V0 (by simp only [execOp,E]<;>rfl) H L e2
      .cases B
     .cases A
    .cases A
   .cases A
  .cases A
 case indexAddr t x i=>
  split at A
  .rename_i e x' i' M F J;split at A
   .rename_i n hn;injection A with A;subst A;simp only [Ja] at B;obtain ⟨O,e2⟩:=hOut B;obtain ⟨cv,H,L⟩:=J0t (P:=P) M hn (Jr hs F) (Jr hs J) O;exact V0 (by simp only [execOp,E]<;>rfl) H L e2
   .cases A
  .rename_i len e x' i' M F J;split at A
   .rename_i n hn;injection A with A;subst A;simp only [Ja] at B;obtain ⟨O,e2⟩:=hOut B;obtain ⟨cv,H,L⟩:=Jye (P:=P) M hn (Jr hs F) (Jr hs J) O;exact V0 (by simp only [execOp,E]<;>rfl) H L e2
   .cases A
  .cases A
 case index t x i=>
  split at A
  .rename_i len e x' i' M F J;split at A
   .rename_i ag n hag hn;split at A
    .rename_i hn0;injection A with A;subst A;simp only [Ja] at B;obtain ⟨O,e2⟩:=hOut B;obtain ⟨cv,H,L⟩:=J84 (P:=P) M hag hn hn0 (Jr hs F) (Jr hs J) O;exact V0 (by simp only [execOp,E]<;>rfl) H L e2
    .cases A
   .cases A
  .cases A
 case extract x i=>
  obtain ⟨y,hy,rfl⟩:=Yd A;simp only [Ja] at B;split at B
  .rename_i l hx;obtain ⟨O,e2⟩:=hOut B;have hr:=Jr hs hy;rw [hx] at hr;obtain ⟨cv,H,L⟩:=Kbr (P:=P) hr O;exact V0 (by simp only [execOp,E]<;>rfl) H L e2
  .cases B
 case call c=>
  obtain ⟨callee,args,argTypes⟩:=c;simp only at A;split at A
  .-- len
   split at A
   .rename_i x t G htys;have ha:args=#[x]:=by rw [<-Ap];exact G
    have ht:argTypes=#[t]:=by rw [<-Ap];exact htys
    subst ha ht;split at A
    .rename_i e y M F;injection A with A;subst A;simp only [Ja] at B;split at B
     .rename_i n hn;injection B with B;simp only [Aa] at B;obtain ⟨rfl,rfl⟩:=B;have:=J8x (P:=P) (ty:=o.type) M (Jr hs F) hn;exact BU (cv:=.int .i64 n) (w':=w) (by simp [execOp,E,resolve,invoke,builtin,this]) (K _ _ (Ran.same hs.hp (.pure (.int _ _))))
     .cases B
    .rename_i k e y M F;injection A with A;subst A;simp only [Ja] at B;split at B
     .rename_i n hn;injection B with B;simp only [Aa] at B;obtain ⟨rfl,rfl⟩:=B;have:=J4y (P:=P) (ty:=o.type) M hs.hp (Jr hs F) hn;exact BU (cv:=.int .i64 n) (w':=w) (by simp [execOp,E,resolve,invoke,builtin,this]) (K _ _ (Ran.same hs.hp (.pure (.int _ _))))
     .cases B
    .rename_i y M F;injection A with A;subst A;simp only [Ja] at B;split at B
     .rename_i n hn;injection B with B;simp only [Aa] at B;obtain ⟨rfl,rfl⟩:=B;have:=J6c (P:=P) (ty:=o.type) M (Jr hs F) hn;exact BU (cv:=.int .i64 n) (w':=w) (by simp [execOp,E,resolve,invoke,builtin,this]) (K _ _ (Ran.same hs.hp (.pure (.int _ _))))
     .cases B
    .cases A
   .cases A
  .-- append
   split at A
   .rename_i x y t t' G htys;have ha:args=#[x,y]:=by rw [<-Ap];exact G
    have ht:argTypes=#[t,t']:=by rw [<-Ap];exact htys
    subst ha ht;split at A
    .rename_i htt;subst htt;split at A
     .rename_i e x' y' M F J;split at A
      .rename_i i z hi hz;split at A
       .rename_i hi0;injection A with A;subst A;simp only [Ja] at B;obtain ⟨cv,w',H,L⟩:=xS (P:=P) (ty:=o.type) hs.hp M hi hz hi0 (Jr hs F) (Jr hs J) B;exact BU (cv:=cv) (w':=w') (by simp [execOp,E,resolve,invoke,builtin,H]) (K _ _ L)
       .cases A
      .cases A
     .cases A
    .cases A
   .cases A
  .-- delete
   split at A
   .rename_i x k t r G htys;have ha:args=#[x,k]:=by rw [<-Ap];exact G
    have ht:argTypes[0]?=AC t:=by rw [<-Bw,htys];rfl
    subst ha;split at A
    .rename_i kt et M;split at A
     .rename_i sh ag F J;split at A
      .rename_i x' k' h4 h5;injection A with A;subst A;simp only [Ja] at B;split at B
       .rename_i hh hst;injection B with B;simp only [Aa] at B;obtain ⟨rfl,rfl⟩:=B;obtain ⟨w',H,L⟩:=Jsb (P:=P) (ty:=o.type) hs.hp ht M F J (Jr hs h4) (Jr hs h5) hst;exact BU (cv:=.tuple #[]) (w':=w') (by simp [execOp,E,resolve,invoke,builtin,H]) (K _ _ L)
       .cases B
      .cases A
     .cases A
    .cases A
   .cases A
  .-- copy
   split at A
   .rename_i x y t ts G htys;have ha:args=#[x,y]:=by rw [<-Ap];exact G
    subst ha;have hts:argTypes[0]?=AC t:=by rw [<-Bw,htys];rfl
    split at A
    .rename_i e x' y' M h4 h5;split at A
     .rename_i n hn;injection A with A;subst A;simp only [Ja] at B;obtain ⟨cv,w',H,L⟩:=J5k (P:=P) (ty:=o.type) hs.hp hts M hn (Jr hs h4) (Jr hs h5) B;exact BU (cv:=cv) (w':=w') (by simp [execOp,E,resolve,invoke,builtin,H]) (K _ _ L)
     .cases A
    .cases A
   .cases A
  .-- max
   split at A
   .rename_i x y G;have ha:args=#[x,y]:=by rw [<-Ap];exact G
    subst ha;split at A
    .rename_i x' y' F J;injection A with A;subst A;simp only [Ja] at B;split at B
     .rename_i k1 n1 k2 n2 hx hy;injection B with B;simp only [Aa] at B;obtain ⟨rfl,rfl⟩:=B;have hx':=Jr hs F;have Z:=Jr hs J;rw [hx] at hx';rw [hy] at Z;refine BU (cv:=.int k1 (if n2 > n1 then n2 else n1)) (w':=w) (by simp [execOp,E,resolve,invoke,builtin,hx'.BI,Z.BI,Builtin.max_,Builtin.max2]) (K _ _ (Ran.same hs.hp ?_));simp only [mmV,if_true];exact .pure (.int _ _)
     .cases B
    .cases A
   .cases A
  .-- min
   split at A
   .rename_i x y G;have ha:args=#[x,y]:=by rw [<-Ap];exact G
    subst ha;split at A
    .rename_i x' y' F J;injection A with A;subst A;simp only [Ja] at B;split at B
     .rename_i k1 n1 k2 n2 hx hy;injection B with B;simp only [Aa] at B;obtain ⟨rfl,rfl⟩:=B;have hx':=Jr hs F;have Z:=Jr hs J;rw [hx] at hx';rw [hy] at Z;refine BU (cv:=.int k1 (if n2<n1 then n2 else n1)) (w':=w) (by simp [execOp,E,resolve,invoke,builtin,hx'.BI,Z.BI,Builtin.min_,Builtin.min2]) (K _ _ (Ran.same hs.hp ?_));simp only [mmV,Aq,if_false];exact .pure (.int _ _)
     .cases B
    .cases A
   .cases A
  .-- a call
   rename_i f;split at A
   .rename_i l hl;injection A with A;obtain ⟨H,L⟩:=jQ hs hl;have enter:C9 P f->(execOp a.eval o).run P w=.ok (.enter f (args.map a.eval)) w:=λhf=>by simp [execOp,E,resolve,Act.eval,Deferred.ofValue,invoke,Kx hf]
    split at A
    .subst A;simp only [Ja] at B;split at B
     .rename_i vs ns hsn;split at B
      .rename_i u h0 hv;split at B
       .rename_i R;injection B with B;simp only [Aa] at B;obtain ⟨rfl,rfl⟩:=B;exact DR (enter (N.fn _ _ _ _ hv)) (Jyr N hs.hp hsn hv H L) λe w' ⟨cv,B,hr,_⟩=>⟨cv,B,K _ _ (hr R)⟩
       .cases B
      .cases B
     .cases B
    .subst A;simp only [Ja] at B;split at B
     .rename_i vs ns hsn;split at B
      .rename_i u h0 hv;injection B with B;simp only [Aa] at B;obtain ⟨rfl,rfl⟩:=B;exact DR (enter (N.fn _ _ _ _ hv)) (Jyr N hs.hp hsn hv H L) λe w' ⟨cv,B,_,hr⟩=>⟨cv,B,K _ _ hr⟩
      .cases B
     .cases B
    .subst A;simp only [Ja] at B;obtain ⟨c1,c2⟩:=iE N hs.hp B H L;exact DR (enter c1) c2 λe w' ⟨cv,B,hr⟩=>⟨cv,B,K _ _ hr⟩
    .subst A;simp only [Ja] at B;split at B
     .rename_i vs hsn;obtain ⟨c1,c2⟩:=R7 N hs.hp hsn B H L;exact DR (enter c1) c2 λe w' ⟨cv,B,hr⟩=>⟨cv,B,K _ _ hr⟩
     .cases B
   .cases A
  .-- a call of a value
   rename_i x;obtain ⟨l,hl,rfl⟩:=Yd A;simp only [Ja] at B;split at B
   .rename_i f caps vs ns hsn;split at B
    .rename_i u h0 hv;split at B
     .rename_i R;injection B with B;simp only [Aa] at B;obtain ⟨rfl,rfl⟩:=B;have hx:=hs.fr x;obtain ⟨H,L⟩:=jQ hs hl;have hsn':=hsn;unfold Hg at hsn';split at hsn'
      .rename_i ps hps;injection hsn' with hsn';simp only [Aa] at hsn';obtain ⟨O,e2⟩:=hsn';obtain ⟨m1,m2⟩:=TW hps;obtain ⟨p,hp1,hp2⟩:=m2 0 (σ.ev (.t x)) rfl;have hp0:p.1=.fn f caps:=by
        have:(ps.map (·.1))[0]?=AC p.1:=by simp [Az,hp1]
        rw [O] at this;simpa using this.symm
       have hfn:∃cs:Array Value,a.tmps.getD x undef=.func (.func f) #[] cs:=by obtain ⟨l',hl'⟩:=Jz1 (k:=depth) (v:=σ.f x) (f:=f) (caps:=caps) (ns:=p.2) (h:=σ.h) (by rw [<-hp0];exact hp2);rw [hl'] at hx;obtain ⟨cs,e,_⟩:=hx.EZ;exact ⟨cs,e⟩
       obtain ⟨cs,hcs⟩:=hfn;obtain ⟨f1,f2,f3⟩:=tY hs.hp (uX hsn);obtain ⟨n1,n2⟩:=uV hs.hp (S':=λb=>S b\/KQ σ.h μ ns b) (λb hb=>.inl hb) hsn (λg hg o ho hl=>.inr ⟨g,hg,o,ho,hl,rfl⟩);have hcap:AY w (λb=>S b\/KQ σ.h μ ns b) (.fn f caps) (.func (.func f) #[] cs):=by obtain ⟨x0,hx0,hxr⟩:=n2 0 (.fn f caps) rfl;simp at hx0;subst hx0;refine hxr _ ?_;have:=hs.fr x;rw [hcs] at this;exact this
       have G:∀i y,(vs++caps)[i]?=AC y->AY w (λb=>S b\/KQ σ.h μ ns b) y ((args.map a.eval++cs).getD i undef):=by
        intro i y hi;have hvl:vs.length=(args.map a.eval).size:=by simp at n1;rw [H];simp;omega
        by_cases hlt:i<vs.length
        .rw [Bf hlt] at hi;obtain ⟨x0,hx0,hxr⟩:=n2 (i+1) y (by simpa using hi);have e:(args.map a.eval++cs).getD i undef=(args.map a.eval).getD i undef:=by simp only [Ao];rw [Array.getElem?_append_left (by omega)]
         rw [e];exact hxr _ (L i x0 (by simpa using hx0))
        .rw [Bt (by omega)] at hi;have e:(args.map a.eval++cs).getD i undef=cs.getD (i - vs.length) undef:=by simp only [Ao];rw [Array.getElem?_append_right (by omega),hvl]
         rw [e];cases hcap with
         | fn _ _ _ hl hr=>exact hr _ y hi
       have hcl:caps.length=cs.size:=by cases hcap with|fn _ _ _ hl hr=>exact hl
       have hrun:(execOp a.eval o).run P w=.ok (.enter f (args.map a.eval++cs)) w:=by have hev:a.eval (.tmp x)=.func (.func f) #[] cs:=hcs;simp [execOp,E,resolve,hev,Deferred.ofValue,invoke,Kx (N.fn _ _ _ _ hv)]
       refine DR hrun (N.pure f (vs++caps) u h0 hv w _ _ f1.lt (by simp;simp at n1;rw [n1];simp at H;omega) G) λe w' ⟨cv,B,hr,ho⟩=>⟨cv,B,K _ _ ?_⟩;rcases R with R|R
       .subst R;refine ZL hs.hp ho (hr.mono (λb hb=>?_) (λ_ _=>rfl));rcases hb with (hb|⟨g,hg,_⟩)|hb
        .exact .inl hb
        .cases hg
        .exact .inr hb
       .exact ZL hs.hp ho (hr.GV R)
      .cases hsn'
     .cases B
    .cases B
   .cases B
  .cases A
end
section
variable {ro:AH AM} {P:Program} {w:World} {S:AM->Prop} {σ:St} {μ:Gh} {a:Act} {nt:AM}
def Nh:Value->AH AN
 | .bool b=>AC b
 | _=>AD
theorem yI{ops:Array Oper}{j d:AM}(hs:DN nt w S σ μ a)(h:(ops[j]?).bind (·.dst)=AC d)(hd:d<nt){v:Value}(g:a.tmps.getD d undef=v):yielded ops a.tmps j=Nh v:=by
 unfold yielded;rw [h];have f:d<a.tmps.size:=by have:=hs.sz;omega
 have:a.tmps[d]?=AC v:=by rw [<-g];exact getD_some f
 simp only [Be,this];cases v<;>rfl
theorem wN{call:Call}{cm:AG (AM×CM)}{ops:Array Oper}{o:Oper}{lo:AP}{base:AM}{σ':St}{K:Act->World->Prop}{Q:Exit->Act->World->Prop}(r:JJ P call)(hs:DN nt w S σ μ a)
  (g:comp P cm nt ops o=AC lo) (f:jp call base lo σ=AC σ')
  (hK:∀a' w' S' μ',a'.defers=a.defers->DN nt w' S' σ' μ' a'->CY w S σ.h μ w' S' σ'.h μ'->Cg σ.h μ σ'.h μ'->K a' w') :
  if Region.wanted o (yielded ops a.tmps)=AE then Ie ro P o a w K Q else K (a.put o.dst undef) w:=by
 unfold comp at g;split at g
 .cases g
 .rename_i lop B;split at g
  .rename_i hd;have run:∀ {g0 v h},Ja call base σ g0 lop=AC (v,h)->σ'=σ.put o.dst v h->Ie ro P o a w K Q:=by
    rintro g0 v h l rfl;refine pY r hs B l λcv w' ⟨S',μ',O,N,J,H⟩=>hK _ _ S' μ' (by cases o.dst<;>rfl) (Jpa hs hd O N J H) ?_ ?_
    .cases o.dst<;>exact J
    .cases o.dst<;>exact H
   have skip:σ'=σ.put o.dst (.Cb []) σ.h->K (a.put o.dst undef) w:=by
    rintro rfl;refine hK _ _ S μ (by cases o.dst<;>rfl) (Jpa hs hd (.Cb [] #[] rfl (λi x hi=>by simp at hi)) hs.hp .refl (.refl _ _)) ?_ ?_
    .cases o.dst<;>exact .refl
    .cases o.dst<;>exact .refl _ _
   split at g
   .rename_i E;injection g with g;subst g;rw [AS (by simp [Region.wanted,E])];simp only [jp] at f;split at f
    .rename_i v h l;injection f with f;exact run l f.symm
    .cases f
   .rename_i j want E;split at g
    .rename_i d M;split at g
     .rename_i A;injection g with g;subst g;simp only [jp] at f;have m:=hs.fr d;split at f
      .rename_i b G;rw [G] at m;have F:=yI hs M A m.Ca;have L:Region.wanted o (yielded ops a.tmps)=(b==want):=by simp [Region.wanted,E,F,Nh]
       split at f
       .rename_i y;rw [AS (by rw [L];simpa using y)];split at f
        .rename_i v h l;injection f with f;exact run l f.symm
        .cases f
       .rename_i y;rw [AR (by rw [L];simpa using y)];injection f with f;exact skip f.symm
      .rename_i G;rw [G] at m;have F:=yI hs M A m.JX;rw [AR (by simp [Region.wanted,E,F,Nh])];injection f with f;exact skip f.symm
      .cases f
     .cases g
    .cases g
  .cases g
theorem Jsv{cm:AG (AM×CM)}{ops:Array Oper}{o:Oper}{lo:AP}(a:comp P cm nt ops o=AC lo):∀c,o.op≠.defer c:=by intro c h;unfold comp at a;rw [h] at a;simp [JK] at a
end
def LO.tmp?:LO->AG AM
 | .t n=>[n]
 | .c _=>[]
def CO.looks:CO->AG AM
 | .alloc _|.IW .. | .fJ ..=>[]
 | .fH x|.Me _ x|.box x|.load _ _ x|.un _ x|.conv _ x|.Eo x|.Es _ x|.lF _ _ _ x|.ext x _|.len x|.F8 x|.Ik x|.Ep _ x|.LH _ _ x=>x.tmp?
 | .pick c a b=>c.tmp?++a.tmp?++b.tmp?
 | .build _ ps|.Eb _ _ _ _ ps=>ps.flatMap λp=>p.2.2.tmp?
 | .store _ x y|.KI _ x y|.eqv _ _ _ x y|.mkS _ _ _ _ x y|.Er _ x y|.EP _ _ x y|.idx _ _ _ x y|.app _ _ _ _ x y|.KN _ _ _ _ _ x y|.LG _ _ x y|.look _ _ _ _ x y|.Mf _ _ x y|.dY _ x y|.mm _ x y|.lI _ x y=>x.tmp?++y.tmp?
 | .LJ _ _ x k v=>x.tmp?++k.tmp?++v.tmp?
 | .LY _ l|.Co _ l|.Et _ l|.FW _ l|.FH _ l _ _=>l.flatMap LO.tmp?
 | .GD x l=>x.tmp?++l.flatMap LO.tmp?
 | .slc _ x lo hi=>x.tmp?++(lo.map LO.tmp?).getD []++(hi.map LO.tmp?).getD []
 | .GY _ op=>op.looks
def AP.looks(o:AP):AG AM:=o.op.looks++(o.guard.map λg=>[g.1]).getD []
def CO.still:CO->AN
 | .load .. | .Eo _|.slc .. | .Es .. | .Er .. | .EP .. | .len _|.Ep .. | .LH .. | .Co _ []=>AE
 | _=>AF
def CO.Hu:CO->AN
 | .Et ..=>AE
 | _=>AF
def CO.ld:CO->AN
 | .load ..=>AE
 | _=>AF
def CO.iK:CO->AN
 | .app ..=>AE
 | .KN ..=>AE
 | _=>AF
def CO.fB:CO->AH (AG AM)
 | .KN ds _ _ _ _ _ _=>AC ds
 | .LG ds _ _ _=>AC ds
 | _=>AD
def CO.past(i j:CO):AN:=
 match i,j.fB with
 | .GY ds _,AC ds'=>ds'.all λd=>ds.contains d
 | _,_=>AF
def CO.pq(j:CO)(d:AH AM):AN:=
 match j,d with
 | .GY ds _,AC x=>ds.contains x
 | _,_=>AF
def au(i j:AP):AN:=
 (match i.dst with|some d=>!j.looks.contains d&&j.dst != AC d|none=>AE) &&
 (match j.dst with|some d=>!i.looks.contains d|none=>AE) &&
 (i.op.cls==0 || j.op.cls==0 || (i.op.cls==1&&(j.op.cls==1 || j.op.cls==2)) || (i.op.cls==2&&j.op.cls==2) || (i.op.still&&j.op.Hu) || i.op.past j.op || (i.op.Hu&&j.op.cls==2) || (i.op.iK&&i.dst.isSome&&j.op.cls==2) || (i.op.cls==2&&j.op.pq i.dst) || j.op.past i.op || (i.op.Hu&&j.op.ld)) &&
 (i.op.cls != 2 || i.dst.isSome)&&(j.op.cls != 2 || j.dst.isSome)
theorem Zi{σ σ':St}{x:LO}(h:∀n∈x.tmp?,σ.f n=σ'.f n):σ.ev x=σ'.ev x:=by
 cases x with
 | t n=>exact h n (by simp [LO.tmp?])
 | c v=>rfl
theorem oC{σ σ':St}{l:AG LO}(h:∀n∈l.flatMap LO.tmp?,σ.f n=σ'.f n):l.map σ.ev=l.map σ'.ev:=
 List.map_congr_left λx hx=>Zi λn a=>h n (Au.2 ⟨x,hx,a⟩)
theorem Jj7{σ σ':St}:∀ {ps:AG (AM×AM×LO)} {z:AG AV},(∀n∈ps.flatMap (λp=>p.2.2.tmp?),σ.f n=σ'.f n)->Ml σ.ev z ps=Ml σ'.ev z ps
 | [],z,_=>rfl
 | (off,n,x)::r,z,h=>by
  simp only [Ml];rw [Zi (x:=x) (σ':=σ') λm a=>h m (by simp [a])];split
  .split
   .exact Jj7 λm a=>h m (by simp only [List.flatMap_cons,Ag];exact .inr a)
   .rfl
  .rfl
theorem Jve{call:Call}{base g0:AM}{σ σ':St}{op:CO}(d:∀ds o,op≠.GY ds o)(g:σ.h=σ'.h)(h:∀n∈op.looks,σ.f n=σ'.f n):Ja call base σ g0 op=Ja call base σ' g0 op:=by
 cases op<;>(try (exact (d _ _ rfl).elim))<;>simp only [CO.looks,Ag] at h<;>simp only [Ja,g]
 case slc e x lo hi=>
  rw [Zi (x:=x) λn a=>h n (.inl (.inl a))];have r:lo.map σ.ev=lo.map σ'.ev:=by
   cases lo with
   | none=>rfl
   | some y=>simp only [Ay];rw [Zi λn a=>h n (.inl (.inr (by simpa using a)))]
  have m:hi.map σ.ev=hi.map σ'.ev:=by
   cases hi with
   | none=>rfl
   | some y=>simp only [Ay];rw [Zi λn a=>h n (.inr (by simpa using a))]
  rw [r,m]
 case pick c x y=>rw [Zi (x:=c) λn a=>h n (.inl (.inl a)),Zi (x:=x) λn a=>h n (.inl (.inr a)),Zi (x:=y) λn a=>h n (.inr a)]
 case LJ ag sh x k v=>rw [Zi (x:=x) λn a=>h n (.inl (.inl a)),Zi (x:=k) λn a=>h n (.inl (.inr a)),Zi (x:=v) λn a=>h n (.inr a)]
 case build z ps=>rw [Jj7 h]
 case Eb n e t z ps=>rw [Jj7 h]
 case LY f l=>rw [oC h]
 case Co f l=>rw [oC h]
 case Et f l=>rw [oC h]
 case FW f l=>rw [oC h]
 case FH f l=>rw [oC h]
 case GD x l=>rw [Zi (x:=x) λn a=>h n (.inl a),oC λn a=>h n (.inr a)]
 all_goals first
  | rw [Zi h]
  | (rename_i x y;rw [Zi (x:=x) λn a=>h n (.inl a),Zi (x:=y) λn a=>h n (.inr a)])
theorem Jx7{call:Call}{base g0:AM}{op:CO}:∀ {σ σ':St},σ.h=σ'.h->(∀n∈op.looks,σ.f n=σ'.f n)->Ja call base σ g0 op=Ja call base σ' g0 op:=by
 induction op with
 | GY ds op d=>
  intro σ σ' a h;simp only [Ja,a];rw [d (σ:=⟨σ.f,Xb base ds σ'.h⟩) (σ':=⟨σ'.f,Xb base ds σ'.h⟩) rfl h]
 | _=>exact λa h=>Jve (by rintro _ _ ⟨⟩) a h
def EI(call:Call)(base:AM)(o:AP)(f:AM->AV)(h:Heap):AH (AV×Heap):=
 match o.guard with
 | none=>Ja call base ⟨f,h⟩ (base+o.dst.getD 0) o.op
 | some (g,want)=>
  match f g with
  | .bool b=>if b=want then Ja call base ⟨f,h⟩ (base+o.dst.getD 0) o.op else AC (.Cb [],h)
  | .Cb []=>AC (.Cb [],h)
  | _=>AD
theorem Jts(call:Call)(base:AM)(o:AP)(σ:St):jp call base o σ=(EI call base o σ.f σ.h).map λr=>σ.put o.dst r.1 r.2:=by
 unfold jp EI;cases d:o.guard with
 | none=>
  simp only;cases Ja call base σ (base+o.dst.getD 0) o.op<;>rfl
 | some g=>
  obtain ⟨g,want⟩:=g;simp only;cases f:σ.f g with
  | bool b=>
   simp only;by_cases a:b=want
   .rw [AS a,AS a];cases Ja call base σ (base+o.dst.getD 0) o.op<;>rfl
   .rw [AR a,AR a];rfl
  | Cb l=>cases l<;>rfl
  | _=>rfl
theorem Jwy{call:Call}{base:AM}{o:AP}{f f':AM->AV}{h:Heap}(hl:∀n∈o.looks,f n=f' n):EI call base o f h=EI call base o f' h:=by
 unfold EI;have a:Ja call base ⟨f,h⟩ (base+o.dst.getD 0) o.op=Ja call base ⟨f',h⟩ (base+o.dst.getD 0) o.op:=Jx7 rfl λn d=>hl n (by simp [AP.looks,d]);split
 .exact a
 .rename_i g want l;rw [hl g (by simp [AP.looks,l]),a]
theorem Kax{call:Call}{base g0:AM}{op:CO}(g:op.cls=0){f:AM->AV}{h d:Heap}{v:AV}(a:Ja call base ⟨f,h⟩ g0 op=AC (v,d)):d=h/\∀h',Ja call base ⟨f,h'⟩ g0 op=AC (v,h'):=by
 have ev:∀x h h',(St.mk f h).ev x=(St.mk f h').ev x:=λx h h'=>by cases x<;>rfl
 have evf:∀h h',(St.mk f h).ev=(St.mk f h').ev:=λh h'=>funext λx=>ev x h h';cases op<;>simp [CO.cls] at g
 all_goals
  simp only [Ja] at a ⊢;refine ⟨?_,λh'=>?_⟩
  all_goals try rw [evf h' h]
  all_goals (repeat' split at a)<;>first|(cases a;done)|(injection a with a;simp only [Aa] at a;obtain ⟨rfl,rfl⟩:=a;first|rfl|simp_all)
theorem Jan{h:Heap}{g d:AM}{ob o:AU}(f:h g=AD)(a:h d=AC o):upd h g (AC ob) d=AC o:=by
 rw [Jd]
 .exact a
 .rintro rfl;rw [f] at a;cases a
theorem J0j{h:Heap}{g:AM}{ob:AU}(d:h g=AD){x:AV}{r:AG AV×AM}(hd:JL h x=AC r):JL (upd h g (AC ob)) x=AC r:=by
 unfold JL at hd ⊢;split at hd
 .exact hd
 .split at hd
  .rename_i f c a;rw [Jan d a];exact hd
  .rename_i f e t c z a;rw [Jan d a];exact hd
  .cases hd
 .cases hd
theorem Jwn{h:Heap}{g a ver:AM}{ob:AU}(f:h g=AD)(hd:cur h a ver=AE):cur (upd h g (AC ob)) a ver=AE:=by obtain ⟨o,d,e⟩:=wV hd;simp [cur,Jan f d,e]
theorem Jy8{h:Heap}{g a ver esz:AM}{ob:AU}(f:h g=AD)(hd:Ei h a ver esz=AE):Ei (upd h g (AC ob)) a ver esz=AE:=by obtain ⟨el,c,z,d⟩:=Jvk hd;simp [Ei,Jan f d]
theorem Jkl{h:Heap}{g a ver:AM}{ob:AU}(f:h g=AD)(hd:Zq h a ver=AE):Zq (upd h g (AC ob)) a ver=AE:=by obtain ⟨e,el,c,z,d⟩:=Jmg hd;simp [Zq,Jan f d]
theorem Jyl{h:Heap}{g a ver:AM}{ob:AU}{es:AG (AV×AV)}(d:h g=AD)(hd:HY h a ver=AC es):HY (upd h g (AC ob)) a ver=AC es:=by simp [HY,Jan d (J3q hd)]
theorem Xy{α β:Type}{f f':α->AH β}:∀ {l:AG α} {r:AG β},(∀x y,f x=AC y->f' x=AC y)->l.mapM f=AC r->l.mapM f'=AC r
 | [],r,_,h=>by simpa using h
 | x::l,r,a,h=>by
  rw [By] at h ⊢;cases hx:f x with
  | none=>rw [hx] at h;cases h
  | some y=>
   cases hl:l.mapM f with
   | none=>rw [hx,hl] at h;cases h
   | some q=>rw [hx,hl] at h;rw [a x y hx,Xy a hl];exact h
theorem xk{h:Heap}{g:AM}{ob:AU}(v:h g=AD):∀(k:AM) (x:AV) (r:AV×AG AM),snap h k x=AC r->snap (upd h g (AC ob)) k x=AC r
 | 0,x,r,hs=>by simp [snap] at hs
 | k+1,x,r,hs=>by
  have m:=xk v (ob:=ob) k;cases x<;>(try simp only [snap] at hs ⊢)<;>try (exact hs)
  case arr B ver off len=>
   split at hs
   .rename_i A e t c z w;rw [Jan v w];simp only;split at hs
    .rename_i y;rw [AS y];split at hs
     .rename_i d;rw [AS d];exact hs
     .rename_i d;rw [AR d];split at hs
      .rename_i ps a;rw [Xy m a];exact hs
      .cases hs
    .cases hs
   .cases hs
  case fn f caps=>
   split at hs
   .rename_i ps a;rw [Xy m a];exact hs
   .cases hs
  case agg l=>
   split at hs
   .rename_i d;rw [AS d];exact hs
   .rename_i d;rw [AR d];split at hs
    .rename_i ps a;rw [Xy m a];exact hs
    .cases hs
  case Cb l=>
   split at hs
   .rename_i ps a;rw [Xy m a];exact hs
   .cases hs
theorem mapM_nil{f f':AV->AH (AV×AG AM)}(d:∀x u,f x=AC (u,[])->f' x=AC (u,[])):∀ {l:AG AV} {ps:AG (AV×AG AM)},l.mapM f=AC ps->ps.flatMap (·.2)=[]->l.mapM f'=AC ps
 | [],ps,h,_=>by simpa using h
 | x::l,ps,h,a=>by
  rw [By] at h ⊢;cases hx:f x with
  | none=>rw [hx] at h;cases h
  | some y=>
   cases hl:l.mapM f with
   | none=>rw [hx,hl] at h;cases h
   | some q=>
    rw [hx,hl] at h;injection h with h;subst h;rw [List.flatMap_cons,List.append_eq_nil_iff] at a;obtain ⟨g,m⟩:=y;simp only at a;rw [d x g (by rw [hx,a.1]),mapM_nil d hl a.2,a.1];rfl
theorem J14{h h':Heap}:∀(k:AM) (x u:AV),snap h k x=AC (u,[])->snap h' k x=AC (u,[])
 | 0,x,u,hs=>by simp [snap] at hs
 | k+1,x,u,hs=>by
  have m:=J14 (h:=h) (h':=h') k;cases x<;>(try simp only [snap] at hs ⊢)<;>try (exact hs)
  case arr v ver off len=>
   (repeat' split at hs)<;>first|(cases hs;done)|(injection hs with hs;injection hs with _ hs;cases hs)
  case fn f caps=>
   split at hs
   .rename_i ps a;injection hs with hs;injection hs with g d;rw [mapM_nil m a d,<-g];simp only [d]
   .cases hs
  case agg l=>
   split at hs
   .rename_i r;rw [AS r];exact hs
   .rename_i r;rw [AR r];split at hs
    .rename_i ps a;injection hs with hs;injection hs with g d;rw [mapM_nil m a d,<-g];simp only [d]
    .cases hs
  case Cb l=>
   split at hs
   .rename_i ps a;injection hs with hs;injection hs with g d;rw [mapM_nil m a d,<-g];simp only [d]
   .cases hs
theorem Kbw{h h':Heap}{l vs:AG AV}(hs:Hg h l=AC (vs,[])):Hg h' l=AC (vs,[]):=by
 unfold Hg at hs ⊢;split at hs
 .rename_i ps a;injection hs with hs;injection hs with f d;rw [mapM_nil (λx u=>J14 depth x u) a d];simp only [f,d]
 .cases hs
theorem Jm9{h:Heap}{g:AM}{ob:AU}(d:h g=AD){l:AG AV}{r:AG AV×AG AM}(hs:Hg h l=AC r):Hg (upd h g (AC ob)) l=AC r:=by
 unfold Hg at hs ⊢;split at hs
 .rename_i ps a;rw [Xy (xk d depth) a];exact hs
 .cases hs
theorem Jta{h:Heap}{g:AM}{ob:AU}(f:h g=AD){x:AV}{r:AV×AG AM}(hs:TS h x=AC r):TS (upd h g (AC ob)) x=AC r:=by
 unfold TS at hs ⊢;split at hs
 .rename_i v ver off;cases d:h v with
  | none=>rw [d] at hs;cases hs
  | some o=>
   rw [d] at hs;rw [Jan f d];unfold Iz at hs ⊢;split at hs
   .split at hs
    .rename_i m;simp only [AS m];split at hs
     .rename_i l;rw [AS l];exact hs
     .rename_i l;rw [AR l];unfold vJ at hs ⊢;split at hs
      .rename_i ps a;rw [Xy (xk f depth) a];exact hs
      .cases hs
    .cases hs
   .cases hs
 .exact xk f depth _ r hs
theorem Jsj{h:Heap}{g:AM}{ob:AU}(a:h g=AD):∀ {l:AG AV} {r:AG AV×AG AM},YM h l=AC r->YM (upd h g (AC ob)) l=AC r
 | [],r,hs=>hs
 | x::l,r,hs=>by
  simp only [YM] at hs ⊢;unfold YQ at hs;split at hs
  .rename_i u v us m f d;rw [Jta a f,Jsj a d];exact hs
  .cases hs
theorem J71{h:Heap}{g:AM}{ob:AU}(a:h g=AD){x:AV}{r:AV×AG AM}(hs:Hr h x=AC r):Hr (upd h g (AC ob)) x=AC r:=by
 unfold Hr at hs ⊢;split at hs
 .unfold vW at hs;split at hs
  .rename_i us ms d;rw [Jsj a d];exact hs
  .cases hs
 .exact Jta a hs
theorem Jtv{h:Heap}{g:AM}{ob:AU}(a:h g=AD):∀ {l:AG AV} {r:AG AV×AG AM},Si h l=AC r->Si (upd h g (AC ob)) l=AC r
 | [],r,hs=>hs
 | x::l,r,hs=>by
  simp only [Si] at hs ⊢;unfold YQ at hs;split at hs
  .rename_i u v us m f d;rw [J71 a f,Jtv a d];exact hs
  .cases hs
theorem Ry{call:Call}{base g0:AM}{op:CO}(R:∀ds o,op≠.GY ds o)(A:op.cls=1){f:AM->AV}{h N:Heap}{v:AV}(a:Ja call base ⟨f,h⟩ g0 op=AC (v,N)) :
  N=h/\∀g ob,h g=AD->Ja call base ⟨f,upd h g (AC ob)⟩ g0 op=AC (v,upd h g (AC ob)):=by
 have evf:∀h h',(St.mk f h).ev=(St.mk f h').ev:=λh h'=>funext λx=>by cases x<;>rfl
 cases op<;>simp [CO.cls] at A
 case GY ds o=>exact (R ds o rfl).elim
 case load ag n x=>
  simp only [Ja] at a ⊢;obtain ⟨d,E⟩:=hOut a;subst E;refine ⟨rfl,λg ob m=>?_⟩;have:IY (upd h g (AC ob)) ag n ((St.mk f (upd h g (AC ob))).ev x)=AC v:=by
   rw [evf _ h];unfold IY at d ⊢;split at d
   .rename_i l off hd;rw [J0j m hd];exact d
   .cases d
  rw [this]
 case Eo x=>
  simp only [Ja] at a ⊢;split at a
  .rename_i P ver off hx;split at a
   .rename_i H;injection a with a;simp only [Aa] at a;obtain ⟨rfl,rfl⟩:=a;refine ⟨rfl,λg ob m=>?_⟩;rw [evf _ h,hx];simp only;rw [AS (Jwn m H)]
   .cases a
  .rename_i l hx;injection a with a;simp only [Aa] at a;obtain ⟨rfl,rfl⟩:=a;exact ⟨rfl,λg ob m=>by rw [evf _ h,hx]⟩
  .rename_i f' l hx;injection a with a;simp only [Aa] at a;obtain ⟨rfl,rfl⟩:=a;exact ⟨rfl,λg ob m=>by rw [evf _ h,hx]⟩
  .rename_i f' l hx;injection a with a;simp only [Aa] at a;obtain ⟨rfl,rfl⟩:=a;exact ⟨rfl,λg ob m=>by rw [evf _ h,hx]⟩
  .cases a
 case slc e x lo hi=>
  simp only [Ja] at a ⊢;obtain ⟨d,E⟩:=hOut a;subst E;refine ⟨rfl,λg ob m=>?_⟩;have:Ir (upd h g (AC ob)) e ((St.mk f (upd h g (AC ob))).ev x) (lo.map (St.mk f (upd h g (AC ob))).ev) (hi.map (St.mk f (upd h g (AC ob))).ev)=AC v:=by
   rw [evf _ h];unfold Ir at d ⊢;split at d
   .exact d
   .split at d
    .split at d
     .rename_i M;obtain ⟨c1,Z,Y,X⟩:=M;rw [AS ⟨c1,Z,Y,Jy8 m X⟩];exact d
     .cases d
    .cases d
   .exact d
   .cases d
  rw [this]
 case Es off x=>
  simp only [Ja] at a ⊢;obtain ⟨d,E⟩:=hOut a;subst E;refine ⟨rfl,λg ob m=>?_⟩;have:KZ (upd h g (AC ob)) off ((St.mk f (upd h g (AC ob))).ev x)=AC v:=by
   rw [evf _ h];unfold KZ at d ⊢;split at d
   .split at d
    .rename_i A;rw [AS (Jwn m A)];exact d
    .cases d
   .exact d
   .cases d
  rw [this]
 case Er e x i=>
  simp only [Ja] at a ⊢;obtain ⟨d,E⟩:=hOut a;subst E;refine ⟨rfl,λg ob m=>?_⟩;have:JW (upd h g (AC ob)) e ((St.mk f (upd h g (AC ob))).ev x) ((St.mk f (upd h g (AC ob))).ev i)=AC v:=by
   rw [evf _ h];unfold JW at d ⊢;split at d
   .exact d
   .split at d
    .rename_i A;rw [AS ⟨A.1,A.2.1,Jy8 m A.2.2⟩];exact d
    .cases d
   .cases d
  rw [this]
 case EP n e x i=>
  simp only [Ja] at a ⊢;obtain ⟨d,E⟩:=hOut a;subst E;refine ⟨rfl,λg ob m=>?_⟩;have:ZM (upd h g (AC ob)) n e ((St.mk f (upd h g (AC ob))).ev x) ((St.mk f (upd h g (AC ob))).ev i)=AC v:=by
   rw [evf _ h];unfold ZM at d ⊢;split at d
   .split at d
    .rename_i A;rw [AS ⟨A.1,A.2.1,Jwn m A.2.2⟩];exact d
    .cases d
   .exact d
   .cases d
  rw [this]
 case len x=>
  simp only [Ja] at a ⊢;split at a
  .rename_i n r;injection a with a;simp only [Aa] at a;obtain ⟨rfl,rfl⟩:=a;refine ⟨rfl,λg ob m=>?_⟩;have:Cw (upd h g (AC ob)) ((St.mk f (upd h g (AC ob))).ev x)=AC n:=by
    rw [evf _ h];unfold Cw at r ⊢;split at r
    .exact r
    .exact r
    .split at r
     .rename_i A;rw [AS (Jkl m A)];exact r
     .cases r
    .cases r
   rw [this]
  .cases a
 case F8 x=>
  simp only [Ja] at a ⊢;split at a
  .rename_i n r;injection a with a;simp only [Aa] at a;obtain ⟨rfl,rfl⟩:=a;refine ⟨rfl,λg ob m=>?_⟩;have:F8 (upd h g (AC ob)) ((St.mk f (upd h g (AC ob))).ev x)=AC n:=by
    rw [evf _ h];unfold F8 at r ⊢;split at r
    .exact r
    .exact r
    .split at r
     .rename_i es A;rw [Jyl m A];exact r
     .cases r
    .cases r
   rw [this]
  .cases a
 case Ep ne x=>
  simp only [Ja] at a ⊢;split at a
  .rename_i n r;injection a with a;simp only [Aa] at a;obtain ⟨rfl,rfl⟩:=a;refine ⟨rfl,λg ob m=>?_⟩;have:ZF (upd h g (AC ob)) ((St.mk f (upd h g (AC ob))).ev x)=AC n:=by
    rw [evf _ h];unfold ZF at r ⊢;split at r
    .exact r
    .exact r
    .exact r
    .split at r
     .rename_i A;rw [AS ⟨Jkl m A.1,A.2⟩];exact r
     .cases r
    .cases r
   rw [this]
  .cases a
 case LH n e x=>
  simp only [Ja] at a ⊢;obtain ⟨d,E⟩:=hOut a;subst E;refine ⟨rfl,λg ob m=>?_⟩;have:bB (upd h g (AC ob)) n e ((St.mk f (upd h g (AC ob))).ev x)=AC v:=by
   rw [evf _ h];unfold bB at d ⊢;split at d
   .rename_i P ver hx;cases L:h P with
    | none=>rw [L] at d;cases d
    | some o=>rw [Jan m L];rw [L] at d;exact d
   .cases d
  rw [this]
 case look ok ag sh z x k=>
  simp only [Ja] at a ⊢;obtain ⟨d,E⟩:=hOut a;subst E;refine ⟨rfl,λg ob m=>?_⟩;rw [evf _ h];have:∀y es,JC h y=AC es->JC (upd h g (AC ob)) y=AC es:=λy es w=>by
   unfold JC at w ⊢;split at w
   .exact w
   .exact w
   .exact Jyl m w
   .cases w
  cases w:JC h ((St.mk f h).ev x) with
  | none=>rw [w] at d;cases d
  | some es=>rw [this _ es w,<-w,d]
 case FW f' l=>
  simp only [Ja] at a ⊢;unfold Mg at a;split at a
  .rename_i vs ns Q;unfold OV at a;split at a
   .rename_i u O G;split at a
    .rename_i K;injection a with a;simp only [Aa] at a;obtain ⟨rfl,rfl⟩:=a;refine ⟨rfl,λg ob m=>?_⟩;rw [evf _ h,Jtv m Q];simp only [Mg,OV,G];rw [AS K]
    .cases a
   .cases a
  .cases a
 case Co f' l=>
  simp only [Ja] at a ⊢;split at a
  .rename_i vs ns F;split at a
   .rename_i u O J;split at a
    .rename_i B;injection a with a;simp only [Aa] at a;obtain ⟨rfl,rfl⟩:=a;refine ⟨rfl,λg ob m=>?_⟩;rw [evf _ h,Jm9 m F];simp only [J];rw [AS B]
    .cases a
   .cases a
  .cases a
 case GD x l=>
  simp only [Ja] at a ⊢;split at a
  .rename_i f' caps vs ns F;split at a
   .rename_i u O J;split at a
    .rename_i B;injection a with a;simp only [Aa] at a;obtain ⟨rfl,rfl⟩:=a;refine ⟨rfl,λg ob m=>?_⟩;rw [evf _ h,Jm9 m F];simp only [J];rw [AS B]
    .cases a
   .cases a
  .cases a
theorem zN{base g:AM}{ds:AG AM}{h:Heap}{o:AH AU}(d:Cc base ds g=AE):Xb base ds (upd h g o)=Xb base ds h:=by
 funext k;unfold Xb upd;by_cases a:Cc base ds k=AE
 .rw [AS a,AS a]
 .rw [AR a,AR a,AR (by rintro rfl;exact a d)]
theorem Jt3{base g:AM}{ds:AG AM}{h:Heap}{o:AH AU}(f:¬Cc base ds g=AE):Xb base ds (upd h g o)=upd (Xb base ds h) g o:=by
 funext k;by_cases a:Cc base ds k=AE
 .have d:k≠g:=by rintro rfl;exact f a
  rw [Jd _ _ _ _ d];unfold Xb;rw [AS a,AS a]
 .simp only [Xb,upd,a,if_false,Aq]
theorem sU{call:Call}{base g0:AM}{op:CO}:op.cls=1->∀ {f:AM->AV} {h w:Heap} {v:AV},Ja call base ⟨f,h⟩ g0 op=AC (v,w) ->
  w=h/\∀g ob,h g=AD->Ja call base ⟨f,upd h g (AC ob)⟩ g0 op=AC (v,upd h g (AC ob)):=by
 induction op with
 | GY ds op y=>
  intro _ f h w v a;simp only [Ja] at a ⊢;split at a
  .rename_i m;cases hr:Ja call base ⟨f,Xb base ds h⟩ g0 op with
   | none=>rw [hr] at a;cases a
   | some r=>
    obtain ⟨u,B⟩:=r;rw [hr] at a;injection a with a;simp only [Aa] at a;obtain ⟨rfl,rfl⟩:=a;obtain ⟨rfl,l⟩:=y m hr;refine ⟨rfl,λg ob A=>?_⟩;rw [AS m];by_cases d:Cc base ds g=AE
    .rw [zN d,hr];rfl
    .rw [Jt3 d,l g ob (by unfold Xb;split<;>first|rfl|exact A)];rfl
  .cases a
 | _=>exact λm _ _ _ _ a=>Ry (by rintro _ _ ⟨⟩) m a
theorem Jqh{call:Call}{base g0:AM}{op:CO}(l:op.cls=1){f:AM->AV}{h:Heap}{v:AV}:∀ {ds:AG AM} {m:Heap},Ja call base ⟨f,Xb base ds h⟩ g0 op=AC (v,m)->Ja call base ⟨f,h⟩ g0 op=AC (v,h)
 | [],m,a=>by
  have:Xb base [] h=h:=by funext k;rfl
  rw [this] at a;rw [a,(sU l a).1]
 | d::ds,m,a=>by
  have key:Xb base (d::ds) h=Xb base ds h\/∃ob,Xb base (d::ds) h (base+d)=AD/\Xb base ds h=upd (Xb base (d::ds) h) (base+d) (AC ob):=by
   cases r:Xb base ds h (base+d) with
   | none=>
    refine .inl (funext λk=>?_);by_cases g:k=base+d
    .subst g;rw [r];unfold Xb;rw [AS (by simp [Cc])]
    .unfold Xb;have:Cc base (d::ds) k=Cc base ds k:=by simp [Cc,List.any_cons];intro h';exact (g h'.symm).elim
     rw [this]
   | some ob=>
    refine .inr ⟨ob,by unfold Xb;rw [AS (by simp [Cc])],funext λk=>?_⟩;by_cases g:k=base+d
    .subst g;rw [r,Jg]
    .rw [Jd _ _ _ _ g];unfold Xb;have:Cc base (d::ds) k=Cc base ds k:=by simp [Cc,List.any_cons];intro h';exact (g h'.symm).elim
     rw [this]
  rcases key with e|⟨ob,w,e⟩
  .rw [e] at a;exact Jqh l a
  .have:=(sU l a).2 (base+d) ob w;rw [<-e] at this;exact Jqh l this
theorem lW{call:Call}{base g0:AM}{σ:St}{op:CO}{ds:AG AM}{v:AV}{d:Heap}(a:Ja call base σ g0 (.GY ds op)=AC (v,d)):Ja call base σ g0 op=AC (v,d):=by
 simp only [Ja] at a;split at a
 .rename_i f;cases hr:Ja call base ⟨σ.f,Xb base ds σ.h⟩ g0 op with
  | none=>rw [hr] at a;cases a
  | some r=>
   obtain ⟨u,g⟩:=r;rw [hr] at a;injection a with a;simp only [Aa] at a;obtain ⟨rfl,rfl⟩:=a;exact Jqh f hr
 .cases a
theorem J64{call:Call}{base g0:AM}{σ:St}{ds ds':AG AM}{esz bytes:AM}{el:TypeId}{zz:AG AV}{x y:LO}{v:AV}{f:Heap}(hd:∀g,Cc base ds g=AE->Cc base ds' g=AE)
  (a:Ja call base σ g0 (.KN ds esz bytes el zz x y)=AC (v,f)):Xb base ds' f=Xb base ds' σ.h:=by
 simp only [Ja,Mh] at a;split at a
 .rename_i d;unfold EN at a;split at a
  .split at a
   .rename_i hx;rw [hx] at d
    (repeat' split at a)<;>first|(cases a;done)|(injection a with a;simp only [Aa] at a;obtain ⟨-,rfl⟩:=a;first|rfl|exact zN (hd _ d))
   .rename_i hx;rw [hx] at d
    (repeat' split at a)<;>first|(cases a;done)|(injection a with a;simp only [Aa] at a;obtain ⟨-,rfl⟩:=a;first|rfl|exact zN (hd _ d))
   .split at a
    .injection a with a;simp only [Aa] at a;obtain ⟨-,rfl⟩:=a;rfl
    .cases a
   .cases a
  .cases a
 .cases a
theorem UC{call:Call}{base g0:AM}{σ:St}{ds:AG AM}{n:AM}{x y:LO}{v:AV}{d:Heap}(a:Ja call base σ g0 (.LG ds n x y)=AC (v,d)) :
  Ja call base σ g0 (.store n x y)=AC (v,d):=by
 simp only [Ja] at a ⊢;split at a
 .exact a
 .cases a
theorem J9g{call:Call}{base g0:AM}{σ:St}{ds ds':AG AM}{n:AM}{x y:LO}{v:AV}{h:Heap}(hd:∀g,Cc base ds g=AE->Cc base ds' g=AE)
  (d:Ja call base σ g0 (.LG ds n x y)=AC (v,h)):Xb base ds' h=Xb base ds' σ.h:=by
 simp only [Ja] at d;split at d
 .rename_i f;split at d
  .rename_i m a;injection d with d;simp only [Aa] at d;obtain ⟨-,rfl⟩:=d;unfold Sl at a;split at a
   .rename_i g ver off c hx l;rw [hx] at f
    (repeat' split at a)<;>first|(cases a;done)|(injection a with a;subst a;exact zN (hd _ f))
   .cases a
  .cases d
 .cases d
theorem wh{call:Call}{base g0:AM}{σ:St}{op:CO}{ds ds':AG AM}{v:AV}{f:Heap}(a:op.fB=AC ds)(hd:∀g,Cc base ds g=AE->Cc base ds' g=AE)
  (d:Ja call base σ g0 op=AC (v,f)):Xb base ds' f=Xb base ds' σ.h:=by
 unfold CO.fB at a;split at a
 .injection a with a;subst a;exact J64 hd d
 .injection a with a;subst a;exact J9g hd d
 .cases a
theorem XJ{call:Call}{base g0:AM}{op:CO}(A:op.cls=2){f:AM->AV}{h r:Heap}{v:AV}(w:h g0=AD)(a:Ja call base ⟨f,h⟩ g0 op=AC (v,r)) :
  ∃ob,r=upd h g0 (AC ob)/\∀h',h' g0=AD->Ja call base ⟨f,h'⟩ g0 op=AC (v,upd h' g0 (AC ob)):=by
 have evf:∀h h',(St.mk f h).ev=(St.mk f h').ev:=λh h'=>funext λx=>by cases x<;>rfl
 have nv:∀h',h' g0=AD->Kh h' g0=0:=λh' d=>by simp [Kh,d]
 cases op<;>simp [CO.cls] at A
 case FH f' l esz el=>
  simp only [Ja] at a;split at a
  .rename_i vs g;unfold Mc at a;rw [w] at a;split at a
   .rename_i n L F y m;injection a with a;injection a with E B;subst E;refine ⟨_,B.symm,λh' d=>?_⟩;simp only [Ja];rw [evf h' h,Kbw (h':=h') g];simp only [Mc,d,m]
   .cases a
  .cases a
 all_goals
  simp only [Ja,nv h w] at a
  (repeat' split at a)<;>first|(cases a;done)|skip
  all_goals
   injection a with a;simp only [Aa] at a;obtain ⟨rfl,rfl⟩:=a;refine ⟨_,rfl,λh' d=>?_⟩;simp only [Ja,nv h' d]
   try rw [evf h' h]
   try simp_all
theorem nE{op:CO}(h:op.cls=2):op.BX=AE:=by cases op<;>simp [CO.cls] at h<;>rfl
theorem PO{op:CO}(h:op.BX=AE):op.cls=2:=by cases op<;>simp [CO.BX] at h<;>rfl
def TF(call:Call)(base:AM)(o:AP)(f:AM->AV)(h a:Heap)(v:AV):Prop:=
 (o.op.cls=0->a=h/\∀h',EI call base o f h'=AC (v,h')) /\
  (o.op.cls=1->a=h/\∀g ob,h g=AD->EI call base o f (upd h g (AC ob))=AC (v,upd h g (AC ob))) /\
  (o.op.cls=2->(a=h/\∀h',EI call base o f h'=AC (v,h')) \/
   ∃ob,a=upd h (base+o.dst.getD 0) (AC ob)/\∀h',h' (base+o.dst.getD 0)=AD->EI call base o f h'=AC (v,upd h' (base+o.dst.getD 0) (AC ob)))
theorem Ka2{call:Call}{base:AM}{o:AP}{f:AM->AV}{h A:Heap}{v:AV}(d:EI call base o f h=AC (v,A))(B:o.op.BX=AE->h (base+o.dst.getD 0)=AD):TF call base o f h A v:=by
 have main:Ja call base ⟨f,h⟩ (base+o.dst.getD 0) o.op=AC (v,A)->(∀h' r,Ja call base ⟨f,h'⟩ (base+o.dst.getD 0) o.op=AC r->EI call base o f h'=AC r)->TF call base o f h A v:=λl a=>
  ⟨λm=>⟨(Kax m l).1,λh'=>a h' _ ((Kax m l).2 h')⟩,λm=>⟨(sU m l).1,λg ob w=>a _ _ ((sU m l).2 g ob w)⟩,λm=>by obtain ⟨ob,e,F⟩:=XJ m (B (nE m)) l;exact .inr ⟨ob,e,λh' G=>a _ _ (F h' G)⟩⟩
 have skip:A=h->(∀h',EI call base o f h'=AC (v,h'))->TF call base o f h A v:=λe a=>
  ⟨λ_=>⟨e,a⟩,λ_=>⟨e,λg ob _=>a _⟩,λ_=>.inl ⟨e,a⟩⟩
 unfold EI at d;split at d
 .rename_i w;exact main d λh' r hr=>by unfold EI;rw [w];exact hr
 .rename_i g want w;split at d
  .rename_i b E;split at d
   .rename_i y;exact main d λh' r hr=>by unfold EI;rw [w];simp only [E];rw [AS y];exact hr
   .rename_i y;injection d with d;simp only [Aa] at d;obtain ⟨rfl,rfl⟩:=d;exact skip rfl λh'=>by unfold EI;rw [w];simp only [E];rw [AR y]
  .rename_i E;injection d with d;simp only [Aa] at d;obtain ⟨rfl,rfl⟩:=d;exact skip rfl λh'=>by unfold EI;rw [w];simp only [E]
  .cases d
section
variable {h:Heap} {ns:AG AM}
theorem Jsw(x:AV):JL (Jh h ns) x=JL h x:=by
 cases x<;>try rfl
 rename_i g ver off;simp only [JL,Jh];by_cases a:g∈ns
 .simp only [a,if_true];cases h g with
  | none=>rfl
  | some o=>cases o<;>rfl
 .simp only [a,if_false]
theorem Jzq(g ver:AM):cur (Jh h ns) g ver=cur h g ver:=by
 simp only [cur,Jh];by_cases a:g∈ns
 .simp only [a,if_true];cases h g with
  | none=>rfl
  | some o=>cases o<;>rfl
 .simp only [a,if_false]
theorem J4f(g ver esz:AM):Ei (Jh h ns) g ver esz=Ei h g ver esz:=by
 simp only [Ei,Jh];by_cases a:g∈ns
 .simp only [a,if_true];cases h g with
  | none=>rfl
  | some o=>cases o<;>rfl
 .simp only [a,if_false]
theorem Jtc(g ver:AM):Zq (Jh h ns) g ver=Zq h g ver:=by
 simp only [Zq,Jh];by_cases a:g∈ns
 .simp only [a,if_true];cases h g with
  | none=>rfl
  | some o=>cases o<;>rfl
 .simp only [a,if_false]
theorem J80(g ver n esz k:AM):L6 g ver n esz (Jh h ns k)=L6 g ver n esz (h k):=by
 simp only [Jh];by_cases a:k∈ns
 .simp only [a,if_true];cases h k with
  | none=>rfl
  | some o=>cases o<;>rfl
 .simp only [a,if_false]
theorem Jlh:Jh h []=h:=by funext g;simp [Jh]
theorem Kbl(f:AM->AV)(h h':Heap)(x:LO):(St.mk f h).ev x=(St.mk f h').ev x:=by cases x<;>rfl
theorem J3b{call:Call}{base g0:AM}{f:AM->AV}{op:CO}{v:AV}{A:Heap}(w:op.still=AE)(d:Ja call base ⟨f,h⟩ g0 op=AC (v,A)) :
  A=h/\Ja call base ⟨f,Jh h ns⟩ g0 op=AC (v,Jh h ns):=by
 have E:∀x,(St.mk f (Jh h ns)).ev x=(St.mk f h).ev x:=λx=>Kbl f _ _ x;cases op<;>(try (simp [CO.still] at w;done))<;>simp only [Ja,E] at d ⊢
 case load ag n x=>
  obtain ⟨m,r⟩:=hOut d;refine ⟨r.symm,?_⟩;simp only [IY,Jsw] at m ⊢;rw [m]
 case Eo x=>
  split at d
  .rename_i g ver off hx;split at d
   .rename_i w;injection d with d;simp only [Aa] at d;obtain ⟨rfl,rfl⟩:=d;exact ⟨rfl,by rw [Jzq,AS w]⟩
   .cases d
  .injection d with d;simp only [Aa] at d;obtain ⟨rfl,rfl⟩:=d;exact ⟨rfl,rfl⟩
  .injection d with d;simp only [Aa] at d;obtain ⟨rfl,rfl⟩:=d;exact ⟨rfl,rfl⟩
  .injection d with d;simp only [Aa] at d;obtain ⟨rfl,rfl⟩:=d;exact ⟨rfl,rfl⟩
  .cases d
 case slc e x lo hi=>
  obtain ⟨m,r⟩:=hOut d;refine ⟨r.symm,?_⟩;have E2:(St.mk f (Jh h ns)).ev=(St.mk f h).ev:=funext E;simp only [E2];have:∀x lo hi,Ir (Jh h ns) e x lo hi=Ir h e x lo hi:=λx lo hi=>by cases x<;>simp only [Ir,J4f]
  rw [this,m]
 case Es off x=>
  obtain ⟨m,r⟩:=hOut d;refine ⟨r.symm,?_⟩;have:∀x,KZ (Jh h ns) off x=KZ h off x:=λx=>by cases x<;>simp only [KZ,Jzq]
  rw [this,m]
 case Er e x i=>
  obtain ⟨m,r⟩:=hOut d;refine ⟨r.symm,?_⟩;have:∀x i,JW (Jh h ns) e x i=JW h e x i:=λx i=>by cases x<;>cases i<;>simp only [JW,J4f]
  rw [this,m]
 case EP n e x i=>
  obtain ⟨m,r⟩:=hOut d;refine ⟨r.symm,?_⟩;have:∀x i,ZM (Jh h ns) n e x i=ZM h n e x i:=λx i=>by cases x<;>cases i<;>simp only [ZM,Jzq]
  rw [this,m]
 case len x=>
  have:∀x,Cw (Jh h ns) x=Cw h x:=λx=>by cases x<;>simp only [Cw,Jtc]
  rw [this];split at d
  .rename_i n B;injection d with d;simp only [Aa] at d;obtain ⟨rfl,rfl⟩:=d;exact ⟨rfl,rfl⟩
  .cases d
 case Ep ne x=>
  have:∀x,ZF (Jh h ns) x=ZF h x:=λx=>by
   cases x
   case arr g ver off len=>simp only [ZF,Jtc]
   case CF n l=>cases n<;>cases l<;>rfl
   all_goals rfl
  rw [this];split at d
  .rename_i n B;injection d with d;simp only [Aa] at d;obtain ⟨rfl,rfl⟩:=d;exact ⟨rfl,rfl⟩
  .cases d
 case Co g l=>
  cases l with
  | cons a l=>simp [CO.still] at w
  | nil=>
   have hs:∀h,Hg h []=AC ([],[]):=λh=>rfl;simp only [List.map_nil,hs] at d ⊢;split at d
   .rename_i u F y;rw [AS (.inl trivial)] at d;injection d with d;simp only [Aa] at d;obtain ⟨rfl,rfl⟩:=d;exact ⟨rfl,by rw [AS (.inl trivial)]⟩
   .cases d
 case LH n e x=>
  obtain ⟨m,r⟩:=hOut d;refine ⟨r.symm,?_⟩;have:∀x,bB (Jh h ns) n e x=bB h n e x:=λx=>by
   cases x<;>try rfl
   rename_i g ver off;cases off<;>simp only [bB,J80]
  rw [this,m]
theorem J9c{call:Call}{base g0:AM}{f:AM->AV}{op:CO}{v:AV}{d:Heap}(m:op.Hu=AE)(a:Ja call base ⟨f,h⟩ g0 op=AC (v,d)):∃ns,d=Jh h ns:=by
 cases op<;>(try (simp [CO.Hu] at m;done))<;>simp only [Ja] at a
 case Et g l=>
  split at a
  .split at a
   .injection a with a;simp only [Aa] at a;exact ⟨_,a.2.symm⟩
   .cases a
  .cases a
end
theorem Jvs{call:Call}{base:AM}{o:AP}{f:AM->AV}{h g:Heap}{v:AV}(d:o.op.Hu=AE)(a:EI call base o f h=AC (v,g)):∃ns,g=Jh h ns:=by
 unfold EI at a;split at a
 .exact J9c d a
 .split at a
  .split at a
   .exact J9c d a
   .injection a with a;simp only [Aa] at a;exact ⟨[],by rw [Jlh];exact a.2.symm⟩
  .injection a with a;simp only [Aa] at a;exact ⟨[],by rw [Jlh];exact a.2.symm⟩
  .cases a
theorem J8z{call:Call}{base:AM}{o:AP}{f:AM->AV}{h l:Heap}{v:AV}(g:o.op.still=AE)(a:EI call base o f h=AC (v,l))(ns:AG AM):l=h/\EI call base o f (Jh h ns)=AC (v,Jh h ns):=by
 unfold EI at a ⊢;split at a
 .exact J3b g a
 .split at a
  .split at a
   .rename_i d;rw [AS d];exact J3b g a
   .rename_i d;rw [AR d];injection a with a;simp only [Aa] at a;exact ⟨a.2.symm,by rw [a.1]⟩
  .injection a with a;simp only [Aa] at a;exact ⟨a.2.symm,by rw [a.1]⟩
  .cases a
theorem RX{call:Call}{base:AM}{i j:AP}{f:AM->AV}{h m w:Heap}{v1 v2:AV}{ds ds':AG AM}{op:CO}(hi:i.op=.GY ds op)(A:j.op.fB=AC ds')
  (hd:∀g,Cc base ds' g=AE->Cc base ds g=AE) (a:EI call base i f h=AC (v1,m)) (d:EI call base j f m=AC (v2,w)):m=h/\EI call base i f w=AC (v1,w):=by
 have v:Xb base ds w=Xb base ds m:=by
  unfold EI at d;split at d
  .exact wh A hd d
  .split at d
   .split at d
    .exact wh A hd d
    .injection d with d;simp only [Aa] at d;rw [d.2]
   .injection d with d;simp only [Aa] at d;rw [d.2]
   .cases d
 have main:∀g0,Ja call base ⟨f,h⟩ g0 (.GY ds op)=AC (v1,m)->m=h/\Ja call base ⟨f,w⟩ g0 (.GY ds op)=AC (v1,w):=λg0 l=>by
  have B:m=h:=(sU (op:=.GY ds op) rfl l).1;subst B;refine ⟨rfl,?_⟩;simp only [Ja] at l ⊢;rw [v];split at l
  .rename_i E;rw [AS E];cases hr:Ja call base ⟨f,Xb base ds m⟩ g0 op with
   | none=>rw [hr] at l;cases l
   | some r=>
    obtain ⟨u,F⟩:=r;rw [hr] at l;injection l with l;simp only [Aa] at l;obtain ⟨rfl,-⟩:=l;rfl
  .cases l
 unfold EI at a ⊢;rw [hi] at a ⊢;split at a
 .exact main _ a
 .split at a
  .split at a
   .rename_i y;rw [AS y];exact main _ a
   .rename_i y;rw [AR y];injection a with a;simp only [Aa] at a;exact ⟨a.2.symm,by rw [a.1]⟩
  .injection a with a;simp only [Aa] at a;exact ⟨a.2.symm,by rw [a.1]⟩
  .cases a
theorem Juz{h:Heap}{ns:AG AM}{g:AM}{ob:AU}(d:g∉ns):Jh (upd h g (AC ob)) ns=upd (Jh h ns) g (AC ob):=by
 funext k;by_cases a:k=g
 .subst a;rw [Jg];unfold Jh;rw [AR d,Jg]
 .rw [Jd _ _ _ _ a];unfold Jh;rw [Jd _ _ _ _ a]
theorem aI{call:Call}{base g0:AM}{f:AM->AV}{h:Heap}{ns:AG AM}{op:CO}{v:AV}{g:Heap}(l:op.ld=AE)(a:Ja call base ⟨f,Jh h ns⟩ g0 op=AC (v,g)) :
  g=Jh h ns/\Ja call base ⟨f,h⟩ g0 op=AC (v,h):=by
 have E:∀x,(St.mk f (Jh h ns)).ev x=(St.mk f h).ev x:=λx=>Kbl f _ _ x;cases op<;>(try (simp [CO.ld] at l;done))<;>simp only [Ja,E] at a ⊢
 case load ag n x=>
  obtain ⟨d,m⟩:=hOut a;refine ⟨m.symm,?_⟩;simp only [IY,Jsw] at d ⊢;rw [d]
theorem gX{call:Call}{base:AM}{o:AP}{f:AM->AV}{h l:Heap}{v:AV}{ns:AG AM}(g:o.op.ld=AE)(a:EI call base o f (Jh h ns)=AC (v,l)):l=Jh h ns/\EI call base o f h=AC (v,h):=by
 unfold EI at a ⊢;split at a
 .exact aI g a
 .split at a
  .split at a
   .rename_i d;rw [AS d];exact aI g a
   .rename_i d;rw [AR d];injection a with a;simp only [Aa] at a;exact ⟨a.2.symm,by rw [a.1]⟩
  .injection a with a;simp only [Aa] at a;exact ⟨a.2.symm,by rw [a.1]⟩
  .cases a
theorem Jzb{call:Call}{base g0:AM}{f:AM->AV}{op:CO}{v:AV}{h w:Heap}(A:op.Hu=AE)(a:Ja call base ⟨f,h⟩ g0 op=AC (v,w)){g:AM}{ob:AU}(r:h g=AD) :
  Ja call base ⟨f,upd h g (AC ob)⟩ g0 op=AC (v,upd w g (AC ob)):=by
 have evf:∀h h',(St.mk f h).ev=(St.mk f h').ev:=λh h'=>funext λx=>by cases x<;>rfl
 cases op<;>(try (simp [CO.Hu] at A;done))<;>simp only [Ja] at a ⊢
 case Et f' l=>
  rw [evf _ h];split at a
  .rename_i vs ns hs;split at a
   .rename_i u B d;injection a with a;simp only [Aa] at a;obtain ⟨rfl,rfl⟩:=a;have:g∉ns:=λy=>by obtain ⟨o,m,_⟩:=uX hs g y;rw [r] at m;cases m
    simp only [Jm9 r hs,d,Juz this]
   .cases a
  .cases a
theorem Jum{call:Call}{base:AM}{o:AP}{f:AM->AV}{h r:Heap}{v:AV}(m:o.op.Hu=AE)(a:EI call base o f h=AC (v,r)){g:AM}{ob:AU}(l:h g=AD) :
  EI call base o f (upd h g (AC ob))=AC (v,upd r g (AC ob)):=by
 unfold EI at a ⊢;split at a
 .exact Jzb m a l
 .split at a
  .split at a
   .rename_i d;rw [AS d];exact Jzb m a l
   .rename_i d;rw [AR d];injection a with a;simp only [Aa] at a;rw [a.1,a.2]
  .injection a with a;simp only [Aa] at a;rw [a.1,a.2]
  .cases a
theorem xP{α:Type}(f:AM->α){d e:AM}(u v:α)(h:d≠e):upd (upd f d u) e v=upd (upd f e v) d u:=by funext n;unfold upd;by_cases g:n=e<;>by_cases a:n=d<;>simp_all
theorem J6z{h:Heap}{g:AM}{ob:AU}(a:h g=AD){x:AV}{n:AI}(hs:Cw h x=AC n):Cw (upd h g (AC ob)) x=AC n:=by
 cases x<;>try exact hs
 rename_i f ver off len;simp only [Cw] at hs ⊢;split at hs
 .rename_i d;rw [AS (Jkl a d)];exact hs
 .cases hs
theorem J1a{h:Heap}{g esz:AM}{ob:AU}(d:h g=AD){x:AV}{l:AG AV}(hs:Iq h esz x=AC l):Iq (upd h g (AC ob)) esz x=AC l:=by
 cases x<;>try exact hs
 rename_i f ver off len;simp only [Iq] at hs ⊢;split at hs
 .rename_i a;rw [Jan d a];exact hs
 .cases hs
theorem Jzk{h G:Heap}{g g0 esz bytes:AM}{el:TypeId}{x y v:AV}{ob:AU}(r:h g=AD)(w:g0≠g)(a:EN h g0 esz bytes el x y=AC (v,G)):EN (upd h g (AC ob)) g0 esz bytes el x y=AC (v,upd G g (AC ob)):=by
 unfold EN at a;split at a
 .rename_i m new hl K;have E:=J6z (ob:=ob) r hl;have B:=J1a (ob:=ob) r K;have J:Kh (upd h g (AC ob)) g0=Kh h g0:=by unfold Kh;rw [Jd _ _ _ _ w]
  unfold EN;rw [E,B,J];split at a
  .simp only;split at a
   .rename_i d;rw [AS d];injection a with a;simp only [Aa] at a;obtain ⟨rfl,rfl⟩:=a;rfl
   .rename_i d;rw [AR d];split at a
    .rename_i F;rw [AS F];injection a with a;simp only [Aa] at a;obtain ⟨rfl,rfl⟩:=a;rw [xP _ _ _ w]
    .cases a
  .rename_i H ver off len;simp only;split at a
   .rename_i ver' esz' el' cells f;have A:H≠g:=by rintro rfl;rw [r] at f;cases f
    rw [Jan r f];simp only;split at a
    .rename_i d;rw [AS d];split at a
     .rename_i l;rw [AS l];injection a with a;simp only [Aa] at a;obtain ⟨rfl,rfl⟩:=a;rfl
     .rename_i l;rw [AR l];injection a with a;simp only [Aa] at a;obtain ⟨rfl,rfl⟩:=a;rw [xP _ _ _ A]
    .cases a
   .rename_i ver' esz' el' cells f;have A:H≠g:=by rintro rfl;rw [r] at f;cases f
    rw [Jan r f];simp only;split at a
    .rename_i d;rw [AS d];injection a with a;simp only [Aa] at a;obtain ⟨rfl,rfl⟩:=a;rfl
    .cases a
   .cases a
  .simp only;split at a
   .rename_i d;rw [AS d];injection a with a;simp only [Aa] at a;obtain ⟨rfl,rfl⟩:=a;rfl
   .cases a
  .cases a
 .cases a
theorem J4h{call:Call}{base g0:AM}{f:AM->AV}{op:CO}{v:AV}{h m:Heap}(w:op.iK=AE)(a:Ja call base ⟨f,h⟩ g0 op=AC (v,m)){g:AM}{ob:AU}(l:h g=AD)(d:g0≠g) :
  Ja call base ⟨f,upd h g (AC ob)⟩ g0 op=AC (v,upd m g (AC ob)):=by
 have evf:∀h h',(St.mk f h).ev=(St.mk f h').ev:=λh h'=>funext λx=>by cases x<;>rfl
 cases op<;>(try (simp [CO.iK] at w;done))<;>simp only [Ja] at a ⊢
 case app esz bytes el zz x y=>
  rw [evf _ h];exact Jzk l d a
 case KN ds esz bytes el zz x y=>
  rw [evf _ h];unfold Mh at a ⊢;split at a
  .rename_i r;rw [AS r];exact Jzk l d a
  .cases a
theorem Jw8{call:Call}{base:AM}{o:AP}{f:AM->AV}{h w:Heap}{v:AV}(r:o.op.iK=AE)(a:EI call base o f h=AC (v,w)){g:AM}{ob:AU}(m:h g=AD)(d:base+o.dst.getD 0≠g) :
  EI call base o f (upd h g (AC ob))=AC (v,upd w g (AC ob)):=by
 unfold EI at a ⊢;split at a
 .exact J4h r a m d
 .split at a
  .split at a
   .rename_i l;rw [AS l];exact J4h r a m d
   .rename_i l;rw [AR l];injection a with a;simp only [Aa] at a;rw [a.1,a.2]
  .injection a with a;simp only [Aa] at a;rw [a.1,a.2]
  .cases a
theorem Jxd{h m:Heap}{g g0 esz bytes:AM}{el:TypeId}{x y v:AV}(a:EN h g0 esz bytes el x y=AC (v,m))(l:m g=AD):h g=AD:=by
 have key:∀(k:AM) (o:AU),upd h k (AC o) g=AD->h g=AD:=λk o f=>by
  by_cases d:g=k
  .subst d;rw [Jg] at f;cases f
  .rwa [Jd _ _ _ _ d] at f
 unfold EN at a
 (repeat' split at a)<;>first|(cases a;done)|(injection a with a;simp only [Aa] at a;obtain ⟨-,rfl⟩:=a;first|exact l|exact key _ _ l)
theorem SK{call:Call}{base:AM}{o:AP}{f:AM->AV}{h m:Heap}{v:AV}{g:AM}(r:o.op.iK=AE)(a:EI call base o f h=AC (v,m))(d:m g=AD):h g=AD:=by
 have main:∀g0,Ja call base ⟨f,h⟩ g0 o.op=AC (v,m)->h g=AD:=λg0 a=>by
  cases l:o.op<;>rw [l] at r a<;>(try (simp [CO.iK] at r;done))<;>simp only [Ja] at a
  .exact Jxd a d
  .unfold Mh at a;split at a
   .exact Jxd a d
   .cases a
 unfold EI at a;split at a
 .exact main _ a
 .split at a
  .split at a
   .exact main _ a
   .injection a with a;simp only [Aa] at a;rw [a.2];exact d
  .injection a with a;simp only [Aa] at a;rw [a.2];exact d
  .cases a
theorem J5s{σ:St}{d e:AH AM}{u v:AV}{l h g f:Heap}(a:∀x,d=AC x->e≠AC x):((σ.put d u l).put e v g).f=((σ.put e v h).put d u f).f:=by cases d<;>cases e<;>simp only [St.put];rename_i d e;exact xP σ.f u v (by rintro rfl;exact a d rfl rfl)
theorem vL{σ:St}{d:AH AM}{u:AV}{h:Heap}:(σ.put d u h).h=h:=by cases d<;>rfl
theorem Jpu{σ:St}{d:AH AM}{u:AV}{h:Heap}{n:AM}(a:d≠AC n):(σ.put d u h).f n=σ.f n:=by
 cases d with
 | none=>rfl
 | some d=>exact Jd _ _ _ _ (by rintro rfl;exact a rfl)
theorem St.ext'{σ τ:St}(d:σ.f=τ.f)(a:σ.h=τ.h):σ=τ:=by cases σ;cases τ;simp_all
theorem Jow{call:Call}{base:AM}{o:AP}{σ σ':St}(h:jb call base o σ=AC σ') :
  (o.op.BX=AE->σ.h (base+o.dst.getD 0)=AD)/\∃v a,EI call base o σ.f σ.h=AC (v,a)/\σ'=σ.put o.dst v a:=by
 unfold jb at h;split at h
 .cases h
 .rename_i d;rw [Jts] at h;obtain ⟨⟨v,a⟩,l,g⟩:=Yd h;refine ⟨λhi=>?_,v,a,l,g⟩;cases f:σ.h (base+o.dst.getD 0) with
  | none=>rfl
  | some x=>exact absurd ⟨hi,by rw [f];rfl⟩ d
theorem Jtu{call:Call}{base:AM}{o:AP}{σ:St}{v:AV}{a:Heap}(f:o.op.BX=AE->σ.h (base+o.dst.getD 0)=AD)(g:EI call base o σ.f σ.h=AC (v,a)):jb call base o σ=AC (σ.put o.dst v a):=by unfold jb;rw [AR (by rintro ⟨a,d⟩;rw [f a] at d;cases d),Jts,g];rfl
theorem Jsq{call:Call}{base:AM}{j:AP}{ds:AG AM}{op:CO}(d:j.op=.GY ds op){f:AM->AV}{h k:Heap}{v:AV}(em:Xb base ds k=Xb base ds h)(a:EI call base j f k=AC (v,k)) :
  EI call base j f h=AC (v,h):=by
 have main:∀g0,Ja call base ⟨f,k⟩ g0 j.op=AC (v,k)->Ja call base ⟨f,h⟩ g0 j.op=AC (v,h):=λg0 a=>by
  rw [d] at a ⊢;simp only [Ja] at a ⊢;split at a
  .rename_i l;rw [AS l];rw [em] at a;cases hr:Ja call base ⟨f,Xb base ds h⟩ g0 op with
   | none=>rw [hr] at a;cases a
   | some r=>
    obtain ⟨u,k⟩:=r;rw [hr] at a;simp only [fF,Option.some.injEq,Aa] at a ⊢;exact ⟨a.1,trivial⟩
  .cases a
 unfold EI at a ⊢;split at a
 .exact main _ a
 .split at a
  .split at a
   .rename_i g;rw [AS g];exact main _ a
   .rename_i g;rw [AR g];injection a with a;simp only [Aa] at a;rw [a.1]
  .injection a with a;simp only [Aa] at a;rw [a.1]
  .cases a
theorem J1i{call:Call}{base:AM}{j:AP}{ds:AG AM}{op:CO}(a:j.op=.GY ds op){g:AM}(l:Cc base ds g=AE){f:AM->AV}{h:Heap}{ob:AU}{v:AV}(m:EI call base j f (upd h g (AC ob))=AC (v,upd h g (AC ob))) :
  EI call base j f h=AC (v,h):=by
 refine Jsq a ?_ m;funext k;unfold Xb;by_cases d:k=g
 .subst d;rw [AS l,AS l]
 .rw [Jd _ _ _ _ d]
theorem O7{call:Call}{base:AM}{j:AP}{f:AM->AV}{l h:Heap}{v2:AV}{ds ds':AG AM}(d:j.op.fB=AC ds')(hd:∀g,Cc base ds' g=AE->Cc base ds g=AE)(a:EI call base j f l=AC (v2,h)):Xb base ds h=Xb base ds l:=by
 unfold EI at a;split at a
 .exact wh d hd a
 .split at a
  .split at a
   .exact wh d hd a
   .injection a with a;simp only [Aa] at a;rw [a.2]
  .injection a with a;simp only [Aa] at a;rw [a.2]
  .cases a
theorem swap{call:Call}{base:AM}{i j:AP}{σ σ1 σ2:St}(hi:au i j=AE)(X:jb call base i σ=AC σ1)(R:jb call base j σ1=AC σ2) :
  ∃σ',jb call base j σ=AC σ'/\jb call base i σ'=AC σ2:=by
 simp only [au,Ad] at hi;obtain ⟨⟨⟨⟨Y,t2⟩,t3⟩,t4⟩,t5⟩:=hi;have a1:∀n∈j.looks,i.dst≠AC n:=λn a e=>by rw [e] at Y;simp at Y;exact Y.1 a
 have a2:∀n∈i.looks,j.dst≠AC n:=λn a e=>by rw [e] at t2;simp at t2;exact t2 a
 have a3:∀x,i.dst=AC x->j.dst≠AC x:=λx e=>by rw [e] at Y;simp at Y;exact Y.2
 have a3':∀x,j.dst=AC x->i.dst≠AC x:=λx e e'=>a3 x e' e;obtain ⟨L,v1,g1,B,rfl⟩:=Jow X;obtain ⟨K,v2,O,e2,rfl⟩:=Jow R;rw [vL] at K e2;have m:EI call base j σ.f g1=AC (v2,O):=by rw [<-e2];exact Jwy λn a=>(Jpu (a1 n a)).symm
 obtain ⟨i0,i1,i2⟩:=Ka2 B L;obtain ⟨j0,j1,j2⟩:=Ka2 m K;have fin:∀k,(j.op.BX=AE->σ.h (base+j.dst.getD 0)=AD)->EI call base j σ.f σ.h=AC (v2,k)->(i.op.BX=AE->k (base+i.dst.getD 0)=AD)->EI call base i σ.f k=AC (v1,O) ->
   ∃σ',jb call base j σ=AC σ'/\jb call base i σ'=AC ((σ.put i.dst v1 g1).put j.dst v2 O):=by
  intro k q1 Z q3 q4;refine ⟨σ.put j.dst v2 k,Jtu q1 Z,?_⟩;have:EI call base i (σ.put j.dst v2 k).f (σ.put j.dst v2 k).h=AC (v1,O):=by rw [vL,<-q4];exact Jwy λn a=>Jpu (a2 n a)
  rw [Jtu (by rw [vL];exact q3) this]
  congr 1
  exact St.ext' (J5s a3') (by rw [vL,vL])
 have notnew:∀ {o:AP} {n:AM},o.op.cls=n->n≠2->o.op.BX=AE->False:=λ{o n} h a hnew=>a (h▸PO hnew);simp only [Bool.or_eq_true,Ad,beq_iff_eq] at t3;by_cases c0:i.op.cls=0
 .obtain ⟨rfl,r⟩:=i0 c0;exact fin O K m (λh=>(notnew c0 (by decide) h).elim) (r O)
 .by_cases d0:j.op.cls=0
  .obtain ⟨rfl,r⟩:=j0 d0;exact fin σ.h (λh=>(notnew d0 (by decide) h).elim) (r σ.h) L B
  .rcases t3 with ((((((((((t3|t3)|t3)|t3)|t3)|t3)|t3)|t3)|t3)|t3)|t3)
   .exact (c0 t3).elim
   .exact (d0 t3).elim
   .obtain ⟨c1,t3⟩:=t3;obtain ⟨rfl,r⟩:=i1 c1;rcases t3 with d1|H
    .obtain ⟨rfl,_⟩:=j1 d1;exact fin σ.h K m L B
    .rcases j2 H with ⟨rfl,_⟩|⟨ob,rfl,_⟩
     .exact fin σ.h K m L B
     .exact fin _ K m (λh=>(notnew c1 (by decide) h).elim) (r _ ob (K (nE H)))
   .obtain ⟨c2,H⟩:=t3;have hj:j.op.BX=AE:=nE H;have hni:i.op.BX=AE:=nE c2;have F:base+j.dst.getD 0≠base+i.dst.getD 0:=by
     rw [c2] at t4;rw [H] at t5;cases G:i.dst with
     | none=>rw [G] at t4;simp at t4
     | some x=>
      cases M:j.dst with
      | none=>rw [M] at t5;simp at t5
      | some y=>
       have:=a3 x G;rw [M] at this;simp;rintro rfl;exact this rfl
    rcases i2 c2 with ⟨rfl,r⟩|⟨oi,rfl,r⟩
    .rcases j2 H with ⟨rfl,_⟩|⟨oj,rfl,_⟩
     .exact fin σ.h K m L B
     .exact fin _ K m (λh=>by rw [Jd _ _ _ _ F.symm];exact L h) (r _)
    .have Q:σ.h (base+j.dst.getD 0)=AD:=by have:=K hj;rwa [Jd _ _ _ _ F] at this
     rcases j2 H with ⟨rfl,q⟩|⟨oj,rfl,q⟩
     .exact fin σ.h (λ_=>Q) (q σ.h) L B
     .refine fin _ (λ_=>Q) (q σ.h Q) (λh=>by rw [Jd _ _ _ _ F.symm];exact L h) ?_;rw [r _ (by rw [Jd _ _ _ _ F.symm];exact L hni)];rw [xP _ _ _ F]
   .obtain ⟨hs,E⟩:=t3;have v:j.op.BX=AE->False:=λa=>by cases l:j.op<;>rw [l] at E a<;>simp [CO.Hu,CO.BX] at E a
    have w:i.op.BX=AE->False:=λa=>by cases l:i.op<;>rw [l] at hs a<;>simp [CO.still,CO.BX] at hs a
    obtain ⟨ns,hg2⟩:=Jvs E m;obtain ⟨q1,Z⟩:=J8z hs B ns;subst q1;rw [<-hg2] at Z;exact fin O (λh=>(v h).elim) m (λh=>(w h).elim) Z
   .obtain ⟨ds,op,ds',J,A,N⟩:∃ds op ds',i.op=.GY ds op/\j.op.fB=AC ds'/\(ds'.all λd=>ds.contains d)=AE:=by
     unfold CO.past at t3;split at t3
     .rename_i ds op ds' X R;exact ⟨_,_,_,X,R,t3⟩
     .cases t3
    have v:j.op.BX=AE->False:=λa=>by cases l:j.op<;>rw [l] at A a<;>first|(cases A;done)|(cases a;done)
    have w:i.op.BX=AE->False:=λa=>by rw [J] at a;cases a
    have hd:∀g,Cc base ds' g=AE->Cc base ds g=AE:=λg Q=>by obtain ⟨d,hd,e⟩:=Av.1 Q;exact Av.2 ⟨d,by simpa using Af.1 N d hd,e⟩
    obtain ⟨q1,Z⟩:=RX J A hd B m;subst q1;exact fin O (λh=>(v h).elim) m (λh=>(w h).elim) Z
   .obtain ⟨E,H⟩:=t3;have v:j.op.BX=AE:=nE H;have w:i.op.BX=AE->False:=λa=>by cases l:i.op<;>rw [l] at E a<;>simp [CO.Hu,CO.BX] at E a
    obtain ⟨ns,P⟩:=Jvs E B;have f:σ.h (base+j.dst.getD 0)=AD:=by
     have:=K v;rw [P] at this;unfold Jh at this;split at this
     .cases ho:σ.h (base+j.dst.getD 0) with
      | none=>rfl
      | some o=>rw [ho] at this;cases this
     .exact this
    rcases j2 H with ⟨rfl,q⟩|⟨oj,rfl,q⟩
    .exact fin σ.h (λ_=>f) (q σ.h) (λh=>(w h).elim) B
    .exact fin _ (λ_=>f) (q σ.h f) (λh=>(w h).elim) (Jum E B f)
   .obtain ⟨⟨E,di⟩,H⟩:=t3;have v:j.op.BX=AE:=nE H;have w:i.op.BX=AE->False:=λa=>by cases l:i.op<;>rw [l] at E a<;>simp [CO.iK,CO.BX] at E a
    have f:σ.h (base+j.dst.getD 0)=AD:=SK E B (K v);have F:base+i.dst.getD 0≠base+j.dst.getD 0:=by
     rw [H] at t5;cases G:i.dst with
     | none=>rw [G] at di;simp at di
     | some x=>
      cases M:j.dst with
      | none=>rw [M] at t5;simp at t5
      | some y=>
       have:=a3 x G;rw [M] at this;simp;rintro rfl;exact this rfl
    rcases j2 H with ⟨rfl,q⟩|⟨oj,rfl,q⟩
    .exact fin σ.h (λ_=>f) (q σ.h) (λh=>(w h).elim) B
    .exact fin _ (λ_=>f) (q σ.h f) (λh=>(w h).elim) (Jw8 E B f F)
   .obtain ⟨c2,t3⟩:=t3;obtain ⟨ds,op,x,A,G,hx⟩:∃ds op x,j.op=.GY ds op/\i.dst=AC x/\ds.contains x=AE:=by
     unfold CO.pq at t3;split at t3
     .rename_i ds op x X R;exact ⟨_,_,_,X,R,t3⟩
     .cases t3
    have v:j.op.BX=AE->False:=λa=>by rw [A] at a;cases a
    have d1:j.op.cls=1:=by rw [A];rfl
    obtain ⟨rfl,-⟩:=j1 d1;rcases i2 c2 with ⟨rfl,r⟩|⟨oi,rfl,r⟩
    .exact fin σ.h (λh=>(v h).elim) m L B
    .refine fin σ.h (λh=>(v h).elim) (J1i A ?_ m) L B;rw [G];exact Av.2 ⟨x,by simpa using hx,by simp⟩
   .obtain ⟨ds,op,ds',A,J,N⟩:∃ds op ds',j.op=.GY ds op/\i.op.fB=AC ds'/\(ds'.all λd=>ds.contains d)=AE:=by
     unfold CO.past at t3;split at t3
     .rename_i ds op ds' X R;exact ⟨_,_,_,X,R,t3⟩
     .cases t3
    have v:j.op.BX=AE->False:=λa=>by rw [A] at a;cases a
    have w:i.op.BX=AE->False:=λa=>by cases l:i.op<;>rw [l] at J a<;>first|(cases J;done)|(cases a;done)
    have d1:j.op.cls=1:=by rw [A];rfl
    obtain ⟨rfl,-⟩:=j1 d1;have hd:∀g,Cc base ds' g=AE->Cc base ds g=AE:=λg Q=>by obtain ⟨d,hd,e⟩:=Av.1 Q;exact Av.2 ⟨d,by simpa using Af.1 N d hd,e⟩
    exact fin σ.h (λh=>(v h).elim) (Jsq A (O7 J hd B) m) (λh=>(w h).elim) B
   .obtain ⟨E,hl⟩:=t3;have v:j.op.BX=AE->False:=λa=>by cases l:j.op<;>rw [l] at hl a<;>simp [CO.ld,CO.BX] at hl a
    have w:i.op.BX=AE->False:=λa=>by cases l:i.op<;>rw [l] at E a<;>simp [CO.Hu,CO.BX] at E a
    obtain ⟨ns,P⟩:=Jvs E B;subst P;obtain ⟨rfl,q⟩:=gX hl m;exact fin σ.h (λh=>(v h).elim) q (λh=>(w h).elim) B
theorem bubble{call:Call}{base:AM}{j:AP}:∀ {A B:AG AP} {σ σf:St},(∀i∈A,au i j=AE)->je call base (A++j::B) σ=AC σf->∃σ',jb call base j σ=AC σ'/\je call base (A++B) σ'=AC σf
 | [],B,σ,σf,_,h=>by
  simp only [List.nil_append,je] at h ⊢;split at h
  .rename_i σ' h';exact ⟨σ',h',h⟩
  .cases h
 | i::A,B,σ,σf,hA,h=>by
  simp only [List.cons_append,je] at h ⊢;split at h
  .rename_i σ1 m;obtain ⟨σ2,l,g⟩:=bubble (λk f=>hA k (Am _ f)) h;obtain ⟨σ',d,a⟩:=swap (hA i (Ak ..)) m l;refine ⟨σ',d,?_⟩;rw [a];exact g
  .cases h
def dep(ops:Array Oper)(p q:AM):AN:=((ops[p]?).map λo=>o.after.any λe=>Region.binds .any e&&e.on==q).getD AF
def Iw(P:Program)(cm:AG (AM×CM))(nt:AM)(ops:Array Oper):AG AM->AH (AG (AM×AP))
  | []=>AC []
  | i::r=>
    match ops[i]? with
    | some o=>(match comp P cm nt ops o,Iw P cm nt ops r with|some x,AC l=>AC ((i,x)::l)|_,_=>AD)
    | none=>AD
inductive Lr (ops:Array Oper):AM->AM->Prop where
  | one {k i:AM} (h:dep ops i k=AE):Lr ops k i
  | more {k x i:AM} (h:dep ops i x=AE) (hx:Lr ops k x):Lr ops k i
def rQ(ops:Array Oper)(p:AM×AP):AG AM->AG (AM×AP)->AN
  | _,[]=>AE
  | acc,q::r=>
    !dep ops p.1 q.1&&p.1 != q.1&&(if dep ops q.1 p.1 || acc.any (λx=>dep ops q.1 x) then rQ ops p (q.1::acc) r else au p.2 q.2&&rQ ops p acc r)
def rR(ops:Array Oper):AG (AM×AP)->AN
  | []=>AE
  | p::r=>rQ ops p [] r&&!dep ops p.1 p.1&&rR ops r
theorem Jmy{ops:Array Oper}{p:AM×AP}:∀ {r:AG (AM×AP)} {acc:AG AM},rQ ops p acc r=AE->(∀x∈acc,Lr ops p.1 x)->∀q∈r,dep ops p.1 q.1=AF/\(Lr ops p.1 q.1\/au p.2 q.2=AE)/\p.1≠q.1
  | [],_,_,_,q,f=>by cases f
  | q::r,acc,h,a,x,hx=>by
    simp only [rQ,Ad,Ba,bne_iff_ne,ne_eq] at h;obtain ⟨⟨m,l⟩,d⟩:=h;split at d
    . rename_i hd
      have f:Lr ops p.1 q.1:=by
        simp only [Bool.or_eq_true,Av] at hd;rcases hd with hd|⟨y,g,hd⟩
        . exact .one hd
        . exact .more hd (a y g)
      rcases Ah.1 hx with rfl|hx
      . exact ⟨m,.inl f,l⟩
      . exact Jmy d (λy g=>(Ah.1 g).elim (λe=>e▸f) (a y)) x hx
    . simp only [Ad] at d
      rcases Ah.1 hx with rfl|hx
      . exact ⟨m,.inr d.1,l⟩
      . exact Jmy d.2 a x hx
def mG(ops:Array Oper)(L:AG (AM×AP)):AN:=
  rR ops L&&L.length==ops.size&&((List.range ops.size).all λi=>(L.map (·.1)).contains i)&&ops.all λo=>o.after.all λe=>decide (e.on<ops.size)
theorem Jl5{ops:Array Oper}:∀ {L:AG (AM×AP)},rR ops L=AE->L.Pairwise (λp q=>dep ops p.1 q.1=AF/\(Lr ops p.1 q.1\/au p.2 q.2=AE)/\p.1≠q.1)/\∀p∈L,dep ops p.1 p.1=AF
  | [],_=>⟨.nil,λp d=>by cases d⟩
  | p::r,h=>by
    simp only [rR,Ad,Ba] at h;obtain ⟨⟨v,m⟩,l⟩:=h;obtain ⟨g,f⟩:=Jl5 l;refine ⟨Aw.2 ⟨Jmy v (λx hx=>by cases hx),g⟩,λq a=>?_⟩;rcases Ah.1 a with rfl|a
    . exact m
    . exact f q a
theorem Lr.listed{ops:Array Oper}{X:AM->Prop}(hX:∀x,X x->∀k,dep ops x k=AE->X k){k i:AM}(h:Lr ops k i):(∀k,dep ops i k=AE->X k)->X k:=by
  induction h with
  | one h=>exact λhi=>hi _ h
  | more h _ a=>exact λhi=>a (hX _ (hi _ h))
theorem Jpq{P:Program}{cm:AG (AM×CM)}{nt:AM}{ops:Array Oper}:∀ {l:AG AM} {L:AG (AM×AP)},Iw P cm nt ops l=AC L->∀p∈L,∃o,ops[p.1]?=AC o/\comp P cm nt ops o=AC p.2
  | [],L,h,p,a=>by simp [Iw] at h;subst h;cases a
  | i::r,L,h,p,a=>by
    unfold Iw at h;split at h
    . rename_i o d
      split at h
      . rename_i x l hx hl
        injection h with h;subst h;rcases Ah.1 a with rfl|a
        . exact ⟨o,d,hx⟩
        . exact Jpq hl p a
      . cases h
    . cases h
theorem J0n{call:Call}{base:AM}{o:AP}{σ σ':St}(h:jb call base o σ=AC σ'):jp call base o σ=AC σ':=by
  unfold jb at h;split at h
  . cases h
  . exact h
section
variable {ro:AH AM} {P:Program} {nt:AM} {ops:Array Oper} {call:Call} {base:AM} {Q:Exit->Act->World->Prop}
theorem J8g(H:JJ P call)(hin:∀o∈ops,∀e∈o.after,e.on<ops.size):∀(m:AM) {R:AG AM} (fuel:AM) {listed:Array AN} {L:AG (AM×AP)} {w:World} {S:AM->Prop} {σ σf:St} {μ:Gh} {a:Act},L.length=fuel->listed.size=ops.size ->
    (∀p∈L,∃(cm:AG (AM×CM)) (o:Oper) (x:AP),ops[p.1]?=AC o/\comp P cm nt ops o=AC x/\∀σ σ',jp call base p.2 σ=AC σ'->jp call base x σ=AC σ')->(∀k,k<ops.size->(listed.getD k AE=AF↔k∈L.map (·.1)\/k∈R))->(∀i∈R,∀p∈L,Lr ops p.1 i/\dep ops p.1 i=AF/\p.1≠i) ->
    L.Pairwise (λp q=>dep ops p.1 q.1=AF/\(Lr ops p.1 q.1\/au p.2 q.2=AE)/\p.1≠q.1)->(∀p∈L,dep ops p.1 p.1=AF) ->
    (∀x,(x<ops.size/\x∉L.map (·.1)/\x∉R)->∀k,dep ops x k=AE->k<ops.size/\k∉L.map (·.1)/\k∉R) ->
    DN nt w S σ μ a->je call base (L.map (·.2)) σ=AC σf ->
    (∀listed' a' w' S' μ',listed'.size=ops.size->(∀k,k<ops.size->(listed'.getD k AE=AF↔k∈R))->a'.defers=a.defers->DN nt w' S' σf μ' a'->CY w S σ.h μ w' S' σf.h μ'->Cg σ.h μ σf.h μ'->wpAnyIn (Fr ro) 0 P .any ops Q m listed' a' w')->wpAnyIn (Fr ro) 0 P .any ops Q (m+fuel) listed a w
  | m,R,0,listed,L,w,S,σ,σf,μ,a,l,hsz,y,hl,hR,_,_,_,hs,he,hQ=>by have:L=[]:=List.eq_nil_of_length_eq_zero l;subst this;simp [je] at he;subst he;exact hQ listed _ _ _ _ hsz (λk E=>by rw [hl k E];simp) rfl hs .refl (.refl _ _)
  | m,R,fuel+1,listed,L,w,S,σ,σf,μ,a,l,hsz,y,hl,hR,M,F,hcl,hs,he,hQ=>by
    have hgd:∀k,k<ops.size->(listed.getD k AE=AF↔listed.getD k AF=AF):=λk E=>by
      have:k<listed.size:=by omega
      simp [this]
    refine ⟨λhr=>?_,λi hi=>?_⟩
    . exfalso
      cases L with
      | nil=>simp at l
      | cons p r=>
        obtain ⟨cm,o,_,J,_⟩:=y p (Ak ..);have hp:p.1<ops.size:=(Ab.1 J).1;have:p.1∈Region.ready .any ops listed:=by
          refine mem_ready.2 ⟨(hl p.1 hp).2 (.inl (by simp)),o,J,λe G hb=>?_⟩;have hlt:=hin o (Bb J) e G;cases hle:listed.getD e.on AF with
          | true=>rfl
          | false=>
            exfalso;have:=(hl e.on hlt).1 ((hgd e.on hlt).2 hle);have f:dep ops p.1 e.on=AE:=by
              simp only [dep,J,Ay,Bo];exact Bk.2 (by obtain ⟨n,hn,e'⟩:=As G;exact ⟨n,hn,by rw [e'];simp [hb]⟩)
            simp only [Bg,Ah] at this;rcases this with (h1|h1)|h1
            rotate_left 2
            . have:=(hR _ h1 p (Ak ..)).2.1
              rw [this] at f;cases f
            . rw [h1,F p (Ak ..)] at f;cases f
            . obtain ⟨q,v,h2⟩:=Bj.1 h1
              have:=(Aw.1 M).1 q v;rw [<-h2,this.1] at f;cases f
        rw [hr] at this;cases this
    . obtain ⟨h1,o,J,O⟩:=mem_ready.1 hi
      have hi':i<ops.size:=(Ab.1 J).1;have Y:∀k,dep ops i k=AE->k<ops.size/\k∉L.map (·.1)/\k∉R:=by
        intro k hd;simp only [dep,J,Ay,Bo] at hd;obtain ⟨n,hn,hx⟩:=Bk.1 hd;simp only [Ad,beq_iff_eq] at hx;have G:=O (o.after[n]) (Bl hn) hx.1;have E:=hin o (Bb J) (o.after[n]) (Bl hn);rw [hx.2] at G E;have key:¬(k∈L.map (·.1)\/k∈R):=λhm=>by have:=(hl k E).2 hm;rw [hgd k E,G] at this;cases this
        exact ⟨E,λq=>key (.inl q),λq=>key (.inr q)⟩
      have hiL:i∈L.map (·.1):=by
        rcases (hl i hi').1 h1 with q|q
        . exact q
        . exfalso
          cases L with
          | nil=>simp at l
          | cons p r=>
            have:=(hR i q p (Ak ..)).1.listed (X:=λx=>x<ops.size/\x∉(p::r).map (·.1)/\x∉R) hcl Y;exact this.2.1 (by simp)
      obtain ⟨p,hp,rfl⟩:=Bj.1 hiL;obtain ⟨A,B,rfl⟩:=List.append_of_mem hp;obtain ⟨cm,o',x',N,hc,hrf⟩:=y p hp;rw [J] at N;injection N with N;subst N;have d:=Y;have hA:∀q∈A,dep ops q.1 p.1=AF/\au q.2 p.2=AE/\q.1≠p.1:=by
        intro q v;have hpq:=(Bz.1 M).2.2 q v p (Ak ..);refine ⟨hpq.1,?_,hpq.2.2⟩;rcases hpq.2.1 with hd|hd
        . exfalso
          have:=hd.listed (X:=λx=>x<ops.size/\x∉(A++p::B).map (·.1)/\x∉R) hcl d;exact this.2.1 (Bj.2 ⟨q,Ar _ v,rfl⟩)
        . exact hd
      simp only [Bs,Bg] at he;obtain ⟨σ',b1,b2⟩:=bubble (λk E=>by obtain ⟨q,v,rfl⟩:=Bj.1 E;exact (hA q v).2.1) he;have hB:∀q∈B,p.1≠q.1:=λq v=>((Aw.1 (Bz.1 M).2.1).1 q v).2.2;unfold wpOpIn;simp only [J];have g:=wN (K:=wpAnyIn (Fr ro) 0 P .any ops Q (m+fuel) (listed.setIfInBounds p.1 AE)) (Q:=Q) (ro:=ro) H hs hc (hrf _ _ (J0n b1)) λa1 w1 S1 μ1 r0 r1 r2 r3=>by
        refine J8g H hin m (R:=R) fuel (L:=A++B) (by simp at l ⊢;omega) (by simpa using hsz) (λq v=>y q ?_) (λk E=>?_) (λi hi q v=>hR i hi q ?_) (M.sublist ?_) (λq v=>F q ?_) ?_ r1 (by simpa using b2) λl2 a2 w2 S2 μ2 p1 p2 q0 q1 q2 q3=>hQ _ _ _ _ _ p1 p2 (q0.trans r0) q1 (r2.trans q2) (r3.trans q3)
        . rcases Ag.1 v with h|h
          . exact Ar _ h
          . exact Ax _ (Am _ h)
        . have hk2:k<listed.size:=by omega
          by_cases hkp:k=p.1
          . subst hkp
            refine ⟨λh=>?_,λh=>?_⟩
            . simp [hk2] at h
            . exfalso
              rcases h with h|h
              . obtain ⟨q,v,e⟩:=Bj.1 h
                rcases Ag.1 v with h|h
                . exact (hA q h).2.2 e
                . exact hB q h e.symm
              . exact (hR _ h p hp).2.2 rfl
          . have:(listed.setIfInBounds p.1 AE).getD k AE=listed.getD k AE:=by simp [Bp (Ne.symm hkp)]
            rw [this,hl k E];simp only [Bs,Bg,Ag,Ah];refine ⟨λh=>?_,λh=>?_⟩
            . rcases h with (h|h|h)|h
              . exact .inl (.inl h)
              . exact (hkp h).elim
              . exact .inl (.inr h)
              . exact .inr h
            . rcases h with (h|h)|h
              . exact .inl (.inl h)
              . exact .inl (.inr (.inr h))
              . exact .inr h
        . rcases Ag.1 v with h|h
          . exact Ar _ h
          . exact Ax _ (Am _ h)
        . exact List.Sublist.append (List.Sublist.refl A) (List.sublist_cons_self p B)
        . rcases Ag.1 v with h|h
          . exact Ar _ h
          . exact Ax _ (Am _ h)
        . have sub:∀k,k∈(A++B).map (·.1)->k∈(A++p::B).map (·.1):=λk E=>by
            simp only [Bs,Bg,Ag,Ah] at E ⊢;rcases E with h|h
            . exact .inl h
            . exact .inr (.inr h)
          rintro x ⟨hx1,Z,hx3⟩ k hd;by_cases hxp:x=p.1
          . subst hxp
            exact ⟨(d k hd).1,λh=>(d k hd).2.1 (sub k h),(d k hd).2.2⟩
          . have:=hcl x ⟨hx1,λh=>by
              simp only [Bs,Bg,Ag,Ah] at h Z;rcases h with h|h|h
              . exact Z (.inl h)
              . exact hxp h
              . exact Z (.inr h),hx3⟩ k hd
            exact ⟨this.1,λh=>this.2.1 (sub k h),this.2.2⟩
      split
      . rename_i hw
        rw [AS hw] at g;exact bJ (Jsv hc) g
      . rename_i hw
        rw [AR hw] at g;exact ⟨λ_ _=>trivial,g⟩
theorem Kby(g:JJ P call)(r:P.follows .mixedOrders=AE){id:AM}{L:AG (AM×AP)}{w:World}{S:AM->Prop}{σ σf:St}{μ:Gh}{a:Act}(hs:DN nt w S σ μ a)(O:∀p∈L,∃(cm:AG (AM×CM)) (o:Oper) (x:AP),ops[p.1]?=AC o/\comp P cm nt ops o=AC x/\∀σ σ',jp call base p.2 σ=AC σ'->jp call base x σ=AC σ')(hd:mG ops L=AE)
    (N:je call base (L.map (·.2)) σ=AC σf) (hQ:∀a' w' S' μ',a'.defers=a.defers->DN nt w' S' σf μ' a'->CY w S σ.h μ w' S' σf.h μ'->Cg σ.h μ σf.h μ'->Q .normal a' w'):(Code.region id ops AE).wpIn (Fr ro) 0 P Q a w:=by
  simp only [mG,Ad,beq_iff_eq] at hd;obtain ⟨⟨⟨d1,d2⟩,d3⟩,d4⟩:=hd;obtain ⟨H,G⟩:=Jl5 d1;have J:DN nt { w with drawn:=w.drawn+1 } S σ μ a:=⟨λd=>(hs.fr d).Cz hs.hp Ta (.refl _ _),hs.hp.of_same (w':=w.drew) rfl rfl rfl ⟨rfl,Nat.le_succ _⟩,hs.df,hs.sz⟩;have f:∀k,k<ops.size->k∈L.map (·.1):=λk h=>by have:=Af.1 d3 k (List.mem_range.2 h);exact Bc.1 this
  have main:wpAnyIn (Fr ro) 0 P .any ops Q (0+ops.size) (Bv ops.size AF) a { w with drawn:=w.drawn+1 }:=by
   refine J8g g (ops:=ops) (nt:=nt) (Q:=Q) (ro:=ro) (λo l e v=>?_) 0 (R:=[]) ops.size (listed:=Bv ops.size AF) d2 (by simp) O (λk h=>?_) (λi hi=>by cases hi) H G (λx hx=>(hx.2.1 (f x hx.1)).elim) J N λl' a' w' S' μ' s1 y F E B A=>⟨?_,hQ _ _ _ _ F E (Ta.trans B) A⟩
   . obtain ⟨n,K,Z⟩:=As l
     have:=Bm.1 d4 n K;rw [Z] at this;obtain ⟨m,r,Y⟩:=As v;have:=Bm.1 this m r;rw [Y] at this;simpa using this
   . have:=f k h
     simp [h,this]
   . apply Br.2
     intro j M;obtain ⟨X,o,l,_⟩:=mem_ready.1 M;have:=(y j (Ab.1 l).1).1 X;cases this
  rw [Db] at main;exact wpIn_region_any r main
def bW(ops:Array Oper):AG AM->AN
  | []=>AE
  | [_]=>AE
  | x::y::r=>dep ops y x&&bW ops (y::r)
theorem Jtg{ops:Array Oper}:∀ {i:AM} {R:AG AM},bW ops (i::R)=AE->∀j∈R,∃q∈i::R,dep ops j q=AE
  | i,[],_,j,a=>by cases a
  | i,y::r,h,j,a=>by
    simp only [bW,Ad] at h;rcases Ah.1 a with rfl|a
    . exact ⟨i,Ak ..,h.1⟩
    . obtain ⟨q,d,hd⟩:=Jtg h.2 j a
      exact ⟨q,Am _ d,hd⟩
theorem J5f{ops:Array Oper}{i:AM}{R:AG AM}(h:bW ops (i::R)=AE):bW ops R=AE:=by
  cases R with
  | nil=>rfl
  | cons y r=>simp only [bW,Ad] at h;exact h.2
theorem J35(E:∀o∈ops,∀e∈o.after,e.on<ops.size):∀ {R:AG AM} {os:AG Oper} {listed:Array AN} {a:Act} {w:World},R.map (λi=>ops[i]?)=os.map AC->listed.size=ops.size->(∀k,k<ops.size->(listed.getD k AE=AF↔k∈R))->R.Nodup->bW ops R=AE ->
    R.Pairwise (λx y=>dep ops x y=AF)->(∀x∈R,dep ops x x=AF)->wpListIn (Fr ro) 0 P ops Q os a w->wpAnyIn (Fr ro) 0 P .any ops Q R.length listed a w
  | [],os,listed,a,w,v,G,hl,_,_,_,_,h=>by
    cases os with
    | cons o os=>simp at v
    | nil=>
      refine ⟨?_,h⟩;apply Br.2;intro j hj;obtain ⟨h1,o,v,_⟩:=mem_ready.1 hj;have:=(hl j (Ab.1 v).1).1 h1;cases this
  | i::R,[],listed,a,w,v,_,_,_,_,_,_,_=>by simp at v
  | i::R,o::os,listed,a,w,v,G,hl,X,L,H,f,h=>by
    simp only [Bg,List.cons.injEq] at v;obtain ⟨g,O⟩:=v;have hi:i<ops.size:=(Ab.1 g).1;have K:∀k,k<ops.size->(listed.getD k AE=AF↔listed.getD k AF=AF):=λk F=>by
      have:k<listed.size:=by omega
      simp [this]
    obtain ⟨Z,Y⟩:=List.nodup_cons.1 X;have r:∀a w,wpListIn (Fr ro) 0 P ops Q os a w->wpAnyIn (Fr ro) 0 P .any ops Q R.length (listed.setIfInBounds i AE) a w:=λa w h=>
      J35 E O (by simpa using G) (λk F=>by
        have hk2:k<listed.size:=by omega
        by_cases B:k=i
        . subst B
          refine ⟨λh=>?_,λh=>(Z h).elim⟩;simp [hk2] at h
        . have:(listed.setIfInBounds i AE).getD k AE=listed.getD k AE:=by simp [Bp (Ne.symm B)]
          rw [this,hl k F,Ah];exact ⟨λh=>h.resolve_left B,.inr⟩) Y (J5f L) (Aw.1 H).2 (λx hx=>f x (Am _ hx)) h
    refine ⟨λhr=>?_,λj hj=>?_⟩
    . exfalso
      have:i∈Region.ready .any ops listed:=by
        refine mem_ready.2 ⟨(hl i hi).2 (Ak ..),o,g,λe l hb=>?_⟩;have J:=E o (Bb g) e l;cases hle:listed.getD e.on AF with
        | true=>rfl
        | false=>
          exfalso;have hm:=(hl e.on J).1 ((K e.on J).2 hle);have d:dep ops i e.on=AE:=by
            simp only [dep,g,Ay,Bo];exact Bk.2 (by obtain ⟨n,M,e'⟩:=As l;exact ⟨n,M,by rw [e'];simp [hb]⟩)
          rcases Ah.1 hm with e1|e1
          . rw [e1,f i (Ak ..)] at d;cases d
          . rw [(Aw.1 H).1 _ e1] at d;cases d
      rw [hr] at this;cases this
    . obtain ⟨h1,o',A,m⟩:=mem_ready.1 hj
      have hj':j<ops.size:=(Ab.1 A).1;have hji:j=i:=by
        rcases Ah.1 ((hl j hj').1 h1) with e|e
        . exact e
        . exfalso
          obtain ⟨q,hq,hd⟩:=Jtg L j e;simp only [dep,A,Ay,Bo] at hd;obtain ⟨n,M,hx⟩:=Bk.1 hd;simp only [Ad,beq_iff_eq] at hx;have l:=m (o'.after[n]) (Bl M) hx.1;have F:=E o' (Bb A) (o'.after[n]) (Bl M);rw [hx.2] at l F;have:=(hl q F).2 hq;rw [K q F,l] at this;cases this
      subst hji;unfold wpOpIn;simp only [g];unfold wpListIn at h;split at h
      . rename_i N
        rw [AS N];exact Oper.wpIn_mono r h
      . rename_i N
        rw [AR N];exact ⟨h.1,r _ _ h.2⟩
def iM(ops:Array Oper):AM->AG AM->AG AM
  | 0,acc=>acc
  | n+1,acc=>iM ops n (acc++(List.range ops.size).filter λk=>!acc.contains k&&acc.any λx=>dep ops x k)
theorem J4g{ops:Array Oper}{i:AM}:∀(n:AM) (acc:AG AM),(∀k∈acc,k=i\/Lr ops k i)->∀k∈iM ops n acc,k=i\/Lr ops k i
  | 0,acc,h,k,d=>h k d
  | n+1,acc,h,k,d=>by
    refine J4g n _ (λk d=>?_) k d;rcases Ag.1 d with d|d
    . exact h k d
    . simp only [List.mem_filter,Ad,Av] at d
      obtain ⟨x,hx,hd⟩:=d.2.2;rcases h x hx with rfl|hx
      . exact .inr (.one hd)
      . have key:∀ {a b c:AM},Lr ops b c->dep ops b a=AE->Lr ops a c:=λf g=>by
          induction f with
          | one h=>exact .more h (.one g)
          | more h _ l=>exact .more h l
        exact .inr (key hx hd)
def J4c:AG AM->AN
  | []=>AE
  | x::r=>!r.contains x&&J4c r
theorem Jr8:∀ {l:AG AM},J4c l=AE->l.Nodup
  | [],_=>List.nodup_nil
  | x::r,h=>by simp only [J4c,Ad,Ba] at h;refine List.nodup_cons.2 ⟨λhx=>?_,Jr8 h.2⟩;rw [Bc.2 hx] at h;cases h.1
def vX(ops:Array Oper):AG AM->AN
  | []=>AE
  | x::r=>!dep ops x x&&r.all (λy=>!dep ops x y)&&vX ops r
theorem J8p{ops:Array Oper}:∀ {R:AG AM},vX ops R=AE->R.Pairwise (λx y=>dep ops x y=AF)/\∀x∈R,dep ops x x=AF
  | [],_=>⟨.nil,λx hx=>by cases hx⟩
  | x::r,h=>by
    simp only [vX,Ad,Ba,Af] at h;obtain ⟨⟨m,l⟩,g⟩:=h;obtain ⟨f,d⟩:=J8p g;refine ⟨Aw.2 ⟨l,f⟩,λy a=>?_⟩;rcases Ah.1 a with rfl|a
    . exact m
    . exact d y a
def mh(ops:Array Oper)(L:AG (AM×AP))(R:AG AM):AN:=
  rR ops L&&L.length+R.length==ops.size&&((List.range ops.size).all λi=>(L.map (·.1)++R).contains i)&&(ops.all λo=>o.after.all λe=>decide (e.on<ops.size)) &&
  J4c (L.map (·.1)++R)&&bW ops R&&vX ops R&&R.all λi=>L.all λp=>!dep ops p.1 i&&(iM ops ops.size [i]).contains p.1
theorem J1t(g:JJ P call)(B:P.follows .mixedOrders=AE){id:AM}{L:AG (AM×AP)}{R:AG AM}{os:AG Oper}{w:World}{S:AM->Prop}{σ σf:St}{μ:Gh}{a:Act}(hs:DN nt w S σ μ a)(hc:∀p∈L,∃(cm:AG (AM×CM)) (o:Oper) (x:AP),ops[p.1]?=AC o/\comp P cm nt ops o=AC x/\∀σ σ',jp call base p.2 σ=AC σ'->jp call base x σ=AC σ')(hd:mh ops L R=AE)
    (y:R.map (λi=>ops[i]?)=os.map AC) (he:je call base (L.map (·.2)) σ=AC σf) (hQ:∀a' w' S' μ',a'.defers=a.defers->DN nt w' S' σf μ' a'->CY w S σ.h μ w' S' σf.h μ'->Cg σ.h μ σf.h μ'->wpListIn (Fr ro) 0 P ops Q os a' w'):(Code.region id ops AE).wpIn (Fr ro) 0 P Q a w:=by
  simp only [mh,Ad,beq_iff_eq] at hd;obtain ⟨⟨⟨⟨⟨⟨⟨d1,d2⟩,d3⟩,d4⟩,d5⟩,d6⟩,d7⟩,d8⟩:=hd;obtain ⟨Z,Y⟩:=Jl5 d1;have A:=Jr8 d5;obtain ⟨hndL,hndR,v⟩:=List.nodup_append.1 A;obtain ⟨K,J⟩:=J8p d7;have r:∀o∈ops,∀e∈o.after,e.on<ops.size:=λo ho e E=>by obtain ⟨n,hn,e1⟩:=As ho;have:=Bm.1 d4 n hn;rw [e1] at this;obtain ⟨m,B,e2⟩:=As E;have:=Bm.1 this m B;rw [e2] at this;simpa using this
  have f:∀k,k<ops.size->k∈L.map (·.1)\/k∈R:=λk h=>by have:=Af.1 d3 k (List.mem_range.2 h);exact Ag.1 (Bc.1 this)
  have hw:DN nt { w with drawn:=w.drawn+1 } S σ μ a:=⟨λd=>(hs.fr d).Cz hs.hp Ta (.refl _ _),hs.hp.of_same (w':=w.drew) rfl rfl rfl ⟨rfl,Nat.le_succ _⟩,hs.df,hs.sz⟩;have main:wpAnyIn (Fr ro) 0 P .any ops Q (R.length+L.length) (Bv ops.size AF) a { w with drawn:=w.drawn+1 }:=by refine J8g g (ops:=ops) (nt:=nt) (Q:=Q) (ro:=ro) r R.length (R:=R) L.length rfl (by simp) hc (λk h=>⟨λ_=>f k h,λ_=>by simp [h]⟩) (λi hi p F=>?_) Z Y (λx hx=>((f x hx.1).elim hx.2.1 hx.2.2).elim) hw he λl' a' w' S' μ' H G X O N M=>J35 r y H G hndR d6 K J (hQ _ _ _ _ X O (Ta.trans N) M);have:=Af.1 (Af.1 d8 i hi) p F;simp only [Ad,Ba] at this;have l:p.1≠i:=v p.1 (Bj.2 ⟨p,F,rfl⟩) i hi;refine ⟨?_,this.1,l⟩;exact (J4g ops.size [i] (λk h=>.inl (List.mem_singleton.1 h)) p.1 (Bc.1 this.2)).resolve_left l
  rw [Nat.add_comm,d2] at main;exact wpIn_region_any B main
end
end Go.Vv
