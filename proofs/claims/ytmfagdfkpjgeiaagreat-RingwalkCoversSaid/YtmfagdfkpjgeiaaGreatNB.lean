/- The evaluator's maps are right of the model's. Conditions: none. -/
import Derived.Test.YtmfagdfkpjgeiaaGreatNA
import Derived.MapKept
import Derived.TacticsIn
import Derived.OrdersIn
import Derived.RangeFuncRecord
import Derived.RangeFuncIn
import Derived.Tactics
import Derived.Orders
set_option linter.unusedSimpArgs false
namespace Go.Vv
open Go
open Prod.mk renaming injEq → Aa
open List renaming getElem?_eq_some_iff → Ab, getElem?_eq_getElem → Ad, all_eq_true → Ae, mem_append → Af, mem_cons → Ag, mem_of_getElem? → Ah, mem_cons_self → Ai, mem_cons_of_mem → Aj, mem_append_left → Ao, mem_flatMap → Ap, any_eq_true → Aq, pairwise_cons → Ar, mem_append_right → As, getElem?_map → Av, contains_iff_mem → Ax, getElem?_of_mem → Ay, getElem?_append_left → Ba, map_cons → Bb, mem_map → Bc, getElem?_eraseIdx → Bd, eq_nil_iff_forall_not_mem → Bf, map_append → Bg, getElem?_append_right → Bh, getElem?_zip_eq_some → Bj, pairwise_append → Bk
open Bool renaming and_eq_true → Ac, false_eq_true → Am, not_eq_true' → Aw
open Nat renaming le_refl → Ak
open Option renaming map_some → Au, bind_some → Az, getD_some → Be
section
variable {P:Program} {w:World} {S:Nat→Prop} {h:Heap} {μ:Gh}
theorem Jjt {s:Bool} {x y:AV} {b:Bool} {v:Value} (he:Jai s x y=some b) (hr:Rep w S h μ x v):RepP w S x v:=by
 unfold Jai at he
 split at he
 ·rw [hr.int_inv];exact .int _ _
 ·rw [hr.bool_inv];exact .bool _
 ·cases he
theorem Ja7:∀ {sh:List Bool} {l m:List AV} {b:Bool},Jw sh l m=some b→∀(i:Nat) (x:AV),l[i]?=some x→∃s y c,m[i]?=some y∧Jai s x y=some c∧(b=true→c=true)
 | [],[],[],_,_,i,x,hi=>by simp at hi
 | s::ss,x::xs,y::ys,b,h,i,z,hi=>by
  unfold Jw at h
  split at h
  ·rename_i a c h1 h2
   injection h with h
   cases i with
   | zero =>
    simp at hi
    subst hi
    exact ⟨s,y,a,rfl,h1,fun e=>by rw [e] at h;simp at h;exact h.1⟩
   | succ i =>
    obtain ⟨s',y',c',e1,e2,e3⟩:=Ja7 h2 i z (by simpa using hi)
    exact ⟨s',y',c',by simpa using e1,e2,fun e=>e3 (by rw [e] at h;simp at h;exact h.2)⟩
  ·cases h
 | [],_::_,_,_,h,_,_,_=>by simp [Jw] at h
 | [],[],_::_,_,h,_,_,_=>by simp [Jw] at h
 | _::_,[],_,_,h,_,_,_=>by simp [Jw] at h
 | _::_,_::_,[],_,h,_,_,_=>by simp [Jw] at h
theorem Jp0 {ag:Bool} {sh:List Bool} {x y:AV} {b:Bool} {v:Value} (he:eqV ag sh x y=some b) (hr:Rep w S h μ x v):RepP w S x v:=by
 unfold eqV at he
 split at he
 ·split at he
  ·rename_i l m
   obtain ⟨cs,rfl,hl,hh⟩:=hr.agg_inv
   refine .agg l cs hl (fun i x hi=>(hh i x hi).2) fun i x hi=>?_
   obtain ⟨s,y,c,-,h2,-⟩:=Ja7 he i x hi
   exact Jjt h2 (hh i x hi).1
  ·cases he
 ·obtain ⟨s,y',c,-,h2,-⟩:=Ja7 he 0 x rfl
  exact Jjt h2 hr
theorem Jrp {s:Bool} {x y:AV} {v u:Value} (he:Jai s x y=some true) (hx:RepP w S x v) (hy:RepP w S y u) (n:Nat):Instr.sameBits n v u=true∧Instr.sameBits n u v=true:=by
 unfold Jai at he
 split at he
 ·split at he
  ·rename_i hk
   subst hk
   injection he with he
   cases hx;cases hy
   cases n<;>simp_all [Instr.sameBits]
  ·cases he
 ·injection he with he
  cases hx;cases hy
  cases n<;>simp_all [Instr.sameBits]
 ·cases he
theorem Ju1 {ag:Bool} {sh:List Bool} {x y:AV} {v u:Value} (he:eqV ag sh x y=some true) (hx:RepP w S x v) (hy:RepP w S y u):Instr.sameBits 10000 u v=true:=by
 unfold eqV at he
 split at he
 ·split at he
  ·rename_i l m
   cases hx with
   | agg _ cs hl h1 hr =>
    cases hy with
    | agg _ ds hl' h1' hr' =>
     have hlen:=Jc5 he
     show Instr.sameBits (9999+1) (.agg ds) (.agg cs)=true
     simp only [Instr.sameBits,Ac,beq_iff_eq,Ae]
     refine ⟨by omega,fun p hp=>?_⟩
     obtain ⟨i,hi⟩:=Ay hp
     obtain ⟨a,b⟩:=p
     rw [Bj] at hi
     obtain ⟨h3,h4⟩:=hi
     have hlt:i<l.length:=by have:=(Ab.1 h4).1;simp at this;omega
     obtain ⟨s,z,c,e1,e2,e3⟩:=Ja7 he i l[i] (Ad hlt)
     obtain rfl:=e3 rfl
     have ra:=hr i l[i] (Ad hlt)
     have rb:=hr' i z e1
     have ea:cs.getD i undef=b:=by
      have:cs[i]?=some b:=by simpa using h4
      rw [Array.getD_eq_getD_getElem?,this];rfl
     have eb:ds.getD i undef=a:=by
      have:ds[i]?=some a:=by simpa using h3
      rw [Array.getD_eq_getD_getElem?,this];rfl
     rw [ea] at ra
     rw [eb] at rb
     exact (Jrp e2 ra rb 9999).2
  ·cases he
 ·obtain ⟨s,z,c,e1,e2,e3⟩:=Ja7 he 0 x rfl
  obtain rfl:=e3 rfl
  simp at e1
  subst e1
  exact (Jrp e2 hx hy 10000).2
def Jbl (em:Bool) (n:Nat) (cs:Array Value):List Field→Sem Unit
 | []=>pure ()
 | f::fs =>
  if f.name ≠ "_" then do
   let a ←part f.type cs f.offset
   Instr.checkKey em n f.type a
   Jbl em n cs fs
  else Jbl em n cs fs
theorem Jic (em:Bool) (n:Nat) (t:TypeId) (cs:Array Value) {fs:Array Field} (ht:P.underlying t=some (.struct fs)):(Instr.checkKey em (n+1) t (.agg cs)).run P w=(Jbl em n cs fs.toList).run P w:=by
 simp only [Instr.checkKey,Sem.run_bind,run_underlying ht,Result.andThen_ok]
 rw [←Array.forIn_toList]
 generalize fs.toList=l
 clear ht
 induction l generalizing w with
 | nil=>simp [Jbl]
 | cons f l ih =>
  simp only [List.forIn_cons,Jbl,Sem.run_bind,Sem.run_ite]
  split
  ·generalize (part f.type cs f.offset).run P w=r1
   cases r1 with
   | ok a w1 =>
    simp only [Result.andThen_ok]
    generalize (Instr.checkKey em n f.type a).run P w1=r2
    cases r2 with
    | ok b w2=>simp only [Result.andThen_ok,Sem.run_pure];exact ih
    | _=>rfl
   | _=>rfl
  ·simp only [Sem.run_pure,Result.andThen_ok];exact ih
theorem Jru {g:TypeId→Option (List Bool)} {em:Bool} {d:Nat} (ih:∀ {t:TypeId} {sh:List Bool} {ag:Bool} {x:AV} {cx:Value} {b:Bool},g t=some sh→aggT P t=some ag →
  Rep w S h μ x cx→eqV ag sh x x=some b→(Instr.checkKey em d t cx).run P w=.ok () w):∀ {fs:List Field} {k:Nat} {sh:List Bool} {l:List AV} {cs:Array Value} {b:Bool},Jsz P g fs k=some sh →
  l.length=cs.size→Holds w S h μ l cs→Jw sh (l.drop k) (l.drop k)=some b→l.length=k+sh.length→(Jbl em d cs fs).run P w=.ok () w
 | [],k,sh,l,cs,b,hsh,hl,hh,he,h1=>by simp [Jbl]
 | f::r,k,sh,l,cs,b,hsh,hl,hh,he,h1=>by
  unfold Jsz at hsh
  split at hsh
  ·rename_i a ag q ha hag hq
   split at hsh
   ·rename_i hc
    obtain ⟨ho,hn,hqa,hone⟩:=hc
    split at hsh
    ·rename_i r' hr
     injection hsh with hsh
     subst hsh hqa
     obtain ⟨b1,b2,e1,e2,e3⟩:=Jb1 he
     have hk1:k+a.length≤l.length:=by simp at h1;omega
     have pk:∃v,pack ag l f.offset a.length=some v∧(ag=true→v=.agg (cut l k a.length))∧(ag=false→cut l k a.length=[v]):=by
      rw [ho]
      cases ag with
      | true=>exact ⟨_,by simp [pack,hk1],fun _=>rfl,fun h=>by cases h⟩
      | false =>
       have h1:a.length=1:=by simpa using hone
       have hlt:k<l.length:=by omega
       refine ⟨l[k],by simp [pack,hk1,hlt],(fun h=>by cases h),fun _=>?_⟩
       simp only [cut,h1]
       rw [List.drop_eq_getElem_cons hlt]
       rfl
     obtain ⟨v1,p1,q1,r1⟩:=pk
     obtain ⟨c1,s1,t1⟩:=Jcd (P:=P) hag hq hone hl hh p1
     have hev:eqV ag a v1 v1=some b1:=by
      cases ag with
      | true=>rw [q1 rfl];simpa [eqV,cut] using e1
      | false =>
       simp only [eqV,Am,if_false]
       rw [←r1 rfl]
       exact e1
     have hrun:=ih ha hag t1 hev
     simp only [Jbl,hn,ne_eq,not_false_eq_true,if_true,Sem.run_bind,s1,Result.andThen_ok,hrun]
     exact Jru ih hr hl hh (by simpa [List.drop_drop] using e2) (by simp at h1;omega)
    ·cases hsh
   ·cases hsh
  ·cases hsh
theorem Jqt (em:Bool):∀(n d:Nat) {t:TypeId} {sh:List Bool} {ag:Bool} {x:AV} {cx:Value} {b:Bool},n≤d→eqSh P n t=some sh→aggT P t=some ag →
  Rep w S h μ x cx→eqV ag sh x x=some b→(Instr.checkKey em d t cx).run P w=.ok () w
 | 0,_,_,_,_,_,_,_,_,h,_,_,_=>by simp [eqSh] at h
 | n+1,0,_,_,_,_,_,_,hd,_,_,_,_=>by omega
 | n+1,d+1,t,sh,ag,x,cx,b,hd,hsh,hag,hx,he=>by
  unfold eqSh at hsh
  unfold aggT at hag
  split at hsh
  ·rename_i hu
   simp only [Instr.checkKey,Sem.run_bind,run_underlying hu,Result.andThen_ok,Sem.run_pure]
  ·rename_i k hu
   simp only [Instr.checkKey,Sem.run_bind,run_underlying hu,Result.andThen_ok,Sem.run_pure]
  ·rename_i fs hu
   rw [hu] at hag
   simp at hag
   subst hag
   split at hsh
   ·cases hsh
   ·simp only [eqV,if_true] at he
    split at he
    ·rename_i l m
     obtain ⟨cs,rfl,hl,hh⟩:=hx.agg_inv
     rw [Jic em d t cs hu]
     have hlen:=Jc5 he
     exact Jru (fun hx=>Jqt em n d (by omega) hx) hsh hl hh (by simp;exact he) (by simp [hlen])
    ·cases he
  ·cases hsh
def EntsOK (w:World) (S:Nat→Prop) (h:Heap) (μ:Gh) (es:List (AV×AV)) (es':List MapEntry):Prop :=
 es'.length=es.length∧∀(i:Nat) (k v:AV),es[i]?=some (k,v)→∃e:MapEntry,es'[i]?=some e∧RepP w S k e.key∧Rep w S h μ v e.val
theorem EntsOK.tail {p:AV×AV} {es:List (AV×AV)} {e:MapEntry} {es':List MapEntry} (hh:EntsOK w S h μ (p::es) (e::es')):EntsOK w S h μ es es' :=
 ⟨by have:=hh.1;simp at this;exact this,fun i k v hi=>by simpa using hh.2 (i+1) k v (by simpa using hi)⟩
theorem Jvd {kt:TypeId} {d:TypeDesc} {sh:List Bool} {ag:Bool} (hu:P.underlying kt=some d) (hsh:eqSh P 6 kt=some sh) (hag:aggT P kt=some ag) {k:AV} {ck:Value} (hk:RepP w S k ck) :
  ∀ {es:List (AV×AV)} {es':List MapEntry} {n:Nat} {r:Option Nat},EntsOK w S h μ es es'→posM ag sh k n es=some r →
   (Instr.findAsking kt ck es' n).run P w=.ok (r.bind fun j=>(es'[j - n]?).map fun e=>(j,e.val)) w∧(Instr.findNow d ck es' n=none∨Instr.findNow d ck es' n=some (r.bind fun j=>(es'[j - n]?).map fun e=>(j,e.val))) ∧
   ∀j,r=some j→n≤j∧∃k' v' e,es[j - n]?=some (k',v')∧es'[j - n]?=some e∧RepP w S k' e.key∧Rep w S h μ v' e.val∧eqV ag sh k k'=some true
 | [],es',n,r,hh,hp=>by
  cases es' with
  | cons e es'=>have:=hh.1;simp at this
  | nil =>
   simp only [posM] at hp
   injection hp with hp
   subst hp
   exact ⟨rfl,.inr rfl,fun j hj=>by cases hj⟩
 | p::es,es',n,r,hh,hp=>by
  obtain ⟨pk,pv⟩:=p
  cases es' with
  | nil=>have:=hh.1;simp at this
  | cons e es' =>
   obtain ⟨e0,he0,hk0,hv0⟩:=hh.2 0 pk pv rfl
   simp at he0
   subst he0
   simp only [posM] at hp
   have hq:∀b,eqV ag sh k pk=some b→(Op.equal kt ck e.key).run P w=.ok b w:=fun b hb=>Jnf (h:=h) (μ:=μ) 6 10000 (by omega) hsh hag (.pure hk) (.pure hk0) hb
   have hnow:∀b,eqV ag sh k pk=some b→Instr.sameNow d ck e.key=none∨Instr.sameNow d ck e.key=some b:=by
    intro b hb
    have hsh2:=hsh
    unfold eqSh at hsh2
    unfold aggT at hag
    rw [hu] at hsh2 hag
    cases d with
    | bool =>
     simp at hsh2 hag
     subst hsh2 hag
     simp only [eqV,Am,if_false,Jw] at hb
     split at hb
     ·rename_i a c h1 h2
      injection hb with hb
      injection h2 with h2
      subst h2
      unfold Jai at h1
      split at h1
      ·cases ‹true=false›
      ·injection h1 with h1
       generalize e.key=ek at hk0 ⊢
       cases hk;cases hk0
       right
       simp only [Instr.sameNow]
       rw [h1,←hb,Bool.and_true]
      ·cases h1
     ·cases hb
    | int q =>
     simp at hsh2 hag
     subst hsh2 hag
     simp only [eqV,Am,if_false,Jw] at hb
     split at hb
     ·rename_i a c h1 h2
      injection hb with hb
      injection h2 with h2
      subst h2
      unfold Jai at h1
      split at h1
      ·split at h1
       ·rename_i hkk
        subst hkk
        injection h1 with h1
        generalize e.key=ek at hk0 ⊢
        cases hk;cases hk0
        right
        simp only [Instr.sameNow,if_true]
        rw [h1,←hb,Bool.and_true]
       ·cases h1
      ·cases ‹false=true›
      ·cases h1
     ·cases hb
    | _=>first|(left;rfl)|(simp at hsh2)
   split at hp
   ·rename_i hb
    injection hp with hp
    subst hp
    refine ⟨?_,?_,fun j hj=>?_⟩
    ·simp only [Instr.findAsking,Sem.run_bind,hq true hb,Result.andThen_ok,if_true,Sem.run_pure,Az,Nat.sub_self]
     rfl
    ·rcases hnow true hb with h1|h1
     ·left;simp only [Instr.findNow,h1]
     ·right;simp only [Instr.findNow,h1,Az,Nat.sub_self];rfl
    ·injection hj with hj
     subst hj
     exact ⟨Ak _,pk,pv,e,by simp,by simp,hk0,hv0,hb⟩
   ·rename_i hb
    obtain ⟨a1,a2,a3⟩:=Jvd hu hsh hag hk hh.tail hp
    have sub:∀j,r=some j→j - n=(j - (n+1))+1:=fun j hj=>by have:=(a3 j hj).1;omega
    have eqr:(r.bind fun j=>((e::es')[j - n]?).map fun e=>(j,e.val))=r.bind fun j=>(es'[j - (n+1)]?).map fun e=>(j,e.val):=by
     cases r with
     | none=>rfl
     | some j=>simp only [Az];rw [sub j rfl];simp
    refine ⟨?_,?_,fun j hj=>?_⟩
    ·rw [eqr]
     simp only [Instr.findAsking,Sem.run_bind,hq false hb,Result.andThen_ok,Am,if_false]
     exact a1
    ·rw [eqr]
     rcases hnow false hb with h1|h1
     ·left;simp only [Instr.findNow,h1]
     ·simp only [Instr.findNow,h1];exact a2
    ·obtain ⟨b1,k',v',e',b2,b3,b4⟩:=a3 j hj
     refine ⟨by omega,k',v',e',?_,?_,b4⟩
     ·rw [sub j hj];simpa using b2
     ·rw [sub j hj];simpa using b3
   ·cases hp
theorem Jcf {kt:TypeId} {d:TypeDesc} {sh:List Bool} {ag:Bool} (hu:P.underlying kt=some d) (hsh:eqSh P 6 kt=some sh) (hag:aggT P kt=some ag) {k:AV} {ck:Value} (hk:RepP w S k ck)
  {es:List (AV×AV)} {es':List MapEntry} {r:Option Nat} (hh:EntsOK w S h μ es es') (hp:posM ag sh k 0 es=some r) :
  (Instr.findKey kt ck es').run P w=.ok (r.bind fun j=>(es'[j]?).map fun e=>(j,e.val)) w ∧
   ∀j,r=some j→∃k' v' e,es[j]?=some (k',v')∧es'[j]?=some e∧RepP w S k' e.key∧Rep w S h μ v' e.val∧eqV ag sh k k'=some true:=by
 obtain ⟨a1,a2,a3⟩:=Jvd (h:=h) (μ:=μ) hu hsh hag hk hh hp
 simp only [Nat.sub_zero] at a1 a2 a3
 refine ⟨?_,fun j hj=>(a3 j hj).2⟩
 simp only [Instr.findKey,Sem.run_bind,run_underlying hu,Result.andThen_ok]
 rcases a2 with a2|a2
 ·simp only [a2];exact a1
 ·simp only [a2,Sem.run_pure]
theorem Jgn {kt:TypeId} {sh:List Bool} (hsh:eqSh P 6 kt=some sh):∃d,P.underlying kt=some d:=by
 unfold eqSh at hsh
 split at hsh
 ·exact ⟨_,by assumption⟩
 ·exact ⟨_,by assumption⟩
 ·exact ⟨_,by assumption⟩
 ·cases hsh
theorem Jgc {ag:Bool} {sh:List Bool} {k:AV} (hk:Jos ag sh k=true):∃b,eqV ag sh k k=some b:=by
 unfold Jos at hk
 exact Option.isSome_iff_exists.1 hk
theorem Jyk (hp:RepH w S h μ) {g ver:Nat} {es:List (AV×AV)} {cx:Value} (hc:curM h g ver=some es) (hr:Rep w S h μ (.map g ver) cx) :
  h g=some (.map ver es false)∧cx=.map (some (μ.b g))∧∃(es':Array MapEntry) (clock:Nat),w.heap[μ.b g]?=some (.map es' clock)∧EntsOK w S h μ es es'.toList∧Born es' clock:=by
 unfold curM at hc
 split at hc
 ·rename_i v es1 ho
  split at hc
  ·rename_i hv
   subst hv
   injection hc with hc
   subst hc
   refine ⟨ho,?_,?_⟩
   ·cases hr with
    | pure hp=>cases hp
    | map _ _ _ o ho2 _ _ hr2=>rw [ho] at ho2;cases ho2;exact hr2 rfl
   ·obtain ⟨es',clock,h1,h2,-,h3⟩:=hp.ob g _ ho
    exact ⟨es',clock,h1,⟨by simpa using h2.1,fun i k v hi=>by
     obtain ⟨e,he,hk,hv⟩:=h3 i k v hi
     exact ⟨e,by simpa using he,hk,hv⟩⟩,h2.2⟩
  ·cases hc
 ·cases hc
theorem upZ_rep {x:AV} {v:Value} (hr:Rep w S h μ x v):Rep w S h μ (upZ x) v:=by
 cases x with
 | nils=>rw [hr.nils_inv];exact .pure .lst0
 | _=>exact hr
theorem Jmh (hp:RepH w S h μ) {t kt et:TypeId} {ok ag:Bool} {sh:List Bool} {zv:AV} (ht:P.underlying t=some (.map kt et)) (hsh:eqSh P 6 kt=some sh) (hag:aggT P kt=some ag) (hz:zvC P et=some zv)
  {x k v:AV} {cx ck:Value} (hx:Rep w S h μ x cx) (hk:Rep w S h μ k ck) (he:Jx7 ok ag sh (upZ zv) k (esOf h x)=some v) :
  ∃cv,(Instr.lookup t cx ck ok).run P w=.ok cv w∧Rep w S h μ v cv:=by
 obtain ⟨d,hd⟩:=Jgn hsh
 obtain ⟨zval,hzr,zrep⟩:∃zval,(zeroValue et).run P w=.ok zval w∧Rep w S h μ (upZ zv) zval:=by
  unfold zvC at hz
  split at hz
  ·rename_i i hi
   split at hz
   ·rename_i z hzz
    exact ⟨z,by simp [zeroValue,typeInfo,hi,hzz],upZ_rep (Js0 hz)⟩
   ·cases hz
  ·cases hz
 have core:∀(es:List (AV×AV)) (es':Array MapEntry) (emp:Bool),EntsOK w S h μ es es'.toList→Jos ag sh k=true→lookP ok (upZ zv) es (posM ag sh k 0 es)=some v →
   (Instr.checkKey emp 10000 kt ck).run P w=.ok () w∧(((Instr.findKey kt ck es'.toList).run P w=.ok none w∧Rep w S h μ v (if ok=true then .tuple #[zval,.bool false] else zval)) ∨
    ∃j cv,(Instr.findKey kt ck es'.toList).run P w=.ok (some (j,cv)) w∧Rep w S h μ v (if ok=true then .tuple #[cv,.bool true] else cv)):=by
  intro es es' emp hent hko hl2
  obtain ⟨b,hb⟩:=Jgc hko
  have hck:=Jqt (P:=P) (w:=w) emp 6 10000 (by omega) hsh hag hk hb
  unfold lookP at hl2
  split at hl2
  ·rename_i r hr
   obtain ⟨f1,f2⟩:=Jcf (h:=h) (μ:=μ) hd hsh hag (Jp0 hb hk) hent hr
   injection hl2 with hl2
   have fin:∀(bv:Bool) (u:AV) (cu:Value),Rep w S h μ u cu→v=(if ok=true then .tup [u,.bool bv] else u)→Rep w S h μ v (if ok=true then .tuple #[cu,.bool bv] else cu):=by
    intro bv u cu hu e
    rw [e]
    cases ok with
    | false=>exact hu
    | true =>
     refine .tup _ _ rfl fun i y hi=>?_
     match i,hi with
     | 0,hi=>simp at hi;subst hi;simpa using hu
     | 1,hi=>simp at hi;subst hi;exact .pure (.bool _)
   cases r with
   | none=>exact ⟨hck,.inl ⟨f1,fin false (upZ zv) zval zrep (by rw [←hl2];rfl)⟩⟩
   | some j =>
    obtain ⟨k',v',e,g1,g2,-,g4,-⟩:=f2 j rfl
    refine ⟨hck,.inr ⟨j,e.val,by rw [f1];simp only [Az,g2,Au],fin true v' e.val g4 (by rw [←hl2];simp only [atM,g1];rfl)⟩⟩
  ·cases hl2
 unfold Jx7 at he
 split at he
 ·rename_i es hes
  split at he
  ·rename_i hko
   unfold esOf at hes
   split at hes
   ·injection hes with hes
    subst hes
    obtain rfl:cx=.map none:=by cases hx with|pure hp=>cases hp;rfl
    obtain ⟨c1,c2⟩:=core [] #[] true ⟨rfl,fun i k v hi=>by simp at hi⟩ hko he
    rcases c2 with ⟨c2,c3⟩|⟨j,cv,c2,c3⟩
    ·exact ⟨_,by simp [Instr.lookup,run_underlying ht,c1,c2,hzr,Result.andThen],c3⟩
    ·exact ⟨_,by simp [Instr.lookup,run_underlying ht,c1,c2,Result.andThen],c3⟩
   ·rename_i ks vs
    injection hes with hes
    subst hes
    obtain ⟨b,es',clock,rfl,-,m1,n1,n2,r1,r2⟩:=hx.mpr_inv
    have m2:EntsOK w S h μ (ks.zip vs) es'.toList:=by
     refine ⟨by rw [List.length_zip];simp;omega,fun i k v hi=>?_⟩
     rw [Bj] at hi
     have hlt:i<es'.size:=by
      have:=(Ab.1 hi.1).1
      omega
     exact ⟨es'[i],by simp [hlt],r1 i k _ hi.1 (by simp [hlt]),.pure (r2 i v _ hi.2 (by simp [hlt]))⟩
    obtain ⟨c1,c2⟩:=core _ es' es'.isEmpty m2 hko he
    rcases c2 with ⟨c2,c3⟩|⟨j,cv,c2,c3⟩
    ·exact ⟨_,by simp [Instr.lookup,run_underlying ht,MapKept.run_getObj_map m1,c1,c2,hzr,Result.andThen],c3⟩
    ·exact ⟨_,by simp [Instr.lookup,run_underlying ht,MapKept.run_getObj_map m1,c1,c2,Result.andThen],c3⟩
   ·rename_i g ver
    obtain ⟨-,rfl,es',clock,m1,m2,mbn⟩:=Jyk hp hes hx
    obtain ⟨c1,c2⟩:=core es es' es'.isEmpty m2 hko he
    rcases c2 with ⟨c2,c3⟩|⟨j,cv,c2,c3⟩
    ·exact ⟨_,by simp [Instr.lookup,run_underlying ht,MapKept.run_getObj_map m1,c1,c2,hzr,Result.andThen],c3⟩
    ·exact ⟨_,by simp [Instr.lookup,run_underlying ht,MapKept.run_getObj_map m1,c1,c2,Result.andThen],c3⟩
   ·cases hes
  ·cases he
 ·cases he
def mapW (w:World) (b:Nat) (new:Array MapEntry) (clock:Nat):World:={ w with heap:=w.heap.setIfInBounds b (.map new clock) }
theorem map_set (hp:RepH w S h μ) {g ver:Nat} {es es2:List (AV×AV)} (ho:h g=some (.map ver es false)) {old:Array MapEntry} {clock:Nat} (hb:w.heap[μ.b g]?=some (.map old clock)) {new:Array MapEntry} {clock':Nat} (hn:EntsOK w S h μ es2 new.toList) (hbn:Born new clock') :
  Ran w S h μ (.tup []) (upd h g (some (.map ver es2 false))) (.tuple #[]) (mapW w (μ.b g) new clock'):=by
 have hlt:μ.b g<w.heap.size:=(Array.getElem?_eq_some_iff.1 hb).1
 have oth:∀b,b≠μ.b g→(mapW w (μ.b g) new clock').heap[b]?=w.heap[b]?:=fun b hne=>by
  simp only [mapW,Array.getElem?_setIfInBounds]
  rw [if_neg (fun e=>hne e.symm)]
 have same:(mapW w (μ.b g) new clock').heap[μ.b g]?=some (.map new clock'):=by
  simp [mapW,hlt]
 have ev:Evo w S h μ (mapW w (μ.b g) new clock') S (upd h g (some (.map ver es2 false))) μ:=by
  refine ⟨rfl,rfl,⟨rfl,Ak _⟩,by simp [mapW],fun b _ hno=>oth b fun e=>hno ⟨g,_,ho,rfl,rfl,e.symm⟩,fun b cs el z hc=>⟨cs,?_,rfl⟩,fun _ h=>h,fun _ h=>.inl h,fun b ⟨g',o',ho',hz,hl',e⟩=>?_,rfl⟩
  ·rw [oth b fun e=>by rw [e,hb] at hc;cases hc];exact hc
  ·by_cases hg:g'=g
   ·subst hg;exact .inl ⟨g',_,ho,rfl,rfl,e⟩
   ·rw [Jc _ _ _ _ hg] at ho';exact .inl ⟨g',o',ho',hz,hl',e⟩
 have vv:EvoV h μ (upd h g (some (.map ver es2 false))) μ:=by
  intro g' o' ho'
  by_cases hg:g'=g
  ·subst hg
   rw [ho] at ho'
   cases ho'
   exact ⟨_,Je _ _ _,Ak _,fun _=>⟨⟨rfl,rfl⟩,by simp [AObj.like,AObj.kind]⟩⟩
  ·exact ⟨o',by rw [Jc _ _ _ _ hg];exact ho',Ak _,fun _=>⟨⟨rfl,rfl⟩,.refl o'⟩⟩
 refine ⟨S,μ,.pure (.tup [] #[] rfl fun i x hi=>by simp at hi),⟨fun g' o' ho'=>?_,fun g1 g2 o1 o2 h1 h2 l1 l2 e=>?_,fun g' o' ho' hz' hl' hs=>?_,fun b hb'=>by have:=hp.lt b hb';simpa [mapW] using this⟩,ev,vv⟩
 ·by_cases hg:g'=g
  ·subst hg
   rw [Je] at ho'
   cases ho'
   refine ⟨new,clock',same,⟨by simpa using hn.1,hbn⟩,fun q=>absurd q (by simp),fun i k v hi=>?_⟩
   obtain ⟨e,he,hk,hv⟩:=hn.2 i k v hi
   exact ⟨e,by simpa using he,hk.evo hp ev,hv.evo hp ev vv⟩
  ·rw [Jc _ _ _ _ hg] at ho'
   exact (hp.ob g' o' ho').evo hp ev vv (fun l'=>oth _ fun e=>hg (hp.inj g' g o' _ ho' ho l' rfl e))
 ·have key:∀g' o',upd h g (some (.map ver es2 false)) g'=some o'→o'.live=true→∃o,h g'=some o∧o.live=true:=fun g' o' ho' l'=>by
   by_cases hg:g'=g
   ·subst hg;exact ⟨_,ho,rfl⟩
   ·rw [Jc _ _ _ _ hg] at ho';exact ⟨_,ho',l'⟩
  obtain ⟨p1,q1,r1⟩:=key g1 o1 h1 l1
  obtain ⟨p2,q2,r2⟩:=key g2 o2 h2 l2
  exact hp.inj g1 g2 p1 p2 q1 q2 r1 r2 e
 ·by_cases hg:g'=g
  ·subst hg;exact hp.own g' _ ho rfl rfl hs
  ·rw [Jc _ _ _ _ hg] at ho';exact hp.own g' o' ho' hz' hl' hs
theorem Jhk (hp:RepH w S h μ) {t kt et:TypeId} {ag:Bool} {sh:List Bool} (ht:P.underlying t=some (.map kt et)) (hsh:eqSh P 6 kt=some sh) (hag:aggT P kt=some ag)
  {x k v:AV} {h':Heap} {cx ck cv:Value} (hx:Rep w S h μ x cx) (hk:Rep w S h μ k ck) (hv:Rep w S h μ v cv) (he:setV h ag sh k v x=some h') :
  ∃w',(Instr.mapUpdate t cx ck cv).run P w=.ok () w'∧Ran w S h μ (.tup []) h' (.tuple #[]) w':=by
 obtain ⟨d,hd⟩:=Jgn hsh
 unfold setV at he
 split at he
 ·rename_i g ver
  split at he
  ·rename_i es hes
   split at he
   ·rename_i hko
    obtain ⟨b,hb⟩:=Jgc hko
    obtain ⟨ho,rfl,es',clock,m1,m2,mbn⟩:=Jyk hp hes hx
    have hck:=Jqt (P:=P) (w:=w) false 6 10000 (by omega) hsh hag hk hb
    have hkp:=Jp0 hb hk
    unfold setE at he
    split at he
    ·rename_i r hr
     injection he with he
     subst he
     obtain ⟨f1,f2⟩:=Jcf (h:=h) (μ:=μ) hd hsh hag hkp m2 hr
     cases r with
     | none =>
      refine ⟨mapW w (μ.b g) (es'.push { key:=ck,val:=cv,born:=clock }) (clock+1),by simp [mapW,Instr.mapUpdate,run_underlying ht,MapKept.run_getObj_map m1,hck,f1,MapKept.run_setObj_map _ m1,Result.andThen],map_set hp ho m1 ⟨by simp [putM,m2.1],fun i k2 v2 hi=>?_⟩ (Jqe mbn _ _)⟩
      simp only [putM] at hi
      by_cases hlt:i<es.length
      ·rw [Ba hlt] at hi
       obtain ⟨e,he,h3⟩:=m2.2 i k2 v2 hi
       have:=(Ab.1 he).1
       exact ⟨e,by simpa [Ba this] using he,h3⟩
      ·rw [Bh (by omega)] at hi
       have hie:i=es.length:=by
        have:=(Ab.1 hi).1
        simp at this;omega
       subst hie
       simp at hi
       obtain ⟨rfl,rfl⟩:=hi
       have hl2:es'.size=es.length:=by simpa using m2.1
       exact ⟨{ key:=ck,val:=cv,born:=clock },by simp [hl2],hkp,hv⟩
     | some j =>
      obtain ⟨k',v',e,g1,g2,g3,g4,g5⟩:=f2 j rfl
      have g2':es'[j]?=some e:=by simpa using g2
      have hbits:=Ju1 g5 hkp g3
      have hstay:(Instr.keyThatStays e.key ck).run P w=.ok ck w:=by simp [Instr.keyThatStays,hbits]
      refine ⟨mapW w (μ.b g) (es'.modify j fun e=>{ e with key:=ck,val:=cv }) clock,by simp [mapW,Instr.mapUpdate,run_underlying ht,MapKept.run_getObj_map m1,hck,f1,g2',hstay,MapKept.run_setObj_map _ m1,Result.andThen],map_set hp ho m1 ⟨by simp [putM];simpa using m2.1,fun i k2 v2 hi=>?_⟩ (Jfl mbn _ _ fun _=>rfl)⟩
      simp only [putM,List.getElem?_set] at hi
      split at hi
      ·rename_i hij
       subst hij
       split at hi
       ·simp at hi
        obtain ⟨rfl,rfl⟩:=hi
        exact ⟨{ e with key:=ck,val:=cv },by simp [g2'],hkp,hv⟩
       ·cases hi
      ·rename_i hij
       obtain ⟨e2,he2,h3⟩:=m2.2 i k2 v2 hi
       have he2':es'[i]?=some e2:=by simpa using he2
       exact ⟨e2,by simp [he2',hij],h3⟩
    ·cases he
   ·cases he
  ·cases he
 ·cases he
theorem Jm4 (hp:RepH w S h μ) {t kt et ty:TypeId} {ts:Array TypeId} (hts:ts[0]?=some t) {ag:Bool} {sh:List Bool} (ht:P.underlying t=some (.map kt et)) (hsh:eqSh P 6 kt=some sh) (hag:aggT P kt=some ag)
  {x k:AV} {h':Heap} {cx ck:Value} (hx:Rep w S h μ x cx) (hk:Rep w S h μ k ck) (he:delV h ag sh k x=some h') :
  ∃w',(Builtin.delete_ ts ty #[cx,ck]).run P w=.ok (.tuple #[]) w'∧Ran w S h μ (.tup []) h' (.tuple #[]) w':=by
 obtain ⟨d,hd⟩:=Jgn hsh
 unfold delV at he
 split at he
 ·rename_i g ver
  split at he
  ·rename_i es hes
   split at he
   ·rename_i hko
    obtain ⟨b,hb⟩:=Jgc hko
    obtain ⟨ho,rfl,es',clock,m1,m2,mbn⟩:=Jyk hp hes hx
    have hck:=Jqt (P:=P) (w:=w) es'.isEmpty 6 10000 (by omega) hsh hag hk hb
    have hkp:=Jp0 hb hk
    unfold delE at he
    split at he
    ·rename_i r hr
     injection he with he
     subst he
     obtain ⟨f1,f2⟩:=Jcf (h:=h) (μ:=μ) hd hsh hag hkp m2 hr
     cases r with
     | none =>
      refine ⟨mapW w (μ.b g) es' clock,by simp [mapW,Builtin.delete_,hts,run_underlying ht,MapKept.run_getObj_map m1,hck,f1,MapKept.run_setObj_map _ m1,Result.andThen],map_set hp ho m1 m2 mbn⟩
     | some j =>
      obtain ⟨k',v',e,g1,g2,g3,g4,g5⟩:=f2 j rfl
      have g2':es'[j]?=some e:=by simpa using g2
      refine ⟨mapW w (μ.b g) (es'.eraseIdxIfInBounds j) clock,by simp [mapW,Builtin.delete_,hts,run_underlying ht,MapKept.run_getObj_map m1,hck,f1,g2',MapKept.run_setObj_map _ m1,Result.andThen],map_set hp ho m1 ⟨?_,fun i k2 v2 hi=>?_⟩ (born_sub mbn (by have hj:=(Array.getElem?_eq_some_iff.1 g2').1;rw [show (es'.eraseIdxIfInBounds j).toList=es'.toList.eraseIdx j by simp [Array.eraseIdxIfInBounds,hj]];exact List.eraseIdx_sublist _ _))⟩
      ·have hj:=(Array.getElem?_eq_some_iff.1 g2').1
       have hl:=m2.1
       simp only [Array.length_toList] at hl
       simp only [outM,Array.length_toList,List.length_eraseIdx]
       rw [if_pos (by omega)]
       simp [Array.eraseIdxIfInBounds,hj]
       omega
      ·have hj:=(Array.getElem?_eq_some_iff.1 g2').1
       have he3:(es'.eraseIdxIfInBounds j).toList=es'.toList.eraseIdx j:=by
        simp [Array.eraseIdxIfInBounds,hj]
       simp only [outM,Bd] at hi
       rw [he3]
       split at hi
       ·rename_i hij
        obtain ⟨e2,he2,h3⟩:=m2.2 i k2 v2 hi
        exact ⟨e2,by rw [Bd,if_pos hij];exact he2,h3⟩
       ·rename_i hij
        obtain ⟨e2,he2,h3⟩:=m2.2 (i+1) k2 v2 hi
        exact ⟨e2,by rw [Bd,if_neg hij];exact he2,h3⟩
    ·cases he
   ·cases he
  ·cases he
 ·cases he
theorem Jz8 (hp:RepH w S h μ) {t kt et:TypeId} (_:P.underlying t=some (.map kt et)) (g:Nat) :
  ∃cv w',(Instr.makeMap t none).run P w=.ok cv w'∧Ran w S h μ (.map g (J3 h g)) (upd h g (some (.map (J3 h g) [] false))) cv w':=by
 obtain ⟨ev,vv⟩:=Jtp (w:=w) (S:=S) (h:=h) (μ:=μ) g (.map (J3 h g) [] false) (.map #[] 0) (.inl rfl)
 refine ⟨.map (some w.heap.size),w.alloc (.map #[] 0),by simp [Instr.makeMap],S,_,?_,Jwg hp (.inl rfl) ?_,ev,vv⟩
 ·exact .map g _ _ (.map (J3 h g) [] false) (Je _ _ _) (Ak _) rfl fun _=>by simp [Gh.set,Je]
 ·exact ⟨#[],0,heap_alloc_new w (.map #[] 0),⟨rfl,born_nil 0⟩,fun q=>absurd q (by simp),fun i k v hi=>by simp at hi⟩
end
theorem zm {α β:Type} {f:α→Option β}:∀ {l:List α} {ps:List β},l.mapM f=some ps→ps.length=l.length∧∀(i:Nat) (x:α),l[i]?=some x→∃p,ps[i]?=some p∧f x=some p
 | [],ps,h=>by simp at h;subst h;exact ⟨rfl,fun i x hi=>by simp at hi⟩
 | x::l,ps,h=>by
  rw [List.mapM_cons] at h
  cases hx:f x with
  | none=>rw [hx] at h;cases h
  | some y =>
   cases hl:l.mapM f with
   | none=>rw [hx,hl] at h;cases h
   | some qs =>
    rw [hx,hl] at h
    injection h with h
    subst h
    obtain ⟨h1,h2⟩:=zm hl
    refine ⟨by simp [h1],fun i z hi=>?_⟩
    cases i with
    | zero=>simp at hi;subst hi;exact ⟨y,rfl,hx⟩
    | succ i=>simpa using h2 i z (by simpa using hi)
section
variable {w:World} {S:Nat→Prop} {h:Heap} {μ:Gh}
theorem Rep.flat {x:AV} {v:Value} (hr:Rep w S h μ x v) (hf:x.flat=true):RepP w S x v:=by
 cases hr with
 | pure hp=>exact hp
 | any=>simp [AV.flat] at hf
 | fn=>simp [AV.flat] at hf
 | agg=>simp [AV.flat] at hf
 | tup=>simp [AV.flat] at hf
 | arr=>simp [AV.flat] at hf
 | ptr=>simp [AV.flat] at hf
 | map=>simp [AV.flat] at hf
 | yld=>simp [AV.flat] at hf
theorem Jgu:∀ {l:List AV},Jxi l=true→∀(i:Nat) (x:AV),l[i]?=some x→x.noNm=true
 | [],_,i,x,hx=>by simp at hx
 | v::r,hf,i,x,hx=>by
  simp only [Jxi,Ac] at hf
  cases i with
  | zero=>simp at hx;subst hx;exact hf.1
  | succ i=>exact Jgu hf.2 i x (by simpa using hx)
theorem Rep.noNm {x:AV} {v:Value} (hr:Rep w S h μ x v) (hf:x.noNm=true):RepP w S x v:=by
 induction hr with
 | pure hp=>exact hp
 | any=>simp [AV.noNm] at hf
 | fn f l cs hl hr ih=>exact .fn f l cs hl fun i x hi=>ih i x hi (Jgu (by simpa only [AV.noNm] using hf) i x hi)
 | agg l cs hl h1 hr ih=>exact .agg l cs hl h1 fun i x hi=>ih i x hi (Jgu (by simpa only [AV.noNm] using hf) i x hi)
 | tup l cs hl hr ih=>exact .tup l cs hl fun i x hi=>ih i x hi (Jgu (by simpa only [AV.noNm] using hf) i x hi)
 | arr=>simp [AV.noNm] at hf
 | ptr=>simp [AV.noNm] at hf
 | map=>simp [AV.noNm] at hf
 | yld=>simp [AV.noNm] at hf
def Liv (h:Heap) (μ:Gh) (ns:List Nat) (b:Nat):Prop:=∃g∈ns,∃o,h g=some o∧o.live=true∧μ.b g=b
def Met (S':Nat→Prop) (h:Heap) (μ:Gh) (ns:List Nat):Prop:=∀g,g∈ns→∀o,h g=some o→o.live=true→S' (μ.b g)
theorem j9 (hp:RepH w S h μ) {S':Nat→Prop} (hS:∀b,S b→S' b):∀(k:Nat) {v u:AV} {ns:List Nat} {c:Value},snap h k v=some (u,ns)→Rep w S h μ v c→Met S' h μ ns→RepP w S' u c
 | 0,v,u,ns,c,hs,_,_=>by simp [snap] at hs
 | k+1,v,u,ns,c,hs,hr,hm=>by
  have lst:∀ {l:List AV} {ps:List (AV×List Nat)},l.mapM (snap h k)=some ps→(∀g,g∈ps.flatMap (·.2)→g∈ns) →
    (ps.map (·.1)).length=l.length∧∀(i:Nat) (y:AV),(ps.map (·.1))[i]?=some y→∃x,l[i]?=some x∧∀c,Rep w S h μ x c→RepP w S' y c:=by
   intro l ps hl hsub
   obtain ⟨h1,h2⟩:=zm hl
   refine ⟨by simp [h1],fun i y hi=>?_⟩
   rw [Av] at hi
   cases hpi:ps[i]? with
   | none=>rw [hpi] at hi;cases hi
   | some p =>
    rw [hpi] at hi
    injection hi with hi
    have hlt:i<l.length:=by have:=(Ab.1 hpi).1;omega
    obtain ⟨p',hp1,hp2⟩:=h2 i l[i] (Ad hlt)
    rw [hpi] at hp1
    injection hp1 with hp1
    subst hp1
    refine ⟨l[i],Ad hlt,fun c hc=>?_⟩
    subst hi
    exact j9 hp hS k (u:=p.1) (ns:=p.2) hp2 hc (fun g hg=>hm g (hsub g (Ap.2 ⟨p,Ah hpi,hg⟩)))
  unfold snap at hs
  split at hs
  ·cases hs
  ·cases hs
  ·cases hs
  ·cases hs
  ·rename_i g ver off len
   split at hs
   ·rename_i ver' esz el cells fz ho
    split at hs
    ·rename_i hc
     obtain ⟨rfl,hle⟩:=hc
     by_cases hne0:cells=[]
     ·obtain ⟨rfl,rfl,A,rfl⟩:=(hr.arr_inv0 ho).1 hne0
      have hc0:cut cells (0 * esz) (0 * esz)=[]:=by simp [cut]
      simp only [hc0,List.all_nil,if_true] at hs
      cases hs
      cases A with
      | none=>exact .lst0
      | some a=>exact .lst 0 [] a 0 (fun _=>undef) (fun q=>(q rfl).elim) (Ak _) (fun i x hi=>by simp at hi) (fun i x hi=>by simp at hi) (fun i x hi=>by simp at hi)
     obtain ⟨a,cap,cs0,el0,z0,rfl,hlc,hb0,hsz0,ha⟩:=hr.arr_inv ho hne0
     obtain ⟨cs,hb,hsz,hh,_⟩:=hp.ob g _ ho hne0
     have key:∀i x,(cut cells (off * esz) (len * esz))[i]?=some x→0<cap∧cells[off * esz+i]?=some x∧w.cell? (a.add i)=some (cs.getD (μ.o g+(off * esz+i)) undef):=by
      intro i x hi
      simp only [cut,List.getElem?_take,List.getElem?_drop] at hi
      split at hi
      ·rename_i hlt
       have hpos:0<cap:=by
        rcases Nat.eq_zero_or_pos len with h0|h0
        ·rw [h0,Nat.zero_mul] at hlt;omega
        ·omega
       have hlt2:μ.o g+(off * esz+i)<cs.size:=by have:=(Ab.1 hi).1;omega
       exact ⟨hpos,hi,by rw [ha hpos,Jct hb,Nat.add_assoc,getD_some hlt2]⟩
      ·cases hi
     simp only at hs
     split at hs
     ·rename_i hflat
      injection hs with hs
      simp only [Aa] at hs
      obtain ⟨rfl,rfl⟩:=hs
      refine .lst _ _ _ _ (fun i=>cs.getD (μ.o g+(off * esz+i)) undef) (fun hne=>?_) hlc.1 (fun i x hi=>(key i x hi).2.2) (fun i x hi=>(hh _ x (key i x hi).2.1).2) (fun i x hi=>?_)
      ·cases hcut:cut cells (off * esz) (len * esz) with
       | nil=>exact (hne hcut).elim
       | cons x r=>rw [ha (key 0 x (by rw [hcut];rfl)).1];exact hm g (by simp) _ ho (Kr.2 hne0)
      ·have hf:=Ae.1 hflat x (Ah hi)
       exact ((hh _ x (key i x hi).2.1).1.flat hf).mono hS (fun _ _=>rfl)
     ·split at hs
      ·rename_i ps hps
       injection hs with hs
       simp only [Aa] at hs
       obtain ⟨rfl,rfl⟩:=hs
       obtain ⟨h1,h2⟩:=lst hps (fun g' hg'=>Aj _ hg')
       have key2:∀i y,(ps.map (·.1))[i]?=some y→∃x,(cut cells (off * esz) (len * esz))[i]?=some x∧∀c,Rep w S h μ x c→RepP w S' y c:=h2
       refine .lst _ _ _ _ (fun i=>cs.getD (μ.o g+(off * esz+i)) undef) (fun hne=>?_) hlc.1 (fun i y hi=>?_) (fun i y hi=>?_) (fun i y hi=>?_)
       ·cases hcut:ps.map (·.1) with
        | nil=>exact (hne hcut).elim
        | cons x r =>
         obtain ⟨x',hx',_⟩:=key2 0 x (by rw [hcut];rfl)
         rw [ha (key 0 x' hx').1];exact hm g (by simp) _ ho (Kr.2 hne0)
       ·obtain ⟨x,hx,_⟩:=key2 i y hi;exact (key i x hx).2.2
       ·obtain ⟨x,hx,_⟩:=key2 i y hi;exact (hh _ x (key i x hx).2.1).2
       ·obtain ⟨x,hx,hxr⟩:=key2 i y hi;exact hxr _ (hh _ x (key i x hx).2.1).1
      ·cases hs
    ·cases hs
   ·cases hs
  ·rename_i f caps
   split at hs
   ·rename_i ps hps
    injection hs with hs
    simp only [Aa] at hs
    obtain ⟨rfl,rfl⟩:=hs
    obtain ⟨h1,h2⟩:=lst hps (fun g' hg'=>hg')
    obtain ⟨cs,rfl,hl,hh⟩:=hr.fn_inv
    exact .fn _ _ cs (by omega) (fun i y hi=>by obtain ⟨x,hx,hxr⟩:=h2 i y hi;exact hxr _ (hh i x hx))
   ·cases hs
  ·rename_i l
   split at hs
   ·rename_i hflat
    injection hs with hs
    simp only [Aa] at hs
    obtain ⟨rfl,rfl⟩:=hs
    obtain ⟨cs,rfl,hl,hh⟩:=hr.agg_inv
    exact .agg _ cs hl (fun i x hi=>(hh i x hi).2) (fun i x hi=>((hh i x hi).1.flat (Ae.1 hflat x (Ah hi))).mono hS (fun _ _=>rfl))
   ·split at hs
    ·rename_i ps hps
     injection hs with hs
     simp only [Aa] at hs
     obtain ⟨rfl,rfl⟩:=hs
     obtain ⟨h1,h2⟩:=lst hps (fun g' hg'=>hg')
     obtain ⟨cs,rfl,hl,hh⟩:=hr.agg_inv
     exact .agg _ cs (by omega) (fun i y hi=>by obtain ⟨x,hx,_⟩:=h2 i y hi;exact (hh i x hx).2) (fun i y hi=>by obtain ⟨x,hx,hxr⟩:=h2 i y hi;exact hxr _ (hh i x hx).1)
    ·cases hs
  ·rename_i l
   split at hs
   ·rename_i ps hps
    injection hs with hs
    simp only [Aa] at hs
    obtain ⟨rfl,rfl⟩:=hs
    obtain ⟨h1,h2⟩:=lst hps (fun g' hg'=>hg')
    obtain ⟨cs,rfl,hl,hh⟩:=hr.tup_inv
    exact .tup _ cs (by omega) (fun i y hi=>by obtain ⟨x,hx,hxr⟩:=h2 i y hi;exact hxr _ (hh i x hx))
   ·cases hs
  ·rename_i x1 x2 xy x3 x4 x5 x6 x7
   injection hs with hs
   simp only [Aa] at hs
   obtain ⟨rfl,rfl⟩:=hs
   cases hr with
   | pure hp'=>exact hp'.mono hS (fun _ _=>rfl)
   | any=>exact (x1 rfl).elim
   | fn=>exact (x5 _ _ rfl).elim
   | agg=>exact (x6 _ rfl).elim
   | tup=>exact (x7 _ rfl).elim
   | arr=>exact (x4 _ _ _ _ rfl).elim
   | ptr=>exact (x2 _ _ _ rfl).elim
   | map=>exact (x3 _ _ rfl).elim
   | yld=>exact (xy _ rfl).elim
theorem j8:∀(k:Nat) {v u:AV} {ns:List Nat},snap h k v=some (u,ns)→∀g∈ns,∃o,h g=some o∧o.freeze.fz=true
 | 0,v,u,ns,hs=>by simp [snap] at hs
 | k+1,v,u,ns,hs=>by
  have lst:∀ {l:List AV} {ps:List (AV×List Nat)},l.mapM (snap h k)=some ps→∀g∈ps.flatMap (·.2),∃o,h g=some o∧o.freeze.fz=true:=by
   intro l ps hl g hg
   obtain ⟨h1,h2⟩:=zm hl
   obtain ⟨p,hp,hg⟩:=Ap.1 hg
   obtain ⟨i,hi⟩:=Ay hp
   have hlt:i<l.length:=by have:=(Ab.1 hi).1;omega
   obtain ⟨p',hp1,hp2⟩:=h2 i l[i] (Ad hlt)
   rw [hi] at hp1
   injection hp1 with hp1
   subst hp1
   exact j8 k (u:=p.1) (ns:=p.2) hp2 g hg
  unfold snap at hs
  split at hs
  ·cases hs
  ·cases hs
  ·cases hs
  ·cases hs
  ·rename_i g0 ver off len
   split at hs
   ·rename_i ver' esz el cells fz ho
    split at hs
    ·simp only at hs
     split at hs
     ·injection hs with hs
      simp only [Aa] at hs
      obtain ⟨rfl,rfl⟩:=hs
      intro g hg
      simp at hg
      subst hg
      exact ⟨_,ho,rfl⟩
     ·split at hs
      ·rename_i ps hps
       injection hs with hs
       simp only [Aa] at hs
       obtain ⟨rfl,rfl⟩:=hs
       intro g hg
       rcases Ag.1 hg with rfl|hg
       ·exact ⟨_,ho,rfl⟩
       ·exact lst hps g hg
      ·cases hs
    ·cases hs
   ·cases hs
  ·split at hs
   ·rename_i ps hps
    injection hs with hs
    simp only [Aa] at hs
    obtain ⟨rfl,rfl⟩:=hs
    exact lst hps
   ·cases hs
  ·split at hs
   ·injection hs with hs
    simp only [Aa] at hs
    obtain ⟨rfl,rfl⟩:=hs
    intro g hg;simp at hg
   ·split at hs
    ·rename_i ps hps
     injection hs with hs
     simp only [Aa] at hs
     obtain ⟨rfl,rfl⟩:=hs
     exact lst hps
    ·cases hs
  ·split at hs
   ·rename_i ps hps
    injection hs with hs
    simp only [Aa] at hs
    obtain ⟨rfl,rfl⟩:=hs
    exact lst hps
   ·cases hs
  ·injection hs with hs
   simp only [Aa] at hs
   obtain ⟨rfl,rfl⟩:=hs
   intro g hg;simp at hg
theorem Jfk (hp:RepH w S h μ) {S':Nat→Prop} (hS:∀b,S b→S' b) {l vs:List AV} {ns:List Nat} (hs:Jdr h l=some (vs,ns)) (hm:Met S' h μ ns) :
  vs.length=l.length∧∀(i:Nat) (y:AV),vs[i]?=some y→∃x,l[i]?=some x∧∀c,Rep w S h μ x c→RepP w S' y c:=by
 unfold Jdr at hs
 split at hs
 ·rename_i ps hps
  injection hs with hs
  simp only [Aa] at hs
  obtain ⟨rfl,rfl⟩:=hs
  obtain ⟨h1,h2⟩:=zm hps
  refine ⟨by simp [h1],fun i y hi=>?_⟩
  rw [Av] at hi
  cases hpi:ps[i]? with
  | none=>rw [hpi] at hi;cases hi
  | some p =>
   rw [hpi] at hi
   injection hi with hi
   have hlt:i<l.length:=by have:=(Ab.1 hpi).1;omega
   obtain ⟨p',hp1,hp2⟩:=h2 i l[i] (Ad hlt)
   rw [hpi] at hp1
   injection hp1 with hp1
   subst hp1
   refine ⟨l[i],Ad hlt,fun c hc=>?_⟩
   subst hi
   exact j9 hp hS depth (u:=p.1) (ns:=p.2) hp2 hc (fun g hg=>hm g (Ap.2 ⟨p,Ah hpi,hg⟩))
 ·cases hs
theorem Jcl {l vs:List AV} {ns:List Nat} (hs:Jdr h l=some (vs,ns)):∀g∈ns,∃o,h g=some o∧o.freeze.fz=true:=by
 unfold Jdr at hs
 split at hs
 ·rename_i ps hps
  injection hs with hs
  simp only [Aa] at hs
  obtain ⟨rfl,rfl⟩:=hs
  intro g hg
  obtain ⟨p,hp,hg⟩:=Ap.1 hg
  obtain ⟨h1,h2⟩:=zm hps
  obtain ⟨i,hi⟩:=Ay hp
  have hlt:i<l.length:=by have:=(Ab.1 hi).1;omega
  obtain ⟨p',hp1,hp2⟩:=h2 i l[i] (Ad hlt)
  rw [hi] at hp1
  injection hp1 with hp1
  subst hp1
  exact j8 depth (u:=p.1) (ns:=p.2) hp2 g hg
 ·cases hs
theorem Jmg (o:AObj):o.freeze.ver=o.ver:=by cases o<;>rfl
theorem Jk5 (o:AObj):o.like o.freeze:=by cases o<;>simp [AObj.freeze,AObj.like,AObj.kind]
theorem Jfy (hp:RepH w S h μ) {ns:List Nat} (hn:∀g∈ns,∃o,h g=some o∧o.freeze.fz=true) :
  RepH w (fun b=>S b∨Liv h μ ns b) (Jg h ns) μ∧Evo w S h μ w (fun b=>S b∨Liv h μ ns b) (Jg h ns) μ∧EvoV h μ (Jg h ns) μ:=by
 have inv:∀g o,Jg h ns g=some o→∃o1,h g=some o1∧(o=o1∨(o=o1.freeze∧g∈ns)):=by
  intro g o ho
  unfold Jg at ho
  split at ho
  ·rename_i hg
   cases ho1:h g with
   | none=>rw [ho1] at ho;cases ho
   | some o1=>rw [ho1] at ho;injection ho with ho;exact ⟨o1,rfl,.inr ⟨ho.symm,hg⟩⟩
  ·exact ⟨o,ho,.inl rfl⟩
 have fz:∀g∈ns,∀o,Jg h ns g=some o→o.fz=true:=by
  intro g hg o ho
  obtain ⟨o1,hh,hz⟩:=hn g hg
  unfold Jg at ho
  rw [if_pos hg,hh] at ho
  injection ho with ho
  subst ho
  exact hz
 have vv:EvoV h μ (Jg h ns) μ:=by
  intro g o ho
  unfold Jg
  split
  ·exact ⟨o.freeze,by rw [ho];rfl,by rw [Jmg];exact Ak _,fun _=>⟨⟨rfl,rfl⟩,Jk5 o⟩⟩
  ·exact ⟨o,ho,Ak _,fun _=>⟨⟨rfl,rfl⟩,.refl o⟩⟩
 have ev:Evo w S h μ w (fun b=>S b∨Liv h μ ns b) (Jg h ns) μ:=by
  refine ⟨rfl,rfl,⟨rfl,Ak _⟩,Ak _,fun _ _ _=>rfl,fun _ cs _ _ hc=>⟨cs,hc,rfl⟩,fun _ h=>.inl h,fun b hb=>?_,fun b hb=>?_,rfl⟩
  ·rcases hb with hb|⟨g,hg,o1,hh,hl1,rfl⟩
   ·exact .inl hb
   ·cases hz1:o1.fz with
    | false=>exact .inr (.inr ⟨g,_,hh,hz1,hl1,rfl⟩)
    | true =>
     refine .inl ?_
     have:=hp.ob g _ hh
     cases o1 with
     | box=>cases hz1
     | arr=>obtain ⟨_,_,_,_,h4⟩:=this (Kr.1 hl1);exact h4 hz1
     | map=>obtain ⟨_,_,_,_,h4,_⟩:=this;exact h4 hz1
  ·obtain ⟨g,o,ho,hz,hl,e⟩:=hb
   obtain ⟨o1,ho1,ho2⟩:=inv g o ho
   rcases ho2 with rfl|⟨rfl,hg⟩
   ·exact .inl ⟨g,o,ho1,hz,hl,e⟩
   ·have:=fz g hg _ ho;rw [this] at hz;cases hz
 have flv:∀o:AObj,o.freeze.live=o.live:=fun o=>by
  cases o with
  | arr v e t c z=>cases c<;>rfl
  | _=>rfl
 refine ⟨⟨fun g o ho=>?_,fun g g' o o' ho ho' l l' e=>?_,fun g o ho hz hl hb=>?_,fun b hb=>?_⟩,ev,vv⟩
 ·obtain ⟨o1,ho1,ho2⟩:=inv g o ho
  have:=(hp.ob g o1 ho1).evo hp ev vv (fun _=>rfl)
  rcases ho2 with rfl|⟨rfl,hg⟩
  ·exact this
  ·cases o1 with
   | box=>exact this
   | map v es z=>exact this
   | arr v e t c z =>
    intro hne
    obtain ⟨cs,h1,h2,h3,h4⟩:=this hne
    exact ⟨cs,h1,h2,h3,fun _=>.inr ⟨g,hg,_,ho1,Kr.2 hne,rfl⟩⟩
 ·obtain ⟨o1,ho1,k1⟩:=inv g o ho
  obtain ⟨o2,ho2,k2⟩:=inv g' o' ho'
  exact hp.inj g g' o1 o2 ho1 ho2 (by rcases k1 with rfl|⟨rfl,_⟩<;>simpa [flv] using l) (by rcases k2 with rfl|⟨rfl,_⟩<;>simpa [flv] using l') e
 ·obtain ⟨o1,ho1,ho2⟩:=inv g o ho
  rcases ho2 with rfl|⟨rfl,hg⟩
  ·rcases hb with hb|⟨g',hg',o',hh',hl',e⟩
   ·exact hp.own g o ho1 hz hl hb
   ·have:=hp.inj g' g _ _ hh' ho1 hl' hl e
    subst this
    have:=fz g' hg' _ ho
    rw [this] at hz
    cases hz
  ·have:=fz g hg _ ho
   rw [this] at hz
   cases hz
 ·rcases hb with hb|⟨g,hg,o,hh,hl,rfl⟩
  ·exact hp.lt b hb
  ·exact (hp.ob g _ hh).lt hl
theorem Jlb {nt:Nat} {σ:St} {a:Act} {w':World} {S':Nat→Prop} {h':Heap} {μ':Gh} {d:Option Nat} {v:AV} {cv:Value} (hs:RepS nt w S σ μ a) (hd:Jyc nt d=true)
  (hr:Rep w' S' h' μ' v cv) (hp:RepH w' S' h' μ') (ev:Evo w S σ.h μ w' S' h' μ') (vv:EvoV σ.h μ h' μ'):RepS nt w' S' (σ.put d v h') μ' (a.put d cv):=by
 cases d with
 | none=>exact ⟨fun k=>(hs.fr k).evo hs.hp ev vv,hp,hs.hp.marks hs.df ev,hs.sz⟩
 | some d =>
  simp only [Jyc,decide_eq_true_eq] at hd
  refine ⟨fun k=>?_,hp,hs.hp.marks hs.df ev,by simpa [Act.put] using hs.sz⟩
  simp only [St.put,Act.put]
  rw [Jmt]
  by_cases hk:k=d
  ·subst hk
   rw [Je,if_pos ⟨rfl,by have:=hs.sz;omega⟩]
   exact hr
  ·rw [Jc _ _ _ _ hk,if_neg (by omega)]
   exact (hs.fr k).evo hs.hp ev vv
end
abbrev Fr (ro:Option Nat):Fence:={ Fence.wide with round:=ro }
def wpO (ro:Option Nat) (P:Program) (o:Oper) (a:Act) (w:World) (next:Act→World→Prop) (Q:Exit→Act→World→Prop):Prop:=o.uponIn (Fr ro) 0 P a next Q ((execOp a.eval o).run P w)
theorem Jh3 {ro:Option Nat} {P:Program} {o:Oper} {a:Act} {w:World} {next:Act→World→Prop} {Q:Exit→Act→World→Prop} (hnd:∀c,o.op≠.defer c) (h:wpO ro P o a w next Q):o.wpIn (Fr ro) 0 P a w next Q :=
 ⟨fun _ _=>trivial,by rw [Oper.semAt_eq _ _ _ hnd];exact h⟩
theorem Jwn {ro:Option Nat} {n:Nat} {P:Program} {f:FuncId} {args:Array Value} {w:World} {R:Ending→World→Prop} (h:Calls P f args w R):CallsIn (Fr ro) n P f args w R:=by
 have:=callsIn_wide (n:=n).2 h
 cases ro with
 | none=>exact this
 | some l=>exact this
def FnOK (P : Program) (f : FuncId) : Prop := ∃ fn, P.funcs[f]? = some fn ∧ fn.body.isSome = true ∧ (fn.name == "runtime.NumGoroutine") = false
structure Old (w w':World):Prop where
 os:w'.os=w.os
 tape:w'.tape=w.tape
 output:w'.output=w.output∧w.drawn≤w'.drawn
 size:w.heap.size≤w'.heap.size
 keep:∀b,b<w.heap.size→w'.heap[b]?=w.heap[b]?
def Ja1 (S:Nat→Prop) (w w':World) (b:Nat):Prop:=S b∨(w.heap.size≤b∧b<w'.heap.size)
structure Jab (P:Program) (call:Call):Prop where
 fn:∀f vs m r,call f vs m=some r→FnOK P f
 pure:∀f vs v h',call f vs none=some (v,h')→∀(w:World) (S:Nat→Prop) (cargs:Array Value),(∀b,S b→b<w.heap.size)→cargs.size=vs.length→(∀i x,vs[i]?=some x→RepP w S x (cargs.getD i undef)) →
  Calls P f cargs w fun e w'=>∃cv,e=.returned cv∧RepP w' (Ja1 S w w') v cv∧Old w w'
theorem Jem (h:Heap) (k:Nat) (v:AV) (hv:v.flat=true):snap h (k+1) v=some (v,[]):=by
 cases v<;>first|rfl|cases hv
section
variable {ro:Option Nat} {P:Program} {w:World} {S:Nat→Prop} {h:Heap} {μ:Gh}
theorem Kt {f:FuncId} (hf:FnOK P f) (args:Array Value) (w:World):(callFunc f args).run P w=.ok (.enter f args) w:=by
 obtain ⟨fn,h1,h2,h3⟩:=hf
 have hn:fn.body≠none:=by rintro e;rw [e] at h2;cases h2
 have hm : fn.name ≠ "runtime.NumGoroutine" := by simpa using h3
 simp [callFunc,program,Sem.run,h1,hm,hn]
theorem wp_value {o:Oper} {a:Act} {next:Act→World→Prop} {Q:Exit→Act→World→Prop} {cv:Value} {w':World} (hrun:(execOp a.eval o).run P w=.ok (.value cv) w') (hk:next (a.put o.dst cv) w'):wpO ro P o a w next Q:=by
 unfold wpO
 rw [hrun]
 exact hk
theorem wp_skip {o:Oper} {a:Act} {next:Act→World→Prop} {Q:Exit→Act→World→Prop} {w':World} (hrun:(execOp a.eval o).run P w=.ok .skip w') (hk:next (a.put o.dst undef) w'):wpO ro P o a w next Q:=by
 unfold wpO
 rw [hrun]
 exact hk
theorem wp_enter {o:Oper} {a:Act} {next:Act→World→Prop} {Q:Exit→Act→World→Prop} {f:FuncId} {args:Array Value} {R:Ending→World→Prop} (hrun:(execOp a.eval o).run P w=.ok (.enter f args) w) (hc:Calls P f args w R)
  (hk:∀e w',R e w'→∃cv,e=.returned cv∧next (a.put o.dst cv) w'):wpO ro P o a w next Q:=by
 unfold wpO
 rw [hrun,Oper.uponIn_enter]
 refine ⟨fun h=>(by cases h),(Jwn hc).mono fun e w' hr=>?_⟩
 obtain ⟨cv,rfl,hn⟩:=hk e w' hr
 exact hn
theorem Je4 {S1:Nat→Prop} {h1:Heap} {v:AV} {cv:Value} {w':World} (hp:RepH w S1 h1 μ) (ho:Old w w') (hr:RepP w' (Ja1 S1 w w') v cv):Ran w S1 h1 μ v h1 cv w':=by
 have ev:Evo w S1 h1 μ w' (Ja1 S1 w w') h1 μ:=by
  refine ⟨ho.os,ho.tape,ho.output,ho.size,fun b hb _=>ho.keep b hb,fun b cs el z hc=>⟨cs,?_,rfl⟩,fun _ h=>.inl h,fun b hb=>?_,fun _ h=>.inl h,rfl⟩
  ·rw [ho.keep b (Array.getElem?_eq_some_iff.1 hc).1];exact hc
  ·rcases hb with hb|hb
   ·exact .inl hb
   ·exact .inr (.inl hb.1)
 refine ⟨Ja1 S1 w w',μ,.pure hr,⟨fun g o hg=>(hp.ob g o hg).evo hp ev (.refl _ _) (fun hl=>ho.keep _ ((hp.ob g o hg).lt hl)),hp.inj,fun g o hg hz hl hb=>?_,fun b hb=>?_⟩,ev,.refl _ _⟩
 ·rcases hb with hb|hb
  ·exact hp.own g o hg hz hl hb
  ·have:=(hp.ob g o hg).lt hl;omega
 ·rcases hb with hb|hb
  ·have:=hp.lt b hb;have:=ho.size;omega
  ·exact hb.2
theorem Ran.after {S1:Nat→Prop} {h1:Heap} {v:AV} {h':Heap} {cv:Value} {w':World} (hr:Ran w S1 h1 μ v h' cv w') (ev:Evo w S h μ w S1 h1 μ) (vv:EvoV h μ h1 μ):Ran w S h μ v h' cv w':=by
 obtain ⟨S',μ',r1,r2,r3,r4⟩:=hr
 exact ⟨S',μ',r1,r2,ev.trans r3,vv.trans r4⟩
theorem RepP.of_scalar {S':Nat→Prop} {v:AV} {cv:Value} (hs:v.scalar=true) (hr:RepP w S v cv):RepP w S' v cv:=by
 have one:∀ {x:AV} {c:Value},(match x with|.bool _|.int _ _|.str _=>true|_=>false)=true→RepP w S x c→RepP w S' x c:=by
  intro x c hx hr
  cases hr<;>simp at hx<;>constructor
 cases hr with
 | bool=>exact .bool _
 | int=>exact .int _ _
 | str=>exact .str _
 | agg l cs hl h1 hr=>exact .agg l cs hl h1 (fun i x hi=>one (Ae.1 (by simpa [AV.scalar] using hs) x (Ah hi)) (hr i x hi))
 | tup l cs hl hr =>
  refine .tup l cs hl (fun i x hi=>?_)
  have hx:=Ae.1 (show l.all _=true from hs) x (Ah hi)
  have hrx:=hr i x hi
  generalize cs.getD i undef=c at hrx ⊢
  cases hrx with
  | bool=>exact .bool _
  | int=>exact .int _ _
  | str=>exact .str _
  | agg l' cs' hl' h1' hr'=>exact .agg l' cs' hl' h1' (fun i x hi=>one (Ae.1 (by simpa using hx) x (Ah hi)) (hr' i x hi))
  | _=>simp at hx
 | _=>simp [AV.scalar] at hs
theorem Jp4 {call:Call} (hc:Jab P call) (hp:RepH w S h μ) {f:FuncId} {l vs:List AV} {ns:List Nat} {v:AV} {h0:Heap} (hs:Jdr h l=some (vs,ns)) (hv:call f vs none=some (v,h0)) {cargs:Array Value}
  (hsz:cargs.size=l.length) (hl:∀i x,l[i]?=some x→Rep w S h μ x (cargs.getD i undef)) :
  Calls P f cargs w fun e w'=>∃cv,e=.returned cv∧((ns=[]∨v.scalar=true)→Ran w S h μ v h cv w')∧Ran w S h μ v (Jg h ns) cv w':=by
 obtain ⟨f1,f2,f3⟩:=Jfy hp (Jcl hs)
 obtain ⟨h1,h2⟩:=Jfk hp (S':=fun b=>S b∨Liv h μ ns b) (fun b hb=>.inl hb) hs (fun g hg o ho hl=>.inr ⟨g,hg,o,ho,hl,rfl⟩)
 refine (hc.pure f vs v h0 hv w _ cargs f1.lt (by omega) (fun i y hi=>?_)).mono fun e w' ⟨cv,he,hr,ho⟩=>⟨cv,he,fun hcase=>?_,(Je4 f1 ho hr).after f2 f3⟩
 ·obtain ⟨x,hx,hxr⟩:=h2 i y hi
  exact hxr _ (hl i x hx)
 ·rcases hcase with hcase|hcase
  ·subst hcase
   refine Je4 hp ho (hr.mono (fun b hb=>?_) (fun _ _=>rfl))
   rcases hb with (hb|⟨g,hg,_⟩)|hb
   ·exact .inl hb
   ·cases hg
   ·exact .inr hb
  ·exact Je4 hp ho (hr.of_scalar hcase)
theorem mapGet {f:LO→AV} {l:List LO} {i:Nat} {x:AV} (hi:(l.map f)[i]?=some x):∃y,l[i]?=some y∧f y=x:=by
 rw [Av] at hi
 cases hy:l[i]? with
 | none=>rw [hy] at hi;cases hi
 | some y=>rw [hy] at hi;injection hi with hi;exact ⟨y,rfl,hi⟩
theorem Jch {nt:Nat} {σ:St} {a:Act} (hs:RepS nt w S σ μ a) {l:Array Operand} {m:List LO} (hm:cLOs l.toList=some m) :
  (l.map a.eval).size=(m.map σ.ev).length∧∀i x,(m.map σ.ev)[i]?=some x→Rep w S σ.h μ x ((l.map a.eval).getD i undef):=by
 obtain ⟨h1,h2⟩:=Jwk hs hm
 refine ⟨by simp [h1],fun i x hi=>?_⟩
 obtain ⟨y,hy,rfl⟩:=mapGet hi
 obtain ⟨z,hz,hr⟩:=h2 i y hy
 have e:(l.map a.eval).getD i undef=a.eval z:=by
  have:l[i]?=some z:=by simpa using hz
  simp [this]
 rw [e]
 exact hr
theorem Jlg (hp:RepH w S h μ) {S':Nat→Prop} (hS:∀b,S b→S' b) {x u:AV} {ns:List Nat} {c:Value} (hs:Jof h x=some (u,ns)) (hr:Rep w S h μ x c) (hm:Met S' h μ ns) :
  RepP w S' u c:=by
 unfold Jof at hs
 split at hs
 ·rename_i g ver off
  cases ho:h g with
  | none=>rw [ho] at hs;cases hs
  | some o =>
   rw [ho] at hs
   unfold qbox at hs
   split at hs
   ·rename_i v cells heq
    cases heq
    split at hs
    ·rename_i hv
     subst hv
     obtain ⟨cs,el,e1,e2,e3⟩:=hp.ob g _ ho
     have hc:c=.pointer (some ⟨μ.b g,μ.o g+off,none⟩):=by
      cases hr with
      | pure hp=>cases hp
      | ptr _ _ _ _ o2 ho2 _ _ hr2=>rw [ho] at ho2;cases ho2;exact hr2 rfl
     subst hc
     have core:∀(l:List AV),l.length=cells.length→(∀(i:Nat) (y:AV),l[i]?=some y→∃z,cells[i]?=some z∧∀c,Rep w S h μ z c→RepP w S' y c)→S' (μ.b g) →
       RepP w S' (.rptr (l.drop off)) (.pointer (some ⟨μ.b g,μ.o g+off,none⟩)):=by
      intro l hl hall hb
      have at':∀(i:Nat) (y:AV),(l.drop off)[i]?=some y→∃z,cells[off+i]?=some z∧RepP w S' y (cs.getD (μ.o g+off+i) undef)∧(cs.getD (μ.o g+off+i) undef).oneCell'=true:=by
       intro i y hi
       rw [List.getElem?_drop] at hi
       obtain ⟨z,hz,hzr⟩:=hall _ y hi
       have:=e3 _ z hz
       rw [←Nat.add_assoc] at this
       exact ⟨z,hz,hzr _ this.1,this.2⟩
      refine .rptr _ _ (fun i=>cs.getD (μ.o g+off+i) undef) (fun _=>hb) (fun i y hi=>?_) (fun i y hi=>(at' i y hi).choose_spec.2.2) (fun i y hi=>(at' i y hi).choose_spec.2.1)
      obtain ⟨z,hz,-⟩:=at' i y hi
      have hlt:off+i<cells.length:=(Ab.1 hz).1
      have hadd:(⟨μ.b g,μ.o g+off,none⟩:Addr).add i=⟨μ.b g,μ.o g+off+i,none⟩:=by
       cases i<;>simp [Addr.add]
      rw [hadd]
      have hlt2:μ.o g+off+i<cs.size:=by omega
      simp [World.cell?,e1,hlt2]
     split at hs
     ·rename_i hf
      injection hs with hs
      simp only [Aa] at hs
      obtain ⟨rfl,rfl⟩:=hs
      refine core cells rfl (fun i y hi=>⟨y,hi,fun c hc=>?_⟩) (hm g (by simp) _ ho rfl)
      exact j9 hp hS depth (Jem h 7 y (Ae.1 hf y (Ah hi))) hc (fun g hg=>by cases hg)
     ·unfold Jzr at hs
      split at hs
      ·rename_i ps hps
       injection hs with hs
       simp only [Aa] at hs
       obtain ⟨rfl,rfl⟩:=hs
       obtain ⟨m1,m2⟩:=zm hps
       refine core (ps.map (·.1)) (by simp [m1]) (fun i y hi=>?_) (hm g (by simp) _ ho rfl)
       rw [Av] at hi
       obtain ⟨p,hp1,rfl⟩:=Option.map_eq_some_iff.1 hi
       have hlt:i<cells.length:=by have:=(Ab.1 hp1).1;omega
       obtain ⟨p',hp',hsn⟩:=m2 i cells[i] (Ad hlt)
       rw [hp1] at hp'
       cases hp'
       refine ⟨cells[i],Ad hlt,fun c hc=>j9 hp hS depth (u:=p.1) (ns:=p.2) hsn hc fun g' hg'=>hm g' ?_⟩
       exact Aj _ (Ap.2 ⟨p,Ah hp1,hg'⟩)
      ·cases hs
    ·cases hs
   ·cases hs
 ·exact j9 hp hS depth hs hr hm
theorem Jfr {x u:AV} {ns:List Nat} (hs:Jof h x=some (u,ns)):∀g∈ns,∃o,h g=some o:=by
 unfold Jof at hs
 split at hs
 ·rename_i g ver off
  cases ho:h g with
  | none=>rw [ho] at hs;cases hs
  | some o =>
   rw [ho] at hs
   unfold qbox at hs
   split at hs
   ·rename_i v cells heq
    split at hs
    ·split at hs
     ·injection hs with hs
      simp only [Aa] at hs
      obtain ⟨-,rfl⟩:=hs
      intro g' hg'
      rw [List.mem_singleton] at hg'
      exact ⟨o,by rw [hg'];exact ho⟩
     ·unfold Jzr at hs
      split at hs
      ·rename_i ps hps
       injection hs with hs
       simp only [Aa] at hs
       obtain ⟨-,rfl⟩:=hs
       intro g' hg'
       rcases Ag.1 hg' with rfl|hg'
       ·exact ⟨o,ho⟩
       ·obtain ⟨p,hp1,hp2⟩:=Ap.1 hg'
        obtain ⟨i,hi⟩:=Ay hp1
        obtain ⟨m1,m2⟩:=zm hps
        have hlt:i<cells.length:=by have:=(Ab.1 hi).1;omega
        obtain ⟨p',hp',hsn⟩:=m2 i cells[i] (Ad hlt)
        rw [hi] at hp'
        cases hp'
        obtain ⟨_,h2,_⟩:=j8 depth (u:=p.1) (ns:=p.2) hsn g' hp2
        exact ⟨_,h2⟩
      ·cases hs
    ·cases hs
   ·cases hs
 ·intro g hg
  obtain ⟨_,h2,_⟩:=j8 depth hs g hg
  exact ⟨_,h2⟩
theorem Jjw (hp:RepH w S h μ) {S':Nat→Prop} (hS:∀b,S b→S' b):∀ {l vs:List AV} {ns:List Nat},Jo5 h l=some (vs,ns)→(Met S' h μ ns) →
  vs.length=l.length∧(∀g∈ns,∃o,h g=some o)∧∀(i:Nat) (y:AV),vs[i]?=some y→∃x,l[i]?=some x∧∀c,Rep w S h μ x c→RepP w S' y c
 | [],vs,ns,hs,_=>by
  cases hs
  exact ⟨rfl,fun g hg=>(by cases hg),fun i y hi=>(by simp at hi)⟩
 | x::l,vs,ns,hs,hm=>by
  simp only [Jo5] at hs
  unfold Jn6 at hs
  split at hs
  ·rename_i u n1 us n2 h1 h2
   injection hs with hs
   simp only [Aa] at hs
   obtain ⟨rfl,rfl⟩:=hs
   obtain ⟨a,b,c⟩:=Jjw hp hS h2 fun g hg=>hm g (As _ hg)
   refine ⟨by simp [a],fun g hg=>?_,fun i y hi=>?_⟩
   ·rcases Af.1 hg with hg|hg
    ·exact Jfr h1 g hg
    ·exact b g hg
   ·cases i with
    | zero =>
     simp at hi
     subst hi
     exact ⟨x,rfl,fun c hc=>Jlg hp hS h1 hc fun g hg=>hm g (Ao _ hg)⟩
    | succ i=>simpa using c i y (by simpa using hi)
  ·cases hs
theorem Jxm (hp:RepH w S h μ) {S':Nat→Prop} (hS:∀b,S b→S' b) {x u:AV} {ns:List Nat} {c:Value} (hs:qarg h x=some (u,ns)) (hr:Rep w S h μ x c) (hm:Met S' h μ ns):RepP w S' u c:=by
 unfold qarg at hs
 split at hs
 ·rename_i f caps
  unfold qfn at hs
  split at hs
  ·rename_i us ms hq
   injection hs with hs
   simp only [Aa] at hs
   obtain ⟨rfl,rfl⟩:=hs
   obtain ⟨a,b,d⟩:=Jjw hp hS hq hm
   obtain ⟨cs,rfl,hl,hh⟩:=hr.fn_inv
   refine .fn f us cs (by omega) fun i y hi=>?_
   obtain ⟨z,hz,hzr⟩:=d i y hi
   exact hzr _ (hh i z hz)
  ·cases hs
 ·exact Jlg hp hS hs hr hm
theorem Jjp:∀ {l us:List AV} {ns:List Nat},Jo5 h l=some (us,ns)→∀g∈ns,∃o,h g=some o
 | [],us,ns,hs=>by cases hs;exact fun g hg=>(by cases hg)
 | x::l,us,ns,hs=>by
  simp only [Jo5] at hs
  unfold Jn6 at hs
  split at hs
  ·rename_i u n1 us n2 h1 h2
   injection hs with hs
   simp only [Aa] at hs
   obtain ⟨rfl,rfl⟩:=hs
   intro g hg
   rcases Af.1 hg with hg|hg
   ·exact Jfr h1 g hg
   ·exact Jjp h2 g hg
  ·cases hs
theorem Jw6 {x u:AV} {ns:List Nat} (hs:qarg h x=some (u,ns)):∀g∈ns,∃o,h g=some o:=by
 unfold qarg at hs
 split at hs
 ·unfold qfn at hs
  split at hs
  ·rename_i us ms hq
   injection hs with hs
   simp only [Aa] at hs
   obtain ⟨-,rfl⟩:=hs
   exact Jjp hq
  ·cases hs
 ·exact Jfr hs
theorem Jkn (hp:RepH w S h μ) {S':Nat→Prop} (hS:∀b,S b→S' b):∀ {l vs:List AV} {ns:List Nat},Jjx h l=some (vs,ns)→(Met S' h μ ns) →
  vs.length=l.length∧(∀g∈ns,∃o,h g=some o)∧∀(i:Nat) (y:AV),vs[i]?=some y→∃x,l[i]?=some x∧∀c,Rep w S h μ x c→RepP w S' y c
 | [],vs,ns,hs,_=>by
  cases hs
  exact ⟨rfl,fun g hg=>(by cases hg),fun i y hi=>(by simp at hi)⟩
 | x::l,vs,ns,hs,hm=>by
  simp only [Jjx] at hs
  unfold Jn6 at hs
  split at hs
  ·rename_i u n1 us n2 h1 h2
   injection hs with hs
   simp only [Aa] at hs
   obtain ⟨rfl,rfl⟩:=hs
   obtain ⟨a,b,c⟩:=Jkn hp hS h2 fun g hg=>hm g (As _ hg)
   refine ⟨by simp [a],fun g hg=>?_,fun i y hi=>?_⟩
   ·rcases Af.1 hg with hg|hg
    ·exact Jw6 h1 g hg
    ·exact b g hg
   ·cases i with
    | zero =>
     simp at hi
     subst hi
     exact ⟨x,rfl,fun c hc=>Jxm hp hS h1 hc fun g hg=>hm g (Ao _ hg)⟩
    | succ i=>simpa using c i y (by simpa using hi)
  ·cases hs
theorem call_q {call:Call} (hc:Jab P call) (hp:RepH w S h μ) {f:FuncId} {l:List AV} {v:AV} {h':Heap} (hv:calQ call f h (Jjx h l)=some (v,h')) {cargs:Array Value}
  (hsz:cargs.size=l.length) (hl:∀i x,l[i]?=some x→Rep w S h μ x (cargs.getD i undef)) :
  FnOK P f∧Calls P f cargs w fun e w'=>∃cv,e=.returned cv∧Ran w S h μ v h' cv w':=by
 unfold calQ at hv
 split at hv
 ·rename_i vs ns hq
  unfold retQ at hv
  split at hv
  ·rename_i u h0 hcall
   split at hv
   ·rename_i hsc
    injection hv with hv
    simp only [Aa] at hv
    obtain ⟨rfl,rfl⟩:=hv
    obtain ⟨a,b,c⟩:=Jkn hp (S':=fun b=>S b∨Liv h μ ns b) (fun b hb=>.inl hb) hq (fun g hg o ho hl=>.inr ⟨g,hg,o,ho,hl,rfl⟩)
    refine ⟨hc.fn _ _ _ _ hcall,(hc.pure f vs u h0 hcall w (fun b=>S b∨Liv h μ ns b) cargs (fun b' hb'=>?_) (by omega) (fun i y hi=>?_)).mono fun e w' ⟨cv,he,hr,ho⟩=>⟨cv,he,Je4 hp ho (hr.of_scalar hsc)⟩⟩
    ·rcases hb' with hb'|⟨g,hg,o,ho,hl2,rfl⟩
     ·exact hp.lt b' hb'
     ·exact (hp.ob g o ho).lt hl2
    ·obtain ⟨x,hx,hxr⟩:=c i y hi
     exact hxr _ (hl i x hx)
   ·cases hv
  ·cases hv
 ·cases hv
end
section
variable {ro:Option Nat} {P:Program} {w:World} {S:Nat→Prop} {σ:St} {μ:Gh} {a:Act} {nt:Nat}
theorem Xv {α β:Type} {x:Option α} {f:α→β} {r:β} (h:x.map f=some r):∃y,x=some y∧r=f y:=by
 cases x with
 | none=>cases h
 | some y=>injection h with h;exact ⟨y,rfl,h.symm⟩
theorem hOut {x:Option AV} {h0:Heap} {r:AV×Heap} (h:(match x with|some v=>some (v,h0)|none=>none)=some r):x=some r.1∧h0=r.2:=by
 cases x with
 | none=>cases h
 | some y=>injection h with h;subst h;exact ⟨rfl,rfl⟩
theorem Jt0 {h:Heap}:∀ {k:Nat} {v:AV} {f:FuncId} {caps:List AV} {ns:List Nat},snap h k v=some (.fn f caps,ns)→∃l,v=.fn f l
 | 0,_,_,_,_,hs=>by simp [snap] at hs
 | k+1,v,f,caps,ns,hs=>by
  unfold snap at hs
  split at hs
  ·cases hs
  ·cases hs
  ·cases hs
  ·cases hs
  ·split at hs
   ·split at hs
    ·simp only at hs
     split at hs
     ·cases hs
     ·split at hs<;>cases hs
    ·cases hs
   ·cases hs
  ·split at hs
   ·injection hs with hs;simp only [Aa] at hs;obtain ⟨e,_⟩:=hs;injection e with e1 _;subst e1;exact ⟨_,rfl⟩
   ·cases hs
  ·split at hs
   ·cases hs
   ·split at hs<;>cases hs
  ·split at hs<;>cases hs
  ·rename_i x1 x2 x3 x4 x5 x6 x7
   injection hs with hs
   simp only [Aa] at hs
   exact ⟨caps,hs.1⟩
theorem Juf {t e:TypeId} (hu:P.underlying t=some (.slice e)) {x:AV} {cx cy:Value} {X Y:Operand} {b ne:Bool} (hr:Rep w S σ.h μ x cx) (hy:Rep w S σ.h μ .nils cy) (hv:Jgl σ.h x=some b) :
  (eqGuard (if ne then .neq else .eql) t X Y cx cy).run P w=.ok () w∧(binOp (if ne then .neq else .eql) t cx cy).run P w=.ok (.bool (if ne then !b else b)) w:=by
 have hcy:cy=.slice none 0 0:=by
  cases hy with
  | pure hp=>cases hp;rfl
 subst hcy
 have key:(b=true∧cx=.slice none 0 0)∨(b=false∧∃a n c,cx=.slice (some a) n c):=by
  unfold Jgl at hv
  split at hv
  ·injection hv with hv
   subst hv
   cases hr with
   | pure hp=>cases hp;exact .inl ⟨rfl,rfl⟩
  ·cases hv
  ·rename_i hne
   injection hv with hv
   subst hv
   cases hr with
   | pure hp =>
    cases hp with
    | lst0=>exact (hne rfl rfl).elim
    | lst n l a cap cv=>exact .inr ⟨rfl,a,_,cap,rfl⟩
  ·split at hv
   ·rename_i hc
    injection hv with hv
    subst hv
    obtain ⟨esz,el,cells,fz,ho⟩:=Jha hc.1
    obtain ⟨a,cap,cs,el',z,hcx,_⟩:=hr.arr_inv ho (fun e=>hc.2 ((hr.arr_inv0 ho).1 e).2.1)
    exact .inr ⟨rfl,a,_,cap,hcx⟩
   ·cases hv
  ·cases hv
 have hq:(Op.equal t cx (.slice none 0 0)).run P w=.ok b w:=by
  have hd:∀d,(Op.equalIn (d+1) t cx (.slice none 0 0)).run P w=.ok b w:=fun d=>by
   rcases key with ⟨rfl,rfl⟩|⟨rfl,a,n,c,rfl⟩
   ·simp [Op.equalIn,run_underlying hu]
   ·simp [Op.equalIn,run_underlying hu]
  exact hd 9999
 have hg:∃q n c,cx=.slice q n c:=by
  rcases key with ⟨rfl,rfl⟩|⟨rfl,a,n,c,rfl⟩
  ·exact ⟨_,_,_,rfl⟩
  ·exact ⟨_,_,_,rfl⟩
 obtain ⟨q,n,c,rfl⟩:=hg
 cases ne with
 | true=>exact ⟨by simp [eqGuard],by simp only [if_true,binOp,Sem.run_bind,hq];rfl⟩
 | false=>exact ⟨by simp [eqGuard],by simp only [Am,if_false,binOp,Sem.run_bind,hq];rfl⟩
theorem Jqm (hp:RepH w S σ.h μ) {e:TypeId} {z:List AV} (hz:zc P e=some z) (esz g:Nat) :
  ∃cv w',(Instr.alloc e true (.tuple #[])).run P w=.ok cv w'∧Ran w S σ.h μ (.ptr g (J3 σ.h g) 0) (upd σ.h g (some (.arr (J3 σ.h g) esz e z false))) cv w':=by
 obtain ⟨i,v,hi,hv,hl,hn,hs⟩:=Jja hz
 have hh:=Jax (w:=w) (S:=S) (h:=σ.h) (μ:=μ) hl
 obtain ⟨h1,h2,h3⟩:=zw (el:=e) (g:=g) (o:=.arr (J3 σ.h g) esz e z false) (cs:=v.cells) hp (.inl rfl) (by simpa using hh) (.inr ⟨_,_,rfl,by omega⟩)
 exact ⟨.pointer (some ⟨w.heap.size,0,none⟩),w.alloc (.cells v.cells e),by simp [Instr.alloc,zeroValue,typeInfo,hi,hv,newVar,newRow],S,_,
  .ptr _ _ _ _ _ (Je _ _ _) (Ak _) rfl (fun _=>by simp [Gh.set,Je]),h1,h2,h3⟩
theorem Jxe (hp:RepH w S σ.h μ) {t el:TypeId} {n sz:Nat} (hu:P.underlying t=some (.array n el)) (hz:szT P el=some sz) (hM:n≤9223372036854775807) {x v:AV} {cx:Value} (hr:Rep w S σ.h μ x cx)
  (hv:Jrm σ.h n sz x=some v):∃cv,(Instr.sliceAt t cx none none none).run P w=.ok cv w∧Rep w S σ.h μ v cv:=by
 unfold Jrm at hv
 split at hv
 ·rename_i g ver
  unfold slcAO at hv
  split at hv
  ·rename_i ver' esz' el' cells fz ho
   split at hv
   ·rename_i hc
    obtain ⟨rfl,rfl,hlen,hne⟩:=hc
    injection hv with hv
    subst hv
    have hcx:=hr.ptr_inv (by simp [cur,ho,AObj.ver])
    subst hcx
    obtain ⟨cs,hb,hsz,hh,_⟩:=hp.ob g _ ho hne
    have hadd:∀a:Addr,(if n=0 then a else a.add 0)=a:=fun a=>by split<;>simp [Addr.add]
    refine ⟨.slice (some ⟨μ.b g,μ.o g,none⟩) n n,?_,?_⟩
    ·simp [Instr.sliceAt,run_underlying hu,K8 hz,Instr.sureAddr,Instr.sliceBounds,hadd]
    ·exact .arr g ver 0 n _ _ ho (Ak _) rfl fun _=>⟨sz,el',cells,fz,rfl,fun q=>(hne q).elim,fun _=>⟨_,n,cs,el',(0,0),rfl,⟨Ak _,hM⟩,hb,by simp only [Nat.zero_add];omega,fun _=>by simp⟩⟩
   ·cases hv
  ·cases hv
 ·cases hv
theorem op_wp {call:Call} {cm:List (Nat×CM)} {o:Oper} {lop:LOp} {base g0:Nat} {v:AV} {h':Heap} {next:Act→World→Prop} {Q:Exit→Act→World→Prop} (hcall:Jab P call) (hs:RepS nt w S σ μ a)
  (hc:jr P cm o.dst o.op=some lop) (he:Ja call base σ g0 lop=some (v,h')) (K:∀cv w',Ran w S σ.h μ v h' cv w'→next (a.put o.dst cv) w'):wpO ro P o a w next Q:=by
 have V:∀ {s:Sem Value} {cv:Value} {w':World},execOp a.eval o=(do pure (.value (←s)))→s.run P w=.ok cv w'→Ran w S σ.h μ v h' cv w'→wpO ro P o a w next Q:=fun {s cv w'} h1 h2 h3=>wp_value (by rw [h1];simp [h2]) (K _ _ h3)
 have V0:∀ {s:Sem Value} {cv:Value},execOp a.eval o=(do pure (.value (←s)))→s.run P w=.ok cv w→Rep w S σ.h μ v cv→σ.h=h'→wpO ro P o a w next Q:=fun {s cv} h1 h2 h3 h4=>V h1 h2 (by subst h4;exact Ran.same hs.hp h3)
 cases hop:o.op<;>rw [hop] at hc<;>simp only [jr] at hc<;>try (cases hc;done)
 case move x =>
  obtain ⟨y,hy,rfl⟩:=Xv hc
  simp only [Ja] at he
  injection he with he
  simp only [Aa] at he
  obtain ⟨rfl,rfl⟩:=he
  exact wp_value (cv:=a.eval x) (w':=w) (by simp [execOp,hop]) (K _ _ (Ran.same hs.hp (Jn hs hy)))
 case assign x =>
  obtain ⟨y,hy,rfl⟩:=Xv hc
  simp only [Ja] at he
  injection he with he
  simp only [Aa] at he
  obtain ⟨rfl,rfl⟩:=he
  exact wp_value (cv:=a.eval x) (w':=w) (by simp [execOp,hop]) (K _ _ (Ran.same hs.hp (Jn hs hy)))
 case pick c x y =>
  split at hc
  ·rename_i c' x' y' h1 h2 h3
   injection hc with hc
   subst hc
   simp only [Ja] at he
   split at he
   ·rename_i t ht
    injection he with he
    simp only [Aa] at he
    obtain ⟨rfl,rfl⟩:=he
    have hb:=Jn hs h1
    rw [ht] at hb
    refine wp_value (cv:=if t then a.eval x else a.eval y) (w':=w) (by simp [execOp,hop,hb.bool_inv,asBool]) (K _ _ (Ran.same hs.hp ?_))
    cases t with
    | true=>exact Jn hs h2
    | false=>exact Jn hs h3
   ·cases he
  ·cases hc
 case alloc e =>
  split at hc
  ·split at hc
   ·rename_i len el hu
    split at hc
    ·rename_i n z hn hz
     injection hc with hc
     subst hc
     simp only [Ja] at he
     injection he with he
     simp only [Aa] at he
     obtain ⟨rfl,rfl⟩:=he
     obtain ⟨cv,w',h1,h2⟩:=Jqm hs.hp hz n g0
     exact V (by simp only [execOp,hop]<;>rfl) h1 h2
    ·cases hc
   ·cases hc
  ·obtain ⟨z,hz,rfl⟩:=Xv hc
   simp only [Ja] at he
   injection he with he
   simp only [Aa] at he
   obtain ⟨rfl,rfl⟩:=he
   obtain ⟨cv,w',h1,h2⟩:=Jjg hs.hp hz g0
   exact V (by simp only [execOp,hop]<;>rfl) h1 h2
 case box e x =>
  obtain ⟨y,hy,rfl⟩:=Xv hc
  simp only [Ja] at he
  split at he
  ·rename_i c hcc
   injection he with he
   simp only [Aa] at he
   obtain ⟨rfl,rfl⟩:=he
   obtain ⟨cv,w',h1,h2⟩:=Jra (P:=P) (e:=e) hs.hp (Jn hs hy) hcc g0
   exact V (by simp only [execOp,hop]<;>rfl) h1 h2
  ·cases he
 case build t ps =>
  split at hc
  ·rename_i z fs hz hu
   split at hc
   ·rename_i pl hpl
    obtain ⟨l,hl,rfl⟩:=Xv hc
    simp only [Ja] at he
    split at he
    ·rename_i r hr
     injection he with he
     simp only [Aa] at he
     obtain ⟨rfl,rfl⟩:=he
     obtain ⟨cv,h1,h2⟩:=Jlc (cp:=ps.map fun (i,x)=>(i,a.eval x)) hz (.inl ⟨fs,pl,hu,hpl,by simpa using Jc0 hs hl⟩) hr
     exact V0 (by simp only [execOp,hop]<;>rfl) h1 h2 rfl
    ·cases he
   ·cases hc
  ·rename_i z n e hz hu
   split at hc
   ·rename_i i hi
    obtain ⟨l,hl,rfl⟩:=Xv hc
    simp only [Ja] at he
    split at he
    ·rename_i r hr
     injection he with he
     simp only [Aa] at he
     obtain ⟨rfl,rfl⟩:=he
     obtain ⟨cv,h1,h2⟩:=Jlc (cp:=ps.map fun (i,x)=>(i,a.eval x)) hz (.inr ⟨n,e,i,hu,hi,by simpa using Jc0 hs hl⟩) hr
     exact V0 (by simp only [execOp,hop]<;>rfl) h1 h2 rfl
    ·cases he
   ·cases hc
  ·cases hc
 case buildSlice t n ps =>
  split at hc
  ·rename_i e hu
   split at hc
   ·rename_i i z hi hz
    split at hc
    ·rename_i hb
     obtain ⟨b1,b3⟩:=hb
     obtain ⟨l,hl,rfl⟩:=Xv hc
     simp only [Ja] at he
     split at he
     ·rename_i r hr
      injection he with he
      simp only [Aa] at he
      obtain ⟨rfl,rfl⟩:=he
      obtain ⟨cv,w',h1,h2⟩:=Jsc (cp:=ps.map fun (i,x)=>(i,a.eval x)) hs.hp hu hi hz b1 b3 (by simpa using Jc0 hs hl) hr g0
      exact V (by simp only [execOp,hop]<;>rfl) h1 h2
     ·cases he
    ·cases hc
   ·cases hc
  ·cases hc
 case load t x =>
  split at hc
  ·rename_i ag n y h1 h2 h3
   split at hc
   ·rename_i hn
    injection hc with hc
    subst hc
    simp only [Ja] at he
    obtain ⟨e1,e2⟩:=hOut he
    obtain ⟨cv,r1,r2⟩:=Jcc (P:=P) hs.hp h1 h2 hn (Jn hs h3) e1
    exact V0 (by simp only [execOp,hop]<;>rfl) r1 r2 e2
   ·cases hc
  ·cases hc
 case makeMap t r =>
  cases r with
  | some x=>simp at hc
  | none =>
   simp only at hc
   split at hc
   ·rename_i kt et hu
    injection hc with hc
    subst hc
    simp only [Ja] at he
    injection he with he
    simp only [Aa] at he
    obtain ⟨rfl,rfl⟩:=he
    obtain ⟨cv,w',r1,r2⟩:=Jz8 (P:=P) hs.hp hu g0
    exact wp_value (cv:=cv) (w':=w') (by simp [execOp,hop,r1]) (K _ _ r2)
   ·cases hc
 case lookup t x k ok =>
  split at hc
  ·rename_i kt et hu
   split at hc
   ·rename_i sh ag z h1 h2 h3
    split at hc
    ·rename_i x' k' h4 h5
     injection hc with hc
     subst hc
     simp only [Ja] at he
     obtain ⟨e1,e2⟩:=hOut he
     obtain ⟨cv,r1,r2⟩:=Jmh (P:=P) hs.hp hu h1 h2 h3 (Jn hs h4) (Jn hs h5) e1
     exact V0 (cv:=cv) (by simp only [execOp,hop]<;>rfl) r1 r2 e2
    ·cases hc
   ·cases hc
  ·cases hc
 case mapUpdate t x k v' =>
  split at hc
  ·rename_i kt et hu
   split at hc
   ·rename_i sh ag h1 h2
    split at hc
    ·rename_i x' k' v'' h4 h5 h6
     injection hc with hc
     subst hc
     simp only [Ja] at he
     split at he
     ·rename_i hh hst
      injection he with he
      simp only [Aa] at he
      obtain ⟨rfl,rfl⟩:=he
      obtain ⟨w',r1,S',μ',-,r2⟩:=Jhk (P:=P) hs.hp hu h1 h2 (Jn hs h4) (Jn hs h5) (Jn hs h6) hst
      exact wp_skip (by simp [execOp,hop,r1]) (K _ _ ⟨S',μ',.any _,r2⟩)
     ·cases he
    ·cases hc
   ·cases hc
  ·cases hc
 case insert t x k v' =>
  split at hc
  ·rename_i kt et hu
   split at hc
   ·rename_i sh ag h1 h2
    split at hc
    ·rename_i x' k' v'' h4 h5 h6
     injection hc with hc
     subst hc
     simp only [Ja] at he
     split at he
     ·rename_i hh hst
      injection he with he
      simp only [Aa] at he
      obtain ⟨rfl,rfl⟩:=he
      obtain ⟨w',r1,S',μ',-,r2⟩:=Jhk (P:=P) hs.hp hu h1 h2 (Jn hs h4) (Jn hs h5) (Jn hs h6) hst
      exact wp_skip (by simp [execOp,hop,r1]) (K _ _ ⟨S',μ',.any _,r2⟩)
     ·cases he
    ·cases hc
   ·cases hc
  ·cases hc
 case store t x y =>
  split at hc
  ·rename_i n x' y' h1 h2 h3
   injection hc with hc
   subst hc
   simp only [Ja] at he
   split at he
   ·rename_i hh hst
    injection he with he
    simp only [Aa] at he
    obtain ⟨rfl,rfl⟩:=he
    obtain ⟨w',r1,r2⟩:=Jki (P:=P) hs.hp h1 (Jn hs h2) (Jn hs h3) hst
    exact wp_skip (by simp [execOp,hop,r1]) (K _ _ r2)
   ·cases he
  ·cases hc
 case nilCheck x =>
  obtain ⟨y,hy,rfl⟩:=Xv hc
  have hr:=Jn hs hy
  simp only [Ja] at he
  split at he
  ·rename_i g ver off hx
   split at he
   ·rename_i hcur
    injection he with he
    simp only [Aa] at he
    obtain ⟨rfl,rfl⟩:=he
    rw [hx] at hr
    have e:=hr.ptr_inv hcur
    exact wp_value (cv:=a.eval x) (w':=w) (by simp [execOp,hop,e]) (K _ _ (Ran.same hs.hp hr))
   ·cases he
  ·rename_i l hx
   injection he with he
   simp only [Aa] at he
   obtain ⟨rfl,rfl⟩:=he
   rw [hx] at hr
   have:∃ad,a.eval x=.pointer (some ad):=by
    generalize a.eval x=c at hr
    cases hr with|pure hp=>cases hp;exact ⟨_,rfl⟩
   obtain ⟨ad,e⟩:=this
   exact wp_value (cv:=a.eval x) (w':=w) (by simp [execOp,hop,e]) (K _ _ (Ran.same hs.hp hr))
  ·rename_i f caps hx
   injection he with he
   simp only [Aa] at he
   obtain ⟨rfl,rfl⟩:=he
   rw [hx] at hr
   obtain ⟨cs,e,_⟩:=hr.fn_inv
   exact wp_value (cv:=a.eval x) (w':=w) (by simp [execOp,hop,e]) (K _ _ (Ran.same hs.hp hr))
  ·rename_i f l hx
   injection he with he
   simp only [Aa] at he
   obtain ⟨rfl,rfl⟩:=he
   rw [hx] at hr
   obtain ⟨cs,e,_⟩:=hr.bfn_inv
   exact wp_value (cv:=a.eval x) (w':=w) (by simp [execOp,hop,e]) (K _ _ (Ran.same hs.hp hr))
  ·cases he
 case binOp op t x y yt =>
  split at hc
  ·rename_i k x' y' hu h1 h2
   have fin:lop=.ibin op x' y'→wpO ro P o a w next Q:=by
    rintro rfl
    simp only [Ja] at he
    split at he
    ·rename_i k1 n1 k2 n2 hx hy
     split at he
     ·rename_i hk
      subst hk
      obtain ⟨e1,e2⟩:=hOut he
      obtain ⟨cv,r1,r2⟩:=Jhs (w:=w) (S:=S) (h:=σ.h) (μ:=μ) (P:=P) (t:=t) e1
      have hx':=Jn hs h1
      have hy':=Jn hs h2
      rw [hx] at hx'
      rw [hy] at hy'
      refine V0 (cv:=cv) (by simp only [execOp,hop]<;>rfl) ?_ r2 e2
      rw [hx'.int_inv,hy'.int_inv]
      simp [Ji3,r1]
     ·cases he
    ·cases he
   have finS:∀b,op=b→(∃q,P.underlying yt=some (.int q))→lop=.shf b x' y'→wpO ro P o a w next Q:=by
    rintro b rfl hyt rfl
    simp only [Ja] at he
    split at he
    ·rename_i k1 n1 k2 n2 hx hy
     obtain ⟨e1,e2⟩:=hOut he
     have hx':=Jn hs h1
     have hy':=Jn hs h2
     rw [hx] at hx'
     rw [hy] at hy'
     obtain ⟨cv,r1,r2⟩:∃cv,(binOp op t (.int k1 n1) (.int k2 n2)).run P w=.ok cv w∧Rep w S σ.h μ v cv:=by
      unfold shfV at e1
      split at e1
      ·cases e1
      ·rename_i hb
       split at e1
       ·injection e1 with e1
        have e1':v=.int k1 (k1.wrap (n1 * 2 ^ min n2.toNat k1.bits)):=e1.symm
        exact ⟨.int k1 (k1.wrap (n1 * 2 ^ min n2.toNat k1.bits)),by simp [binOp_shl,Op.shift,hb],by rw [e1'];exact .pure (.int _ _)⟩
       ·injection e1 with e1
        have e1':v=.int k1 (n1.fdiv (2 ^ min n2.toNat k1.bits)):=e1.symm
        exact ⟨.int k1 (n1.fdiv (2 ^ min n2.toNat k1.bits)),by simp [binOp_shr,Op.shift,hb],by rw [e1'];exact .pure (.int _ _)⟩
       ·cases e1
     refine V0 (cv:=cv) (by simp only [execOp,hop]<;>rfl) ?_ r2 e2
     rw [hx'.int_inv,hy'.int_inv]
     simp [Ji3,r1]
    ·cases he
   split at hc
   ·split at hc
    ·rename_i q hq;injection hc with hc;exact finS .shl rfl ⟨q,hq⟩ hc.symm
    ·cases hc
   ·split at hc
    ·rename_i q hq;injection hc with hc;exact finS .shr rfl ⟨q,hq⟩ hc.symm
    ·cases hc
   ·injection hc with hc;exact fin hc.symm
  ·rename_i e x' hu h1 h2
   have fin:∀ne,op=(if ne then .neq else .eql)→lop=.isnil ne x'→wpO ro P o a w next Q:=by
    rintro ne rfl rfl
    simp only [Ja] at he
    split at he
    ·rename_i b hb
     injection he with he
     simp only [Aa] at he
     obtain ⟨rfl,rfl⟩:=he
     obtain ⟨r1,r2⟩:=Juf (X:=x) (Y:=y) (ne:=ne) hu (Jn hs h1) (by simpa [St.ev] using Jn hs h2) hb
     refine V0 (cv:=.bool (if ne then !b else b)) (by simp only [execOp,hop]<;>rfl) ?_ (.pure (.bool _)) rfl
     simp [r1,r2]
    ·cases he
   split at hc
   ·injection hc with hc;exact fin false rfl hc.symm
   ·injection hc with hc;exact fin true rfl hc.symm
   ·cases hc
  ·rename_i d x' y' hni hns hu h1 h2
   have hnk:∀k,P.underlying t≠some (.int k):=fun k e=>by
    rw [hu] at e;injection e with e;exact hni k e
   have fin:∀ne ag sh,eqT P t=some (ag,sh)→op=(if ne then .neq else .eql)→lop=.eqv ne ag sh x' y'→wpO ro P o a w next Q:=by
    rintro ne ag sh ht rfl rfl
    simp only [Ja] at he
    split at he
    ·rename_i b hb
     injection he with he
     simp only [Aa] at he
     obtain ⟨rfl,rfl⟩:=he
     obtain ⟨r1,r2⟩:=J22 (X:=x) (Y:=y) (ne:=ne) ht hnk (Jn hs h1) (Jn hs h2) hb
     refine V0 (cv:=.bool (if ne then !b else b)) (by simp only [execOp,hop]<;>rfl) ?_ (.pure (.bool _)) rfl
     simp [r1,r2]
    ·cases he
   split at hc
   ·split at hc
    ·rename_i ag sh ht;injection hc with hc;exact fin false ag sh ht rfl hc.symm
    ·cases hc
   ·split at hc
    ·rename_i ag sh ht;injection hc with hc;exact fin true ag sh ht rfl hc.symm
    ·cases hc
   ·cases hc
  ·cases hc
 case unOp op t x =>
  obtain ⟨y,hy,rfl⟩:=Xv hc
  have hr:=Jn hs hy
  simp only [Ja] at he
  split at he
  ·rename_i b hx
   injection he with he
   simp only [Aa] at he
   obtain ⟨rfl,rfl⟩:=he
   rw [hx] at hr
   refine V0 (cv:=.bool !b) (by simp only [execOp,hop]<;>rfl) ?_ (.pure (.bool _)) rfl
   rw [hr.bool_inv];rfl
  ·rename_i k n hx
   injection he with he
   simp only [Aa] at he
   obtain ⟨rfl,rfl⟩:=he
   rw [hx] at hr
   refine V0 (cv:=.int k (k.wrap (0 - n))) (by simp only [execOp,hop]<;>rfl) ?_ (.pure (.int _ _)) rfl
   rw [hr.int_inv];rfl
  ·cases he
 case convert s d x =>
  split at hc
  ·rename_i k1 k2 y h1 h2 h3
   injection hc with hc
   subst hc
   simp only [Ja] at he
   split at he
   ·rename_i k n hx
    injection he with he
    simp only [Aa] at he
    obtain ⟨rfl,rfl⟩:=he
    have hr:=Jn hs h3
    rw [hx] at hr
    refine V0 (by simp only [execOp,hop]<;>rfl) ?_ (.pure (.int _ _)) rfl
    rw [hr.int_inv]
    exact Jxl ⟨_,h1⟩ h2
   ·cases he
  ·cases hc
 case makeFunc fn first caps =>
  cases fn with
  | func f =>
   simp only at hc
   split at hc
   ·rename_i h0
    obtain ⟨l,hl,rfl⟩:=Xv hc
    simp only [Ja] at he
    injection he with he
    simp only [Aa] at he
    obtain ⟨rfl,rfl⟩:=he
    obtain ⟨r1,r2⟩:=Jch hs hl
    have hf:first=#[]:=Array.eq_empty_of_size_eq_zero h0
    subst hf
    refine V0 (cv:=.func (.func f) #[] (caps.map a.eval)) (by simp only [execOp,hop]<;>rfl) (by simp [Instr.makeFunc]) (.fn f _ _ r1.symm r2) rfl
   ·split at hc
    ·rename_i h0
     split at hc
     ·rename_i x hl
      injection hc with hc
      subst hc
      simp only [Ja] at he
      split at he
      ·rename_i l hx
       split at he
       ·rename_i hfl
        injection he with he
        simp only [Aa] at he
        obtain ⟨rfl,rfl⟩:=he
        obtain ⟨r1,r2⟩:=Jch hs hl
        have hr:=r2 0 _ rfl
        rw [hx] at hr
        obtain ⟨cs,ec,hl',hcs⟩:=hr.agg_inv
        have hcp:caps=#[]:=Array.eq_empty_of_size_eq_zero h0
        subst hcp
        have hf1:first.map a.eval=#[.agg cs]:=by
         have hz:(first.map a.eval).size=1:=by rw [r1];rfl
         apply Array.ext
         ·rw [hz];rfl
         ·intro i h1 h2
          have hi:i=0:=by omega
          subst hi
          rw [Array.getD_eq_getD_getElem?,Array.getElem?_eq_getElem h1] at ec
          exact ec
        refine V0 (cv:=.func (.func f) #[.agg cs] #[]) (by simp only [execOp,hop]<;>rfl) (by rw [hf1];simp [Instr.makeFunc]) (.pure (.bfn f l cs hl' (fun i y hi=>(hcs i y hi).2) fun i y hi=>?_)) rfl
        exact (hcs i y hi).1.flat (Ae.1 hfl y (Ah hi))
       ·cases he
      ·cases he
     ·cases hc
    ·cases hc
  | _=>cases hc
 case makeSlice t l c =>
  split at hc
  ·rename_i e hu
   split at hc
   ·rename_i i z l' c' hi hz h1 h2
    split at hc
    ·rename_i hi0
     injection hc with hc
     subst hc
     simp only [Ja] at he
     split at he
     ·rename_i k n k' m hx hy
      split at he
      ·rename_i hb
       obtain ⟨b1,b2,b5,b3,b4⟩:=hb
       injection he with he
       simp only [Aa] at he
       obtain ⟨rfl,rfl⟩:=he
       have hx':=Jn hs h1
       have hy':=Jn hs h2
       rw [hx] at hx'
       rw [hy] at hy'
       obtain ⟨cv,w',r1,r2⟩:=J13 (k:=k) (k':=k') hs.hp hu hi hz hi0 b1 b2 b5 b3 b4 g0
       refine V (by simp only [execOp,hop]<;>rfl) ?_ r2
       rw [hx'.int_inv,hy'.int_inv]
       exact r1
      ·cases he
     ·cases he
    ·cases hc
   ·cases hc
  ·cases hc
 case slice t x lo hi mx =>
  cases mx with
  | some _=>cases hc
  | none =>
   simp only at hc
   split at hc
   ·rename_i e hu
    split at hc
    ·rename_i n x' hn h1
     have fin:∀lo' hi',lop=.slc n x' lo' hi'→Jlv w S σ.h μ (lo'.map σ.ev) (lo.map a.eval)→Jlv w S σ.h μ (hi'.map σ.ev) (hi.map a.eval)→wpO ro P o a w next Q:=by
      rintro lo' hi' rfl r1 r2
      simp only [Ja] at he
      obtain ⟨e1,e2⟩:=hOut he
      obtain ⟨cv,s1,s2⟩:=Jtl (P:=P) hu hn (Jn hs h1) r1 r2 e1
      exact V0 (by simp only [execOp,hop]<;>rfl) s1 s2 e2
     split at hc
     ·injection hc with hc;exact fin none none hc.symm trivial trivial
     ·split at hc
      ·rename_i p q hp;injection hc with hc;exact fin (some q) none hc.symm (Jn hs hp) trivial
      ·cases hc
     ·split at hc
      ·rename_i p q hp;injection hc with hc;exact fin none (some q) hc.symm trivial (Jn hs hp)
      ·cases hc
     ·split at hc
      ·rename_i p q p' q' hp hq;injection hc with hc;exact fin (some p') (some q') hc.symm (Jn hs hp) (Jn hs hq)
      ·cases hc
    ·cases hc
   ·rename_i n el hu
    split at hc
    ·split at hc
     ·rename_i sz x' hz h1
      split at hc
      ·rename_i hM
       injection hc with hc
       subst hc
       simp only [Ja] at he
       obtain ⟨e1,e2⟩:=hOut he
       obtain ⟨cv,s1,s2⟩:=Jxe (P:=P) hs.hp hu hz (Nat.le_of_ble_eq_true hM) (Jn hs h1) e1
       exact V0 (by simp only [execOp,hop]<;>rfl) s1 s2 e2
      ·cases hc
     ·cases hc
    ·cases hc
   ·cases hc
 case fieldAddr s x f =>
  split at hc
  ·rename_i fs hu
   split at hc
   ·rename_i fd x' hf h1
    split at hc
    ·rename_i n hn
     split at hc
     ·rename_i hn0
      injection hc with hc
      subst hc
      simp only [Ja] at he
      obtain ⟨e1,e2⟩:=hOut he
      obtain ⟨cv,r1,r2⟩:=Jue (P:=P) hu hf hn hn0 (Jn hs h1) e1
      exact V0 (by simp only [execOp,hop]<;>rfl) r1 r2 e2
     ·cases hc
    ·cases hc
   ·cases hc
  ·cases hc
 case field s x f =>
  split at hc
  ·rename_i fs hu
   split at hc
   ·rename_i fd x' hf h1
    split at hc
    ·rename_i ag n hag hn
     split at hc
     ·rename_i hn0
      injection hc with hc
      subst hc
      simp only [Ja] at he
      split at he
      ·rename_i l hx
       obtain ⟨e1,e2⟩:=hOut he
       have hr:=Jn hs h1
       rw [hx] at hr
       obtain ⟨cv,r1,r2⟩:=Jyo (P:=P) hu hf hag hn hn0 hr e1
       exact V0 (by simp only [execOp,hop]<;>rfl) r1 r2 e2
      ·cases he
     ·cases hc
    ·cases hc
   ·cases hc
  ·cases hc
 case indexAddr t x i =>
  split at hc
  ·rename_i e x' i' hu h1 h2
   split at hc
   ·rename_i n hn
    injection hc with hc
    subst hc
    simp only [Ja] at he
    obtain ⟨e1,e2⟩:=hOut he
    obtain ⟨cv,r1,r2⟩:=Jtd (P:=P) hu hn (Jn hs h1) (Jn hs h2) e1
    exact V0 (by simp only [execOp,hop]<;>rfl) r1 r2 e2
   ·cases hc
  ·rename_i len e x' i' hu h1 h2
   split at hc
   ·rename_i n hn
    injection hc with hc
    subst hc
    simp only [Ja] at he
    obtain ⟨e1,e2⟩:=hOut he
    obtain ⟨cv,r1,r2⟩:=Jp9 (P:=P) hu hn (Jn hs h1) (Jn hs h2) e1
    exact V0 (by simp only [execOp,hop]<;>rfl) r1 r2 e2
   ·cases hc
  ·cases hc
 case index t x i =>
  split at hc
  ·rename_i len e x' i' hu h1 h2
   split at hc
   ·rename_i ag n hag hn
    split at hc
    ·rename_i hn0
     injection hc with hc
     subst hc
     simp only [Ja] at he
     obtain ⟨e1,e2⟩:=hOut he
     obtain ⟨cv,r1,r2⟩:=Jyj (P:=P) hu hag hn hn0 (Jn hs h1) (Jn hs h2) e1
     exact V0 (by simp only [execOp,hop]<;>rfl) r1 r2 e2
    ·cases hc
   ·cases hc
  ·cases hc
 case extract x i =>
  obtain ⟨y,hy,rfl⟩:=Xv hc
  simp only [Ja] at he
  split at he
  ·rename_i l hx
   obtain ⟨e1,e2⟩:=hOut he
   have hr:=Jn hs hy
   rw [hx] at hr
   obtain ⟨cv,r1,r2⟩:=J1l (P:=P) hr e1
   exact V0 (by simp only [execOp,hop]<;>rfl) r1 r2 e2
  ·cases he
 case call c =>
  obtain ⟨callee,args,argTypes⟩:=c
  simp only at hc
  split at hc
  ·-- len
   split at hc
   ·rename_i x t hargs htys
    have ha:args=#[x]:=by rw [←Array.toList_inj];exact hargs
    have ht:argTypes=#[t]:=by rw [←Array.toList_inj];exact htys
    subst ha ht
    split at hc
    ·rename_i e y hu h1
     injection hc with hc
     subst hc
     simp only [Ja] at he
     split at he
     ·rename_i n hn
      injection he with he
      simp only [Aa] at he
      obtain ⟨rfl,rfl⟩:=he
      have:=J08 (P:=P) (ty:=o.type) hu (Jn hs h1) hn
      exact wp_value (cv:=.int .i64 n) (w':=w) (by simp [execOp,hop,resolve,invoke,builtin,this]) (K _ _ (Ran.same hs.hp (.pure (.int _ _))))
     ·cases he
    ·rename_i k e y hu h1
     injection hc with hc
     subst hc
     simp only [Ja] at he
     split at he
     ·rename_i n hn
      injection he with he
      simp only [Aa] at he
      obtain ⟨rfl,rfl⟩:=he
      have:=Jxy (P:=P) (ty:=o.type) hu hs.hp (Jn hs h1) hn
      exact wp_value (cv:=.int .i64 n) (w':=w) (by simp [execOp,hop,resolve,invoke,builtin,this]) (K _ _ (Ran.same hs.hp (.pure (.int _ _))))
     ·cases he
    ·rename_i y hu h1
     injection hc with hc
     subst hc
     simp only [Ja] at he
     split at he
     ·rename_i n hn
      injection he with he
      simp only [Aa] at he
      obtain ⟨rfl,rfl⟩:=he
      have:=Jxj (P:=P) (ty:=o.type) hu (Jn hs h1) hn
      exact wp_value (cv:=.int .i64 n) (w':=w) (by simp [execOp,hop,resolve,invoke,builtin,this]) (K _ _ (Ran.same hs.hp (.pure (.int _ _))))
     ·cases he
    ·cases hc
   ·cases hc
  ·-- append
   split at hc
   ·rename_i x y t t' hargs htys
    have ha:args=#[x,y]:=by rw [←Array.toList_inj];exact hargs
    have ht:argTypes=#[t,t']:=by rw [←Array.toList_inj];exact htys
    subst ha ht
    split at hc
    ·rename_i htt
     subst htt
     split at hc
     ·rename_i e x' y' hu h1 h2
      split at hc
      ·rename_i i z hi hz
       split at hc
       ·rename_i hi0
        injection hc with hc
        subst hc
        simp only [Ja] at he
        obtain ⟨cv,w',r1,r2⟩:=Jf6 (P:=P) (ty:=o.type) hs.hp hu hi hz hi0 (Jn hs h1) (Jn hs h2) he
        exact wp_value (cv:=cv) (w':=w') (by simp [execOp,hop,resolve,invoke,builtin,r1]) (K _ _ r2)
       ·cases hc
      ·cases hc
     ·cases hc
    ·cases hc
   ·cases hc
  ·-- delete
   split at hc
   ·rename_i x k t r hargs htys
    have ha:args=#[x,k]:=by rw [←Array.toList_inj];exact hargs
    have ht:argTypes[0]?=some t:=by
     rw [←Array.getElem?_toList,htys];rfl
    subst ha
    split at hc
    ·rename_i kt et hu
     split at hc
     ·rename_i sh ag h1 h2
      split at hc
      ·rename_i x' k' h4 h5
       injection hc with hc
       subst hc
       simp only [Ja] at he
       split at he
       ·rename_i hh hst
        injection he with he
        simp only [Aa] at he
        obtain ⟨rfl,rfl⟩:=he
        obtain ⟨w',r1,r2⟩:=Jm4 (P:=P) (ty:=o.type) hs.hp ht hu h1 h2 (Jn hs h4) (Jn hs h5) hst
        exact wp_value (cv:=.tuple #[]) (w':=w') (by simp [execOp,hop,resolve,invoke,builtin,r1]) (K _ _ r2)
       ·cases he
      ·cases hc
     ·cases hc
    ·cases hc
   ·cases hc
  ·-- max
   split at hc
   ·rename_i x y hargs
    have ha:args=#[x,y]:=by rw [←Array.toList_inj];exact hargs
    subst ha
    split at hc
    ·rename_i x' y' h1 h2
     injection hc with hc
     subst hc
     simp only [Ja] at he
     split at he
     ·rename_i k1 n1 k2 n2 hx hy
      injection he with he
      simp only [Aa] at he
      obtain ⟨rfl,rfl⟩:=he
      have hx':=Jn hs h1
      have hy':=Jn hs h2
      rw [hx] at hx'
      rw [hy] at hy'
      refine wp_value (cv:=.int k1 (if n2 > n1 then n2 else n1)) (w':=w) (by simp [execOp,hop,resolve,invoke,builtin,hx'.int_inv,hy'.int_inv,Builtin.max_,Builtin.max2]) (K _ _ (Ran.same hs.hp ?_))
      simp only [mmV,if_true]
      exact .pure (.int _ _)
     ·cases he
    ·cases hc
   ·cases hc
  ·-- min
   split at hc
   ·rename_i x y hargs
    have ha:args=#[x,y]:=by rw [←Array.toList_inj];exact hargs
    subst ha
    split at hc
    ·rename_i x' y' h1 h2
     injection hc with hc
     subst hc
     simp only [Ja] at he
     split at he
     ·rename_i k1 n1 k2 n2 hx hy
      injection he with he
      simp only [Aa] at he
      obtain ⟨rfl,rfl⟩:=he
      have hx':=Jn hs h1
      have hy':=Jn hs h2
      rw [hx] at hx'
      rw [hy] at hy'
      refine wp_value (cv:=.int k1 (if n2<n1 then n2 else n1)) (w':=w) (by simp [execOp,hop,resolve,invoke,builtin,hx'.int_inv,hy'.int_inv,Builtin.min_,Builtin.min2]) (K _ _ (Ran.same hs.hp ?_))
      simp only [mmV,Am,if_false]
      exact .pure (.int _ _)
     ·cases he
    ·cases hc
   ·cases hc
  ·-- a call
   rename_i f
   split at hc
   ·rename_i l hl
    injection hc with hc
    obtain ⟨r1,r2⟩:=Jch hs hl
    have enter:FnOK P f→(execOp a.eval o).run P w=.ok (.enter f (args.map a.eval)) w:=fun hf=>by
     simp [execOp,hop,resolve,Act.eval,Deferred.ofValue,invoke,Kt hf]
    split at hc
    ·subst hc
     simp only [Ja] at he
     split at he
     ·rename_i vs ns hsn
      split at he
      ·rename_i u h0 hv
       split at he
       ·rename_i hcase
        injection he with he
        simp only [Aa] at he
        obtain ⟨rfl,rfl⟩:=he
        exact wp_enter (enter (hcall.fn _ _ _ _ hv)) (Jp4 hcall hs.hp hsn hv r1 r2) fun e w' ⟨cv,he,hr,_⟩=>⟨cv,he,K _ _ (hr hcase)⟩
       ·cases he
      ·cases he
     ·cases he
    ·subst hc
     simp only [Ja] at he
     split at he
     ·rename_i vs ns hsn
      split at he
      ·rename_i u h0 hv
       injection he with he
       simp only [Aa] at he
       obtain ⟨rfl,rfl⟩:=he
       exact wp_enter (enter (hcall.fn _ _ _ _ hv)) (Jp4 hcall hs.hp hsn hv r1 r2) fun e w' ⟨cv,he,_,hr⟩=>⟨cv,he,K _ _ hr⟩
      ·cases he
     ·cases he
    ·subst hc
     simp only [Ja] at he
     obtain ⟨c1,c2⟩:=call_q hcall hs.hp he r1 r2
     exact wp_enter (enter c1) c2 fun e w' ⟨cv,he,hr⟩=>⟨cv,he,K _ _ hr⟩
   ·cases hc
  ·-- a call of a value
   rename_i x
   obtain ⟨l,hl,rfl⟩:=Xv hc
   simp only [Ja] at he
   split at he
   ·rename_i f caps vs ns hsn
    split at he
    ·rename_i u h0 hv
     split at he
     ·rename_i hcase
      injection he with he
      simp only [Aa] at he
      obtain ⟨rfl,rfl⟩:=he
      have hx:=hs.fr x
      obtain ⟨r1,r2⟩:=Jch hs hl
      have hsn':=hsn
      unfold Jdr at hsn'
      split at hsn'
      ·rename_i ps hps
       injection hsn' with hsn'
       simp only [Aa] at hsn'
       obtain ⟨e1,e2⟩:=hsn'
       obtain ⟨m1,m2⟩:=zm hps
       obtain ⟨p,hp1,hp2⟩:=m2 0 (σ.ev (.t x)) rfl
       have hp0:p.1=.fn f caps:=by
        have:(ps.map (·.1))[0]?=some p.1:=by simp [Av,hp1]
        rw [e1] at this
        simpa using this.symm
       have hfn:∃cs:Array Value,a.tmps.getD x undef=.func (.func f) #[] cs:=by
        obtain ⟨l',hl'⟩:=Jt0 (k:=depth) (v:=σ.f x) (f:=f) (caps:=caps) (ns:=p.2) (h:=σ.h) (by rw [←hp0];exact hp2)
        rw [hl'] at hx
        obtain ⟨cs,e,_⟩:=hx.fn_inv
        exact ⟨cs,e⟩
       obtain ⟨cs,hcs⟩:=hfn
       obtain ⟨f1,f2,f3⟩:=Jfy hs.hp (Jcl hsn)
       obtain ⟨n1,n2⟩:=Jfk hs.hp (S':=fun b=>S b∨Liv σ.h μ ns b) (fun b hb=>.inl hb) hsn (fun g hg o ho hl=>.inr ⟨g,hg,o,ho,hl,rfl⟩)
       have hcap:RepP w (fun b=>S b∨Liv σ.h μ ns b) (.fn f caps) (.func (.func f) #[] cs):=by
        obtain ⟨x0,hx0,hxr⟩:=n2 0 (.fn f caps) rfl
        simp at hx0
        subst hx0
        refine hxr _ ?_
        have:=hs.fr x
        rw [hcs] at this
        exact this
       have hargs:∀i y,(vs++caps)[i]?=some y→RepP w (fun b=>S b∨Liv σ.h μ ns b) y ((args.map a.eval++cs).getD i undef):=by
        intro i y hi
        have hvl:vs.length=(args.map a.eval).size:=by simp at n1;rw [r1];simp;omega
        by_cases hlt:i<vs.length
        ·rw [Ba hlt] at hi
         obtain ⟨x0,hx0,hxr⟩:=n2 (i+1) y (by simpa using hi)
         have e:(args.map a.eval++cs).getD i undef=(args.map a.eval).getD i undef:=by
          simp only [Array.getD_eq_getD_getElem?]
          rw [Array.getElem?_append_left (by omega)]
         rw [e]
         exact hxr _ (r2 i x0 (by simpa using hx0))
        ·rw [Bh (by omega)] at hi
         have e:(args.map a.eval++cs).getD i undef=cs.getD (i - vs.length) undef:=by
          simp only [Array.getD_eq_getD_getElem?]
          rw [Array.getElem?_append_right (by omega),hvl]
         rw [e]
         cases hcap with
         | fn _ _ _ hl hr=>exact hr _ y hi
       have hcl:caps.length=cs.size:=by cases hcap with|fn _ _ _ hl hr=>exact hl
       have hrun:(execOp a.eval o).run P w=.ok (.enter f (args.map a.eval++cs)) w:=by
        have hev:a.eval (.tmp x)=.func (.func f) #[] cs:=hcs
        simp [execOp,hop,resolve,hev,Deferred.ofValue,invoke,Kt (hcall.fn _ _ _ _ hv)]
       refine wp_enter hrun (hcall.pure f (vs++caps) u h0 hv w _ _ f1.lt (by simp;simp at n1;rw [n1];simp at r1;omega) hargs) fun e w' ⟨cv,he,hr,ho⟩=>⟨cv,he,K _ _ ?_⟩
       rcases hcase with hcase|hcase
       ·subst hcase
        refine Je4 hs.hp ho (hr.mono (fun b hb=>?_) (fun _ _=>rfl))
        rcases hb with (hb|⟨g,hg,_⟩)|hb
        ·exact .inl hb
        ·cases hg
        ·exact .inr hb
       ·exact Je4 hs.hp ho (hr.of_scalar hcase)
      ·cases hsn'
     ·cases he
    ·cases he
   ·cases he
  ·cases hc
end
section
variable {ro:Option Nat} {P:Program} {w:World} {S:Nat→Prop} {σ:St} {μ:Gh} {a:Act} {nt:Nat}
def valB:Value→Option Bool
 | .bool b=>some b
 | _=>none
theorem Jed {ops:Array Oper} {j d:Nat} (hs:RepS nt w S σ μ a) (hj:(ops[j]?).bind (·.dst)=some d) (hd:d<nt) {v:Value} (hv:a.tmps.getD d undef=v):yielded ops a.tmps j=valB v:=by
 unfold yielded
 rw [hj]
 have hlt:d<a.tmps.size:=by have:=hs.sz;omega
 have:a.tmps[d]?=some v:=by rw [←hv];exact getD_some hlt
 simp only [Az,this]
 cases v<;>rfl
theorem Jpe {call:Call} {cm:List (Nat×CM)} {ops:Array Oper} {o:Oper} {lo:LOper} {base:Nat} {σ':St} {K:Act→World→Prop} {Q:Exit→Act→World→Prop} (hcall:Jab P call) (hs:RepS nt w S σ μ a)
  (hc:comp P cm nt ops o=some lo) (he:Zf call base lo σ=some σ')
  (hK:∀a' w' S' μ',a'.defers=a.defers→RepS nt w' S' σ' μ' a'→Evo w S σ.h μ w' S' σ'.h μ'→EvoV σ.h μ σ'.h μ'→K a' w') :
  if Region.wanted o (yielded ops a.tmps)=true then wpO ro P o a w K Q else K (a.put o.dst undef) w:=by
 unfold comp at hc
 split at hc
 ·cases hc
 ·rename_i lop hlop
  split at hc
  ·rename_i hd
   have run:∀ {g0 v h},Ja call base σ g0 lop=some (v,h)→σ'=σ.put o.dst v h→wpO ro P o a w K Q:=by
    rintro g0 v h hev rfl
    refine op_wp hcall hs hlop hev fun cv w' ⟨S',μ',r1,r2,r3,r4⟩=>hK _ _ S' μ' (by cases o.dst<;>rfl) (Jlb hs hd r1 r2 r3 r4) ?_ ?_
    ·cases o.dst<;>exact r3
    ·cases o.dst<;>exact r4
   have skip:σ'=σ.put o.dst (.tup []) σ.h→K (a.put o.dst undef) w:=by
    rintro rfl
    refine hK _ _ S μ (by cases o.dst<;>rfl) (Jlb hs hd (.tup [] #[] rfl (fun i x hi=>by simp at hi)) hs.hp .refl (.refl _ _)) ?_ ?_
    ·cases o.dst<;>exact .refl
    ·cases o.dst<;>exact .refl _ _
   split at hc
   ·rename_i hg
    injection hc with hc
    subst hc
    rw [if_pos (by simp [Region.wanted,hg])]
    simp only [Zf] at he
    split at he
    ·rename_i v h hev
     injection he with he
     exact run hev he.symm
    ·cases he
   ·rename_i j want hg
    split at hc
    ·rename_i d hj
     split at hc
     ·rename_i hlt
      injection hc with hc
      subst hc
      simp only [Zf] at he
      have hrd:=hs.fr d
      split at he
      ·rename_i b hb
       rw [hb] at hrd
       have hy:=Jed hs hj hlt hrd.bool_inv
       have hw:Region.wanted o (yielded ops a.tmps)=(b==want):=by simp [Region.wanted,hg,hy,valB]
       split at he
       ·rename_i hbw
        rw [if_pos (by rw [hw];simpa using hbw)]
        split at he
        ·rename_i v h hev
         injection he with he
         exact run hev he.symm
        ·cases he
       ·rename_i hbw
        rw [if_neg (by rw [hw];simpa using hbw)]
        injection he with he
        exact skip he.symm
      ·rename_i hb
       rw [hb] at hrd
       have hy:=Jed hs hj hlt hrd.tup0_inv
       rw [if_neg (by simp [Region.wanted,hg,hy,valB])]
       injection he with he
       exact skip he.symm
      ·cases he
     ·cases hc
    ·cases hc
  ·cases hc
theorem Jmm {cm:List (Nat×CM)} {ops:Array Oper} {o:Oper} {lo:LOper} (hc:comp P cm nt ops o=some lo):∀c,o.op≠.defer c:=by
 intro c h
 unfold comp at hc
 rw [h] at hc
 simp [jr] at hc
end
def LO.tmp?:LO→List Nat
 | .t n=>[n]
 | .c _=>[]
def LOp.looks:LOp→List Nat
 | .alloc _|.allocA .. | .mkM ..=>[]
 | .mov x|.mkbf _ x|.box x|.load _ _ x|.un _ x|.conv _ x|.nilck x|.faddr _ x|.fld _ _ _ x|.ext x _|.len x|.lenM x|.lenS x|.isnil _ x|.slcA _ _ x=>x.tmp?
 | .pick c a b=>c.tmp?++a.tmp?++b.tmp?
 | .build _ ps|.bslice _ _ _ _ ps=>ps.flatMap fun p=>p.2.2.tmp?
 | .store _ x y|.ibin _ x y|.eqv _ _ _ x y|.mkS _ _ _ _ x y|.iaddr _ x y|.iaddrA _ _ x y|.idx _ _ _ x y|.app _ _ _ _ x y|.appn _ _ _ _ _ x y|.ston _ _ x y|.look _ _ _ _ x y|.delM _ _ x y|.shf _ x y|.mm _ x y=>x.tmp?++y.tmp?
 | .setM _ _ x k v=>x.tmp?++k.tmp?++v.tmp?
 | .mkfn _ l|.callp _ l|.callz _ l|.callq _ l=>l.flatMap LO.tmp?
 | .callv x l=>x.tmp?++l.flatMap LO.tmp?
 | .slc _ x lo hi=>x.tmp?++(lo.map LO.tmp?).getD []++(hi.map LO.tmp?).getD []
 | .msk _ op=>op.looks
def LOper.looks (o:LOper):List Nat:=o.op.looks++(o.guard.map fun g=>[g.1]).getD []
def LOp.still:LOp→Bool
 | .load .. | .nilck _|.slc .. | .faddr .. | .iaddr .. | .iaddrA .. | .len _|.isnil .. | .slcA .. | .callp _ []=>true
 | _=>false
def LOp.frzs:LOp→Bool
 | .callz ..=>true
 | _=>false
def LOp.aps:LOp→Bool
 | .app ..=>true
 | .appn ..=>true
 | _=>false
def LOp.nwD:LOp→Option (List Nat)
 | .appn ds _ _ _ _ _ _=>some ds
 | .ston ds _ _ _=>some ds
 | _=>none
def LOp.past (i j:LOp):Bool :=
 match i,j.nwD with
 | .msk ds _,some ds'=>ds'.all fun d=>ds.contains d
 | _,_=>false
def LOp.offN (j:LOp) (d:Option Nat):Bool :=
 match j,d with
 | .msk ds _,some x=>ds.contains x
 | _,_=>false
def Jp8 (i j:LOper):Bool :=
 (match i.dst with|some d=>!j.looks.contains d&&j.dst != some d|none=>true) &&
 (match j.dst with|some d=>!i.looks.contains d|none=>true) &&
 (i.op.cls==0 || j.op.cls==0 || (i.op.cls==1&&(j.op.cls==1 || j.op.cls==2)) || (i.op.cls==2&&j.op.cls==2) || (i.op.still&&j.op.frzs) || i.op.past j.op || (i.op.frzs&&j.op.cls==2) || (i.op.aps&&i.dst.isSome&&j.op.cls==2) || (i.op.cls==2&&j.op.offN i.dst) || j.op.past i.op) &&
 (i.op.cls != 2 || i.dst.isSome)&&(j.op.cls != 2 || j.dst.isSome)
theorem X6 {σ σ':St} {x:LO} (h:∀n∈x.tmp?,σ.f n=σ'.f n):σ.ev x=σ'.ev x:=by
 cases x with
 | t n=>exact h n (by simp [LO.tmp?])
 | c v=>rfl
theorem zq {σ σ':St} {l:List LO} (h:∀n∈l.flatMap LO.tmp?,σ.f n=σ'.f n):l.map σ.ev=l.map σ'.ev :=
 List.map_congr_left fun x hx=>X6 fun n hn=>h n (Ap.2 ⟨x,hx,hn⟩)
theorem Jfu {σ σ':St}:∀ {ps:List (Nat×Nat×LO)} {z:List AV},(∀n∈ps.flatMap (fun p=>p.2.2.tmp?),σ.f n=σ'.f n)→Jhp σ.ev z ps=Jhp σ'.ev z ps
 | [],z,_=>rfl
 | (off,n,x)::r,z,h=>by
  simp only [Jhp]
  rw [X6 (x:=x) (σ':=σ') fun m hm=>h m (by simp [hm])]
  split
  ·split
   ·exact Jfu fun m hm=>h m (by simp only [List.flatMap_cons,Af];exact .inr hm)
   ·rfl
  ·rfl
theorem Jnl {call:Call} {base g0:Nat} {σ σ':St} {op:LOp} (hm:∀ds o,op≠.msk ds o) (hh:σ.h=σ'.h) (h:∀n∈op.looks,σ.f n=σ'.f n):Ja call base σ g0 op=Ja call base σ' g0 op:=by
 cases op<;>(try (exact (hm _ _ rfl).elim))<;>simp only [LOp.looks,Af] at h<;>simp only [Ja,hh]
 case slc e x lo hi =>
  rw [X6 (x:=x) fun n hn=>h n (.inl (.inl hn))]
  have h1:lo.map σ.ev=lo.map σ'.ev:=by
   cases lo with
   | none=>rfl
   | some y=>simp only [Au];rw [X6 fun n hn=>h n (.inl (.inr (by simpa using hn)))]
  have h2:hi.map σ.ev=hi.map σ'.ev:=by
   cases hi with
   | none=>rfl
   | some y=>simp only [Au];rw [X6 fun n hn=>h n (.inr (by simpa using hn))]
  rw [h1,h2]
 case pick c x y=>rw [X6 (x:=c) fun n hn=>h n (.inl (.inl hn)),X6 (x:=x) fun n hn=>h n (.inl (.inr hn)),X6 (x:=y) fun n hn=>h n (.inr hn)]
 case setM ag sh x k v=>rw [X6 (x:=x) fun n hn=>h n (.inl (.inl hn)),X6 (x:=k) fun n hn=>h n (.inl (.inr hn)),X6 (x:=v) fun n hn=>h n (.inr hn)]
 case build z ps=>rw [Jfu h]
 case bslice n e t z ps=>rw [Jfu h]
 case mkfn f l=>rw [zq h]
 case callp f l=>rw [zq h]
 case callz f l=>rw [zq h]
 case callq f l=>rw [zq h]
 case callv x l=>rw [X6 (x:=x) fun n hn=>h n (.inl hn),zq fun n hn=>h n (.inr hn)]
 all_goals first
  | rw [X6 h]
  | (rename_i x y;rw [X6 (x:=x) fun n hn=>h n (.inl hn),X6 (x:=y) fun n hn=>h n (.inr hn)])
theorem Jrk {call:Call} {base g0:Nat} {op:LOp}:∀ {σ σ':St},σ.h=σ'.h→(∀n∈op.looks,σ.f n=σ'.f n)→Ja call base σ g0 op=Ja call base σ' g0 op:=by
 induction op with
 | msk ds op ih =>
  intro σ σ' hh h
  simp only [Ja,hh]
  rw [ih (σ:=⟨σ.f,Qe base ds σ'.h⟩) (σ':=⟨σ'.f,Qe base ds σ'.h⟩) rfl h]
 | _=>exact fun hh h=>Jnl (by rintro _ _ ⟨⟩) hh h
def evG (call:Call) (base:Nat) (o:LOper) (f:Nat→AV) (h:Heap):Option (AV×Heap) :=
 match o.guard with
 | none=>Ja call base ⟨f,h⟩ (base+o.dst.getD 0) o.op
 | some (g,want) =>
  match f g with
  | .bool b=>if b=want then Ja call base ⟨f,h⟩ (base+o.dst.getD 0) o.op else some (.tup [],h)
  | .tup []=>some (.tup [],h)
  | _=>none
theorem Jmz (call:Call) (base:Nat) (o:LOper) (σ:St):Zf call base o σ=(evG call base o σ.f σ.h).map fun r=>σ.put o.dst r.1 r.2:=by
 unfold Zf evG
 cases hg:o.guard with
 | none =>
  simp only
  cases Ja call base σ (base+o.dst.getD 0) o.op<;>rfl
 | some g =>
  obtain ⟨g,want⟩:=g
  simp only
  cases hf:σ.f g with
  | bool b =>
   simp only
   by_cases hb:b=want
   ·rw [if_pos hb,if_pos hb]
    cases Ja call base σ (base+o.dst.getD 0) o.op<;>rfl
   ·rw [if_neg hb,if_neg hb];rfl
  | tup l=>cases l<;>rfl
  | _=>rfl
theorem Jqr {call:Call} {base:Nat} {o:LOper} {f f':Nat→AV} {h:Heap} (hl:∀n∈o.looks,f n=f' n):evG call base o f h=evG call base o f' h:=by
 unfold evG
 have hop:Ja call base ⟨f,h⟩ (base+o.dst.getD 0) o.op=Ja call base ⟨f',h⟩ (base+o.dst.getD 0) o.op:=Jrk rfl fun n hn=>hl n (by simp [LOper.looks,hn])
 split
 ·exact hop
 ·rename_i g want hg
  rw [hl g (by simp [LOper.looks,hg]),hop]
theorem J2w {call:Call} {base g0:Nat} {op:LOp} (hc:op.cls=0) {f:Nat→AV} {h h1:Heap} {v:AV} (he:Ja call base ⟨f,h⟩ g0 op=some (v,h1)):h1=h∧∀h',Ja call base ⟨f,h'⟩ g0 op=some (v,h'):=by
 have ev:∀x h h',(St.mk f h).ev x=(St.mk f h').ev x:=fun x h h'=>by cases x<;>rfl
 have evf:∀h h',(St.mk f h).ev=(St.mk f h').ev:=fun h h'=>funext fun x=>ev x h h'
 cases op<;>simp [LOp.cls] at hc
 all_goals
  simp only [Ja] at he ⊢
  refine ⟨?_,fun h'=>?_⟩
  all_goals try rw [evf h' h]
  all_goals (repeat' split at he)<;>first|(cases he;done)|(injection he with he;simp only [Aa] at he;obtain ⟨rfl,rfl⟩:=he;first|rfl|simp_all)
theorem Zi {h:Heap} {g g':Nat} {ob o:AObj} (hg:h g=none) (ho:h g'=some o):upd h g (some ob) g'=some o:=by
 rw [Jc]
 ·exact ho
 ·rintro rfl;rw [hg] at ho;cases ho
theorem Js2 {h:Heap} {g:Nat} {ob:AObj} (hg:h g=none) {x:AV} {r:List AV×Nat} (hd:jh h x=some r):jh (upd h g (some ob)) x=some r:=by
 unfold jh at hd ⊢
 split at hd
 ·exact hd
 ·split at hd
  ·rename_i v' c ho;rw [Zi hg ho];exact hd
  ·rename_i v' e t c z ho;rw [Zi hg ho];exact hd
  ·cases hd
 ·cases hd
theorem Jpz {h:Heap} {g g' ver:Nat} {ob:AObj} (hg:h g=none) (hd:cur h g' ver=true):cur (upd h g (some ob)) g' ver=true:=by
 obtain ⟨o,ho,e⟩:=Jou hd
 simp [cur,Zi hg ho,e]
theorem Jp6 {h:Heap} {g g' ver esz:Nat} {ob:AObj} (hg:h g=none) (hd:curA h g' ver esz=true):curA (upd h g (some ob)) g' ver esz=true:=by
 obtain ⟨el,c,z,ho⟩:=Jo7 hd
 simp [curA,Zi hg ho]
theorem Jfg {h:Heap} {g g' ver:Nat} {ob:AObj} (hg:h g=none) (hd:Yl h g' ver=true):Yl (upd h g (some ob)) g' ver=true:=by
 obtain ⟨e,el,c,z,ho⟩:=Jha hd
 simp [Yl,Zi hg ho]
theorem Jsb {h:Heap} {g g' ver:Nat} {ob:AObj} {es:List (AV×AV)} (hg:h g=none) (hd:curM h g' ver=some es):curM (upd h g (some ob)) g' ver=some es:=by
 simp [curM,Zi hg (Jww hd)]
theorem Q3 {α β:Type} {f f':α→Option β}:∀ {l:List α} {r:List β},(∀x y,f x=some y→f' x=some y)→l.mapM f=some r→l.mapM f'=some r
 | [],r,_,h=>by simpa using h
 | x::l,r,hf,h=>by
  rw [List.mapM_cons] at h ⊢
  cases hx:f x with
  | none=>rw [hx] at h;cases h
  | some y =>
   cases hl:l.mapM f with
   | none=>rw [hx,hl] at h;cases h
   | some q=>rw [hx,hl] at h;rw [hf x y hx,Q3 hf hl];exact h
theorem Jf7 {h:Heap} {g:Nat} {ob:AObj} (hg:h g=none):∀(k:Nat) (x:AV) (r:AV×List Nat),snap h k x=some r→snap (upd h g (some ob)) k x=some r
 | 0,x,r,hs=>by simp [snap] at hs
 | k+1,x,r,hs=>by
  have ih:=Jf7 hg (ob:=ob) k
  cases x<;>(try simp only [snap] at hs ⊢)<;>try (exact hs)
  case arr g' ver off len =>
   split at hs
   ·rename_i v' e t c z ho
    rw [Zi hg ho]
    simp only
    split at hs
    ·rename_i hc
     rw [if_pos hc]
     split at hs
     ·rename_i hf;rw [if_pos hf];exact hs
     ·rename_i hf
      rw [if_neg hf]
      split at hs
      ·rename_i ps hps
       rw [Q3 ih hps]
       exact hs
      ·cases hs
    ·cases hs
   ·cases hs
  case fn f caps =>
   split at hs
   ·rename_i ps hps;rw [Q3 ih hps];exact hs
   ·cases hs
  case agg l =>
   split at hs
   ·rename_i hf;rw [if_pos hf];exact hs
   ·rename_i hf
    rw [if_neg hf]
    split at hs
    ·rename_i ps hps;rw [Q3 ih hps];exact hs
    ·cases hs
  case tup l =>
   split at hs
   ·rename_i ps hps;rw [Q3 ih hps];exact hs
   ·cases hs
theorem Jhg {h:Heap} {g:Nat} {ob:AObj} (hg:h g=none) {l:List AV} {r:List AV×List Nat} (hs:Jdr h l=some r):Jdr (upd h g (some ob)) l=some r:=by
 unfold Jdr at hs ⊢
 split at hs
 ·rename_i ps hps;rw [Q3 (Jf7 hg depth) hps];exact hs
 ·cases hs
theorem Jlu {h:Heap} {g:Nat} {ob:AObj} (hg:h g=none) {x:AV} {r:AV×List Nat} (hs:Jof h x=some r):Jof (upd h g (some ob)) x=some r:=by
 unfold Jof at hs ⊢
 split at hs
 ·rename_i g' ver off
  cases ho:h g' with
  | none=>rw [ho] at hs;cases hs
  | some o =>
   rw [ho] at hs
   rw [Zi hg ho]
   unfold qbox at hs ⊢
   split at hs
   ·split at hs
    ·rename_i hv
     simp only [if_pos hv]
     split at hs
     ·rename_i hf;rw [if_pos hf];exact hs
     ·rename_i hf
      rw [if_neg hf]
      unfold Jzr at hs ⊢
      split at hs
      ·rename_i ps hps
       rw [Q3 (Jf7 hg depth) hps]
       exact hs
      ·cases hs
    ·cases hs
   ·cases hs
 ·exact Jf7 hg depth _ r hs
theorem Jmi {h:Heap} {g:Nat} {ob:AObj} (hg:h g=none):∀ {l:List AV} {r:List AV×List Nat},Jo5 h l=some r→Jo5 (upd h g (some ob)) l=some r
 | [],r,hs=>hs
 | x::l,r,hs=>by
  simp only [Jo5] at hs ⊢
  unfold Jn6 at hs
  split at hs
  ·rename_i u n1 us n2 h1 h2
   rw [Jlu hg h1,Jmi hg h2]
   exact hs
  ·cases hs
theorem J1q {h:Heap} {g:Nat} {ob:AObj} (hg:h g=none) {x:AV} {r:AV×List Nat} (hs:qarg h x=some r):qarg (upd h g (some ob)) x=some r:=by
 unfold qarg at hs ⊢
 split at hs
 ·unfold qfn at hs
  split at hs
  ·rename_i us ms hq
   rw [Jmi hg hq]
   exact hs
  ·cases hs
 ·exact Jlu hg hs
theorem Jl2 {h:Heap} {g:Nat} {ob:AObj} (hg:h g=none):∀ {l:List AV} {r:List AV×List Nat},Jjx h l=some r→Jjx (upd h g (some ob)) l=some r
 | [],r,hs=>hs
 | x::l,r,hs=>by
  simp only [Jjx] at hs ⊢
  unfold Jn6 at hs
  split at hs
  ·rename_i u n1 us n2 h1 h2
   rw [J1q hg h1,Jl2 hg h2]
   exact hs
  ·cases hs
theorem cls1_ev0 {call:Call} {base g0:Nat} {op:LOp} (hm:∀ds o,op≠.msk ds o) (hc:op.cls=1) {f:Nat→AV} {h h1:Heap} {v:AV} (he:Ja call base ⟨f,h⟩ g0 op=some (v,h1)) :
  h1=h∧∀g ob,h g=none→Ja call base ⟨f,upd h g (some ob)⟩ g0 op=some (v,upd h g (some ob)):=by
 have evf:∀h h',(St.mk f h).ev=(St.mk f h').ev:=fun h h'=>funext fun x=>by cases x<;>rfl
 cases op<;>simp [LOp.cls] at hc
 case msk ds o=>exact (hm ds o rfl).elim
 case load ag n x =>
  simp only [Ja] at he ⊢
  obtain ⟨hy,e2⟩:=hOut he
  subst e2
  refine ⟨rfl,fun g ob hg=>?_⟩
  have:Jbj (upd h g (some ob)) ag n ((St.mk f (upd h g (some ob))).ev x)=some v:=by
   rw [evf _ h]
   unfold Jbj at hy ⊢
   split at hy
   ·rename_i l off hd;rw [Js2 hg hd];exact hy
   ·cases hy
  rw [this]
 case nilck x =>
  simp only [Ja] at he ⊢
  split at he
  ·rename_i g' ver off hx
   split at he
   ·rename_i hcur
    injection he with he
    simp only [Aa] at he
    obtain ⟨rfl,rfl⟩:=he
    refine ⟨rfl,fun g ob hg=>?_⟩
    rw [evf _ h,hx]
    simp only
    rw [if_pos (Jpz hg hcur)]
   ·cases he
  ·rename_i l hx
   injection he with he
   simp only [Aa] at he
   obtain ⟨rfl,rfl⟩:=he
   exact ⟨rfl,fun g ob hg=>by rw [evf _ h,hx]⟩
  ·rename_i f' l hx
   injection he with he
   simp only [Aa] at he
   obtain ⟨rfl,rfl⟩:=he
   exact ⟨rfl,fun g ob hg=>by rw [evf _ h,hx]⟩
  ·rename_i f' l hx
   injection he with he
   simp only [Aa] at he
   obtain ⟨rfl,rfl⟩:=he
   exact ⟨rfl,fun g ob hg=>by rw [evf _ h,hx]⟩
  ·cases he
 case slc e x lo hi =>
  simp only [Ja] at he ⊢
  obtain ⟨hy,e2⟩:=hOut he
  subst e2
  refine ⟨rfl,fun g ob hg=>?_⟩
  have:Jah (upd h g (some ob)) e ((St.mk f (upd h g (some ob))).ev x) (lo.map (St.mk f (upd h g (some ob))).ev) (hi.map (St.mk f (upd h g (some ob))).ev)=some v:=by
   rw [evf _ h]
   unfold Jah at hy ⊢
   split at hy
   ·exact hy
   ·split at hy
    ·split at hy
     ·rename_i hcc
      obtain ⟨c1,c2,c3,c4⟩:=hcc
      rw [if_pos ⟨c1,c2,c3,Jp6 hg c4⟩]
      exact hy
     ·cases hy
    ·cases hy
   ·exact hy
   ·cases hy
  rw [this]
 case faddr off x =>
  simp only [Ja] at he ⊢
  obtain ⟨hy,e2⟩:=hOut he
  subst e2
  refine ⟨rfl,fun g ob hg=>?_⟩
  have:Jak (upd h g (some ob)) off ((St.mk f (upd h g (some ob))).ev x)=some v:=by
   rw [evf _ h]
   unfold Jak at hy ⊢
   split at hy
   ·split at hy
    ·rename_i hc;rw [if_pos (Jpz hg hc)];exact hy
    ·cases hy
   ·exact hy
   ·cases hy
  rw [this]
 case iaddr e x i =>
  simp only [Ja] at he ⊢
  obtain ⟨hy,e2⟩:=hOut he
  subst e2
  refine ⟨rfl,fun g ob hg=>?_⟩
  have:ju (upd h g (some ob)) e ((St.mk f (upd h g (some ob))).ev x) ((St.mk f (upd h g (some ob))).ev i)=some v:=by
   rw [evf _ h]
   unfold ju at hy ⊢
   split at hy
   ·exact hy
   ·split at hy
    ·rename_i hc;rw [if_pos ⟨hc.1,hc.2.1,Jp6 hg hc.2.2⟩];exact hy
    ·cases hy
   ·cases hy
  rw [this]
 case iaddrA n e x i =>
  simp only [Ja] at he ⊢
  obtain ⟨hy,e2⟩:=hOut he
  subst e2
  refine ⟨rfl,fun g ob hg=>?_⟩
  have:Jc4 (upd h g (some ob)) n e ((St.mk f (upd h g (some ob))).ev x) ((St.mk f (upd h g (some ob))).ev i)=some v:=by
   rw [evf _ h]
   unfold Jc4 at hy ⊢
   split at hy
   ·split at hy
    ·rename_i hc;rw [if_pos ⟨hc.1,hc.2.1,Jpz hg hc.2.2⟩];exact hy
    ·cases hy
   ·exact hy
   ·cases hy
  rw [this]
 case len x =>
  simp only [Ja] at he ⊢
  split at he
  ·rename_i n hn
   injection he with he
   simp only [Aa] at he
   obtain ⟨rfl,rfl⟩:=he
   refine ⟨rfl,fun g ob hg=>?_⟩
   have:lenV (upd h g (some ob)) ((St.mk f (upd h g (some ob))).ev x)=some n:=by
    rw [evf _ h]
    unfold lenV at hn ⊢
    split at hn
    ·exact hn
    ·exact hn
    ·split at hn
     ·rename_i hc;rw [if_pos (Jfg hg hc)];exact hn
     ·cases hn
    ·cases hn
   rw [this]
  ·cases he
 case lenM x =>
  simp only [Ja] at he ⊢
  split at he
  ·rename_i n hn
   injection he with he
   simp only [Aa] at he
   obtain ⟨rfl,rfl⟩:=he
   refine ⟨rfl,fun g ob hg=>?_⟩
   have:lenM (upd h g (some ob)) ((St.mk f (upd h g (some ob))).ev x)=some n:=by
    rw [evf _ h]
    unfold lenM at hn ⊢
    split at hn
    ·exact hn
    ·exact hn
    ·split at hn
     ·rename_i es hc;rw [Jsb hg hc];exact hn
     ·cases hn
    ·cases hn
   rw [this]
  ·cases he
 case isnil ne x =>
  simp only [Ja] at he ⊢
  split at he
  ·rename_i n hn
   injection he with he
   simp only [Aa] at he
   obtain ⟨rfl,rfl⟩:=he
   refine ⟨rfl,fun g ob hg=>?_⟩
   have:Jgl (upd h g (some ob)) ((St.mk f (upd h g (some ob))).ev x)=some n:=by
    rw [evf _ h]
    unfold Jgl at hn ⊢
    split at hn
    ·exact hn
    ·exact hn
    ·exact hn
    ·split at hn
     ·rename_i hc;rw [if_pos ⟨Jfg hg hc.1,hc.2⟩];exact hn
     ·cases hn
    ·cases hn
   rw [this]
  ·cases he
 case slcA n e x =>
  simp only [Ja] at he ⊢
  obtain ⟨hy,e2⟩:=hOut he
  subst e2
  refine ⟨rfl,fun g ob hg=>?_⟩
  have:Jrm (upd h g (some ob)) n e ((St.mk f (upd h g (some ob))).ev x)=some v:=by
   rw [evf _ h]
   unfold Jrm at hy ⊢
   split at hy
   ·rename_i g' ver hx
    cases ho:h g' with
    | none=>rw [ho] at hy;cases hy
    | some o=>rw [Zi hg ho];rw [ho] at hy;exact hy
   ·cases hy
  rw [this]
 case look ok ag sh z x k =>
  simp only [Ja] at he ⊢
  obtain ⟨hy,e2⟩:=hOut he
  subst e2
  refine ⟨rfl,fun g ob hg=>?_⟩
  rw [evf _ h]
  have:∀y es,esOf h y=some es→esOf (upd h g (some ob)) y=some es:=fun y es hes=>by
   unfold esOf at hes ⊢
   split at hes
   ·exact hes
   ·exact hes
   ·exact Jsb hg hes
   ·cases hes
  cases hes:esOf h ((St.mk f h).ev x) with
  | none=>rw [hes] at hy;cases hy
  | some es=>rw [this _ es hes,←hes,hy]
 case callq f' l =>
  simp only [Ja] at he ⊢
  unfold calQ at he
  split at he
  ·rename_i vs ns hq
   unfold retQ at he
   split at he
   ·rename_i u h0 hcall
    split at he
    ·rename_i hsc
     injection he with he
     simp only [Aa] at he
     obtain ⟨rfl,rfl⟩:=he
     refine ⟨rfl,fun g ob hg=>?_⟩
     rw [evf _ h,Jl2 hg hq]
     simp only [calQ,retQ,hcall]
     rw [if_pos hsc]
    ·cases he
   ·cases he
  ·cases he
 case callp f' l =>
  simp only [Ja] at he ⊢
  split at he
  ·rename_i vs ns hsn
   split at he
   ·rename_i u h0 hv
    split at he
    ·rename_i hcase
     injection he with he
     simp only [Aa] at he
     obtain ⟨rfl,rfl⟩:=he
     refine ⟨rfl,fun g ob hg=>?_⟩
     rw [evf _ h,Jhg hg hsn]
     simp only [hv]
     rw [if_pos hcase]
    ·cases he
   ·cases he
  ·cases he
 case callv x l =>
  simp only [Ja] at he ⊢
  split at he
  ·rename_i f' caps vs ns hsn
   split at he
   ·rename_i u h0 hv
    split at he
    ·rename_i hcase
     injection he with he
     simp only [Aa] at he
     obtain ⟨rfl,rfl⟩:=he
     refine ⟨rfl,fun g ob hg=>?_⟩
     rw [evf _ h,Jhg hg hsn]
     simp only [hv]
     rw [if_pos hcase]
    ·cases he
   ·cases he
  ·cases he
theorem Jbn {base g:Nat} {ds:List Nat} {h:Heap} {o:Option AObj} (hg:inNm base ds g=true):Qe base ds (upd h g o)=Qe base ds h:=by
 funext k
 unfold Qe upd
 by_cases hk:inNm base ds k=true
 ·rw [if_pos hk,if_pos hk]
 ·rw [if_neg hk,if_neg hk,if_neg (by rintro rfl;exact hk hg)]
theorem Joi {base g:Nat} {ds:List Nat} {h:Heap} {o:Option AObj} (hg:¬inNm base ds g=true):Qe base ds (upd h g o)=upd (Qe base ds h) g o:=by
 funext k
 by_cases hk:inNm base ds k=true
 ·have hne:k≠g:=by rintro rfl;exact hg hk
  rw [Jc _ _ _ _ hne]
  unfold Qe
  rw [if_pos hk,if_pos hk]
 ·simp only [Qe,upd,hk,if_false,Am]
theorem Jkg {call:Call} {base g0:Nat} {op:LOp}:op.cls=1→∀ {f:Nat→AV} {h h1:Heap} {v:AV},Ja call base ⟨f,h⟩ g0 op=some (v,h1) →
  h1=h∧∀g ob,h g=none→Ja call base ⟨f,upd h g (some ob)⟩ g0 op=some (v,upd h g (some ob)):=by
 induction op with
 | msk ds op ih =>
  intro _ f h h1 v he
  simp only [Ja] at he ⊢
  split at he
  ·rename_i hc
   cases hr:Ja call base ⟨f,Qe base ds h⟩ g0 op with
   | none=>rw [hr] at he;cases he
   | some r =>
    obtain ⟨u,h2⟩:=r
    rw [hr] at he
    injection he with he
    simp only [Aa] at he
    obtain ⟨rfl,rfl⟩:=he
    obtain ⟨rfl,hall⟩:=ih hc hr
    refine ⟨rfl,fun g ob hg=>?_⟩
    rw [if_pos hc]
    by_cases hin:inNm base ds g=true
    ·rw [Jbn hin,hr];rfl
    ·rw [Joi hin,hall g ob (by unfold Qe;split<;>first|rfl|exact hg)];rfl
  ·cases he
 | _=>exact fun hc _ _ _ _ he=>cls1_ev0 (by rintro _ _ ⟨⟩) hc he
theorem Jj0 {call:Call} {base g0:Nat} {op:LOp} (hc:op.cls=1) {f:Nat→AV} {h:Heap} {v:AV}:∀ {ds:List Nat} {h2:Heap},Ja call base ⟨f,Qe base ds h⟩ g0 op=some (v,h2)→Ja call base ⟨f,h⟩ g0 op=some (v,h)
 | [],h2,he=>by
  have:Qe base [] h=h:=by funext k;rfl
  rw [this] at he
  rw [he,(Jkg hc he).1]
 | d::ds,h2,he=>by
  have key:Qe base (d::ds) h=Qe base ds h∨∃ob,Qe base (d::ds) h (base+d)=none∧Qe base ds h=upd (Qe base (d::ds) h) (base+d) (some ob):=by
   cases ho:Qe base ds h (base+d) with
   | none =>
    refine .inl (funext fun k=>?_)
    by_cases hk:k=base+d
    ·subst hk;rw [ho];unfold Qe;rw [if_pos (by simp [inNm])]
    ·unfold Qe
     have:inNm base (d::ds) k=inNm base ds k:=by simp [inNm,List.any_cons];intro h';exact (hk h'.symm).elim
     rw [this]
   | some ob =>
    refine .inr ⟨ob,by unfold Qe;rw [if_pos (by simp [inNm])],funext fun k=>?_⟩
    by_cases hk:k=base+d
    ·subst hk;rw [ho,Je]
    ·rw [Jc _ _ _ _ hk]
     unfold Qe
     have:inNm base (d::ds) k=inNm base ds k:=by simp [inNm,List.any_cons];intro h';exact (hk h'.symm).elim
     rw [this]
  rcases key with e|⟨ob,hn,e⟩
  ·rw [e] at he;exact Jj0 hc he
  ·have:=(Jkg hc he).2 (base+d) ob hn
   rw [←e] at this
   exact Jj0 hc this
theorem Jr4 {call:Call} {base g0:Nat} {σ:St} {op:LOp} {ds:List Nat} {v:AV} {h1:Heap} (he:Ja call base σ g0 (.msk ds op)=some (v,h1)):Ja call base σ g0 op=some (v,h1):=by
 simp only [Ja] at he
 split at he
 ·rename_i hc
  cases hr:Ja call base ⟨σ.f,Qe base ds σ.h⟩ g0 op with
  | none=>rw [hr] at he;cases he
  | some r =>
   obtain ⟨u,h2⟩:=r
   rw [hr] at he
   injection he with he
   simp only [Aa] at he
   obtain ⟨rfl,rfl⟩:=he
   exact Jj0 hc hr
 ·cases he
theorem J04 {call:Call} {base g0:Nat} {σ:St} {ds ds':List Nat} {esz bytes:Nat} {el:TypeId} {zz:List AV} {x y:LO} {v:AV} {h1:Heap} (hd:∀g,inNm base ds g=true→inNm base ds' g=true)
  (he:Ja call base σ g0 (.appn ds esz bytes el zz x y)=some (v,h1)):Qe base ds' h1=Qe base ds' σ.h:=by
 simp only [Ja,apnV] at he
 split at he
 ·rename_i hn
  unfold appV at he
  split at he
  ·split at he
   ·rename_i hx
    rw [hx] at hn
    (repeat' split at he)<;>first|(cases he;done)|(injection he with he;simp only [Aa] at he;obtain ⟨-,rfl⟩:=he;first|rfl|exact Jbn (hd _ hn))
   ·rename_i hx
    rw [hx] at hn
    (repeat' split at he)<;>first|(cases he;done)|(injection he with he;simp only [Aa] at he;obtain ⟨-,rfl⟩:=he;first|rfl|exact Jbn (hd _ hn))
   ·split at he
    ·injection he with he;simp only [Aa] at he;obtain ⟨-,rfl⟩:=he;rfl
    ·cases he
   ·cases he
  ·cases he
 ·cases he
theorem ston_ev {call:Call} {base g0:Nat} {σ:St} {ds:List Nat} {n:Nat} {x y:LO} {v:AV} {h1:Heap} (he:Ja call base σ g0 (.ston ds n x y)=some (v,h1)) :
  Ja call base σ g0 (.store n x y)=some (v,h1):=by
 simp only [Ja] at he ⊢
 split at he
 ·exact he
 ·cases he
theorem J0j {call:Call} {base g0:Nat} {σ:St} {ds ds':List Nat} {n:Nat} {x y:LO} {v:AV} {h1:Heap} (hd:∀g,inNm base ds g=true→inNm base ds' g=true)
  (he:Ja call base σ g0 (.ston ds n x y)=some (v,h1)):Qe base ds' h1=Qe base ds' σ.h:=by
 simp only [Ja] at he
 split at he
 ·rename_i hn
  split at he
  ·rename_i h2 hst
   injection he with he
   simp only [Aa] at he
   obtain ⟨-,rfl⟩:=he
   unfold Jdp at hst
   split at hst
   ·rename_i g ver off c hx hc
    rw [hx] at hn
    (repeat' split at hst)<;>first|(cases hst;done)|(injection hst with hst;subst hst;exact Jbn (hd _ hn))
   ·cases hst
  ·cases he
 ·cases he
theorem Jnp {call:Call} {base g0:Nat} {σ:St} {op:LOp} {ds ds':List Nat} {v:AV} {h1:Heap} (ho:op.nwD=some ds) (hd:∀g,inNm base ds g=true→inNm base ds' g=true)
  (he:Ja call base σ g0 op=some (v,h1)):Qe base ds' h1=Qe base ds' σ.h:=by
 unfold LOp.nwD at ho
 split at ho
 ·injection ho with ho;subst ho;exact J04 hd he
 ·injection ho with ho;subst ho;exact J0j hd he
 ·cases ho
theorem cls2_ev {call:Call} {base g0:Nat} {op:LOp} (hc:op.cls=2) {f:Nat→AV} {h h1:Heap} {v:AV} (h0:h g0=none) (he:Ja call base ⟨f,h⟩ g0 op=some (v,h1)) :
  ∃ob,h1=upd h g0 (some ob)∧∀h',h' g0=none→Ja call base ⟨f,h'⟩ g0 op=some (v,upd h' g0 (some ob)):=by
 have evf:∀h h',(St.mk f h).ev=(St.mk f h').ev:=fun h h'=>funext fun x=>by cases x<;>rfl
 have nv:∀h',h' g0=none→J3 h' g0=0:=fun h' hh=>by simp [J3,hh]
 cases op<;>simp [LOp.cls] at hc
 all_goals
  simp only [Ja,nv h h0] at he
  (repeat' split at he)<;>first|(cases he;done)|skip
  all_goals
   injection he with he
   simp only [Aa] at he
   obtain ⟨rfl,rfl⟩:=he
   refine ⟨_,rfl,fun h' hh=>?_⟩
   simp only [Ja,nv h' hh]
   try rw [evf h' h]
   try simp_all
theorem Jei {op:LOp} (h:op.cls=2):op.isNew=true:=by cases op<;>simp [LOp.cls] at h<;>rfl
theorem new_cls2 {op:LOp} (h:op.isNew=true):op.cls=2:=by cases op<;>simp [LOp.isNew] at h<;>rfl
def ClsOK (call:Call) (base:Nat) (o:LOper) (f:Nat→AV) (h h1:Heap) (v:AV):Prop :=
 (o.op.cls=0→h1=h∧∀h',evG call base o f h'=some (v,h')) ∧
  (o.op.cls=1→h1=h∧∀g ob,h g=none→evG call base o f (upd h g (some ob))=some (v,upd h g (some ob))) ∧
  (o.op.cls=2→(h1=h∧∀h',evG call base o f h'=some (v,h')) ∨
   ∃ob,h1=upd h (base+o.dst.getD 0) (some ob)∧∀h',h' (base+o.dst.getD 0)=none→evG call base o f h'=some (v,upd h' (base+o.dst.getD 0) (some ob)))
theorem Jy4 {call:Call} {base:Nat} {o:LOper} {f:Nat→AV} {h h1:Heap} {v:AV} (he:evG call base o f h=some (v,h1)) (hnew:o.op.isNew=true→h (base+o.dst.getD 0)=none):ClsOK call base o f h h1 v:=by
 have main:Ja call base ⟨f,h⟩ (base+o.dst.getD 0) o.op=some (v,h1)→(∀h' r,Ja call base ⟨f,h'⟩ (base+o.dst.getD 0) o.op=some r→evG call base o f h'=some r)→ClsOK call base o f h h1 v:=fun hev hall =>
  ⟨fun hc=>⟨(J2w hc hev).1,fun h'=>hall h' _ ((J2w hc hev).2 h')⟩,fun hc=>⟨(Jkg hc hev).1,fun g ob hg=>hall _ _ ((Jkg hc hev).2 g ob hg)⟩,fun hc=>by
   obtain ⟨ob,e,hob⟩:=cls2_ev hc (hnew (Jei hc)) hev
   exact .inr ⟨ob,e,fun h' hh=>hall _ _ (hob h' hh)⟩⟩
 have skip:h1=h→(∀h',evG call base o f h'=some (v,h'))→ClsOK call base o f h h1 v:=fun e hall =>
  ⟨fun _=>⟨e,hall⟩,fun _=>⟨e,fun g ob _=>hall _⟩,fun _=>.inl ⟨e,hall⟩⟩
 unfold evG at he
 split at he
 ·rename_i hg
  exact main he fun h' r hr=>by unfold evG;rw [hg];exact hr
 ·rename_i g want hg
  split at he
  ·rename_i b hb
   split at he
   ·rename_i hbw
    exact main he fun h' r hr=>by unfold evG;rw [hg];simp only [hb];rw [if_pos hbw];exact hr
   ·rename_i hbw
    injection he with he
    simp only [Aa] at he
    obtain ⟨rfl,rfl⟩:=he
    exact skip rfl fun h'=>by unfold evG;rw [hg];simp only [hb];rw [if_neg hbw]
  ·rename_i hb
   injection he with he
   simp only [Aa] at he
   obtain ⟨rfl,rfl⟩:=he
   exact skip rfl fun h'=>by unfold evG;rw [hg];simp only [hb]
  ·cases he
section
variable {h:Heap} {ns:List Nat}
theorem Jx2 (x:AV):jh (Jg h ns) x=jh h x:=by
 cases x<;>try rfl
 rename_i g ver off
 simp only [jh,Jg]
 by_cases hm:g∈ns
 ·simp only [hm,if_true]
  cases h g with
  | none=>rfl
  | some o=>cases o<;>rfl
 ·simp only [hm,if_false]
theorem Jua (g ver:Nat):cur (Jg h ns) g ver=cur h g ver:=by
 simp only [cur,Jg]
 by_cases hm:g∈ns
 ·simp only [hm,if_true]
  cases h g with
  | none=>rfl
  | some o=>cases o<;>rfl
 ·simp only [hm,if_false]
theorem Jvh (g ver esz:Nat):curA (Jg h ns) g ver esz=curA h g ver esz:=by
 simp only [curA,Jg]
 by_cases hm:g∈ns
 ·simp only [hm,if_true]
  cases h g with
  | none=>rfl
  | some o=>cases o<;>rfl
 ·simp only [hm,if_false]
theorem Jlz (g ver:Nat):Yl (Jg h ns) g ver=Yl h g ver:=by
 simp only [Yl,Jg]
 by_cases hm:g∈ns
 ·simp only [hm,if_true]
  cases h g with
  | none=>rfl
  | some o=>cases o<;>rfl
 ·simp only [hm,if_false]
theorem J0n (g ver n esz k:Nat):slcAO g ver n esz (Jg h ns k)=slcAO g ver n esz (h k):=by
 simp only [Jg]
 by_cases hm:k∈ns
 ·simp only [hm,if_true]
  cases h k with
  | none=>rfl
  | some o=>cases o<;>rfl
 ·simp only [hm,if_false]
theorem Jfz:Jg h []=h:=by funext g;simp [Jg]
theorem ev_heap (f:Nat→AV) (h h':Heap) (x:LO):(St.mk f h).ev x=(St.mk f h').ev x:=by cases x<;>rfl
theorem Jvl {call:Call} {base g0:Nat} {f:Nat→AV} {op:LOp} {v:AV} {h1:Heap} (hc:op.still=true) (he:Ja call base ⟨f,h⟩ g0 op=some (v,h1)) :
  h1=h∧Ja call base ⟨f,Jg h ns⟩ g0 op=some (v,Jg h ns):=by
 have E:∀x,(St.mk f (Jg h ns)).ev x=(St.mk f h).ev x:=fun x=>ev_heap f _ _ x
 cases op<;>(try (simp [LOp.still] at hc;done))<;>simp only [Ja,E] at he ⊢
 case load ag n x =>
  obtain ⟨h2,h3⟩:=hOut he
  refine ⟨h3.symm,?_⟩
  simp only [Jbj,Jx2] at h2 ⊢
  rw [h2]
 case nilck x =>
  split at he
  ·rename_i g ver off hx
   split at he
   ·rename_i hc
    injection he with he
    simp only [Aa] at he
    obtain ⟨rfl,rfl⟩:=he
    exact ⟨rfl,by rw [Jua,if_pos hc]⟩
   ·cases he
  ·injection he with he
   simp only [Aa] at he
   obtain ⟨rfl,rfl⟩:=he
   exact ⟨rfl,rfl⟩
  ·injection he with he
   simp only [Aa] at he
   obtain ⟨rfl,rfl⟩:=he
   exact ⟨rfl,rfl⟩
  ·injection he with he
   simp only [Aa] at he
   obtain ⟨rfl,rfl⟩:=he
   exact ⟨rfl,rfl⟩
  ·cases he
 case slc e x lo hi =>
  obtain ⟨h2,h3⟩:=hOut he
  refine ⟨h3.symm,?_⟩
  have E2:(St.mk f (Jg h ns)).ev=(St.mk f h).ev:=funext E
  simp only [E2]
  have:∀x lo hi,Jah (Jg h ns) e x lo hi=Jah h e x lo hi:=fun x lo hi=>by
   cases x<;>simp only [Jah,Jvh]
  rw [this,h2]
 case faddr off x =>
  obtain ⟨h2,h3⟩:=hOut he
  refine ⟨h3.symm,?_⟩
  have:∀x,Jak (Jg h ns) off x=Jak h off x:=fun x=>by cases x<;>simp only [Jak,Jua]
  rw [this,h2]
 case iaddr e x i =>
  obtain ⟨h2,h3⟩:=hOut he
  refine ⟨h3.symm,?_⟩
  have:∀x i,ju (Jg h ns) e x i=ju h e x i:=fun x i=>by cases x<;>cases i<;>simp only [ju,Jvh]
  rw [this,h2]
 case iaddrA n e x i =>
  obtain ⟨h2,h3⟩:=hOut he
  refine ⟨h3.symm,?_⟩
  have:∀x i,Jc4 (Jg h ns) n e x i=Jc4 h n e x i:=fun x i=>by cases x<;>cases i<;>simp only [Jc4,Jua]
  rw [this,h2]
 case len x =>
  have:∀x,lenV (Jg h ns) x=lenV h x:=fun x=>by cases x<;>simp only [lenV,Jlz]
  rw [this]
  split at he
  ·rename_i n hn
   injection he with he
   simp only [Aa] at he
   obtain ⟨rfl,rfl⟩:=he
   exact ⟨rfl,rfl⟩
  ·cases he
 case isnil ne x =>
  have:∀x,Jgl (Jg h ns) x=Jgl h x:=fun x=>by
   cases x
   case arr g ver off len=>simp only [Jgl,Jlz]
   case lst n l=>cases n<;>cases l<;>rfl
   all_goals rfl
  rw [this]
  split at he
  ·rename_i n hn
   injection he with he
   simp only [Aa] at he
   obtain ⟨rfl,rfl⟩:=he
   exact ⟨rfl,rfl⟩
  ·cases he
 case callp g l =>
  cases l with
  | cons a l=>simp [LOp.still] at hc
  | nil =>
   have hs:∀h,Jdr h []=some ([],[]):=fun h=>rfl
   simp only [List.map_nil,hs] at he ⊢
   split at he
   ·rename_i u h0 hcall
    rw [if_pos (.inl trivial)] at he
    injection he with he
    simp only [Aa] at he
    obtain ⟨rfl,rfl⟩:=he
    exact ⟨rfl,by rw [if_pos (.inl trivial)]⟩
   ·cases he
 case slcA n e x =>
  obtain ⟨h2,h3⟩:=hOut he
  refine ⟨h3.symm,?_⟩
  have:∀x,Jrm (Jg h ns) n e x=Jrm h n e x:=fun x=>by
   cases x<;>try rfl
   rename_i g ver off
   cases off<;>simp only [Jrm,J0n]
  rw [this,h2]
theorem J2t {call:Call} {base g0:Nat} {f:Nat→AV} {op:LOp} {v:AV} {h1:Heap} (hc:op.frzs=true) (he:Ja call base ⟨f,h⟩ g0 op=some (v,h1)):∃ns,h1=Jg h ns:=by
 cases op<;>(try (simp [LOp.frzs] at hc;done))<;>simp only [Ja] at he
 case callz g l =>
  split at he
  ·split at he
   ·injection he with he
    simp only [Aa] at he
    exact ⟨_,he.2.symm⟩
   ·cases he
  ·cases he
end
theorem Jvw {call:Call} {base:Nat} {o:LOper} {f:Nat→AV} {h h1:Heap} {v:AV} (hc:o.op.frzs=true) (he:evG call base o f h=some (v,h1)):∃ns,h1=Jg h ns:=by
 unfold evG at he
 split at he
 ·exact J2t hc he
 ·split at he
  ·split at he
   ·exact J2t hc he
   ·injection he with he;simp only [Aa] at he;exact ⟨[],by rw [Jfz];exact he.2.symm⟩
  ·injection he with he;simp only [Aa] at he;exact ⟨[],by rw [Jfz];exact he.2.symm⟩
  ·cases he
theorem Jzj {call:Call} {base:Nat} {o:LOper} {f:Nat→AV} {h h1:Heap} {v:AV} (hc:o.op.still=true) (he:evG call base o f h=some (v,h1)) (ns:List Nat):h1=h∧evG call base o f (Jg h ns)=some (v,Jg h ns):=by
 unfold evG at he ⊢
 split at he
 ·exact Jvl hc he
 ·split at he
  ·split at he
   ·rename_i hb;rw [if_pos hb];exact Jvl hc he
   ·rename_i hb
    rw [if_neg hb]
    injection he with he;simp only [Aa] at he;exact ⟨he.2.symm,by rw [he.1]⟩
  ·injection he with he;simp only [Aa] at he;exact ⟨he.2.symm,by rw [he.1]⟩
  ·cases he
theorem evG_past {call:Call} {base:Nat} {i j:LOper} {f:Nat→AV} {h h1 h2:Heap} {v1 v2:AV} {ds ds':List Nat} {op:LOp} (hi:i.op=.msk ds op) (hj:j.op.nwD=some ds')
  (hd:∀g,inNm base ds' g=true→inNm base ds g=true) (e1:evG call base i f h=some (v1,h1)) (e2:evG call base j f h1=some (v2,h2)):h1=h∧evG call base i f h2=some (v1,h2):=by
 have hmask:Qe base ds h2=Qe base ds h1:=by
  unfold evG at e2
  split at e2
  ·exact Jnp hj hd e2
  ·split at e2
   ·split at e2
    ·exact Jnp hj hd e2
    ·injection e2 with e2;simp only [Aa] at e2;rw [e2.2]
   ·injection e2 with e2;simp only [Aa] at e2;rw [e2.2]
   ·cases e2
 have main:∀g0,Ja call base ⟨f,h⟩ g0 (.msk ds op)=some (v1,h1)→h1=h∧Ja call base ⟨f,h2⟩ g0 (.msk ds op)=some (v1,h2):=fun g0 he=>by
  have hh:h1=h:=(Jkg (op:=.msk ds op) rfl he).1
  subst hh
  refine ⟨rfl,?_⟩
  simp only [Ja] at he ⊢
  rw [hmask]
  split at he
  ·rename_i hc
   rw [if_pos hc]
   cases hr:Ja call base ⟨f,Qe base ds h1⟩ g0 op with
   | none=>rw [hr] at he;cases he
   | some r =>
    obtain ⟨u,h3⟩:=r
    rw [hr] at he
    injection he with he
    simp only [Aa] at he
    obtain ⟨rfl,-⟩:=he
    rfl
  ·cases he
 unfold evG at e1 ⊢
 rw [hi] at e1 ⊢
 split at e1
 ·exact main _ e1
 ·split at e1
  ·split at e1
   ·rename_i hb;rw [if_pos hb];exact main _ e1
   ·rename_i hb
    rw [if_neg hb]
    injection e1 with e1;simp only [Aa] at e1;exact ⟨e1.2.symm,by rw [e1.1]⟩
  ·injection e1 with e1;simp only [Aa] at e1;exact ⟨e1.2.symm,by rw [e1.1]⟩
  ·cases e1
theorem Jnd {h:Heap} {ns:List Nat} {g:Nat} {ob:AObj} (hn:g∉ns):Jg (upd h g (some ob)) ns=upd (Jg h ns) g (some ob):=by
 funext k
 by_cases hk:k=g
 ·subst hk;rw [Je];unfold Jg;rw [if_neg hn,Je]
 ·rw [Jc _ _ _ _ hk];unfold Jg;rw [Jc _ _ _ _ hk]
theorem Jp2 {call:Call} {base g0:Nat} {f:Nat→AV} {op:LOp} {v:AV} {h h1:Heap} (hc:op.frzs=true) (he:Ja call base ⟨f,h⟩ g0 op=some (v,h1)) {g:Nat} {ob:AObj} (hg:h g=none) :
  Ja call base ⟨f,upd h g (some ob)⟩ g0 op=some (v,upd h1 g (some ob)):=by
 have evf:∀h h',(St.mk f h).ev=(St.mk f h').ev:=fun h h'=>funext fun x=>by cases x<;>rfl
 cases op<;>(try (simp [LOp.frzs] at hc;done))<;>simp only [Ja] at he ⊢
 case callz f' l =>
  rw [evf _ h]
  split at he
  ·rename_i vs ns hs
   split at he
   ·rename_i u h0 hcall
    injection he with he
    simp only [Aa] at he
    obtain ⟨rfl,rfl⟩:=he
    have:g∉ns:=fun hm=>by
     obtain ⟨o,ho,_⟩:=Jcl hs g hm
     rw [hg] at ho;cases ho
    simp only [Jhg hg hs,hcall,Jnd this]
   ·cases he
  ·cases he
theorem Jpx {call:Call} {base:Nat} {o:LOper} {f:Nat→AV} {h h1:Heap} {v:AV} (hc:o.op.frzs=true) (he:evG call base o f h=some (v,h1)) {g:Nat} {ob:AObj} (hg:h g=none) :
  evG call base o f (upd h g (some ob))=some (v,upd h1 g (some ob)):=by
 unfold evG at he ⊢
 split at he
 ·exact Jp2 hc he hg
 ·split at he
  ·split at he
   ·rename_i hb;rw [if_pos hb];exact Jp2 hc he hg
   ·rename_i hb
    rw [if_neg hb]
    injection he with he;simp only [Aa] at he;rw [he.1,he.2]
  ·injection he with he;simp only [Aa] at he;rw [he.1,he.2]
  ·cases he
theorem Jiy {α:Type} (f:Nat→α) {d e:Nat} (u v:α) (h:d≠e):upd (upd f d u) e v=upd (upd f e v) d u:=by
 funext n
 unfold upd
 by_cases h1:n=e<;>by_cases h2:n=d<;>simp_all
theorem Jz7 {h:Heap} {g:Nat} {ob:AObj} (hg:h g=none) {x:AV} {n:Int} (hs:lenV h x=some n):lenV (upd h g (some ob)) x=some n:=by
 cases x<;>try exact hs
 rename_i g' ver off len
 simp only [lenV] at hs ⊢
 split at hs
 ·rename_i hc;rw [if_pos (Jfg hg hc)];exact hs
 ·cases hs
theorem Jtc {h:Heap} {g esz:Nat} {ob:AObj} (hg:h g=none) {x:AV} {l:List AV} (hs:jw h esz x=some l):jw (upd h g (some ob)) esz x=some l:=by
 cases x<;>try exact hs
 rename_i g' ver off len
 simp only [jw] at hs ⊢
 split at hs
 ·rename_i ho;rw [Zi hg ho];exact hs
 ·cases hs
theorem Jqy {h h1:Heap} {g g0 esz bytes:Nat} {el:TypeId} {x y v:AV} {ob:AObj} (hg:h g=none) (hne:g0≠g) (he:appV h g0 esz bytes el x y=some (v,h1)):appV (upd h g (some ob)) g0 esz bytes el x y=some (v,upd h1 g (some ob)):=by
 unfold appV at he
 split at he
 ·rename_i m new hl hn
  have hl':=Jz7 (ob:=ob) hg hl
  have hn':=Jtc (ob:=ob) hg hn
  have hv:J3 (upd h g (some ob)) g0=J3 h g0:=by unfold J3;rw [Jc _ _ _ _ hne]
  unfold appV
  rw [hl',hn',hv]
  split at he
  ·simp only
   split at he
   ·rename_i hc;rw [if_pos hc];injection he with he;simp only [Aa] at he;obtain ⟨rfl,rfl⟩:=he;rfl
   ·rename_i hc
    rw [if_neg hc]
    split at he
    ·rename_i hc2;rw [if_pos hc2];injection he with he;simp only [Aa] at he;obtain ⟨rfl,rfl⟩:=he
     rw [Jiy _ _ _ hne]
    ·cases he
  ·rename_i g' ver off len
   simp only
   split at he
   ·rename_i ver' esz' el' cells ho
    have hgg:g'≠g:=by rintro rfl;rw [hg] at ho;cases ho
    rw [Zi hg ho]
    simp only
    split at he
    ·rename_i hc
     rw [if_pos hc]
     split at he
     ·rename_i hc1;rw [if_pos hc1];injection he with he;simp only [Aa] at he;obtain ⟨rfl,rfl⟩:=he;rfl
     ·rename_i hc1
      rw [if_neg hc1]
      injection he with he;simp only [Aa] at he;obtain ⟨rfl,rfl⟩:=he
      rw [Jiy _ _ _ hgg]
    ·cases he
   ·rename_i ver' esz' el' cells ho
    have hgg:g'≠g:=by rintro rfl;rw [hg] at ho;cases ho
    rw [Zi hg ho]
    simp only
    split at he
    ·rename_i hc
     rw [if_pos hc]
     injection he with he;simp only [Aa] at he;obtain ⟨rfl,rfl⟩:=he;rfl
    ·cases he
   ·cases he
  ·simp only
   split at he
   ·rename_i hc
    rw [if_pos hc]
    injection he with he;simp only [Aa] at he;obtain ⟨rfl,rfl⟩:=he;rfl
   ·cases he
  ·cases he
 ·cases he
theorem Ju6 {call:Call} {base g0:Nat} {f:Nat→AV} {op:LOp} {v:AV} {h h1:Heap} (hc:op.aps=true) (he:Ja call base ⟨f,h⟩ g0 op=some (v,h1)) {g:Nat} {ob:AObj} (hg:h g=none) (hne:g0≠g) :
  Ja call base ⟨f,upd h g (some ob)⟩ g0 op=some (v,upd h1 g (some ob)):=by
 have evf:∀h h',(St.mk f h).ev=(St.mk f h').ev:=fun h h'=>funext fun x=>by cases x<;>rfl
 cases op<;>(try (simp [LOp.aps] at hc;done))<;>simp only [Ja] at he ⊢
 case app esz bytes el zz x y =>
  rw [evf _ h]
  exact Jqy hg hne he
 case appn ds esz bytes el zz x y =>
  rw [evf _ h]
  unfold apnV at he ⊢
  split at he
  ·rename_i hn
   rw [if_pos hn]
   exact Jqy hg hne he
  ·cases he
theorem Jqw {call:Call} {base:Nat} {o:LOper} {f:Nat→AV} {h h1:Heap} {v:AV} (hc:o.op.aps=true) (he:evG call base o f h=some (v,h1)) {g:Nat} {ob:AObj} (hg:h g=none) (hne:base+o.dst.getD 0≠g) :
  evG call base o f (upd h g (some ob))=some (v,upd h1 g (some ob)):=by
 unfold evG at he ⊢
 split at he
 ·exact Ju6 hc he hg hne
 ·split at he
  ·split at he
   ·rename_i hb;rw [if_pos hb];exact Ju6 hc he hg hne
   ·rename_i hb
    rw [if_neg hb]
    injection he with he;simp only [Aa] at he;rw [he.1,he.2]
  ·injection he with he;simp only [Aa] at he;rw [he.1,he.2]
  ·cases he
theorem Jse {h h1:Heap} {g g0 esz bytes:Nat} {el:TypeId} {x y v:AV} (he:appV h g0 esz bytes el x y=some (v,h1)) (hg:h1 g=none):h g=none:=by
 have key:∀(k:Nat) (o:AObj),upd h k (some o) g=none→h g=none:=fun k o hk=>by
  by_cases hgk:g=k
  ·subst hgk;rw [Je] at hk;cases hk
  ·rwa [Jc _ _ _ _ hgk] at hk
 unfold appV at he
 (repeat' split at he)<;>first|(cases he;done)|(injection he with he;simp only [Aa] at he;obtain ⟨-,rfl⟩:=he;first|exact hg|exact key _ _ hg)
theorem aps_none {call:Call} {base:Nat} {o:LOper} {f:Nat→AV} {h h1:Heap} {v:AV} {g:Nat} (hc:o.op.aps=true) (he:evG call base o f h=some (v,h1)) (hg:h1 g=none):h g=none:=by
 have main:∀g0,Ja call base ⟨f,h⟩ g0 o.op=some (v,h1)→h g=none:=fun g0 he=>by
  cases hop:o.op<;>rw [hop] at hc he<;>(try (simp [LOp.aps] at hc;done))<;>simp only [Ja] at he
  ·exact Jse he hg
  ·unfold apnV at he
   split at he
   ·exact Jse he hg
   ·cases he
 unfold evG at he
 split at he
 ·exact main _ he
 ·split at he
  ·split at he
   ·exact main _ he
   ·injection he with he;simp only [Aa] at he;rw [he.2];exact hg
  ·injection he with he;simp only [Aa] at he;rw [he.2];exact hg
  ·cases he
theorem Jxo {σ:St} {d e:Option Nat} {u v:AV} {h1 h2 h3 h4:Heap} (hne:∀x,d=some x→e≠some x):((σ.put d u h1).put e v h3).f=((σ.put e v h2).put d u h4).f:=by
 cases d<;>cases e<;>simp only [St.put]
 rename_i d e
 exact Jiy σ.f u v (by rintro rfl;exact hne d rfl rfl)
theorem J2j {σ:St} {d:Option Nat} {u:AV} {h:Heap}:(σ.put d u h).h=h:=by cases d<;>rfl
theorem Jke {σ:St} {d:Option Nat} {u:AV} {h:Heap} {n:Nat} (hn:d≠some n):(σ.put d u h).f n=σ.f n:=by
 cases d with
 | none=>rfl
 | some d=>exact Jc _ _ _ _ (by rintro rfl;exact hn rfl)
theorem St.ext' {σ τ:St} (h1:σ.f=τ.f) (h2:σ.h=τ.h):σ=τ:=by cases σ;cases τ;simp_all
theorem Jjy {call:Call} {base:Nat} {o:LOper} {σ σ':St} (h:Yj call base o σ=some σ') :
  (o.op.isNew=true→σ.h (base+o.dst.getD 0)=none)∧∃v h1,evG call base o σ.f σ.h=some (v,h1)∧σ'=σ.put o.dst v h1:=by
 unfold Yj at h
 split at h
 ·cases h
 ·rename_i hn
  rw [Jmz] at h
  obtain ⟨⟨v,h1⟩,h2,h3⟩:=Xv h
  refine ⟨fun hi=>?_,v,h1,h2,h3⟩
  cases hh:σ.h (base+o.dst.getD 0) with
  | none=>rfl
  | some x=>exact absurd ⟨hi,by rw [hh];rfl⟩ hn
theorem Jm5 {call:Call} {base:Nat} {o:LOper} {σ:St} {v:AV} {h1:Heap} (hn:o.op.isNew=true→σ.h (base+o.dst.getD 0)=none) (he:evG call base o σ.f σ.h=some (v,h1)):Yj call base o σ=some (σ.put o.dst v h1):=by
 unfold Yj
 rw [if_neg (by rintro ⟨h1,h2⟩;rw [hn h1] at h2;cases h2),Jmz,he]
 rfl
theorem Jmy {call:Call} {base:Nat} {j:LOper} {ds:List Nat} {op:LOp} (hjo:j.op=.msk ds op) {f:Nat→AV} {h k:Heap} {v:AV} (em:Qe base ds k=Qe base ds h) (he:evG call base j f k=some (v,k)) :
  evG call base j f h=some (v,h):=by
 have main:∀g0,Ja call base ⟨f,k⟩ g0 j.op=some (v,k)→Ja call base ⟨f,h⟩ g0 j.op=some (v,h):=fun g0 he=>by
  rw [hjo] at he ⊢
  simp only [Ja] at he ⊢
  split at he
  ·rename_i hc
   rw [if_pos hc]
   rw [em] at he
   cases hr:Ja call base ⟨f,Qe base ds h⟩ g0 op with
   | none=>rw [hr] at he;cases he
   | some r =>
    obtain ⟨u,k⟩:=r
    rw [hr] at he
    simp only [mskR,Option.some.injEq,Aa] at he ⊢
    exact ⟨he.1,trivial⟩
  ·cases he
 unfold evG at he ⊢
 split at he
 ·exact main _ he
 ·split at he
  ·split at he
   ·rename_i hb;rw [if_pos hb];exact main _ he
   ·rename_i hb
    rw [if_neg hb]
    injection he with he
    simp only [Aa] at he
    rw [he.1]
  ·injection he with he
   simp only [Aa] at he
   rw [he.1]
  ·cases he
theorem Juc {call:Call} {base:Nat} {j:LOper} {ds:List Nat} {op:LOp} (hjo:j.op=.msk ds op) {g:Nat} (hg:inNm base ds g=true) {f:Nat→AV} {h:Heap} {ob:AObj} {v:AV} (he:evG call base j f (upd h g (some ob))=some (v,upd h g (some ob))) :
  evG call base j f h=some (v,h):=by
 refine Jmy hjo ?_ he
 funext k
 unfold Qe
 by_cases hk:k=g
 ·subst hk;rw [if_pos hg,if_pos hg]
 ·rw [Jc _ _ _ _ hk]
theorem nw_maskG {call:Call} {base:Nat} {j:LOper} {f:Nat→AV} {h1 h2:Heap} {v2:AV} {ds ds':List Nat} (hj:j.op.nwD=some ds') (hd:∀g,inNm base ds' g=true→inNm base ds g=true) (e2:evG call base j f h1=some (v2,h2)):Qe base ds h2=Qe base ds h1:=by
 unfold evG at e2
 split at e2
 ·exact Jnp hj hd e2
 ·split at e2
  ·split at e2
   ·exact Jnp hj hd e2
   ·injection e2 with e2;simp only [Aa] at e2;rw [e2.2]
  ·injection e2 with e2;simp only [Aa] at e2;rw [e2.2]
  ·cases e2
theorem swap {call:Call} {base:Nat} {i j:LOper} {σ σ1 σ2:St} (hi:Jp8 i j=true) (h1:Yj call base i σ=some σ1) (h2:Yj call base j σ1=some σ2) :
  ∃σ',Yj call base j σ=some σ'∧Yj call base i σ'=some σ2:=by
 simp only [Jp8,Ac] at hi
 obtain ⟨⟨⟨⟨t1,t2⟩,t3⟩,t4⟩,t5⟩:=hi
 have a1:∀n∈j.looks,i.dst≠some n:=fun n hn e=>by rw [e] at t1;simp at t1;exact t1.1 hn
 have a2:∀n∈i.looks,j.dst≠some n:=fun n hn e=>by rw [e] at t2;simp at t2;exact t2 hn
 have a3:∀x,i.dst=some x→j.dst≠some x:=fun x e=>by rw [e] at t1;simp at t1;exact t1.2
 have a3':∀x,j.dst=some x→i.dst≠some x:=fun x e e'=>a3 x e' e
 obtain ⟨n1,v1,g1,e1,rfl⟩:=Jjy h1
 obtain ⟨n2,v2,g2,e2,rfl⟩:=Jjy h2
 rw [J2j] at n2 e2
 have e2':evG call base j σ.f g1=some (v2,g2):=by
  rw [←e2];exact Jqr fun n hn=>(Jke (a1 n hn)).symm
 obtain ⟨i0,i1,i2⟩:=Jy4 e1 n1
 obtain ⟨j0,j1,j2⟩:=Jy4 e2' n2
 have fin:∀k,(j.op.isNew=true→σ.h (base+j.dst.getD 0)=none)→evG call base j σ.f σ.h=some (v2,k)→(i.op.isNew=true→k (base+i.dst.getD 0)=none)→evG call base i σ.f k=some (v1,g2) →
   ∃σ',Yj call base j σ=some σ'∧Yj call base i σ'=some ((σ.put i.dst v1 g1).put j.dst v2 g2):=by
  intro k q1 q2 q3 q4
  refine ⟨σ.put j.dst v2 k,Jm5 q1 q2,?_⟩
  have:evG call base i (σ.put j.dst v2 k).f (σ.put j.dst v2 k).h=some (v1,g2):=by
   rw [J2j,←q4];exact Jqr fun n hn=>Jke (a2 n hn)
  rw [Jm5 (by rw [J2j];exact q3) this]
  congr 1
  exact St.ext' (Jxo a3') (by rw [J2j,J2j])
 have notnew:∀ {o:LOper} {n:Nat},o.op.cls=n→n≠2→o.op.isNew=true→False:=fun {o n} h hn hnew=>hn (h▸new_cls2 hnew)
 simp only [Bool.or_eq_true,Ac,beq_iff_eq] at t3
 by_cases c0:i.op.cls=0
 ·obtain ⟨rfl,r⟩:=i0 c0
  exact fin g2 n2 e2' (fun h=>(notnew c0 (by decide) h).elim) (r g2)
 ·by_cases d0:j.op.cls=0
  ·obtain ⟨rfl,r⟩:=j0 d0
   exact fin σ.h (fun h=>(notnew d0 (by decide) h).elim) (r σ.h) n1 e1
  ·rcases t3 with (((((((((t3|t3)|t3)|t3)|t3)|t3)|t3)|t3)|t3)|t3)
   ·exact (c0 t3).elim
   ·exact (d0 t3).elim
   ·obtain ⟨c1,t3⟩:=t3
    obtain ⟨rfl,r⟩:=i1 c1
    rcases t3 with d1|d2
    ·obtain ⟨rfl,_⟩:=j1 d1
     exact fin σ.h n2 e2' n1 e1
    ·rcases j2 d2 with ⟨rfl,_⟩|⟨ob,rfl,_⟩
     ·exact fin σ.h n2 e2' n1 e1
     ·exact fin _ n2 e2' (fun h=>(notnew c1 (by decide) h).elim) (r _ ob (n2 (Jei d2)))
   ·obtain ⟨c2,d2⟩:=t3
    have hj:j.op.isNew=true:=Jei d2
    have hni:i.op.isNew=true:=Jei c2
    have hne:base+j.dst.getD 0≠base+i.dst.getD 0:=by
     rw [c2] at t4
     rw [d2] at t5
     cases hdi:i.dst with
     | none=>rw [hdi] at t4;simp at t4
     | some x =>
      cases hdj:j.dst with
      | none=>rw [hdj] at t5;simp at t5
      | some y =>
       have:=a3 x hdi
       rw [hdj] at this
       simp
       rintro rfl
       exact this rfl
    rcases i2 c2 with ⟨rfl,r⟩|⟨oi,rfl,r⟩
    ·rcases j2 d2 with ⟨rfl,_⟩|⟨oj,rfl,_⟩
     ·exact fin σ.h n2 e2' n1 e1
     ·exact fin _ n2 e2' (fun h=>by rw [Jc _ _ _ _ hne.symm];exact n1 h) (r _)
    ·have hg:σ.h (base+j.dst.getD 0)=none:=by have:=n2 hj;rwa [Jc _ _ _ _ hne] at this
     rcases j2 d2 with ⟨rfl,q⟩|⟨oj,rfl,q⟩
     ·exact fin σ.h (fun _=>hg) (q σ.h) n1 e1
     ·refine fin _ (fun _=>hg) (q σ.h hg) (fun h=>by rw [Jc _ _ _ _ hne.symm];exact n1 h) ?_
      rw [r _ (by rw [Jc _ _ _ _ hne.symm];exact n1 hni)]
      rw [Jiy _ _ _ hne]
   ·obtain ⟨hs,hf⟩:=t3
    have hjn:j.op.isNew=true→False:=fun hn=>by cases hop:j.op<;>rw [hop] at hf hn<;>simp [LOp.frzs,LOp.isNew] at hf hn
    have hin:i.op.isNew=true→False:=fun hn=>by cases hop:i.op<;>rw [hop] at hs hn<;>simp [LOp.still,LOp.isNew] at hs hn
    obtain ⟨ns,hg2⟩:=Jvw hf e2'
    obtain ⟨q1,q2⟩:=Jzj hs e1 ns
    subst q1
    rw [←hg2] at q2
    exact fin g2 (fun h=>(hjn h).elim) e2' (fun h=>(hin h).elim) q2
   ·obtain ⟨ds,op,ds',hio,hjo,hall⟩:∃ds op ds',i.op=.msk ds op∧j.op.nwD=some ds'∧(ds'.all fun d=>ds.contains d)=true:=by
     unfold LOp.past at t3
     split at t3
     ·rename_i ds op ds' h1 h2
      exact ⟨_,_,_,h1,h2,t3⟩
     ·cases t3
    have hjn:j.op.isNew=true→False:=fun hn=>by cases hop:j.op<;>rw [hop] at hjo hn<;>first|(cases hjo;done)|(cases hn;done)
    have hin:i.op.isNew=true→False:=fun hn=>by rw [hio] at hn;cases hn
    have hd:∀g,inNm base ds' g=true→inNm base ds g=true:=fun g hg=>by
     obtain ⟨d,hd,e⟩:=Aq.1 hg
     exact Aq.2 ⟨d,by simpa using Ae.1 hall d hd,e⟩
    obtain ⟨q1,q2⟩:=evG_past hio hjo hd e1 e2'
    subst q1
    exact fin g2 (fun h=>(hjn h).elim) e2' (fun h=>(hin h).elim) q2
   ·obtain ⟨hf,d2⟩:=t3
    have hjn:j.op.isNew=true:=Jei d2
    have hin:i.op.isNew=true→False:=fun hn=>by cases hop:i.op<;>rw [hop] at hf hn<;>simp [LOp.frzs,LOp.isNew] at hf hn
    obtain ⟨ns,hg1⟩:=Jvw hf e1
    have hnone:σ.h (base+j.dst.getD 0)=none:=by
     have:=n2 hjn
     rw [hg1] at this
     unfold Jg at this
     split at this
     ·cases ho:σ.h (base+j.dst.getD 0) with
      | none=>rfl
      | some o=>rw [ho] at this;cases this
     ·exact this
    rcases j2 d2 with ⟨rfl,q⟩|⟨oj,rfl,q⟩
    ·exact fin σ.h (fun _=>hnone) (q σ.h) (fun h=>(hin h).elim) e1
    ·exact fin _ (fun _=>hnone) (q σ.h hnone) (fun h=>(hin h).elim) (Jpx hf e1 hnone)
   ·obtain ⟨⟨hf,di⟩,d2⟩:=t3
    have hjn:j.op.isNew=true:=Jei d2
    have hin:i.op.isNew=true→False:=fun hn=>by
     cases hop:i.op<;>rw [hop] at hf hn<;>simp [LOp.aps,LOp.isNew] at hf hn
    have hnone:σ.h (base+j.dst.getD 0)=none:=aps_none hf e1 (n2 hjn)
    have hne:base+i.dst.getD 0≠base+j.dst.getD 0:=by
     rw [d2] at t5
     cases hdi:i.dst with
     | none=>rw [hdi] at di;simp at di
     | some x =>
      cases hdj:j.dst with
      | none=>rw [hdj] at t5;simp at t5
      | some y =>
       have:=a3 x hdi
       rw [hdj] at this
       simp
       rintro rfl
       exact this rfl
    rcases j2 d2 with ⟨rfl,q⟩|⟨oj,rfl,q⟩
    ·exact fin σ.h (fun _=>hnone) (q σ.h) (fun h=>(hin h).elim) e1
    ·exact fin _ (fun _=>hnone) (q σ.h hnone) (fun h=>(hin h).elim) (Jqw hf e1 hnone hne)
   ·obtain ⟨c2,t3⟩:=t3
    obtain ⟨ds,op,x,hjo,hdi,hx⟩:∃ds op x,j.op=.msk ds op∧i.dst=some x∧ds.contains x=true:=by
     unfold LOp.offN at t3
     split at t3
     ·rename_i ds op x h1 h2
      exact ⟨_,_,_,h1,h2,t3⟩
     ·cases t3
    have hjn:j.op.isNew=true→False:=fun hn=>by rw [hjo] at hn;cases hn
    have d1:j.op.cls=1:=by rw [hjo];rfl
    obtain ⟨rfl,-⟩:=j1 d1
    rcases i2 c2 with ⟨rfl,r⟩|⟨oi,rfl,r⟩
    ·exact fin σ.h (fun h=>(hjn h).elim) e2' n1 e1
    ·refine fin σ.h (fun h=>(hjn h).elim) (Juc hjo ?_ e2') n1 e1
     rw [hdi]
     exact Aq.2 ⟨x,by simpa using hx,by simp⟩
   ·obtain ⟨ds,op,ds',hjo,hio,hall⟩:∃ds op ds',j.op=.msk ds op∧i.op.nwD=some ds'∧(ds'.all fun d=>ds.contains d)=true:=by
     unfold LOp.past at t3
     split at t3
     ·rename_i ds op ds' h1 h2
      exact ⟨_,_,_,h1,h2,t3⟩
     ·cases t3
    have hjn:j.op.isNew=true→False:=fun hn=>by rw [hjo] at hn;cases hn
    have hin:i.op.isNew=true→False:=fun hn=>by cases hop:i.op<;>rw [hop] at hio hn<;>first|(cases hio;done)|(cases hn;done)
    have d1:j.op.cls=1:=by rw [hjo];rfl
    obtain ⟨rfl,-⟩:=j1 d1
    have hd:∀g,inNm base ds' g=true→inNm base ds g=true:=fun g hg=>by
     obtain ⟨d,hd,e⟩:=Aq.1 hg
     exact Aq.2 ⟨d,by simpa using Ae.1 hall d hd,e⟩
    exact fin σ.h (fun h=>(hjn h).elim) (Jmy hjo (nw_maskG hio hd e1) e2') (fun h=>(hin h).elim) e1
theorem bubble {call:Call} {base:Nat} {j:LOper}:∀ {A B:List LOper} {σ σf:St},(∀i∈A,Jp8 i j=true)→Yn call base (A++j::B) σ=some σf→∃σ',Yj call base j σ=some σ'∧Yn call base (A++B) σ'=some σf
 | [],B,σ,σf,_,h=>by
  simp only [List.nil_append,Yn] at h ⊢
  split at h
  ·rename_i σ' h';exact ⟨σ',h',h⟩
  ·cases h
 | i::A,B,σ,σf,hA,h=>by
  simp only [List.cons_append,Yn] at h ⊢
  split at h
  ·rename_i σ1 h1
   obtain ⟨σ2,h2,h3⟩:=bubble (fun k hk=>hA k (Aj _ hk)) h
   obtain ⟨σ',s1,s2⟩:=swap (hA i (Ai ..)) h1 h2
   refine ⟨σ',s1,?_⟩
   rw [s2]
   exact h3
  ·cases h
def dep (ops:Array Oper) (p q:Nat):Bool:=((ops[p]?).map fun o=>o.after.any fun e=>Region.binds .any e&&e.on==q).getD false
def Jcb (P:Program) (cm:List (Nat×CM)) (nt:Nat) (ops:Array Oper):List Nat→Option (List (Nat×LOper))
  | []=>some []
  | i::r =>
    match ops[i]? with
    | some o=>(match comp P cm nt ops o,Jcb P cm nt ops r with|some x,some l=>some ((i,x)::l)|_,_=>none)
    | none=>none
inductive Anc (ops:Array Oper):Nat→Nat→Prop where
  | one {k i:Nat} (h:dep ops i k=true):Anc ops k i
  | more {k x i:Nat} (h:dep ops i x=true) (hx:Anc ops k x):Anc ops k i
def Jqj (ops:Array Oper) (p:Nat×LOper):List Nat→List (Nat×LOper)→Bool
  | _,[]=>true
  | acc,q::r =>
    !dep ops p.1 q.1&&p.1 != q.1&&(if dep ops q.1 p.1 || acc.any (fun x=>dep ops q.1 x) then Jqj ops p (q.1::acc) r else Jp8 p.2 q.2&&Jqj ops p acc r)
def Jqp (ops:Array Oper):List (Nat×LOper)→Bool
  | []=>true
  | p::r=>Jqj ops p [] r&&!dep ops p.1 p.1&&Jqp ops r
theorem Jhl {ops:Array Oper} {p:Nat×LOper}:∀ {r:List (Nat×LOper)} {acc:List Nat},Jqj ops p acc r=true→(∀x∈acc,Anc ops p.1 x)→∀q∈r,dep ops p.1 q.1=false∧(Anc ops p.1 q.1∨Jp8 p.2 q.2=true)∧p.1≠q.1
  | [],_,_,_,q,hq=>by cases hq
  | q::r,acc,h,hacc,x,hx=>by
    simp only [Jqj,Ac,Aw,bne_iff_ne,ne_eq] at h
    obtain ⟨⟨h1,h2⟩,h3⟩:=h
    split at h3
    · rename_i hd
      have hq:Anc ops p.1 q.1:=by
        simp only [Bool.or_eq_true,Aq] at hd
        rcases hd with hd|⟨y,hy,hd⟩
        · exact .one hd
        · exact .more hd (hacc y hy)
      rcases Ag.1 hx with rfl|hx
      · exact ⟨h1,.inl hq,h2⟩
      · exact Jhl h3 (fun y hy=>(Ag.1 hy).elim (fun e=>e▸hq) (hacc y)) x hx
    · simp only [Ac] at h3
      rcases Ag.1 hx with rfl|hx
      · exact ⟨h1,.inr h3.1,h2⟩
      · exact Jhl h3.2 hacc x hx
def Jmd (ops:Array Oper) (L:List (Nat×LOper)):Bool :=
  Jqp ops L&&L.length==ops.size&&((List.range ops.size).all fun i=>(L.map (·.1)).contains i)&&ops.all fun o=>o.after.all fun e=>decide (e.on<ops.size)
theorem Jhq {ops:Array Oper}:∀ {L:List (Nat×LOper)},Jqp ops L=true→L.Pairwise (fun p q=>dep ops p.1 q.1=false∧(Anc ops p.1 q.1∨Jp8 p.2 q.2=true)∧p.1≠q.1)∧∀p∈L,dep ops p.1 p.1=false
  | [],_=>⟨.nil,fun p hp=>by cases hp⟩
  | p::r,h=>by
    simp only [Jqp,Ac,Aw] at h
    obtain ⟨⟨h1,h2⟩,h3⟩:=h
    obtain ⟨h4,h5⟩:=Jhq h3
    refine ⟨Ar.2 ⟨Jhl h1 (fun x hx=>by cases hx),h4⟩,fun q hq=>?_⟩
    rcases Ag.1 hq with rfl|hq
    · exact h2
    · exact h5 q hq
theorem Anc.listed {ops:Array Oper} {X:Nat→Prop} (hX:∀x,X x→∀k,dep ops x k=true→X k) {k i:Nat} (h:Anc ops k i):(∀k,dep ops i k=true→X k)→X k:=by
  induction h with
  | one h=>exact fun hi=>hi _ h
  | more h _ ih=>exact fun hi=>ih (hX _ (hi _ h))
theorem Jkq {P:Program} {cm:List (Nat×CM)} {nt:Nat} {ops:Array Oper}:∀ {l:List Nat} {L:List (Nat×LOper)},Jcb P cm nt ops l=some L→∀p∈L,∃o,ops[p.1]?=some o∧comp P cm nt ops o=some p.2
  | [],L,h,p,hp=>by simp [Jcb] at h;subst h;cases hp
  | i::r,L,h,p,hp=>by
    unfold Jcb at h
    split at h
    · rename_i o ho
      split at h
      · rename_i x l hx hl
        injection h with h
        subst h
        rcases Ag.1 hp with rfl|hp
        · exact ⟨o,ho,hx⟩
        · exact Jkq hl p hp
      · cases h
    · cases h
theorem Jt2 {call:Call} {base:Nat} {o:LOper} {σ σ':St} (h:Yj call base o σ=some σ'):Zf call base o σ=some σ':=by
  unfold Yj at h
  split at h
  · cases h
  · exact h
section
variable {ro:Option Nat} {P:Program} {nt:Nat} {ops:Array Oper} {call:Call} {base:Nat} {Q:Exit→Act→World→Prop}
theorem Jyi (hcall:Jab P call) (hin:∀o∈ops,∀e∈o.after,e.on<ops.size):∀(m:Nat) {R:List Nat} (fuel:Nat) {listed:Array Bool} {L:List (Nat×LOper)} {w:World} {S:Nat→Prop} {σ σf:St} {μ:Gh} {a:Act},L.length=fuel→listed.size=ops.size →
    (∀p∈L,∃(cm:List (Nat×CM)) (o:Oper) (x:LOper),ops[p.1]?=some o∧comp P cm nt ops o=some x∧∀σ σ',Zf call base p.2 σ=some σ'→Zf call base x σ=some σ')→(∀k,k<ops.size→(listed.getD k true=false↔k∈L.map (·.1)∨k∈R))→(∀i∈R,∀p∈L,Anc ops p.1 i∧dep ops p.1 i=false∧p.1≠i) →
    L.Pairwise (fun p q=>dep ops p.1 q.1=false∧(Anc ops p.1 q.1∨Jp8 p.2 q.2=true)∧p.1≠q.1)→(∀p∈L,dep ops p.1 p.1=false) →
    (∀x,(x<ops.size∧x∉L.map (·.1)∧x∉R)→∀k,dep ops x k=true→k<ops.size∧k∉L.map (·.1)∧k∉R) →
    RepS nt w S σ μ a→Yn call base (L.map (·.2)) σ=some σf →
    (∀listed' a' w' S' μ',listed'.size=ops.size→(∀k,k<ops.size→(listed'.getD k true=false↔k∈R))→a'.defers=a.defers→RepS nt w' S' σf μ' a'→Evo w S σ.h μ w' S' σf.h μ'→EvoV σ.h μ σf.h μ'→wpAnyIn (Fr ro) 0 P .any ops Q m listed' a' w')→wpAnyIn (Fr ro) 0 P .any ops Q (m+fuel) listed a w
  | m,R,0,listed,L,w,S,σ,σf,μ,a,hlen,hsz,hmem,hl,hR,_,_,_,hs,he,hQ=>by
    have:L=[]:=List.eq_nil_of_length_eq_zero hlen
    subst this
    simp [Yn] at he
    subst he
    exact hQ listed _ _ _ _ hsz (fun k hk=>by rw [hl k hk];simp) rfl hs .refl (.refl _ _)
  | m,R,fuel+1,listed,L,w,S,σ,σf,μ,a,hlen,hsz,hmem,hl,hR,hpw,hself,hcl,hs,he,hQ=>by
    have hgd:∀k,k<ops.size→(listed.getD k true=false↔listed.getD k false=false):=fun k hk=>by
      have:k<listed.size:=by omega
      simp [this]
    refine ⟨fun hr=>?_,fun i hi=>?_⟩
    · exfalso
      cases L with
      | nil=>simp at hlen
      | cons p r =>
        obtain ⟨cm,o,_,ho,_⟩:=hmem p (Ai ..)
        have hp:p.1<ops.size:=(Array.getElem?_eq_some_iff.1 ho).1
        have:p.1∈Region.ready .any ops listed:=by
          refine mem_ready.2 ⟨(hl p.1 hp).2 (.inl (by simp)),o,ho,fun e hee hb=>?_⟩
          have hlt:=hin o (Array.mem_of_getElem? ho) e hee
          cases hle:listed.getD e.on false with
          | true=>rfl
          | false =>
            exfalso
            have:=(hl e.on hlt).1 ((hgd e.on hlt).2 hle)
            have hdep:dep ops p.1 e.on=true:=by
              simp only [dep,ho,Au,Be]
              exact Array.any_eq_true.2 (by
                obtain ⟨n,hn,e'⟩:=Array.getElem_of_mem hee
                exact ⟨n,hn,by rw [e'];simp [hb]⟩)
            simp only [Bb,Ag] at this
            rcases this with (h1|h1)|h1
            rotate_left 2
            · have:=(hR _ h1 p (Ai ..)).2.1
              rw [this] at hdep;cases hdep
            · rw [h1,hself p (Ai ..)] at hdep;cases hdep
            · obtain ⟨q,hq,h2⟩:=Bc.1 h1
              have:=(Ar.1 hpw).1 q hq
              rw [←h2,this.1] at hdep;cases hdep
        rw [hr] at this
        cases this
    · obtain ⟨h1,o,ho,hedges⟩:=mem_ready.1 hi
      have hi':i<ops.size:=(Array.getElem?_eq_some_iff.1 ho).1
      have hrdy:∀k,dep ops i k=true→k<ops.size∧k∉L.map (·.1)∧k∉R:=by
        intro k hd
        simp only [dep,ho,Au,Be] at hd
        obtain ⟨n,hn,hx⟩:=Array.any_eq_true.1 hd
        simp only [Ac,beq_iff_eq] at hx
        have hee:=hedges (o.after[n]) (Array.getElem_mem hn) hx.1
        have hk:=hin o (Array.mem_of_getElem? ho) (o.after[n]) (Array.getElem_mem hn)
        rw [hx.2] at hee hk
        have key:¬(k∈L.map (·.1)∨k∈R):=fun hm=>by
          have:=(hl k hk).2 hm
          rw [hgd k hk,hee] at this
          cases this
        exact ⟨hk,fun q=>key (.inl q),fun q=>key (.inr q)⟩
      have hiL:i∈L.map (·.1):=by
        rcases (hl i hi').1 h1 with q|q
        · exact q
        · exfalso
          cases L with
          | nil=>simp at hlen
          | cons p r =>
            have:=(hR i q p (Ai ..)).1.listed (X:=fun x=>x<ops.size∧x∉(p::r).map (·.1)∧x∉R) hcl hrdy
            exact this.2.1 (by simp)
      obtain ⟨p,hp,rfl⟩:=Bc.1 hiL
      obtain ⟨A,B,rfl⟩:=List.append_of_mem hp
      obtain ⟨cm,o',x',ho',hc,hrf⟩:=hmem p hp
      rw [ho] at ho'
      injection ho' with ho'
      subst ho'
      have hready:=hrdy
      have hA:∀q∈A,dep ops q.1 p.1=false∧Jp8 q.2 p.2=true∧q.1≠p.1:=by
        intro q hq
        have hpq:=(Bk.1 hpw).2.2 q hq p (Ai ..)
        refine ⟨hpq.1,?_,hpq.2.2⟩
        rcases hpq.2.1 with hd|hd
        · exfalso
          have:=hd.listed (X:=fun x=>x<ops.size∧x∉(A++p::B).map (·.1)∧x∉R) hcl hready
          exact this.2.1 (Bc.2 ⟨q,Ao _ hq,rfl⟩)
        · exact hd
      simp only [Bg,Bb] at he
      obtain ⟨σ',b1,b2⟩:=bubble (fun k hk=>by obtain ⟨q,hq,rfl⟩:=Bc.1 hk;exact (hA q hq).2.1) he
      have hB:∀q∈B,p.1≠q.1:=fun q hq=>((Ar.1 (Bk.1 hpw).2.1).1 q hq).2.2
      unfold wpOpIn
      simp only [ho]
      have hstep:=Jpe (K:=wpAnyIn (Fr ro) 0 P .any ops Q (m+fuel) (listed.setIfInBounds p.1 true)) (Q:=Q) (ro:=ro) hcall hs hc (hrf _ _ (Jt2 b1)) fun a1 w1 S1 μ1 r0 r1 r2 r3=>by
        refine Jyi hcall hin m (R:=R) fuel (L:=A++B) (by simp at hlen ⊢;omega) (by simpa using hsz) (fun q hq=>hmem q ?_) (fun k hk=>?_) (fun i hi q hq=>hR i hi q ?_) (hpw.sublist ?_) (fun q hq=>hself q ?_) ?_ r1 (by simpa using b2) fun l2 a2 w2 S2 μ2 p1 p2 q0 q1 q2 q3=>hQ _ _ _ _ _ p1 p2 (q0.trans r0) q1 (r2.trans q2) (r3.trans q3)
        · rcases Af.1 hq with h|h
          · exact Ao _ h
          · exact As _ (Aj _ h)
        · have hk2:k<listed.size:=by omega
          by_cases hkp:k=p.1
          · subst hkp
            refine ⟨fun h=>?_,fun h=>?_⟩
            · simp [hk2] at h
            · exfalso
              rcases h with h|h
              · obtain ⟨q,hq,e⟩:=Bc.1 h
                rcases Af.1 hq with h|h
                · exact (hA q h).2.2 e
                · exact hB q h e.symm
              · exact (hR _ h p hp).2.2 rfl
          · have:(listed.setIfInBounds p.1 true).getD k true=listed.getD k true:=by
              simp [Array.getElem?_setIfInBounds_ne (Ne.symm hkp)]
            rw [this,hl k hk]
            simp only [Bg,Bb,Af,Ag]
            refine ⟨fun h=>?_,fun h=>?_⟩
            · rcases h with (h|h|h)|h
              · exact .inl (.inl h)
              · exact (hkp h).elim
              · exact .inl (.inr h)
              · exact .inr h
            · rcases h with (h|h)|h
              · exact .inl (.inl h)
              · exact .inl (.inr (.inr h))
              · exact .inr h
        · rcases Af.1 hq with h|h
          · exact Ao _ h
          · exact As _ (Aj _ h)
        · exact List.Sublist.append (List.Sublist.refl A) (List.sublist_cons_self p B)
        · rcases Af.1 hq with h|h
          · exact Ao _ h
          · exact As _ (Aj _ h)
        · have sub:∀k,k∈(A++B).map (·.1)→k∈(A++p::B).map (·.1):=fun k hk=>by
            simp only [Bg,Bb,Af,Ag] at hk ⊢
            rcases hk with h|h
            · exact .inl h
            · exact .inr (.inr h)
          rintro x ⟨hx1,hx2,hx3⟩ k hd
          by_cases hxp:x=p.1
          · subst hxp
            exact ⟨(hready k hd).1,fun h=>(hready k hd).2.1 (sub k h),(hready k hd).2.2⟩
          · have:=hcl x ⟨hx1,fun h=>by
              simp only [Bg,Bb,Af,Ag] at h hx2
              rcases h with h|h|h
              · exact hx2 (.inl h)
              · exact hxp h
              · exact hx2 (.inr h),hx3⟩ k hd
            exact ⟨this.1,fun h=>this.2.1 (sub k h),this.2.2⟩
      split
      · rename_i hw
        rw [if_pos hw] at hstep
        exact Jh3 (Jmm hc) hstep
      · rename_i hw
        rw [if_neg hw] at hstep
        exact ⟨fun _ _=>trivial,hstep⟩
theorem J2s (hcall:Jab P call) (hm:P.follows .mixedOrders=true) {id:Nat} {L:List (Nat×LOper)} {w:World} {S:Nat→Prop} {σ σf:St} {μ:Gh} {a:Act} (hs:RepS nt w S σ μ a) (hc:∀p∈L,∃(cm:List (Nat×CM)) (o:Oper) (x:LOper),ops[p.1]?=some o∧comp P cm nt ops o=some x∧∀σ σ',Zf call base p.2 σ=some σ'→Zf call base x σ=some σ') (hd:Jmd ops L=true)
    (he:Yn call base (L.map (·.2)) σ=some σf) (hQ:∀a' w' S' μ',a'.defers=a.defers→RepS nt w' S' σf μ' a'→Evo w S σ.h μ w' S' σf.h μ'→EvoV σ.h μ σf.h μ'→Q .normal a' w'):(Code.region id ops true).wpIn (Fr ro) 0 P Q a w:=by
  simp only [Jmd,Ac,beq_iff_eq] at hd
  obtain ⟨⟨⟨d1,d2⟩,d3⟩,d4⟩:=hd
  obtain ⟨p1,p2⟩:=Jhq d1
  have hw:RepS nt { w with drawn:=w.drawn+1 } S σ μ a:=⟨fun d=>(hs.fr d).evo hs.hp zi (.refl _ _),hs.hp.of_same (w':=w.drew) rfl rfl rfl ⟨rfl,Nat.le_succ _⟩,hs.df,hs.sz⟩
  have hall:∀k,k<ops.size→k∈L.map (·.1):=fun k hk=>by
    have:=Ae.1 d3 k (List.mem_range.2 hk)
    exact Ax.1 this
  have main:wpAnyIn (Fr ro) 0 P .any ops Q (0+ops.size) (Array.replicate ops.size false) a { w with drawn:=w.drawn+1 }:=by
   refine Jyi hcall (ops:=ops) (nt:=nt) (Q:=Q) (ro:=ro) (fun o ho e hee=>?_) 0 (R:=[]) ops.size (listed:=Array.replicate ops.size false) d2 (by simp) hc (fun k hk=>?_) (fun i hi=>by cases hi) p1 p2 (fun x hx=>(hx.2.1 (hall x hx.1)).elim) hw he fun l' a' w' S' μ' s1 s2 r0 r1 r2 r3=>⟨?_,hQ _ _ _ _ r0 r1 (zi.trans r2) r3⟩
   · obtain ⟨n,hn,e1⟩:=Array.getElem_of_mem ho
     have:=Array.all_eq_true.1 d4 n hn
     rw [e1] at this
     obtain ⟨m,hm,e2⟩:=Array.getElem_of_mem hee
     have:=Array.all_eq_true.1 this m hm
     rw [e2] at this
     simpa using this
   · have:=hall k hk
     simp [hk,this]
   · apply Bf.2
     intro j hj
     obtain ⟨h1,o,ho,_⟩:=mem_ready.1 hj
     have:=(s2 j (Array.getElem?_eq_some_iff.1 ho).1).1 h1
     cases this
  rw [Nat.zero_add] at main
  exact wpIn_region_any hm main
def Jd5 (ops:Array Oper):List Nat→Bool
  | []=>true
  | [_]=>true
  | x::y::r=>dep ops y x&&Jd5 ops (y::r)
theorem Jme {ops:Array Oper}:∀ {i:Nat} {R:List Nat},Jd5 ops (i::R)=true→∀j∈R,∃q∈i::R,dep ops j q=true
  | i,[],_,j,hj=>by cases hj
  | i,y::r,h,j,hj=>by
    simp only [Jd5,Ac] at h
    rcases Ag.1 hj with rfl|hj
    · exact ⟨i,Ai ..,h.1⟩
    · obtain ⟨q,hq,hd⟩:=Jme h.2 j hj
      exact ⟨q,Aj _ hq,hd⟩
theorem Jxn {ops:Array Oper} {i:Nat} {R:List Nat} (h:Jd5 ops (i::R)=true):Jd5 ops R=true:=by
  cases R with
  | nil=>rfl
  | cons y r=>simp only [Jd5,Ac] at h;exact h.2
theorem Jwm (hin:∀o∈ops,∀e∈o.after,e.on<ops.size):∀ {R:List Nat} {os:List Oper} {listed:Array Bool} {a:Act} {w:World},R.map (fun i=>ops[i]?)=os.map some→listed.size=ops.size→(∀k,k<ops.size→(listed.getD k true=false↔k∈R))→R.Nodup→Jd5 ops R=true →
    R.Pairwise (fun x y=>dep ops x y=false)→(∀x∈R,dep ops x x=false)→wpListIn (Fr ro) 0 P ops Q os a w→wpAnyIn (Fr ro) 0 P .any ops Q R.length listed a w
  | [],os,listed,a,w,ho,hsz,hl,_,_,_,_,h=>by
    cases os with
    | cons o os=>simp at ho
    | nil =>
      refine ⟨?_,h⟩
      apply Bf.2
      intro j hj
      obtain ⟨h1,o,ho,_⟩:=mem_ready.1 hj
      have:=(hl j (Array.getElem?_eq_some_iff.1 ho).1).1 h1
      cases this
  | i::R,[],listed,a,w,ho,_,_,_,_,_,_,_=>by simp at ho
  | i::R,o::os,listed,a,w,ho,hsz,hl,hnd,hch,hpw,hself,h=>by
    simp only [Bb,List.cons.injEq] at ho
    obtain ⟨ho1,ho2⟩:=ho
    have hi:i<ops.size:=(Array.getElem?_eq_some_iff.1 ho1).1
    have hgd:∀k,k<ops.size→(listed.getD k true=false↔listed.getD k false=false):=fun k hk=>by
      have:k<listed.size:=by omega
      simp [this]
    obtain ⟨hn1,hn2⟩:=List.nodup_cons.1 hnd
    have hrec:∀a w,wpListIn (Fr ro) 0 P ops Q os a w→wpAnyIn (Fr ro) 0 P .any ops Q R.length (listed.setIfInBounds i true) a w:=fun a w h =>
      Jwm hin ho2 (by simpa using hsz) (fun k hk=>by
        have hk2:k<listed.size:=by omega
        by_cases hki:k=i
        · subst hki
          refine ⟨fun h=>?_,fun h=>(hn1 h).elim⟩
          simp [hk2] at h
        · have:(listed.setIfInBounds i true).getD k true=listed.getD k true:=by
            simp [Array.getElem?_setIfInBounds_ne (Ne.symm hki)]
          rw [this,hl k hk,Ag]
          exact ⟨fun h=>h.resolve_left hki,.inr⟩) hn2 (Jxn hch) (Ar.1 hpw).2 (fun x hx=>hself x (Aj _ hx)) h
    refine ⟨fun hr=>?_,fun j hj=>?_⟩
    · exfalso
      have:i∈Region.ready .any ops listed:=by
        refine mem_ready.2 ⟨(hl i hi).2 (Ai ..),o,ho1,fun e hee hb=>?_⟩
        have hlt:=hin o (Array.mem_of_getElem? ho1) e hee
        cases hle:listed.getD e.on false with
        | true=>rfl
        | false =>
          exfalso
          have hm:=(hl e.on hlt).1 ((hgd e.on hlt).2 hle)
          have hdep:dep ops i e.on=true:=by
            simp only [dep,ho1,Au,Be]
            exact Array.any_eq_true.2 (by
              obtain ⟨n,hn,e'⟩:=Array.getElem_of_mem hee
              exact ⟨n,hn,by rw [e'];simp [hb]⟩)
          rcases Ag.1 hm with e1|e1
          · rw [e1,hself i (Ai ..)] at hdep;cases hdep
          · rw [(Ar.1 hpw).1 _ e1] at hdep;cases hdep
      rw [hr] at this
      cases this
    · obtain ⟨h1,o',ho',hedges⟩:=mem_ready.1 hj
      have hj':j<ops.size:=(Array.getElem?_eq_some_iff.1 ho').1
      have hji:j=i:=by
        rcases Ag.1 ((hl j hj').1 h1) with e|e
        · exact e
        · exfalso
          obtain ⟨q,hq,hd⟩:=Jme hch j e
          simp only [dep,ho',Au,Be] at hd
          obtain ⟨n,hn,hx⟩:=Array.any_eq_true.1 hd
          simp only [Ac,beq_iff_eq] at hx
          have hee:=hedges (o'.after[n]) (Array.getElem_mem hn) hx.1
          have hk:=hin o' (Array.mem_of_getElem? ho') (o'.after[n]) (Array.getElem_mem hn)
          rw [hx.2] at hee hk
          have:=(hl q hk).2 hq
          rw [hgd q hk,hee] at this
          cases this
      subst hji
      unfold wpOpIn
      simp only [ho1]
      unfold wpListIn at h
      split at h
      · rename_i hw
        rw [if_pos hw]
        exact Oper.wpIn_mono hrec h
      · rename_i hw
        rw [if_neg hw]
        exact ⟨h.1,hrec _ _ h.2⟩
def ancL (ops:Array Oper):Nat→List Nat→List Nat
  | 0,acc=>acc
  | n+1,acc=>ancL ops n (acc++(List.range ops.size).filter fun k=>!acc.contains k&&acc.any fun x=>dep ops x k)
theorem Jut {ops:Array Oper} {i:Nat}:∀(n:Nat) (acc:List Nat),(∀k∈acc,k=i∨Anc ops k i)→∀k∈ancL ops n acc,k=i∨Anc ops k i
  | 0,acc,h,k,hk=>h k hk
  | n+1,acc,h,k,hk=>by
    refine Jut n _ (fun k hk=>?_) k hk
    rcases Af.1 hk with hk|hk
    · exact h k hk
    · simp only [List.mem_filter,Ac,Aq] at hk
      obtain ⟨x,hx,hd⟩:=hk.2.2
      rcases h x hx with rfl|hx
      · exact .inr (.one hd)
      · have key:∀ {a b c:Nat},Anc ops b c→dep ops b a=true→Anc ops a c:=fun hbc hab=>by
          induction hbc with
          | one h=>exact .more h (.one hab)
          | more h _ ih=>exact .more h ih
        exact .inr (key hx hd)
def Jvp:List Nat→Bool
  | []=>true
  | x::r=>!r.contains x&&Jvp r
theorem Jna:∀ {l:List Nat},Jvp l=true→l.Nodup
  | [],_=>List.nodup_nil
  | x::r,h=>by
    simp only [Jvp,Ac,Aw] at h
    refine List.nodup_cons.2 ⟨fun hx=>?_,Jna h.2⟩
    rw [Ax.2 hx] at h
    cases h.1
def pwB (ops:Array Oper):List Nat→Bool
  | []=>true
  | x::r=>!dep ops x x&&r.all (fun y=>!dep ops x y)&&pwB ops r
theorem Jyf {ops:Array Oper}:∀ {R:List Nat},pwB ops R=true→R.Pairwise (fun x y=>dep ops x y=false)∧∀x∈R,dep ops x x=false
  | [],_=>⟨.nil,fun x hx=>by cases hx⟩
  | x::r,h=>by
    simp only [pwB,Ac,Aw,Ae] at h
    obtain ⟨⟨h1,h2⟩,h3⟩:=h
    obtain ⟨h4,h5⟩:=Jyf h3
    refine ⟨Ar.2 ⟨h2,h4⟩,fun y hy=>?_⟩
    rcases Ag.1 hy with rfl|hy
    · exact h1
    · exact h5 y hy
def Jnr (ops:Array Oper) (L:List (Nat×LOper)) (R:List Nat):Bool :=
  Jqp ops L&&L.length+R.length==ops.size&&((List.range ops.size).all fun i=>(L.map (·.1)++R).contains i)&&(ops.all fun o=>o.after.all fun e=>decide (e.on<ops.size)) &&
  Jvp (L.map (·.1)++R)&&Jd5 ops R&&pwB ops R&&R.all fun i=>L.all fun p=>!dep ops p.1 i&&(ancL ops ops.size [i]).contains p.1
theorem split_wp (hcall:Jab P call) (hm:P.follows .mixedOrders=true) {id:Nat} {L:List (Nat×LOper)} {R:List Nat} {os:List Oper} {w:World} {S:Nat→Prop} {σ σf:St} {μ:Gh} {a:Act} (hs:RepS nt w S σ μ a) (hc:∀p∈L,∃(cm:List (Nat×CM)) (o:Oper),ops[p.1]?=some o∧comp P cm nt ops o=some p.2) (hd:Jnr ops L R=true)
    (hos:R.map (fun i=>ops[i]?)=os.map some) (he:Yn call base (L.map (·.2)) σ=some σf) (hQ:∀a' w' S' μ',a'.defers=a.defers→RepS nt w' S' σf μ' a'→Evo w S σ.h μ w' S' σf.h μ'→EvoV σ.h μ σf.h μ'→wpListIn (Fr ro) 0 P ops Q os a' w'):(Code.region id ops true).wpIn (Fr ro) 0 P Q a w:=by
  simp only [Jnr,Ac,beq_iff_eq] at hd
  obtain ⟨⟨⟨⟨⟨⟨⟨d1,d2⟩,d3⟩,d4⟩,d5⟩,d6⟩,d7⟩,d8⟩:=hd
  obtain ⟨p1,p2⟩:=Jhq d1
  have hnd:=Jna d5
  obtain ⟨hndL,hndR,hdis⟩:=List.nodup_append.1 hnd
  obtain ⟨r1,r2⟩:=Jyf d7
  have hin:∀o∈ops,∀e∈o.after,e.on<ops.size:=fun o ho e hee=>by
    obtain ⟨n,hn,e1⟩:=Array.getElem_of_mem ho
    have:=Array.all_eq_true.1 d4 n hn
    rw [e1] at this
    obtain ⟨m,hm,e2⟩:=Array.getElem_of_mem hee
    have:=Array.all_eq_true.1 this m hm
    rw [e2] at this
    simpa using this
  have hall:∀k,k<ops.size→k∈L.map (·.1)∨k∈R:=fun k hk=>by
    have:=Ae.1 d3 k (List.mem_range.2 hk)
    exact Af.1 (Ax.1 this)
  have hw:RepS nt { w with drawn:=w.drawn+1 } S σ μ a:=⟨fun d=>(hs.fr d).evo hs.hp zi (.refl _ _),hs.hp.of_same (w':=w.drew) rfl rfl rfl ⟨rfl,Nat.le_succ _⟩,hs.df,hs.sz⟩
  have main:wpAnyIn (Fr ro) 0 P .any ops Q (R.length+L.length) (Array.replicate ops.size false) a { w with drawn:=w.drawn+1 }:=by
    refine Jyi hcall (ops:=ops) (nt:=nt) (Q:=Q) (ro:=ro) hin R.length (R:=R) L.length rfl (by simp) (fun p hp=>by
      obtain ⟨cm,o,h1,h2⟩:=hc p hp
      exact ⟨cm,o,p.2,h1,h2,fun _ _ h=>h⟩) (fun k hk=>⟨fun _=>hall k hk,fun _=>by simp [hk]⟩) (fun i hi p hp=>?_) p1 p2 (fun x hx=>((hall x hx.1).elim hx.2.1 hx.2.2).elim) hw he fun l' a' w' S' μ' s1 s2 q0 q1 q2 q3=>Jwm hin hos s1 s2 hndR d6 r1 r2 (hQ _ _ _ _ q0 q1 (zi.trans q2) q3)
    have:=Ae.1 (Ae.1 d8 i hi) p hp
    simp only [Ac,Aw] at this
    have hne:p.1≠i:=hdis p.1 (Bc.2 ⟨p,hp,rfl⟩) i hi
    refine ⟨?_,this.1,hne⟩
    exact (Jut ops.size [i] (fun k hk=>.inl (List.mem_singleton.1 hk)) p.1 (Ax.1 this.2)).resolve_left hne
  rw [Nat.add_comm,d2] at main
  exact wpIn_region_any hm main
end
end Go.Vv
