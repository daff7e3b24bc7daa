/- Regions in order of the typed evaluator; calls that are entered in place. Conditions: none. -/
import Derived.Test.YtmfagdfkpjgeiaaGreatDB
set_option linter.unusedVariables false
set_option linter.unusedSimpArgs false
namespace Go.Dn
open Go Go.Vv
open _root_.Array renaming getD_eq_getD_getElem? -> Aa, getElem?_eq_some_iff -> Ag, getElem?_eq_getElem -> Ah, getElem?_append_right -> Ak
open List renaming all_eq_true -> Ab, mem_of_getElem? -> Ac, getElem?_map -> Ad, mem_map -> Ae, mem_singleton -> Ai, eq_nil_of_length_eq_zero -> Aj
open Prod.mk renaming injEq -> Af
open Bool renaming and_eq_true -> Am
open Nat renaming ble -> Ao, eq_of_beq_eq_true -> Ap, le_refl -> Aq
def HdAt(P:Program)(fs:List Fm)(j:Nat)(h:Hd):Prop:=
 ∃pre fr post r,fs=pre++fr::post/\post.length=j/\fr.lo=some (j,r)/\r.state=.ready/\r.pending=none/\r.tmps=fr.act.tmps/\r.params.toList=h.ps/\Jag P fr.nt r.assign=some h.a/\Jag P fr.nt r.body=some h.b /\
  (∀t∈h.ps,t<fr.nt)/\h.ps.Nodup
def HsOK(P:Program)(hs:List (Nat×Hd))(fs:List Fm):Prop:=∀j h,look j hs=some h->HdAt P fs j h
def FsOK(fs:List Fm):Prop:=∀pre fr post,fs=pre++fr::post->∀j r,fr.lo=some (j,r)->j=post.length
theorem HsOK.push{P:Program}{hs:List (Nat×Hd)}{fs:List Fm}(h:HsOK P hs fs)(f:Fm):HsOK P hs (f::fs):=λj x hx=>by obtain ⟨pre,fr,post,r,e,rest⟩:=h j x hx;exact ⟨f::pre,fr,post,r,by rw [e];rfl,rest⟩
theorem FsOK.push{fs:List Fm}(h:FsOK fs){nt d:Nat}{a:Act}{lo:Option (Nat×Loop)}(hl:∀j r,lo=some (j,r)->j=fs.length):FsOK (⟨nt,a,lo,d⟩::fs):=by
 intro pre fr post e j r g;cases pre with
 | nil=>
  injection e with l f;subst l;subst f;exact hl j r g
 | cons p pre=>
  injection e with l f;exact h pre fr post f j r g
theorem FsOK.tail{f:Fm}{fs:List Fm}(h:FsOK (f::fs)):FsOK fs:=λpre fr post e=>h (f::pre) fr post (by rw [e];rfl)
def Jv4(P:Program)(hs:List (Nat×Hd))(inl:Inl):Prop:=
 ∀ {α:Type} {f:FuncId} {base:Nat} {vs:List (V Ty.T)} {s:S Ty.T} {k:V Ty.T->S Ty.T->Option α} {r:α},inl val f base vs s k=some r ->
  (Ao yB f=false->FnOK P f)/\∀ {d:Nat} {w:World} {S:Nat->Prop} {μ:Gh} {a0:Act} {fr:Fm} {fs:List Fm} {cargs:Array Value},RepF d w S s μ a0 (fr::fs)->HsOK P hs (fr::fs)->FsOK (fr::fs)->(∀v∈vs,okV s v)->cargs.size=vs.length ->
   (∀(i:Nat) (x:V Ty.T),vs[i]?=some x->Rep w S (encH s) μ (encV s x) (cargs.getD i undef))->∀ {R:Ending->World->Prop},
   fr.d=w.heap.size->(∀w' S' μ' v s' cv,RepF fr.nt w' S' s' μ' fr.act fs->okV s' v->Rep w' S' (encH s') μ' (encV s' v) cv->Evo w S (encH s) μ w' S' (encH s') μ'->k v s'=some r->R (.returned cv) w') ->
   (Ao yB f=false->Calls P f cargs w R) /\
   (∀j,f=yB+j->fr.lo=none->∃q,w.heap[μ.l j]?=some (.loop q)/\cargs.size=q.params.size/\RoundIn Fence.wide 0 P (μ.l j) q.fn ((q.params.zip cargs).foldl (λtmps (t,a)=>tmps.setIfInBounds t a) q.tmps) q.assign q.body w R)
section
variable {s:Dn.S Ty.T} {α:Type} {r:α}
theorem Jwi{s:Dn.S Ty.T}{g:Nat}{v:V Ty.T}(h:s.at g=v):(enc s).f g=encV s v:=by subst h;rfl
theorem Ju6{o:LOper}{run skip:S Ty.T->Option α}(hi:Inv s)(h:Js1 val s o run skip=some r) :
  (∃a,enc a=enc s/\On s a/\Inv a/\(∀g want,o.guard=some (g,want)->(enc s).f g=.bool want)/\run a=some r) \/
  (∃a g want,enc a=enc s/\On s a/\Inv a/\o.guard=some (g,want)/\((enc s).f g=.bool (!want)\/(enc s).f g=.tup [])/\skip a=some r):=by
 unfold Js1 at h;split at h
 ·rename_i f;exact .inl ⟨s,rfl,.refl s,hi,λg w e=>(by rw [f] at e;cases e),h⟩
 ·rename_i g want f;split at h
  ·rename_i b B;have l:(enc s).f g=.bool b:=Jwi B;split at h
   ·rename_i e;subst e;exact .inl ⟨s,rfl,.refl s,hi,λE w e=>(by rw [f] at e;injection e with e;injection e with m v;subst m;subst v;exact l),h⟩
   ·rename_i e;exact .inr ⟨s,g,want,rfl,.refl s,hi,f,.inl (by rw [l];cases b<;>cases want<;>simp_all),h⟩
  ·rename_i t A;have l:∀q:Bool,(t:Bool)=q->(enc s).f g=.bool q:=λq e=>by rw [Jwi A,<-e];rfl
   have run':∀q:Bool,(t:Bool)=q->want=q->run (s.put (some g) (.c (.kb q)))=some r ->
     ∃a,enc a=enc s/\On s a/\Inv a/\(∀g want,o.guard=some (g,want)->(enc s).f g=.bool want)/\run a=some r:=λq m v h=>
    ⟨_,Jd0 (l q m),.put s _ _,hi.put okKb _,λE w y=>(by rw [f] at y;injection y with y;injection y with G F;subst G;subst F;rw [l q m,v]),h⟩
   have skp:∀q:Bool,(t:Bool)=q->want=!q->skip (s.put (some g) (.c (.kb q)))=some r ->
     ∃a g want,enc a=enc s/\On s a/\Inv a/\o.guard=some (g,want)/\((enc s).f g=.bool (!want)\/(enc s).f g=.tup [])/\skip a=some r:=λq m v h=>
    ⟨_,g,want,Jd0 (l q m),.put s _ _,hi.put okKb _,f,.inl (by rw [l q m,v,Bool.not_not]),h⟩
   split at h
   ·rename_i d;rcases Jby h with ⟨e,h⟩|⟨e,h⟩
    ·exact .inl (run' true e d h)
    ·exact .inr (skp false e d h)
   ·rename_i d;have d:want=false:=by simpa using d
    rcases Jby h with ⟨e,h⟩|⟨e,h⟩
    ·exact .inr (skp true e d h)
    ·exact .inl (run' false e d h)
  ·rename_i A;exact .inr ⟨s,g,want,rfl,.refl s,hi,f,.inr (by rw [Jwi A];rfl),h⟩
  ·cases h
theorem RepF.alike{nt:Nat}{w:World}{S:Nat->Prop}{s d:Dn.S Ty.T}{μ:Gh}{a:Act}{fs:List Fm}(h:RepF nt w S s μ a fs)(e:enc d=enc s)(on:On s d)(hi:Inv d):RepF nt w S d μ a fs:=by have eh:encH d=encH s:=congrArg St.h e;refine h.step rfl (by rw [e];exact h.fr) on hi (by rw [eh];exact .refl) (by rw [eh];exact .refl _ _)
theorem _root_.Go.Vv.Rep.yld_inv{w:World}{S:Nat->Prop}{h:Heap}{μ:Gh}{j:Nat}{v:Value}(hr:Rep w S h μ (.yld j) v):v=.func (.yield (μ.l j)) #[] #[]:=by
 cases hr with
 | pure a=>cases a
 | yld=>rfl
theorem enter_of{P:Program}{nt:Nat}{ops:Array Oper}{w:World}{S:Nat->Prop}{μ:Gh}{a:Act}{o:Oper}{lo:LOper}{cx:Cx}{f:FuncId}{vs:List (V Ty.T)}(hs:RepS nt w S (enc s) μ a)(B:comp P [] nt ops o=some lo)(hi:Inv s)(h:inlF val cx s lo.op=some (f,vs)) :
  (∀v∈vs,okV s v)/\∃cargs:Array Value,cargs.size=vs.length/\(∀(i:Nat) (x:V Ty.T),vs[i]?=some x->Rep w S (encH s) μ (encV s x) (cargs.getD i undef)) /\
   (Ao yB f=false->FnOK P f->(execOp a.eval o).run P w=.ok (.enter f cargs) w)/\(Ao yB f=true->∃j,f=yB+j/\(execOp a.eval o).run P w=(Instr.yield (μ.l j) cargs).run P w):=by
 obtain ⟨lop,d,hl⟩:∃lop,zk P [] o.dst o.op=some lop/\lo.op=lop:=by
  unfold comp at B;cases J:zk P [] o.dst o.op with
  | none=>rw [J] at B;cases B
  | some lop=>
   rw [J] at B;simp only at B;refine ⟨lop,rfl,?_⟩;split at B
   ·split at B
    ·injection B with B;rw [<-B]
    ·split at B
     ·split at B
      ·injection B with B;rw [<-B]
      ·cases B
     ·cases B
   ·cases B
 rw [hl] at h;clear hl B;have evs:∀l:List LO,∀v∈l.map (ev val s),okV s v:=λl v E=>by obtain ⟨x,-,rfl⟩:=Ae.1 E;exact Jgy hi x
 have args:∀ {l:Array Operand} {m:List LO},cLOs l.toList=some m->(l.map a.eval).size=(m.map (ev val s)).length/\∀(i:Nat) (x:V Ty.T),(m.map (ev val s))[i]?=some x->Rep w S (encH s) μ (encV s x) ((l.map a.eval).getD i undef):=λ{l m} L=>by
  obtain ⟨H,K⟩:=Jdv hs L;refine ⟨by rw [H];simp,λi x hx=>?_⟩;rw [Ad] at hx;cases J:m[i]? with
  | none=>rw [J] at hx;cases hx
  | some y=>
   rw [J] at hx;injection hx with hx;subst hx;rw [<-Kc];exact K i _ (by rw [Ad,J];rfl)
 obtain ⟨dst,oop,oty,opos,oafter,ogd⟩:=o;simp only at d;unfold inlF at h;cases oop
 case call c=>
  obtain ⟨callee,cargs,argTypes⟩:=c;simp only [zk] at d;cases callee
  case value x=>
   cases x
   case func g=>
    simp only at d;split at d
    ·rename_i m L;have:Jow [] dst=.p:=rfl;rw [this] at d;injection d with d;subst d;simp only at h;split at h
     ·rename_i M;simp only [Am,Bool.not_eq_true'] at M;injection h with h;simp only [Af] at h;obtain ⟨rfl,rfl⟩:=h;obtain ⟨H,K⟩:=args L;refine ⟨evs m,_,H,K,λ_ N=>?_,λq=>(by rw [M.2] at q;cases q)⟩;simp [execOp,resolve,Act.eval,Deferred.ofValue,invoke,K4 N]
     ·cases h
    ·cases d
   case tmp x=>
    simp only at d;obtain ⟨m,L,rfl⟩:=X8 d;simp only at h;split at h
    ·rename_i g caps hx;split at h
     ·cases h
     rename_i A;have A:Ao yB g=false:=eq_false_of_ne_true A;injection h with h;simp only [Af] at h;obtain ⟨rfl,rfl⟩:=h;obtain ⟨H,K⟩:=args L;have E:Rep w S (encH s) μ (encV s (.c (.fn g caps))) (a.tmps.getD x undef):=by have:=hs.fr x;rw [show (enc s).f x=encV s (.c (.fn g caps)) by rw [<-hx];rfl] at this;exact this
     obtain ⟨cs,e,X,Z⟩:=E.fn_inv;simp only [List.length_map] at X;have okf:okC s (.fn g caps):=by have:=Jgy hi (.t x);rw [hx] at this;exact this _ (Ai.2 rfl)
     refine ⟨λv E=>?_,cargs.map a.eval++cs,by simp [<-X] at H ⊢;omega,λi y F=>?_,λ_ N=>?_,λq=>(by rw [A] at q;cases q)⟩
     ·rcases List.mem_append.1 E with E|E
      ·exact evs m v E
      ·obtain ⟨c,B,rfl⟩:=Ae.1 E;refine Qx λr hr=>?_;have:=Ai.1 hr;subst this;exact okf (c.1,c.2.1) (Ae.2 ⟨c,B,rfl⟩)
     ·by_cases O:i<(m.map (ev val s)).length
      ·rw [List.getElem?_append_left O] at F;have e:(cargs.map a.eval++cs).getD i undef=(cargs.map a.eval).getD i undef:=by simp only [Aa];rw [Array.getElem?_append_left (by omega)]
       rw [e];exact K i y F
      ·rw [List.getElem?_append_right (by omega)] at F;have e:(cargs.map a.eval++cs).getD i undef=cs.getD (i - (m.map (ev val s)).length) undef:=by simp only [Aa];rw [Ak (by omega),H]
       rw [e];rw [Ad] at F;cases J:caps[i - (m.map (ev val s)).length]? with
       | none=>rw [J] at F;cases F
       | some c=>
        rw [J] at F;injection F with F;subst F;exact Z _ _ (by rw [Ad,J];rfl)
     ·have G:a.eval (.tmp x)=.func (.func g) #[] cs:=e;simp [execOp,resolve,G,Deferred.ofValue,invoke,K4 N]
    ·rename_i j hx;injection h with h;simp only [Af] at h;obtain ⟨rfl,rfl⟩:=h;obtain ⟨H,K⟩:=args L;have E:Rep w S (encH s) μ (.yld j) (a.tmps.getD x undef):=by have:=hs.fr x;rw [show (enc s).f x=encV s (.c (.yl j)) by rw [<-hx];rfl] at this;exact this
     have G:a.eval (.tmp x)=.func (.yield (μ.l j)) #[] #[]:=E.yld_inv;refine ⟨evs m,_,H,K,λq=>?_,λ_=>⟨j,rfl,?_⟩⟩
     ·rw [Nat.ble_eq_true_of_le (Nat.le_add_right yB j)] at q;cases q
     ·simp [execOp,resolve,G,Deferred.ofValue,invoke]
    ·rename_i g t u hx;split at h
     ·cases h
     rename_i A;have A:Ao yB g=false:=eq_false_of_ne_true A;injection h with h;simp only [Af] at h;obtain ⟨rfl,rfl⟩:=h;obtain ⟨H,K⟩:=args L;have E:Rep w S (encH s) μ (.bfn g (t.cs u)) (a.tmps.getD x undef):=by have:=hs.fr x;rw [show (enc s).f x=encV s (.c (.lf (.bf g t) u)) by rw [<-hx];rfl] at this;exact this
     obtain ⟨cs,e,Q⟩:=E.bfn_inv;refine ⟨λv E=>?_,#[.agg cs]++cargs.map a.eval,by simp at H ⊢;omega,λi y F=>?_,λ_ N=>?_,λq=>(by rw [A] at q;cases q)⟩
     ·rcases List.mem_cons.1 E with rfl|E
      ·exact Jbw s t u
      ·exact evs m v E
     ·cases i with
      | zero=>
       simp only [List.getElem?_cons_zero,Option.some.injEq] at F;subst F;have R:(#[Value.agg cs]++cargs.map a.eval).getD 0 undef=.agg cs:=by simp [Aa,Array.getElem?_append]
       rw [R];have Y:encV s (V.ag (expl val t (val.ub u)))=.agg (t.cs u):=congrArg AV.agg (Qs s t (val.ub u));rw [Y];exact Q
      | succ i=>
       simp only [List.getElem?_cons_succ] at F;have R:(#[Value.agg cs]++cargs.map a.eval).getD (i+1) undef=(cargs.map a.eval).getD i undef:=by simp only [Aa];rw [Ak (by simp)];simp
       rw [R];exact K i y F
     ·have G:a.eval (.tmp x)=.func (.func g) #[.agg cs] #[]:=e;simp [execOp,resolve,G,Deferred.ofValue,invoke,K4 N]
    ·cases h
   all_goals cases d
  case builtin b=>
   exfalso;cases b<;>simp only at d<;>repeat' split at d
   all_goals first|(cases d;done)|(injection d with d;subst d;cases h;done)|(simp at d;done)|skip
  all_goals cases d
 all_goals
  exfalso;simp only [zk] at d
  repeat' split at d
  all_goals first|(cases d;done)|contradiction|(injection d with d;subst d;cases h;done)|(obtain ⟨m,L,rfl⟩:=X8 d;cases h;done)|skip
end
def vOf:AV->Value
 | .int k n=>.int k n
 | .bool b=>.bool b
 | .str x=>.string x
 | _=>undef
theorem Jql{v:AV}(h:Scl v){w:World}{S:Nat->Prop}:RepP w S v (vOf v)/\(vOf v).oneCell'=true:=by
 rcases h with ⟨b,rfl⟩|⟨k,n,rfl⟩|⟨x,rfl⟩
 ·exact ⟨.bool b,rfl⟩
 ·exact ⟨.int k n,rfl⟩
 ·exact ⟨.str x,rfl⟩
theorem vOf_eq{v:AV}(h:Scl v){w:World}{S:Nat->Prop}{a:Heap}{μ:Gh}{c:Value}(hr:Rep w S a μ v c):c=vOf v:=by
 rcases h with ⟨b,rfl⟩|⟨k,n,rfl⟩|⟨x,rfl⟩
 ·exact hr.bool_inv
 ·exact hr.int_inv
 ·exact hr.str_inv
def SCt.j(x:SCt):Array Value:=if x.two then #[.func (.func x.g) #[] #[]] else #[]
structure J2e (w w':World) (b off n:Nat) (cs:Array Value) (new:List AV):Prop where
 os:w'.os=w.os
 tape:w'.tape=w.tape
 output:w'.output=w.output/\w.drawn<=w'.drawn
 size:w.heap.size<=w'.heap.size
 keep:∀k,k<w.heap.size->k≠b->w'.heap[k]?=w.heap[k]?
 row:∀el,w.heap[b]?=some (.cells cs el (0,0))->∃cs':Array Value,w'.heap[b]?=some (.cells cs' el (0,0))/\cs'.size=cs.size/\(∀(i:Nat) (v:AV),new[i]?=some v->cs'.getD (off+i) undef=vOf v)
structure Jfe (P:Program) (x:SCt):Prop where
 fn:FnOK P x.id
 id:x.id<yB
 flat:x.t.flat=true
 len:∀l r,x.fn l=some r->r.length=l.length
 run:∀l r,x.fn l=some r->l≠[]->∀(w:World) (b off cap:Nat) (cs:Array Value) (el:TypeId),w.heap[b]?=some (.cells cs el (0,0))->off+l.length * x.t.sz<=cs.size->l.length<=cap->(∀(i:Nat) (v:AV),(l.flatMap x.t.cs)[i]?=some v->cs.getD (off+i) undef=vOf v) ->
  Calls P x.id (#[.slice (some ⟨b,off,none⟩) l.length cap]++x.j) w λe w'=>e=.returned (.tuple #[])/\J2e w w' b off (l.length * x.t.sz) cs (r.flatMap x.t.cs)
 emp:∀r,x.fn []=some r->∀(w:World) (A:Option Addr),Calls P x.id (#[.slice A 0 0]++x.j) w λe w'=>e=.returned (.tuple #[])/\Old w w'
 nilq:∀(w:World),Calls P x.id (#[.slice none 0 0]++x.j) w λe w'=>e=.returned (.tuple #[])/\Old w w'
def soL:List SCt->FuncId->FuncId->Option SCt
 | [],_,_=>none
 | x::r,f,g=>match Nat.beq x.id f,Nat.beq x.g g with|true,true=>some x|_,_=>soL r f g
theorem soL_ok{P:Program}{so:List SCt}(h:∀x∈so,Jfe P x):∀f g x,soL so f g=some x->x.id=f/\x.g=g/\Jfe P x:=by
 induction so with
 | nil=>intro f g x hx;cases hx
 | cons y r a=>
  intro f g x hx;simp only [soL] at hx;split at hx
  ·rename_i l d;injection hx with hx;subst hx;exact ⟨Ap l,Ap d,h y List.mem_cons_self⟩
  ·exact a (λx hx=>h x (List.mem_cons_of_mem _ hx)) f g x hx
def SoOK(P:Program)(cx:Cx):Prop:=∀f g x,cx.so f g=some x->x.id=f/\x.g=g/\Jfe P x
section
variable {nt:Nat} {w:World} {S:Nat->Prop} {s:Dn.S Ty.T} {μ:Gh} {a:Act} {fs:List Fm}
theorem Je7{w':World}{h:Heap}(o:Old w w'):Evo w S h μ w' S h μ:=
 ⟨o.os,o.tape,o.output,o.size,λb d _=>o.keep b d,λb cs el z a=>⟨cs,(o.keep b (Ag.1 a).1).trans a,rfl⟩,λ_ h=>h,λ_ h=>.inl h,λ_ h=>.inl h,rfl⟩
theorem RepF.old{w':World}(hF:RepF nt w S s μ a fs)(o:Old w w'):RepF nt w' S s μ a fs:=by have ev:=Je7 (S:=S) (μ:=μ) (h:=encH s) o;have l:RepH w' S (encH s) μ:=⟨λg ob f=>(hF.fr.hp.ob g ob f).evo hF.fr.hp ev (.refl _ _) λhl=>o.keep _ ((hF.fr.hp.ob g ob f).lt hl),hF.fr.hp.inj,hF.fr.hp.own,λb m=>Nat.lt_of_lt_of_le (hF.fr.hp.lt b m) o.size⟩;exact hF.step rfl ⟨λd=>(hF.fr.fr d).evo hF.fr.hp ev (.refl _ _),l,hF.fr.hp.marks hF.fr.df ev,hF.fr.sz⟩ (.refl s) hF.iv ev (.refl _ _)
theorem sort_row{P:Program}{x:SCt}(hx:Jfe P x)(hF:RepF nt w S s μ a fs){g v e:Nat}{el:TypeId}{l r:List x.t.T}(ho:look g s.ob=some (.row v e el x.t l [] none false))(he:e=x.t.sz)(he0:0<e)(hr:x.fn l=some r){cv:Value}
  (hv:Rep w S (encH s) μ (encC s (.own g v)) cv) {R:Ending->World->Prop} (hR:∀w',RepF nt w' S (s.obj g (.row v e el x.t r [] none false)) μ a fs->Evo w S (encH s) μ w' S (encH (s.obj g (.row v e el x.t r [] none false))) μ->R (.returned (.tuple #[])) w') :
  Calls P x.id (#[cv]++x.j) w R:=by
 have H:=hx.len l r hr;have st:Stab s (s.obj g (.row v e el x.t r [] none false)):=Zp λo0 h0=>by rw [ho] at h0;injection h0 with h0;subst h0;exact ⟨rfl,by simp only [Ob.lenO];show List.length (α:=x.t.T) l+_=List.length (α:=x.t.T) r+_;rw [H]⟩
 have hlk:∀g',look g' (s.obj g (.row v e el x.t r [] none false)).ob=if g=g' then some (.row v e el x.t r [] none false) else look g' s.ob:=λg'=>K7 g g' _;have iv:=Ja7 hF.iv st hlk (λc hc=>by cases hc) (hF.iv.free ho);have Y:=ji hF.iv st hlk;have he1:encO (s.obj g (.row v e el x.t r [] none false)) (.row v e el x.t r [] none false)=.arr v e el (r.flatMap x.t.cs) false:=by simp [encO,Xv]
 rw [he1] at Y;have Q:encH s g=some (.arr v e el (l.flatMap x.t.cs) false):=by rw [Jj ho];simp [encO,Xv]
 have hl0:Qo s g v=l.length:=by simp [Qo,ho,Ob.ver,Ob.lenO]
 simp only [encC,hl0] at hv;have hnl:(l.flatMap x.t.cs=[]↔r.flatMap x.t.cs=[]):=X6 (by rw [J5,J5,H]);have vv:EvoV (encH s) μ (encH (s.obj g (.row v e el x.t r [] none false))) μ:=by
  intro B E f;rw [Y];by_cases F:B=g
  ·subst F;rw [Q] at f;injection f with f;subst f;exact ⟨_,Jf _ _ _,Aq _,λ_=>⟨⟨rfl,rfl⟩,rfl,rfl,hnl⟩⟩
  ·exact ⟨E,by rw [Jc _ _ _ _ F];exact f,Aq _,λ_=>⟨⟨rfl,rfl⟩,.refl E⟩⟩
 have own_back:∀b,Own (encH (s.obj g (.row v e el x.t r [] none false))) μ b->Own (encH s) μ b:=λb ⟨B,E,f,hz,hl,F⟩=>by
  rw [Y] at f;by_cases X:B=g
  ·subst X;rw [Jf] at f;injection f with f;subst f;exact ⟨B,_,Q,rfl,Kx.2 λq=>Kx.1 hl (hnl.1 q),F⟩
  ·rw [Jc _ _ _ _ X] at f;exact ⟨B,E,f,hz,hl,F⟩
 cases hr0:hv with
 | pure hp=>cases hp
 | arr _ _ _ _ _ E K hv1 h11 hr1=>
  rw [Q] at K;injection K with K;subst K;obtain ⟨esz,el',cells,fz,eo,hk⟩:=hr1 rfl;injection eo with eo1 eo2 eo3 eo4 eo5;subst eo2;subst eo4;by_cases G:l.flatMap x.t.cs=[]
  ·-- nothing to sort
   obtain ⟨-,hl00,A,rfl⟩:=hk.1 G;have L:l=[]:=Aj hl00;subst L;have hrn:r=[]:=Aj (by rw [H];rfl);subst hrn;refine (hx.emp [] hr w A).mono λe w' ⟨F,o⟩=>?_;subst F;have M:=hF.old o;have eh:encH (s.obj g (.row v e el x.t ([]:List x.t.T) [] none false))=encH s:=by
    rw [Y];funext B;by_cases F:B=g
    ·subst F;rw [Jf,Q]
    ·rw [Jc _ _ _ _ F]
   refine hR w' (M.step rfl ⟨λd=>?_,by show RepH w' S (encH _) μ;rw [eh];exact M.fr.hp,M.fr.df,M.fr.sz⟩ st.on iv (by rw [eh];exact .refl) (by rw [eh];exact .refl _ _)) (by rw [eh];exact Je7 o);rw [zi hF.iv st];show Rep w' S (encH _) μ _ _;rw [eh];exact M.fr.fr d
  ·obtain ⟨A,cap,cs0,el0,z0,rfl,hcap,hb0,hsz0,hA⟩:=hk.2 G;obtain ⟨cs,hb,hsz,hold,-⟩:=hF.fr.hp.ob g _ Q G;have L:l≠[]:=λq=>by subst q;exact G rfl
   have hlp:0<l.length:=List.length_pos_iff.2 L;have hA:=hA (by omega);rw [Nat.zero_mul,Nat.add_zero] at hA;subst hA;have hcl:(l.flatMap x.t.cs).length=l.length * x.t.sz:=J5 l;have scl:∀ {m:List x.t.T} {i:Nat} {y:AV},(m.flatMap x.t.cs)[i]?=some y->Scl y:=λ{m i y} N=>by obtain ⟨u,_,hu⟩:=List.mem_flatMap.1 (Ac N);exact Jd9 hx.flat u y hu
   refine (hx.run l r hr L w (μ.b g) (μ.o g) cap cs el hb (by omega) hcap.1 λi y N=>vOf_eq (scl N) (hold i y N).1).mono λX w' ⟨F,rb⟩=>?_;subst F;obtain ⟨cs',hb',O,hnew⟩:=rb.row el hb;have hown:Own (encH s) μ (μ.b g):=⟨g,_,Q,rfl,Kx.2 G,rfl⟩;have ev:Evo w S (encH s) μ w' S (encH (s.obj g (.row v e el x.t r [] none false))) μ:=by
    refine ⟨rb.os,rb.tape,rb.output,rb.size,λb Z hn=>rb.keep b Z λq=>hn (q▸hown),λb c1 el1 z1 J=>?_,λ_ h=>h,λ_ h=>.inl h,λb ho=>.inl (own_back b ho),rfl⟩;by_cases hbe:b=μ.b g
    ·subst hbe;rw [hb] at J;injection J with J;injection J with q1 q2 q3;subst q1;subst q2;subst q3;exact ⟨cs',hb',O⟩
    ·exact ⟨c1,(rb.keep b (Ag.1 J).1 hbe).trans J,rfl⟩
   have hp':RepH w' S (encH (s.obj g (.row v e el x.t r [] none false))) μ:=by
    refine ⟨λB E f=>?_,λB g2 E o2 f M l1 l2 F=>?_,λB E f hz hl hs=>?_,λb Z=>Nat.lt_of_lt_of_le (hF.fr.hp.lt b Z) rb.size⟩
    ·by_cases F:B=g
     ·subst F;rw [Y,Jf] at f;injection f with f;subst f;refine λ_=>⟨cs',hb',by rw [O,J5,H,<-J5];exact hsz,λi y N=>?_,λq=>by cases q⟩;rw [hnew i y N];exact ⟨.pure (Jql (scl N)).1,(Jql (w:=w) (S:=S) (scl N)).2⟩
     ·have h1':encH s B=some E:=by rw [Y,Jc _ _ _ _ F] at f;exact f
      exact (hF.fr.hp.ob B E h1').evo hF.fr.hp ev vv λhl=>rb.keep _ ((hF.fr.hp.ob B E h1').lt hl) λq=>F (hF.fr.hp.inj B g _ _ h1' Q hl (Kx.2 G) q)
    ·have back:∀B E,encH (s.obj g (.row v e el x.t r [] none false)) B=some E->E.live=true->∃o2,encH s B=some o2/\o2.live=true:=λB E f hl=>by
      rw [Y] at f;by_cases X:B=g
      ·subst X;exact ⟨_,Q,Kx.2 G⟩
      ·rw [Jc _ _ _ _ X] at f;exact ⟨E,f,hl⟩
     obtain ⟨p1,q1,r1⟩:=back B E f l1;obtain ⟨p2,q2,r2⟩:=back g2 o2 M l2;exact hF.fr.hp.inj B g2 p1 p2 q1 q2 r1 r2 F
    ·obtain ⟨g2,o2,M,hz2,hl2,X⟩:=own_back (μ.b B) ⟨B,E,f,hz,hl,rfl⟩;exact hF.fr.hp.own g2 o2 M hz2 hl2 (X▸hs)
   refine hR w' (hF.step rfl ⟨λd=>?_,hp',hF.fr.hp.marks hF.fr.df ev,hF.fr.sz⟩ st.on iv ev vv) ev;rw [zi hF.iv st];exact (hF.fr.fr d).evo hF.fr.hp ev vv
theorem J4u{P:Program}{ops:Array Oper}{o:Oper}{lo:LOper}(a:comp P [] nt ops o=some lo):zk P [] o.dst o.op=some lo.op:=by
 unfold comp at a;cases d:zk P [] o.dst o.op with
 | none=>rw [d] at a;cases a
 | some lop=>
  rw [d] at a;simp only at a;split at a
  ·split at a
   ·injection a with a;rw [<-a]
   ·split at a
    ·split at a
     ·injection a with a;rw [<-a]
     ·cases a
    ·cases a
  ·cases a
theorem Jxj{P:Program}{ops:Array Oper}{o:Oper}{lo:LOper}{f:FuncId}{m:List LO}(v:comp P [] nt ops o=some lo)(hl:lo.op=.callp f m):∃args:Array Operand,cLOs args.toList=some m/\∀ {w:World},FnOK P f->(execOp a.eval o).run P w=.ok (.enter f (args.map a.eval)) w:=by
 have d:=J4u v;rw [hl] at d;obtain ⟨dst,oop,oty,opos,oafter,ogd⟩:=o;simp only at d;cases oop
 case call c=>
  obtain ⟨callee,cargs,argTypes⟩:=c;simp only [zk] at d;cases callee
  case value x=>
   cases x
   case func g=>
    simp only at d;split at d
    ·rename_i l h;have:Jow [] dst=.p:=rfl;rw [this] at d;injection d with d;injection d with A y;subst A;subst y;exact ⟨cargs,h,λ{w} r=>by simp [execOp,resolve,Act.eval,Deferred.ofValue,invoke,K4 r]⟩
    ·cases d
   case tmp x=>
    simp only at d;obtain ⟨l,h,e⟩:=X8 d;cases e
   all_goals cases d
  case builtin b=>
   exfalso;cases b<;>simp only at d<;>repeat' split at d
   all_goals first|(cases d;done)|(injection d with d;cases d;done)|(simp at d;done)|skip
  all_goals cases d
 all_goals
  exfalso;simp only [zk] at d
  repeat' split at d
  all_goals first|(cases d;done)|contradiction|(injection d with d;cases d;done)|(obtain ⟨l,h,e⟩:=X8 d;cases e;done)|skip
theorem srt_of{P:Program}{ops:Array Oper}{o:Oper}{lo:LOper}{cx:Cx}{c:SCt}{v:V Ty.T}(E:SoOK P cx)(hs:RepS nt w S (enc s) μ a)(M:comp P [] nt ops o=some lo)(hi:Inv s)(d:srtF val cx s lo.op=some (c,v)) :
  ∃cv,Jfe P c/\Rep w S (encH s) μ (encV s v) cv/\(execOp a.eval o).run P w=.ok (.enter c.id (#[cv]++c.j)) w:=by
 unfold srtF at d;split at d
 ·rename_i f x y hl;split at d
  ·rename_i g O;cases h:cx.so f g with
   | none=>rw [h] at d;cases d
   | some c'=>
    rw [h] at d;simp only [Option.bind_some] at d;split at d
    ·rename_i F;injection d with d;simp only [Af] at d;obtain ⟨rfl,rfl⟩:=d;obtain ⟨L,N,sg⟩:=E f g _ h;obtain ⟨args,J,l⟩:=Jxj (a:=a) M hl;obtain ⟨H,G⟩:=Jdv hs J;have B:=G 0 _ rfl;have A:=G 1 _ rfl;rw [Kc] at B A;rw [O] at A;have A:Rep w S (encH s) μ (.fn g []) ((args.map a.eval).getD 1 undef):=A;obtain ⟨cs,X,R,-⟩:=A.fn_inv;have Q:cs=#[]:=Array.eq_empty_of_size_eq_zero R.symm;have m:(args.map a.eval).size=2:=by rw [H];rfl
     refine ⟨(args.map a.eval).getD 0 undef,sg,B,?_⟩;rw [<-L] at l;rw [l sg.fn]
     congr 2
     rw [show c'.j=#[.func (.func c'.g) #[] #[]] by simp [SCt.j,F],N];apply Array.ext
     ·rw [m];rfl
     ·intro i r K;rw [m] at r
      match i,r with
      | 0,_=>
       have:(args.map a.eval)[0]=(args.map a.eval).getD 0 undef:=by rw [Aa,Ah (by omega:0<(args.map a.eval).size)];rfl
       rw [this];rfl
      | 1,_=>
       have:(args.map a.eval)[1]=(args.map a.eval).getD 1 undef:=by rw [Aa,Ah (by omega:1<(args.map a.eval).size)];rfl
       rw [this,X,Q];rfl
    ·cases d
  ·cases d
 ·rename_i f x hl;cases h:cx.so f 0 with
  | none=>rw [h] at d;cases d
  | some c'=>
   rw [h] at d;simp only [Option.bind_some] at d;split at d
   ·cases d
   ·rename_i F;have F:c'.two=false:=by simpa using F
    injection d with d;simp only [Af] at d;obtain ⟨rfl,rfl⟩:=d;obtain ⟨L,N,sg⟩:=E f 0 _ h;obtain ⟨args,J,l⟩:=Jxj (a:=a) M hl;obtain ⟨H,G⟩:=Jdv hs J;have B:=G 0 _ rfl;rw [Kc] at B;have m:(args.map a.eval).size=1:=by rw [H];rfl
    refine ⟨(args.map a.eval).getD 0 undef,sg,B,?_⟩;rw [<-L] at l;rw [l sg.fn]
    congr 2
    rw [show c'.j=#[] by simp [SCt.j,F]];apply Array.ext
    ·rw [m];rfl
    ·intro i r K;rw [m] at r;have:i=0:=by omega
     subst this;have:(args.map a.eval)[0]=(args.map a.eval).getD 0 undef:=by rw [Aa,Ah (by omega:0<(args.map a.eval).size)];rfl
     rw [this];rfl
 ·cases d
theorem nil_of{P:Program}{ro:Option Nat}{ops:Array Oper}{o:Oper}{lo:LOper}{ne:Bool}{m:Ty.T I}(hs:RepS nt w S (enc s) μ a)(Z:comp P [] nt ops o=some lo)(v:nilOf val s lo.op=some (ne,m)) :
  ∃g:Bool,(g=true->m=(0:Int))/\∀ {K:Act->World->Prop} {Q:Exit->Act->World->Prop},K (a.put o.dst (.bool (if ne then !g else g))) w->wpO ro P o a w K Q:=by
 unfold nilOf at v;split at v
 ·rename_i ne' x hl;split at v
  ·rename_i t l hx;injection v with v;simp only [Af] at v;obtain ⟨rfl,rfl⟩:=v;have f:=J4u Z;rw [hl] at f;obtain ⟨dst,oop,oty,opos,oafter,ogd⟩:=o;simp only at f;have key:∃(op:BinOp) (r e:TypeId) (X Y:Operand) (yt:TypeId),oop=.binOp op r X Y yt/\P.underlying r=some (.slice e)/\cLO X=some x/\cLO Y=some (.c .nils)/\op=(if ne' then .neq else .eql):=by
    cases oop
    case binOp op r X Y yt=>
     simp only [zk] at f;split at f
     ·split at f
      ·split at f<;>first|(injection f with f;cases f;done)|cases f
      ·split at f<;>first|(injection f with f;cases f;done)|cases f
      ·injection f with f;cases f
     ·rename_i e x' B F E;split at f
      ·injection f with f;injection f with H G;subst H;subst G;exact ⟨_,_,e,X,Y,yt,rfl,B,F,E,rfl⟩
      ·injection f with f;injection f with H G;subst H;subst G;exact ⟨_,_,e,X,Y,yt,rfl,B,F,E,rfl⟩
      ·cases f
     ·split at f
      ·split at f<;>first|(injection f with f;cases f;done)|cases f
      ·split at f<;>first|(injection f with f;cases f;done)|cases f
      ·cases f
     ·cases f
    all_goals
     exfalso;simp only [zk] at f
     repeat' split at f
     all_goals first|(cases f;done)|contradiction|(injection f with f;cases f;done)|(obtain ⟨m',hm,e⟩:=X8 f;cases e;done)|skip
   obtain ⟨op,r,e,X,Y,yt,rfl,B,F,E,rfl⟩:=key;have hX:=Jp hs F;rw [Kc,hx] at hX;have hX:Rep w S (encH s) μ (.lst (List.length (α:=t.T) l) (List.flatMap (α:=t.T) t.cs l)) (a.eval X):=hX;have hY:=Jp hs E;have hY:a.eval Y=.slice none 0 0:=Rep.nils_inv (h:=(enc s).h) (by simpa [St.ev] using hY);have kk:∃g:Bool,(g=true/\a.eval X=.slice none 0 0/\List.length (α:=t.T) l=0)\/(g=false/\∃A n c,a.eval X=.slice (some A) n c):=by
    generalize hL:List.length (α:=t.T) l=L at hX;generalize List.flatMap (α:=t.T) t.cs l=C at hX;generalize a.eval X=V at hX;cases hX with
    | pure O=>
     cases O with
     | lst0=>exact ⟨true,.inl ⟨rfl,rfl,rfl⟩⟩
     | lst n l a' cap cv=>exact ⟨false,.inr ⟨rfl,a',_,cap,rfl⟩⟩
   obtain ⟨g,M⟩:=kk;have J:(Op.equal r (a.eval X) (.slice none 0 0)).run P w=.ok g w:=by
    have hd:∀d,(Op.equalIn (d+1) r (a.eval X) (.slice none 0 0)).run P w=.ok g w:=λd=>by
     rcases M with ⟨rfl,y,-⟩|⟨rfl,A,n,c,y⟩
     ·rw [y];simp [Op.equalIn,run_underlying B]
     ·rw [y];simp [Op.equalIn,run_underlying B]
    exact hd 9999
   have R:∃q n c,a.eval X=.slice q n c:=by
    rcases M with ⟨rfl,y,-⟩|⟨rfl,A,n,c,y⟩
    ·exact ⟨_,_,_,y⟩
    ·exact ⟨_,_,_,y⟩
   obtain ⟨q,n,c,y⟩:=R;refine ⟨g,λh=>?_,λ{K Q} hK=>?_⟩
   ·rcases M with ⟨-,-,N⟩|⟨N,-⟩
    ·show ((List.length (α:=t.T) l:Nat):Int)=0;omega
    ·rw [N] at h;cases h
   ·refine Vv.wp_value (cv:=.bool (if ne' then !g else g)) (w':=w) ?_ hK;have e3:∀op,execOp a.eval { dst:=dst,op:=.binOp op r X Y yt,type:=oty,pos:=opos,after:=oafter,guard:=ogd }=(do pure (.value (<-(do eqGuard op r X Y (a.eval X) (a.eval Y);binOp op r (a.eval X) (a.eval Y))))):=λop=>by simp only [execOp]<;>rfl
    rw [e3,hY];rw [y] at J ⊢;cases ne' with
    | true=>simp [eqGuard,binOp,Sem.run_bind,J,Result.andThen]
    | false=>simp [eqGuard,binOp,Sem.run_bind,J,Result.andThen]
  ·cases v
 ·cases v
end
section
variable {s s':Dn.S Ty.T}
theorem Jv9(a:s'.ob=s.ob)(d:s'.ln=s.ln):encC s'=encC s:=by funext c;cases c<;>simp only [encC,Qo,a,d]
theorem Jlo(a:s'.ob=s.ob)(d:s'.ln=s.ln)(v:V Ty.T):encV s' v=encV s v:=by cases v<;>simp only [encV,Jv9 a d]
theorem Zv(a:s'.ob=s.ob)(d:s'.ln=s.ln)(f:s'.mo=s.mo:=by rfl):encH s'=encH s:=by
 funext g;simp only [encH,a,f];cases look g s.ob with
 | none=>rfl
 | some o=>cases o<;>simp only [Option.map_some,encO,Jv9 a d]
theorem J3y(s:Dn.S Ty.T):s.pop.mo=s.mo:=by unfold Dn.S.pop;split<;>rfl
def act0:Act:={ tmps:=#[],defers:=[] }
theorem rep0{w:World}{S:Nat->Prop}{h:Heap}{μ:Gh}(a:RepH w S h μ):RepS 0 w S ⟨λ_=>.any,h⟩ μ act0:=⟨λ_=>.any _,a,.nil,Nat.zero_le _⟩
theorem J4z{lo:List (List (Nat×V Ty.T))}{ob:List (Nat×Ob Ty.T)}{ln:List (Nat×Nat×Ty.T I)}{mo:Option (Mo Ty.T)}:enc (⟨[],lo,ob,ln,mo⟩:Dn.S Ty.T)=⟨λ_=>.any,encH ⟨[],lo,ob,ln,mo⟩⟩:=rfl
theorem Jqb{P:Program}{nt:Nat}{ops:Array Oper}{o:Oper}{lo:LOper}(a:comp P [] nt ops o=some lo):Jzj nt lo.dst=true:=by
 unfold comp at a;split at a
 ·cases a
 ·split at a
  ·rename_i hd;split at a
   ·injection a with a;subst a;exact hd
   ·split at a
    ·split at a
     ·injection a with a;subst a;exact hd
     ·cases a
    ·cases a
  ·cases a
theorem RepF.put{nt:Nat}{w:World}{S:Nat->Prop}{s:Dn.S Ty.T}{μ:Gh}{a:Act}{fs:List Fm}(h:RepF nt w S s μ a fs){d:Option Nat}(hd:Jzj nt d=true){v:V Ty.T}{cv:Value}(ok:okV s v)(hr:Rep w S (encH s) μ (encV s v) cv) :
  RepF nt w S (s.put d v) μ (a.put d cv) fs:=by have eh:=Jdm s d v;refine h.step (by cases d<;>rfl) ?_ (.put s d v) (h.iv.put ok d) (by rw [eh];exact .refl) (by rw [eh];exact .refl _ _);rw [Jru];exact Jmb h.fr hd hr h.fr.hp .refl (.refl _ _)
end
theorem to_in{ro:Option Nat}{P:Program}{nt:Nat}{cm:List (Nat×CM)}{ops:Array Oper}{o:Oper}{lo:LOper}{a:Act}{w:World}{K:Act->World->Prop}{Q:Exit->Act->World->Prop}(g:comp P cm nt ops o=some lo)
  (h:if Region.wanted o (yielded ops a.tmps)=true then wpO ro P o a w K Q else K (a.put o.dst undef) w) :
  if Region.wanted o (yielded ops a.tmps)=true then o.wpIn (Fr ro) 0 P a w K Q else (∀f,o.about P w a.eval=some f->(Fr ro).fn f)/\K (a.put o.dst undef) w:=by
 by_cases d:Region.wanted o (yielded ops a.tmps)=true
 ·rw [if_pos d] at h ⊢;exact Jjg (Jom g) h
 ·rw [if_neg d] at h ⊢;exact ⟨λ_ _=>trivial,h⟩
theorem round_fr{ro:Option Nat}{n:Nat}{P:Program}{l:Nat}{f:FuncId}{tmps:Array Value}{x y:Code}{w:World}{R:Ending->World->Prop}(h:RoundIn Fence.wide n P l f tmps x y w R):RoundIn (Fr ro) n P l f tmps x y w R:=by
 cases ro with
 | none=>exact h
 | some l=>exact h
theorem Jjp{α:Type}{c:Prop}[Decidable c]{x:Option α}{y:α}(h:(if c then x else val.no)=some y):c/\x=some y:=by
 split at h
 ·exact ⟨by assumption,h⟩
 ·cases h
theorem nlv_some{n:Int}{α:Type}{k:Bool->Option α}{r:α}{b:Bool}(d:b=true->n=0)(h:val.nq n k=some r):k b=some r:=by
 have h:nlv n k=some r:=h;unfold nlv at h;split at h
 ·split at h
  ·rename_i e;cases b with
   | false=>exact h
   | true=>rw [e];exact h
  ·cases h
 ·rename_i a;cases b with
  | false=>exact h
  | true=>exact (a (d rfl)).elim
theorem sort_den{P:Program}{nt:Nat}{w:World}{S:Nat->Prop}{s:Dn.S Ty.T}{μ:Gh}{a:Act}{fs:List Fm}{c:SCt}(hx:Jfe P c)(hF:RepF nt w S s μ a fs){v:V Ty.T}{cv:Value}(H:Rep w S (encH s) μ (encV s v) cv){α:Type}{r:α}{k:Dn.S Ty.T->Option α}
  (hd:sortD val c s v k=some r) {R:Ending->World->Prop} (hR:∀w' s',RepF nt w' S s' μ a fs->Evo w S (encH s) μ w' S (encH s') μ->k s'=some r->R (.returned (.tuple #[])) w'):Calls P c.id (#[cv]++c.j) w R:=by
 unfold sortD at hd;split at hd
 ·rename_i g ver;split at hd
  ·rename_i J e el t l M;obtain ⟨⟨F,Q,E⟩,O⟩:=Jjp hd;subst F;subst Q;obtain ⟨f,B,N⟩:=Jg O;obtain ⟨et,A⟩:=Qy B;injection et with et;subst et;have y:f=l:=A;subst y;have d:Jed (c.fn f) (λG=>k (s.obj g (.row J c.t.sz el c.t G [] none false)))=some r:=N;cases m:c.fn f with
   | none=>rw [m] at d;cases d
   | some G=>
    rw [m] at d;exact sort_row hx hF M rfl E m H λw' L K=>hR w' _ L K d
  ·cases hd
 ·have e:cv=.slice none 0 0:=Rep.nils_inv (h:=encH s) H;subst e;refine (hx.nilq w).mono λe w' ⟨F,o⟩=>?_;subst F;exact hR w' s (hF.old o) (Je7 o) hd
 ·cases hd
theorem Jvz{ro:Option Nat}{P:Program}{nt:Nat}{ops:Array Oper}{call:Vv.Call}{base:Nat}{cx:Cx}{inl:Inl}{n:List Nat}{hs:List (Nat×Hd)}{Q:Exit->Act->World->Prop}(hC:Zt call cx.ct)(d:Ja4 P call)(hI:Jv4 P hs inl)(Y:SoOK P cx){α:Type}{r:α}{k:Dn.S Ty.T->Option α}{fs:List Fm}(hh:HsOK P hs fs)(hfs:FsOK fs) :
  ∀ {l:List Nat} {os:List Oper} {L:List (Nat×LOper)} {w:World} {S:Nat->Prop} {s:Dn.S Ty.T} {μ:Gh} {a:Act},Jc0 P [] nt ops l=some L->l.map (λi=>ops[i]?)=os.map some->RepF nt w S s μ a fs->Jdd val inl cx base n L s k=some r ->
  (∀a' w' S' μ' s',RepF nt w' S' s' μ' a' fs->Evo w S (encH s) μ w' S' (encH s') μ'->k s'=some r->Q .normal a' w')->wpListIn (Fr ro) 0 P ops Q os a w
 | [],os,L,w,S,s,μ,a,A,X,h,hd,hQ=>by
  cases os with
  | cons o os=>simp at X
  | nil=>
   injection A with A;subst A;exact hQ _ _ _ _ _ h .refl hd
 | i::l,[],L,w,S,s,μ,a,A,X,h,hd,hQ=>by simp at X
 | i::l,o::os,L,w,S,s,μ,a,A,X,h,hd,hQ=>by
  simp only [List.map_cons,List.cons.injEq] at X;obtain ⟨ho1,ho2⟩:=X;simp only [Jc0,ho1] at A;cases hx:comp P [] nt ops o with
  | none=>rw [hx] at A;cases A
  | some lo=>
   cases hl:Jc0 P [] nt ops l with
   | none=>rw [hx,hl] at A;cases A
   | some L'=>
    rw [hx,hl] at A;injection A with A;subst A;refine wpListIn_step λK hK=>to_in hx ?_;have next:∀ {a1 w1 S1 μ1 y},RepF nt w1 S1 y μ1 a1 fs->Evo w S (encH s) μ w1 S1 (encH y) μ1->Jdd val inl cx base n L' y k=some r->K a1 w1:=λE J d1=>
     hK _ _ (Jvz hC d hI Y hh hfs hl ho2 E d1 λa2 w2 S2 μ2 s2 q1 q2 q3=>hQ _ _ _ _ _ q1 (J.trans q2) q3)
    simp only [Jdd] at hd;split at hd
    ·rcases Ju6 h.iv hd with ⟨y,J,on1,N,hg,hd⟩|⟨y,g,want,J,on1,N,hg,hv,hd⟩
     ·have H:=h.alike J on1 N;have eh:encH y=encH s:=congrArg St.h J;obtain ⟨wd,wn,ws⟩:=Jse H.fr hx;have hw:Region.wanted o (yielded ops a.tmps)=true:=by
       cases G:lo.guard with
       | none=>exact wn G
       | some p=>
        obtain ⟨g,want⟩:=p;have:=(ws g want G).1 want (by rw [J];exact hg g want G);rw [this];cases want<;>rfl
      split at hd
      ·rename_i c v hf;rw [if_pos hw];obtain ⟨cv,sg,hr,F⟩:=srt_of Y H.fr hx N hf;have fin:Calls P c.id (#[cv]++c.j) w λe w'=>∃cv,e=.returned cv/\K (a.put o.dst cv) w':=by
        refine sort_den sg H hr hd λw' s2 E B M=>⟨_,rfl,?_⟩;rw [<-wd];refine next (E.put (Jqb hx) (v:=.tp []) (λc A=>(by cases A)) (.pure (.tup [] #[] rfl λi x h=>(by cases h)))) ?_ M
        rw [Jdm];rw [eh] at B;exact B
       exact wp_enter F fin λe w' he=>he
      split at hd
      ·rename_i f vs hf;rw [if_pos hw];obtain ⟨okv,cargs,c1,c2,c3,c4⟩:=enter_of (cx:=cx) (w:=w) H.fr hx N hf;obtain ⟨fk,hcall'⟩:=hI hd;have hps:RepF 0 w S (y.push (Jcc (Jgt L' n)) []) μ act0 (⟨nt,a,none,w.heap.size⟩::fs):=H.push (λp hp=>by cases hp) (λj r h=>by cases h) (by rw [J4z];have:encH (⟨[],kept y.sl (Jcc (Jgt L' n))::y.lo,y.ob,y.ln,y.mo⟩:Dn.S Ty.T)=encH y:=Zv rfl rfl;rw [this];exact rep0 H.fr.hp) rfl
       have eh2:encH (y.push (Jcc (Jgt L' n)) [])=encH y:=Zv rfl rfl;have hcs:=hcall' hps (hh.push _) (hfs.push (by intro j r h;cases h)) okv c1 (λi x hx=>by
        rw [eh2,show encV (y.push (Jcc (Jgt L' n)) []) x=encV y x from Jlo rfl rfl x];exact c2 i x hx) (R:=λe w'=>∃cv,e=.returned cv/\K (a.put o.dst cv) w') rfl λw' S' μ' v s' cv E B M r4 r5=>⟨cv,rfl,by
        rw [eh2,eh] at r4;rw [<-wd];refine next (E.put (Jqb hx) B M) ?_ r5
        rw [Jdm];exact r4⟩
       cases hb:Ao yB f with
       | false=>exact wp_enter (c3 hb (fk hb)) (hcs.1 hb) λe w' he=>he
       | true=>
        obtain ⟨j,e2,F⟩:=c4 hb;obtain ⟨q,q1,q2,q3⟩:=hcs.2 j e2 rfl;unfold wpO;rw [F,run_yield q1 q2,Oper.uponIn_round];refine ⟨λh=>(by cases h),(round_fr q3).mono λe w' he=>?_⟩;obtain ⟨cv,rfl,Z⟩:=he;exact Z
      ·obtain ⟨op',s2,al,st,iv2,on2,Z⟩:=J1l (call:=call) (o:=lo) (k:=λ_ s'=>Jdd val inl cx base n L' s' k) hC N (λg want e=>by rw [J];exact hg g want e) hd;obtain ⟨cm,O⟩:=Jhl hx al;refine Jq7 d H.fr O st λa' w' S' μ' r0 E B M=>next (H.step r0 E on2 iv2 B M) ?_ Z
       rw [<-eh];exact B
     ·have H:=h.alike J on1 N;have eh:encH y=encH s:=congrArg St.h J;obtain ⟨op',s2,al,st,iv2,on2,Z⟩:=Jka (call:=call) (base:=base) (o:=lo) (k:=λ_ s'=>Jdd val inl cx base n L' s' k) N hg (by rw [J];exact hv) hd;obtain ⟨cm,O⟩:=Jhl hx al;refine Jq7 d H.fr O st λa' w' S' μ' r0 E B M=>next (H.step r0 E on2 iv2 B M) ?_ Z
      rw [<-eh];exact B
    ·split at hd
     ·rename_i ne m hn G;obtain ⟨wd,wn,ws⟩:=Jse h.fr hx;rw [if_pos (wn G)];obtain ⟨b0,hz,hwp⟩:=nil_of (P:=P) (ro:=ro) h.fr hx hn;refine hwp ?_;rw [<-wd];refine next (h.put (Jqb hx) (v:=.c (.lf .bool (if ne=true then val.nt b0 else b0))) (Qx (J2 _ rfl)) ?_) ?_ (nlv_some hz hd)
      ·cases ne<;>exact .pure (.bool _)
      ·rw [Jdm];exact .refl
     ·exact step_den hC d h hx hd λa' w' S' μ' s' op' E B M=>next E B M
def Gh.lab(μ:Gh)(j x:Nat):Gh:=⟨μ.b,μ.o,upd μ.l j x⟩
section
variable {w:World} {S:Nat->Prop} {s:Dn.S Ty.T} {h:Heap} {μ:Gh} {j x:Nat}
theorem Jja{c:C Ty.T}(F:noYc j c=true){v:Value}(hr:Rep w S h μ (encC s c) v):Rep w S h (Gh.lab μ j x) (encC s c) v:=by
 have fl:∀ {y:AV},y.flat=true->Rep w S h μ y v->Rep w S h (Gh.lab μ j x) y v:=λG hr=>.pure (hr.flat G);have ar:∀ {g ver off len:Nat} {v:Value},Rep w S h μ (.arr g ver off len) v->Rep w S h (Gh.lab μ j x) (.arr g ver off len) v:=λhr=>by
  cases hr with
  | pure A=>exact .pure A
  | arr _ _ _ _ _ o B r m hr=>exact .arr _ _ _ _ _ o B r m hr
 have pr:∀ {g ver off:Nat} {v:Value},Rep w S h μ (.ptr g ver off) v->Rep w S h (Gh.lab μ j x) (.ptr g ver off) v:=λhr=>by
  cases hr with
  | pure A=>exact .pure A
  | ptr _ _ _ _ o B r m hr=>exact .ptr _ _ _ _ o B r m hr
 cases c with
 | any=>exact .any _
 | lf t y=>
  rcases Jo1 (Jb4 t y) with e|e
  ·simp only [encC];rw [e];exact .any _
  ·exact fl e hr
 | kb b=>exact fl rfl hr
 | k y=>exact fl F hr
 | rp t y o=>exact fl rfl hr
 | own g ver=>exact ar hr
 | part g ver a b=>exact ar hr
 | ptr g ver o=>exact pr hr
 | pti g ver e i o=>exact pr hr
 | map g ver=>
  cases hr with
  | pure A=>exact .pure A
  | map _ _ _ o B r m hr=>exact .map _ _ _ o B r m hr
 | fn f l=>
  obtain ⟨cs,e,m,H⟩:=hr.fn_inv;subst e;refine .fn f _ cs m λi y d=>?_;have:=H i y d;rw [Ad] at d;cases E:l[i]? with
  | none=>rw [E] at d;cases d
  | some p=>rw [E] at d;injection d with d;subst d;exact pr this
 | yl i=>
  have:=hr.yld_inv;subst this;have hi:i≠j:=λe=>by subst e;simp [noYc] at F
  have:=Rep.yld (w:=w) (S:=S) (h:=h) (μ:=Gh.lab μ j x) i;simp only [Gh.lab,Jc _ _ _ _ hi] at this;exact this
theorem Jxp{v:V Ty.T}(o:noYv j v=true){cv:Value}(hr:Rep w S h μ (encV s v) cv):Rep w S h (Gh.lab μ j x) (encV s v) cv:=by
 cases v with
 | c y=>exact Jja o hr
 | ag l=>
  have hr:Rep w S h μ (.agg (l.map (encC s))) cv:=hr;obtain ⟨cs,e,r,m⟩:=hr.agg_inv;subst e;refine .agg _ cs r (λi y a=>(m i y a).2) λi y a=>?_;have:=(m i y a).1;rw [Ad] at a;cases d:l[i]? with
  | none=>rw [d] at a;cases a
  | some p=>rw [d] at a;injection a with a;subst a;exact Jja (Ab.1 o p (Ac d)) this
 | tp l=>
  have hr:Rep w S h μ (.tup (l.map λp=>if p.1 then .agg (p.2.map (encC s)) else Xu (p.2.map (encC s)))) cv:=hr;obtain ⟨cs,e,r,m⟩:=hr.tup_inv;subst e;refine .tup _ cs r λi y a=>?_;have f:=m i y a;rw [Ad] at a;cases d:l[i]? with
  | none=>rw [d] at a;cases a
  | some p=>
   rw [d] at a;injection a with a;have g:=Ab.1 o p (Ac d);subst a;obtain ⟨b,q⟩:=p;cases b with
   | true=>
    have f:Rep w S h μ (.agg (q.map (encC s))) _:=f;obtain ⟨cs',e,B,A⟩:=f.agg_inv;show Rep w S h (Gh.lab μ j x) (.agg (q.map (encC s))) _;rw [e];refine .agg _ cs' B (λi y a=>(A i y a).2) λi y a=>?_;have:=(A i y a).1;rw [Ad] at a;cases d:q[i]? with
    | none=>rw [d] at a;cases a
    | some p=>rw [d] at a;injection a with a;subst a;exact Jja (Ab.1 g p (Ac d)) this
   | false=>
    have f:Rep w S h μ (Xu (q.map (encC s))) _:=f;show Rep w S h (Gh.lab μ j x) (Xu (q.map (encC s))) _
    match q,g,f with
    | [],_,_=>exact .any _
    | [c],g,f=>exact Jja (Ab.1 g c (Ai.2 rfl)) f
    | _::_::_,_,_=>exact .any _
def AObj.cells:AObj->List AV
 | .box _ c=>c
 | .arr _ _ _ c _=>c
 | .map _ es _=>es.map (·.2)
theorem Jhu{x:AV}(h:x.flat=true):x.noNm=true:=by cases x<;>first|rfl|cases h
theorem Jnt:∀ {l:List AV},l.all AV.flat=true->Jz5 l=true
 | [],_=>rfl
 | x::l,h=>by rw [List.all_cons,Am] at h;show (x.noNm&&Jz5 l)=true;rw [Jhu h.1,Jnt h.2];rfl
theorem avT_noNm(t:Ty)(x:t.T):(avT t x).noNm=true:=by
 unfold avT;split
 ·exact Jnt (Jb4 t x)
 ·rename_i h;have a:t.one=true:=by rw [Jhk] at h;simpa using h
  have:=Jb4 t x;rw [Job a] at this;exact Jhu (by simpa using this)
theorem Jzt(o:Ob Ty.T):∀y∈AObj.cells (encO s o),y.noNm=true\/∃c∈o.kids,y=encC s c:=by
 intro y a;cases o with
 | mp v kt vt es=>
  obtain ⟨p,f,rfl⟩:=Ae.1 a;obtain ⟨e,-,rfl⟩:=Ae.1 f;exact .inl (avT_noNm vt e.2)
 | em v kt vt el=>cases a
 | box v cs=>obtain ⟨c,d,rfl⟩:=Ae.1 a;exact .inr ⟨c,d,rfl⟩
 | lit v e el cs z=>obtain ⟨c,d,rfl⟩:=Ae.1 a;exact .inr ⟨c,d,rfl⟩
 | row v e el t l g nest z=>
  rcases List.mem_append.1 a with a|a
  ·cases nest with
   | none=>exact .inl (Jhu (Ab.1 (X3 t l) y a))
   | some p=>
    rcases List.mem_or_eq_of_mem_set a with a|rfl
    ·exact .inl (Jhu (Ab.1 (X3 t l) y a))
    ·exact .inr ⟨p.2,List.mem_append_left _ (Ai.2 rfl),rfl⟩
  ·obtain ⟨c,d,rfl⟩:=Ae.1 a;exact .inr ⟨c,List.mem_append_right _ d,rfl⟩
theorem Jxx(d:noYs j s=true):(∀p∈s.sl,noYv j p.2=true)/\(∀l∈s.lo,∀p∈l,noYv j p.2=true)/\∀p∈s.ob,∀c∈p.2.kids,noYc j c=true:=by unfold noYs at d;simp only [Am] at d;exact ⟨λp a=>Ab.1 d.1.1 p a,λl hl p a=>Ab.1 (Ab.1 d.1.2 l hl) p a,λp a c f=>Ab.1 (Ab.1 d.2 p a) c f⟩
theorem repH_lab(L:noYs j s=true)(A:RepH w S (encH s) μ):RepH w S (encH s) (Gh.lab μ j x):=by
 refine ⟨λg o B=>?_,A.inj,A.own,A.lt⟩;have d:=A.ob g _ B;rcases Jhf B with ⟨ob,E,rfl⟩|⟨-,hmo⟩
 rotate_left
 ·obtain ⟨-,m,-,⟨-,rfl⟩|⟨-,-,e,-,rfl⟩⟩:=Jbq hmo
  ·obtain ⟨es',clock,h,f,a3,a4⟩:=d;refine ⟨es',clock,h,f,a3,λi k v hi=>?_⟩;obtain ⟨e,J,H,G⟩:=a4 i k v hi;refine ⟨e,J,H,?_⟩;obtain ⟨O,-,F⟩:=Jrs hi;injection F with _ F;subst F;cases G with
   | pure A=>exact .pure A
   | arr _ _ _ _ _ o B K d hr=>exact .arr _ _ _ _ _ o B K d hr
  ·intro r;obtain ⟨cs,h,f,a3,a4⟩:=d r;exact ⟨cs,h,f,λi y a=>⟨.pure ((a3 i y a).1.flat (Ab.1 (X3 _ _) y (Ac a))),(a3 i y a).2⟩,a4⟩
 have key:∀y∈AObj.cells (encO s ob),∀ {v:Value},Rep w S (encH s) μ y v->Rep w S (encH s) (Gh.lab μ j x) y v:=λy a v hr=>by
  rcases Jzt ob y a with M|⟨c,N,rfl⟩
  ·exact .pure (hr.noNm M)
  ·exact Jja ((Jxx L).2.2 _ (Xq E) c N) hr
 cases l:encO s ob with
 | box v c=>
  rw [l] at d key;obtain ⟨cs,el,h,f,a3⟩:=d;exact ⟨cs,el,h,f,λi y a=>⟨key y (Ac a) (a3 i y a).1,(a3 i y a).2⟩⟩
 | arr v e t c z=>
  rw [l] at d key;intro r;obtain ⟨cs,h,f,a3,a4⟩:=d r;exact ⟨cs,h,f,λi y a=>⟨key y (Ac a) (a3 i y a).1,(a3 i y a).2⟩,a4⟩
 | map v es z=>
  rw [l] at d key;obtain ⟨es',clock,h,f,a3,a4⟩:=d;refine ⟨es',clock,h,f,a3,λi k v hi=>?_⟩;obtain ⟨e,J,H,G⟩:=a4 i k v hi;exact ⟨e,J,H,key v (Ae.2 ⟨_,Ac hi,rfl⟩) G⟩
theorem RepF.lab{nt:Nat}{a:Act}{fs:List Fm}(hF:RepF nt w S s μ a fs)(B:noYs j s=true)(E:∀p∈fs,∀i r,p.lo=some (i,r)->i≠j):RepF nt w S s (Gh.lab μ j x) a fs:=by
 obtain ⟨G,F,J⟩:=Jxx B;refine ⟨⟨λd=>?_,repH_lab B hF.fr.hp,hF.fr.df,hF.fr.sz⟩,hF.len,λi l b hl H d v o=>Jxp (F l (Ac hl) (d,v) (Xq o)) (hF.lo i l b hl H d v o),hF.sz,hF.md,λp A i r hl=>?_,hF.iv⟩
 ·have:=hF.fr.fr d;show Rep w S (encH s) _ (encV s (s.at d)) _;refine Jxp ?_ this;unfold Dn.S.at;cases hd:look d s.sl with
  | none=>rfl
  | some v=>exact G (d,v) (Xq hd)
 ·have:=hF.lp p A i r hl;simp only [Gh.lab,Jc _ _ _ _ (E p A i r hl)];exact ⟨this.1,this.2.1,λh f m q y g=>by rw [Jc _ _ _ _ (E h f m q y)];exact this.2.2 h f m q y g⟩
theorem evo_lab{w':World}{S':Nat->Prop}{h':Heap}{μ':Gh}(L:Nat->Nat)(ev:Evo w S h μ w' S' h' μ'):Evo w S h ⟨μ.b,μ.o,L⟩ w' S' h' ⟨μ'.b,μ'.o,L⟩:=
 ⟨ev.os,ev.tape,ev.output,ev.size,ev.keep,ev.shape,ev.st,ev.st2,ev.ow,rfl⟩
theorem Ji8(ob:Obj):Evo w S h μ (w.alloc ob) S h μ:=
 ⟨rfl,rfl,⟨rfl,Aq _⟩,by simp,λb d _=>heap_alloc_old w ob b d,λb cs el z a=>⟨cs,by rw [heap_alloc_old w ob b (Ag.1 a).1];exact a,rfl⟩,λ_ h=>h,λ_ h=>.inl h,λ_ h=>.inl h,rfl⟩
theorem repH_lay(a:RepH w S h μ)(ob:Obj):RepH (w.alloc ob) S h μ:=
 ⟨λg o d=>(a.ob g o d).evo a (Ji8 ob) (.refl _ _) λhl=>heap_alloc_old w ob _ ((a.ob g o d).lt hl),a.inj,a.own,λb f=>by have:=a.lt b f;simp;omega⟩
theorem RepF.lay{nt:Nat}{a:Act}{fs:List Fm}(hF:RepF nt w S s μ a fs)(ob:Obj):RepF nt (w.alloc ob) S s μ a fs:=
 hF.step rfl ⟨λd=>(hF.fr.fr d).evo hF.fr.hp (Ji8 ob) (.refl _ _),repH_lay hF.fr.hp ob,hF.fr.hp.marks hF.fr.df (Ji8 (h:=encH s) (μ:=μ) (S:=S) ob),hF.fr.sz⟩ (.refl s) hF.iv (Ji8 ob) (.refl _ _)
theorem X0{l:Nat}{o:Obj}{b:Nat}(h:b≠l):(w.putObj l o).heap[b]?=w.heap[b]?:=World.putObj_heap_other h
theorem Jxc{l:Nat}{o:Obj}(hS:¬S l){y:AV}{v:Value}(hr:RepP w S y v):RepP (w.putObj l o) S y v:=hr.mono (λ_ h=>h) λb a=>X0 λe=>hS (e▸a)
theorem arrV_put{l:Nat}{o:Obj}{cells:List AV}{b k e off len:Nat}{v:Value}(g:cells≠[]->b≠l)(f:ArrV w cells b k e off len v):ArrV (w.putObj l o) cells b k e off len v:=
 ⟨f.1,λd=>by obtain ⟨a,cap,cs,el,z,A,y,r,m,h⟩:=f.2 d;exact ⟨a,cap,cs,el,z,A,y,(X0 (g d)).trans r,m,h⟩⟩
theorem Jgn{l:Nat}{o:Obj}(hS:¬S l)(hl:∀g ob,h g=some ob->ob.live=true->μ.b g≠l){y:AV}{v:Value}(hr:Rep w S h μ y v):Rep (w.putObj l o) S h μ y v:=by
 induction hr with
 | any v=>exact .any v
 | pure B=>exact .pure (Jxc hS B)
 | fn f l cs hl hr m=>exact .fn f l cs hl m
 | agg l cs hl a hr m=>exact .agg l cs hl a m
 | tup l cs hl hr m=>exact .tup l cs hl m
 | arr g ver off len v ob d r a hr=>
  refine .arr g ver off len v ob d r a λe=>?_;obtain ⟨esz,el,cells,fz,eq,E⟩:=hr e;exact ⟨esz,el,cells,fz,eq,arrV_put (λA=>hl g ob d (by rw [eq];exact Kx.2 A)) E⟩
 | ptr g ver off v ob d r a hr=>exact .ptr g ver off v ob d r a hr
 | map g ver v ob d r a hr=>exact .map g ver v ob d r a hr
 | yld j=>exact .yld j
theorem Jxo{l:Nat}{o:Obj}(hS:¬S l)(hl:∀g ob,h g=some ob->ob.live=true->μ.b g≠l)(r:RepH w S h μ):RepH (w.putObj l o) S h μ:=by
 refine ⟨λg ob A=>?_,r.inj,r.own,λb E=>by simpa using r.lt b E⟩;have B:=r.ob g ob A;cases ob with
 | box v c=>
  obtain ⟨cs,el,m,f,a3⟩:=B;exact ⟨cs,el,(X0 (hl g _ A rfl)).trans m,f,λi y a=>⟨Jgn hS hl (a3 i y a).1,(a3 i y a).2⟩⟩
 | arr v e t c z=>
  intro d;obtain ⟨cs,m,f,a3,a4⟩:=B d;exact ⟨cs,(X0 (hl g _ A (Kx.2 d))).trans m,f,λi y a=>⟨Jgn hS hl (a3 i y a).1,(a3 i y a).2⟩,a4⟩
 | map v es z=>
  obtain ⟨es',clock,m,f,a3,a4⟩:=B;refine ⟨es',clock,(X0 (hl g _ A rfl)).trans m,f,a3,λi k v hi=>?_⟩;obtain ⟨e,H,G,F⟩:=a4 i k v hi;exact ⟨e,H,Jxc hS G,Jgn hS hl F⟩
theorem J3g(a:RepH w S h μ){l:Nat}{r:Loop}(hr:w.heap[l]?=some (.loop r)):∀g ob,h g=some ob->ob.live=true->μ.b g≠l:=by
 rintro g ob d hl rfl;have:=a.ob g ob d;cases ob with
 | box v cells=>obtain ⟨cs,el,q,_⟩:=this;rw [hr] at q;cases q
 | arr v e t cells z=>obtain ⟨cs,q,_⟩:=this (Kx.1 hl);rw [hr] at q;cases q
 | map v es z=>obtain ⟨es',clock,q,_⟩:=this;rw [hr] at q;cases q
theorem Jsx{l:Nat}{r:Loop}{o:Obj}(hr:w.heap[l]?=some (.loop r)){ds:List Deferred}(hd:Marks w S ds):Marks (w.putObj l o) S ds:=⟨hd.1,λd f=>by obtain ⟨b,e,a,hs⟩:=hd.2 d f;exact ⟨b,e,(X0 λq=>by subst q;rw [hr] at a;cases a).trans a,hs⟩⟩
theorem RepF.putL{nt:Nat}{a:Act}{fs:List Fm}(hF:RepF nt w S s μ a fs){l:Nat}{r:Loop}(hr:w.heap[l]?=some (.loop r))(hS:¬S l)(h:∀p∈fs,∀j q,p.lo=some (j,q)->μ.l j≠l)(o:Obj):RepF nt (w.putObj l o) S s μ a fs:=by
 have hl:=J3g hF.fr.hp hr;exact ⟨⟨λd=>Jgn hS hl (hF.fr.fr d),Jxo hS hl hF.fr.hp,Jsx hr hF.fr.df,hF.fr.sz⟩,hF.len,λi m b B A d v y=>Jgn hS hl (hF.lo i m b B A d v y),λp f=>⟨Jsx hr (hF.sz p f).1,(hF.sz p f).2.1,by simpa using (hF.sz p f).2.2⟩,hF.md,
  λp f j q g=>⟨(X0 (h p f j q g)).trans (hF.lp p f j q g).1,(hF.lp p f j q g).2.1,(hF.lp p f j q g).2.2⟩,hF.iv⟩
end
end Go.Dn
