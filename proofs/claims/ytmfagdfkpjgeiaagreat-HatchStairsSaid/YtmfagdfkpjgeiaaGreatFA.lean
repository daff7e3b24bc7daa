/- Regions in order of the typed evaluator; calls that are entered in place. Conditions: none. -/
import Derived.Test.YtmfagdfkpjgeiaaGreatDB
set_option linter.unusedVariables false
set_option linter.unusedSimpArgs false
namespace Go.Dn
open Go Go.Vv
open _root_.Array renaming getD_eq_getD_getElem? -> Aa, getElem?_eq_some_iff -> Ag, getElem?_eq_getElem -> Ah, getElem?_append_right -> Ak
open List renaming all_eq_true -> Ab, mem_of_getElem? -> Ac, getElem?_map -> Ad, mem_map -> Ae, mem_singleton -> Ai, eq_nil_of_length_eq_zero -> Aj
open Prod.mk renaming injEq -> Af
open Bool renaming and_eq_true -> Al
open Nat renaming ble -> Am, eq_of_beq_eq_true -> Ao, le_refl -> Ap
def HdAt(P:Program)(fs:List Fm)(j:Nat)(h:Hd):Prop:=
 ∃pre fr post r,fs=pre++fr::post/\post.length=j/\fr.lo=some (j,r)/\r.state=.ready/\r.pending=none/\r.tmps=fr.act.tmps/\r.params.toList=h.ps/\Y8 P fr.nt r.assign=some h.a/\Y8 P fr.nt r.body=some h.b /\
  (∀t∈h.ps,t<fr.nt)/\h.ps.Nodup
def HsOK(P:Program)(hs:List (Nat×Hd))(fs:List Fm):Prop:=∀j h,look j hs=some h->HdAt P fs j h
def FsOK(fs:List Fm):Prop:=∀pre fr post,fs=pre++fr::post->∀j r,fr.lo=some (j,r)->j=post.length
theorem HsOK.push{P:Program}{hs:List (Nat×Hd)}{fs:List Fm}(h:HsOK P hs fs)(f:Fm):HsOK P hs (f::fs):=λj x hx=>by obtain ⟨pre,fr,post,r,e,rest⟩:=h j x hx;exact ⟨f::pre,fr,post,r,by rw [e];rfl,rest⟩
theorem FsOK.push{fs:List Fm}(h:FsOK fs){nt d:Nat}{a:Act}{lo:Option (Nat×Loop)}(hl:∀j r,lo=some (j,r)->j=fs.length):FsOK (⟨nt,a,lo,d⟩::fs):=by
 intro pre fr post e j r g;cases pre with
 | nil=>
  injection e with l f;subst l;subst f;exact hl j r g
 | cons p pre=>
  injection e with l f;exact h pre fr post f j r g
theorem FsOK.tail{f:Fm}{fs:List Fm}(h:FsOK (f::fs)):FsOK fs:=λpre fr post e=>h (f::pre) fr post (by rw [e];rfl)
def Jnf(P:Program)(hs:List (Nat×Hd))(inl:Inl):Prop:=
 ∀ {α:Type} {f:FuncId} {base:Nat} {vs:List (V Ty.T)} {s:S Ty.T} {k:V Ty.T->S Ty.T->Option α} {r:α},inl val f base vs s k=some r ->
  (Am yB f=false->FnOK P f)/\∀ {d:Nat} {w:World} {S:Nat->Prop} {μ:Gh} {a0:Act} {fr:Fm} {fs:List Fm} {cargs:Array Value},RepF d w S s μ a0 (fr::fs)->HsOK P hs (fr::fs)->FsOK (fr::fs)->(∀v∈vs,okV s v)->cargs.size=vs.length ->
   (∀(i:Nat) (x:V Ty.T),vs[i]?=some x->Rep w S (encH s) μ (encV s x) (cargs.getD i undef))->∀ {R:Ending->World->Prop},
   fr.d=w.heap.size->(∀w' S' μ' v s' cv,RepF fr.nt w' S' s' μ' fr.act fs->okV s' v->Rep w' S' (encH s') μ' (encV s' v) cv->Evo w S (encH s) μ w' S' (encH s') μ'->k v s'=some r->R (.returned cv) w') ->
   (Am yB f=false->Calls P f cargs w R) /\
   (∀j,f=yB+j->fr.lo=none->∃q,w.heap[μ.l j]?=some (.loop q)/\cargs.size=q.params.size/\RoundIn Fence.wide 0 P (μ.l j) q.fn ((q.params.zip cargs).foldl (λtmps (t,a)=>tmps.setIfInBounds t a) q.tmps) q.assign q.body w R)
section
variable {s:Dn.S Ty.T} {α:Type} {r:α}
theorem Jta{s:Dn.S Ty.T}{g:Nat}{v:V Ty.T}(h:s.at g=v):(enc s).f g=encV s v:=by subst h;rfl
theorem Jrn{o:LOper}{run skip:S Ty.T->Option α}(v:Inv s)(h:Jpi val s o run skip=some r) :
  (∃a,enc a=enc s/\On s a/\Inv a/\(∀g want,o.guard=some (g,want)->(enc s).f g=.bool want)/\run a=some r) \/
  (∃a g want,enc a=enc s/\On s a/\Inv a/\o.guard=some (g,want)/\((enc s).f g=.bool (!want)\/(enc s).f g=.tup [])/\skip a=some r):=by
 unfold Jpi at h;split at h
 ·rename_i f;exact .inl ⟨s,rfl,.refl s,v,λg w e=>(by rw [f] at e;cases e),h⟩
 ·rename_i g want f;split at h
  ·rename_i b E;have l:(enc s).f g=.bool b:=Jta E;split at h
   ·rename_i e;subst e;exact .inl ⟨s,rfl,.refl s,v,λF w e=>(by rw [f] at e;injection e with e;injection e with m y;subst m;subst y;exact l),h⟩
   ·rename_i e;exact .inr ⟨s,g,want,rfl,.refl s,v,f,.inl (by rw [l];cases b<;>cases want<;>simp_all),h⟩
  ·rename_i t B;have l:∀q:Bool,(t:Bool)=q->(enc s).f g=.bool q:=λq e=>by rw [Jta B,<-e];rfl
   have run':∀q:Bool,(t:Bool)=q->want=q->run (s.put (some g) (.c (.kb q)))=some r ->
     ∃a,enc a=enc s/\On s a/\Inv a/\(∀g want,o.guard=some (g,want)->(enc s).f g=.bool want)/\run a=some r:=λq m y h=>
    ⟨_,Jb6 (l q m),.put s _ _,v.put okKb _,λF w A=>(by rw [f] at A;injection A with A;injection A with H G;subst H;subst G;rw [l q m,y]),h⟩
   have skp:∀q:Bool,(t:Bool)=q->want=!q->skip (s.put (some g) (.c (.kb q)))=some r ->
     ∃a g want,enc a=enc s/\On s a/\Inv a/\o.guard=some (g,want)/\((enc s).f g=.bool (!want)\/(enc s).f g=.tup [])/\skip a=some r:=λq m y h=>
    ⟨_,g,want,Jb6 (l q m),.put s _ _,v.put okKb _,f,.inl (by rw [l q m,y,Bool.not_not]),h⟩
   split at h
   ·rename_i d;rcases Jc5 h with ⟨e,h⟩|⟨e,h⟩
    ·exact .inl (run' true e d h)
    ·exact .inr (skp false e d h)
   ·rename_i d;have d:want=false:=by simpa using d
    rcases Jc5 h with ⟨e,h⟩|⟨e,h⟩
    ·exact .inr (skp true e d h)
    ·exact .inl (run' false e d h)
  ·rename_i B;exact .inr ⟨s,g,want,rfl,.refl s,v,f,.inr (by rw [Jta B];rfl),h⟩
  ·cases h
theorem RepF.alike{nt:Nat}{w:World}{S:Nat->Prop}{s d:Dn.S Ty.T}{μ:Gh}{a:Act}{fs:List Fm}(h:RepF nt w S s μ a fs)(e:enc d=enc s)(on:On s d)(f:Inv d):RepF nt w S d μ a fs:=by have eh:encH d=encH s:=congrArg St.h e;refine h.step rfl (by rw [e];exact h.fr) on f (by rw [eh];exact .refl) (by rw [eh];exact .refl _ _)
theorem _root_.Go.Vv.Rep.yld_inv{w:World}{S:Nat->Prop}{h:Heap}{μ:Gh}{j:Nat}{v:Value}(a:Rep w S h μ (.yld j) v):v=.func (.yield (μ.l j)) #[] #[]:=by
 cases a with
 | pure d=>cases d
 | yld=>rfl
theorem enter_of{P:Program}{nt:Nat}{ops:Array Oper}{w:World}{S:Nat->Prop}{μ:Gh}{a:Act}{o:Oper}{lo:LOper}{cx:Cx}{f:FuncId}{vs:List (V Ty.T)}(hs:RepS nt w S (enc s) μ a)(B:comp P [] nt ops o=some lo)(X:Inv s)(h:inlF val cx s lo.op=some (f,vs)) :
  (∀v∈vs,okV s v)/\∃cargs:Array Value,cargs.size=vs.length/\(∀(i:Nat) (x:V Ty.T),vs[i]?=some x->Rep w S (encH s) μ (encV s x) (cargs.getD i undef)) /\
   (Am yB f=false->FnOK P f->(execOp a.eval o).run P w=.ok (.enter f cargs) w)/\(Am yB f=true->∃j,f=yB+j/\(execOp a.eval o).run P w=(Instr.yield (μ.l j) cargs).run P w):=by
 obtain ⟨lop,d,hl⟩:∃lop,Zq P [] o.dst o.op=some lop/\lo.op=lop:=by
  unfold comp at B;cases J:Zq P [] o.dst o.op with
  | none=>rw [J] at B;cases B
  | some lop=>
   rw [J] at B;simp only at B;refine ⟨lop,rfl,?_⟩;split at B
   ·split at B
    ·injection B with B;rw [<-B]
    ·split at B
     ·split at B
      ·injection B with B;rw [<-B]
      ·cases B
     ·cases B
   ·cases B
 rw [hl] at h;clear hl B;have evs:∀l:List LO,∀v∈l.map (ev val s),okV s v:=λl v E=>by obtain ⟨x,-,rfl⟩:=Ae.1 E;exact Jen X x
 have args:∀ {l:Array Operand} {m:List LO},cLOs l.toList=some m->(l.map a.eval).size=(m.map (ev val s)).length/\∀(i:Nat) (x:V Ty.T),(m.map (ev val s))[i]?=some x->Rep w S (encH s) μ (encV s x) ((l.map a.eval).getD i undef):=λ{l m} L=>by
  obtain ⟨H,K⟩:=Jbt hs L;refine ⟨by rw [H];simp,λi x hx=>?_⟩;rw [Ad] at hx;cases J:m[i]? with
  | none=>rw [J] at hx;cases hx
  | some y=>
   rw [J] at hx;injection hx with hx;subst hx;rw [<-Jw];exact K i _ (by rw [Ad,J];rfl)
 obtain ⟨dst,oop,oty,opos,oafter,ogd⟩:=o;simp only at d;unfold inlF at h;cases oop
 case call c=>
  obtain ⟨callee,cargs,argTypes⟩:=c;simp only [Zq] at d;cases callee
  case value x=>
   cases x
   case func g=>
    simp only at d;split at d
    ·rename_i m L;have:Jll [] dst=.p:=rfl;rw [this] at d;injection d with d;subst d;simp only at h;split at h
     ·rename_i M;simp only [Al,Bool.not_eq_true'] at M;injection h with h;simp only [Af] at h;obtain ⟨rfl,rfl⟩:=h;obtain ⟨H,K⟩:=args L;refine ⟨evs m,_,H,K,λ_ N=>?_,λq=>(by rw [M.2] at q;cases q)⟩;simp [execOp,resolve,Act.eval,Deferred.ofValue,invoke,Qb N]
     ·cases h
    ·cases d
   case tmp x=>
    simp only at d;obtain ⟨m,L,rfl⟩:=Qy d;simp only at h;split at h
    ·rename_i g caps hx;split at h
     ·cases h
     rename_i A;have A:Am yB g=false:=eq_false_of_ne_true A;injection h with h;simp only [Af] at h;obtain ⟨rfl,rfl⟩:=h;obtain ⟨H,K⟩:=args L;have E:Rep w S (encH s) μ (encV s (.c (.fn g caps))) (a.tmps.getD x undef):=by have:=hs.fr x;rw [show (enc s).f x=encV s (.c (.fn g caps)) by rw [<-hx];rfl] at this;exact this
     obtain ⟨cs,e,Y,c2⟩:=E.fn_inv;simp only [List.length_map] at Y;have okf:okC s (.fn g caps):=by have:=Jen X (.t x);rw [hx] at this;exact this _ (Ai.2 rfl)
     refine ⟨λv E=>?_,cargs.map a.eval++cs,by simp [<-Y] at H ⊢;omega,λi y F=>?_,λ_ N=>?_,λq=>(by rw [A] at q;cases q)⟩
     ·rcases List.mem_append.1 E with E|E
      ·exact evs m v E
      ·obtain ⟨c,B,rfl⟩:=Ae.1 E;refine Qi λr Z=>?_;have:=Ai.1 Z;subst this;exact okf (c.1,c.2.1) (Ae.2 ⟨c,B,rfl⟩)
     ·by_cases O:i<(m.map (ev val s)).length
      ·rw [List.getElem?_append_left O] at F;have e:(cargs.map a.eval++cs).getD i undef=(cargs.map a.eval).getD i undef:=by simp only [Aa];rw [Array.getElem?_append_left (by omega)]
       rw [e];exact K i y F
      ·rw [List.getElem?_append_right (by omega)] at F;have e:(cargs.map a.eval++cs).getD i undef=cs.getD (i - (m.map (ev val s)).length) undef:=by simp only [Aa];rw [Ak (by omega),H]
       rw [e];rw [Ad] at F;cases J:caps[i - (m.map (ev val s)).length]? with
       | none=>rw [J] at F;cases F
       | some c=>
        rw [J] at F;injection F with F;subst F;exact c2 _ _ (by rw [Ad,J];rfl)
     ·have G:a.eval (.tmp x)=.func (.func g) #[] cs:=e;simp [execOp,resolve,G,Deferred.ofValue,invoke,Qb N]
    ·rename_i j hx;injection h with h;simp only [Af] at h;obtain ⟨rfl,rfl⟩:=h;obtain ⟨H,K⟩:=args L;have E:Rep w S (encH s) μ (.yld j) (a.tmps.getD x undef):=by have:=hs.fr x;rw [show (enc s).f x=encV s (.c (.yl j)) by rw [<-hx];rfl] at this;exact this
     have G:a.eval (.tmp x)=.func (.yield (μ.l j)) #[] #[]:=E.yld_inv;refine ⟨evs m,_,H,K,λq=>?_,λ_=>⟨j,rfl,?_⟩⟩
     ·rw [Nat.ble_eq_true_of_le (Nat.le_add_right yB j)] at q;cases q
     ·simp [execOp,resolve,G,Deferred.ofValue,invoke]
    ·rename_i g t u hx;split at h
     ·cases h
     rename_i A;have A:Am yB g=false:=eq_false_of_ne_true A;injection h with h;simp only [Af] at h;obtain ⟨rfl,rfl⟩:=h;obtain ⟨H,K⟩:=args L;have E:Rep w S (encH s) μ (.bfn g (t.cs u)) (a.tmps.getD x undef):=by have:=hs.fr x;rw [show (enc s).f x=encV s (.c (.lf (.bf g t) u)) by rw [<-hx];rfl] at this;exact this
     obtain ⟨cs,e,Q⟩:=E.bfn_inv;refine ⟨λv E=>?_,#[.agg cs]++cargs.map a.eval,by simp at H ⊢;omega,λi y F=>?_,λ_ N=>?_,λq=>(by rw [A] at q;cases q)⟩
     ·rcases List.mem_cons.1 E with rfl|E
      ·exact Jay s t u
      ·exact evs m v E
     ·cases i with
      | zero=>
       simp only [List.getElem?_cons_zero,Option.some.injEq] at F;subst F;have R:(#[Value.agg cs]++cargs.map a.eval).getD 0 undef=.agg cs:=by simp [Aa,Array.getElem?_append]
       rw [R];have e2:encV s (V.ag (expl val t (val.ub u)))=.agg (t.cs u):=congrArg AV.agg (Qg s t (val.ub u));rw [e2];exact Q
      | succ i=>
       simp only [List.getElem?_cons_succ] at F;have R:(#[Value.agg cs]++cargs.map a.eval).getD (i+1) undef=(cargs.map a.eval).getD i undef:=by simp only [Aa];rw [Ak (by simp)];simp
       rw [R];exact K i y F
     ·have G:a.eval (.tmp x)=.func (.func g) #[.agg cs] #[]:=e;simp [execOp,resolve,G,Deferred.ofValue,invoke,Qb N]
    ·cases h
   all_goals cases d
  case builtin b=>
   exfalso;cases b<;>simp only at d<;>repeat' split at d
   all_goals first|(cases d;done)|(injection d with d;subst d;cases h;done)|(simp at d;done)|skip
  all_goals cases d
 all_goals
  exfalso;simp only [Zq] at d
  repeat' split at d
  all_goals first|(cases d;done)|contradiction|(injection d with d;subst d;cases h;done)|(obtain ⟨m,L,rfl⟩:=Qy d;cases h;done)|skip
end
def vOf:AV->Value
 | .int k n=>.int k n
 | .bool b=>.bool b
 | .str x=>.string x
 | _=>undef
theorem Jgw{v:AV}(h:Scl v){w:World}{S:Nat->Prop}:RepP w S v (vOf v)/\(vOf v).oneCell'=true:=by
 rcases h with ⟨b,rfl⟩|⟨k,n,rfl⟩|⟨x,rfl⟩
 ·exact ⟨.bool b,rfl⟩
 ·exact ⟨.int k n,rfl⟩
 ·exact ⟨.str x,rfl⟩
theorem vOf_eq{v:AV}(h:Scl v){w:World}{S:Nat->Prop}{d:Heap}{μ:Gh}{c:Value}(a:Rep w S d μ v c):c=vOf v:=by
 rcases h with ⟨b,rfl⟩|⟨k,n,rfl⟩|⟨x,rfl⟩
 ·exact a.bool_inv
 ·exact a.int_inv
 ·exact a.str_inv
def SCt.j(x:SCt):Array Value:=if x.two then #[.func (.func x.g) #[] #[]] else #[]
structure Jte (w w':World) (b off n:Nat) (cs:Array Value) (new:List AV):Prop where
 os:w'.os=w.os
 tape:w'.tape=w.tape
 output:w'.output=w.output/\w.drawn<=w'.drawn
 size:w.heap.size<=w'.heap.size
 keep:∀k,k<w.heap.size->k≠b->w'.heap[k]?=w.heap[k]?
 row:∀el,w.heap[b]?=some (.cells cs el (0,0))->∃cs':Array Value,w'.heap[b]?=some (.cells cs' el (0,0))/\cs'.size=cs.size/\(∀(i:Nat) (v:AV),new[i]?=some v->cs'.getD (off+i) undef=vOf v)
structure SGood (P:Program) (x:SCt):Prop where
 fn:FnOK P x.id
 id:x.id<yB
 flat:x.t.flat=true
 len:∀l r,x.fn l=some r->r.length=l.length
 run:∀l r,x.fn l=some r->l≠[]->∀(w:World) (b off cap:Nat) (cs:Array Value) (el:TypeId),w.heap[b]?=some (.cells cs el (0,0))->off+l.length * x.t.sz<=cs.size->l.length<=cap->(∀(i:Nat) (v:AV),(l.flatMap x.t.cs)[i]?=some v->cs.getD (off+i) undef=vOf v) ->
  Calls P x.id (#[.slice (some ⟨b,off,none⟩) l.length cap]++x.j) w λe w'=>e=.returned (.tuple #[])/\Jte w w' b off (l.length * x.t.sz) cs (r.flatMap x.t.cs)
 emp:∀r,x.fn []=some r->∀(w:World) (A:Option Addr),Calls P x.id (#[.slice A 0 0]++x.j) w λe w'=>e=.returned (.tuple #[])/\Old w w'
 nilq:∀(w:World),Calls P x.id (#[.slice none 0 0]++x.j) w λe w'=>e=.returned (.tuple #[])/\Old w w'
structure SRun (P:Program) (id:FuncId) (t:Ty) (tl:Array Value) (w:World) (N:Nat->Prop) (l r:List t.T):Prop where
 flat:t.flat=true
 len:r.length=l.length
 run:l≠[]->∀(b off cap:Nat) (cs:Array Value) (el:TypeId),N b->w.heap[b]?=some (.cells cs el (0,0))->off+l.length * t.sz<=cs.size->l.length<=cap->(∀(i:Nat) (v:AV),(l.flatMap t.cs)[i]?=some v->cs.getD (off+i) undef=vOf v) ->
  Calls P id (#[.slice (some ⟨b,off,none⟩) l.length cap]++tl) w λe w'=>e=.returned (.tuple #[])/\Jte w w' b off (l.length * t.sz) cs (r.flatMap t.cs)
 emp:l=[]->∀A:Option Addr,Calls P id (#[.slice A 0 0]++tl) w λe w'=>e=.returned (.tuple #[])/\Old w w'
theorem SGood.at{P:Program}{x:SCt}(h:SGood P x){l r:List x.t.T}(a:x.fn l=some r)(w:World):SRun P x.id x.t x.j w (λ_=>True) l r:=
 ⟨h.flat,h.len l r a,λd b off cap cs el _=>h.run l r a d w b off cap cs el,λe A=>by subst e;exact h.emp r a w A⟩
def soL:List SCt->FuncId->FuncId->Option SCt
 | [],_,_=>none
 | x::r,f,g=>match Nat.beq x.id f,Nat.beq x.g g with|true,true=>some x|_,_=>soL r f g
theorem Jyr{P:Program}{so:List SCt}(h:∀x∈so,SGood P x):∀f g x,soL so f g=some x->x.id=f/\x.g=g/\SGood P x:=by
 induction so with
 | nil=>intro f g x hx;cases hx
 | cons y r a=>
  intro f g x hx;simp only [soL] at hx;split at hx
  ·rename_i e d;injection hx with hx;subst hx;exact ⟨Ao e,Ao d,h y List.mem_cons_self⟩
  ·exact a (λx hx=>h x (List.mem_cons_of_mem _ hx)) f g x hx
def SoOK(P:Program)(cx:Cx):Prop:=∀f g x,cx.so f g=some x->x.id=f/\x.g=g/\SGood P x
section
variable {nt:Nat} {w:World} {S:Nat->Prop} {s:Dn.S Ty.T} {μ:Gh} {a:Act} {fs:List Fm}
theorem Jsc{w':World}{h:Heap}(o:Old w w'):Evo w S h μ w' S h μ:=
 ⟨o.os,o.tape,o.output,o.size,λb d _=>o.keep b d,λb cs el z a=>⟨cs,(o.keep b (Ag.1 a).1).trans a,rfl⟩,λ_ h=>h,λ_ h=>.inl h,λ_ h=>.inl h,rfl⟩
theorem RepF.old{w':World}(hF:RepF nt w S s μ a fs)(o:Old w w'):RepF nt w' S s μ a fs:=by have ev:=Jsc (S:=S) (μ:=μ) (h:=encH s) o;have f:RepH w' S (encH s) μ:=⟨λg ob e=>(hF.fr.hp.ob g ob e).evo hF.fr.hp ev (.refl _ _) λhl=>o.keep _ ((hF.fr.hp.ob g ob e).lt hl),hF.fr.hp.inj,hF.fr.hp.own,λb l=>Nat.lt_of_lt_of_le (hF.fr.hp.lt b l) o.size⟩;exact hF.step rfl ⟨λd=>(hF.fr.fr d).evo hF.fr.hp ev (.refl _ _),f,hF.fr.hp.marks hF.fr.df ev,hF.fr.sz⟩ (.refl s) hF.iv ev (.refl _ _)
theorem Jur{P:Program}{id:FuncId}{t:Ty}{tl:Array Value}{N:Nat->Prop}(hF:RepF nt w S s μ a fs){g v e:Nat}{el:TypeId}{l r:List t.T}(hx:SRun P id t tl w N l r)(hN:l≠[]->N (μ.b g))(ho:look g s.ob=some (.row v e el t l [] none false))(he:e=t.sz)(he0:0<e){cv:Value}
  (hv:Rep w S (encH s) μ (encC s (.own g v)) cv) {R:Ending->World->Prop} (hR:∀w',RepF nt w' S (s.obj g (.row v e el t r [] none false)) μ a fs->Evo w S (encH s) μ w' S (encH (s.obj g (.row v e el t r [] none false))) μ->R (.returned (.tuple #[])) w') :
  Calls P id (#[cv]++tl) w R:=by
 have H:=hx.len;have st:Stab s (s.obj g (.row v e el t r [] none false)):=X0 λo0 h0=>by rw [ho] at h0;injection h0 with h0;subst h0;exact ⟨rfl,by simp only [Ob.lenO];show List.length (α:=t.T) l+_=List.length (α:=t.T) r+_;rw [H]⟩
 have hlk:∀g',look g' (s.obj g (.row v e el t r [] none false)).ob=if g=g' then some (.row v e el t r [] none false) else look g' s.ob:=λg'=>Ke g g' _;have iv:=ju hF.iv st hlk (λc hc=>by cases hc) (hF.iv.free ho);have Z:=Yw hF.iv st hlk;have he1:encO (s.obj g (.row v e el t r [] none false)) (.row v e el t r [] none false)=.arr v e el (r.flatMap t.cs) false:=by simp [encO,Qr]
 rw [he1] at Z;have X:encH s g=some (.arr v e el (l.flatMap t.cs) false):=by rw [Jf ho];simp [encO,Qr]
 have hl0:K9 s g v=l.length:=by simp [K9,ho,Ob.ver,Ob.lenO]
 simp only [encC,hl0] at hv;have hnl:(l.flatMap t.cs=[]↔r.flatMap t.cs=[]):=Xa (by rw [Jj,Jj,H]);have vv:EvoV (encH s) μ (encH (s.obj g (.row v e el t r [] none false))) μ:=by
  intro B E f;rw [Z];by_cases F:B=g
  ·subst F;rw [X] at f;injection f with f;subst f;exact ⟨_,Jh _ _ _,Ap _,λ_=>⟨⟨rfl,rfl⟩,rfl,rfl,hnl⟩⟩
  ·exact ⟨E,by rw [Jc _ _ _ _ F];exact f,Ap _,λ_=>⟨⟨rfl,rfl⟩,.refl E⟩⟩
 have own_back:∀b,Own (encH (s.obj g (.row v e el t r [] none false))) μ b->Own (encH s) μ b:=λb ⟨B,E,f,hz,hl,F⟩=>by
  rw [Z] at f;by_cases Y:B=g
  ·subst Y;rw [Jh] at f;injection f with f;subst f;exact ⟨B,_,X,rfl,Ki.2 λq=>Ki.1 hl (hnl.1 q),F⟩
  ·rw [Jc _ _ _ _ Y] at f;exact ⟨B,E,f,hz,hl,F⟩
 cases hr0:hv with
 | pure hp=>cases hp
 | arr _ _ _ _ _ E L hv1 h11 hr1=>
  rw [X] at L;injection L with L;subst L;obtain ⟨esz,el',cells,fz,eo,hk⟩:=hr1 rfl;injection eo with eo1 eo2 eo3 eo4 eo5;subst eo2;subst eo4;by_cases G:l.flatMap t.cs=[]
  ·-- nothing to sort
   obtain ⟨-,hl00,A,rfl⟩:=hk.1 G;have K:l=[]:=Aj hl00;subst K;have hrn:r=[]:=Aj (by rw [H];rfl);subst hrn;refine (hx.emp rfl A).mono λe w' ⟨F,o⟩=>?_;subst F;have M:=hF.old o;have eh:encH (s.obj g (.row v e el t ([]:List t.T) [] none false))=encH s:=by
    rw [Z];funext B;by_cases F:B=g
    ·subst F;rw [Jh,X]
    ·rw [Jc _ _ _ _ F]
   refine hR w' (M.step rfl ⟨λd=>?_,by show RepH w' S (encH _) μ;rw [eh];exact M.fr.hp,M.fr.df,M.fr.sz⟩ st.on iv (by rw [eh];exact .refl) (by rw [eh];exact .refl _ _)) (by rw [eh];exact Jsc o);rw [Jbe hF.iv st];show Rep w' S (encH _) μ _ _;rw [eh];exact M.fr.fr d
  ·obtain ⟨A,cap,cs0,el0,z0,rfl,hcap,hb0,hsz0,hA⟩:=hk.2 G;obtain ⟨cs,hb,hsz,hold,-⟩:=hF.fr.hp.ob g _ X G;have K:l≠[]:=λq=>by subst q;exact G rfl
   have hlp:0<l.length:=List.length_pos_iff.2 K;have hA:=hA (by omega);rw [Nat.zero_mul,Nat.add_zero] at hA;subst hA;have hcl:(l.flatMap t.cs).length=l.length * t.sz:=Jj l;have scl:∀ {m:List t.T} {i:Nat} {y:AV},(m.flatMap t.cs)[i]?=some y->Scl y:=λ{m i y} O=>by obtain ⟨u,_,hu⟩:=List.mem_flatMap.1 (Ac O);exact Zw hx.flat u y hu
   refine (hx.run K (μ.b g) (μ.o g) cap cs el (hN K) hb (by omega) hcap.1 λi y O=>vOf_eq (scl O) (hold i y O).1).mono λY w' ⟨F,rb⟩=>?_;subst F;obtain ⟨cs',hb',Q,hnew⟩:=rb.row el hb;have hown:Own (encH s) μ (μ.b g):=⟨g,_,X,rfl,Ki.2 G,rfl⟩;have ev:Evo w S (encH s) μ w' S (encH (s.obj g (.row v e el t r [] none false))) μ:=by
    refine ⟨rb.os,rb.tape,rb.output,rb.size,λb hb1 hn=>rb.keep b hb1 λq=>hn (q▸hown),λb c1 el1 z1 J=>?_,λ_ h=>h,λ_ h=>.inl h,λb ho=>.inl (own_back b ho),rfl⟩;by_cases hbe:b=μ.b g
    ·subst hbe;rw [hb] at J;injection J with J;injection J with q1 q2 q3;subst q1;subst q2;subst q3;exact ⟨cs',hb',Q⟩
    ·exact ⟨c1,(rb.keep b (Ag.1 J).1 hbe).trans J,rfl⟩
   have hp':RepH w' S (encH (s.obj g (.row v e el t r [] none false))) μ:=by
    refine ⟨λB E f=>?_,λB g2 E o2 f M l1 l2 F=>?_,λB E f hz hl hs=>?_,λb hb1=>Nat.lt_of_lt_of_le (hF.fr.hp.lt b hb1) rb.size⟩
    ·by_cases F:B=g
     ·subst F;rw [Z,Jh] at f;injection f with f;subst f;refine λ_=>⟨cs',hb',by rw [Q,Jj,H,<-Jj];exact hsz,λi y O=>?_,λq=>by cases q⟩;rw [hnew i y O];exact ⟨.pure (Jgw (scl O)).1,(Jgw (w:=w) (S:=S) (scl O)).2⟩
     ·have h1':encH s B=some E:=by rw [Z,Jc _ _ _ _ F] at f;exact f
      exact (hF.fr.hp.ob B E h1').evo hF.fr.hp ev vv λhl=>rb.keep _ ((hF.fr.hp.ob B E h1').lt hl) λq=>F (hF.fr.hp.inj B g _ _ h1' X hl (Ki.2 G) q)
    ·have back:∀B E,encH (s.obj g (.row v e el t r [] none false)) B=some E->E.live=true->∃o2,encH s B=some o2/\o2.live=true:=λB E f hl=>by
      rw [Z] at f;by_cases Y:B=g
      ·subst Y;exact ⟨_,X,Ki.2 G⟩
      ·rw [Jc _ _ _ _ Y] at f;exact ⟨E,f,hl⟩
     obtain ⟨p1,q1,r1⟩:=back B E f l1;obtain ⟨p2,q2,r2⟩:=back g2 o2 M l2;exact hF.fr.hp.inj B g2 p1 p2 q1 q2 r1 r2 F
    ·obtain ⟨g2,o2,M,hz2,hl2,Y⟩:=own_back (μ.b B) ⟨B,E,f,hz,hl,rfl⟩;exact hF.fr.hp.own g2 o2 M hz2 hl2 (Y▸hs)
   refine hR w' (hF.step rfl ⟨λd=>?_,hp',hF.fr.hp.marks hF.fr.df ev,hF.fr.sz⟩ st.on iv ev vv) ev;rw [Jbe hF.iv st];exact (hF.fr.fr d).evo hF.fr.hp ev vv
theorem Jx6{P:Program}{ops:Array Oper}{o:Oper}{lo:LOper}(a:comp P [] nt ops o=some lo):Zq P [] o.dst o.op=some lo.op:=by
 unfold comp at a;cases d:Zq P [] o.dst o.op with
 | none=>rw [d] at a;cases a
 | some lop=>
  rw [d] at a;simp only at a;split at a
  ·split at a
   ·injection a with a;rw [<-a]
   ·split at a
    ·split at a
     ·injection a with a;rw [<-a]
     ·cases a
    ·cases a
  ·cases a
theorem Jtd{P:Program}{ops:Array Oper}{o:Oper}{lo:LOper}{f:FuncId}{m:List LO}(v:comp P [] nt ops o=some lo)(hl:lo.op=.callp f m):∃args:Array Operand,cLOs args.toList=some m/\∀ {w:World},FnOK P f->(execOp a.eval o).run P w=.ok (.enter f (args.map a.eval)) w:=by
 have d:=Jx6 v;rw [hl] at d;obtain ⟨dst,oop,oty,opos,oafter,ogd⟩:=o;simp only at d;cases oop
 case call c=>
  obtain ⟨callee,cargs,argTypes⟩:=c;simp only [Zq] at d;cases callee
  case value x=>
   cases x
   case func g=>
    simp only at d;split at d
    ·rename_i l h;have:Jll [] dst=.p:=rfl;rw [this] at d;injection d with d;injection d with A y;subst A;subst y;exact ⟨cargs,h,λ{w} r=>by simp [execOp,resolve,Act.eval,Deferred.ofValue,invoke,Qb r]⟩
    ·cases d
   case tmp x=>
    simp only at d;obtain ⟨l,h,e⟩:=Qy d;cases e
   all_goals cases d
  case builtin b=>
   exfalso;cases b<;>simp only at d<;>repeat' split at d
   all_goals first|(cases d;done)|(injection d with d;cases d;done)|(simp at d;done)|skip
  all_goals cases d
 all_goals
  exfalso;simp only [Zq] at d
  repeat' split at d
  all_goals first|(cases d;done)|contradiction|(injection d with d;cases d;done)|(obtain ⟨l,h,e⟩:=Qy d;cases e;done)|skip
theorem srt_of{P:Program}{ops:Array Oper}{o:Oper}{lo:LOper}{cx:Cx}{c:SCt}{v:V Ty.T}(B:SoOK P cx)(hs:RepS nt w S (enc s) μ a)(L:comp P [] nt ops o=some lo)(X:Inv s)(d:srtF val cx s lo.op=some (c,v)) :
  ∃cv,SGood P c/\Rep w S (encH s) μ (encV s v) cv/\(execOp a.eval o).run P w=.ok (.enter c.id (#[cv]++c.j)) w:=by
 unfold srtF at d;split at d
 ·rename_i f x y hl;split at d
  ·rename_i g N;cases e:cx.so f g with
   | none=>rw [e] at d;cases d
   | some c'=>
    rw [e] at d;simp only [Option.bind_some] at d;split at d
    ·rename_i E;injection d with d;simp only [Af] at d;obtain ⟨rfl,rfl⟩:=d;obtain ⟨K,M,sg⟩:=B f g _ e;obtain ⟨args,H,h⟩:=Jtd (a:=a) L hl;obtain ⟨G,F⟩:=Jbt hs H;have A:=F 0 _ rfl;have r:=F 1 _ rfl;rw [Jw] at A r;rw [N] at r;have r:Rep w S (encH s) μ (.fn g []) ((args.map a.eval).getD 1 undef):=r;obtain ⟨cs,R,Q,-⟩:=r.fn_inv;have O:cs=#[]:=Array.eq_empty_of_size_eq_zero Q.symm;have l:(args.map a.eval).size=2:=by rw [G];rfl
     refine ⟨(args.map a.eval).getD 0 undef,sg,A,?_⟩;rw [<-K] at h;rw [h sg.fn]
     congr 2
     rw [show c'.j=#[.func (.func c'.g) #[] #[]] by simp [SCt.j,E],M];apply Array.ext
     ·rw [l];rfl
     ·intro i m J;rw [l] at m
      match i,m with
      | 0,_=>
       have:(args.map a.eval)[0]=(args.map a.eval).getD 0 undef:=by rw [Aa,Ah (by omega:0<(args.map a.eval).size)];rfl
       rw [this];rfl
      | 1,_=>
       have:(args.map a.eval)[1]=(args.map a.eval).getD 1 undef:=by rw [Aa,Ah (by omega:1<(args.map a.eval).size)];rfl
       rw [this,R,O];rfl
    ·cases d
  ·cases d
 ·rename_i f x hl;cases e:cx.so f 0 with
  | none=>rw [e] at d;cases d
  | some c'=>
   rw [e] at d;simp only [Option.bind_some] at d;split at d
   ·cases d
   ·rename_i E;have E:c'.two=false:=by simpa using E
    injection d with d;simp only [Af] at d;obtain ⟨rfl,rfl⟩:=d;obtain ⟨K,M,sg⟩:=B f 0 _ e;obtain ⟨args,H,h⟩:=Jtd (a:=a) L hl;obtain ⟨G,F⟩:=Jbt hs H;have A:=F 0 _ rfl;rw [Jw] at A;have l:(args.map a.eval).size=1:=by rw [G];rfl
    refine ⟨(args.map a.eval).getD 0 undef,sg,A,?_⟩;rw [<-K] at h;rw [h sg.fn]
    congr 2
    rw [show c'.j=#[] by simp [SCt.j,E]];apply Array.ext
    ·rw [l];rfl
    ·intro i m J;rw [l] at m;have:i=0:=by omega
     subst this;have:(args.map a.eval)[0]=(args.map a.eval).getD 0 undef:=by rw [Aa,Ah (by omega:0<(args.map a.eval).size)];rfl
     rw [this];rfl
 ·cases d
theorem nil_of{P:Program}{ro:Option Nat}{ops:Array Oper}{o:Oper}{lo:LOper}{ne:Bool}{m:Ty.T I}(hs:RepS nt w S (enc s) μ a)(Z:comp P [] nt ops o=some lo)(v:nilOf val s lo.op=some (ne,m)) :
  ∃g:Bool,(g=true->m=(0:Int))/\∀ {K:Act->World->Prop} {Q:Exit->Act->World->Prop},K (a.put o.dst (.bool (if ne then !g else g))) w->wpO ro P o a w K Q:=by
 unfold nilOf at v;split at v
 ·rename_i ne' x hl;split at v
  ·rename_i t l hx;injection v with v;simp only [Af] at v;obtain ⟨rfl,rfl⟩:=v;have f:=Jx6 Z;rw [hl] at f;obtain ⟨dst,oop,oty,opos,oafter,ogd⟩:=o;simp only at f;have key:∃(op:BinOp) (r e:TypeId) (X Y:Operand) (yt:TypeId),oop=.binOp op r X Y yt/\P.underlying r=some (.slice e)/\cLO X=some x/\cLO Y=some (.c .nils)/\op=(if ne' then .neq else .eql):=by
    cases oop
    case binOp op r X Y yt=>
     simp only [Zq] at f;split at f
     ·split at f
      ·split at f<;>first|(injection f with f;cases f;done)|cases f
      ·split at f<;>first|(injection f with f;cases f;done)|cases f
      ·injection f with f;cases f
     ·rename_i e x' B F E;split at f
      ·injection f with f;injection f with H G;subst H;subst G;exact ⟨_,_,e,X,Y,yt,rfl,B,F,E,rfl⟩
      ·injection f with f;injection f with H G;subst H;subst G;exact ⟨_,_,e,X,Y,yt,rfl,B,F,E,rfl⟩
      ·cases f
     ·split at f
      ·split at f<;>first|(injection f with f;cases f;done)|cases f
      ·split at f<;>first|(injection f with f;cases f;done)|cases f
      ·cases f
     ·cases f
    all_goals
     exfalso;simp only [Zq] at f
     repeat' split at f
     all_goals first|(cases f;done)|contradiction|(injection f with f;cases f;done)|(obtain ⟨m',hm,e⟩:=Qy f;cases e;done)|skip
   obtain ⟨op,r,e,X,Y,yt,rfl,B,F,E,rfl⟩:=key;have hX:=Ji hs F;rw [Jw,hx] at hX;have hX:Rep w S (encH s) μ (.lst (List.length (α:=t.T) l) (List.flatMap (α:=t.T) t.cs l)) (a.eval X):=hX;have hY:=Ji hs E;have hY:a.eval Y=.slice none 0 0:=Rep.nils_inv (h:=(enc s).h) (by simpa [St.ev] using hY);have kk:∃g:Bool,(g=true/\a.eval X=.slice none 0 0/\List.length (α:=t.T) l=0)\/(g=false/\∃A n c,a.eval X=.slice (some A) n c):=by
    generalize hL:List.length (α:=t.T) l=L at hX;generalize List.flatMap (α:=t.T) t.cs l=C at hX;generalize a.eval X=V at hX;cases hX with
    | pure O=>
     cases O with
     | lst0=>exact ⟨true,.inl ⟨rfl,rfl,rfl⟩⟩
     | lst n l a' cap cv=>exact ⟨false,.inr ⟨rfl,a',_,cap,rfl⟩⟩
   obtain ⟨g,M⟩:=kk;have J:(Op.equal r (a.eval X) (.slice none 0 0)).run P w=.ok g w:=by
    have hd:∀d,(Op.equalIn (d+1) r (a.eval X) (.slice none 0 0)).run P w=.ok g w:=λd=>by
     rcases M with ⟨rfl,y,-⟩|⟨rfl,A,n,c,y⟩
     ·rw [y];simp [Op.equalIn,run_underlying B]
     ·rw [y];simp [Op.equalIn,run_underlying B]
    exact hd 9999
   have R:∃q n c,a.eval X=.slice q n c:=by
    rcases M with ⟨rfl,y,-⟩|⟨rfl,A,n,c,y⟩
    ·exact ⟨_,_,_,y⟩
    ·exact ⟨_,_,_,y⟩
   obtain ⟨q,n,c,y⟩:=R;refine ⟨g,λh=>?_,λ{K Q} hK=>?_⟩
   ·rcases M with ⟨-,-,N⟩|⟨N,-⟩
    ·show ((List.length (α:=t.T) l:Nat):Int)=0;omega
    ·rw [N] at h;cases h
   ·refine Vv.wp_value (cv:=.bool (if ne' then !g else g)) (w':=w) ?_ hK;have e3:∀op,execOp a.eval { dst:=dst,op:=.binOp op r X Y yt,type:=oty,pos:=opos,after:=oafter,guard:=ogd }=(do pure (.value (<-(do eqGuard op r X Y (a.eval X) (a.eval Y);binOp op r (a.eval X) (a.eval Y))))):=λop=>by simp only [execOp]<;>rfl
    rw [e3,hY];rw [y] at J ⊢;cases ne' with
    | true=>simp [eqGuard,binOp,Sem.run_bind,J,Result.andThen]
    | false=>simp [eqGuard,binOp,Sem.run_bind,J,Result.andThen]
  ·cases v
 ·cases v
end
section
variable {s s':Dn.S Ty.T}
theorem Jmu(a:s'.ob=s.ob)(d:s'.ln=s.ln):encC s'=encC s:=by funext c;cases c<;>simp only [encC,K9,a,d]
theorem Jc3(a:s'.ob=s.ob)(d:s'.ln=s.ln)(v:V Ty.T):encV s' v=encV s v:=by cases v<;>simp only [encV,Jmu a d]
theorem Zi(a:s'.ob=s.ob)(d:s'.ln=s.ln)(e:s'.mo=s.mo:=by rfl):encH s'=encH s:=by
 funext g;simp only [encH,a,e];cases look g s.ob with
 | none=>rfl
 | some o=>cases o<;>simp only [Option.map_some,encO,Jmu a d]
theorem Jt9(s:Dn.S Ty.T):s.pop.mo=s.mo:=by unfold Dn.S.pop;split<;>rfl
def act0:Act:={ tmps:=#[],defers:=[] }
theorem rep0{w:World}{S:Nat->Prop}{h:Heap}{μ:Gh}(a:RepH w S h μ):RepS 0 w S ⟨λ_=>.any,h⟩ μ act0:=⟨λ_=>.any _,a,.nil,Nat.zero_le _⟩
theorem Jwz{lo:List (List (Nat×V Ty.T))}{ob:List (Nat×Ob Ty.T)}{ln:List (Nat×Nat×Ty.T I)}{mo:Option (Mo Ty.T)}:enc (⟨[],lo,ob,ln,mo⟩:Dn.S Ty.T)=⟨λ_=>.any,encH ⟨[],lo,ob,ln,mo⟩⟩:=rfl
theorem Jmr{P:Program}{nt:Nat}{ops:Array Oper}{o:Oper}{lo:LOper}(a:comp P [] nt ops o=some lo):Jvl nt lo.dst=true:=by
 unfold comp at a;split at a
 ·cases a
 ·split at a
  ·rename_i hd;split at a
   ·injection a with a;subst a;exact hd
   ·split at a
    ·split at a
     ·injection a with a;subst a;exact hd
     ·cases a
    ·cases a
  ·cases a
theorem RepF.put{nt:Nat}{w:World}{S:Nat->Prop}{s:Dn.S Ty.T}{μ:Gh}{a:Act}{fs:List Fm}(h:RepF nt w S s μ a fs){d:Option Nat}(hd:Jvl nt d=true){v:V Ty.T}{cv:Value}(ok:okV s v)(e:Rep w S (encH s) μ (encV s v) cv) :
  RepF nt w S (s.put d v) μ (a.put d cv) fs:=by have eh:=Jb1 s d v;refine h.step (by cases d<;>rfl) ?_ (.put s d v) (h.iv.put ok d) (by rw [eh];exact .refl) (by rw [eh];exact .refl _ _);rw [Jmw];exact Jjt h.fr hd e h.fr.hp .refl (.refl _ _)
end
theorem to_in{ro:Option Nat}{P:Program}{nt:Nat}{cm:List (Nat×CM)}{ops:Array Oper}{o:Oper}{lo:LOper}{a:Act}{w:World}{K:Act->World->Prop}{Q:Exit->Act->World->Prop}(e:comp P cm nt ops o=some lo)
  (h:if Region.wanted o (yielded ops a.tmps)=true then wpO ro P o a w K Q else K (a.put o.dst undef) w) :
  if Region.wanted o (yielded ops a.tmps)=true then o.wpIn (Fr ro) 0 P a w K Q else (∀f,o.about P w a.eval=some f->(Fr ro).fn f)/\K (a.put o.dst undef) w:=by
 by_cases d:Region.wanted o (yielded ops a.tmps)=true
 ·rw [if_pos d] at h ⊢;exact Js3 (Jma e) h
 ·rw [if_neg d] at h ⊢;exact ⟨λ_ _=>trivial,h⟩
theorem round_fr{ro:Option Nat}{n:Nat}{P:Program}{l:Nat}{f:FuncId}{tmps:Array Value}{x y:Code}{w:World}{R:Ending->World->Prop}(h:RoundIn Fence.wide n P l f tmps x y w R):RoundIn (Fr ro) n P l f tmps x y w R:=by
 cases ro with
 | none=>exact h
 | some l=>exact h
theorem Jmi{α:Type}{c:Prop}[Decidable c]{x:Option α}{y:α}(h:(if c then x else val.no)=some y):c/\x=some y:=by
 split at h
 ·exact ⟨by assumption,h⟩
 ·cases h
theorem nlv_some{n:Int}{α:Type}{k:Bool->Option α}{r:α}{b:Bool}(d:b=true->n=0)(h:val.nq n k=some r):k b=some r:=by
 have h:nlv n k=some r:=h;unfold nlv at h;split at h
 ·split at h
  ·rename_i e;cases b with
   | false=>exact h
   | true=>rw [e];exact h
  ·cases h
 ·rename_i a;cases b with
  | false=>exact h
  | true=>exact (a (d rfl)).elim
theorem sort_den{P:Program}{nt:Nat}{w:World}{S:Nat->Prop}{s:Dn.S Ty.T}{μ:Gh}{a:Act}{fs:List Fm}{c:SCt}(hx:SGood P c)(hF:RepF nt w S s μ a fs){v:V Ty.T}{cv:Value}(H:Rep w S (encH s) μ (encV s v) cv){α:Type}{r:α}{k:Dn.S Ty.T->Option α}
  (hd:sortD val c s v k=some r) {R:Ending->World->Prop} (hR:∀w' s',RepF nt w' S s' μ a fs->Evo w S (encH s) μ w' S (encH s') μ->k s'=some r->R (.returned (.tuple #[])) w'):Calls P c.id (#[cv]++c.j) w R:=by
 unfold sortD at hd;split at hd
 ·rename_i g ver;split at hd
  ·rename_i J e el t l M;obtain ⟨⟨F,Q,E⟩,O⟩:=Jmi hd;subst F;subst Q;obtain ⟨f,B,N⟩:=Je O;obtain ⟨et,A⟩:=Qh B;injection et with et;subst et;have y:f=l:=A;subst y;have d:Jam (c.fn f) (λG=>k (s.obj g (.row J c.t.sz el c.t G [] none false)))=some r:=N;cases m:c.fn f with
   | none=>rw [m] at d;cases d
   | some G=>
    rw [m] at d;exact Jur hF (hx.at m w) (λ_=>trivial) M rfl E H λw' L K=>hR w' _ L K d
  ·cases hd
 ·have e:cv=.slice none 0 0:=Rep.nils_inv (h:=encH s) H;subst e;refine (hx.nilq w).mono λe w' ⟨F,o⟩=>?_;subst F;exact hR w' s (hF.old o) (Jsc o) hd
 ·cases hd
theorem Jsm{ro:Option Nat}{P:Program}{nt:Nat}{ops:Array Oper}{call:Vv.Call}{base:Nat}{cx:Cx}{inl:Inl}{n:List Nat}{hs:List (Nat×Hd)}{Q:Exit->Act->World->Prop}(hC:Yg call cx.ct)(d:jg P call)(hI:Jnf P hs inl)(Y:SoOK P cx){α:Type}{r:α}{k:Dn.S Ty.T->Option α}{fs:List Fm}(hh:HsOK P hs fs)(hfs:FsOK fs) :
  ∀ {l:List Nat} {os:List Oper} {L:List (Nat×LOper)} {w:World} {S:Nat->Prop} {s:Dn.S Ty.T} {μ:Gh} {a:Act},Jbk P [] nt ops l=some L->l.map (λi=>ops[i]?)=os.map some->RepF nt w S s μ a fs->Jbl val inl cx base n L s k=some r ->
  (∀a' w' S' μ' s',RepF nt w' S' s' μ' a' fs->Evo w S (encH s) μ w' S' (encH s') μ'->k s'=some r->Q .normal a' w')->wpListIn (Fr ro) 0 P ops Q os a w
 | [],os,L,w,S,s,μ,a,A,X,h,hd,hQ=>by
  cases os with
  | cons o os=>simp at X
  | nil=>
   injection A with A;subst A;exact hQ _ _ _ _ _ h .refl hd
 | i::l,[],L,w,S,s,μ,a,A,X,h,hd,hQ=>by simp at X
 | i::l,o::os,L,w,S,s,μ,a,A,X,h,hd,hQ=>by
  simp only [List.map_cons,List.cons.injEq] at X;obtain ⟨ho1,ho2⟩:=X;simp only [Jbk,ho1] at A;cases hx:comp P [] nt ops o with
  | none=>rw [hx] at A;cases A
  | some lo=>
   cases hl:Jbk P [] nt ops l with
   | none=>rw [hx,hl] at A;cases A
   | some L'=>
    rw [hx,hl] at A;injection A with A;subst A;refine wpListIn_step λK hK=>to_in hx ?_;have next:∀ {a1 w1 S1 μ1 y},RepF nt w1 S1 y μ1 a1 fs->Evo w S (encH s) μ w1 S1 (encH y) μ1->Jbl val inl cx base n L' y k=some r->K a1 w1:=λE J d1=>
     hK _ _ (Jsm hC d hI Y hh hfs hl ho2 E d1 λa2 w2 S2 μ2 s2 q1 q2 q3=>hQ _ _ _ _ _ q1 (J.trans q2) q3)
    simp only [Jbl] at hd;split at hd
    ·rcases Jrn h.iv hd with ⟨y,J,on1,N,hg,hd⟩|⟨y,g,want,J,on1,N,hg,hv,hd⟩
     ·have H:=h.alike J on1 N;have eh:encH y=encH s:=congrArg St.h J;obtain ⟨wd,wn,ws⟩:=Jo3 H.fr hx;have hw:Region.wanted o (yielded ops a.tmps)=true:=by
       cases G:lo.guard with
       | none=>exact wn G
       | some p=>
        obtain ⟨g,want⟩:=p;have:=(ws g want G).1 want (by rw [J];exact hg g want G);rw [this];cases want<;>rfl
      split at hd
      ·rename_i c v hf;rw [if_pos hw];obtain ⟨cv,sg,hr,F⟩:=srt_of Y H.fr hx N hf;have fin:Calls P c.id (#[cv]++c.j) w λe w'=>∃cv,e=.returned cv/\K (a.put o.dst cv) w':=by
        refine sort_den sg H hr hd λw' s2 E B M=>⟨_,rfl,?_⟩;rw [<-wd];refine next (E.put (Jmr hx) (v:=.tp []) (λc A=>(by cases A)) (.pure (.tup [] #[] rfl λi x h=>(by cases h)))) ?_ M
        rw [Jb1];rw [eh] at B;exact B
       exact Jd2 F fin λe w' he=>he
      split at hd
      ·rename_i f vs hf;rw [if_pos hw];obtain ⟨okv,cargs,c1,c2,c3,c4⟩:=enter_of (cx:=cx) (w:=w) H.fr hx N hf;obtain ⟨fk,hcall'⟩:=hI hd;have hps:RepF 0 w S (y.push (Jaz (Jep L' n)) []) μ act0 (⟨nt,a,none,w.heap.size⟩::fs):=H.push (λp hp=>by cases hp) (λj r h=>by cases h) (by rw [Jwz];have:encH (⟨[],kept y.sl (Jaz (Jep L' n))::y.lo,y.ob,y.ln,y.mo⟩:Dn.S Ty.T)=encH y:=Zi rfl rfl;rw [this];exact rep0 H.fr.hp) rfl
       have eh2:encH (y.push (Jaz (Jep L' n)) [])=encH y:=Zi rfl rfl;have hcs:=hcall' hps (hh.push _) (hfs.push (by intro j r h;cases h)) okv c1 (λi x hx=>by
        rw [eh2,show encV (y.push (Jaz (Jep L' n)) []) x=encV y x from Jc3 rfl rfl x];exact c2 i x hx) (R:=λe w'=>∃cv,e=.returned cv/\K (a.put o.dst cv) w') rfl λw' S' μ' v s' cv E B M r4 r5=>⟨cv,rfl,by
        rw [eh2,eh] at r4;rw [<-wd];refine next (E.put (Jmr hx) B M) ?_ r5
        rw [Jb1];exact r4⟩
       cases hb:Am yB f with
       | false=>exact Jd2 (c3 hb (fk hb)) (hcs.1 hb) λe w' he=>he
       | true=>
        obtain ⟨j,e2,F⟩:=c4 hb;obtain ⟨q,q1,q2,q3⟩:=hcs.2 j e2 rfl;unfold wpO;rw [F,run_yield q1 q2,Oper.uponIn_round];refine ⟨λh=>(by cases h),(round_fr q3).mono λe w' he=>?_⟩;obtain ⟨cv,rfl,Z⟩:=he;exact Z
      ·obtain ⟨op',s2,al,st,iv2,on2,Z⟩:=Jyb (call:=call) (o:=lo) (k:=λ_ s'=>Jbl val inl cx base n L' s' k) hC N (λg want e=>by rw [J];exact hg g want e) hd;obtain ⟨cm,O⟩:=Jf2 hx al;refine Jnk d H.fr O st λa' w' S' μ' r0 E B M=>next (H.step r0 E on2 iv2 B M) ?_ Z
       rw [<-eh];exact B
     ·have H:=h.alike J on1 N;have eh:encH y=encH s:=congrArg St.h J;obtain ⟨op',s2,al,st,iv2,on2,Z⟩:=Jhu (call:=call) (base:=base) (o:=lo) (k:=λ_ s'=>Jbl val inl cx base n L' s' k) N hg (by rw [J];exact hv) hd;obtain ⟨cm,O⟩:=Jf2 hx al;refine Jnk d H.fr O st λa' w' S' μ' r0 E B M=>next (H.step r0 E on2 iv2 B M) ?_ Z
      rw [<-eh];exact B
    ·split at hd
     ·rename_i ne m hn G;obtain ⟨wd,wn,ws⟩:=Jo3 h.fr hx;rw [if_pos (wn G)];obtain ⟨b0,hz,hwp⟩:=nil_of (P:=P) (ro:=ro) h.fr hx hn;refine hwp ?_;rw [<-wd];refine next (h.put (Jmr hx) (v:=.c (.lf .bool (if ne=true then val.nt b0 else b0))) (Qi (Jo _ rfl)) ?_) ?_ (nlv_some hz hd)
      ·cases ne<;>exact .pure (.bool _)
      ·rw [Jb1];exact .refl
     ·exact step_den hC d h hx hd λa' w' S' μ' s' op' E B M=>next E B M
def Gh.lab(μ:Gh)(j x:Nat):Gh:=⟨μ.b,μ.o,upd μ.l j x⟩
section
variable {w:World} {S:Nat->Prop} {s:Dn.S Ty.T} {h:Heap} {μ:Gh} {j x:Nat}
theorem Jgv{c:C Ty.T}(G:noYc j c=true){v:Value}(d:Rep w S h μ (encC s c) v):Rep w S h (Gh.lab μ j x) (encC s c) v:=by
 have fl:∀ {y:AV},y.flat=true->Rep w S h μ y v->Rep w S h (Gh.lab μ j x) y v:=λJ d=>.pure (d.flat J);have ar:∀ {g ver off len:Nat} {v:Value},Rep w S h μ (.arr g ver off len) v->Rep w S h (Gh.lab μ j x) (.arr g ver off len) v:=λd=>by
  cases d with
  | pure B=>exact .pure B
  | arr _ _ _ _ _ o E A r d=>exact .arr _ _ _ _ _ o E A r d
 have pr:∀ {g ver off:Nat} {v:Value},Rep w S h μ (.ptr g ver off) v->Rep w S h (Gh.lab μ j x) (.ptr g ver off) v:=λd=>by
  cases d with
  | pure B=>exact .pure B
  | ptr _ _ _ _ o E A r d=>exact .ptr _ _ _ _ o E A r d
 cases c with
 | any=>exact .any _
 | lf t y=>
  rcases Jly (Jab t y) with e|e
  ·simp only [encC];rw [e];exact .any _
  ·exact fl e d
 | kb b=>exact fl rfl d
 | k y=>exact fl G d
 | rp t y o=>exact fl rfl d
 | own g ver=>exact ar d
 | part g ver a b=>exact ar d
 | ptr g ver o=>exact pr d
 | pti g ver e i o=>exact pr d
 | map g ver=>
  cases d with
  | pure B=>exact .pure B
  | map _ _ _ o E A r d=>exact .map _ _ _ o E A r d
 | fn f l=>
  obtain ⟨cs,e,r,K⟩:=d.fn_inv;subst e;refine .fn f _ cs r λi y m=>?_;have:=K i y m;rw [Ad] at m;cases F:l[i]? with
  | none=>rw [F] at m;cases m
  | some p=>rw [F] at m;injection m with m;subst m;exact pr this
 | yl i=>
  have:=d.yld_inv;subst this;have H:i≠j:=λe=>by subst e;simp [noYc] at G
  have:=Rep.yld (w:=w) (S:=S) (h:=h) (μ:=Gh.lab μ j x) i;simp only [Gh.lab,Jc _ _ _ _ H] at this;exact this
theorem Jt8{v:V Ty.T}(r:noYv j v=true){cv:Value}(g:Rep w S h μ (encV s v) cv):Rep w S h (Gh.lab μ j x) (encV s v) cv:=by
 cases v with
 | c y=>exact Jgv r g
 | ag l=>
  have g:Rep w S h μ (.agg (l.map (encC s))) cv:=g;obtain ⟨cs,e,A,o⟩:=g.agg_inv;subst e;refine .agg _ cs A (λi y a=>(o i y a).2) λi y a=>?_;have:=(o i y a).1;rw [Ad] at a;cases d:l[i]? with
  | none=>rw [d] at a;cases a
  | some p=>rw [d] at a;injection a with a;subst a;exact Jgv (Ab.1 r p (Ac d)) this
 | tp l=>
  have g:Rep w S h μ (.tup (l.map λp=>if p.1 then .agg (p.2.map (encC s)) else Qx (p.2.map (encC s)))) cv:=g;obtain ⟨cs,e,A,o⟩:=g.tup_inv;subst e;refine .tup _ cs A λi y a=>?_;have f:=o i y a;rw [Ad] at a;cases d:l[i]? with
  | none=>rw [d] at a;cases a
  | some p=>
   rw [d] at a;injection a with a;have m:=Ab.1 r p (Ac d);subst a;obtain ⟨b,q⟩:=p;cases b with
   | true=>
    have f:Rep w S h μ (.agg (q.map (encC s))) _:=f;obtain ⟨cs',e,E,B⟩:=f.agg_inv;show Rep w S h (Gh.lab μ j x) (.agg (q.map (encC s))) _;rw [e];refine .agg _ cs' E (λi y a=>(B i y a).2) λi y a=>?_;have:=(B i y a).1;rw [Ad] at a;cases d:q[i]? with
    | none=>rw [d] at a;cases a
    | some p=>rw [d] at a;injection a with a;subst a;exact Jgv (Ab.1 m p (Ac d)) this
   | false=>
    have f:Rep w S h μ (Qx (q.map (encC s))) _:=f;show Rep w S h (Gh.lab μ j x) (Qx (q.map (encC s))) _
    match q,m,f with
    | [],_,_=>exact .any _
    | [c],m,f=>exact Jgv (Ab.1 m c (Ai.2 rfl)) f
    | _::_::_,_,_=>exact .any _
def AObj.cells:AObj->List AV
 | .box _ c=>c
 | .arr _ _ _ c _=>c
 | .map _ es _=>es.map (·.2)
theorem Jfb{x:AV}(h:x.flat=true):x.noNm=true:=by cases x<;>first|rfl|cases h
theorem Jld:∀ {l:List AV},l.all AV.flat=true->Jvr l=true
 | [],_=>rfl
 | x::l,h=>by rw [List.all_cons,Al] at h;show (x.noNm&&Jvr l)=true;rw [Jfb h.1,Jld h.2];rfl
theorem avT_noNm(t:Ty)(x:t.T):(avT t x).noNm=true:=by
 unfold avT;split
 ·exact Jld (Jab t x)
 ·rename_i h;have a:t.one=true:=by rw [Jfr] at h;simpa using h
  have:=Jab t x;rw [Jlh a] at this;exact Jfb (by simpa using this)
theorem Jwc(o:Ob Ty.T):∀y∈AObj.cells (encO s o),y.noNm=true\/∃c∈o.kids,y=encC s c:=by
 intro y a;cases o with
 | mp v kt vt es=>
  obtain ⟨p,f,rfl⟩:=Ae.1 a;obtain ⟨e,-,rfl⟩:=Ae.1 f;exact .inl (avT_noNm vt e.2)
 | em v kt vt el=>cases a
 | box v cs=>obtain ⟨c,d,rfl⟩:=Ae.1 a;exact .inr ⟨c,d,rfl⟩
 | lit v e el cs z=>obtain ⟨c,d,rfl⟩:=Ae.1 a;exact .inr ⟨c,d,rfl⟩
 | row v e el t l g nest z=>
  rcases List.mem_append.1 a with a|a
  ·cases nest with
   | none=>exact .inl (Jfb (Ab.1 (Q3 t l) y a))
   | some p=>
    rcases List.mem_or_eq_of_mem_set a with a|rfl
    ·exact .inl (Jfb (Ab.1 (Q3 t l) y a))
    ·exact .inr ⟨p.2,List.mem_append_left _ (Ai.2 rfl),rfl⟩
  ·obtain ⟨c,d,rfl⟩:=Ae.1 a;exact .inr ⟨c,List.mem_append_right _ d,rfl⟩
theorem Jtg(d:noYs j s=true):(∀p∈s.sl,noYv j p.2=true)/\(∀l∈s.lo,∀p∈l,noYv j p.2=true)/\∀p∈s.ob,∀c∈p.2.kids,noYc j c=true:=by unfold noYs at d;simp only [Al] at d;exact ⟨λp a=>Ab.1 d.1.1 p a,λl hl p a=>Ab.1 (Ab.1 d.1.2 l hl) p a,λp a c e=>Ab.1 (Ab.1 d.2 p a) c e⟩
theorem repH_lab(N:noYs j s=true)(A:RepH w S (encH s) μ):RepH w S (encH s) (Gh.lab μ j x):=by
 refine ⟨λg o F=>?_,A.inj,A.own,A.lt⟩;have d:=A.ob g _ F;rcases Jfq F with ⟨ob,G,rfl⟩|⟨-,hmo⟩
 rotate_left
 ·obtain ⟨-,m,-,⟨-,rfl⟩|⟨-,-,e,-,rfl⟩⟩:=Jau hmo
  ·obtain ⟨es',clock,h,f,a3,a4⟩:=d;refine ⟨es',clock,h,f,a3,λi k v B=>?_⟩;obtain ⟨e,L,K,J⟩:=a4 i k v B;refine ⟨e,L,K,?_⟩;obtain ⟨Q,-,H⟩:=Jm4 B;injection H with _ H;subst H;cases J with
   | pure A=>exact .pure A
   | arr _ _ _ _ _ o F M d E=>exact .arr _ _ _ _ _ o F M d E
  ·intro r;obtain ⟨cs,h,f,a3,a4⟩:=d r;exact ⟨cs,h,f,λi y a=>⟨.pure ((a3 i y a).1.flat (Ab.1 (Q3 _ _) y (Ac a))),(a3 i y a).2⟩,a4⟩
 have key:∀y∈AObj.cells (encO s ob),∀ {v:Value},Rep w S (encH s) μ y v->Rep w S (encH s) (Gh.lab μ j x) y v:=λy a v E=>by
  rcases Jwc ob y a with O|⟨c,P,rfl⟩
  ·exact .pure (E.noNm O)
  ·exact Jgv ((Jtg N).2.2 _ (Qn G) c P) E
 cases l:encO s ob with
 | box v c=>
  rw [l] at d key;obtain ⟨cs,el,h,f,a3⟩:=d;exact ⟨cs,el,h,f,λi y a=>⟨key y (Ac a) (a3 i y a).1,(a3 i y a).2⟩⟩
 | arr v e t c z=>
  rw [l] at d key;intro r;obtain ⟨cs,h,f,a3,a4⟩:=d r;exact ⟨cs,h,f,λi y a=>⟨key y (Ac a) (a3 i y a).1,(a3 i y a).2⟩,a4⟩
 | map v es z=>
  rw [l] at d key;obtain ⟨es',clock,h,f,a3,a4⟩:=d;refine ⟨es',clock,h,f,a3,λi k v B=>?_⟩;obtain ⟨e,L,K,J⟩:=a4 i k v B;exact ⟨e,L,K,key v (Ae.2 ⟨_,Ac B,rfl⟩) J⟩
theorem RepF.lab{nt:Nat}{a:Act}{fs:List Fm}(hF:RepF nt w S s μ a fs)(A:noYs j s=true)(B:∀p∈fs,∀i r,p.lo=some (i,r)->i≠j):RepF nt w S s (Gh.lab μ j x) a fs:=by
 obtain ⟨F,E,H⟩:=Jtg A;refine ⟨⟨λd=>?_,repH_lab A hF.fr.hp,hF.fr.df,hF.fr.sz⟩,hF.len,λi l b hl G d v m=>Jt8 (E l (Ac hl) (d,v) (Qn m)) (hF.lo i l b hl G d v m),hF.sz,hF.md,λp y i r hl=>?_,hF.iv⟩
 ·have:=hF.fr.fr d;show Rep w S (encH s) _ (encV s (s.at d)) _;refine Jt8 ?_ this;unfold Dn.S.at;cases hd:look d s.sl with
  | none=>rfl
  | some v=>exact F (d,v) (Qn hd)
 ·have:=hF.lp p y i r hl;simp only [Gh.lab,Jc _ _ _ _ (B p y i r hl)];exact ⟨this.1,this.2.1,λg e h q o f=>by rw [Jc _ _ _ _ (B g e h q o)];exact this.2.2 g e h q o f⟩
theorem evo_lab{w':World}{S':Nat->Prop}{h':Heap}{μ':Gh}(L:Nat->Nat)(ev:Evo w S h μ w' S' h' μ'):Evo w S h ⟨μ.b,μ.o,L⟩ w' S' h' ⟨μ'.b,μ'.o,L⟩:=
 ⟨ev.os,ev.tape,ev.output,ev.size,ev.keep,ev.shape,ev.st,ev.st2,ev.ow,rfl⟩
theorem Jgc(ob:Obj):Evo w S h μ (w.alloc ob) S h μ:=
 ⟨rfl,rfl,⟨rfl,Ap _⟩,by simp,λb d _=>heap_alloc_old w ob b d,λb cs el z a=>⟨cs,by rw [heap_alloc_old w ob b (Ag.1 a).1];exact a,rfl⟩,λ_ h=>h,λ_ h=>.inl h,λ_ h=>.inl h,rfl⟩
theorem repH_lay(a:RepH w S h μ)(ob:Obj):RepH (w.alloc ob) S h μ:=
 ⟨λg o d=>(a.ob g o d).evo a (Jgc ob) (.refl _ _) λhl=>heap_alloc_old w ob _ ((a.ob g o d).lt hl),a.inj,a.own,λb e=>by have:=a.lt b e;simp;omega⟩
theorem RepF.lay{nt:Nat}{a:Act}{fs:List Fm}(hF:RepF nt w S s μ a fs)(ob:Obj):RepF nt (w.alloc ob) S s μ a fs:=
 hF.step rfl ⟨λd=>(hF.fr.fr d).evo hF.fr.hp (Jgc ob) (.refl _ _),repH_lay hF.fr.hp ob,hF.fr.hp.marks hF.fr.df (Jgc (h:=encH s) (μ:=μ) (S:=S) ob),hF.fr.sz⟩ (.refl s) hF.iv (Jgc ob) (.refl _ _)
theorem Q4{l:Nat}{o:Obj}{b:Nat}(h:b≠l):(w.putObj l o).heap[b]?=w.heap[b]?:=World.putObj_heap_other h
theorem Juy{l:Nat}{o:Obj}(hS:¬S l){y:AV}{v:Value}(a:RepP w S y v):RepP (w.putObj l o) S y v:=a.mono (λ_ h=>h) λb d=>Q4 λe=>hS (e▸d)
theorem arrV_put{l:Nat}{o:Obj}{cells:List AV}{b k e off len:Nat}{v:Value}(g:cells≠[]->b≠l)(f:ArrV w cells b k e off len v):ArrV (w.putObj l o) cells b k e off len v:=
 ⟨f.1,λd=>by obtain ⟨a,cap,cs,el,z,A,y,r,m,h⟩:=f.2 d;exact ⟨a,cap,cs,el,z,A,y,(Q4 (g d)).trans r,m,h⟩⟩
theorem Je3{l:Nat}{o:Obj}(hS:¬S l)(hl:∀g ob,h g=some ob->ob.live=true->μ.b g≠l){y:AV}{v:Value}(a:Rep w S h μ y v):Rep (w.putObj l o) S h μ y v:=by
 induction a with
 | any v=>exact .any v
 | pure E=>exact .pure (Juy hS E)
 | fn f l cs hl a r=>exact .fn f l cs hl r
 | agg l cs hl d a r=>exact .agg l cs hl d r
 | tup l cs hl a r=>exact .tup l cs hl r
 | arr g ver off len v ob m A d a=>
  refine .arr g ver off len v ob m A d λe=>?_;obtain ⟨esz,el,cells,fz,eq,F⟩:=a e;exact ⟨esz,el,cells,fz,eq,arrV_put (λB=>hl g ob m (by rw [eq];exact Ki.2 B)) F⟩
 | ptr g ver off v ob m A d a=>exact .ptr g ver off v ob m A d a
 | map g ver v ob m A d a=>exact .map g ver v ob m A d a
 | yld j=>exact .yld j
theorem Jtl{l:Nat}{o:Obj}(hS:¬S l)(hl:∀g ob,h g=some ob->ob.live=true->μ.b g≠l)(r:RepH w S h μ):RepH (w.putObj l o) S h μ:=by
 refine ⟨λg ob A=>?_,r.inj,r.own,λb F=>by simpa using r.lt b F⟩;have B:=r.ob g ob A;cases ob with
 | box v c=>
  obtain ⟨cs,el,m,f,a3⟩:=B;exact ⟨cs,el,(Q4 (hl g _ A rfl)).trans m,f,λi y a=>⟨Je3 hS hl (a3 i y a).1,(a3 i y a).2⟩⟩
 | arr v e t c z=>
  intro d;obtain ⟨cs,m,f,a3,a4⟩:=B d;exact ⟨cs,(Q4 (hl g _ A (Ki.2 d))).trans m,f,λi y a=>⟨Je3 hS hl (a3 i y a).1,(a3 i y a).2⟩,a4⟩
 | map v es z=>
  obtain ⟨es',clock,m,f,a3,a4⟩:=B;refine ⟨es',clock,(Q4 (hl g _ A rfl)).trans m,f,a3,λi k v E=>?_⟩;obtain ⟨e,J,H,G⟩:=a4 i k v E;exact ⟨e,J,Juy hS H,Je3 hS hl G⟩
theorem Jz2(d:RepH w S h μ){l:Nat}{r:Loop}(a:w.heap[l]?=some (.loop r)):∀g ob,h g=some ob->ob.live=true->μ.b g≠l:=by
 rintro g ob f hl rfl;have:=d.ob g ob f;cases ob with
 | box v cells=>obtain ⟨cs,el,q,_⟩:=this;rw [a] at q;cases q
 | arr v e t cells z=>obtain ⟨cs,q,_⟩:=this (Ki.1 hl);rw [a] at q;cases q
 | map v es z=>obtain ⟨es',clock,q,_⟩:=this;rw [a] at q;cases q
theorem Jpw{l:Nat}{r:Loop}{o:Obj}(f:w.heap[l]?=some (.loop r)){ds:List Deferred}(hd:Marks w S ds):Marks (w.putObj l o) S ds:=⟨hd.1,λd g=>by obtain ⟨b,e,a,hs⟩:=hd.2 d g;exact ⟨b,e,(Q4 λq=>by subst q;rw [f] at a;cases a).trans a,hs⟩⟩
theorem RepF.putL{nt:Nat}{a:Act}{fs:List Fm}(hF:RepF nt w S s μ a fs){l:Nat}{r:Loop}(g:w.heap[l]?=some (.loop r))(hS:¬S l)(h:∀p∈fs,∀j q,p.lo=some (j,q)->μ.l j≠l)(o:Obj):RepF nt (w.putObj l o) S s μ a fs:=by
 have hl:=Jz2 hF.fr.hp g;exact ⟨⟨λd=>Je3 hS hl (hF.fr.fr d),Jtl hS hl hF.fr.hp,Jpw g hF.fr.df,hF.fr.sz⟩,hF.len,λi m b B A d v y=>Je3 hS hl (hF.lo i m b B A d v y),λp e=>⟨Jpw g (hF.sz p e).1,(hF.sz p e).2.1,by simpa using (hF.sz p e).2.2⟩,hF.md,
  λp e j q f=>⟨(Q4 (h p e j q f)).trans (hF.lp p e j q f).1,(hF.lp p e j q f).2.1,(hF.lp p e j q f).2.2⟩,hF.iv⟩
end
end Go.Dn
