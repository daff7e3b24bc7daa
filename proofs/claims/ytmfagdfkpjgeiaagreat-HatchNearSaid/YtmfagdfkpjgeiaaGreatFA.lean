/- Regions in order of the typed evaluator; calls that are entered in place. Conditions: none. -/
import Derived.Test.YtmfagdfkpjgeiaaGreatDB
open Option renaming some -> AC, none -> AD
open Bool renaming true -> AE, false -> AF
open _root_ renaming List -> AG, Option -> AH, Int -> AI, Nat -> AM, Bool -> AN, if_neg -> AR, if_pos -> AS, congrArg -> AT
set_option linter.unusedVariables false
set_option linter.unusedSimpArgs false
namespace Go.Dn
open Go Go.Vv
open _root_.Array renaming getD_eq_getD_getElem? -> Aa, getElem?_eq_some_iff -> Ag, getElem?_eq_getElem -> Ah, getElem?_append_right -> Ak
open List renaming all_eq_true -> Ab, mem_of_getElem? -> Ac, getElem?_map -> Ad, mem_map -> Ae, mem_singleton -> Ai, eq_nil_of_length_eq_zero -> Aj
open Prod.mk renaming injEq -> Af
open Bool renaming and_eq_true -> Am
open Nat renaming ble -> Ao, eq_of_beq_eq_true -> Ap, le_refl -> Aq
def HdAt(P:Program)(fs:AG Fm)(j:AM)(h:Hd):Prop:=
 ∃pre fr post r,fs=pre++fr::post/\post.length=j/\fr.lo=AC (j,r)/\r.state=.ready/\r.pending=AD/\r.tmps=fr.act.tmps/\r.params.toList=h.ps/\FY P fr.nt r.assign=AC h.a/\FY P fr.nt r.body=AC h.b /\
  (∀t∈h.ps,t<fr.nt)/\h.ps.Nodup
def He(P:Program)(hs:AG (AM×Hd))(fs:AG Fm):Prop:=∀j h,look j hs=AC h->HdAt P fs j h
def Ew(fs:AG Fm):Prop:=∀pre fr post,fs=pre++fr::post->∀j r,fr.lo=AC (j,r)->j=post.length
theorem He.push{P:Program}{hs:AG (AM×Hd)}{fs:AG Fm}(h:He P hs fs)(f:Fm):He P hs (f::fs):=λj x hx=>by obtain ⟨pre,fr,post,r,e,rest⟩:=h j x hx;exact ⟨f::pre,fr,post,r,by rw [e];rfl,rest⟩
theorem Ew.push{fs:AG Fm}(h:Ew fs){nt d:AM}{a:Act}{lo:AH (AM×Loop)}(hl:∀j r,lo=AC (j,r)->j=fs.length):Ew (⟨nt,a,lo,d⟩::fs):=by
 intro pre fr post e j r g;cases pre with
 | nil=>
  injection e with l f;subst l;subst f;exact hl j r g
 | cons p pre=>
  injection e with l f;exact h pre fr post f j r g
theorem Ew.tail{f:Fm}{fs:AG Fm}(h:Ew (f::fs)):Ew fs:=λpre fr post e=>h (f::pre) fr post (by rw [e];rfl)
def ZA(P:Program)(hs:AG (AM×Hd))(inl:M6):Prop:=
 ∀ {α:Type} {f:FuncId} {base:AM} {vs:AG (V Ty.T)} {s:S Ty.T} {k:V Ty.T->S Ty.T->AH α} {r:α},inl val f base vs s k=AC r ->
  (Ao yB f=AF->C9 P f)/\∀ {d:AM} {w:World} {S:AM->Prop} {μ:Gh} {a0:Act} {fr:Fm} {fs:AG Fm} {cargs:Array Value},BG d w S s μ a0 (fr::fs)->He P hs (fr::fs)->Ew (fr::fs)->(∀v∈vs,okV s v)->cargs.size=vs.length ->
   (∀(i:AM) (x:V Ty.T),vs[i]?=AC x->AX w S (AA s) μ (AL s x) (cargs.getD i undef))->∀ {R:Ending->World->Prop},
   fr.d=w.heap.size->(∀w' S' μ' v s' cv,BG fr.nt w' S' s' μ' fr.act fs->okV s' v->AX w' S' (AA s') μ' (AL s' v) cv->CY w S (AA s) μ w' S' (AA s') μ'->k v s'=AC r->R (.returned cv) w') ->
   (Ao yB f=AF->Calls P f cargs w R) /\
   (∀j,f=yB+j->fr.lo=AD->∃q,w.heap[μ.l j]?=AC (.loop q)/\cargs.size=q.params.size/\RoundIn Fence.wide 0 P (μ.l j) q.fn ((q.params.zip cargs).foldl (λtmps (t,a)=>tmps.setIfInBounds t a) q.tmps) q.assign q.body w R)
section
variable {s:Dn.S Ty.T} {α:Type} {r:α}
theorem J2t{s:Dn.S Ty.T}{g:AM}{v:V Ty.T}(h:s.at g=v):(enc s).f g=AL s v:=by subst h;rfl
theorem Jz2{o:AP}{run skip:S Ty.T->AH α}(hi:Inv s)(h:rW val s o run skip=AC r) :
  (∃a,enc a=enc s/\On s a/\Inv a/\(∀g want,o.guard=AC (g,want)->(enc s).f g=.bool want)/\run a=AC r) \/
  (∃a g want,enc a=enc s/\On s a/\Inv a/\o.guard=AC (g,want)/\((enc s).f g=.bool (!want)\/(enc s).f g=.Cb [])/\skip a=AC r):=by
 unfold rW at h;split at h
 .rename_i f;exact .inl ⟨s,rfl,.refl s,hi,λg w e=>(by rw [f] at e;cases e),h⟩
 .rename_i g want f;split at h
  .rename_i b B;have l:(enc s).f g=.bool b:=J2t B;split at h
   .rename_i e;subst e;exact .inl ⟨s,rfl,.refl s,hi,λE w e=>(by rw [f] at e;injection e with e;injection e with m v;subst m;subst v;exact l),h⟩
   .rename_i e;exact .inr ⟨s,g,want,rfl,.refl s,hi,f,.inl (by rw [l];cases b<;>cases want<;>simp_all),h⟩
  .rename_i t A;have l:∀q:AN,(t:AN)=q->(enc s).f g=.bool q:=λq e=>by rw [J2t A,<-e];rfl
   have run':∀q:AN,(t:AN)=q->want=q->run (s.put (AC g) (.c (.kb q)))=AC r ->
     ∃a,enc a=enc s/\On s a/\Inv a/\(∀g want,o.guard=AC (g,want)->(enc s).f g=.bool want)/\run a=AC r:=λq m v h=>
    ⟨_,jR (l q m),.put s _ _,hi.put LV _,λE w y=>(by rw [f] at y;injection y with y;injection y with G F;subst G;subst F;rw [l q m,v]),h⟩
   have skp:∀q:AN,(t:AN)=q->want=!q->skip (s.put (AC g) (.c (.kb q)))=AC r ->
     ∃a g want,enc a=enc s/\On s a/\Inv a/\o.guard=AC (g,want)/\((enc s).f g=.bool (!want)\/(enc s).f g=.Cb [])/\skip a=AC r:=λq m v h=>
    ⟨_,g,want,jR (l q m),.put s _ _,hi.put LV _,f,.inl (by rw [l q m,v,Bool.not_not]),h⟩
   split at h
   .rename_i d;rcases Sv h with ⟨e,h⟩|⟨e,h⟩
    .exact .inl (run' AE e d h)
    .exact .inr (skp AF e d h)
   .rename_i d;have d:want=AF:=by simpa using d
    rcases Sv h with ⟨e,h⟩|⟨e,h⟩
    .exact .inr (skp AE e d h)
    .exact .inl (run' AF e d h)
  .rename_i A;exact .inr ⟨s,g,want,rfl,.refl s,hi,f,.inr (by rw [J2t A];rfl),h⟩
  .cases h
theorem BG.alike{nt:AM}{w:World}{S:AM->Prop}{s d:Dn.S Ty.T}{μ:Gh}{a:Act}{fs:AG Fm}(h:BG nt w S s μ a fs)(e:enc d=enc s)(on:On s d)(hi:Inv d):BG nt w S d μ a fs:=by have eh:AA d=AA s:=AT St.h e;refine h.step rfl (by rw [e];exact h.fr) on hi (by rw [eh];exact .refl) (by rw [eh];exact .refl _ _)
theorem _root_.Go.Vv.AX.Ls{w:World}{S:AM->Prop}{h:Heap}{μ:Gh}{j:AM}{v:Value}(hr:AX w S h μ (.Fu j) v):v=.func (.yield (μ.l j)) #[] #[]:=by
 cases hr with
 | pure a=>cases a
 | Fu=>rfl
theorem Ra{P:Program}{nt:AM}{ops:Array Oper}{w:World}{S:AM->Prop}{μ:Gh}{a:Act}{o:Oper}{lo:AP}{cx:Cx}{f:FuncId}{vs:AG (V Ty.T)}(hs:DN nt w S (enc s) μ a)(B:comp P [] nt ops o=AC lo)(hi:Inv s)(h:gK val cx s lo.op=AC (f,vs)) :
  (∀v∈vs,okV s v)/\∃cargs:Array Value,cargs.size=vs.length/\(∀(i:AM) (x:V Ty.T),vs[i]?=AC x->AX w S (AA s) μ (AL s x) (cargs.getD i undef)) /\
   (Ao yB f=AF->C9 P f->(execOp a.eval o).run P w=.ok (.enter f cargs) w)/\(Ao yB f=AE->∃j,f=yB+j/\(execOp a.eval o).run P w=(Instr.yield (μ.l j) cargs).run P w):=by
 obtain ⟨lop,d,hl⟩:∃lop,JK P [] o.dst o.op=AC lop/\lo.op=lop:=by
  unfold comp at B;cases J:JK P [] o.dst o.op with
  | none=>rw [J] at B;cases B
  | some lop=>
   rw [J] at B;simp only at B;refine ⟨lop,rfl,?_⟩;split at B
   .split at B
    .injection B with B;rw [<-B]
    .split at B
     .split at B
      .injection B with B;rw [<-B]
      .cases B
     .cases B
   .cases B
 rw [hl] at h;clear hl B;have evs:∀l:AG LO,∀v∈l.map (ev val s),okV s v:=λl v E=>by obtain ⟨x,-,rfl⟩:=Ae.1 E;exact Lh hi x
 have args:∀ {l:Array Operand} {m:AG LO},IU l.toList=AC m->(l.map a.eval).size=(m.map (ev val s)).length/\∀(i:AM) (x:V Ty.T),(m.map (ev val s))[i]?=AC x->AX w S (AA s) μ (AL s x) ((l.map a.eval).getD i undef):=λ{l m} L=>by
  obtain ⟨H,K⟩:=jQ hs L;refine ⟨by rw [H];simp,λi x hx=>?_⟩;rw [Ad] at hx;cases J:m[i]? with
  | none=>rw [J] at hx;cases hx
  | some y=>
   rw [J] at hx;injection hx with hx;subst hx;rw [<-Ko];exact K i _ (by rw [Ad,J];rfl)
 obtain ⟨dst,oop,oty,opos,oafter,ogd⟩:=o;simp only at d;unfold gK at h;cases oop
 case call c=>
  obtain ⟨callee,cargs,argTypes⟩:=c;simp only [JK] at d;cases callee
  case value x=>
   cases x
   case func g=>
    simp only at d;split at d
    .rename_i m L;have:lZ [] dst=.p:=rfl;rw [this] at d;injection d with d;subst d;simp only at h;split at h
     .rename_i M;simp only [Am,Bool.not_eq_true'] at M;injection h with h;simp only [Af] at h;obtain ⟨rfl,rfl⟩:=h;obtain ⟨H,K⟩:=args L;refine ⟨evs m,_,H,K,λ_ N=>?_,λq=>(by rw [M.2] at q;cases q)⟩;simp [execOp,resolve,Act.eval,Deferred.ofValue,invoke,Kx N]
     .cases h
    .cases d
   case tmp x=>
    simp only at d;obtain ⟨m,L,rfl⟩:=Yd d;simp only at h;split at h
    .rename_i g caps hx;split at h
     .cases h
     rename_i A;have A:Ao yB g=AF:=eq_false_of_ne_true A;injection h with h;simp only [Af] at h;obtain ⟨rfl,rfl⟩:=h;obtain ⟨H,K⟩:=args L;have E:AX w S (AA s) μ (AL s (.c (.fn g caps))) (a.tmps.getD x undef):=by have:=hs.fr x;rw [show (enc s).f x=AL s (.c (.fn g caps)) by rw [<-hx];rfl] at this;exact this
     obtain ⟨cs,e,X,Z⟩:=E.EZ;simp only [List.length_map] at X;have okf:FV s (.fn g caps):=by have:=Lh hi (.t x);rw [hx] at this;exact this _ (Ai.2 rfl)
     refine ⟨λv E=>?_,cargs.map a.eval++cs,by simp [<-X] at H ⊢;omega,λi y F=>?_,λ_ N=>?_,λq=>(by rw [A] at q;cases q)⟩
     .rcases List.mem_append.1 E with E|E
      .exact evs m v E
      .obtain ⟨c,B,rfl⟩:=Ae.1 E;refine Xe λr hr=>?_;have:=Ai.1 hr;subst this;exact okf (c.1,c.2.1) (Ae.2 ⟨c,B,rfl⟩)
     .by_cases O:i<(m.map (ev val s)).length
      .rw [List.getElem?_append_left O] at F;have e:(cargs.map a.eval++cs).getD i undef=(cargs.map a.eval).getD i undef:=by simp only [Aa];rw [Array.getElem?_append_left (by omega)]
       rw [e];exact K i y F
      .rw [List.getElem?_append_right (by omega)] at F;have e:(cargs.map a.eval++cs).getD i undef=cs.getD (i - (m.map (ev val s)).length) undef:=by simp only [Aa];rw [Ak (by omega),H]
       rw [e];rw [Ad] at F;cases J:caps[i - (m.map (ev val s)).length]? with
       | none=>rw [J] at F;cases F
       | some c=>
        rw [J] at F;injection F with F;subst F;exact Z _ _ (by rw [Ad,J];rfl)
     .have G:a.eval (.tmp x)=.func (.func g) #[] cs:=e;simp [execOp,resolve,G,Deferred.ofValue,invoke,Kx N]
    .rename_i j hx;injection h with h;simp only [Af] at h;obtain ⟨rfl,rfl⟩:=h;obtain ⟨H,K⟩:=args L;have E:AX w S (AA s) μ (.Fu j) (a.tmps.getD x undef):=by have:=hs.fr x;rw [show (enc s).f x=AL s (.c (.yl j)) by rw [<-hx];rfl] at this;exact this
     have G:a.eval (.tmp x)=.func (.yield (μ.l j)) #[] #[]:=E.Ls;refine ⟨evs m,_,H,K,λq=>?_,λ_=>⟨j,rfl,?_⟩⟩
     .rw [Nat.ble_eq_true_of_le (Nat.le_add_right yB j)] at q;cases q
     .simp [execOp,resolve,G,Deferred.ofValue,invoke]
    .rename_i g t u hx;split at h
     .cases h
     rename_i A;have A:Ao yB g=AF:=eq_false_of_ne_true A;injection h with h;simp only [Af] at h;obtain ⟨rfl,rfl⟩:=h;obtain ⟨H,K⟩:=args L;have E:AX w S (AA s) μ (.Ld g (t.cs u)) (a.tmps.getD x undef):=by have:=hs.fr x;rw [show (enc s).f x=AL s (.c (.lf (.bf g t) u)) by rw [<-hx];rfl] at this;exact this
     obtain ⟨cs,e,Q⟩:=E.MO;refine ⟨λv E=>?_,#[.agg cs]++cargs.map a.eval,by simp at H ⊢;omega,λi y F=>?_,λ_ N=>?_,λq=>(by rw [A] at q;cases q)⟩
     .rcases List.mem_cons.1 E with rfl|E
      .exact Sr s t u
      .exact evs m v E
     .cases i with
      | zero=>
       simp only [List.getElem?_cons_zero,Option.some.injEq] at F;subst F;have R:(#[Value.agg cs]++cargs.map a.eval).getD 0 undef=.agg cs:=by simp [Aa,Array.getElem?_append]
       rw [R];have Y:AL s (V.ag (expl val t (val.ub u)))=.agg (t.cs u):=AT AV.agg (Xh s t (val.ub u));rw [Y];exact Q
      | succ i=>
       simp only [List.getElem?_cons_succ] at F;have R:(#[Value.agg cs]++cargs.map a.eval).getD (i+1) undef=(cargs.map a.eval).getD i undef:=by simp only [Aa];rw [Ak (by simp)];simp
       rw [R];exact K i y F
     .have G:a.eval (.tmp x)=.func (.func g) #[.agg cs] #[]:=e;simp [execOp,resolve,G,Deferred.ofValue,invoke,Kx N]
    .cases h
   all_goals cases d
  case builtin b=>
   exfalso;cases b<;>simp only at d<;>repeat' split at d
   all_goals first|(cases d;done)|(injection d with d;subst d;cases h;done)|(simp at d;done)|skip
  all_goals cases d
 all_goals
  exfalso;simp only [JK] at d
  repeat' split at d
  all_goals first|(cases d;done)|contradiction|(injection d with d;subst d;cases h;done)|(obtain ⟨m,L,rfl⟩:=Yd d;cases h;done)|skip
end
def MX:AV->Value
 | .int k n=>.int k n
 | .bool b=>.bool b
 | .str x=>.string x
 | _=>undef
theorem mX{v:AV}(h:Mj v){w:World}{S:AM->Prop}:AY w S v (MX v)/\(MX v).oneCell'=AE:=by
 rcases h with ⟨b,rfl⟩|⟨k,n,rfl⟩|⟨x,rfl⟩
 .exact ⟨.bool b,rfl⟩
 .exact ⟨.int k n,rfl⟩
 .exact ⟨.str x,rfl⟩
theorem dM{v:AV}(h:Mj v){w:World}{S:AM->Prop}{a:Heap}{μ:Gh}{c:Value}(hr:AX w S a μ v c):c=MX v:=by
 rcases h with ⟨b,rfl⟩|⟨k,n,rfl⟩|⟨x,rfl⟩
 .exact hr.Ca
 .exact hr.BI
 .exact hr.Iy
def GK.j(x:GK):Array Value:=if x.two then #[.func (.func x.g) #[] #[]] else #[]
structure J3n (w w':World) (b off n:AM) (cs:Array Value) (new:AG AV):Prop where
 os:w'.os=w.os
 tape:w'.tape=w.tape
 output:w'.output=w.output/\w.drawn<=w'.drawn
 size:w.heap.size<=w'.heap.size
 keep:∀k,k<w.heap.size->k≠b->w'.heap[k]?=w.heap[k]?
 row:∀el,w.heap[b]?=AC (.cells cs el (0,0))->∃cs':Array Value,w'.heap[b]?=AC (.cells cs' el (0,0))/\cs'.size=cs.size/\(∀(i:AM) (v:AV),new[i]?=AC v->cs'.getD (off+i) undef=MX v)
structure DI (P:Program) (x:GK):Prop where
 fn:C9 P x.id
 id:x.id<yB
 flat:x.t.flat=AE
 len:∀l r,x.fn l=AC r->r.length=l.length
 run:∀l r,x.fn l=AC r->l≠[]->∀(w:World) (b off cap:AM) (cs:Array Value) (el:TypeId),w.heap[b]?=AC (.cells cs el (0,0))->off+l.length * x.t.sz<=cs.size->l.length<=cap->(∀(i:AM) (v:AV),(l.flatMap x.t.cs)[i]?=AC v->cs.getD (off+i) undef=MX v) ->
  Calls P x.id (#[.slice (AC ⟨b,off,AD⟩) l.length cap]++x.j) w λe w'=>e=.returned (.tuple #[])/\J3n w w' b off (l.length * x.t.sz) cs (r.flatMap x.t.cs)
 emp:∀r,x.fn []=AC r->∀(w:World) (A:AH Addr),Calls P x.id (#[.slice A 0 0]++x.j) w λe w'=>e=.returned (.tuple #[])/\Old w w'
 pz:∀(w:World),Calls P x.id (#[.slice AD 0 0]++x.j) w λe w'=>e=.returned (.tuple #[])/\Old w w'
structure iW (P:Program) (id:FuncId) (t:Ty) (tl:Array Value) (w:World) (N:AM->Prop) (l r:AG t.T):Prop where
 flat:t.flat=AE
 len:r.length=l.length
 run:l≠[]->∀(b off cap:AM) (cs:Array Value) (el:TypeId),N b->w.heap[b]?=AC (.cells cs el (0,0))->off+l.length * t.sz<=cs.size->l.length<=cap->(∀(i:AM) (v:AV),(l.flatMap t.cs)[i]?=AC v->cs.getD (off+i) undef=MX v) ->
  Calls P id (#[.slice (AC ⟨b,off,AD⟩) l.length cap]++tl) w λe w'=>e=.returned (.tuple #[])/\J3n w w' b off (l.length * t.sz) cs (r.flatMap t.cs)
 emp:l=[]->∀A:AH Addr,Calls P id (#[.slice A 0 0]++tl) w λe w'=>e=.returned (.tuple #[])/\Old w w'
theorem DI.at{P:Program}{x:GK}(h:DI P x){l r:AG x.t.T}(hr:x.fn l=AC r)(w:World):iW P x.id x.t x.j w (λ_=>True) l r:=
 ⟨h.flat,h.len l r hr,λa b off cap cs el _=>h.run l r hr a w b off cap cs el,λe A=>by subst e;exact h.emp r hr w A⟩
def vV:AG GK->FuncId->FuncId->AH GK
 | [],_,_=>AD
 | x::r,f,g=>match Nat.beq x.id f,Nat.beq x.g g with|true,AE=>AC x|_,_=>vV r f g
theorem J99{P:Program}{so:AG GK}(h:∀x∈so,DI P x):∀f g x,vV so f g=AC x->x.id=f/\x.g=g/\DI P x:=by
 induction so with
 | nil=>intro f g x hx;cases hx
 | cons y r a=>
  intro f g x hx;simp only [vV] at hx;split at hx
  .rename_i l d;injection hx with hx;subst hx;exact ⟨Ap l,Ap d,h y List.mem_cons_self⟩
  .exact a (λx hx=>h x (List.mem_cons_of_mem _ hx)) f g x hx
def IX(P:Program)(cx:Cx):Prop:=∀f g x,cx.so f g=AC x->x.id=f/\x.g=g/\DI P x
section
variable {nt:AM} {w:World} {S:AM->Prop} {s:Dn.S Ty.T} {μ:Gh} {a:Act} {fs:AG Fm}
theorem bP{w':World}{h:Heap}(o:Old w w'):CY w S h μ w' S h μ:=
 ⟨o.os,o.tape,o.output,o.size,λb d _=>o.keep b d,λb cs el z a=>⟨cs,(o.keep b (Ag.1 a).1).trans a,rfl⟩,λ_ h=>h,λ_ h=>.inl h,λ_ h=>.inl h,rfl⟩
theorem BG.old{w':World}(hF:BG nt w S s μ a fs)(o:Old w w'):BG nt w' S s μ a fs:=by have ev:=bP (S:=S) (μ:=μ) (h:=AA s) o;have l:BJ w' S (AA s) μ:=⟨λg ob f=>(hF.fr.hp.ob g ob f).Cz hF.fr.hp ev (.refl _ _) λhl=>o.keep _ ((hF.fr.hp.ob g ob f).lt hl),hF.fr.hp.inj,hF.fr.hp.own,λb m=>Nat.lt_of_lt_of_le (hF.fr.hp.lt b m) o.size⟩;exact hF.step rfl ⟨λd=>(hF.fr.fr d).Cz hF.fr.hp ev (.refl _ _),l,hF.fr.hp.marks hF.fr.df ev,hF.fr.sz⟩ (.refl s) hF.iv ev (.refl _ _)
theorem J24{P:Program}{id:FuncId}{t:Ty}{tl:Array Value}{N:AM->Prop}(hF:BG nt w S s μ a fs){g v e:AM}{el:TypeId}{l r:AG t.T}(hx:iW P id t tl w N l r)(hN:l≠[]->N (μ.b g))(ho:look g s.ob=AC (.row v e el t l [] AD AF))(he:e=t.sz)(he0:0<e){cv:Value}
  (hv:AX w S (AA s) μ (AB s (.own g v)) cv) {R:Ending->World->Prop} (hR:∀w',BG nt w' S (s.obj g (.row v e el t r [] AD AF)) μ a fs->CY w S (AA s) μ w' S (AA (s.obj g (.row v e el t r [] AD AF))) μ->R (.returned (.tuple #[])) w') :
  Calls P id (#[cv]++tl) w R:=by
 have H:=hx.len;have st:CQ s (s.obj g (.row v e el t r [] AD AF)):=Zh λo0 h0=>by rw [ho] at h0;injection h0 with h0;subst h0;exact ⟨rfl,by simp only [Ob.CJ];show List.length (α:=t.T) l+_=List.length (α:=t.T) r+_;rw [H]⟩
 have hlk:∀g',look g' (s.obj g (.row v e el t r [] AD AF)).ob=if g=g' then AC (.row v e el t r [] AD AF) else look g' s.ob:=λg'=>Qb g g' _;have iv:=MV hF.iv st hlk (λc hc=>by cases hc) (hF.iv.free ho);have Z:=jf hF.iv st hlk;have he1:BD (s.obj g (.row v e el t r [] AD AF)) (.row v e el t r [] AD AF)=.arr v e el (r.flatMap t.cs) AF:=by simp [BD,Xm]
 rw [he1] at Z;have X:AA s g=AC (.arr v e el (l.flatMap t.cs) AF):=by rw [Jj ho];simp [BD,Xm]
 have hl0:Q4 s g v=l.length:=by simp [Q4,ho,Ob.ver,Ob.CJ]
 simp only [AB,hl0] at hv;have hnl:(l.flatMap t.cs=[]↔r.flatMap t.cs=[]):=Yu (by rw [Jv,Jv,H]);have vv:Cg (AA s) μ (AA (s.obj g (.row v e el t r [] AD AF))) μ:=by
  intro B E f;rw [Z];by_cases F:B=g
  .subst F;rw [X] at f;injection f with f;subst f;exact ⟨_,Jg _ _ _,Aq _,λ_=>⟨⟨rfl,rfl⟩,rfl,rfl,hnl⟩⟩
  .exact ⟨E,by rw [Jd _ _ _ _ F];exact f,Aq _,λ_=>⟨⟨rfl,rfl⟩,.refl E⟩⟩
 have own_back:∀b,Own (AA (s.obj g (.row v e el t r [] AD AF))) μ b->Own (AA s) μ b:=λb ⟨B,E,f,hz,hl,F⟩=>by
  rw [Z] at f;by_cases Y:B=g
  .subst Y;rw [Jg] at f;injection f with f;subst f;exact ⟨B,_,X,rfl,Kz.2 λq=>Kz.1 hl (hnl.1 q),F⟩
  .rw [Jd _ _ _ _ Y] at f;exact ⟨B,E,f,hz,hl,F⟩
 cases hr0:hv with
 | pure hp=>cases hp
 | arr _ _ _ _ _ E L hv1 h11 hr1=>
  rw [X] at L;injection L with L;subst L;obtain ⟨esz,el',cells,fz,eo,hk⟩:=hr1 rfl;injection eo with eo1 eo2 eo3 eo4 eo5;subst eo2;subst eo4;by_cases G:l.flatMap t.cs=[]
  .-- nothing to sort
   obtain ⟨-,hl00,A,rfl⟩:=hk.1 G;have K:l=[]:=Aj hl00;subst K;have hrn:r=[]:=Aj (by rw [H];rfl);subst hrn;refine (hx.emp rfl A).mono λe w' ⟨F,o⟩=>?_;subst F;have M:=hF.old o;have eh:AA (s.obj g (.row v e el t ([]:AG t.T) [] AD AF))=AA s:=by
    rw [Z];funext B;by_cases F:B=g
    .subst F;rw [Jg,X]
    .rw [Jd _ _ _ _ F]
   refine hR w' (M.step rfl ⟨λd=>?_,by show BJ w' S (AA _) μ;rw [eh];exact M.fr.hp,M.fr.df,M.fr.sz⟩ st.on iv (by rw [eh];exact .refl) (by rw [eh];exact .refl _ _)) (by rw [eh];exact bP o);rw [NM hF.iv st];show AX w' S (AA _) μ _ _;rw [eh];exact M.fr.fr d
  .obtain ⟨A,cap,cs0,el0,z0,rfl,hcap,hb0,hsz0,hA⟩:=hk.2 G;obtain ⟨cs,hb,hsz,hold,-⟩:=hF.fr.hp.ob g _ X G;have K:l≠[]:=λq=>by subst q;exact G rfl
   have hlp:0<l.length:=List.length_pos_iff.2 K;have hA:=hA (by omega);rw [Nat.zero_mul,Nat.add_zero] at hA;subst hA;have hcl:(l.flatMap t.cs).length=l.length * t.sz:=Jv l;have scl:∀ {m:AG t.T} {i:AM} {y:AV},(m.flatMap t.cs)[i]?=AC y->Mj y:=λ{m i y} O=>by obtain ⟨u,_,hu⟩:=List.mem_flatMap.1 (Ac O);exact Sw hx.flat u y hu
   refine (hx.run K (μ.b g) (μ.o g) cap cs el (hN K) hb (by omega) hcap.1 λi y O=>dM (scl O) (hold i y O).1).mono λY w' ⟨F,rb⟩=>?_;subst F;obtain ⟨cs',hb',Q,hnew⟩:=rb.row el hb;have hown:Own (AA s) μ (μ.b g):=⟨g,_,X,rfl,Kz.2 G,rfl⟩;have ev:CY w S (AA s) μ w' S (AA (s.obj g (.row v e el t r [] AD AF))) μ:=by
    refine ⟨rb.os,rb.tape,rb.output,rb.size,λb hb1 hn=>rb.keep b hb1 λq=>hn (q▸hown),λb c1 el1 z1 J=>?_,λ_ h=>h,λ_ h=>.inl h,λb ho=>.inl (own_back b ho),rfl⟩;by_cases hbe:b=μ.b g
    .subst hbe;rw [hb] at J;injection J with J;injection J with q1 q2 q3;subst q1;subst q2;subst q3;exact ⟨cs',hb',Q⟩
    .exact ⟨c1,(rb.keep b (Ag.1 J).1 hbe).trans J,rfl⟩
   have hp':BJ w' S (AA (s.obj g (.row v e el t r [] AD AF))) μ:=by
    refine ⟨λB E f=>?_,λB g2 E o2 f M l1 l2 F=>?_,λB E f hz hl hs=>?_,λb hb1=>Nat.lt_of_lt_of_le (hF.fr.hp.lt b hb1) rb.size⟩
    .by_cases F:B=g
     .subst F;rw [Z,Jg] at f;injection f with f;subst f;refine λ_=>⟨cs',hb',by rw [Q,Jv,H,<-Jv];exact hsz,λi y O=>?_,λq=>by cases q⟩;rw [hnew i y O];exact ⟨.pure (mX (scl O)).1,(mX (w:=w) (S:=S) (scl O)).2⟩
     .have h1':AA s B=AC E:=by rw [Z,Jd _ _ _ _ F] at f;exact f
      exact (hF.fr.hp.ob B E h1').Cz hF.fr.hp ev vv λhl=>rb.keep _ ((hF.fr.hp.ob B E h1').lt hl) λq=>F (hF.fr.hp.inj B g _ _ h1' X hl (Kz.2 G) q)
    .have back:∀B E,AA (s.obj g (.row v e el t r [] AD AF)) B=AC E->E.live=AE->∃o2,AA s B=AC o2/\o2.live=AE:=λB E f hl=>by
      rw [Z] at f;by_cases Y:B=g
      .subst Y;exact ⟨_,X,Kz.2 G⟩
      .rw [Jd _ _ _ _ Y] at f;exact ⟨E,f,hl⟩
     obtain ⟨p1,q1,r1⟩:=back B E f l1;obtain ⟨p2,q2,r2⟩:=back g2 o2 M l2;exact hF.fr.hp.inj B g2 p1 p2 q1 q2 r1 r2 F
    .obtain ⟨g2,o2,M,hz2,hl2,Y⟩:=own_back (μ.b B) ⟨B,E,f,hz,hl,rfl⟩;exact hF.fr.hp.own g2 o2 M hz2 hl2 (Y▸hs)
   refine hR w' (hF.step rfl ⟨λd=>?_,hp',hF.fr.hp.marks hF.fr.df ev,hF.fr.sz⟩ st.on iv ev vv) ev;rw [NM hF.iv st];exact (hF.fr.fr d).Cz hF.fr.hp ev vv
theorem Kak{P:Program}{ops:Array Oper}{o:Oper}{lo:AP}(a:comp P [] nt ops o=AC lo):JK P [] o.dst o.op=AC lo.op:=by
 unfold comp at a;cases d:JK P [] o.dst o.op with
 | none=>rw [d] at a;cases a
 | some lop=>
  rw [d] at a;simp only at a;split at a
  .split at a
   .injection a with a;rw [<-a]
   .split at a
    .split at a
     .injection a with a;rw [<-a]
     .cases a
    .cases a
  .cases a
theorem J1r{P:Program}{ops:Array Oper}{o:Oper}{lo:AP}{f:FuncId}{m:AG LO}(v:comp P [] nt ops o=AC lo)(hl:lo.op=.Co f m):∃args:Array Operand,IU args.toList=AC m/\∀ {w:World},C9 P f->(execOp a.eval o).run P w=.ok (.enter f (args.map a.eval)) w:=by
 have d:=Kak v;rw [hl] at d;obtain ⟨dst,oop,oty,opos,oafter,ogd⟩:=o;simp only at d;cases oop
 case call c=>
  obtain ⟨callee,cargs,argTypes⟩:=c;simp only [JK] at d;cases callee
  case value x=>
   cases x
   case func g=>
    simp only at d;split at d
    .rename_i l h;have:lZ [] dst=.p:=rfl;rw [this] at d;injection d with d;injection d with A y;subst A;subst y;exact ⟨cargs,h,λ{w} r=>by simp [execOp,resolve,Act.eval,Deferred.ofValue,invoke,Kx r]⟩
    .cases d
   case tmp x=>
    simp only at d;obtain ⟨l,h,e⟩:=Yd d;cases e
   all_goals cases d
  case builtin b=>
   exfalso;cases b<;>simp only at d<;>repeat' split at d
   all_goals first|(cases d;done)|(injection d with d;cases d;done)|(simp at d;done)|skip
  all_goals cases d
 all_goals
  exfalso;simp only [JK] at d
  repeat' split at d
  all_goals first|(cases d;done)|contradiction|(injection d with d;cases d;done)|(obtain ⟨l,h,e⟩:=Yd d;cases e;done)|skip
theorem dP{P:Program}{ops:Array Oper}{o:Oper}{lo:AP}{cx:Cx}{c:GK}{v:V Ty.T}(E:IX P cx)(hs:DN nt w S (enc s) μ a)(M:comp P [] nt ops o=AC lo)(hi:Inv s)(d:dQ val cx s lo.op=AC (c,v)) :
  ∃cv,DI P c/\AX w S (AA s) μ (AL s v) cv/\(execOp a.eval o).run P w=.ok (.enter c.id (#[cv]++c.j)) w:=by
 unfold dQ at d;split at d
 .rename_i f x y hl;split at d
  .rename_i g O;cases h:cx.so f g with
   | none=>rw [h] at d;cases d
   | some c'=>
    rw [h] at d;simp only [Option.bind_some] at d;split at d
    .rename_i F;injection d with d;simp only [Af] at d;obtain ⟨rfl,rfl⟩:=d;obtain ⟨L,N,sg⟩:=E f g _ h;obtain ⟨args,J,l⟩:=J1r (a:=a) M hl;obtain ⟨H,G⟩:=jQ hs J;have B:=G 0 _ rfl;have A:=G 1 _ rfl;rw [Ko] at B A;rw [O] at A;have A:AX w S (AA s) μ (.fn g []) ((args.map a.eval).getD 1 undef):=A;obtain ⟨cs,X,R,-⟩:=A.EZ;have Q:cs=#[]:=Array.eq_empty_of_size_eq_zero R.symm;have m:(args.map a.eval).size=2:=by rw [H];rfl
     refine ⟨(args.map a.eval).getD 0 undef,sg,B,?_⟩;rw [<-L] at l;rw [l sg.fn]
     congr 2
     rw [show c'.j=#[.func (.func c'.g) #[] #[]] by simp [GK.j,F],N];apply Array.ext
     .rw [m];rfl
     .intro i r K;rw [m] at r
      match i,r with
      | 0,_=>
       have:(args.map a.eval)[0]=(args.map a.eval).getD 0 undef:=by rw [Aa,Ah (by omega:0<(args.map a.eval).size)];rfl
       rw [this];rfl
      | 1,_=>
       have:(args.map a.eval)[1]=(args.map a.eval).getD 1 undef:=by rw [Aa,Ah (by omega:1<(args.map a.eval).size)];rfl
       rw [this,X,Q];rfl
    .cases d
  .cases d
 .rename_i f x hl;cases h:cx.so f 0 with
  | none=>rw [h] at d;cases d
  | some c'=>
   rw [h] at d;simp only [Option.bind_some] at d;split at d
   .cases d
   .rename_i F;have F:c'.two=AF:=by simpa using F
    injection d with d;simp only [Af] at d;obtain ⟨rfl,rfl⟩:=d;obtain ⟨L,N,sg⟩:=E f 0 _ h;obtain ⟨args,J,l⟩:=J1r (a:=a) M hl;obtain ⟨H,G⟩:=jQ hs J;have B:=G 0 _ rfl;rw [Ko] at B;have m:(args.map a.eval).size=1:=by rw [H];rfl
    refine ⟨(args.map a.eval).getD 0 undef,sg,B,?_⟩;rw [<-L] at l;rw [l sg.fn]
    congr 2
    rw [show c'.j=#[] by simp [GK.j,F]];apply Array.ext
    .rw [m];rfl
    .intro i r K;rw [m] at r;have:i=0:=by omega
     subst this;have:(args.map a.eval)[0]=(args.map a.eval).getD 0 undef:=by rw [Aa,Ah (by omega:0<(args.map a.eval).size)];rfl
     rw [this];rfl
 .cases d
theorem fC{P:Program}{ro:AH AM}{ops:Array Oper}{o:Oper}{lo:AP}{ne:AN}{m:Ty.T I}(hs:DN nt w S (enc s) μ a)(Z:comp P [] nt ops o=AC lo)(v:PK val s lo.op=AC (ne,m)) :
  ∃g:AN,(g=AE->m=(0:AI))/\∀ {K:Act->World->Prop} {Q:Exit->Act->World->Prop},K (a.put o.dst (.bool (if ne then !g else g))) w->Ie ro P o a w K Q:=by
 unfold PK at v;split at v
 .rename_i ne' x hl;split at v
  .rename_i t l hx;injection v with v;simp only [Af] at v;obtain ⟨rfl,rfl⟩:=v;have f:=Kak Z;rw [hl] at f;obtain ⟨dst,oop,oty,opos,oafter,ogd⟩:=o;simp only at f;have key:∃(op:BinOp) (r e:TypeId) (X Y:Operand) (yt:TypeId),oop=.binOp op r X Y yt/\P.underlying r=AC (.slice e)/\ED X=AC x/\ED Y=AC (.c .BK)/\op=(if ne' then .neq else .eql):=by
    cases oop
    case binOp op r X Y yt=>
     simp only [JK] at f;split at f
     .split at f
      .split at f<;>first|(injection f with f;cases f;done)|cases f
      .split at f<;>first|(injection f with f;cases f;done)|cases f
      .injection f with f;cases f
     .rename_i e x' B F E;split at f
      .injection f with f;injection f with H G;subst H;subst G;exact ⟨_,_,e,X,Y,yt,rfl,B,F,E,rfl⟩
      .injection f with f;injection f with H G;subst H;subst G;exact ⟨_,_,e,X,Y,yt,rfl,B,F,E,rfl⟩
      .cases f
     .split at f
      .split at f<;>first|(injection f with f;cases f;done)|cases f
      .split at f<;>first|(injection f with f;cases f;done)|cases f
      .cases f
     .cases f
    all_goals
     exfalso;simp only [JK] at f
     repeat' split at f
     all_goals first|(cases f;done)|contradiction|(injection f with f;cases f;done)|(obtain ⟨m',hm,e⟩:=Yd f;cases e;done)|skip
   obtain ⟨op,r,e,X,Y,yt,rfl,B,F,E,rfl⟩:=key;have hX:=Jr hs F;rw [Ko,hx] at hX;have hX:AX w S (AA s) μ (.CF (List.length (α:=t.T) l) (List.flatMap (α:=t.T) t.cs l)) (a.eval X):=hX;have hY:=Jr hs E;have hY:a.eval Y=.slice AD 0 0:=AX.CW (h:=(enc s).h) (by simpa [St.ev] using hY);have kk:∃g:AN,(g=AE/\a.eval X=.slice AD 0 0/\List.length (α:=t.T) l=0)\/(g=AF/\∃A n c,a.eval X=.slice (AC A) n c):=by
    generalize hL:List.length (α:=t.T) l=L at hX;generalize List.flatMap (α:=t.T) t.cs l=C at hX;generalize a.eval X=V at hX;cases hX with
    | pure O=>
     cases O with
     | FQ=>exact ⟨AE,.inl ⟨rfl,rfl,rfl⟩⟩
     | CF n l a' cap cv=>exact ⟨AF,.inr ⟨rfl,a',_,cap,rfl⟩⟩
   obtain ⟨g,M⟩:=kk;have J:(Op.equal r (a.eval X) (.slice AD 0 0)).run P w=.ok g w:=by
    have hd:∀d,(Op.equalIn (d+1) r (a.eval X) (.slice AD 0 0)).run P w=.ok g w:=λd=>by
     rcases M with ⟨rfl,y,-⟩|⟨rfl,A,n,c,y⟩
     .rw [y];simp [Op.equalIn,run_underlying B]
     .rw [y];simp [Op.equalIn,run_underlying B]
    exact hd 9999
   have R:∃q n c,a.eval X=.slice q n c:=by
    rcases M with ⟨rfl,y,-⟩|⟨rfl,A,n,c,y⟩
    .exact ⟨_,_,_,y⟩
    .exact ⟨_,_,_,y⟩
   obtain ⟨q,n,c,y⟩:=R;refine ⟨g,λh=>?_,λ{K Q} hK=>?_⟩
   .rcases M with ⟨-,-,N⟩|⟨N,-⟩
    .show ((List.length (α:=t.T) l:AM):AI)=0;omega
    .rw [N] at h;cases h
   .refine Vv.BU (cv:=.bool (if ne' then !g else g)) (w':=w) ?_ hK;have e3:∀op,execOp a.eval { dst:=dst,op:=.binOp op r X Y yt,type:=oty,pos:=opos,after:=oafter,guard:=ogd }=(do pure (.value (<-(do eqGuard op r X Y (a.eval X) (a.eval Y);binOp op r (a.eval X) (a.eval Y))))):=λop=>by simp only [execOp]<;>rfl
    rw [e3,hY];rw [y] at J ⊢;cases ne' with
    | true=>simp [eqGuard,binOp,Sem.run_bind,J,Result.andThen]
    | false=>simp [eqGuard,binOp,Sem.run_bind,J,Result.andThen]
  .cases v
 .cases v
end
section
variable {s s':Dn.S Ty.T}
theorem wM(a:s'.ob=s.ob)(d:s'.ln=s.ln):AB s'=AB s:=by funext c;cases c<;>simp only [AB,Q4,a,d]
theorem bQ(a:s'.ob=s.ob)(d:s'.ln=s.ln)(v:V Ty.T):AL s' v=AL s v:=by cases v<;>simp only [AL,wM a d]
theorem Zd(a:s'.ob=s.ob)(d:s'.ln=s.ln)(f:s'.mo=s.mo:=by rfl):AA s'=AA s:=by
 funext g;simp only [AA,a,f];cases look g s.ob with
 | none=>rfl
 | some o=>cases o<;>simp only [Option.map_some,BD,wM a d]
theorem J2v(s:Dn.S Ty.T):s.pop.mo=s.mo:=by unfold Dn.S.pop;split<;>rfl
def KO:Act:={ tmps:=#[],defers:=[] }
theorem VE{w:World}{S:AM->Prop}{h:Heap}{μ:Gh}(a:BJ w S h μ):DN 0 w S ⟨λ_=>.any,h⟩ μ KO:=⟨λ_=>.any _,a,.nil,Nat.zero_le _⟩
theorem J9j{lo:AG (AG (AM×V Ty.T))}{ob:AG (AM×Ob Ty.T)}{ln:AG (AM×AM×Ty.T I)}{mo:AH (Mo Ty.T)}:enc (⟨[],lo,ob,ln,mo⟩:Dn.S Ty.T)=⟨λ_=>.any,AA ⟨[],lo,ob,ln,mo⟩⟩:=rfl
theorem Jt8{P:Program}{nt:AM}{ops:Array Oper}{o:Oper}{lo:AP}(a:comp P [] nt ops o=AC lo):oL nt lo.dst=AE:=by
 unfold comp at a;split at a
 .cases a
 .split at a
  .rename_i hd;split at a
   .injection a with a;subst a;exact hd
   .split at a
    .split at a
     .injection a with a;subst a;exact hd
     .cases a
    .cases a
  .cases a
theorem BG.put{nt:AM}{w:World}{S:AM->Prop}{s:Dn.S Ty.T}{μ:Gh}{a:Act}{fs:AG Fm}(h:BG nt w S s μ a fs){d:AH AM}(hd:oL nt d=AE){v:V Ty.T}{cv:Value}(ok:okV s v)(hr:AX w S (AA s) μ (AL s v) cv) :
  BG nt w S (s.put d v) μ (a.put d cv) fs:=by have eh:=jO s d v;refine h.step (by cases d<;>rfl) ?_ (.put s d v) (h.iv.put ok d) (by rw [eh];exact .refl) (by rw [eh];exact .refl _ _);rw [wD];exact Jpa h.fr hd hr h.fr.hp .refl (.refl _ _)
end
theorem oq{ro:AH AM}{P:Program}{nt:AM}{cm:AG (AM×CM)}{ops:Array Oper}{o:Oper}{lo:AP}{a:Act}{w:World}{K:Act->World->Prop}{Q:Exit->Act->World->Prop}(g:comp P cm nt ops o=AC lo)
  (h:if Region.wanted o (yielded ops a.tmps)=AE then Ie ro P o a w K Q else K (a.put o.dst undef) w) :
  if Region.wanted o (yielded ops a.tmps)=AE then o.wpIn (Fr ro) 0 P a w K Q else (∀f,o.about P w a.eval=AC f->(Fr ro).fn f)/\K (a.put o.dst undef) w:=by
 by_cases d:Region.wanted o (yielded ops a.tmps)=AE
 .rw [AS d] at h ⊢;exact bJ (Jsv g) h
 .rw [AR d] at h ⊢;exact ⟨λ_ _=>trivial,h⟩
theorem OO{ro:AH AM}{n:AM}{P:Program}{l:AM}{f:FuncId}{tmps:Array Value}{x y:Code}{w:World}{R:Ending->World->Prop}(h:RoundIn Fence.wide n P l f tmps x y w R):RoundIn (Fr ro) n P l f tmps x y w R:=by
 cases ro with
 | none=>exact h
 | some l=>exact h
theorem ZC{α:Type}{c:Prop}[Decidable c]{x:AH α}{y:α}(h:(if c then x else val.no)=AC y):c/\x=AC y:=by
 split at h
 .exact ⟨by assumption,h⟩
 .cases h
theorem PE{n:AI}{α:Type}{k:AN->AH α}{r:α}{b:AN}(d:b=AE->n=0)(h:val.nq n k=AC r):k b=AC r:=by
 have h:VU n k=AC r:=h;unfold VU at h;split at h
 .split at h
  .rename_i e;cases b with
   | false=>exact h
   | true=>rw [e];exact h
  .cases h
 .rename_i a;cases b with
  | false=>exact h
  | true=>exact (a (d rfl)).elim
theorem Ny{P:Program}{nt:AM}{w:World}{S:AM->Prop}{s:Dn.S Ty.T}{μ:Gh}{a:Act}{fs:AG Fm}{c:GK}(hx:DI P c)(hF:BG nt w S s μ a fs){v:V Ty.T}{cv:Value}(H:AX w S (AA s) μ (AL s v) cv){α:Type}{r:α}{k:Dn.S Ty.T->AH α}
  (hd:OA val c s v k=AC r) {R:Ending->World->Prop} (hR:∀w' s',BG nt w' S s' μ a fs->CY w S (AA s) μ w' S (AA s') μ->k s'=AC r->R (.returned (.tuple #[])) w'):Calls P c.id (#[cv]++c.j) w R:=by
 unfold OA at hd;split at hd
 .rename_i g ver;split at hd
  .rename_i J e el t l M;obtain ⟨⟨F,Q,E⟩,O⟩:=ZC hd;subst F;subst Q;obtain ⟨f,B,N⟩:=Ji O;obtain ⟨et,A⟩:=Xo B;injection et with et;subst et;have y:f=l:=A;subst y;have d:Hz (c.fn f) (λG=>k (s.obj g (.row J c.t.sz el c.t G [] AD AF)))=AC r:=N;cases m:c.fn f with
   | none=>rw [m] at d;cases d
   | some G=>
    rw [m] at d;exact J24 hF (hx.at m w) (λ_=>trivial) M rfl E H λw' L K=>hR w' _ L K d
  .cases hd
 .have e:cv=.slice AD 0 0:=AX.CW (h:=AA s) H;subst e;refine (hx.pz w).mono λe w' ⟨F,o⟩=>?_;subst F;exact hR w' s (hF.old o) (bP o) hd
 .cases hd
theorem Jzx{ro:AH AM}{P:Program}{nt:AM}{ops:Array Oper}{call:Vv.Call}{base:AM}{cx:Cx}{inl:M6}{n:AG AM}{hs:AG (AM×Hd)}{Q:Exit->Act->World->Prop}(hC:j6 call cx.ct)(d:JJ P call)(hI:ZA P hs inl)(Y:IX P cx){α:Type}{r:α}{k:Dn.S Ty.T->AH α}{fs:AG Fm}(hh:He P hs fs)(hfs:Ew fs) :
  ∀ {l:AG AM} {os:AG Oper} {L:AG (AM×AP)} {w:World} {S:AM->Prop} {s:Dn.S Ty.T} {μ:Gh} {a:Act},Iw P [] nt ops l=AC L->l.map (λi=>ops[i]?)=os.map AC->BG nt w S s μ a fs->Mx val inl cx base n L s k=AC r ->
  (∀a' w' S' μ' s',BG nt w' S' s' μ' a' fs->CY w S (AA s) μ w' S' (AA s') μ'->k s'=AC r->Q .normal a' w')->wpListIn (Fr ro) 0 P ops Q os a w
 | [],os,L,w,S,s,μ,a,A,X,h,hd,hQ=>by
  cases os with
  | cons o os=>simp at X
  | nil=>
   injection A with A;subst A;exact hQ _ _ _ _ _ h .refl hd
 | i::l,[],L,w,S,s,μ,a,A,X,h,hd,hQ=>by simp at X
 | i::l,o::os,L,w,S,s,μ,a,A,X,h,hd,hQ=>by
  simp only [List.map_cons,List.cons.injEq] at X;obtain ⟨ho1,ho2⟩:=X;simp only [Iw,ho1] at A;cases hx:comp P [] nt ops o with
  | none=>rw [hx] at A;cases A
  | some lo=>
   cases hl:Iw P [] nt ops l with
   | none=>rw [hx,hl] at A;cases A
   | some L'=>
    rw [hx,hl] at A;injection A with A;subst A;refine wpListIn_step λK hK=>oq hx ?_;have next:∀ {a1 w1 S1 μ1 y},BG nt w1 S1 y μ1 a1 fs->CY w S (AA s) μ w1 S1 (AA y) μ1->Mx val inl cx base n L' y k=AC r->K a1 w1:=λE J d1=>
     hK _ _ (Jzx hC d hI Y hh hfs hl ho2 E d1 λa2 w2 S2 μ2 s2 q1 q2 q3=>hQ _ _ _ _ _ q1 (J.trans q2) q3)
    simp only [Mx] at hd;split at hd
    .rcases Jz2 h.iv hd with ⟨y,J,on1,N,hg,hd⟩|⟨y,g,want,J,on1,N,hg,hv,hd⟩
     .have H:=h.alike J on1 N;have eh:AA y=AA s:=AT St.h J;obtain ⟨wd,wn,ws⟩:=Jy4 H.fr hx;have hw:Region.wanted o (yielded ops a.tmps)=AE:=by
       cases G:lo.guard with
       | none=>exact wn G
       | some p=>
        obtain ⟨g,want⟩:=p;have:=(ws g want G).1 want (by rw [J];exact hg g want G);rw [this];cases want<;>rfl
      split at hd
      .rename_i c v hf;rw [AS hw];obtain ⟨cv,sg,hr,F⟩:=dP Y H.fr hx N hf;have fin:Calls P c.id (#[cv]++c.j) w λe w'=>∃cv,e=.returned cv/\K (a.put o.dst cv) w':=by
        refine Ny sg H hr hd λw' s2 E B M=>⟨_,rfl,?_⟩;rw [<-wd];refine next (E.put (Jt8 hx) (v:=.tp []) (λc A=>(by cases A)) (.pure (.Cb [] #[] rfl λi x h=>(by cases h)))) ?_ M
        rw [jO];rw [eh] at B;exact B
       exact DR F fin λe w' he=>he
      split at hd
      .rename_i f vs hf;rw [AS hw];obtain ⟨okv,cargs,c1,c2,c3,c4⟩:=Ra (cx:=cx) (w:=w) H.fr hx N hf;obtain ⟨fk,hcall'⟩:=hI hd;have hps:BG 0 w S (y.push (Ib (jI L' n)) []) μ KO (⟨nt,a,AD,w.heap.size⟩::fs):=H.push (λp hp=>by cases hp) (λj r h=>by cases h) (by rw [J9j];have:AA (⟨[],kept y.sl (Ib (jI L' n))::y.lo,y.ob,y.ln,y.mo⟩:Dn.S Ty.T)=AA y:=Zd rfl rfl;rw [this];exact VE H.fr.hp) rfl
       have eh2:AA (y.push (Ib (jI L' n)) [])=AA y:=Zd rfl rfl;have hcs:=hcall' hps (hh.push _) (hfs.push (by intro j r h;cases h)) okv c1 (λi x hx=>by
        rw [eh2,show AL (y.push (Ib (jI L' n)) []) x=AL y x from bQ rfl rfl x];exact c2 i x hx) (R:=λe w'=>∃cv,e=.returned cv/\K (a.put o.dst cv) w') rfl λw' S' μ' v s' cv E B M r4 r5=>⟨cv,rfl,by
        rw [eh2,eh] at r4;rw [<-wd];refine next (E.put (Jt8 hx) B M) ?_ r5
        rw [jO];exact r4⟩
       cases hb:Ao yB f with
       | false=>exact DR (c3 hb (fk hb)) (hcs.1 hb) λe w' he=>he
       | true=>
        obtain ⟨j,e2,F⟩:=c4 hb;obtain ⟨q,q1,q2,q3⟩:=hcs.2 j e2 rfl;unfold Ie;rw [F,run_yield q1 q2,Oper.uponIn_round];refine ⟨λh=>(by cases h),(OO q3).mono λe w' he=>?_⟩;obtain ⟨cv,rfl,Z⟩:=he;exact Z
      .obtain ⟨op',s2,al,st,iv2,on2,Z⟩:=J6r (call:=call) (o:=lo) (k:=λ_ s'=>Mx val inl cx base n L' s' k) hC N (λg want e=>by rw [J];exact hg g want e) hd;obtain ⟨cm,O⟩:=tC hx al;refine wN d H.fr O st λa' w' S' μ' r0 E B M=>next (H.step r0 E on2 iv2 B M) ?_ Z
       rw [<-eh];exact B
     .have H:=h.alike J on1 N;have eh:AA y=AA s:=AT St.h J;obtain ⟨op',s2,al,st,iv2,on2,Z⟩:=wm (call:=call) (base:=base) (o:=lo) (k:=λ_ s'=>Mx val inl cx base n L' s' k) N hg (by rw [J];exact hv) hd;obtain ⟨cm,O⟩:=tC hx al;refine wN d H.fr O st λa' w' S' μ' r0 E B M=>next (H.step r0 E on2 iv2 B M) ?_ Z
      rw [<-eh];exact B
    .split at hd
     .rename_i ne m hn G;obtain ⟨wd,wn,ws⟩:=Jy4 h.fr hx;rw [AS (wn G)];obtain ⟨b0,hz,hwp⟩:=fC (P:=P) (ro:=ro) h.fr hx hn;refine hwp ?_;rw [<-wd];refine next (h.put (Jt8 hx) (v:=.c (.lf .bool (if ne=AE then val.nt b0 else b0))) (Xe (Ka _ rfl)) ?_) ?_ (PE hz hd)
      .cases ne<;>exact .pure (.bool _)
      .rw [jO];exact .refl
     .exact Nu hC d h hx hd λa' w' S' μ' s' op' E B M=>next E B M
def Gh.lab(μ:Gh)(j x:AM):Gh:=⟨μ.b,μ.o,upd μ.l j x⟩
section
variable {w:World} {S:AM->Prop} {s:Dn.S Ty.T} {h:Heap} {μ:Gh} {j x:AM}
theorem mZ{c:C Ty.T}(F:LW j c=AE){v:Value}(hr:AX w S h μ (AB s c) v):AX w S h (Gh.lab μ j x) (AB s c) v:=by
 have fl:∀ {y:AV},y.flat=AE->AX w S h μ y v->AX w S h (Gh.lab μ j x) y v:=λG hr=>.pure (hr.flat G);have ar:∀ {g ver off len:AM} {v:Value},AX w S h μ (.arr g ver off len) v->AX w S h (Gh.lab μ j x) (.arr g ver off len) v:=λhr=>by
  cases hr with
  | pure A=>exact .pure A
  | arr _ _ _ _ _ o B r m hr=>exact .arr _ _ _ _ _ o B r m hr
 have pr:∀ {g ver off:AM} {v:Value},AX w S h μ (.ptr g ver off) v->AX w S h (Gh.lab μ j x) (.ptr g ver off) v:=λhr=>by
  cases hr with
  | pure A=>exact .pure A
  | ptr _ _ _ _ o B r m hr=>exact .ptr _ _ _ _ o B r m hr
 cases c with
 | any=>exact .any _
 | lf t y=>
  rcases Jsl (Sn t y) with e|e
  .simp only [AB];rw [e];exact .any _
  .exact fl e hr
 | kb b=>exact fl rfl hr
 | k y=>exact fl F hr
 | rp t y o=>exact fl rfl hr
 | own g ver=>exact ar hr
 | part g ver a b=>exact ar hr
 | ptr g ver o=>exact pr hr
 | F5 g ver e i o=>exact pr hr
 | map g ver=>
  cases hr with
  | pure A=>exact .pure A
  | map _ _ _ o B r m hr=>exact .map _ _ _ o B r m hr
 | fn f l=>
  obtain ⟨cs,e,m,H⟩:=hr.EZ;subst e;refine .fn f _ cs m λi y d=>?_;have:=H i y d;rw [Ad] at d;cases E:l[i]? with
  | none=>rw [E] at d;cases d
  | some p=>rw [E] at d;injection d with d;subst d;exact pr this
 | yl i=>
  have:=hr.Ls;subst this;have hi:i≠j:=λe=>by subst e;simp [LW] at F
  have:=AX.Fu (w:=w) (S:=S) (h:=h) (μ:=Gh.lab μ j x) i;simp only [Gh.lab,Jd _ _ _ _ hi] at this;exact this
theorem J3d{v:V Ty.T}(r:O9 j v=AE){cv:Value}(hr:AX w S h μ (AL s v) cv):AX w S h (Gh.lab μ j x) (AL s v) cv:=by
 cases v with
 | c y=>exact mZ r hr
 | ag l=>
  have hr:AX w S h μ (.agg (l.map (AB s))) cv:=hr;obtain ⟨cs,e,A,m⟩:=hr.CB;subst e;refine .agg _ cs A (λi y a=>(m i y a).2) λi y a=>?_;have:=(m i y a).1;rw [Ad] at a;cases d:l[i]? with
  | none=>rw [d] at a;cases a
  | some p=>rw [d] at a;injection a with a;subst a;exact mZ (Ab.1 r p (Ac d)) this
 | tp l=>
  have hr:AX w S h μ (.Cb (l.map λp=>if p.1 then .agg (p.2.map (AB s)) else Yb (p.2.map (AB s)))) cv:=hr;obtain ⟨cs,e,A,m⟩:=hr.FI;subst e;refine .Cb _ cs A λi y a=>?_;have f:=m i y a;rw [Ad] at a;cases d:l[i]? with
  | none=>rw [d] at a;cases a
  | some p=>
   rw [d] at a;injection a with a;have g:=Ab.1 r p (Ac d);subst a;obtain ⟨b,q⟩:=p;cases b with
   | true=>
    have f:AX w S h μ (.agg (q.map (AB s))) _:=f;obtain ⟨cs',e,E,B⟩:=f.CB;show AX w S h (Gh.lab μ j x) (.agg (q.map (AB s))) _;rw [e];refine .agg _ cs' E (λi y a=>(B i y a).2) λi y a=>?_;have:=(B i y a).1;rw [Ad] at a;cases d:q[i]? with
    | none=>rw [d] at a;cases a
    | some p=>rw [d] at a;injection a with a;subst a;exact mZ (Ab.1 g p (Ac d)) this
   | false=>
    have f:AX w S h μ (Yb (q.map (AB s))) _:=f;show AX w S h (Gh.lab μ j x) (Yb (q.map (AB s))) _
    match q,g,f with
    | [],_,_=>exact .any _
    | [c],g,f=>exact mZ (Ab.1 g c (Ai.2 rfl)) f
    | _::_::_,_,_=>exact .any _
def AU.cells:AU->AG AV
 | .box _ c=>c
 | .arr _ _ _ c _=>c
 | .map _ es _=>es.map (·.2)
theorem xV{x:AV}(h:x.flat=AE):x.FB=AE:=by cases x<;>first|rfl|cases h
theorem Jtf:∀ {l:AG AV},l.all AV.flat=AE->oM l=AE
 | [],_=>rfl
 | x::l,h=>by rw [List.all_cons,Am] at h;show (x.FB&&oM l)=AE;rw [xV h.1,Jtf h.2];rfl
theorem SF(t:Ty)(x:t.T):(EA t x).FB=AE:=by
 unfold EA;split
 .exact Jtf (Sn t x)
 .rename_i h;have a:t.one=AE:=by rw [tL] at h;simpa using h
  have:=Sn t x;rw [lu a] at this;exact xV (by simpa using this)
theorem J55(o:Ob Ty.T):∀y∈AU.cells (BD s o),y.FB=AE\/∃c∈o.kids,y=AB s c:=by
 intro y a;cases o with
 | mp v kt vt es=>
  obtain ⟨p,f,rfl⟩:=Ae.1 a;obtain ⟨e,-,rfl⟩:=Ae.1 f;exact .inl (SF vt e.2)
 | em v kt vt el=>cases a
 | box v cs=>obtain ⟨c,d,rfl⟩:=Ae.1 a;exact .inr ⟨c,d,rfl⟩
 | lit v e el cs z=>obtain ⟨c,d,rfl⟩:=Ae.1 a;exact .inr ⟨c,d,rfl⟩
 | row v e el t l g nest z=>
  rcases List.mem_append.1 a with a|a
  .cases nest with
   | none=>exact .inl (xV (Ab.1 (Yk t l) y a))
   | some p=>
    rcases List.mem_or_eq_of_mem_set a with a|rfl
    .exact .inl (xV (Ab.1 (Yk t l) y a))
    .exact .inr ⟨p.2,List.mem_append_left _ (Ai.2 rfl),rfl⟩
  .obtain ⟨c,d,rfl⟩:=Ae.1 a;exact .inr ⟨c,List.mem_append_right _ d,rfl⟩
theorem J33(d:Ma j s=AE):(∀p∈s.sl,O9 j p.2=AE)/\(∀l∈s.lo,∀p∈l,O9 j p.2=AE)/\∀p∈s.ob,∀c∈p.2.kids,LW j c=AE:=by unfold Ma at d;simp only [Am] at d;exact ⟨λp a=>Ab.1 d.1.1 p a,λl hl p a=>Ab.1 (Ab.1 d.1.2 l hl) p a,λp a c f=>Ab.1 (Ab.1 d.2 p a) c f⟩
theorem OY(L:Ma j s=AE)(A:BJ w S (AA s) μ):BJ w S (AA s) (Gh.lab μ j x):=by
 refine ⟨λg o B=>?_,A.inj,A.own,A.lt⟩;have d:=A.ob g _ B;rcases tT B with ⟨ob,E,rfl⟩|⟨-,hmo⟩
 rotate_left
 .obtain ⟨-,m,-,⟨-,rfl⟩|⟨-,-,e,-,rfl⟩⟩:=jZ hmo
  .obtain ⟨es',clock,h,f,a3,a4⟩:=d;refine ⟨es',clock,h,f,a3,λi k v hi=>?_⟩;obtain ⟨e,J,H,G⟩:=a4 i k v hi;refine ⟨e,J,H,?_⟩;obtain ⟨O,-,F⟩:=wH hi;injection F with _ F;subst F;cases G with
   | pure A=>exact .pure A
   | arr _ _ _ _ _ o B K d hr=>exact .arr _ _ _ _ _ o B K d hr
  .intro r;obtain ⟨cs,h,f,a3,a4⟩:=d r;exact ⟨cs,h,f,λi y a=>⟨.pure ((a3 i y a).1.flat (Ab.1 (Yk _ _) y (Ac a))),(a3 i y a).2⟩,a4⟩
 have key:∀y∈AU.cells (BD s ob),∀ {v:Value},AX w S (AA s) μ y v->AX w S (AA s) (Gh.lab μ j x) y v:=λy a v hr=>by
  rcases J55 ob y a with M|⟨c,N,rfl⟩
  .exact .pure (hr.FB M)
  .exact mZ ((J33 L).2.2 _ (Xq E) c N) hr
 cases l:BD s ob with
 | box v c=>
  rw [l] at d key;obtain ⟨cs,el,h,f,a3⟩:=d;exact ⟨cs,el,h,f,λi y a=>⟨key y (Ac a) (a3 i y a).1,(a3 i y a).2⟩⟩
 | arr v e t c z=>
  rw [l] at d key;intro r;obtain ⟨cs,h,f,a3,a4⟩:=d r;exact ⟨cs,h,f,λi y a=>⟨key y (Ac a) (a3 i y a).1,(a3 i y a).2⟩,a4⟩
 | map v es z=>
  rw [l] at d key;obtain ⟨es',clock,h,f,a3,a4⟩:=d;refine ⟨es',clock,h,f,a3,λi k v hi=>?_⟩;obtain ⟨e,J,H,G⟩:=a4 i k v hi;exact ⟨e,J,H,key v (Ae.2 ⟨_,Ac hi,rfl⟩) G⟩
theorem BG.lab{nt:AM}{a:Act}{fs:AG Fm}(hF:BG nt w S s μ a fs)(E:Ma j s=AE)(F:∀p∈fs,∀i r,p.lo=AC (i,r)->i≠j):BG nt w S s (Gh.lab μ j x) a fs:=by
 obtain ⟨H,G,K⟩:=J33 E;refine ⟨⟨λd=>?_,OY E hF.fr.hp,hF.fr.df,hF.fr.sz⟩,hF.len,λi l b hl J d v y=>J3d (G l (Ac hl) (d,v) (Xq y)) (hF.lo i l b hl J d v y),hF.sz,hF.md,λp B i r hl=>?_,hF.iv⟩
 .have:=hF.fr.fr d;show AX w S (AA s) _ (AL s (s.at d)) _;refine J3d ?_ this;unfold Dn.S.at;cases hd:look d s.sl with
  | none=>rfl
  | some v=>exact H (d,v) (Xq hd)
 .have:=hF.lp p B i r hl;simp only [Gh.lab,Jd _ _ _ _ (F p B i r hl)];exact ⟨this.1,this.2.1,λh f m q A g=>by rw [Jd _ _ _ _ (F h f m q A)];exact this.2.2 h f m q A g⟩
theorem Wv{w':World}{S':AM->Prop}{h':Heap}{μ':Gh}(L:AM->AM)(ev:CY w S h μ w' S' h' μ'):CY w S h ⟨μ.b,μ.o,L⟩ w' S' h' ⟨μ'.b,μ'.o,L⟩:=
 ⟨ev.os,ev.tape,ev.output,ev.size,ev.keep,ev.shape,ev.st,ev.st2,ev.ow,rfl⟩
theorem mO(ob:Obj):CY w S h μ (w.alloc ob) S h μ:=
 ⟨rfl,rfl,⟨rfl,Aq _⟩,by simp,λb d _=>heap_alloc_old w ob b d,λb cs el z a=>⟨cs,by rw [heap_alloc_old w ob b (Ag.1 a).1];exact a,rfl⟩,λ_ h=>h,λ_ h=>.inl h,λ_ h=>.inl h,rfl⟩
theorem OX(a:BJ w S h μ)(ob:Obj):BJ (w.alloc ob) S h μ:=
 ⟨λg o d=>(a.ob g o d).Cz a (mO ob) (.refl _ _) λhl=>heap_alloc_old w ob _ ((a.ob g o d).lt hl),a.inj,a.own,λb f=>by have:=a.lt b f;simp;omega⟩
theorem BG.lay{nt:AM}{a:Act}{fs:AG Fm}(hF:BG nt w S s μ a fs)(ob:Obj):BG nt (w.alloc ob) S s μ a fs:=
 hF.step rfl ⟨λd=>(hF.fr.fr d).Cz hF.fr.hp (mO ob) (.refl _ _),OX hF.fr.hp ob,hF.fr.hp.marks hF.fr.df (mO (h:=AA s) (μ:=μ) (S:=S) ob),hF.fr.sz⟩ (.refl s) hF.iv (mO ob) (.refl _ _)
theorem Yh{l:AM}{o:Obj}{b:AM}(h:b≠l):(w.putObj l o).heap[b]?=w.heap[b]?:=World.putObj_heap_other h
theorem J2e{l:AM}{o:Obj}(hS:¬S l){y:AV}{v:Value}(hr:AY w S y v):AY (w.putObj l o) S y v:=hr.mono (λ_ h=>h) λb a=>Yh λe=>hS (e▸a)
theorem SI{l:AM}{o:Obj}{cells:AG AV}{b k e off len:AM}{v:Value}(g:cells≠[]->b≠l)(f:JM w cells b k e off len v):JM (w.putObj l o) cells b k e off len v:=
 ⟨f.1,λd=>by obtain ⟨a,cap,cs,el,z,A,y,r,m,h⟩:=f.2 d;exact ⟨a,cap,cs,el,z,A,y,(Yh (g d)).trans r,m,h⟩⟩
theorem jK{l:AM}{o:Obj}(hS:¬S l)(hl:∀g ob,h g=AC ob->ob.live=AE->μ.b g≠l){y:AV}{v:Value}(hr:AX w S h μ y v):AX (w.putObj l o) S h μ y v:=by
 induction hr with
 | any v=>exact .any v
 | pure B=>exact .pure (J2e hS B)
 | fn f l cs hl hr m=>exact .fn f l cs hl m
 | agg l cs hl a hr m=>exact .agg l cs hl a m
 | Cb l cs hl hr m=>exact .Cb l cs hl m
 | arr g ver off len v ob d r a hr=>
  refine .arr g ver off len v ob d r a λe=>?_;obtain ⟨esz,el,cells,fz,eq,E⟩:=hr e;exact ⟨esz,el,cells,fz,eq,SI (λA=>hl g ob d (by rw [eq];exact Kz.2 A)) E⟩
 | ptr g ver off v ob d r a hr=>exact .ptr g ver off v ob d r a hr
 | map g ver v ob d r a hr=>exact .map g ver v ob d r a hr
 | Fu j=>exact .Fu j
theorem J3a{l:AM}{o:Obj}(hS:¬S l)(hl:∀g ob,h g=AC ob->ob.live=AE->μ.b g≠l)(r:BJ w S h μ):BJ (w.putObj l o) S h μ:=by
 refine ⟨λg ob A=>?_,r.inj,r.own,λb E=>by simpa using r.lt b E⟩;have B:=r.ob g ob A;cases ob with
 | box v c=>
  obtain ⟨cs,el,m,f,a3⟩:=B;exact ⟨cs,el,(Yh (hl g _ A rfl)).trans m,f,λi y a=>⟨jK hS hl (a3 i y a).1,(a3 i y a).2⟩⟩
 | arr v e t c z=>
  intro d;obtain ⟨cs,m,f,a3,a4⟩:=B d;exact ⟨cs,(Yh (hl g _ A (Kz.2 d))).trans m,f,λi y a=>⟨jK hS hl (a3 i y a).1,(a3 i y a).2⟩,a4⟩
 | map v es z=>
  obtain ⟨es',clock,m,f,a3,a4⟩:=B;refine ⟨es',clock,(Yh (hl g _ A rfl)).trans m,f,a3,λi k v hi=>?_⟩;obtain ⟨e,H,G,F⟩:=a4 i k v hi;exact ⟨e,H,J2e hS G,jK hS hl F⟩
theorem J9z(a:BJ w S h μ){l:AM}{r:Loop}(hr:w.heap[l]?=AC (.loop r)):∀g ob,h g=AC ob->ob.live=AE->μ.b g≠l:=by
 rintro g ob d hl rfl;have:=a.ob g ob d;cases ob with
 | box v cells=>obtain ⟨cs,el,q,_⟩:=this;rw [hr] at q;cases q
 | arr v e t cells z=>obtain ⟨cs,q,_⟩:=this (Kz.1 hl);rw [hr] at q;cases q
 | map v es z=>obtain ⟨es',clock,q,_⟩:=this;rw [hr] at q;cases q
theorem Jxw{l:AM}{r:Loop}{o:Obj}(hr:w.heap[l]?=AC (.loop r)){ds:AG Deferred}(hd:Marks w S ds):Marks (w.putObj l o) S ds:=⟨hd.1,λd f=>by obtain ⟨b,e,a,hs⟩:=hd.2 d f;exact ⟨b,e,(Yh λq=>by subst q;rw [hr] at a;cases a).trans a,hs⟩⟩
theorem BG.eO{nt:AM}{a:Act}{fs:AG Fm}(hF:BG nt w S s μ a fs){l:AM}{r:Loop}(hr:w.heap[l]?=AC (.loop r))(hS:¬S l)(h:∀p∈fs,∀j q,p.lo=AC (j,q)->μ.l j≠l)(o:Obj):BG nt (w.putObj l o) S s μ a fs:=by
 have hl:=J9z hF.fr.hp hr;exact ⟨⟨λd=>jK hS hl (hF.fr.fr d),J3a hS hl hF.fr.hp,Jxw hr hF.fr.df,hF.fr.sz⟩,hF.len,λi m b B A d v y=>jK hS hl (hF.lo i m b B A d v y),λp f=>⟨Jxw hr (hF.sz p f).1,(hF.sz p f).2.1,by simpa using (hF.sz p f).2.2⟩,hF.md,
  λp f j q g=>⟨(Yh (h p f j q g)).trans (hF.lp p f j q g).1,(hF.lp p f j q g).2.1,(hF.lp p f j q g).2.2⟩,hF.iv⟩
end
end Go.Dn
