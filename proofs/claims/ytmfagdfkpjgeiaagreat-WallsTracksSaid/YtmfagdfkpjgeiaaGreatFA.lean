/- Regions in order of the typed evaluator; calls that are entered in place. Conditions: none. -/
import Derived.Test.YtmfagdfkpjgeiaaGreatDB
set_option linter.unusedVariables false
set_option linter.unusedSimpArgs false
namespace Go.Dn
open Go Go.Vv
open _root_.Array renaming getD_eq_getD_getElem? -> Aa, getElem?_eq_getElem -> Ac, getElem?_append_right -> Af, getElem?_eq_some_iff -> Ag
open Prod.mk renaming injEq -> Ab
open List renaming getElem?_map -> Ad, eq_nil_of_length_eq_zero -> Ae, mem_map -> Aj
open Nat renaming ble -> Ah, eq_of_beq_eq_true -> Ai
def HdAt(P:Program)(fs:List Fm)(j:Nat)(h:Hd):Prop:=
 ∃pre fr post r,fs=pre++fr::post/\post.length=j/\fr.lo=some (j,r)/\r.state=.ready/\r.pending=none/\r.tmps=fr.act.tmps/\r.params.toList=h.ps/\Ig P fr.nt r.assign=some h.a/\Ig P fr.nt r.body=some h.b /\
  (∀t∈h.ps,t<fr.nt)/\h.ps.Nodup
def Lu(P:Program)(hs:List (Nat×Hd))(fs:List Fm):Prop:=∀j h,look j hs=some h->HdAt P fs j h
def Il(fs:List Fm):Prop:=∀pre fr post,fs=pre++fr::post->∀j r,fr.lo=some (j,r)->j=post.length
theorem Lu.push{P:Program}{hs:List (Nat×Hd)}{fs:List Fm}(h:Lu P hs fs)(f:Fm):Lu P hs (f::fs):=λj x hx=>by obtain ⟨pre,fr,post,r,e,rest⟩:=h j x hx;exact ⟨f::pre,fr,post,r,by rw [e];rfl,rest⟩
theorem Il.push{fs:List Fm}(h:Il fs){nt d:Nat}{a:Act}{lo:Option (Nat×Loop)}(hl:∀j r,lo=some (j,r)->j=fs.length):Il (⟨nt,a,lo,d⟩::fs):=by
 intro pre fr post e j r g;cases pre with
 | nil=>
  injection e with l f;subst l;subst f;exact hl j r g
 | cons p pre=>
  injection e with l f;exact h pre fr post f j r g
theorem Il.tail{f:Fm}{fs:List Fm}(h:Il (f::fs)):Il fs:=λpre fr post e=>h (f::pre) fr post (by rw [e];rfl)
def sM(P:Program)(hs:List (Nat×Hd))(inl:Tn):Prop:=
 ∀ {α:Type} {f:FuncId} {base:Nat} {vs:List (V Ty.T)} {s:S Ty.T} {k:V Ty.T->S Ty.T->Option α} {r:α},inl val f base vs s k=some r ->
  (Ah yB f=false->DT P f)/\∀ {d:Nat} {w:World} {S:Nat->Prop} {μ:Gh} {a0:Act} {fr:Fm} {fs:List Fm} {cargs:Array Value},BO d w S s μ a0 (fr::fs)->Lu P hs (fr::fs)->Il (fr::fs)->(∀v∈vs,okV s v)->cargs.size=vs.length ->
   (∀(i:Nat) (x:V Ty.T),vs[i]?=some x->BF w S (AA s) μ (AQ s x) (cargs.getD i undef))->∀ {R:Ending->World->Prop},
   fr.d=w.heap.size->(∀w' S' μ' v s' cv,BO fr.nt w' S' s' μ' fr.act fs->okV s' v->BF w' S' (AA s') μ' (AQ s' v) cv->Ci w S (AA s) μ w' S' (AA s') μ'->k v s'=some r->R (.returned cv) w') ->
   (Ah yB f=false->Calls P f cargs w R) /\
   (∀j,f=yB+j->fr.lo=none->∃q,w.heap[μ.l j]?=some (.loop q)/\cargs.size=q.params.size/\RoundIn Fence.wide 0 P (μ.l j) q.fn ((q.params.zip cargs).foldl (λtmps (t,a)=>tmps.setIfInBounds t a) q.tmps) q.assign q.body w R)
section
variable {s:Dn.S Ty.T} {α:Type} {r:α}
theorem yP{s:Dn.S Ty.T}{g:Nat}{v:V Ty.T}(h:s.at g=v):(enc s).f g=AQ s v:=by subst h;rfl
theorem J2r{o:AX}{run skip:S Ty.T->Option α}(hi:Inv s)(h:qD val s o run skip=some r) :
  (∃a,enc a=enc s/\On s a/\Inv a/\(∀g want,o.guard=some (g,want)->(enc s).f g=.bool want)/\run a=some r) \/
  (∃a g want,enc a=enc s/\On s a/\Inv a/\o.guard=some (g,want)/\((enc s).f g=.bool (!want)\/(enc s).f g=.Cn [])/\skip a=some r):=by
 unfold qD at h;split at h
 ·rename_i f;exact .inl ⟨s,rfl,.refl s,hi,λg w e=>(by rw [f] at e;cases e),h⟩
 ·rename_i g want f;split at h
  ·rename_i b B;have l:(enc s).f g=.bool b:=yP B;split at h
   ·rename_i e;subst e;exact .inl ⟨s,rfl,.refl s,hi,λE w e=>(by rw [f] at e;injection e with e;injection e with m v;subst m;subst v;exact l),h⟩
   ·rename_i e;exact .inr ⟨s,g,want,rfl,.refl s,hi,f,.inl (by rw [l];cases b<;>cases want<;>simp_all),h⟩
  ·rename_i t A;have l:∀q:Bool,(t:Bool)=q->(enc s).f g=.bool q:=λq e=>by rw [yP A,<-e];rfl
   have run':∀q:Bool,(t:Bool)=q->want=q->run (s.put (some g) (.c (.kb q)))=some r ->
     ∃a,enc a=enc s/\On s a/\Inv a/\(∀g want,o.guard=some (g,want)->(enc s).f g=.bool want)/\run a=some r:=λq m v h=>
    ⟨_,iO (l q m),.put s _ _,hi.put LZ _,λE w y=>(by rw [f] at y;injection y with y;injection y with G F;subst G;subst F;rw [l q m,v]),h⟩
   have skp:∀q:Bool,(t:Bool)=q->want=!q->skip (s.put (some g) (.c (.kb q)))=some r ->
     ∃a g want,enc a=enc s/\On s a/\Inv a/\o.guard=some (g,want)/\((enc s).f g=.bool (!want)\/(enc s).f g=.Cn [])/\skip a=some r:=λq m v h=>
    ⟨_,g,want,iO (l q m),.put s _ _,hi.put LZ _,f,.inl (by rw [l q m,v,Bool.not_not]),h⟩
   split at h
   ·rename_i d;rcases Sv h with ⟨e,h⟩|⟨e,h⟩
    ·exact .inl (run' true e d h)
    ·exact .inr (skp false e d h)
   ·rename_i d;have d:want=false:=by simpa using d
    rcases Sv h with ⟨e,h⟩|⟨e,h⟩
    ·exact .inr (skp true e d h)
    ·exact .inl (run' false e d h)
  ·rename_i A;exact .inr ⟨s,g,want,rfl,.refl s,hi,f,.inr (by rw [yP A];rfl),h⟩
  ·cases h
theorem BO.alike{nt:Nat}{w:World}{S:Nat->Prop}{s d:Dn.S Ty.T}{μ:Gh}{a:Act}{fs:List Fm}(h:BO nt w S s μ a fs)(e:enc d=enc s)(on:On s d)(hi:Inv d):BO nt w S d μ a fs:=by have eh:AA d=AA s:=congrArg St.h e;refine h.step rfl (by rw [e];exact h.fr) on hi (by rw [eh];exact .refl) (by rw [eh];exact .refl _ _)
theorem _root_.Go.Vv.BF.Tq{w:World}{S:Nat->Prop}{h:Heap}{μ:Gh}{j:Nat}{v:Value}(hr:BF w S h μ (.Hf j) v):v=.func (.yield (μ.l j)) #[] #[]:=by
 cases hr with
 | pure a=>cases a
 | Hf=>rfl
theorem Rk{P:Program}{nt:Nat}{ops:Array Oper}{w:World}{S:Nat->Prop}{μ:Gh}{a:Act}{o:Oper}{lo:AX}{cx:Cx}{f:FuncId}{vs:List (V Ty.T)}(hs:DR nt w S (enc s) μ a)(B:comp P [] nt ops o=some lo)(hi:Inv s)(h:eZ val cx s lo.op=some (f,vs)) :
  (∀v∈vs,okV s v)/\∃cargs:Array Value,cargs.size=vs.length/\(∀(i:Nat) (x:V Ty.T),vs[i]?=some x->BF w S (AA s) μ (AQ s x) (cargs.getD i undef)) /\
   (Ah yB f=false->DT P f->(execOp a.eval o).run P w=.ok (.enter f cargs) w)/\(Ah yB f=true->∃j,f=yB+j/\(execOp a.eval o).run P w=(Instr.yield (μ.l j) cargs).run P w):=by
 obtain ⟨lop,d,hl⟩:∃lop,JI P [] o.dst o.op=some lop/\lo.op=lop:=by
  unfold comp at B;cases J:JI P [] o.dst o.op with
  | none=>rw [J] at B;cases B
  | some lop=>
   rw [J] at B;simp only at B;refine ⟨lop,rfl,?_⟩;split at B
   ·split at B
    ·injection B with B;rw [<-B]
    ·split at B
     ·split at B
      ·injection B with B;rw [<-B]
      ·cases B
     ·cases B
   ·cases B
 rw [hl] at h;clear hl B;have evs:∀l:List LO,∀v∈l.map (ev val s),okV s v:=λl v E=>by obtain ⟨x,-,rfl⟩:=Aj.1 E;exact Mc hi x
 have args:∀ {l:Array Operand} {m:List LO},II l.toList=some m->(l.map a.eval).size=(m.map (ev val s)).length/\∀(i:Nat) (x:V Ty.T),(m.map (ev val s))[i]?=some x->BF w S (AA s) μ (AQ s x) ((l.map a.eval).getD i undef):=λ{l m} L=>by
  obtain ⟨H,K⟩:=iP hs L;refine ⟨by rw [H];simp,λi x hx=>?_⟩;rw [Ad] at hx;cases J:m[i]? with
  | none=>rw [J] at hx;cases hx
  | some y=>
   rw [J] at hx;injection hx with hx;subst hx;rw [<-Ku];exact K i _ (by rw [Ad,J];rfl)
 obtain ⟨dst,oop,oty,opos,oafter,ogd⟩:=o;simp only at d;unfold eZ at h;cases oop
 case call c=>
  obtain ⟨callee,cargs,argTypes⟩:=c;simp only [JI] at d;cases callee
  case value x=>
   cases x
   case func g=>
    simp only at d;split at d
    ·rename_i m L;have:kE [] dst=.p:=rfl;rw [this] at d;injection d with d;subst d;simp only at h;split at h
     ·rename_i M;simp only [Bool.and_eq_true,Bool.not_eq_true'] at M;injection h with h;simp only [Ab] at h;obtain ⟨rfl,rfl⟩:=h;obtain ⟨H,K⟩:=args L;refine ⟨evs m,_,H,K,λ_ N=>?_,λq=>(by rw [M.2] at q;cases q)⟩;simp [execOp,resolve,Act.eval,Deferred.ofValue,invoke,Xp N]
     ·cases h
    ·cases d
   case tmp x=>
    simp only at d;obtain ⟨m,L,rfl⟩:=zi d;simp only at h;split at h
    ·rename_i g caps hx;split at h
     ·cases h
     rename_i A;have A:Ah yB g=false:=eq_false_of_ne_true A;injection h with h;simp only [Ab] at h;obtain ⟨rfl,rfl⟩:=h;obtain ⟨H,K⟩:=args L;have E:BF w S (AA s) μ (AQ s (.c (.fn g caps))) (a.tmps.getD x undef):=by have:=hs.fr x;rw [show (enc s).f x=AQ s (.c (.fn g caps)) by rw [<-hx];rfl] at this;exact this
     obtain ⟨cs,e,X,Z⟩:=E.FU;simp only [List.length_map] at X;have okf:FR s (.fn g caps):=by have:=Mc hi (.t x);rw [hx] at this;exact this _ (List.mem_singleton.2 rfl)
     refine ⟨λv E=>?_,cargs.map a.eval++cs,by simp [<-X] at H ⊢;omega,λi y F=>?_,λ_ N=>?_,λq=>(by rw [A] at q;cases q)⟩
     ·rcases List.mem_append.1 E with E|E
      ·exact evs m v E
      ·obtain ⟨c,B,rfl⟩:=Aj.1 E;refine Zm λr hr=>?_;have:=List.mem_singleton.1 hr;subst this;exact okf (c.1,c.2.1) (Aj.2 ⟨c,B,rfl⟩)
     ·by_cases O:i<(m.map (ev val s)).length
      ·rw [List.getElem?_append_left O] at F;have e:(cargs.map a.eval++cs).getD i undef=(cargs.map a.eval).getD i undef:=by simp only [Aa];rw [Array.getElem?_append_left (by omega)]
       rw [e];exact K i y F
      ·rw [List.getElem?_append_right (by omega)] at F;have e:(cargs.map a.eval++cs).getD i undef=cs.getD (i - (m.map (ev val s)).length) undef:=by simp only [Aa];rw [Af (by omega),H]
       rw [e];rw [Ad] at F;cases J:caps[i - (m.map (ev val s)).length]? with
       | none=>rw [J] at F;cases F
       | some c=>
        rw [J] at F;injection F with F;subst F;exact Z _ _ (by rw [Ad,J];rfl)
     ·have G:a.eval (.tmp x)=.func (.func g) #[] cs:=e;simp [execOp,resolve,G,Deferred.ofValue,invoke,Xp N]
    ·rename_i j hx;injection h with h;simp only [Ab] at h;obtain ⟨rfl,rfl⟩:=h;obtain ⟨H,K⟩:=args L;have E:BF w S (AA s) μ (.Hf j) (a.tmps.getD x undef):=by have:=hs.fr x;rw [show (enc s).f x=AQ s (.c (.yl j)) by rw [<-hx];rfl] at this;exact this
     have G:a.eval (.tmp x)=.func (.yield (μ.l j)) #[] #[]:=E.Tq;refine ⟨evs m,_,H,K,λq=>?_,λ_=>⟨j,rfl,?_⟩⟩
     ·rw [Nat.ble_eq_true_of_le (Nat.le_add_right yB j)] at q;cases q
     ·simp [execOp,resolve,G,Deferred.ofValue,invoke]
    ·rename_i g t u hx;split at h
     ·cases h
     rename_i A;have A:Ah yB g=false:=eq_false_of_ne_true A;injection h with h;simp only [Ab] at h;obtain ⟨rfl,rfl⟩:=h;obtain ⟨H,K⟩:=args L;have E:BF w S (AA s) μ (.Lf g (t.cs u)) (a.tmps.getD x undef):=by have:=hs.fr x;rw [show (enc s).f x=AQ s (.c (.lf (.bf g t) u)) by rw [<-hx];rfl] at this;exact this
     obtain ⟨cs,e,Q⟩:=E.MU;refine ⟨λv E=>?_,#[.agg cs]++cargs.map a.eval,by simp at H ⊢;omega,λi y F=>?_,λ_ N=>?_,λq=>(by rw [A] at q;cases q)⟩
     ·rcases List.mem_cons.1 E with rfl|E
      ·exact Sr s t u
      ·exact evs m v E
     ·cases i with
      | zero=>
       simp only [List.getElem?_cons_zero,Option.some.injEq] at F;subst F;have R:(#[Value.agg cs]++cargs.map a.eval).getD 0 undef=.agg cs:=by simp [Aa,Array.getElem?_append]
       rw [R];have Y:AQ s (V.ag (expl val t (val.ub u)))=.agg (t.cs u):=congrArg AV.agg (Yx s t (val.ub u));rw [Y];exact Q
      | succ i=>
       simp only [List.getElem?_cons_succ] at F;have R:(#[Value.agg cs]++cargs.map a.eval).getD (i+1) undef=(cargs.map a.eval).getD i undef:=by simp only [Aa];rw [Af (by simp)];simp
       rw [R];exact K i y F
     ·have G:a.eval (.tmp x)=.func (.func g) #[.agg cs] #[]:=e;simp [execOp,resolve,G,Deferred.ofValue,invoke,Xp N]
    ·cases h
   all_goals cases d
  case builtin b=>
   exfalso;cases b<;>simp only at d<;>repeat' split at d
   all_goals first|(cases d;done)|(injection d with d;subst d;cases h;done)|(simp at d;done)|skip
  all_goals cases d
 all_goals
  exfalso;simp only [JI] at d
  repeat' split at d
  all_goals first|(cases d;done)|contradiction|(injection d with d;subst d;cases h;done)|(obtain ⟨m,L,rfl⟩:=zi d;cases h;done)|skip
end
def TM:AV->Value
 | .int k n=>.int k n
 | .bool b=>.bool b
 | .str x=>.string x
 | _=>undef
theorem uf{v:AV}(h:Sd v){w:World}{S:Nat->Prop}:BD w S v (TM v)/\(TM v).oneCell'=true:=by
 rcases h with ⟨b,rfl⟩|⟨k,n,rfl⟩|⟨x,rfl⟩
 ·exact ⟨.bool b,rfl⟩
 ·exact ⟨.int k n,rfl⟩
 ·exact ⟨.str x,rfl⟩
theorem bR{v:AV}(h:Sd v){w:World}{S:Nat->Prop}{a:Heap}{μ:Gh}{c:Value}(hr:BF w S a μ v c):c=TM v:=by
 rcases h with ⟨b,rfl⟩|⟨k,n,rfl⟩|⟨x,rfl⟩
 ·exact hr.Ch
 ·exact hr.BI
 ·exact hr.MB
def GL.j(x:GL):Array Value:=if x.two then #[.func (.func x.g) #[] #[]] else #[]
structure J91 (w w':World) (b off n:Nat) (cs:Array Value) (new:List AV):Prop where
 os:w'.os=w.os
 tape:w'.tape=w.tape
 output:w'.output=w.output/\w.drawn<=w'.drawn
 size:w.heap.size<=w'.heap.size
 keep:∀k,k<w.heap.size->k≠b->w'.heap[k]?=w.heap[k]?
 row:∀el,w.heap[b]?=some (.cells cs el (0,0))->∃cs':Array Value,w'.heap[b]?=some (.cells cs' el (0,0))/\cs'.size=cs.size/\(∀(i:Nat) (v:AV),new[i]?=some v->cs'.getD (off+i) undef=TM v)
structure KQ (P:Program) (x:GL):Prop where
 fn:DT P x.id
 id:x.id<yB
 flat:x.t.flat=true
 len:∀l r,x.fn l=some r->r.length=l.length
 run:∀l r,x.fn l=some r->l≠[]->∀(w:World) (b off cap:Nat) (cs:Array Value) (el:TypeId),w.heap[b]?=some (.cells cs el (0,0))->off+l.length * x.t.sz<=cs.size->l.length<=cap->(∀(i:Nat) (v:AV),(l.flatMap x.t.cs)[i]?=some v->cs.getD (off+i) undef=TM v) ->
  Calls P x.id (#[.slice (some ⟨b,off,none⟩) l.length cap]++x.j) w λe w'=>e=.returned (.tuple #[])/\J91 w w' b off (l.length * x.t.sz) cs (r.flatMap x.t.cs)
 emp:∀r,x.fn []=some r->∀(w:World) (A:Option Addr),Calls P x.id (#[.slice A 0 0]++x.j) w λe w'=>e=.returned (.tuple #[])/\Old w w'
 nO:∀(w:World),Calls P x.id (#[.slice none 0 0]++x.j) w λe w'=>e=.returned (.tuple #[])/\Old w w'
def tK:List GL->FuncId->FuncId->Option GL
 | [],_,_=>none
 | x::r,f,g=>match Nat.beq x.id f,Nat.beq x.g g with|true,true=>some x|_,_=>tK r f g
theorem OH{P:Program}{so:List GL}(h:∀x∈so,KQ P x):∀f g x,tK so f g=some x->x.id=f/\x.g=g/\KQ P x:=by
 induction so with
 | nil=>intro f g x hx;cases hx
 | cons y r a=>
  intro f g x hx;simp only [tK] at hx;split at hx
  ·rename_i l d;injection hx with hx;subst hx;exact ⟨Ai l,Ai d,h y List.mem_cons_self⟩
  ·exact a (λx hx=>h x (List.mem_cons_of_mem _ hx)) f g x hx
def Lh(P:Program)(cx:Cx):Prop:=∀f g x,cx.so f g=some x->x.id=f/\x.g=g/\KQ P x
section
variable {nt:Nat} {w:World} {S:Nat->Prop} {s:Dn.S Ty.T} {μ:Gh} {a:Act} {fs:List Fm}
theorem aO{w':World}{h:Heap}(o:Old w w'):Ci w S h μ w' S h μ:=
 ⟨o.os,o.tape,o.output,o.size,λb d _=>o.keep b d,λb cs el z a=>⟨cs,(o.keep b (Ag.1 a).1).trans a,rfl⟩,λ_ h=>h,λ_ h=>.inl h,λ_ h=>.inl h,rfl⟩
theorem BO.old{w':World}(hF:BO nt w S s μ a fs)(o:Old w w'):BO nt w' S s μ a fs:=by have ev:=aO (S:=S) (μ:=μ) (h:=AA s) o;have l:BK w' S (AA s) μ:=⟨λg ob f=>(hF.fr.hp.ob g ob f).DK hF.fr.hp ev (.refl _ _) λhl=>o.keep _ ((hF.fr.hp.ob g ob f).lt hl),hF.fr.hp.inj,hF.fr.hp.own,λb m=>Nat.lt_of_lt_of_le (hF.fr.hp.lt b m) o.size⟩;exact hF.step rfl ⟨λd=>(hF.fr.fr d).DK hF.fr.hp ev (.refl _ _),l,hF.fr.hp.marks hF.fr.df ev,hF.fr.sz⟩ (.refl s) hF.iv ev (.refl _ _)
theorem OA{P:Program}{x:GL}(hx:KQ P x)(hF:BO nt w S s μ a fs){g v e:Nat}{el:TypeId}{l r:List x.t.T}(ho:look g s.ob=some (.row v e el x.t l [] none false))(he:e=x.t.sz)(he0:0<e)(hr:x.fn l=some r){cv:Value}
  (hv:BF w S (AA s) μ (AB s (.own g v)) cv) {R:Ending->World->Prop} (hR:∀w',BO nt w' S (s.obj g (.row v e el x.t r [] none false)) μ a fs->Ci w S (AA s) μ w' S (AA (s.obj g (.row v e el x.t r [] none false))) μ->R (.returned (.tuple #[])) w') :
  Calls P x.id (#[cv]++x.j) w R:=by
 have H:=hx.len l r hr;have st:CX s (s.obj g (.row v e el x.t r [] none false)):=Mf λo0 h0=>by rw [ho] at h0;injection h0 with h0;subst h0;exact ⟨rfl,by simp only [Ob.CO];show List.length (α:=x.t.T) l+_=List.length (α:=x.t.T) r+_;rw [H]⟩
 have hlk:∀g',look g' (s.obj g (.row v e el x.t r [] none false)).ob=if g=g' then some (.row v e el x.t r [] none false) else look g' s.ob:=λg'=>Qv g g' _;have iv:=NJ hF.iv st hlk (λc hc=>by cases hc) (hF.iv.free ho);have Y:=NM hF.iv st hlk;have he1:BG (s.obj g (.row v e el x.t r [] none false)) (.row v e el x.t r [] none false)=.arr v e el (r.flatMap x.t.cs) false:=by simp [BG,Zs]
 rw [he1] at Y;have Q:AA s g=some (.arr v e el (l.flatMap x.t.cs) false):=by rw [Jn ho];simp [BG,Zs]
 have hl0:Yk s g v=l.length:=by simp [Yk,ho,Ob.ver,Ob.CO]
 simp only [AB,hl0] at hv;have hnl:(l.flatMap x.t.cs=[]↔r.flatMap x.t.cs=[]):=zd (by rw [Kj,Kj,H]);have vv:Cj (AA s) μ (AA (s.obj g (.row v e el x.t r [] none false))) μ:=by
  intro B E f;rw [Y];by_cases F:B=g
  ·subst F;rw [Q] at f;injection f with f;subst f;exact ⟨_,Jj _ _ _,Nat.le_refl _,λ_=>⟨⟨rfl,rfl⟩,rfl,rfl,hnl⟩⟩
  ·exact ⟨E,by rw [Je _ _ _ _ F];exact f,Nat.le_refl _,λ_=>⟨⟨rfl,rfl⟩,.refl E⟩⟩
 have own_back:∀b,Own (AA (s.obj g (.row v e el x.t r [] none false))) μ b->Own (AA s) μ b:=λb ⟨B,E,f,hz,hl,F⟩=>by
  rw [Y] at f;by_cases X:B=g
  ·subst X;rw [Jj] at f;injection f with f;subst f;exact ⟨B,_,Q,rfl,Qj.2 λq=>Qj.1 hl (hnl.1 q),F⟩
  ·rw [Je _ _ _ _ X] at f;exact ⟨B,E,f,hz,hl,F⟩
 cases hr0:hv with
 | pure hp=>cases hp
 | arr _ _ _ _ _ E K hv1 h11 hr1=>
  rw [Q] at K;injection K with K;subst K;obtain ⟨esz,el',cells,fz,eo,hk⟩:=hr1 rfl;injection eo with eo1 eo2 eo3 eo4 eo5;subst eo2;subst eo4;by_cases G:l.flatMap x.t.cs=[]
  ·-- nothing to sort
   obtain ⟨-,hl00,A,rfl⟩:=hk.1 G;have L:l=[]:=Ae hl00;subst L;have hrn:r=[]:=Ae (by rw [H];rfl);subst hrn;refine (hx.emp [] hr w A).mono λe w' ⟨F,o⟩=>?_;subst F;have M:=hF.old o;have eh:AA (s.obj g (.row v e el x.t ([]:List x.t.T) [] none false))=AA s:=by
    rw [Y];funext B;by_cases F:B=g
    ·subst F;rw [Jj,Q]
    ·rw [Je _ _ _ _ F]
   refine hR w' (M.step rfl ⟨λd=>?_,by show BK w' S (AA _) μ;rw [eh];exact M.fr.hp,M.fr.df,M.fr.sz⟩ st.on iv (by rw [eh];exact .refl) (by rw [eh];exact .refl _ _)) (by rw [eh];exact aO o);rw [Sy hF.iv st];show BF w' S (AA _) μ _ _;rw [eh];exact M.fr.fr d
  ·obtain ⟨A,cap,cs0,el0,z0,rfl,hcap,hb0,hsz0,hA⟩:=hk.2 G;obtain ⟨cs,hb,hsz,hold,-⟩:=hF.fr.hp.ob g _ Q G;have L:l≠[]:=λq=>by subst q;exact G rfl
   have hlp:0<l.length:=List.length_pos_iff.2 L;have hA:=hA (by omega);rw [Nat.zero_mul,Nat.add_zero] at hA;subst hA;have hcl:(l.flatMap x.t.cs).length=l.length * x.t.sz:=Kj l;have scl:∀ {m:List x.t.T} {i:Nat} {y:AV},(m.flatMap x.t.cs)[i]?=some y->Sd y:=λ{m i y} N=>by obtain ⟨u,_,hu⟩:=List.mem_flatMap.1 (List.mem_of_getElem? N);exact iR hx.flat u y hu
   refine (hx.run l r hr L w (μ.b g) (μ.o g) cap cs el hb (by omega) hcap.1 λi y N=>bR (scl N) (hold i y N).1).mono λX w' ⟨F,rb⟩=>?_;subst F;obtain ⟨cs',hb',O,hnew⟩:=rb.row el hb;have hown:Own (AA s) μ (μ.b g):=⟨g,_,Q,rfl,Qj.2 G,rfl⟩;have ev:Ci w S (AA s) μ w' S (AA (s.obj g (.row v e el x.t r [] none false))) μ:=by
    refine ⟨rb.os,rb.tape,rb.output,rb.size,λb Z hn=>rb.keep b Z λq=>hn (q▸hown),λb c1 el1 z1 J=>?_,λ_ h=>h,λ_ h=>.inl h,λb ho=>.inl (own_back b ho),rfl⟩;by_cases hbe:b=μ.b g
    ·subst hbe;rw [hb] at J;injection J with J;injection J with q1 q2 q3;subst q1;subst q2;subst q3;exact ⟨cs',hb',O⟩
    ·exact ⟨c1,(rb.keep b (Ag.1 J).1 hbe).trans J,rfl⟩
   have hp':BK w' S (AA (s.obj g (.row v e el x.t r [] none false))) μ:=by
    refine ⟨λB E f=>?_,λB g2 E o2 f M l1 l2 F=>?_,λB E f hz hl hs=>?_,λb Z=>Nat.lt_of_lt_of_le (hF.fr.hp.lt b Z) rb.size⟩
    ·by_cases F:B=g
     ·subst F;rw [Y,Jj] at f;injection f with f;subst f;refine λ_=>⟨cs',hb',by rw [O,Kj,H,<-Kj];exact hsz,λi y N=>?_,λq=>by cases q⟩;rw [hnew i y N];exact ⟨.pure (uf (scl N)).1,(uf (w:=w) (S:=S) (scl N)).2⟩
     ·have h1':AA s B=some E:=by rw [Y,Je _ _ _ _ F] at f;exact f
      exact (hF.fr.hp.ob B E h1').DK hF.fr.hp ev vv λhl=>rb.keep _ ((hF.fr.hp.ob B E h1').lt hl) λq=>F (hF.fr.hp.inj B g _ _ h1' Q hl (Qj.2 G) q)
    ·have back:∀B E,AA (s.obj g (.row v e el x.t r [] none false)) B=some E->E.live=true->∃o2,AA s B=some o2/\o2.live=true:=λB E f hl=>by
      rw [Y] at f;by_cases X:B=g
      ·subst X;exact ⟨_,Q,Qj.2 G⟩
      ·rw [Je _ _ _ _ X] at f;exact ⟨E,f,hl⟩
     obtain ⟨p1,q1,r1⟩:=back B E f l1;obtain ⟨p2,q2,r2⟩:=back g2 o2 M l2;exact hF.fr.hp.inj B g2 p1 p2 q1 q2 r1 r2 F
    ·obtain ⟨g2,o2,M,hz2,hl2,X⟩:=own_back (μ.b B) ⟨B,E,f,hz,hl,rfl⟩;exact hF.fr.hp.own g2 o2 M hz2 hl2 (X▸hs)
   refine hR w' (hF.step rfl ⟨λd=>?_,hp',hF.fr.hp.marks hF.fr.df ev,hF.fr.sz⟩ st.on iv ev vv) ev;rw [Sy hF.iv st];exact (hF.fr.fr d).DK hF.fr.hp ev vv
theorem Kai{P:Program}{ops:Array Oper}{o:Oper}{lo:AX}(a:comp P [] nt ops o=some lo):JI P [] o.dst o.op=some lo.op:=by
 unfold comp at a;cases d:JI P [] o.dst o.op with
 | none=>rw [d] at a;cases a
 | some lop=>
  rw [d] at a;simp only at a;split at a
  ·split at a
   ·injection a with a;rw [<-a]
   ·split at a
    ·split at a
     ·injection a with a;rw [<-a]
     ·cases a
    ·cases a
  ·cases a
theorem J3l{P:Program}{ops:Array Oper}{o:Oper}{lo:AX}{f:FuncId}{m:List LO}(v:comp P [] nt ops o=some lo)(hl:lo.op=.Cz f m):∃args:Array Operand,II args.toList=some m/\∀ {w:World},DT P f->(execOp a.eval o).run P w=.ok (.enter f (args.map a.eval)) w:=by
 have d:=Kai v;rw [hl] at d;obtain ⟨dst,oop,oty,opos,oafter,ogd⟩:=o;simp only at d;cases oop
 case call c=>
  obtain ⟨callee,cargs,argTypes⟩:=c;simp only [JI] at d;cases callee
  case value x=>
   cases x
   case func g=>
    simp only at d;split at d
    ·rename_i l h;have:kE [] dst=.p:=rfl;rw [this] at d;injection d with d;injection d with A y;subst A;subst y;exact ⟨cargs,h,λ{w} r=>by simp [execOp,resolve,Act.eval,Deferred.ofValue,invoke,Xp r]⟩
    ·cases d
   case tmp x=>
    simp only at d;obtain ⟨l,h,e⟩:=zi d;cases e
   all_goals cases d
  case builtin b=>
   exfalso;cases b<;>simp only at d<;>repeat' split at d
   all_goals first|(cases d;done)|(injection d with d;cases d;done)|(simp at d;done)|skip
  all_goals cases d
 all_goals
  exfalso;simp only [JI] at d
  repeat' split at d
  all_goals first|(cases d;done)|contradiction|(injection d with d;cases d;done)|(obtain ⟨l,h,e⟩:=zi d;cases e;done)|skip
theorem bW{P:Program}{ops:Array Oper}{o:Oper}{lo:AX}{cx:Cx}{c:GL}{v:V Ty.T}(E:Lh P cx)(hs:DR nt w S (enc s) μ a)(M:comp P [] nt ops o=some lo)(hi:Inv s)(d:bX val cx s lo.op=some (c,v)) :
  ∃cv,KQ P c/\BF w S (AA s) μ (AQ s v) cv/\(execOp a.eval o).run P w=.ok (.enter c.id (#[cv]++c.j)) w:=by
 unfold bX at d;split at d
 ·rename_i f x y hl;split at d
  ·rename_i g O;cases h:cx.so f g with
   | none=>rw [h] at d;cases d
   | some c'=>
    rw [h] at d;simp only [Option.bind_some] at d;split at d
    ·rename_i F;injection d with d;simp only [Ab] at d;obtain ⟨rfl,rfl⟩:=d;obtain ⟨L,N,sg⟩:=E f g _ h;obtain ⟨args,J,l⟩:=J3l (a:=a) M hl;obtain ⟨H,G⟩:=iP hs J;have B:=G 0 _ rfl;have A:=G 1 _ rfl;rw [Ku] at B A;rw [O] at A;have A:BF w S (AA s) μ (.fn g []) ((args.map a.eval).getD 1 undef):=A;obtain ⟨cs,X,R,-⟩:=A.FU;have Q:cs=#[]:=Array.eq_empty_of_size_eq_zero R.symm;have m:(args.map a.eval).size=2:=by rw [H];rfl
     refine ⟨(args.map a.eval).getD 0 undef,sg,B,?_⟩;rw [<-L] at l;rw [l sg.fn]
     congr 2
     rw [show c'.j=#[.func (.func c'.g) #[] #[]] by simp [GL.j,F],N];apply Array.ext
     ·rw [m];rfl
     ·intro i r K;rw [m] at r
      match i,r with
      | 0,_=>
       have:(args.map a.eval)[0]=(args.map a.eval).getD 0 undef:=by rw [Aa,Ac (by omega:0<(args.map a.eval).size)];rfl
       rw [this];rfl
      | 1,_=>
       have:(args.map a.eval)[1]=(args.map a.eval).getD 1 undef:=by rw [Aa,Ac (by omega:1<(args.map a.eval).size)];rfl
       rw [this,X,Q];rfl
    ·cases d
  ·cases d
 ·rename_i f x hl;cases h:cx.so f 0 with
  | none=>rw [h] at d;cases d
  | some c'=>
   rw [h] at d;simp only [Option.bind_some] at d;split at d
   ·cases d
   ·rename_i F;have F:c'.two=false:=by simpa using F
    injection d with d;simp only [Ab] at d;obtain ⟨rfl,rfl⟩:=d;obtain ⟨L,N,sg⟩:=E f 0 _ h;obtain ⟨args,J,l⟩:=J3l (a:=a) M hl;obtain ⟨H,G⟩:=iP hs J;have B:=G 0 _ rfl;rw [Ku] at B;have m:(args.map a.eval).size=1:=by rw [H];rfl
    refine ⟨(args.map a.eval).getD 0 undef,sg,B,?_⟩;rw [<-L] at l;rw [l sg.fn]
    congr 2
    rw [show c'.j=#[] by simp [GL.j,F]];apply Array.ext
    ·rw [m];rfl
    ·intro i r K;rw [m] at r;have:i=0:=by omega
     subst this;have:(args.map a.eval)[0]=(args.map a.eval).getD 0 undef:=by rw [Aa,Ac (by omega:0<(args.map a.eval).size)];rfl
     rw [this];rfl
 ·cases d
theorem dM{P:Program}{ro:Option Nat}{ops:Array Oper}{o:Oper}{lo:AX}{ne:Bool}{m:Ty.T I}(hs:DR nt w S (enc s) μ a)(Z:comp P [] nt ops o=some lo)(v:PW val s lo.op=some (ne,m)) :
  ∃g:Bool,(g=true->m=(0:Int))/\∀ {K:Act->World->Prop} {Q:Exit->Act->World->Prop},K (a.put o.dst (.bool (if ne then !g else g))) w->IW ro P o a w K Q:=by
 unfold PW at v;split at v
 ·rename_i ne' x hl;split at v
  ·rename_i t l hx;injection v with v;simp only [Ab] at v;obtain ⟨rfl,rfl⟩:=v;have f:=Kai Z;rw [hl] at f;obtain ⟨dst,oop,oty,opos,oafter,ogd⟩:=o;simp only at f;have key:∃(op:BinOp) (r e:TypeId) (X Y:Operand) (yt:TypeId),oop=.binOp op r X Y yt/\P.underlying r=some (.slice e)/\EG X=some x/\EG Y=some (.c .BM)/\op=(if ne' then .neq else .eql):=by
    cases oop
    case binOp op r X Y yt=>
     simp only [JI] at f;split at f
     ·split at f
      ·split at f<;>first|(injection f with f;cases f;done)|cases f
      ·split at f<;>first|(injection f with f;cases f;done)|cases f
      ·injection f with f;cases f
     ·rename_i e x' B F E;split at f
      ·injection f with f;injection f with H G;subst H;subst G;exact ⟨_,_,e,X,Y,yt,rfl,B,F,E,rfl⟩
      ·injection f with f;injection f with H G;subst H;subst G;exact ⟨_,_,e,X,Y,yt,rfl,B,F,E,rfl⟩
      ·cases f
     ·split at f
      ·split at f<;>first|(injection f with f;cases f;done)|cases f
      ·split at f<;>first|(injection f with f;cases f;done)|cases f
      ·cases f
     ·cases f
    all_goals
     exfalso;simp only [JI] at f
     repeat' split at f
     all_goals first|(cases f;done)|contradiction|(injection f with f;cases f;done)|(obtain ⟨m',hm,e⟩:=zi f;cases e;done)|skip
   obtain ⟨op,r,e,X,Y,yt,rfl,B,F,E,rfl⟩:=key;have hX:=Jx hs F;rw [Ku,hx] at hX;have hX:BF w S (AA s) μ (.CB (List.length (α:=t.T) l) (List.flatMap (α:=t.T) t.cs l)) (a.eval X):=hX;have hY:=Jx hs E;have hY:a.eval Y=.slice none 0 0:=BF.Cg (h:=(enc s).h) (by simpa [St.ev] using hY);have kk:∃g:Bool,(g=true/\a.eval X=.slice none 0 0/\List.length (α:=t.T) l=0)\/(g=false/\∃A n c,a.eval X=.slice (some A) n c):=by
    generalize hL:List.length (α:=t.T) l=L at hX;generalize List.flatMap (α:=t.T) t.cs l=C at hX;generalize a.eval X=V at hX;cases hX with
    | pure O=>
     cases O with
     | ER=>exact ⟨true,.inl ⟨rfl,rfl,rfl⟩⟩
     | CB n l a' cap cv=>exact ⟨false,.inr ⟨rfl,a',_,cap,rfl⟩⟩
   obtain ⟨g,M⟩:=kk;have J:(Op.equal r (a.eval X) (.slice none 0 0)).run P w=.ok g w:=by
    have hd:∀d,(Op.equalIn (d+1) r (a.eval X) (.slice none 0 0)).run P w=.ok g w:=λd=>by
     rcases M with ⟨rfl,y,-⟩|⟨rfl,A,n,c,y⟩
     ·rw [y];simp [Op.equalIn,run_underlying B]
     ·rw [y];simp [Op.equalIn,run_underlying B]
    exact hd 9999
   have R:∃q n c,a.eval X=.slice q n c:=by
    rcases M with ⟨rfl,y,-⟩|⟨rfl,A,n,c,y⟩
    ·exact ⟨_,_,_,y⟩
    ·exact ⟨_,_,_,y⟩
   obtain ⟨q,n,c,y⟩:=R;refine ⟨g,λh=>?_,λ{K Q} hK=>?_⟩
   ·rcases M with ⟨-,-,N⟩|⟨N,-⟩
    ·show ((List.length (α:=t.T) l:Nat):Int)=0;omega
    ·rw [N] at h;cases h
   ·refine Vv.CG (cv:=.bool (if ne' then !g else g)) (w':=w) ?_ hK;have e3:∀op,execOp a.eval { dst:=dst,op:=.binOp op r X Y yt,type:=oty,pos:=opos,after:=oafter,guard:=ogd }=(do pure (.value (<-(do eqGuard op r X Y (a.eval X) (a.eval Y);binOp op r (a.eval X) (a.eval Y))))):=λop=>by simp only [execOp]<;>rfl
    rw [e3,hY];rw [y] at J ⊢;cases ne' with
    | true=>simp [eqGuard,binOp,Sem.run_bind,J,Result.andThen]
    | false=>simp [eqGuard,binOp,Sem.run_bind,J,Result.andThen]
  ·cases v
 ·cases v
end
section
variable {s s':Dn.S Ty.T}
theorem J2q(a:s'.ob=s.ob)(d:s'.ln=s.ln):AB s'=AB s:=by funext c;cases c<;>simp only [AB,Yk,a,d]
theorem uX(a:s'.ob=s.ob)(d:s'.ln=s.ln)(v:V Ty.T):AQ s' v=AQ s v:=by cases v<;>simp only [AQ,J2q a d]
theorem Na(a:s'.ob=s.ob)(d:s'.ln=s.ln)(f:s'.mo=s.mo:=by rfl):AA s'=AA s:=by
 funext g;simp only [AA,a,f];cases look g s.ob with
 | none=>rfl
 | some o=>cases o<;>simp only [Option.map_some,BG,J2q a d]
theorem Ow(s:Dn.S Ty.T):s.pop.mo=s.mo:=by unfold Dn.S.pop;split<;>rfl
def M0:Act:={ tmps:=#[],defers:=[] }
theorem cO{w:World}{S:Nat->Prop}{h:Heap}{μ:Gh}(a:BK w S h μ):DR 0 w S ⟨λ_=>.any,h⟩ μ M0:=⟨λ_=>.any _,a,.nil,Nat.zero_le _⟩
theorem WY{lo:List (List (Nat×V Ty.T))}{ob:List (Nat×Ob Ty.T)}{ln:List (Nat×Nat×Ty.T I)}{mo:Option (Mo Ty.T)}:enc (⟨[],lo,ob,ln,mo⟩:Dn.S Ty.T)=⟨λ_=>.any,AA ⟨[],lo,ob,ln,mo⟩⟩:=rfl
theorem Jvh{P:Program}{nt:Nat}{ops:Array Oper}{o:Oper}{lo:AX}(a:comp P [] nt ops o=some lo):mM nt lo.dst=true:=by
 unfold comp at a;split at a
 ·cases a
 ·split at a
  ·rename_i hd;split at a
   ·injection a with a;subst a;exact hd
   ·split at a
    ·split at a
     ·injection a with a;subst a;exact hd
     ·cases a
    ·cases a
  ·cases a
theorem BO.put{nt:Nat}{w:World}{S:Nat->Prop}{s:Dn.S Ty.T}{μ:Gh}{a:Act}{fs:List Fm}(h:BO nt w S s μ a fs){d:Option Nat}(hd:mM nt d=true){v:V Ty.T}{cv:Value}(ok:okV s v)(hr:BF w S (AA s) μ (AQ s v) cv) :
  BO nt w S (s.put d v) μ (a.put d cv) fs:=by have eh:=iQ s d v;refine h.step (by cases d<;>rfl) ?_ (.put s d v) (h.iv.put ok d) (by rw [eh];exact .refl) (by rw [eh];exact .refl _ _);rw [uQ];exact Jsa h.fr hd hr h.fr.hp .refl (.refl _ _)
end
theorem mh{ro:Option Nat}{P:Program}{nt:Nat}{cm:List (Nat×CM)}{ops:Array Oper}{o:Oper}{lo:AX}{a:Act}{w:World}{K:Act->World->Prop}{Q:Exit->Act->World->Prop}(g:comp P cm nt ops o=some lo)
  (h:if Region.wanted o (yielded ops a.tmps)=true then IW ro P o a w K Q else K (a.put o.dst undef) w) :
  if Region.wanted o (yielded ops a.tmps)=true then o.wpIn (Fr ro) 0 P a w K Q else (∀f,o.about P w a.eval=some f->(Fr ro).fn f)/\K (a.put o.dst undef) w:=by
 by_cases d:Region.wanted o (yielded ops a.tmps)=true
 ·rw [if_pos d] at h ⊢;exact aH (Jua g) h
 ·rw [if_neg d] at h ⊢;exact ⟨λ_ _=>trivial,h⟩
theorem OU{ro:Option Nat}{n:Nat}{P:Program}{l:Nat}{f:FuncId}{tmps:Array Value}{x y:Code}{w:World}{R:Ending->World->Prop}(h:RoundIn Fence.wide n P l f tmps x y w R):RoundIn (Fr ro) n P l f tmps x y w R:=by
 cases ro with
 | none=>exact h
 | some l=>exact h
theorem su{α:Type}{c:Prop}[Decidable c]{x:Option α}{y:α}(h:(if c then x else val.no)=some y):c/\x=some y:=by
 split at h
 ·exact ⟨by assumption,h⟩
 ·cases h
theorem PS{n:Int}{α:Type}{k:Bool->Option α}{r:α}{b:Bool}(d:b=true->n=0)(h:val.nq n k=some r):k b=some r:=by
 have h:dK n k=some r:=h;unfold dK at h;split at h
 ·split at h
  ·rename_i e;cases b with
   | false=>exact h
   | true=>rw [e];exact h
  ·cases h
 ·rename_i a;cases b with
  | false=>exact h
  | true=>exact (a (d rfl)).elim
theorem OB{P:Program}{nt:Nat}{w:World}{S:Nat->Prop}{s:Dn.S Ty.T}{μ:Gh}{a:Act}{fs:List Fm}{c:GL}(hx:KQ P c)(hF:BO nt w S s μ a fs){v:V Ty.T}{cv:Value}(H:BF w S (AA s) μ (AQ s v) cv){α:Type}{r:α}{k:Dn.S Ty.T->Option α}
  (hd:OG val c s v k=some r) {R:Ending->World->Prop} (hR:∀w' s',BO nt w' S s' μ a fs->Ci w S (AA s) μ w' S (AA s') μ->k s'=some r->R (.returned (.tuple #[])) w'):Calls P c.id (#[cv]++c.j) w R:=by
 unfold OG at hd;split at hd
 ·rename_i g ver;split at hd
  ·rename_i J e el t l M;obtain ⟨⟨F,Q,E⟩,O⟩:=su hd;subst F;subst Q;obtain ⟨f,B,N⟩:=Jk O;obtain ⟨et,A⟩:=Y7 B;injection et with et;subst et;have y:f=l:=A;subst y;have d:JG (c.fn f) (λG=>k (s.obj g (.row J c.t.sz el c.t G [] none false)))=some r:=N;cases m:c.fn f with
   | none=>rw [m] at d;cases d
   | some G=>
    rw [m] at d;exact OA hx hF M rfl E m H λw' L K=>hR w' _ L K d
  ·cases hd
 ·have e:cv=.slice none 0 0:=BF.Cg (h:=AA s) H;subst e;refine (hx.nO w).mono λe w' ⟨F,o⟩=>?_;subst F;exact hR w' s (hF.old o) (aO o) hd
 ·cases hd
theorem J07{ro:Option Nat}{P:Program}{nt:Nat}{ops:Array Oper}{call:Vv.Call}{base:Nat}{cx:Cx}{inl:Tn}{n:List Nat}{hs:List (Nat×Hd)}{Q:Exit->Act->World->Prop}(hC:Md call cx.ct)(d:Lm P call)(hI:sM P hs inl)(Y:Lh P cx){α:Type}{r:α}{k:Dn.S Ty.T->Option α}{fs:List Fm}(hh:Lu P hs fs)(hfs:Il fs) :
  ∀ {l:List Nat} {os:List Oper} {L:List (Nat×AX)} {w:World} {S:Nat->Prop} {s:Dn.S Ty.T} {μ:Gh} {a:Act},Ip P [] nt ops l=some L->l.map (λi=>ops[i]?)=os.map some->BO nt w S s μ a fs->ND val inl cx base n L s k=some r ->
  (∀a' w' S' μ' s',BO nt w' S' s' μ' a' fs->Ci w S (AA s) μ w' S' (AA s') μ'->k s'=some r->Q .normal a' w')->wpListIn (Fr ro) 0 P ops Q os a w
 | [],os,L,w,S,s,μ,a,A,X,h,hd,hQ=>by
  cases os with
  | cons o os=>simp at X
  | nil=>
   injection A with A;subst A;exact hQ _ _ _ _ _ h .refl hd
 | i::l,[],L,w,S,s,μ,a,A,X,h,hd,hQ=>by simp at X
 | i::l,o::os,L,w,S,s,μ,a,A,X,h,hd,hQ=>by
  simp only [List.map_cons,List.cons.injEq] at X;obtain ⟨ho1,ho2⟩:=X;simp only [Ip,ho1] at A;cases hx:comp P [] nt ops o with
  | none=>rw [hx] at A;cases A
  | some lo=>
   cases hl:Ip P [] nt ops l with
   | none=>rw [hx,hl] at A;cases A
   | some L'=>
    rw [hx,hl] at A;injection A with A;subst A;refine wpListIn_step λK hK=>mh hx ?_;have next:∀ {a1 w1 S1 μ1 y},BO nt w1 S1 y μ1 a1 fs->Ci w S (AA s) μ w1 S1 (AA y) μ1->ND val inl cx base n L' y k=some r->K a1 w1:=λE J d1=>
     hK _ _ (J07 hC d hI Y hh hfs hl ho2 E d1 λa2 w2 S2 μ2 s2 q1 q2 q3=>hQ _ _ _ _ _ q1 (J.trans q2) q3)
    simp only [ND] at hd;split at hd
    ·rcases J2r h.iv hd with ⟨y,J,on1,N,hg,hd⟩|⟨y,g,want,J,on1,N,hg,hv,hd⟩
     ·have H:=h.alike J on1 N;have eh:AA y=AA s:=congrArg St.h J;obtain ⟨wd,wn,ws⟩:=Jyt H.fr hx;have hw:Region.wanted o (yielded ops a.tmps)=true:=by
       cases G:lo.guard with
       | none=>exact wn G
       | some p=>
        obtain ⟨g,want⟩:=p;have:=(ws g want G).1 want (by rw [J];exact hg g want G);rw [this];cases want<;>rfl
      split at hd
      ·rename_i c v hf;rw [if_pos hw];obtain ⟨cv,sg,hr,F⟩:=bW Y H.fr hx N hf;have fin:Calls P c.id (#[cv]++c.j) w λe w'=>∃cv,e=.returned cv/\K (a.put o.dst cv) w':=by
        refine OB sg H hr hd λw' s2 E B M=>⟨_,rfl,?_⟩;rw [<-wd];refine next (E.put (Jvh hx) (v:=.tp []) (λc A=>(by cases A)) (.pure (.Cn [] #[] rfl λi x h=>(by cases h)))) ?_ M
        rw [iQ];rw [eh] at B;exact B
       exact EC F fin λe w' he=>he
      split at hd
      ·rename_i f vs hf;rw [if_pos hw];obtain ⟨okv,cargs,c1,c2,c3,c4⟩:=Rk (cx:=cx) (w:=w) H.fr hx N hf;obtain ⟨fk,hcall'⟩:=hI hd;have hps:BO 0 w S (y.push (JQ (iE L' n)) []) μ M0 (⟨nt,a,none,w.heap.size⟩::fs):=H.push (λp hp=>by cases hp) (λj r h=>by cases h) (by rw [WY];have:AA (⟨[],kept y.sl (JQ (iE L' n))::y.lo,y.ob,y.ln,y.mo⟩:Dn.S Ty.T)=AA y:=Na rfl rfl;rw [this];exact cO H.fr.hp) rfl
       have eh2:AA (y.push (JQ (iE L' n)) [])=AA y:=Na rfl rfl;have hcs:=hcall' hps (hh.push _) (hfs.push (by intro j r h;cases h)) okv c1 (λi x hx=>by
        rw [eh2,show AQ (y.push (JQ (iE L' n)) []) x=AQ y x from uX rfl rfl x];exact c2 i x hx) (R:=λe w'=>∃cv,e=.returned cv/\K (a.put o.dst cv) w') rfl λw' S' μ' v s' cv E B M r4 r5=>⟨cv,rfl,by
        rw [eh2,eh] at r4;rw [<-wd];refine next (E.put (Jvh hx) B M) ?_ r5
        rw [iQ];exact r4⟩
       cases hb:Ah yB f with
       | false=>exact EC (c3 hb (fk hb)) (hcs.1 hb) λe w' he=>he
       | true=>
        obtain ⟨j,e2,F⟩:=c4 hb;obtain ⟨q,q1,q2,q3⟩:=hcs.2 j e2 rfl;unfold IW;rw [F,run_yield q1 q2,Oper.uponIn_round];refine ⟨λh=>(by cases h),(OU q3).mono λe w' he=>?_⟩;obtain ⟨cv,rfl,Z⟩:=he;exact Z
      ·obtain ⟨op',s2,al,st,iv2,on2,Z⟩:=J8x (call:=call) (o:=lo) (k:=λ_ s'=>ND val inl cx base n L' s' k) hC N (λg want e=>by rw [J];exact hg g want e) hd;obtain ⟨cm,O⟩:=qo hx al;refine uL d H.fr O st λa' w' S' μ' r0 E B M=>next (H.step r0 E on2 iv2 B M) ?_ Z
       rw [<-eh];exact B
     ·have H:=h.alike J on1 N;have eh:AA y=AA s:=congrArg St.h J;obtain ⟨op',s2,al,st,iv2,on2,Z⟩:=vG (call:=call) (base:=base) (o:=lo) (k:=λ_ s'=>ND val inl cx base n L' s' k) N hg (by rw [J];exact hv) hd;obtain ⟨cm,O⟩:=qo hx al;refine uL d H.fr O st λa' w' S' μ' r0 E B M=>next (H.step r0 E on2 iv2 B M) ?_ Z
      rw [<-eh];exact B
    ·split at hd
     ·rename_i ne m hn G;obtain ⟨wd,wn,ws⟩:=Jyt h.fr hx;rw [if_pos (wn G)];obtain ⟨b0,hz,hwp⟩:=dM (P:=P) (ro:=ro) h.fr hx hn;refine hwp ?_;rw [<-wd];refine next (h.put (Jvh hx) (v:=.c (.lf .bool (if ne=true then val.nt b0 else b0))) (Zm (Kh _ rfl)) ?_) ?_ (PS hz hd)
      ·cases ne<;>exact .pure (.bool _)
      ·rw [iQ];exact .refl
     ·exact Nz hC d h hx hd λa' w' S' μ' s' op' E B M=>next E B M
section
variable {w:World} {S:Nat->Prop} {s:Dn.S Ty.T} {h:Heap} {μ:Gh} {j x:Nat}
def AZ.cells:AZ->List AV
 | .box _ c=>c
 | .arr _ _ _ c _=>c
 | .map _ es _=>es.map (·.2)
theorem YO{l:Nat}{o:Obj}{b:Nat}(h:b≠l):(w.putObj l o).heap[b]?=w.heap[b]?:=World.putObj_heap_other h
theorem J3a{l:Nat}{o:Obj}(hS:¬S l){y:AV}{v:Value}(hr:BD w S y v):BD (w.putObj l o) S y v:=hr.mono (λ_ h=>h) λb a=>YO λe=>hS (e▸a)
theorem SQ{l:Nat}{o:Obj}{cells:List AV}{b k e off len:Nat}{v:Value}(g:cells≠[]->b≠l)(f:KU w cells b k e off len v):KU (w.putObj l o) cells b k e off len v:=
 ⟨f.1,λd=>by obtain ⟨a,cap,cs,el,z,A,y,r,m,h⟩:=f.2 d;exact ⟨a,cap,cs,el,z,A,y,(YO (g d)).trans r,m,h⟩⟩
theorem qV{l:Nat}{o:Obj}(hS:¬S l)(hl:∀g ob,h g=some ob->ob.live=true->μ.b g≠l){y:AV}{v:Value}(hr:BF w S h μ y v):BF (w.putObj l o) S h μ y v:=by
 induction hr with
 | any v=>exact .any v
 | pure B=>exact .pure (J3a hS B)
 | fn f l cs hl hr m=>exact .fn f l cs hl m
 | agg l cs hl a hr m=>exact .agg l cs hl a m
 | Cn l cs hl hr m=>exact .Cn l cs hl m
 | arr g ver off len v ob d r a hr=>
  refine .arr g ver off len v ob d r a λe=>?_;obtain ⟨esz,el,cells,fz,eq,E⟩:=hr e;exact ⟨esz,el,cells,fz,eq,SQ (λA=>hl g ob d (by rw [eq];exact Qj.2 A)) E⟩
 | ptr g ver off v ob d r a hr=>exact .ptr g ver off v ob d r a hr
 | map g ver v ob d r a hr=>exact .map g ver v ob d r a hr
 | Hf j=>exact .Hf j
theorem Od{l:Nat}{o:Obj}(hS:¬S l)(hl:∀g ob,h g=some ob->ob.live=true->μ.b g≠l)(r:BK w S h μ):BK (w.putObj l o) S h μ:=by
 refine ⟨λg ob A=>?_,r.inj,r.own,λb E=>by simpa using r.lt b E⟩;have B:=r.ob g ob A;cases ob with
 | box v c=>
  obtain ⟨cs,el,m,f,a3⟩:=B;exact ⟨cs,el,(YO (hl g _ A rfl)).trans m,f,λi y a=>⟨qV hS hl (a3 i y a).1,(a3 i y a).2⟩⟩
 | arr v e t c z=>
  intro d;obtain ⟨cs,m,f,a3,a4⟩:=B d;exact ⟨cs,(YO (hl g _ A (Qj.2 d))).trans m,f,λi y a=>⟨qV hS hl (a3 i y a).1,(a3 i y a).2⟩,a4⟩
 | map v es z=>
  obtain ⟨es',clock,m,f,a3,a4⟩:=B;refine ⟨es',clock,(YO (hl g _ A rfl)).trans m,f,a3,λi k v hi=>?_⟩;obtain ⟨e,H,G,F⟩:=a4 i k v hi;exact ⟨e,H,J3a hS G,qV hS hl F⟩
end
end Go.Dn
