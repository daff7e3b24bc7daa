/- Regions in order of the typed evaluator; calls that are entered in place. Conditions: none. -/
import Derived.Test.YtmfagdfkpjgeiaaDB
open List renaming all_eq_true → Aa, mem_of_getElem? → Ab, getElem?_map → Ac, mem_map → Ad, mem_singleton → Af, eq_nil_of_length_eq_zero → Ag
open Prod.mk renaming injEq → Ae
open Bool renaming and_eq_true → Ah
open Nat renaming ble → Ai, eq_of_beq_eq_true → Aj, le_refl → Ak
namespace Go.Dn
open Go Go.Vv
set_option linter.unusedVariables false
set_option linter.unusedSimpArgs false
def HdAt (P:Program) (fs:List Fm) (j:Nat) (h:Hd):Prop :=
 ∃pre fr post r,fs=pre++fr::post∧post.length=j∧fr.lo=some (j,r)∧r.state=.ready∧r.pending=none∧r.tmps=fr.act.tmps∧r.params.toList=h.ps∧Xf P fr.nt r.assign=some h.a∧Xf P fr.nt r.body=some h.b ∧
  (∀t∈h.ps,t<fr.nt)∧h.ps.Nodup
def HsOK (P:Program) (hs:List (Nat×Hd)) (fs:List Fm):Prop:=∀j h,look j hs=some h→HdAt P fs j h
def FsOK (fs:List Fm):Prop:=∀pre fr post,fs=pre++fr::post→∀j r,fr.lo=some (j,r)→j=post.length
theorem HsOK.push {P:Program} {hs:List (Nat×Hd)} {fs:List Fm} (h:HsOK P hs fs) (f:Fm):HsOK P hs (f::fs):=fun j x hx=>by
 obtain ⟨pre,fr,post,r,e,rest⟩:=h j x hx
 exact ⟨f::pre,fr,post,r,by rw [e];rfl,rest⟩
theorem FsOK.push {fs:List Fm} (h:FsOK fs) {nt d:Nat} {a:Act} {lo:Option (Nat×Loop)} (hl:∀j r,lo=some (j,r)→j=fs.length):FsOK (⟨nt,a,lo,d⟩::fs):=by
 intro pre fr post e j r hj
 cases pre with
 | nil =>
  injection e with e1 e2
  subst e1
  subst e2
  exact hl j r hj
 | cons p pre =>
  injection e with e1 e2
  exact h pre fr post e2 j r hj
theorem FsOK.tail {f:Fm} {fs:List Fm} (h:FsOK (f::fs)):FsOK fs:=fun pre fr post e=>h (f::pre) fr post (by rw [e];rfl)
def Job (P:Program) (hs:List (Nat×Hd)) (inl:Inl):Prop :=
 ∀ {α:Type} {f:FuncId} {base:Nat} {vs:List (V Ty.T)} {s:S Ty.T} {k:V Ty.T→S Ty.T→Option α} {r:α},inl val f base vs s k=some r →
  (Ai yB f=false→FnOK P f)∧∀ {n0:Nat} {w:World} {S:Nat→Prop} {μ:Gh} {a0:Act} {fr:Fm} {fs:List Fm} {cargs:Array Value},RepF n0 w S s μ a0 (fr::fs)→HsOK P hs (fr::fs)→FsOK (fr::fs)→(∀v∈vs,okV s v)→cargs.size=vs.length →
   (∀(i:Nat) (x:V Ty.T),vs[i]?=some x→Rep w S (encH s) μ (encV s x) (cargs.getD i undef))→∀ {R:Ending→World→Prop},
   fr.d=w.heap.size→(∀w' S' μ' v s' cv,RepF fr.nt w' S' s' μ' fr.act fs→okV s' v→Rep w' S' (encH s') μ' (encV s' v) cv→Evo w S (encH s) μ w' S' (encH s') μ'→k v s'=some r→R (.returned cv) w') →
   (Ai yB f=false→Calls P f cargs w R) ∧
   (∀j,f=yB+j→fr.lo=none→∃q,w.heap[μ.l j]?=some (.loop q)∧cargs.size=q.params.size∧RoundIn Fence.wide 0 P (μ.l j) q.fn ((q.params.zip cargs).foldl (fun tmps (t,a)=>tmps.setIfInBounds t a) q.tmps) q.assign q.body w R)
section
variable {s:Dn.S Ty.T} {α:Type} {r:α}
theorem Jon {s:Dn.S Ty.T} {g:Nat} {v:V Ty.T} (h:s.at g=v):(enc s).f g=encV s v:=by subst h;rfl
theorem Jm6 {o:LOper} {run skip:S Ty.T→Option α} (hi:Inv s) (h:Jj4 val s o run skip=some r) :
  (∃s1,enc s1=enc s∧On s s1∧Inv s1∧(∀g want,o.guard=some (g,want)→(enc s).f g=.bool want)∧run s1=some r) ∨
  (∃s1 g want,enc s1=enc s∧On s s1∧Inv s1∧o.guard=some (g,want)∧((enc s).f g=.bool (!want)∨(enc s).f g=.tup [])∧skip s1=some r):=by
 unfold Jj4 at h
 split at h
 ·rename_i hg
  exact .inl ⟨s,rfl,.refl s,hi,fun g w e=>(by rw [hg] at e;cases e),h⟩
 ·rename_i g want hg
  split at h
  ·rename_i b hb
   have hf:(enc s).f g=.bool b:=Jon hb
   split at h
   ·rename_i e
    subst e
    exact .inl ⟨s,rfl,.refl s,hi,fun g' w e=>(by rw [hg] at e;injection e with e;injection e with e1 e2;subst e1;subst e2;exact hf),h⟩
   ·rename_i e
    exact .inr ⟨s,g,want,rfl,.refl s,hi,hg,.inl (by rw [hf];cases b<;>cases want<;>simp_all),h⟩
  ·rename_i t ht
   have hf:∀q:Bool,(t:Bool)=q→(enc s).f g=.bool q:=fun q e=>by rw [Jon ht,←e];rfl
   have run':∀q:Bool,(t:Bool)=q→want=q→run (s.put (some g) (.c (.kb q)))=some r →
     ∃s1,enc s1=enc s∧On s s1∧Inv s1∧(∀g want,o.guard=some (g,want)→(enc s).f g=.bool want)∧run s1=some r:=fun q e1 e2 h =>
    ⟨_,Zq (hf q e1),.put s _ _,hi.put okKb _,fun g' w e3=>(by rw [hg] at e3;injection e3 with e3;injection e3 with e4 e5;subst e4;subst e5;rw [hf q e1,e2]),h⟩
   have skp:∀q:Bool,(t:Bool)=q→want=!q→skip (s.put (some g) (.c (.kb q)))=some r →
     ∃s1 g want,enc s1=enc s∧On s s1∧Inv s1∧o.guard=some (g,want)∧((enc s).f g=.bool (!want)∨(enc s).f g=.tup [])∧skip s1=some r:=fun q e1 e2 h =>
    ⟨_,g,want,Zq (hf q e1),.put s _ _,hi.put okKb _,hg,.inl (by rw [hf q e1,e2,Bool.not_not]),h⟩
   split at h
   ·rename_i hw
    rcases X9 h with ⟨e,h⟩|⟨e,h⟩
    ·exact .inl (run' true e hw h)
    ·exact .inr (skp false e hw h)
   ·rename_i hw
    have hw:want=false:=by simpa using hw
    rcases X9 h with ⟨e,h⟩|⟨e,h⟩
    ·exact .inr (skp true e hw h)
    ·exact .inl (run' false e hw h)
  ·rename_i ht
   exact .inr ⟨s,g,want,rfl,.refl s,hi,hg,.inr (by rw [Jon ht];rfl),h⟩
  ·cases h
theorem RepF.alike {nt:Nat} {w:World} {S:Nat→Prop} {s s1:Dn.S Ty.T} {μ:Gh} {a:Act} {fs:List Fm} (h:RepF nt w S s μ a fs) (e:enc s1=enc s) (on:On s s1) (hi:Inv s1):RepF nt w S s1 μ a fs:=by
 have eh:encH s1=encH s:=congrArg St.h e
 refine h.step rfl (by rw [e];exact h.fr) on hi (by rw [eh];exact .refl) (by rw [eh];exact .refl _ _)
theorem _root_.Go.Vv.Rep.yld_inv {w:World} {S:Nat→Prop} {h:Heap} {μ:Gh} {j:Nat} {v:Value} (hr:Rep w S h μ (.yld j) v):v=.func (.yield (μ.l j)) #[] #[]:=by
 cases hr with
 | pure hp=>cases hp
 | yld=>rfl
theorem enter_of {P:Program} {nt:Nat} {ops:Array Oper} {w:World} {S:Nat→Prop} {μ:Gh} {a:Act} {o:Oper} {lo:LOper} {cx:Cx} {f:FuncId} {vs:List (V Ty.T)} (hs:RepS nt w S (enc s) μ a) (hc:comp P [] nt ops o=some lo) (hi:Inv s) (hf:inlF val cx s lo.op=some (f,vs)) :
  (∀v∈vs,okV s v)∧∃cargs:Array Value,cargs.size=vs.length∧(∀(i:Nat) (x:V Ty.T),vs[i]?=some x→Rep w S (encH s) μ (encV s x) (cargs.getD i undef)) ∧
   (Ai yB f=false→FnOK P f→(execOp a.eval o).run P w=.ok (.enter f cargs) w)∧(Ai yB f=true→∃j,f=yB+j∧(execOp a.eval o).run P w=(Instr.yield (μ.l j) cargs).run P w):=by
 obtain ⟨lop,hop,hl⟩:∃lop,Qu P [] o.dst o.op=some lop∧lo.op=lop:=by
  unfold comp at hc
  cases hq:Qu P [] o.dst o.op with
  | none=>rw [hq] at hc;cases hc
  | some lop =>
   rw [hq] at hc
   simp only at hc
   refine ⟨lop,rfl,?_⟩
   split at hc
   ·split at hc
    ·injection hc with hc;rw [←hc]
    ·split at hc
     ·split at hc
      ·injection hc with hc;rw [←hc]
      ·cases hc
     ·cases hc
   ·cases hc
 rw [hl] at hf
 clear hl hc
 have evs:∀l:List LO,∀v∈l.map (ev val s),okV s v:=fun l v hv=>by
  obtain ⟨x,-,rfl⟩:=Ad.1 hv
  exact Jaf hi x
 have args:∀ {l:Array Operand} {m:List LO},cLOs l.toList=some m→(l.map a.eval).size=(m.map (ev val s)).length∧∀(i:Nat) (x:V Ty.T),(m.map (ev val s))[i]?=some x→Rep w S (encH s) μ (encV s x) ((l.map a.eval).getD i undef):=fun {l m} hm=>by
  obtain ⟨r1,r2⟩:=Zb hs hm
  refine ⟨by rw [r1];simp,fun i x hx=>?_⟩
  rw [Ac] at hx
  cases hq:m[i]? with
  | none=>rw [hq] at hx;cases hx
  | some y =>
   rw [hq] at hx
   injection hx with hx
   subst hx
   rw [←Js]
   exact r2 i _ (by rw [Ac,hq];rfl)
 obtain ⟨dst,oop,oty,opos,oafter,ogd⟩:=o
 simp only at hop
 unfold inlF at hf
 cases oop
 case call c =>
  obtain ⟨callee,cargs,argTypes⟩:=c
  simp only [Qu] at hop
  cases callee
  case value x =>
   cases x
   case func g =>
    simp only at hop
    split at hop
    ·rename_i m hm
     have:Jgu [] dst=.p:=rfl
     rw [this] at hop
     injection hop with hop
     subst hop
     simp only at hf
     split at hf
     ·rename_i hcnd
      simp only [Ah,Bool.not_eq_true'] at hcnd
      injection hf with hf
      simp only [Ae] at hf
      obtain ⟨rfl,rfl⟩:=hf
      obtain ⟨r1,r2⟩:=args hm
      refine ⟨evs m,_,r1,r2,fun _ hk=>?_,fun q=>(by rw [hcnd.2] at q;cases q)⟩
      simp [execOp,resolve,Act.eval,Deferred.ofValue,invoke,J0 hk]
     ·cases hf
    ·cases hop
   case tmp x =>
    simp only at hop
    obtain ⟨m,hm,rfl⟩:=K0 hop
    simp only at hf
    split at hf
    ·rename_i g caps hx
     split at hf
     ·cases hf
     rename_i hble
     have hble:Ai yB g=false:=eq_false_of_ne_true hble
     injection hf with hf
     simp only [Ae] at hf
     obtain ⟨rfl,rfl⟩:=hf
     obtain ⟨r1,r2⟩:=args hm
     have hv:Rep w S (encH s) μ (encV s (.c (.fn g caps))) (a.tmps.getD x undef):=by
      have:=hs.fr x
      rw [show (enc s).f x=encV s (.c (.fn g caps)) by rw [←hx];rfl] at this
      exact this
     obtain ⟨cs,e,c1,c2⟩:=hv.fn_inv
     simp only [List.length_map] at c1
     have okf:okC s (.fn g caps):=by
      have:=Jaf hi (.t x)
      rw [hx] at this
      exact this _ (Af.2 rfl)
     refine ⟨fun v hv=>?_,cargs.map a.eval++cs,by simp [←c1] at r1 ⊢;omega,fun i y hy=>?_,fun _ hk=>?_,fun q=>(by rw [hble] at q;cases q)⟩
     ·rcases List.mem_append.1 hv with hv|hv
      ·exact evs m v hv
      ·obtain ⟨c,hc,rfl⟩:=Ad.1 hv
       refine Km fun r hr=>?_
       have:=Af.1 hr
       subst this
       exact okf (c.1,c.2.1) (Ad.2 ⟨c,hc,rfl⟩)
     ·by_cases hlt:i<(m.map (ev val s)).length
      ·rw [List.getElem?_append_left hlt] at hy
       have e:(cargs.map a.eval++cs).getD i undef=(cargs.map a.eval).getD i undef:=by
        simp only [Array.getD_eq_getD_getElem?]
        rw [Array.getElem?_append_left (by omega)]
       rw [e]
       exact r2 i y hy
      ·rw [List.getElem?_append_right (by omega)] at hy
       have e:(cargs.map a.eval++cs).getD i undef=cs.getD (i - (m.map (ev val s)).length) undef:=by
        simp only [Array.getD_eq_getD_getElem?]
        rw [Array.getElem?_append_right (by omega),r1]
       rw [e]
       rw [Ac] at hy
       cases hq:caps[i - (m.map (ev val s)).length]? with
       | none=>rw [hq] at hy;cases hy
       | some c =>
        rw [hq] at hy
        injection hy with hy
        subst hy
        exact c2 _ _ (by rw [Ac,hq];rfl)
     ·have hev:a.eval (.tmp x)=.func (.func g) #[] cs:=e
      simp [execOp,resolve,hev,Deferred.ofValue,invoke,J0 hk]
    ·rename_i j hx
     injection hf with hf
     simp only [Ae] at hf
     obtain ⟨rfl,rfl⟩:=hf
     obtain ⟨r1,r2⟩:=args hm
     have hv:Rep w S (encH s) μ (.yld j) (a.tmps.getD x undef):=by
      have:=hs.fr x
      rw [show (enc s).f x=encV s (.c (.yl j)) by rw [←hx];rfl] at this
      exact this
     have hev:a.eval (.tmp x)=.func (.yield (μ.l j)) #[] #[]:=hv.yld_inv
     refine ⟨evs m,_,r1,r2,fun q=>?_,fun _=>⟨j,rfl,?_⟩⟩
     ·rw [Nat.ble_eq_true_of_le (Nat.le_add_right yB j)] at q;cases q
     ·simp [execOp,resolve,hev,Deferred.ofValue,invoke]
    ·rename_i g t u hx
     split at hf
     ·cases hf
     rename_i hble
     have hble:Ai yB g=false:=eq_false_of_ne_true hble
     injection hf with hf
     simp only [Ae] at hf
     obtain ⟨rfl,rfl⟩:=hf
     obtain ⟨r1,r2⟩:=args hm
     have hv:Rep w S (encH s) μ (.bfn g (t.cs u)) (a.tmps.getD x undef):=by
      have:=hs.fr x
      rw [show (enc s).f x=encV s (.c (.lf (.bf g t) u)) by rw [←hx];rfl] at this
      exact this
     obtain ⟨cs,e,hag⟩:=hv.bfn_inv
     refine ⟨fun v hv=>?_,#[.agg cs]++cargs.map a.eval,by simp at r1 ⊢;omega,fun i y hy=>?_,fun _ hk=>?_,fun q=>(by rw [hble] at q;cases q)⟩
     ·rcases List.mem_cons.1 hv with rfl|hv
      ·exact X4 s t u
      ·exact evs m v hv
     ·cases i with
      | zero =>
       simp only [List.getElem?_cons_zero,Option.some.injEq] at hy
       subst hy
       have e1:(#[Value.agg cs]++cargs.map a.eval).getD 0 undef=.agg cs:=by simp [Array.getD_eq_getD_getElem?,Array.getElem?_append]
       rw [e1]
       have e2:encV s (V.ag (expl val t (val.ub u)))=.agg (t.cs u):=congrArg AV.agg (Kc s t (val.ub u))
       rw [e2]
       exact hag
      | succ i =>
       simp only [List.getElem?_cons_succ] at hy
       have e1:(#[Value.agg cs]++cargs.map a.eval).getD (i+1) undef=(cargs.map a.eval).getD i undef:=by
        simp only [Array.getD_eq_getD_getElem?]
        rw [Array.getElem?_append_right (by simp)]
        simp
       rw [e1]
       exact r2 i y hy
     ·have hev:a.eval (.tmp x)=.func (.func g) #[.agg cs] #[]:=e
      simp [execOp,resolve,hev,Deferred.ofValue,invoke,J0 hk]
    ·cases hf
   all_goals cases hop
  case builtin b =>
   exfalso
   cases b<;>simp only at hop<;>repeat' split at hop
   all_goals first|(cases hop;done)|(injection hop with hop;subst hop;cases hf;done)|(simp at hop;done)|skip
  all_goals cases hop
 all_goals
  exfalso
  simp only [Qu] at hop
  repeat' split at hop
  all_goals first|(cases hop;done)|contradiction|(injection hop with hop;subst hop;cases hf;done)|(obtain ⟨m,hm,rfl⟩:=K0 hop;cases hf;done)|skip
end
end Go.Dn
namespace Go.Dn
open Go Go.Vv
set_option linter.unusedVariables false
set_option linter.unusedSimpArgs false
def vOf:AV→Value
 | .int k n=>.int k n
 | .bool b=>.bool b
 | .str x=>.string x
 | _=>undef
theorem Jjr {v:AV} (h:Scl v) {w:World} {S:Nat→Prop}:RepP w S v (vOf v)∧(vOf v).oneCell'=true:=by
 rcases h with ⟨b,rfl⟩|⟨k,n,rfl⟩|⟨x,rfl⟩
 ·exact ⟨.bool b,rfl⟩
 ·exact ⟨.int k n,rfl⟩
 ·exact ⟨.str x,rfl⟩
theorem vOf_eq {v:AV} (h:Scl v) {w:World} {S:Nat→Prop} {hh:Heap} {μ:Gh} {c:Value} (hr:Rep w S hh μ v c):c=vOf v:=by
 rcases h with ⟨b,rfl⟩|⟨k,n,rfl⟩|⟨x,rfl⟩
 ·exact hr.bool_inv
 ·exact hr.int_inv
 ·exact hr.str_inv
def SCt.tl (x:SCt):Array Value:=if x.two then #[.func (.func x.g) #[] #[]] else #[]
structure Jsk (w w':World) (b off n:Nat) (cs:Array Value) (new:List AV):Prop where
 os:w'.os=w.os
 tape:w'.tape=w.tape
 output:w'.output=w.output∧w.drawn≤w'.drawn
 size:w.heap.size≤w'.heap.size
 keep:∀k,k<w.heap.size→k≠b→w'.heap[k]?=w.heap[k]?
 row:∀el,w.heap[b]?=some (.cells cs el (0,0))→∃cs':Array Value,w'.heap[b]?=some (.cells cs' el (0,0))∧cs'.size=cs.size∧(∀(i:Nat) (v:AV),new[i]?=some v→cs'.getD (off+i) undef=vOf v)
structure Jar (P:Program) (x:SCt):Prop where
 fn:FnOK P x.id
 id:x.id<yB
 flat:x.t.flat=true
 len:∀l r,x.fn l=some r→r.length=l.length
 run:∀l r,x.fn l=some r→l≠[]→∀(w:World) (b off cap:Nat) (cs:Array Value) (el:TypeId),w.heap[b]?=some (.cells cs el (0,0))→off+l.length * x.t.sz≤cs.size→l.length≤cap→(∀(i:Nat) (v:AV),(l.flatMap x.t.cs)[i]?=some v→cs.getD (off+i) undef=vOf v) →
  Calls P x.id (#[.slice (some ⟨b,off,none⟩) l.length cap]++x.tl) w fun e w'=>e=.returned (.tuple #[])∧Jsk w w' b off (l.length * x.t.sz) cs (r.flatMap x.t.cs)
 emp:∀r,x.fn []=some r→∀(w:World) (A:Option Addr),Calls P x.id (#[.slice A 0 0]++x.tl) w fun e w'=>e=.returned (.tuple #[])∧Old w w'
 nilq:∀(w:World),Calls P x.id (#[.slice none 0 0]++x.tl) w fun e w'=>e=.returned (.tuple #[])∧Old w w'
def soL:List SCt→FuncId→FuncId→Option SCt
 | [],_,_=>none
 | x::r,f,g=>match Nat.beq x.id f,Nat.beq x.g g with|true,true=>some x|_,_=>soL r f g
theorem soL_ok {P:Program} {so:List SCt} (h:∀x∈so,Jar P x):∀f g x,soL so f g=some x→x.id=f∧x.g=g∧Jar P x:=by
 induction so with
 | nil=>intro f g x hx;cases hx
 | cons y r ih =>
  intro f g x hx
  simp only [soL] at hx
  split at hx
  ·rename_i h1 h2
   injection hx with hx
   subst hx
   exact ⟨Aj h1,Aj h2,h y List.mem_cons_self⟩
  ·exact ih (fun x hx=>h x (List.mem_cons_of_mem _ hx)) f g x hx
def SoOK (P:Program) (cx:Cx):Prop:=∀f g x,cx.so f g=some x→x.id=f∧x.g=g∧Jar P x
section
variable {nt:Nat} {w:World} {S:Nat→Prop} {s:Dn.S Ty.T} {μ:Gh} {a:Act} {fs:List Fm}
theorem Jag {w':World} {h:Heap} (o:Old w w'):Evo w S h μ w' S h μ :=
 ⟨o.os,o.tape,o.output,o.size,fun b hb _=>o.keep b hb,fun b cs el z hc=>⟨cs,(o.keep b (Array.getElem?_eq_some_iff.1 hc).1).trans hc,rfl⟩,fun _ h=>h,fun _ h=>.inl h,fun _ h=>.inl h,rfl⟩
theorem RepF.old {w':World} (hF:RepF nt w S s μ a fs) (o:Old w w'):RepF nt w' S s μ a fs:=by
 have ev:=Jag (S:=S) (μ:=μ) (h:=encH s) o
 have hp:RepH w' S (encH s) μ:=⟨fun g ob ho=>(hF.fr.hp.ob g ob ho).evo hF.fr.hp ev (.refl _ _) fun hl=>o.keep _ ((hF.fr.hp.ob g ob ho).lt hl),hF.fr.hp.inj,hF.fr.hp.own,fun b hb=>Nat.lt_of_lt_of_le (hF.fr.hp.lt b hb) o.size⟩
 exact hF.step rfl ⟨fun d=>(hF.fr.fr d).evo hF.fr.hp ev (.refl _ _),hp,hF.fr.hp.marks hF.fr.df ev,hF.fr.sz⟩ (.refl s) hF.iv ev (.refl _ _)
theorem sort_row {P:Program} {x:SCt} (hx:Jar P x) (hF:RepF nt w S s μ a fs) {g v e:Nat} {el:TypeId} {l r:List x.t.T} (ho:look g s.ob=some (.row v e el x.t l [] none false)) (he:e=x.t.sz) (he0:0<e) (hr:x.fn l=some r) {cv:Value}
  (hv:Rep w S (encH s) μ (encC s (.own g v)) cv) {R:Ending→World→Prop} (hR:∀w',RepF nt w' S (s.obj g (.row v e el x.t r [] none false)) μ a fs→Evo w S (encH s) μ w' S (encH (s.obj g (.row v e el x.t r [] none false))) μ→R (.returned (.tuple #[])) w') :
  Calls P x.id (#[cv]++x.tl) w R:=by
 have hlen:=hx.len l r hr
 have st:Stab s (s.obj g (.row v e el x.t r [] none false)):=Qg fun o0 h0=>by
  rw [ho] at h0
  injection h0 with h0
  subst h0
  exact ⟨rfl,by simp only [Ob.lenO];show List.length (α:=x.t.T) l+_=List.length (α:=x.t.T) r+_;rw [hlen]⟩
 have hlk:∀g',look g' (s.obj g (.row v e el x.t r [] none false)).ob=if g=g' then some (.row v e el x.t r [] none false) else look g' s.ob:=fun g'=>J2 g g' _
 have iv:=Yb hF.iv st hlk (fun c hc=>by cases hc) (hF.iv.free ho)
 have hh:=Qw hF.iv st hlk
 have he1:encO (s.obj g (.row v e el x.t r [] none false)) (.row v e el x.t r [] none false)=.arr v e el (r.flatMap x.t.cs) false:=by simp [encO,Ky]
 rw [he1] at hh
 have hg:encH s g=some (.arr v e el (l.flatMap x.t.cs) false):=by rw [Jf ho];simp [encO,Ky]
 have hl0:Ki s g v=l.length:=by simp [Ki,ho,Ob.ver,Ob.lenO]
 simp only [encC,hl0] at hv
 have hnl:(l.flatMap x.t.cs=[]↔r.flatMap x.t.cs=[]):=Kx (by rw [Jq,Jq,hlen])
 have vv:EvoV (encH s) μ (encH (s.obj g (.row v e el x.t r [] none false))) μ:=by
  intro g1 o1 h1
  rw [hh]
  by_cases e1:g1=g
  ·subst e1
   rw [hg] at h1
   injection h1 with h1
   subst h1
   exact ⟨_,Jc _ _ _,Ak _,fun _=>⟨⟨rfl,rfl⟩,rfl,rfl,hnl⟩⟩
  ·exact ⟨o1,by rw [Jb _ _ _ _ e1];exact h1,Ak _,fun _=>⟨⟨rfl,rfl⟩,.refl o1⟩⟩
 have own_back:∀b,Own (encH (s.obj g (.row v e el x.t r [] none false))) μ b→Own (encH s) μ b:=fun b ⟨g1,o1,h1,hz,hl,e1⟩=>by
  rw [hh] at h1
  by_cases e2:g1=g
  ·subst e2
   rw [Jc] at h1
   injection h1 with h1
   subst h1
   exact ⟨g1,_,hg,rfl,J5.2 fun q=>J5.1 hl (hnl.1 q),e1⟩
  ·rw [Jb _ _ _ _ e2] at h1
   exact ⟨g1,o1,h1,hz,hl,e1⟩
 cases hr0:hv with
 | pure hp=>cases hp
 | arr _ _ _ _ _ o1 ho1 hv1 h11 hr1 =>
  rw [hg] at ho1
  injection ho1 with ho1
  subst ho1
  obtain ⟨esz,el',cells,fz,eo,hk⟩:=hr1 rfl
  injection eo with eo1 eo2 eo3 eo4 eo5
  subst eo2
  subst eo4
  by_cases hne:l.flatMap x.t.cs=[]
  ·-- nothing to sort
   obtain ⟨-,hl00,A,rfl⟩:=hk.1 hne
   have hln:l=[]:=Ag hl00
   subst hln
   have hrn:r=[]:=Ag (by rw [hlen];rfl)
   subst hrn
   refine (hx.emp [] hr w A).mono fun e w' ⟨e1,o⟩=>?_
   subst e1
   have h2:=hF.old o
   have eh:encH (s.obj g (.row v e el x.t ([]:List x.t.T) [] none false))=encH s:=by
    rw [hh]
    funext g1
    by_cases e1:g1=g
    ·subst e1;rw [Jc,hg]
    ·rw [Jb _ _ _ _ e1]
   refine hR w' (h2.step rfl ⟨fun d=>?_,by show RepH w' S (encH _) μ;rw [eh];exact h2.fr.hp,h2.fr.df,h2.fr.sz⟩ st.on iv (by rw [eh];exact .refl) (by rw [eh];exact .refl _ _)) (by rw [eh];exact Jag o)
   rw [Yv hF.iv st]
   show Rep w' S (encH _) μ _ _
   rw [eh]
   exact h2.fr.fr d
  ·obtain ⟨A,cap,cs0,el0,z0,rfl,hcap,hb0,hsz0,hA⟩:=hk.2 hne
   obtain ⟨cs,hb,hsz,hold,-⟩:=hF.fr.hp.ob g _ hg hne
   have hln:l≠[]:=fun q=>by subst q;exact hne rfl
   have hlp:0<l.length:=List.length_pos_iff.2 hln
   have hA:=hA (by omega)
   rw [Nat.zero_mul,Nat.add_zero] at hA
   subst hA
   have hcl:(l.flatMap x.t.cs).length=l.length * x.t.sz:=Jq l
   have scl:∀ {m:List x.t.T} {i:Nat} {y:AV},(m.flatMap x.t.cs)[i]?=some y→Scl y:=fun {m i y} hy=>by
    obtain ⟨u,_,hu⟩:=List.mem_flatMap.1 (Ab hy)
    exact Zy hx.flat u y hu
   refine (hx.run l r hr hln w (μ.b g) (μ.o g) cap cs el hb (by omega) hcap.1 fun i y hy=>vOf_eq (scl hy) (hold i y hy).1).mono fun e2 w' ⟨e1,rb⟩=>?_
   subst e1
   obtain ⟨cs',hb',hsz',hnew⟩:=rb.row el hb
   have hown:Own (encH s) μ (μ.b g):=⟨g,_,hg,rfl,J5.2 hne,rfl⟩
   have ev:Evo w S (encH s) μ w' S (encH (s.obj g (.row v e el x.t r [] none false))) μ:=by
    refine ⟨rb.os,rb.tape,rb.output,rb.size,fun b hb1 hn=>rb.keep b hb1 fun q=>hn (q▸hown),fun b c1 el1 z1 hc1=>?_,fun _ h=>h,fun _ h=>.inl h,fun b ho=>.inl (own_back b ho),rfl⟩
    by_cases hbe:b=μ.b g
    ·subst hbe
     rw [hb] at hc1
     injection hc1 with hc1
     injection hc1 with q1 q2 q3
     subst q1
     subst q2
     subst q3
     exact ⟨cs',hb',hsz'⟩
    ·exact ⟨c1,(rb.keep b (Array.getElem?_eq_some_iff.1 hc1).1 hbe).trans hc1,rfl⟩
   have hp':RepH w' S (encH (s.obj g (.row v e el x.t r [] none false))) μ:=by
    refine ⟨fun g1 o1 h1=>?_,fun g1 g2 o1 o2 h1 h2 l1 l2 e1=>?_,fun g1 o1 h1 hz hl hs=>?_,fun b hb1=>Nat.lt_of_lt_of_le (hF.fr.hp.lt b hb1) rb.size⟩
    ·by_cases e1:g1=g
     ·subst e1
      rw [hh,Jc] at h1
      injection h1 with h1
      subst h1
      refine fun _=>⟨cs',hb',by rw [hsz',Jq,hlen,←Jq];exact hsz,fun i y hy=>?_,fun q=>by cases q⟩
      rw [hnew i y hy]
      exact ⟨.pure (Jjr (scl hy)).1,(Jjr (w:=w) (S:=S) (scl hy)).2⟩
     ·have h1':encH s g1=some o1:=by rw [hh,Jb _ _ _ _ e1] at h1;exact h1
      exact (hF.fr.hp.ob g1 o1 h1').evo hF.fr.hp ev vv fun hl=>rb.keep _ ((hF.fr.hp.ob g1 o1 h1').lt hl) fun q=>e1 (hF.fr.hp.inj g1 g _ _ h1' hg hl (J5.2 hne) q)
    ·have back:∀g1 o1,encH (s.obj g (.row v e el x.t r [] none false)) g1=some o1→o1.live=true→∃o2,encH s g1=some o2∧o2.live=true:=fun g1 o1 h1 hl=>by
      rw [hh] at h1
      by_cases e2:g1=g
      ·subst e2;exact ⟨_,hg,J5.2 hne⟩
      ·rw [Jb _ _ _ _ e2] at h1;exact ⟨o1,h1,hl⟩
     obtain ⟨p1,q1,r1⟩:=back g1 o1 h1 l1
     obtain ⟨p2,q2,r2⟩:=back g2 o2 h2 l2
     exact hF.fr.hp.inj g1 g2 p1 p2 q1 q2 r1 r2 e1
    ·obtain ⟨g2,o2,h2,hz2,hl2,e2⟩:=own_back (μ.b g1) ⟨g1,o1,h1,hz,hl,rfl⟩
     exact hF.fr.hp.own g2 o2 h2 hz2 hl2 (e2▸hs)
   refine hR w' (hF.step rfl ⟨fun d=>?_,hp',hF.fr.hp.marks hF.fr.df ev,hF.fr.sz⟩ st.on iv ev vv) ev
   rw [Yv hF.iv st]
   exact (hF.fr.fr d).evo hF.fr.hp ev vv
theorem Jvp {P:Program} {ops:Array Oper} {o:Oper} {lo:LOper} (hc:comp P [] nt ops o=some lo):Qu P [] o.dst o.op=some lo.op:=by
 unfold comp at hc
 cases hq:Qu P [] o.dst o.op with
 | none=>rw [hq] at hc;cases hc
 | some lop =>
  rw [hq] at hc
  simp only at hc
  split at hc
  ·split at hc
   ·injection hc with hc;rw [←hc]
   ·split at hc
    ·split at hc
     ·injection hc with hc;rw [←hc]
     ·cases hc
    ·cases hc
  ·cases hc
theorem Jp5 {P:Program} {ops:Array Oper} {o:Oper} {lo:LOper} {f:FuncId} {m:List LO} (hc:comp P [] nt ops o=some lo) (hl:lo.op=.callp f m):∃args:Array Operand,cLOs args.toList=some m∧∀ {w:World},FnOK P f→(execOp a.eval o).run P w=.ok (.enter f (args.map a.eval)) w:=by
 have hop:=Jvp hc
 rw [hl] at hop
 obtain ⟨dst,oop,oty,opos,oafter,ogd⟩:=o
 simp only at hop
 cases oop
 case call c =>
  obtain ⟨callee,cargs,argTypes⟩:=c
  simp only [Qu] at hop
  cases callee
  case value x =>
   cases x
   case func g =>
    simp only at hop
    split at hop
    ·rename_i m' hm
     have:Jgu [] dst=.p:=rfl
     rw [this] at hop
     injection hop with hop
     injection hop with h1 h2
     subst h1
     subst h2
     exact ⟨cargs,hm,fun {w} hk=>by simp [execOp,resolve,Act.eval,Deferred.ofValue,invoke,J0 hk]⟩
    ·cases hop
   case tmp x =>
    simp only at hop
    obtain ⟨m',hm,e⟩:=K0 hop
    cases e
   all_goals cases hop
  case builtin b =>
   exfalso
   cases b<;>simp only at hop<;>repeat' split at hop
   all_goals first|(cases hop;done)|(injection hop with hop;cases hop;done)|(simp at hop;done)|skip
  all_goals cases hop
 all_goals
  exfalso
  simp only [Qu] at hop
  repeat' split at hop
  all_goals first|(cases hop;done)|contradiction|(injection hop with hop;cases hop;done)|(obtain ⟨m',hm,e⟩:=K0 hop;cases e;done)|skip
theorem srt_of {P:Program} {ops:Array Oper} {o:Oper} {lo:LOper} {cx:Cx} {c:SCt} {v:V Ty.T} (hso:SoOK P cx) (hs:RepS nt w S (enc s) μ a) (hc:comp P [] nt ops o=some lo) (hi:Inv s) (hf:srtF val cx s lo.op=some (c,v)) :
  ∃cv,Jar P c∧Rep w S (encH s) μ (encV s v) cv∧(execOp a.eval o).run P w=.ok (.enter c.id (#[cv]++c.tl)) w:=by
 unfold srtF at hf
 split at hf
 ·rename_i f x y hl
  split at hf
  ·rename_i g hy
   cases hso':cx.so f g with
   | none=>rw [hso'] at hf;cases hf
   | some c' =>
    rw [hso'] at hf
    simp only [Option.bind_some] at hf
    split at hf
    ·rename_i h2
     injection hf with hf
     simp only [Ae] at hf
     obtain ⟨rfl,rfl⟩:=hf
     obtain ⟨e1,e2,sg⟩:=hso f g _ hso'
     obtain ⟨args,hm,hrun⟩:=Jp5 (a:=a) hc hl
     obtain ⟨r1,r2⟩:=Zb hs hm
     have q0:=r2 0 _ rfl
     have q1:=r2 1 _ rfl
     rw [Js] at q0 q1
     rw [hy] at q1
     have q1:Rep w S (encH s) μ (.fn g []) ((args.map a.eval).getD 1 undef):=q1
     obtain ⟨cs,e3,e4,-⟩:=q1.fn_inv
     have e5:cs=#[]:=Array.eq_empty_of_size_eq_zero e4.symm
     have hsz:(args.map a.eval).size=2:=by rw [r1];rfl
     refine ⟨(args.map a.eval).getD 0 undef,sg,q0,?_⟩
     rw [←e1] at hrun
     rw [hrun sg.fn]
     congr 2
     rw [show c'.tl=#[.func (.func c'.g) #[] #[]] by simp [SCt.tl,h2],e2]
     apply Array.ext
     ·rw [hsz];rfl
     ·intro i hi1 hi2
      rw [hsz] at hi1
      match i,hi1 with
      | 0,_ =>
       have:(args.map a.eval)[0]=(args.map a.eval).getD 0 undef:=by rw [Array.getD_eq_getD_getElem?,Array.getElem?_eq_getElem (by omega:0<(args.map a.eval).size)];rfl
       rw [this]
       rfl
      | 1,_ =>
       have:(args.map a.eval)[1]=(args.map a.eval).getD 1 undef:=by rw [Array.getD_eq_getD_getElem?,Array.getElem?_eq_getElem (by omega:1<(args.map a.eval).size)];rfl
       rw [this,e3,e5]
       rfl
    ·cases hf
  ·cases hf
 ·rename_i f x hl
  cases hso':cx.so f 0 with
  | none=>rw [hso'] at hf;cases hf
  | some c' =>
   rw [hso'] at hf
   simp only [Option.bind_some] at hf
   split at hf
   ·cases hf
   ·rename_i h2
    have h2:c'.two=false:=by simpa using h2
    injection hf with hf
    simp only [Ae] at hf
    obtain ⟨rfl,rfl⟩:=hf
    obtain ⟨e1,e2,sg⟩:=hso f 0 _ hso'
    obtain ⟨args,hm,hrun⟩:=Jp5 (a:=a) hc hl
    obtain ⟨r1,r2⟩:=Zb hs hm
    have q0:=r2 0 _ rfl
    rw [Js] at q0
    have hsz:(args.map a.eval).size=1:=by rw [r1];rfl
    refine ⟨(args.map a.eval).getD 0 undef,sg,q0,?_⟩
    rw [←e1] at hrun
    rw [hrun sg.fn]
    congr 2
    rw [show c'.tl=#[] by simp [SCt.tl,h2]]
    apply Array.ext
    ·rw [hsz];rfl
    ·intro i hi1 hi2
     rw [hsz] at hi1
     have:i=0:=by omega
     subst this
     have:(args.map a.eval)[0]=(args.map a.eval).getD 0 undef:=by rw [Array.getD_eq_getD_getElem?,Array.getElem?_eq_getElem (by omega:0<(args.map a.eval).size)];rfl
     rw [this]
     rfl
 ·cases hf
theorem nil_of {P:Program} {ro:Option Nat} {ops:Array Oper} {o:Oper} {lo:LOper} {ne:Bool} {m:Ty.T I} (hs:RepS nt w S (enc s) μ a) (hc:comp P [] nt ops o=some lo) (hf:nilOf val s lo.op=some (ne,m)) :
  ∃b0:Bool,(b0=true→m=(0:Int))∧∀ {K:Act→World→Prop} {Q:Exit→Act→World→Prop},K (a.put o.dst (.bool (if ne then !b0 else b0))) w→wpO ro P o a w K Q:=by
 unfold nilOf at hf
 split at hf
 ·rename_i ne' x hl
  split at hf
  ·rename_i t l hx
   injection hf with hf
   simp only [Ae] at hf
   obtain ⟨rfl,rfl⟩:=hf
   have hop:=Jvp hc
   rw [hl] at hop
   obtain ⟨dst,oop,oty,opos,oafter,ogd⟩:=o
   simp only at hop
   have key:∃(op:BinOp) (t' e:TypeId) (X Y:Operand) (yt:TypeId),oop=.binOp op t' X Y yt∧P.underlying t'=some (.slice e)∧cLO X=some x∧cLO Y=some (.c .nils)∧op=(if ne' then .neq else .eql):=by
    cases oop
    case binOp op t' X Y yt =>
     simp only [Qu] at hop
     split at hop
     ·split at hop
      ·split at hop<;>first|(injection hop with hop;cases hop;done)|cases hop
      ·split at hop<;>first|(injection hop with hop;cases hop;done)|cases hop
      ·injection hop with hop;cases hop
     ·rename_i e x' hu h1 h2
      split at hop
      ·injection hop with hop;injection hop with q1 q2;subst q1;subst q2;exact ⟨_,_,e,X,Y,yt,rfl,hu,h1,h2,rfl⟩
      ·injection hop with hop;injection hop with q1 q2;subst q1;subst q2;exact ⟨_,_,e,X,Y,yt,rfl,hu,h1,h2,rfl⟩
      ·cases hop
     ·split at hop
      ·split at hop<;>first|(injection hop with hop;cases hop;done)|cases hop
      ·split at hop<;>first|(injection hop with hop;cases hop;done)|cases hop
      ·cases hop
     ·cases hop
    all_goals
     exfalso
     simp only [Qu] at hop
     repeat' split at hop
     all_goals first|(cases hop;done)|contradiction|(injection hop with hop;cases hop;done)|(obtain ⟨m',hm,e⟩:=K0 hop;cases e;done)|skip
   obtain ⟨op,t',e,X,Y,yt,rfl,hu,h1,h2,rfl⟩:=key
   have hX:=Ji hs h1
   rw [Js,hx] at hX
   have hX:Rep w S (encH s) μ (.lst (List.length (α:=t.T) l) (List.flatMap (α:=t.T) t.cs l)) (a.eval X):=hX
   have hY:=Ji hs h2
   have hY:a.eval Y=.slice none 0 0:=Rep.nils_inv (h:=(enc s).h) (by simpa [St.ev] using hY)
   have kk:∃b0:Bool,(b0=true∧a.eval X=.slice none 0 0∧List.length (α:=t.T) l=0)∨(b0=false∧∃A n c,a.eval X=.slice (some A) n c):=by
    generalize hL:List.length (α:=t.T) l=L at hX
    generalize List.flatMap (α:=t.T) t.cs l=C at hX
    generalize a.eval X=V at hX
    cases hX with
    | pure hp =>
     cases hp with
     | lst0=>exact ⟨true,.inl ⟨rfl,rfl,rfl⟩⟩
     | lst n l a' cap cv=>exact ⟨false,.inr ⟨rfl,a',_,cap,rfl⟩⟩
   obtain ⟨b0,hb⟩:=kk
   have hq:(Op.equal t' (a.eval X) (.slice none 0 0)).run P w=.ok b0 w:=by
    have hd:∀d,(Op.equalIn (d+1) t' (a.eval X) (.slice none 0 0)).run P w=.ok b0 w:=fun d=>by
     rcases hb with ⟨rfl,e1,-⟩|⟨rfl,A,n,c,e1⟩
     ·rw [e1];simp [Op.equalIn,run_underlying hu]
     ·rw [e1];simp [Op.equalIn,run_underlying hu]
    exact hd 9999
   have hg:∃q n c,a.eval X=.slice q n c:=by
    rcases hb with ⟨rfl,e1,-⟩|⟨rfl,A,n,c,e1⟩
    ·exact ⟨_,_,_,e1⟩
    ·exact ⟨_,_,_,e1⟩
   obtain ⟨q,n,c,e1⟩:=hg
   refine ⟨b0,fun h=>?_,fun {K Q} hK=>?_⟩
   ·rcases hb with ⟨-,-,e2⟩|⟨e2,-⟩
    ·show ((List.length (α:=t.T) l:Nat):Int)=0
     omega
    ·rw [e2] at h;cases h
   ·refine Vv.wp_value (cv:=.bool (if ne' then !b0 else b0)) (w':=w) ?_ hK
    have e3:∀op,execOp a.eval { dst:=dst,op:=.binOp op t' X Y yt,type:=oty,pos:=opos,after:=oafter,guard:=ogd }=(do pure (.value (←(do eqGuard op t' X Y (a.eval X) (a.eval Y);binOp op t' (a.eval X) (a.eval Y))))):=fun op=>by
     simp only [execOp]<;>rfl
    rw [e3,hY]
    rw [e1] at hq ⊢
    cases ne' with
    | true=>simp [eqGuard,binOp,Sem.run_bind,hq,Result.andThen]
    | false=>simp [eqGuard,binOp,Sem.run_bind,hq,Result.andThen]
  ·cases hf
 ·cases hf
end
end Go.Dn
namespace Go.Dn
open Go Go.Vv
set_option linter.unusedVariables false
set_option linter.unusedSimpArgs false
section
variable {s s':Dn.S Ty.T}
theorem Jne (ho:s'.ob=s.ob) (hn:s'.ln=s.ln):encC s'=encC s:=by
 funext c
 cases c<;>simp only [encC,Ki,ho,hn]
theorem Jfp (ho:s'.ob=s.ob) (hn:s'.ln=s.ln) (v:V Ty.T):encV s' v=encV s v:=by
 cases v<;>simp only [encV,Jne ho hn]
theorem Xb (ho:s'.ob=s.ob) (hn:s'.ln=s.ln) (hm:s'.mo=s.mo:=by rfl):encH s'=encH s:=by
 funext g
 simp only [encH,ho,hm]
 cases look g s.ob with
 | none=>rfl
 | some o=>cases o<;>simp only [Option.map_some,encO,Jne ho hn]
theorem Jr3 (s:Dn.S Ty.T):s.pop.mo=s.mo:=by unfold Dn.S.pop;split<;>rfl
def act0:Act:={ tmps:=#[],defers:=[] }
theorem rep0 {w:World} {S:Nat→Prop} {h:Heap} {μ:Gh} (hp:RepH w S h μ):RepS 0 w S ⟨fun _=>.any,h⟩ μ act0:=⟨fun _=>.any _,hp,.nil,Nat.zero_le _⟩
theorem Jtn {lo:List (List (Nat×V Ty.T))} {ob:List (Nat×Ob Ty.T)} {ln:List (Nat×Nat×Ty.T I)} {mo:Option (Mo Ty.T)}:enc (⟨[],lo,ob,ln,mo⟩:Dn.S Ty.T)=⟨fun _=>.any,encH ⟨[],lo,ob,ln,mo⟩⟩:=rfl
theorem Jhv {P:Program} {nt:Nat} {ops:Array Oper} {o:Oper} {lo:LOper} (hc:comp P [] nt ops o=some lo):Jrm nt lo.dst=true:=by
 unfold comp at hc
 split at hc
 ·cases hc
 ·split at hc
  ·rename_i hd
   split at hc
   ·injection hc with hc;subst hc;exact hd
   ·split at hc
    ·split at hc
     ·injection hc with hc;subst hc;exact hd
     ·cases hc
    ·cases hc
  ·cases hc
theorem RepF.put {nt:Nat} {w:World} {S:Nat→Prop} {s:Dn.S Ty.T} {μ:Gh} {a:Act} {fs:List Fm} (h:RepF nt w S s μ a fs) {d:Option Nat} (hd:Jrm nt d=true) {v:V Ty.T} {cv:Value} (ok:okV s v) (hr:Rep w S (encH s) μ (encV s v) cv) :
  RepF nt w S (s.put d v) μ (a.put d cv) fs:=by
 have eh:=Zz s d v
 refine h.step (by cases d<;>rfl) ?_ (.put s d v) (h.iv.put ok d) (by rw [eh];exact .refl) (by rw [eh];exact .refl _ _)
 rw [Jih]
 exact Jfw h.fr hd hr h.fr.hp .refl (.refl _ _)
end
theorem to_in {ro:Option Nat} {P:Program} {nt:Nat} {cm:List (Nat×CM)} {ops:Array Oper} {o:Oper} {lo:LOper} {a:Act} {w:World} {K:Act→World→Prop} {Q:Exit→Act→World→Prop} (hc:comp P cm nt ops o=some lo)
  (h:if Region.wanted o (yielded ops a.tmps)=true then wpO ro P o a w K Q else K (a.put o.dst undef) w) :
  if Region.wanted o (yielded ops a.tmps)=true then o.wpIn (Fr ro) 0 P a w K Q else (∀f,o.about P w a.eval=some f→(Fr ro).fn f)∧K (a.put o.dst undef) w:=by
 by_cases hw:Region.wanted o (yielded ops a.tmps)=true
 ·rw [if_pos hw] at h ⊢
  exact Jc6 (Jgc hc) h
 ·rw [if_neg hw] at h ⊢
  exact ⟨fun _ _=>trivial,h⟩
theorem round_fr {ro:Option Nat} {n:Nat} {P:Program} {l:Nat} {f:FuncId} {tmps:Array Value} {x y:Code} {w:World} {R:Ending→World→Prop} (h:RoundIn Fence.wide n P l f tmps x y w R):RoundIn (Fr ro) n P l f tmps x y w R:=by
 cases ro with
 | none=>exact h
 | some l=>exact h
theorem Jfg {α:Type} {c:Prop} [Decidable c] {x:Option α} {y:α} (h:(if c then x else val.no)=some y):c∧x=some y:=by
 split at h
 ·exact ⟨by assumption,h⟩
 ·cases h
theorem nlv_some {n:Int} {α:Type} {k:Bool→Option α} {r:α} {b:Bool} (hb:b=true→n=0) (h:val.nq n k=some r):k b=some r:=by
 have h:nlv n k=some r:=h
 unfold nlv at h
 split at h
 ·split at h
  ·rename_i e
   cases b with
   | false=>exact h
   | true=>rw [e];exact h
  ·cases h
 ·rename_i hn
  cases b with
  | false=>exact h
  | true=>exact (hn (hb rfl)).elim
theorem sort_den {P:Program} {nt:Nat} {w:World} {S:Nat→Prop} {s:Dn.S Ty.T} {μ:Gh} {a:Act} {fs:List Fm} {c:SCt} (hx:Jar P c) (hF:RepF nt w S s μ a fs) {v:V Ty.T} {cv:Value} (hv:Rep w S (encH s) μ (encV s v) cv) {α:Type} {r:α} {k:Dn.S Ty.T→Option α}
  (hd:sortD val c s v k=some r) {R:Ending→World→Prop} (hR:∀w' s',RepF nt w' S s' μ a fs→Evo w S (encH s) μ w' S (encH s') μ→k s'=some r→R (.returned (.tuple #[])) w'):Calls P c.id (#[cv]++c.tl) w R:=by
 unfold sortD at hd
 split at hd
 ·rename_i g ver
  split at hd
  ·rename_i v' e el t l ho
   obtain ⟨⟨e1,e2,he0⟩,h2⟩:=Jfg hd
   subst e1
   subst e2
   obtain ⟨l2,hl2,h3⟩:=Jd h2
   obtain ⟨et,hl3⟩:=Kf hl2
   injection et with et
   subst et
   have hl4:l2=l:=hl3
   subst hl4
   have h4:Jas (c.fn l2) (fun l'=>k (s.obj g (.row v' c.t.sz el c.t l' [] none false)))=some r:=h3
   cases hq:c.fn l2 with
   | none=>rw [hq] at h4;cases h4
   | some l' =>
    rw [hq] at h4
    exact sort_row hx hF ho rfl he0 hq hv fun w' r1 r2=>hR w' _ r1 r2 h4
  ·cases hd
 ·have e:cv=.slice none 0 0:=Rep.nils_inv (h:=encH s) hv
  subst e
  refine (hx.nilq w).mono fun e w' ⟨e1,o⟩=>?_
  subst e1
  exact hR w' s (hF.old o) (Jag o) hd
 ·cases hd
theorem Jmy {ro:Option Nat} {P:Program} {nt:Nat} {ops:Array Oper} {call:Vv.Call} {base:Nat} {cx:Cx} {inl:Inl} {n:List Nat} {hs:List (Nat×Hd)} {Q:Exit→Act→World→Prop} (hC:Ql call cx.ct) (hcall:Xo P call) (hI:Job P hs inl) (hso:SoOK P cx) {α:Type} {r:α} {k:Dn.S Ty.T→Option α} {fs:List Fm} (hh:HsOK P hs fs) (hfs:FsOK fs) :
  ∀ {l:List Nat} {os:List Oper} {L:List (Nat×LOper)} {w:World} {S:Nat→Prop} {s:Dn.S Ty.T} {μ:Gh} {a:Act},Y8 P [] nt ops l=some L→l.map (fun i=>ops[i]?)=os.map some→RepF nt w S s μ a fs→Y1 val inl cx base n L s k=some r →
  (∀a' w' S' μ' s',RepF nt w' S' s' μ' a' fs→Evo w S (encH s) μ w' S' (encH s') μ'→k s'=some r→Q .normal a' w')→wpListIn (Fr ro) 0 P ops Q os a w
 | [],os,L,w,S,s,μ,a,hc,ho,h,hd,hQ=>by
  cases os with
  | cons o os=>simp at ho
  | nil =>
   injection hc with hc
   subst hc
   exact hQ _ _ _ _ _ h .refl hd
 | i::l,[],L,w,S,s,μ,a,hc,ho,h,hd,hQ=>by simp at ho
 | i::l,o::os,L,w,S,s,μ,a,hc,ho,h,hd,hQ=>by
  simp only [List.map_cons,List.cons.injEq] at ho
  obtain ⟨ho1,ho2⟩:=ho
  simp only [Y8,ho1] at hc
  cases hx:comp P [] nt ops o with
  | none=>rw [hx] at hc;cases hc
  | some lo =>
   cases hl:Y8 P [] nt ops l with
   | none=>rw [hx,hl] at hc;cases hc
   | some L' =>
    rw [hx,hl] at hc
    injection hc with hc
    subst hc
    refine wpListIn_step fun K hK=>to_in hx ?_
    have next:∀ {a1 w1 S1 μ1 s1},RepF nt w1 S1 s1 μ1 a1 fs→Evo w S (encH s) μ w1 S1 (encH s1) μ1→Y1 val inl cx base n L' s1 k=some r→K a1 w1:=fun r1 e1 d1 =>
     hK _ _ (Jmy hC hcall hI hso hh hfs hl ho2 r1 d1 fun a2 w2 S2 μ2 s2 q1 q2 q3=>hQ _ _ _ _ _ q1 (e1.trans q2) q3)
    simp only [Y1] at hd
    split at hd
    ·rcases Jm6 h.iv hd with ⟨s1,e1,on1,i1,hg,hd⟩|⟨s1,g,want,e1,on1,i1,hg,hv,hd⟩
     ·have h1:=h.alike e1 on1 i1
      have eh:encH s1=encH s:=congrArg St.h e1
      obtain ⟨wd,wn,ws⟩:=Jkd h1.fr hx
      have hw:Region.wanted o (yielded ops a.tmps)=true:=by
       cases hgd:lo.guard with
       | none=>exact wn hgd
       | some p =>
        obtain ⟨g,want⟩:=p
        have:=(ws g want hgd).1 want (by rw [e1];exact hg g want hgd)
        rw [this]
        cases want<;>rfl
      split at hd
      ·rename_i c v hf
       rw [if_pos hw]
       obtain ⟨cv,sg,hr,hrun⟩:=srt_of hso h1.fr hx i1 hf
       have fin:Calls P c.id (#[cv]++c.tl) w fun e w'=>∃cv,e=.returned cv∧K (a.put o.dst cv) w':=by
        refine sort_den sg h1 hr hd fun w' s2 r1 r2 r3=>⟨_,rfl,?_⟩
        rw [←wd]
        refine next (r1.put (Jhv hx) (v:=.tp []) (fun c hc=>(by cases hc)) (.pure (.tup [] #[] rfl fun i x h=>(by cases h)))) ?_ r3
        rw [Zz]
        rw [eh] at r2
        exact r2
       exact wp_enter hrun fin fun e w' he=>he
      split at hd
      ·rename_i f vs hf
       rw [if_pos hw]
       obtain ⟨okv,cargs,c1,c2,c3,c4⟩:=enter_of (cx:=cx) (w:=w) h1.fr hx i1 hf
       obtain ⟨fk,hcall'⟩:=hI hd
       have hps:RepF 0 w S (s1.push (Yj (Jal L' n)) []) μ act0 (⟨nt,a,none,w.heap.size⟩::fs):=h1.push (fun p hp=>by cases hp) (fun j r h=>by cases h) (by
        rw [Jtn]
        have:encH (⟨[],kept s1.sl (Yj (Jal L' n))::s1.lo,s1.ob,s1.ln,s1.mo⟩:Dn.S Ty.T)=encH s1:=Xb rfl rfl
        rw [this]
        exact rep0 h1.fr.hp) rfl
       have eh2:encH (s1.push (Yj (Jal L' n)) [])=encH s1:=Xb rfl rfl
       have hcs:=hcall' hps (hh.push _) (hfs.push (by intro j r h;cases h)) okv c1 (fun i x hx=>by
        rw [eh2,show encV (s1.push (Yj (Jal L' n)) []) x=encV s1 x from Jfp rfl rfl x]
        exact c2 i x hx) (R:=fun e w'=>∃cv,e=.returned cv∧K (a.put o.dst cv) w') rfl fun w' S' μ' v s' cv r1 r2 r3 r4 r5=>⟨cv,rfl,by
        rw [eh2,eh] at r4
        rw [←wd]
        refine next (r1.put (Jhv hx) r2 r3) ?_ r5
        rw [Zz]
        exact r4⟩
       cases hb:Ai yB f with
       | false=>exact wp_enter (c3 hb (fk hb)) (hcs.1 hb) fun e w' he=>he
       | true =>
        obtain ⟨j,e2,hrun⟩:=c4 hb
        obtain ⟨q,q1,q2,q3⟩:=hcs.2 j e2 rfl
        unfold wpO
        rw [hrun,run_yield q1 q2,Oper.uponIn_round]
        refine ⟨fun h=>(by cases h),(round_fr q3).mono fun e w' he=>?_⟩
        obtain ⟨cv,rfl,hk⟩:=he
        exact hk
      ·obtain ⟨op',s2,al,st,iv2,on2,hk⟩:=Jsw (call:=call) (o:=lo) (k:=fun _ s'=>Y1 val inl cx base n L' s' k) hC i1 (fun g want e=>by rw [e1];exact hg g want e) hd
       obtain ⟨cm,hcm⟩:=Jbt hx al
       refine Jin hcall h1.fr hcm st fun a' w' S' μ' r0 r1 r2 r3=>next (h1.step r0 r1 on2 iv2 r2 r3) ?_ hk
       rw [←eh];exact r2
     ·have h1:=h.alike e1 on1 i1
      have eh:encH s1=encH s:=congrArg St.h e1
      obtain ⟨op',s2,al,st,iv2,on2,hk⟩:=Jdo (call:=call) (base:=base) (o:=lo) (k:=fun _ s'=>Y1 val inl cx base n L' s' k) i1 hg (by rw [e1];exact hv) hd
      obtain ⟨cm,hcm⟩:=Jbt hx al
      refine Jin hcall h1.fr hcm st fun a' w' S' μ' r0 r1 r2 r3=>next (h1.step r0 r1 on2 iv2 r2 r3) ?_ hk
      rw [←eh];exact r2
    ·split at hd
     ·rename_i ne m hn hgd
      obtain ⟨wd,wn,ws⟩:=Jkd h.fr hx
      rw [if_pos (wn hgd)]
      obtain ⟨b0,hz,hwp⟩:=nil_of (P:=P) (ro:=ro) h.fr hx hn
      refine hwp ?_
      rw [←wd]
      refine next (h.put (Jhv hx) (v:=.c (.lf .bool (if ne=true then val.nt b0 else b0))) (Km (Jo _ rfl)) ?_) ?_ (nlv_some hz hd)
      ·cases ne<;>exact .pure (.bool _)
      ·rw [Zz]
       exact .refl
     ·exact step_den hC hcall h hx hd fun a' w' S' μ' s' op' r1 r2 r3=>next r1 r2 r3
end Go.Dn
namespace Go.Dn
open Go Go.Vv
set_option linter.unusedVariables false
set_option linter.unusedSimpArgs false
def Gh.lab (μ:Gh) (j x:Nat):Gh:=⟨μ.b,μ.o,upd μ.l j x⟩
section
variable {w:World} {S:Nat→Prop} {s:Dn.S Ty.T} {h:Heap} {μ:Gh} {j x:Nat}
theorem Jcf {c:C Ty.T} (hn:noYc j c=true) {v:Value} (hr:Rep w S h μ (encC s c) v):Rep w S h (Gh.lab μ j x) (encC s c) v:=by
 have fl:∀ {y:AV},y.flat=true→Rep w S h μ y v→Rep w S h (Gh.lab μ j x) y v:=fun hf hr=>.pure (hr.flat hf)
 have ar:∀ {g ver off len:Nat} {v:Value},Rep w S h μ (.arr g ver off len) v→Rep w S h (Gh.lab μ j x) (.arr g ver off len) v:=fun hr=>by
  cases hr with
  | pure hp=>exact .pure hp
  | arr _ _ _ _ _ o ho hv h1 hr=>exact .arr _ _ _ _ _ o ho hv h1 hr
 have pr:∀ {g ver off:Nat} {v:Value},Rep w S h μ (.ptr g ver off) v→Rep w S h (Gh.lab μ j x) (.ptr g ver off) v:=fun hr=>by
  cases hr with
  | pure hp=>exact .pure hp
  | ptr _ _ _ _ o ho hv h1 hr=>exact .ptr _ _ _ _ o ho hv h1 hr
 cases c with
 | any=>exact .any _
 | lf t y =>
  rcases Jha (Yc t y) with e|e
  ·simp only [encC];rw [e];exact .any _
  ·exact fl e hr
 | kb b=>exact fl rfl hr
 | k y=>exact fl hn hr
 | rp t y o=>exact fl rfl hr
 | own g ver=>exact ar hr
 | part g ver a b=>exact ar hr
 | ptr g ver o=>exact pr hr
 | pti g ver e i o=>exact pr hr
 | map g ver =>
  cases hr with
  | pure hp=>exact .pure hp
  | map _ _ _ o ho hv h1 hr=>exact .map _ _ _ o ho hv h1 hr
 | fn f l =>
  obtain ⟨cs,e,h1,h2⟩:=hr.fn_inv
  subst e
  refine .fn f _ cs h1 fun i y hy=>?_
  have:=h2 i y hy
  rw [Ac] at hy
  cases hq:l[i]? with
  | none=>rw [hq] at hy;cases hy
  | some p=>rw [hq] at hy;injection hy with hy;subst hy;exact pr this
 | yl i =>
  have:=hr.yld_inv
  subst this
  have hi:i≠j:=fun e=>by subst e;simp [noYc] at hn
  have:=Rep.yld (w:=w) (S:=S) (h:=h) (μ:=Gh.lab μ j x) i
  simp only [Gh.lab,Jb _ _ _ _ hi] at this
  exact this
theorem Jpf {v:V Ty.T} (hn:noYv j v=true) {cv:Value} (hr:Rep w S h μ (encV s v) cv):Rep w S h (Gh.lab μ j x) (encV s v) cv:=by
 cases v with
 | c y=>exact Jcf hn hr
 | ag l =>
  have hr:Rep w S h μ (.agg (l.map (encC s))) cv:=hr
  obtain ⟨cs,e,h1,h2⟩:=hr.agg_inv
  subst e
  refine .agg _ cs h1 (fun i y hy=>(h2 i y hy).2) fun i y hy=>?_
  have:=(h2 i y hy).1
  rw [Ac] at hy
  cases hq:l[i]? with
  | none=>rw [hq] at hy;cases hy
  | some p=>rw [hq] at hy;injection hy with hy;subst hy;exact Jcf (Aa.1 hn p (Ab hq)) this
 | tp l =>
  have hr:Rep w S h μ (.tup (l.map fun p=>if p.1 then .agg (p.2.map (encC s)) else Ks (p.2.map (encC s)))) cv:=hr
  obtain ⟨cs,e,h1,h2⟩:=hr.tup_inv
  subst e
  refine .tup _ cs h1 fun i y hy=>?_
  have hk:=h2 i y hy
  rw [Ac] at hy
  cases hq:l[i]? with
  | none=>rw [hq] at hy;cases hy
  | some p =>
   rw [hq] at hy
   injection hy with hy
   have hp:=Aa.1 hn p (Ab hq)
   subst hy
   obtain ⟨b,q⟩:=p
   cases b with
   | true =>
    have hk:Rep w S h μ (.agg (q.map (encC s))) _:=hk
    obtain ⟨cs',e,k1,k2⟩:=hk.agg_inv
    show Rep w S h (Gh.lab μ j x) (.agg (q.map (encC s))) _
    rw [e]
    refine .agg _ cs' k1 (fun i y hy=>(k2 i y hy).2) fun i y hy=>?_
    have:=(k2 i y hy).1
    rw [Ac] at hy
    cases hq:q[i]? with
    | none=>rw [hq] at hy;cases hy
    | some p=>rw [hq] at hy;injection hy with hy;subst hy;exact Jcf (Aa.1 hp p (Ab hq)) this
   | false =>
    have hk:Rep w S h μ (Ks (q.map (encC s))) _:=hk
    show Rep w S h (Gh.lab μ j x) (Ks (q.map (encC s))) _
    match q,hp,hk with
    | [],_,_=>exact .any _
    | [c],hp,hk=>exact Jcf (Aa.1 hp c (Af.2 rfl)) hk
    | _::_::_,_,_=>exact .any _
def AObj.cells:AObj→List AV
 | .box _ c=>c
 | .arr _ _ _ c _=>c
 | .map _ es _=>es.map (·.2)
theorem Jbc {x:AV} (h:x.flat=true):x.noNm=true:=by cases x<;>first|rfl|cases h
theorem Jge:∀ {l:List AV},l.all AV.flat=true→Jrf l=true
 | [],_=>rfl
 | x::l,h=>by
  rw [List.all_cons,Ah] at h
  show (x.noNm&&Jrf l)=true
  rw [Jbc h.1,Jge h.2]
  rfl
theorem avT_noNm (t:Ty) (x:t.T):(avT t x).noNm=true:=by
 unfold avT
 split
 ·exact Jge (Yc t x)
 ·rename_i h
  have ho:t.one=true:=by rw [Jbe] at h;simpa using h
  have:=Yc t x
  rw [Jg5 ho] at this
  exact Jbc (by simpa using this)
theorem Jrs (o:Ob Ty.T):∀y∈AObj.cells (encO s o),y.noNm=true∨∃c∈o.kids,y=encC s c:=by
 intro y hy
 cases o with
 | mp v kt vt es =>
  obtain ⟨p,hp,rfl⟩:=Ad.1 hy
  obtain ⟨e,-,rfl⟩:=Ad.1 hp
  exact .inl (avT_noNm vt e.2)
 | em v kt vt el=>cases hy
 | box v cs=>obtain ⟨c,hc,rfl⟩:=Ad.1 hy;exact .inr ⟨c,hc,rfl⟩
 | lit v e el cs z=>obtain ⟨c,hc,rfl⟩:=Ad.1 hy;exact .inr ⟨c,hc,rfl⟩
 | row v e el t l y' nest z =>
  rcases List.mem_append.1 hy with hy|hy
  ·cases nest with
   | none=>exact .inl (Jbc (Aa.1 (Ku t l) y hy))
   | some p =>
    rcases List.mem_or_eq_of_mem_set hy with hy|rfl
    ·exact .inl (Jbc (Aa.1 (Ku t l) y hy))
    ·exact .inr ⟨p.2,List.mem_append_left _ (Af.2 rfl),rfl⟩
  ·obtain ⟨c,hc,rfl⟩:=Ad.1 hy
   exact .inr ⟨c,List.mem_append_right _ hc,rfl⟩
theorem Jpg (hn:noYs j s=true):(∀p∈s.sl,noYv j p.2=true)∧(∀l∈s.lo,∀p∈l,noYv j p.2=true)∧∀p∈s.ob,∀c∈p.2.kids,noYc j c=true:=by
 unfold noYs at hn
 simp only [Ah] at hn
 exact ⟨fun p hp=>Aa.1 hn.1.1 p hp,fun l hl p hp=>Aa.1 (Aa.1 hn.1.2 l hl) p hp,fun p hp c hc=>Aa.1 (Aa.1 hn.2 p hp) c hc⟩
theorem repH_lab (hn:noYs j s=true) (hp:RepH w S (encH s) μ):RepH w S (encH s) (Gh.lab μ j x):=by
 refine ⟨fun g o ho=>?_,hp.inj,hp.own,hp.lt⟩
 have h1:=hp.ob g _ ho
 rcases Jbw ho with ⟨ob,hob,rfl⟩|⟨-,hmo⟩
 rotate_left
 ·obtain ⟨-,m,-,⟨-,rfl⟩|⟨-,-,e,-,rfl⟩⟩:=X7 hmo
  ·obtain ⟨es',clock,a1,a2,a3,a4⟩:=h1
   refine ⟨es',clock,a1,a2,a3,fun i k v hi=>?_⟩
   obtain ⟨e,b1,b2,b3⟩:=a4 i k v hi
   refine ⟨e,b1,b2,?_⟩
   obtain ⟨e',-,h2⟩:=Jig hi
   injection h2 with _ h2
   subst h2
   cases b3 with
   | pure hp=>exact .pure hp
   | arr _ _ _ _ _ o ho hv h1 hr=>exact .arr _ _ _ _ _ o ho hv h1 hr
  ·intro hne
   obtain ⟨cs,a1,a2,a3,a4⟩:=h1 hne
   exact ⟨cs,a1,a2,fun i y hy=>⟨.pure ((a3 i y hy).1.flat (Aa.1 (Ku _ _) y (Ab hy))),(a3 i y hy).2⟩,a4⟩
 have key:∀y∈AObj.cells (encO s ob),∀ {v:Value},Rep w S (encH s) μ y v→Rep w S (encH s) (Gh.lab μ j x) y v:=fun y hy v hr=>by
  rcases Jrs ob y hy with hf|⟨c,hc,rfl⟩
  ·exact .pure (hr.noNm hf)
  ·exact Jcf ((Jpg hn).2.2 _ (Ko hob) c hc) hr
 cases ho':encO s ob with
 | box v c =>
  rw [ho'] at h1 key
  obtain ⟨cs,el,a1,a2,a3⟩:=h1
  exact ⟨cs,el,a1,a2,fun i y hy=>⟨key y (Ab hy) (a3 i y hy).1,(a3 i y hy).2⟩⟩
 | arr v e t c z =>
  rw [ho'] at h1 key
  intro hne
  obtain ⟨cs,a1,a2,a3,a4⟩:=h1 hne
  exact ⟨cs,a1,a2,fun i y hy=>⟨key y (Ab hy) (a3 i y hy).1,(a3 i y hy).2⟩,a4⟩
 | map v es z =>
  rw [ho'] at h1 key
  obtain ⟨es',clock,a1,a2,a3,a4⟩:=h1
  refine ⟨es',clock,a1,a2,a3,fun i k v hi=>?_⟩
  obtain ⟨e,b1,b2,b3⟩:=a4 i k v hi
  exact ⟨e,b1,b2,key v (Ad.2 ⟨_,Ab hi,rfl⟩) b3⟩
theorem RepF.lab {nt:Nat} {a:Act} {fs:List Fm} (hF:RepF nt w S s μ a fs) (hn:noYs j s=true) (hj:∀p∈fs,∀i r,p.lo=some (i,r)→i≠j):RepF nt w S s (Gh.lab μ j x) a fs:=by
 obtain ⟨n1,n2,n3⟩:=Jpg hn
 refine ⟨⟨fun d=>?_,repH_lab hn hF.fr.hp,hF.fr.df,hF.fr.sz⟩,hF.len,fun i l b hl hb d v hv=>Jpf (n2 l (Ab hl) (d,v) (Ko hv)) (hF.lo i l b hl hb d v hv),hF.sz,hF.md,fun p hp i r hl=>?_,hF.iv⟩
 ·have:=hF.fr.fr d
  show Rep w S (encH s) _ (encV s (s.at d)) _
  refine Jpf ?_ this
  unfold Dn.S.at
  cases hd:look d s.sl with
  | none=>rfl
  | some v=>exact n1 (d,v) (Ko hd)
 ·have:=hF.lp p hp i r hl
  simp only [Gh.lab,Jb _ _ _ _ (hj p hp i r hl)]
  exact ⟨this.1,this.2.1,fun p' hp' i' q hq hne=>by rw [Jb _ _ _ _ (hj p' hp' i' q hq)];exact this.2.2 p' hp' i' q hq hne⟩
theorem evo_lab {w':World} {S':Nat→Prop} {h':Heap} {μ':Gh} (L:Nat→Nat) (ev:Evo w S h μ w' S' h' μ'):Evo w S h ⟨μ.b,μ.o,L⟩ w' S' h' ⟨μ'.b,μ'.o,L⟩ :=
 ⟨ev.os,ev.tape,ev.output,ev.size,ev.keep,ev.shape,ev.st,ev.st2,ev.ow,rfl⟩
theorem Jcm (ob:Obj):Evo w S h μ (w.alloc ob) S h μ :=
 ⟨rfl,rfl,⟨rfl,Ak _⟩,by simp,fun b hb _=>heap_alloc_old w ob b hb,fun b cs el z hc=>⟨cs,by rw [heap_alloc_old w ob b (Array.getElem?_eq_some_iff.1 hc).1];exact hc,rfl⟩,fun _ h=>h,fun _ h=>.inl h,fun _ h=>.inl h,rfl⟩
theorem repH_lay (hp:RepH w S h μ) (ob:Obj):RepH (w.alloc ob) S h μ :=
 ⟨fun g o ho=>(hp.ob g o ho).evo hp (Jcm ob) (.refl _ _) fun hl=>heap_alloc_old w ob _ ((hp.ob g o ho).lt hl),hp.inj,hp.own,fun b hb=>by have:=hp.lt b hb;simp;omega⟩
theorem RepF.lay {nt:Nat} {a:Act} {fs:List Fm} (hF:RepF nt w S s μ a fs) (ob:Obj):RepF nt (w.alloc ob) S s μ a fs :=
 hF.step rfl ⟨fun d=>(hF.fr.fr d).evo hF.fr.hp (Jcm ob) (.refl _ _),repH_lay hF.fr.hp ob,hF.fr.hp.marks hF.fr.df (Jcm (h:=encH s) (μ:=μ) (S:=S) ob),hF.fr.sz⟩ (.refl s) hF.iv (Jcm ob) (.refl _ _)
theorem Kv {l:Nat} {o:Obj} {b:Nat} (h:b≠l):(w.putObj l o).heap[b]?=w.heap[b]?:=World.putObj_heap_other h
theorem Jo2 {l:Nat} {o:Obj} (hS:¬S l) {y:AV} {v:Value} (hr:RepP w S y v):RepP (w.putObj l o) S y v:=hr.mono (fun _ h=>h) fun b hb=>Kv fun e=>hS (e▸hb)
theorem arrV_put {l:Nat} {o:Obj} {cells:List AV} {b k e off len:Nat} {v:Value} (hb:cells≠[]→b≠l) (ha:ArrV w cells b k e off len v):ArrV (w.putObj l o) cells b k e off len v :=
 ⟨ha.1,fun hne=>by
  obtain ⟨a,cap,cs,el,z,h1,h2,h3,h4,h5⟩:=ha.2 hne
  exact ⟨a,cap,cs,el,z,h1,h2,(Kv (hb hne)).trans h3,h4,h5⟩⟩
theorem Jay {l:Nat} {o:Obj} (hS:¬S l) (hl:∀g ob,h g=some ob→ob.live=true→μ.b g≠l) {y:AV} {v:Value} (hr:Rep w S h μ y v):Rep (w.putObj l o) S h μ y v:=by
 induction hr with
 | any v=>exact .any v
 | pure hp=>exact .pure (Jo2 hS hp)
 | fn f l cs hl hr ih=>exact .fn f l cs hl ih
 | agg l cs hl h1 hr ih=>exact .agg l cs hl h1 ih
 | tup l cs hl hr ih=>exact .tup l cs hl ih
 | arr g ver off len v ob ho hv h1 hr =>
  refine .arr g ver off len v ob ho hv h1 fun e=>?_
  obtain ⟨esz,el,cells,fz,eq,hk⟩:=hr e
  exact ⟨esz,el,cells,fz,eq,arrV_put (fun hne=>hl g ob ho (by rw [eq];exact J5.2 hne)) hk⟩
 | ptr g ver off v ob ho hv h1 hr=>exact .ptr g ver off v ob ho hv h1 hr
 | map g ver v ob ho hv h1 hr=>exact .map g ver v ob ho hv h1 hr
 | yld j=>exact .yld j
theorem Jqi {l:Nat} {o:Obj} (hS:¬S l) (hl:∀g ob,h g=some ob→ob.live=true→μ.b g≠l) (hp:RepH w S h μ):RepH (w.putObj l o) S h μ:=by
 refine ⟨fun g ob ho=>?_,hp.inj,hp.own,fun b hb=>by simpa using hp.lt b hb⟩
 have h1:=hp.ob g ob ho
 cases ob with
 | box v c =>
  obtain ⟨cs,el,a1,a2,a3⟩:=h1
  exact ⟨cs,el,(Kv (hl g _ ho rfl)).trans a1,a2,fun i y hy=>⟨Jay hS hl (a3 i y hy).1,(a3 i y hy).2⟩⟩
 | arr v e t c z =>
  intro hne
  obtain ⟨cs,a1,a2,a3,a4⟩:=h1 hne
  exact ⟨cs,(Kv (hl g _ ho (J5.2 hne))).trans a1,a2,fun i y hy=>⟨Jay hS hl (a3 i y hy).1,(a3 i y hy).2⟩,a4⟩
 | map v es z =>
  obtain ⟨es',clock,a1,a2,a3,a4⟩:=h1
  refine ⟨es',clock,(Kv (hl g _ ho rfl)).trans a1,a2,a3,fun i k v hi=>?_⟩
  obtain ⟨e,b1,b2,b3⟩:=a4 i k v hi
  exact ⟨e,b1,Jo2 hS b2,Jay hS hl b3⟩
theorem Jua (hp:RepH w S h μ) {l:Nat} {r:Loop} (hr:w.heap[l]?=some (.loop r)):∀g ob,h g=some ob→ob.live=true→μ.b g≠l:=by
 rintro g ob ho hl rfl
 have:=hp.ob g ob ho
 cases ob with
 | box v cells=>obtain ⟨cs,el,q,_⟩:=this;rw [hr] at q;cases q
 | arr v e t cells z=>obtain ⟨cs,q,_⟩:=this (J5.1 hl);rw [hr] at q;cases q
 | map v es z=>obtain ⟨es',clock,q,_⟩:=this;rw [hr] at q;cases q
theorem Jkr {l:Nat} {r:Loop} {o:Obj} (hr:w.heap[l]?=some (.loop r)) {ds:List Deferred} (hd:Marks w S ds):Marks (w.putObj l o) S ds:=⟨hd.1,fun d hm=>by
 obtain ⟨b,e,hb,hs⟩:=hd.2 d hm
 exact ⟨b,e,(Kv fun q=>by subst q;rw [hr] at hb;cases hb).trans hb,hs⟩⟩
theorem RepF.putL {nt:Nat} {a:Act} {fs:List Fm} (hF:RepF nt w S s μ a fs) {l:Nat} {r:Loop} (hr:w.heap[l]?=some (.loop r)) (hS:¬S l) (hfs:∀p∈fs,∀j q,p.lo=some (j,q)→μ.l j≠l) (o:Obj):RepF nt (w.putObj l o) S s μ a fs:=by
 have hl:=Jua hF.fr.hp hr
 exact ⟨⟨fun d=>Jay hS hl (hF.fr.fr d),Jqi hS hl hF.fr.hp,Jkr hr hF.fr.df,hF.fr.sz⟩,hF.len,fun i l' b h1 h2 d v hv=>Jay hS hl (hF.lo i l' b h1 h2 d v hv),fun p hp=>⟨Jkr hr (hF.sz p hp).1,(hF.sz p hp).2.1,by simpa using (hF.sz p hp).2.2⟩,hF.md,
  fun p hp j q hj=>⟨(Kv (hfs p hp j q hj)).trans (hF.lp p hp j q hj).1,(hF.lp p hp j q hj).2.1,(hF.lp p hp j q hj).2.2⟩,hF.iv⟩
end
end Go.Dn
