/- Regions in plain Lean: valid ones, their cells. Conditions: none. -/
import Derived.Test.YtmfagdfkpjgeiaaGreatXD
set_option linter.unusedVariables false
set_option linter.unusedSimpArgs false
set_option maxRecDepth 100000
open List renaming getElem?_eq_getElem → Aa, mem_of_getElem? → Ab, mem_singleton → Ac, getElem?_eq_some_iff → Ad, mem_append → Ae, mem_iff_getElem? → Af, pairwise_append → Ag, mem_append_left → Ah, length_append → Ai, mem_of_find?_eq_some → Aj, pairwise_singleton → Ak, pairwise_cons → Al, getElem?_eq_none → Ao, mem_cons → Ap, pairwise_iff_getElem → Aq, length_cons → Ar, length_nil → Au, find?_eq_none → Av, mem_flatMap → Aw, pairwise_flatMap → Ax, concat_eq_append → Ay
open Bool renaming not_eq_true' → Am
open Nat renaming le_refl → As
open Prod.mk renaming injEq → Az
namespace Go.Dn
abbrev Run:=Int×Int
abbrev Row:=Int×List Run
abbrev Reg:=List Row
abbrev Cell:=Int×Int
abbrev Kj:=Int×(Bool×List Cell)
structure RunsOK (lo hi:Int) (l:List Run):Prop where
 bd:∀x∈l,lo<=x.1/\x.1<x.2/\x.2<=hi
 pw:l.Pairwise λa b=>a.2<b.1
structure RegOK (r:Reg):Prop where
 y:∀w∈r,-4096<=w.1/\w.1<4096
 pw:r.Pairwise λa b=>a.1<b.1
 ne:∀w∈r,w.2≠[]
 rs:∀w∈r,RunsOK (-4096) 4096 w.2
def Jt(l:List Run)(x:Int):Prop:=∃u∈l,u.1<=x/\x<u.2
def Xi(r:Reg)(c:Cell):Prop:=∃w∈r,w.1=c.2/\Jt w.2 c.1
def Qq(y:Int)(u:Run):List Cell:=(rng u.1 (u.2 - u.1).toNat).map λx=>(x,y)
def rowC(w:Row):List Cell:=w.2.flatMap (Qq w.1)
def J7(r:Reg):List Cell:=r.flatMap rowC
def yx(a b:Cell):Prop:=a.2<b.2\/(a.2=b.2/\a.1<b.1)
theorem Jh2{y:Int}{u:Run}{c:Cell}:c∈Qq y u↔c.2=y/\u.1<=c.1/\c.1<u.2:=by
 simp only [Qq,List.mem_map,Jy2];constructor
 ·rintro ⟨x,hx,rfl⟩;exact ⟨rfl,by omega,by omega⟩
 ·rintro ⟨rfl,d,a⟩;exact ⟨c.1,by omega,rfl⟩
theorem Jri{w:Row}{c:Cell}:c∈rowC w↔c.2=w.1/\Jt w.2 c.1:=by
 simp only [rowC,Aw,Jh2,Jt];constructor
 ·rintro ⟨u,a,e,d⟩;exact ⟨e,u,a,d⟩
 ·rintro ⟨e,u,a,d⟩;exact ⟨u,a,e,d⟩
theorem Jaq{r:Reg}{c:Cell}:c∈J7 r↔Xi r c:=by
 simp only [J7,Aw,Jri,Xi];constructor
 ·rintro ⟨w,a,e,d⟩;exact ⟨w,a,e.symm,d⟩
 ·rintro ⟨w,a,e,d⟩;exact ⟨w,a,e.symm,d⟩
theorem RegOK.bd{r:Reg}(h:RegOK r){c:Cell}(f:Xi r c):-4096<=c.1/\c.1<4096/\-4096<=c.2/\c.2<4096:=by obtain ⟨w,a,e,u,d,l,g⟩:=f;have:=(h.rs w a).bd u d;have:=h.y w a;omega
theorem line_pw(y:Int)(u:Run):(Qq y u).Pairwise yx:=by refine List.pairwise_map.2 ((rng_pw _ _).imp λh=>.inr ⟨rfl,h⟩)
theorem row_pw{lo f:Int}{w:Row}(h:RunsOK lo f w.2):(rowC w).Pairwise yx:=by refine Ax.2 ⟨λu _=>line_pw _ _,h.pw.imp λ{a b} g c e d hd=>?_⟩;have e:=Jh2.1 e;have hd:=Jh2.1 hd;exact .inr ⟨by omega,by omega⟩
theorem RegOK.cells_pw{r:Reg}(h:RegOK r):(J7 r).Pairwise yx:=by refine Ax.2 ⟨λw f=>row_pw (h.rs w f),h.pw.imp λ{a b} g c e d hd=>?_⟩;have e:=Jri.1 e;have hd:=Jri.1 hd;exact .inl (by omega)
theorem Jqu(a:Cell):¬yx a a:=by unfold yx;omega
theorem pw_adj{α:Type}{R:α->α->Prop}(tr:∀a b c,R a b->R b c->R a c){l:List α}(h:∀i a b,l[i]?=some a->l[i+1]?=some b->R a b):l.Pairwise R:=by
 induction l with
 | nil=>exact .nil
 | cons x l f=>
  have ih':=f λi a b m g=>h (i+1) a b (by simpa using m) (by simpa using g);refine Al.2 ⟨λy d=>?_,ih'⟩;cases l with
  | nil=>cases d
  | cons z l=>
   have e:R x z:=h 0 x z rfl rfl;rcases Ap.1 d with rfl|d
   ·exact e
   ·exact tr _ _ _ e ((Al.1 ih').1 y d)
theorem Jyo{α:Type}{R:α->α->Prop}{l:List α}(h:l.Pairwise R){i:Nat}{a b:α}(g:l[i]?=some a)(f:l[i+1]?=some b):R a b:=by have o:=(Ad.1 g);have m:=(Ad.1 f);obtain ⟨e,v⟩:=o;obtain ⟨d,r⟩:=m;have:=Aq.1 h i (i+1) e d (by omega);rwa [v,r] at this
theorem Jtw{l:List Run}(r:l.Pairwise λa b=>a.2<b.1){u v:Run}(g:u∈l)(o:v∈l):u=v\/u.2<v.1\/v.2<u.1:=by
 induction l with
 | nil=>cases g
 | cons x l m=>
  obtain ⟨f,h⟩:=Al.1 r;rcases Ap.1 g with rfl|e<;>rcases Ap.1 o with rfl|d
  ·exact .inl rfl
  ·exact .inr (.inl (f _ d))
  ·exact .inr (.inr (f _ e))
  ·exact m h e d
theorem RunsOK.left{lo o:Int}{l:List Run}(h:RunsOK lo o l){u:Run}(f:u∈l):¬Jt l (u.1 - 1):=by
 rintro ⟨v,d,w,r⟩;have m:=h.bd u f;have g:=h.bd v d;have a:=h.pw;rcases Jtw a f d with e|e|e
 ·subst e;omega
 ·omega
 ·omega
theorem RunsOK.right{lo m:Int}{l:List Run}(h:RunsOK lo m l){u:Run}(d:u∈l):¬Jt l u.2:=by
 rintro ⟨v,a,r,o⟩;have g:=h.bd u d;have f:=h.bd v a;rcases Jtw h.pw d a with e|e|e
 ·subst e;omega
 ·omega
 ·omega
theorem RegOK.row_uniq{r:Reg}(h:RegOK r){w v:Row}(g:w∈r)(y:v∈r)(e:w.1=v.1):w=v:=by
 have A:=h.pw;clear h
 induction r with
 | nil=>cases g
 | cons x l o=>
  obtain ⟨f,m⟩:=Al.1 A;rcases Ap.1 g with rfl|a<;>rcases Ap.1 y with rfl|d
  ·rfl
  ·have:=f _ d;omega
  ·have:=f _ a;omega
  ·exact o a d m
theorem RegOK.in_row{r:Reg}(h:RegOK r){w:Row}(a:w∈r)(x:Int):Xi r (x,w.1)↔Jt w.2 x:=by
 constructor
 ·rintro ⟨v,d,e,hx⟩;rw [h.row_uniq a d e.symm];exact hx
 ·exact λhx=>⟨w,a,rfl,hx⟩
theorem Jez{lo e:Int}{l:List Run}{u:Run}:RunsOK lo e (l++[u])↔RunsOK lo e l/\(lo<=u.1/\u.1<u.2/\u.2<=e)/\∀v∈l,v.2<u.1:=by
 constructor
 ·rintro ⟨a,f⟩;obtain ⟨m,A,g⟩:=Ag.1 f;exact ⟨⟨λx hx=>a x (Ah _ hx),m⟩,a u (by simp),λv d=>g v d u (by simp)⟩
 ·rintro ⟨⟨a,f⟩,y,r⟩;refine ⟨λx hx=>?_,Ag.2 ⟨f,Ak _ _,λv d w o=>?_⟩⟩
  ·rcases Ae.1 hx with h|h
   ·exact a x h
   ·rw [Ac.1 h];exact y
  ·rw [Ac.1 o];exact r v d
theorem Xz{l:List Run}{u:Run}{x:Int}:Jt (l++[u]) x↔Jt l x\/(u.1<=x/\x<u.2):=by
 unfold Jt;constructor
 ·rintro ⟨v,a,h⟩;rcases Ae.1 a with q|q
  ·exact .inl ⟨v,q,h⟩
  ·rw [Ac.1 q] at h;exact .inr h
 ·rintro (⟨v,a,h⟩|h)
  ·exact ⟨v,Ah _ a,h⟩
  ·exact ⟨u,by simp,h⟩
theorem Jbn{l:Reg}{w:Row}:RegOK (l++[w])↔RegOK l/\(-4096<=w.1/\w.1<4096)/\w.2≠[]/\RunsOK (-4096) 4096 w.2/\∀v∈l,v.1<w.1:=by
 constructor
 ·rintro ⟨g,r,f,e⟩;obtain ⟨A,B,y⟩:=Ag.1 r;exact ⟨⟨λx hx=>g x (Ah _ hx),A,λx hx=>f x (Ah _ hx),λx hx=>e x (Ah _ hx)⟩,g w (by simp),f w (by simp),e w (by simp),λv o=>y v o w (by simp)⟩
 ·rintro ⟨⟨g,r,f,e⟩,a,b,c,d⟩;have key:∀ {P:Row->Prop},(∀x∈l,P x)->P w->∀x∈l++[w],P x:=λhl m x hx=>by
   rcases Ae.1 hx with h|h
   ·exact hl x h
   ·rw [Ac.1 h];exact m
  exact ⟨key g a,Ag.2 ⟨r,Ak _ _,λv o w' m=>by rw [Ac.1 m];exact d v o⟩,key f b,key e c⟩
theorem Zl{l:Reg}{w:Row}{c:Cell}:Xi (l++[w]) c↔Xi l c\/(w.1=c.2/\Jt w.2 c.1):=by
 unfold Xi;constructor
 ·rintro ⟨v,a,h⟩;rcases Ae.1 a with q|q
  ·exact .inl ⟨v,q,h⟩
  ·rw [Ac.1 q] at h;exact .inr h
 ·rintro (⟨v,a,h⟩|h)
  ·exact ⟨v,Ah _ a,h⟩
  ·exact ⟨w,by simp,h⟩
end Go.Dn
namespace Go.Proofs.YtmfagdfkpjgeiaaGreat
open Go Go.Vv Go.Dn Go.Dn.W
theorem Jqg(x:Int):@Jcg wv x=some (decide (-4096<=x/\x<4096)):=by simp only [Jcg,w_br,Je1,Jg6,decide_eq_true_eq];split<;>simp<;>omega
theorem Jal{α:Type}(x:Int)(k:Bool->Option α):@W.call wv α Kd x k=k (decide (-4096<=x/\x<4096)):=ca_s (c:=Kd) (Jqg x)
theorem Jo5(x:Int×Int):@Jb9 wv x=some (decide (-1048576<=x.1/\x.1<=1048576/\-1048576<=x.2/\x.2<=1048576)):=by
 simp only [Jb9,w_br,Je1,Jgn,decide_eq_true_eq]
 (repeat' split)<;>first|exact congrArg some (decide_eq_decide.2 (by omega))|exact congrArg some (decide_eq_false (by omega)).symm
theorem Jiu{α:Type}(x:Int×Int)(k:Bool->Option α):@W.call wv α Xv x k=k (decide (-1048576<=x.1/\x.1<=1048576/\-1048576<=x.2/\x.2<=1048576)):=ca_s (c:=Xv) (Jo5 x)
def Jb3(lo a:Int)(l:List Run)(i:Nat):Prop:=∀x,l[i]?=some x->lo<=x.1/\x.1<x.2/\x.2<=a/\∀p,0<i->l[i - 1]?=some p->p.2<x.1
theorem Jdq(lo d:Int)(l:List Run):(∀i,i<l.length->Jb3 lo d l i)↔RunsOK lo d l:=by
 constructor
 ·intro h;have key:∀(i:Nat) (x:Run),l[i]?=some x->lo<=x.1/\x.1<x.2/\x.2<=d/\∀p,0<i->l[i - 1]?=some p->p.2<x.1:=λi x hx=>h i (Ad.1 hx).1 x hx;refine ⟨λx hx=>?_,?_⟩
  ·obtain ⟨i,d⟩:=Af.1 hx;have:=key i x d;omega
  ·have g:(l.Pairwise λa b=>(a.1<a.2/\b.1<b.2/\a.2<b.1)):=pw_adj (λa b c m f=>by omega) λi a b o e=>by have m:=key i a o;have f:=key (i+1) b e;have v:=f.2.2.2 a (by omega) (by simpa using o);omega
   exact g.imp λh=>h.2.2
 ·rintro ⟨m,f⟩ i d x hx;have e:=m x (Ab hx);refine ⟨e.1,e.2.1,e.2.2,λp r g=>?_⟩;exact Jyo f g (by rwa [Nat.sub_add_cancel r])
open Classical in
theorem Joh(l:List Run)(hl:l.length<=1000000000):@Jc7 wv l=some (decide (RunsOK (-1048576) 1048576 l)):=by
 have g:=Je8 (b:=@Yh wv) (bad:=.inl ()) (fin:=.inr ()) (λi=>⟨l,l,(l.length:Int),(i:Int),()⟩) l.length (by omega) (Jb3 (-1048576) 1048576 l) (λi w _=>by
  have hx:=Aa w;have y:@Yh wv ⟨l,l,(l.length:Int),(i:Int),()⟩=if Jb3 (-1048576) 1048576 l i then some (.go ⟨l,l,(l.length:Int),((i+1:Nat):Int),()⟩) else some (.out (.inl ())):=by
   unfold Yh;dsimp only;rw [Qz (by omega),ge_s (fg hx)];simp only [w_br,Je1,Jar,Jgn,Kz,w_nt,Jiu,decide_eq_true_eq,Am,decide_eq_false_iff_not];rw [wr (by omega) (by omega)];by_cases v:0<i
   ·have o:=Aa (l:=l) (i:=i - 1) (by omega);rw [ge_s (fgz (i - 1) (by rw [Zo,wr (by omega) (by omega)];omega) o)];have r:Jb3 (-1048576) 1048576 l i↔-1048576<=l[i].1/\l[i].1<l[i].2/\l[i].2<=1048576/\(l[i - 1]'(by omega)).2<l[i].1:=by
     constructor
     ·intro h;have:=h _ hx;exact ⟨this.1,this.2.1,this.2.2.1,this.2.2.2 _ v o⟩
     ·rintro ⟨a,b,c,d⟩ x f;rw [hx] at f;injection f with e;subst e;exact ⟨a,b,c,λp _ m=>by rw [o] at m;injection m with e;subst e;exact d⟩
    simp only [r]
    (repeat' split)<;>first|rfl|omega
   ·have r:Jb3 (-1048576) 1048576 l i↔-1048576<=l[i].1/\l[i].1<l[i].2/\l[i].2<=1048576:=by
     constructor
     ·intro h;have:=h _ hx;exact ⟨this.1,this.2.1,this.2.2.1⟩
     ·rintro ⟨a,b,c⟩ x f;rw [hx] at f;injection f with e;subst e;exact ⟨a,b,c,λp h=>(v h).elim⟩
    simp only [r]
    (repeat' split)<;>first|rfl|omega
  rw [y];exact ⟨λh=>if_pos h,λh=>if_neg h⟩) (λ_=>by unfold Yh;dsimp only;rw [Kb (by omega)])
 refine (lo_s g).trans ?_;by_cases h:RunsOK (-1048576) 1048576 l
 ·rw [if_pos ((Jdq _ _ _).2 h),decide_eq_true h]
 ·rw [if_neg λq=>h ((Jdq _ _ _).1 q),decide_eq_false h]
open Classical in
theorem zj{α:Type}{l:List Run}(hl:l.length<=1000000000)(k:Bool->Option α):@W.call wv α Jy l k=k (decide (RunsOK (-1048576) 1048576 l)):=ca_s (c:=Jy) (Joh l hl)
def LimR(r:Reg):Prop:=r.length<=1000000000/\∀w∈r,w.2.length<=1000000000
theorem Jvq{lo e:Int}{l:List Run}(h:RunsOK lo e l){x0:Run}(d:l[0]?=some x0):∀x∈l,x0.1<=x.1:=by
 cases l with
 | nil=>simp at d
 | cons y l=>
  simp only [List.getElem?_cons_zero,Option.some.injEq] at d;subst d;intro x hx;rcases Ap.1 hx with rfl|a
  ·omega
  ·have:=(Al.1 h.pw).1 x a;have:=h.bd y (List.mem_cons_self ..);omega
theorem Jxi{lo d:Int}{l:List Run}(h:RunsOK lo d l){x1:Run}(a:l[l.length - 1]?=some x1):∀x∈l,x.2<=x1.2:=by
 intro x hx;have m:=Ab a;obtain ⟨i,d⟩:=Af.1 hx;obtain ⟨g,r⟩:=Ad.1 d;obtain ⟨f,o⟩:=Ad.1 a;have v:=h.bd x1 m;by_cases e:i=l.length - 1
 ·subst e;rw [d] at a;injection a with a;subst a;omega
 ·have:=Aq.1 h.pw i (l.length - 1) g f (by omega);rw [r,o] at this;omega
def Jb5(r:Reg)(i:Nat):Prop:=∀w,r[i]?=some w->-4096<=w.1/\w.1<4096/\w.2≠[]/\RunsOK (-4096) 4096 w.2/\∀p,0<i->r[i - 1]?=some p->p.1<w.1
theorem Jfs(r:Reg):(∀i,i<r.length->Jb5 r i)↔RegOK r:=by
 constructor
 ·intro h;have key:∀(i:Nat) (w:Row),r[i]?=some w->-4096<=w.1/\w.1<4096/\w.2≠[]/\RunsOK (-4096) 4096 w.2/\∀p,0<i->r[i - 1]?=some p->p.1<w.1:=λi x hx=>h i (Ad.1 hx).1 x hx;have km:∀w∈r,-4096<=w.1/\w.1<4096/\w.2≠[]/\RunsOK (-4096) 4096 w.2:=λw d=>by obtain ⟨i,f⟩:=Af.1 d;have:=key i w f;exact ⟨this.1,this.2.1,this.2.2.1,this.2.2.2.1⟩
  exact ⟨λw d=>⟨(km w d).1,(km w d).2.1⟩,pw_adj (λa b c y v=>by omega) λi a b m l=>(key (i+1) b l).2.2.2.2 a (by omega) (by simpa using m),λw d=>(km w d).2.2.1,λw d=>(km w d).2.2.2⟩
 ·intro h i f w d;have e:=Ab d;exact ⟨(h.y w e).1,(h.y w e).2,h.ne w e,h.rs w e,λp o g=>Jyo h.pw g (by rwa [Nat.sub_add_cancel o])⟩
theorem Jp5{l:List Run}{x0 x1:Run}(e:l[0]?=some x0)(d:l[l.length - 1]?=some x1):RunsOK (-4096) 4096 l↔RunsOK (-1048576) 1048576 l/\(-4096<=x0.1/\x0.1<4096)/\(-4096<=x1.2 - 1/\x1.2 - 1<4096):=by
 constructor
 ·intro h;have a:=h.bd x0 (Ab e);have b:=h.bd x1 (Ab d);exact ⟨⟨λx hx=>by have:=h.bd x hx;omega,h.pw⟩,by omega,by omega⟩
 ·rintro ⟨h,a,b⟩;exact ⟨λx hx=>by have g:=Jvq h e x hx;have f:=Jxi h d x hx;have:=h.bd x hx;omega,h.pw⟩
open Classical in
theorem Jiq(r:Reg)(hl:LimR r):@j9 wv r=some (decide (RegOK r)):=by
 have g:=Je8 (b:=@Xo wv) (bad:=.inl ()) (fin:=.inr ()) (λi=>⟨r,(r.length:Int),(i:Int),r,()⟩) r.length (by have:=hl.1;omega) (Jb5 r) (λi M _=>by
  have hx:=Aa M;have hL:=hl.1;have O:@Xo wv ⟨r,(r.length:Int),(i:Int),r,()⟩=if Jb5 r i then some (.go ⟨r,(r.length:Int),((i+1:Nat):Int),r,()⟩) else some (.out (.inl ())):=by
   generalize P:r[i]=w at hx;have y:=Ab hx;have hLw:=hl.2 w y;unfold Xo;dsimp only;rw [Qz (by omega),ge_s (fg hx)];have tail:letI:W:=wv;∀X:Option (Nx _ (Unit ⊕ Unit)),(br (cm .eql (ln w.2) 0) (some (.out (.inl ()))) (call Jy (w.2:(List (Int×Int))) λ(v3:Bool)=>br (nt v3) (some (.out (.inl ()))) (ge w.2 0 λv4=>call Kd (v4.1:Int) λ(v5:Bool)=>br (nt v5) (some (.out (.inl ())))
     (ge w.2 (ar .sub .i64 (ln w.2) 1) λH=>call Kd ((ar .sub .i64 H.2 1):Int) λ(G:Bool)=>br (nt G) (some (.out (.inl ()))) X))):Option (Nx (HP (List (Int×(List (Int×Int)))) (HP Int (HP Int (HP (List (Int×(List (Int×Int)))) Unit)))) (Unit ⊕ Unit)))=if w.2≠[]/\RunsOK (-4096) 4096 w.2 then X else some (.out (.inl ())):=by
    intro X;cases L:w.2 with
    | nil=>rfl
    | cons u l=>
     rw [L] at hLw;have B:(u::l)[0]?=some u:=rfl;have o:(u::l)[(u::l).length - 1]?=some ((u::l)[(u::l).length - 1]'(by simp)):=Aa _;generalize ((u::l)[(u::l).length - 1]'(by simp))=x1 at o;have E:(0:Int)<((u::l).length:Int):=by simp only [Ar];omega
     rw [br_f (by simp only [Yf,w_ln,beq_eq_false_iff_ne];omega),zj hLw];by_cases hV:RunsOK (-1048576) 1048576 (u::l)
     ·have K:=hV.bd x1 (Ab o);rw [br_f (by simp [w_nt,hV]),ge_s (fg0 B),Jal,ge_s (fgz ((u::l).length - 1) (by rw [Zo,w_ln,wr (by omega) (by omega)];omega) o),Jal,Zo,wr (by omega) (by omega)];have N:=Jp5 B o;simp only [ne_eq,reduceCtorEq,not_false_iff,true_and,N,w_br,w_nt,Am,decide_eq_false_iff_not,hV]
      (repeat' split)<;>first|rfl|omega
     ·rw [br_t (by simp [w_nt,hV]),if_neg];rintro ⟨-,h⟩;exact hV ((Jp5 B o).1 h).1
   rw [tail];simp only [Jal,w_br,Jar,Jgn,w_nt,Kz,decide_eq_true_eq,Am,decide_eq_false_iff_not];rw [wr (by omega) (by omega)];by_cases F:0<i
   ·have v:=Aa (l:=r) (i:=i - 1) (by omega);generalize r[i - 1]=p at v;rw [ge_s (fgz (i - 1) (by rw [Zo,wr (by omega) (by omega)];omega) v)];have A:Jb5 r i↔(-4096<=w.1/\w.1<4096)/\(w.2≠[]/\RunsOK (-4096) 4096 w.2)/\p.1<w.1:=by
     constructor
     ·intro h;have:=h _ hx;exact ⟨⟨this.1,this.2.1⟩,⟨this.2.2.1,this.2.2.2.1⟩,this.2.2.2.2 _ F v⟩
     ·rintro ⟨⟨a,b⟩,⟨c,d⟩,e⟩ x f;rw [hx] at f;injection f with q;subst q;exact ⟨a,b,c,d,λJ _ m=>by rw [v] at m;injection m with q;subst q;exact e⟩
    simp only [A];by_cases hT:w.2≠[]/\RunsOK (-4096) 4096 w.2
    ·simp only [hT,and_self,true_and,if_true,ne_eq,not_false_iff]
     (repeat' split)<;>first|rfl|omega
    ·simp only [hT,false_and,and_false,if_false]
     (repeat' split)<;>first|rfl|omega
   ·have A:Jb5 r i↔(-4096<=w.1/\w.1<4096)/\(w.2≠[]/\RunsOK (-4096) 4096 w.2):=by
     constructor
     ·intro h;have:=h _ hx;exact ⟨⟨this.1,this.2.1⟩,this.2.2.1,this.2.2.2.1⟩
     ·rintro ⟨⟨a,b⟩,c,d⟩ x f;rw [hx] at f;injection f with q;subst q;exact ⟨a,b,c,d,λJ h=>(F h).elim⟩
    simp only [A];by_cases hT:w.2≠[]/\RunsOK (-4096) 4096 w.2
    ·simp only [hT,and_self,and_true,if_true,ne_eq,not_false_iff]
     (repeat' split)<;>first|rfl|omega
    ·simp only [hT,and_false,if_false]
     (repeat' split)<;>first|rfl|omega
  rw [O];exact ⟨λh=>if_pos h,λh=>if_neg h⟩) (λ_=>by unfold Xo;dsimp only;rw [Kb (by omega)])
 unfold j9;refine (lo_s g).trans ?_;by_cases h:RegOK r
 ·rw [if_pos ((Jfs _).2 h),decide_eq_true h]
 ·rw [if_neg λq=>h ((Jfs _).1 q),decide_eq_false h]
open Classical in
theorem X5{α:Type}{r:Reg}(hl:LimR r)(k:Bool->Option α):@W.call wv α Jg r k=k (decide (RegOK r)):=ca_s (c:=Jg) (Jiq r hl)
open Classical in
theorem fine_ok(l:List Run)(hl:l.length<=1000000000):@Xh wv l=some (decide (l≠[]/\RunsOK (-4096) 4096 l)):=by
 have g:=Je8 (b:=@Kq wv) (bad:=.inl ()) (fin:=.inr ⟨l,()⟩) (λi=>⟨l,(i:Int),()⟩) l.length (by omega) (Jb3 (-4096) 4096 l) (λi w _=>by
  have hx:=Aa w;have y:@Kq wv ⟨l,(i:Int),()⟩=if Jb3 (-4096) 4096 l i then some (.go ⟨l,((i+1:Nat):Int),()⟩) else some (.out (.inl ())):=by
   generalize A:l[i]=u at hx;unfold Kq;dsimp only;simp only [ge_s (fg hx)];rw [w_ln,Qz (by omega)];simp only [w_br,Je1,Jar,Jgn,Jg6,Kz,decide_eq_true_eq];rw [wr (by omega) (by omega)];by_cases v:0<i
   ·have o:=Aa (l:=l) (i:=i - 1) (by omega);generalize l[i - 1]=p at o;rw [ge_s (fgz (i - 1) (by rw [Zo,wr (by omega) (by omega)];omega) o)];have r:Jb3 (-4096) 4096 l i↔-4096<=u.1/\u.1<u.2/\u.2<=4096/\p.2<u.1:=by
     constructor
     ·intro h;have:=h _ hx;exact ⟨this.1,this.2.1,this.2.2.1,this.2.2.2 _ v o⟩
     ·rintro ⟨a,b,c,d⟩ x f;rw [hx] at f;injection f with e;subst e;exact ⟨a,b,c,λp _ m=>by rw [o] at m;injection m with e;subst e;exact d⟩
    simp only [r]
    (repeat' split)<;>first|rfl|omega
   ·have r:Jb3 (-4096) 4096 l i↔-4096<=u.1/\u.1<u.2/\u.2<=4096:=by
     constructor
     ·intro h;have:=h _ hx;exact ⟨this.1,this.2.1,this.2.2.1⟩
     ·rintro ⟨a,b,c⟩ x f;rw [hx] at f;injection f with e;subst e;exact ⟨a,b,c,λp h=>(v h).elim⟩
    simp only [r]
    (repeat' split)<;>first|rfl|omega
  rw [y];exact ⟨λh=>if_pos h,λh=>if_neg h⟩) (λ_=>by unfold Kq;dsimp only;rw [w_ln,Kb (by omega)])
 unfold Xh;refine (lo_s g).trans ?_;by_cases h:RunsOK (-4096) 4096 l
 ·rw [if_pos ((Jdq _ _ _).2 h)];show some (decide ((l.length:Int) > 0))=_
  congr 1
  rw [decide_eq_decide];cases l<;>simp [h]
 ·rw [if_neg λq=>h ((Jdq _ _ _).1 q),decide_eq_false λq=>h q.2]
open Classical in
theorem k_fine{α:Type}{l:List Run}(hl:l.length<=1000000000)(k:Bool->Option α):@W.call wv α Kc l k=k (decide (l≠[]/\RunsOK (-4096) 4096 l)):=ca_s (c:=Kc) (fine_ok l hl)
open Classical in
theorem Jqp(r:Reg)(hl:LimR r):@Q8 wv r=some (decide (RegOK r)):=by
 have g:=Je8 (b:=@Kk wv) (bad:=.inl ()) (fin:=.inr ()) (λi=>⟨(i:Int),r,()⟩) r.length (by have:=hl.1;omega) (Jb5 r) (λi B _=>by
  have hx:=Aa B;have hL:=hl.1;have E:@Kk wv ⟨(i:Int),r,()⟩=if Jb5 r i then some (.go ⟨((i+1:Nat):Int),r,()⟩) else some (.out (.inl ())):=by
   generalize F:r[i]=w at hx;have hLw:=hl.2 w (Ab hx);unfold Kk;dsimp only;simp only [ge_s (fg hx)];rw [w_ln,Qz (by omega)];simp only [w_br,Je1,Jar,Jgn,Jg6,Kz,w_nt,k_fine hLw,decide_eq_true_eq,Am,decide_eq_false_iff_not];rw [wr (by omega) (by omega)];by_cases y:0<i
   ·have o:=Aa (l:=r) (i:=i - 1) (by omega);generalize r[i - 1]=p at o;rw [ge_s (fgz (i - 1) (by rw [Zo,wr (by omega) (by omega)];omega) o)];have v:Jb5 r i↔(-4096<=w.1/\w.1<4096)/\(w.2≠[]/\RunsOK (-4096) 4096 w.2)/\p.1<w.1:=by
     constructor
     ·intro h;have:=h _ hx;exact ⟨⟨this.1,this.2.1⟩,⟨this.2.2.1,this.2.2.2.1⟩,this.2.2.2.2 _ y o⟩
     ·rintro ⟨⟨a,b⟩,⟨c,d⟩,e⟩ x f;rw [hx] at f;injection f with q;subst q;exact ⟨a,b,c,d,λA _ m=>by rw [o] at m;injection m with q;subst q;exact e⟩
    simp only [v];by_cases hT:w.2≠[]/\RunsOK (-4096) 4096 w.2
    ·simp only [hT,and_self,true_and,if_true,ne_eq,not_false_iff,not_true_eq_false,if_false]
     (repeat' split)<;>first|rfl|omega
    ·simp only [hT,false_and,and_false,if_false,not_false_iff,if_true]
     (repeat' split)<;>first|rfl|omega
   ·have v:Jb5 r i↔(-4096<=w.1/\w.1<4096)/\(w.2≠[]/\RunsOK (-4096) 4096 w.2):=by
     constructor
     ·intro h;have:=h _ hx;exact ⟨⟨this.1,this.2.1⟩,this.2.2.1,this.2.2.2.1⟩
     ·rintro ⟨⟨a,b⟩,c,d⟩ x f;rw [hx] at f;injection f with q;subst q;exact ⟨a,b,c,d,λA h=>(y h).elim⟩
    simp only [v];by_cases hT:w.2≠[]/\RunsOK (-4096) 4096 w.2
    ·simp only [hT,and_self,and_true,if_true,ne_eq,not_false_iff,not_true_eq_false,if_false]
     (repeat' split)<;>first|rfl|omega
    ·simp only [hT,and_false,if_false,not_false_iff,if_true]
     (repeat' split)<;>first|rfl|omega
  rw [E];exact ⟨λh=>if_pos h,λh=>if_neg h⟩) (λ_=>by unfold Kk;dsimp only;rw [w_ln,Kb (by omega)])
 unfold Q8;refine (lo_s g).trans ?_;by_cases h:RegOK r
 ·rw [if_pos ((Jfs _).2 h),decide_eq_true h]
 ·rw [if_neg λq=>h ((Jfs _).1 q),decide_eq_false h]
open Classical in
theorem Jic{α:Type}{r:Reg}(hl:LimR r)(k:Bool->Option α):@W.call wv α Ko r k=k (decide (RegOK r)):=ca_s (c:=Ko) (Jqp r hl)
def Jjn(r:Reg)(y:Int):List Run:=match r.find? (λw=>w.1==y) with|some w=>w.2|none=>[]
theorem Jw6{r:Reg}(hl:LimR r)(y:Int):(Jjn r y).length<=1000000000:=by
 unfold Jjn;cases h:r.find? λw=>w.1==y with
 | none=>simp
 | some w=>exact hl.2 w (Aj h)
theorem J0l{r:Reg}(h:RegOK r)(c:Cell):Jt (Jjn r c.2) c.1↔Xi r c:=by
 unfold Jjn;cases d:r.find? λw=>w.1==c.2 with
 | none=>
  constructor
  ·rintro ⟨u,f,-⟩;cases f
  ·rintro ⟨w,a,e,-⟩;have:=Av.1 d w a;simp [e] at this
 | some w=>
  have a:=Aj d;have e:w.1=c.2:=by have:=List.find?_some d;simpa using this
  have:=h.in_row a c.1;rw [e] at this;exact this.symm
theorem fitB{α:Type}{b:Nat}{n:Int}{x:Option α}(h:n<=1000000001)(d:0<=n)(a:b<=64):@W.gd wv α (@W.ft wv b n) x=x:=by refine gd_ft ⟨?_,by omega⟩;have:n * (b:Int)<=1000000001 * 64:=Int.mul_le_mul h (by omega) (by omega) (by omega);unfold room;omega
theorem Jeb{α:Type}{n:Int}{x:Option α}(h:n<=1000000001)(a:0<=n):@W.gd wv α (@W.ft wv 16 n) x=x:=fitB h a (by decide)
theorem Jzo{α:Type}{n:Int}{x:Option α}(h:n<=1000000001)(a:0<=n):@W.gd wv α (@W.ft wv 40 n) x=x:=fitB h a (by decide)
theorem Jxg{α:Type}{n:Int}{x:Option α}(h:n<=1000000001)(a:0<=n):@W.gd wv α (@W.ft wv 32 n) x=x:=fitB h a (by decide)
theorem Y7(y:Int)(u:Run):(Qq y u).length=(u.2 - u.1).toNat:=by simp [Qq,Jnx]
theorem Jgg(y a:Int)(n:Nat):((rng a (n+1)).map λx=>((x,y):Cell))=((rng a n).map λx=>((x,y):Cell))++[(a+(n:Int),y)]:=by rw [rng_succ,List.map_append];rfl
theorem Jxl{w:Row}{k:Nat}{u:Run}(h:w.2[k]?=some u):(w.2.take (k+1)).flatMap (Qq w.1)=(w.2.take k).flatMap (Qq w.1)++Qq w.1 u:=ze h
theorem Jhj{α β:Type}(f:α->List β)(l:List α)(k:Nat):((l.take k).flatMap f).length<=(l.flatMap f).length:=by
 conv=>rhs;rw [<-List.take_append_drop k l,List.flatMap_append,Ai]
 omega
theorem Qv{α β:Type}(f:α->List β){l:List α}{x:α}{k:Nat}(h:l[k]?=some x):((l.take k).flatMap f).length+(f x).length<=(l.flatMap f).length:=by have:=Jhj f l (k+1);rw [ze h,Ai] at this;exact this
theorem cells_le{r:Reg}{w:Row}{u:Run}{i k:Nat}(a:r[i]?=some w)(d:w.2[k]?=some u):((r.take i).flatMap rowC).length+((w.2.take k).flatMap (Qq w.1)).length+(Qq w.1 u).length<=(J7 r).length:=by have f:=Qv rowC a;have e:=Qv (Qq w.1) d;unfold J7;have:(rowC w).length=(w.2.flatMap (Qq w.1)).length:=rfl;omega
structure Jc6 (l:List Run):Prop where
 bd:∀u∈l,u.1<u.2
 pw:l.Pairwise λa b=>a.2<b.1
theorem Joe{lo d:Int}{l:List Run}(h:Jc6 l)(e:∀x,Jt l x->lo<=x/\x<d):RunsOK lo d l:=by refine ⟨λu a=>?_,h.pw⟩;have m:=h.bd u a;have g:=e u.1 ⟨u,a,by omega,by omega⟩;have f:=e (u.2 - 1) ⟨u,a,by omega,by omega⟩;omega
theorem RunsOK.norm{lo d:Int}{l:List Run}(h:RunsOK lo d l):Jc6 l:=⟨λu a=>(h.bd u a).2.1,h.pw⟩
theorem Jdt{l:List Run}{u:Run}:Jc6 (l++[u])↔Jc6 l/\u.1<u.2/\∀v∈l,v.2<u.1:=by
 constructor
 ·rintro ⟨a,e⟩;obtain ⟨g,y,f⟩:=Ag.1 e;exact ⟨⟨λx hx=>a x (Ah _ hx),g⟩,a u (by simp),λv d=>f v d u (by simp)⟩
 ·rintro ⟨⟨a,e⟩,r,o⟩;refine ⟨λx hx=>?_,Ag.2 ⟨e,Ak _ _,λv d w m=>?_⟩⟩
  ·rcases Ae.1 hx with h|h
   ·exact a x h
   ·rw [Ac.1 h];exact r
  ·rw [Ac.1 m];exact o v d
def bnd(l:List Run)(i:Nat):Int:=match l[i / 2]? with
 | some u=>if i % 2=1 then u.2 else u.1
 | none=>1048577
theorem over_ok(l:List Run)(i:Nat)(hl:l.length<=1000000000):@Yd wv (l,(i:Int))=some (decide (i=2 * l.length)):=by unfold Yd;dsimp only;rw [Yf,Jwe,w_ln,wr (by omega) (by omega)];refine congrArg some ?_;rw [Bool.eq_iff_iff,beq_iff_eq,decide_eq_true_eq];omega
theorem Jpj{α:Type}{l:List Run}{i:Nat}(hl:l.length<=1000000000)(k:Bool->Option α):@W.call wv α J4 ((l,(i:Int)):List (Int×Int)×Int) k=k (decide (i=2 * l.length)):=ca_s (c:=J4) (over_ok l i hl)
theorem ins_ok(l:List Run)(i:Nat):@Xe wv (l,(i:Int))=some (decide (i % 2=1)):=by unfold Xe;dsimp only;rw [gd_t (by rfl),w_rem,Yf,Int.tmod_eq_emod_of_nonneg (by omega)];refine congrArg some ?_;rw [Bool.eq_iff_iff,beq_iff_eq,decide_eq_true_eq];omega
theorem k_ins{α:Type}{l:List Run}{i:Nat}(k:Bool->Option α):@W.call wv α Js ((l,(i:Int)):List (Int×Int)×Int) k=k (decide (i % 2=1)):=ca_s (c:=Js) (ins_ok l i)
theorem next_ok(l:List Run)(i:Nat)(hl:l.length<=1000000000)(e:i<=2 * l.length):@Yb wv (l,(i:Int))=some (bnd l i):=by
 unfold Yb;dsimp only;rw [Jpj hl];by_cases h:i=2 * l.length
 ·rw [br_t (decide_eq_true h)];have:l[i / 2]?=none:=Ao (by omega);simp only [bnd,this]
 ·rw [br_f (decide_eq_false h),k_ins];have hx:=Aa (l:=l) (i:=i / 2) (by omega);have d:@W.ar wv .quo .i64 (i:Int) 2=((i / 2:Nat):Int):=by rw [w_quo,Int.tdiv_eq_ediv_of_nonneg (by omega),wr (by omega) (by omega)];omega
  simp only [bnd,hx];by_cases a:i % 2=1
  ·rw [br_t (decide_eq_true a),gd_t (by rfl),d,ge_s (fg hx),if_pos a]
  ·rw [br_f (decide_eq_false a),gd_t (by rfl),d,ge_s (fg hx),if_neg a]
theorem Jth{α:Type}{l:List Run}{i:Nat}(hl:l.length<=1000000000)(a:i<=2 * l.length)(k:Int->Option α):@W.call wv α J8 ((l,(i:Int)):List (Int×Int)×Int) k=k (bnd l i):=ca_s (c:=J8) (next_ok l i hl a)
def At(l:List Run)(p:Int)(i:Nat):Prop:=i<=2 * l.length/\(∀k,k<i->bnd l k<=p)/\∀k,i<=k->p<bnd l k\/2 * l.length<=k
theorem at_in{l:List Run}{p:Int}{i:Nat}(h:At l p i):Jt l p↔i % 2=1:=by
 obtain ⟨B,o,m⟩:=h;have g:∀q u,l[q]?=some u->bnd l (2 * q)=u.1/\bnd l (2 * q+1)=u.2:=λq u d=>by
  constructor
  ·simp only [bnd,show 2 * q / 2=q by omega,d];rw [if_neg (by omega)]
  ·simp only [bnd,show (2 * q+1) / 2=q by omega,d];rw [if_pos (by omega)]
 constructor
 ·rintro ⟨u,d,a,b⟩;obtain ⟨q,f⟩:=Af.1 d;have e:=(Ad.1 f).1;obtain ⟨v,r⟩:=g q u f;by_cases y:i<=2 * q
  ·have:=m (2 * q) y;omega
  ·by_cases w:2 * q+1<i
   ·have:=o (2 * q+1) w;omega
   ·omega
 ·intro A;have e:i / 2<l.length:=by omega
  have d:=Aa e;obtain ⟨v,r⟩:=g (i / 2) _ d;have F:=o (2 * (i / 2)) (by omega);have E:=m (2 * (i / 2)+1) (by omega);exact ⟨_,Ab d,by omega,by omega⟩
theorem bnd_mono{lo m:Int}{l:List Run}(h:RunsOK lo m l){i:Nat}(g:i+1<2 * l.length):bnd l i<bnd l (i+1):=by
 have a:=Aa (l:=l) (i:=i / 2) (by omega);have d:=Aa (l:=l) (i:=(i+1) / 2) (by omega);simp only [bnd,a,d];by_cases f:i % 2=1
 ·rw [if_pos f,if_neg (by omega)];have e:(i+1) / 2=i / 2+1:=by omega
  have:=Jyo h.pw a (by rw [<-e];exact d);exact this
 ·rw [if_neg f,if_pos (by omega)];have e:(i+1) / 2=i / 2:=by omega
  simp only [e];exact (h.bd _ (Ab a)).2.1
theorem Jt2{l:List Run}(h:RunsOK (-1048576) 1048576 l)(i:Nat):-1048576<=bnd l i/\bnd l i<=1048577:=by
 unfold bnd;split
 ·rename_i u a;have:=h.bd u (Ab a);split<;>omega
 ·omega
theorem Jtm{l:List Run}(h:RunsOK (-1048576) 1048576 l):∀ {i k:Nat},i<k->k<2 * l.length->bnd l i<bnd l k
 | i,0,d,_=>by omega
 | i,k+1,d,a=>by
  have:=bnd_mono h a;by_cases e:i=k
  ·subst e;exact this
  ·have:=Jtm h (i:=i) (k:=k) (by omega) (by omega);omega
theorem Jxu{l:List Run}(h:RunsOK (-1048576) 1048576 l){p m:Int}{i:Nat}(g:At l p i)(E:m<=bnd l i)(w:p<m)(y:m<1048577):At l m (if bnd l i=m then i+1 else i)/\∀x,p<=x->x<m->(Jt l x↔i % 2=1):=by
 have B:=g;obtain ⟨o,f,F⟩:=g;refine ⟨?_,λx v r=>at_in ⟨o,λk a=>by have:=f k a;omega,λk a=>?_⟩⟩
 ·by_cases e:bnd l i=m
  ·rw [if_pos e];have A:i<2 * l.length:=by
    by_cases q:i<2 * l.length
    ·exact q
    ·have:l[i / 2]?=none:=Ao (by omega);simp only [bnd,this] at e;omega
   refine ⟨by omega,λk a=>?_,λk a=>?_⟩
   ·by_cases q:k=i
    ·subst q;omega
    ·have:=f k (by omega);omega
   ·by_cases q:2 * l.length<=k
    ·exact .inr q
    ·left;have:=Jtm h (i:=i) (k:=k) (by omega) (by omega);omega
  ·rw [if_neg e];refine ⟨o,λk a=>by have:=f k a;omega,λk a=>?_⟩;by_cases q:2 * l.length<=k
   ·exact .inr q
   ·left;by_cases d:k=i
    ·subst d;omega
    ·have:=Jtm h (i:=i) (k:=k) (by omega) (by omega);omega
 ·by_cases q:2 * l.length<=k
  ·exact .inr q
  ·left;by_cases d:k=i
   ·subst d;omega
   ·have:=Jtm h (i:=i) (k:=k) (by omega) (by omega);omega
def Jnv(was:Bool)(a:List Run)(i:Nat)(b:List Run)(j:Nat)(out:List Run):HP Bool (HP (List (Int×Int)) (HP Int (HP (List (Int×Int)) (HP Int (HP (List (Int×Int)) Unit))))):=
 let m:=min (bnd a i) (bnd b j);let e:=if bnd a i=m then i+1 else i;let d:=if bnd b j=m then j+1 else j;let now:=decide (e % 2=1)&&!decide (d % 2=1)
 ⟨now,a,(e:Int),b,(d:Int),if now=true/\was=false then out++[(m,0)] else if now=false/\was=true then K8 out (λu=>(u.1,m)) else out,()⟩
theorem Jsx{l:List Run}(a:l≠[])(m:Int):∃v,l[l.length - 1]?=some v/\l.set (l.length - 1) (v.1,m)=K8 l λu=>(u.1,m):=by
 obtain ⟨r,v,rfl⟩:∃r v,l=r++[v]:=by
  rcases l.eq_nil_or_concat with rfl|⟨r,v,e⟩
  ·exact (a rfl).elim
  ·exact ⟨r,v,by rw [e,Ay]⟩
 have e:(r++[v]).length - 1=r.length:=by simp
 rw [e];exact ⟨v,Jdk r v,by rw [Jdw,Q9]⟩
theorem mn_min(x y:Int):@W.mn wv x y=min x y:=by rw [w_mn];omega
theorem sub_step(was:Bool)(a b out:List Run)(i j:Nat)(w:a.length<=1000000000)(r:b.length<=1000000000)(K:i<=2 * a.length)(J:j<=2 * b.length)(P:out.length<=1000000000)(F:was=true->out≠[])(h:¬(i=2 * a.length/\j=2 * b.length)) :
  @Qe wv ⟨was,a,(i:Int),b,(j:Int),out,()⟩=some (.go (Jnv was a i b j out)):=by
 have M:@Q1 wv ⟨was,a,(i:Int),b,(j:Int),out,()⟩=some (.inl ⟨was,a,(i:Int),b,(j:Int),out,()⟩):=by
  unfold Q1;dsimp only;rw [Jpj w];by_cases y:i=2 * a.length
  ·rw [br_f (by simp [w_nt,y]),Jpj r,br_t (by simp [w_nt];exact λq=>h ⟨y,q⟩)]
  ·rw [br_t (by simp [w_nt,y])]
 generalize H:min (bnd a i) (bnd b j)=m;have E:@jb wv ⟨was,a,(i:Int),b,(j:Int),out,()⟩ (bnd a i) (bnd b j)=some ⟨was,m,a,((if bnd a i=m then i+1 else i:Nat):Int),b,(j:Int),out,()⟩:=by
  unfold jb;dsimp only;rw [Jth w K,mn_min,H,Kz,wr (by omega) (by omega)];by_cases c:bnd a i=m
  ·rw [br_t (by rw [Yf];simp [c]),if_pos c];rfl
  ·rw [br_f (by rw [Yf];simp [c]),if_neg c]
 generalize o:(if bnd a i=m then i+1 else i)=d at E;have B:@Z0 wv ⟨was,m,a,(d:Int),b,(j:Int),out,()⟩=some ⟨was,m,a,(d:Int),b,((if bnd b j=m then j+1 else j:Nat):Int),out,()⟩:=by
  unfold Z0;dsimp only;rw [Jth r J,Kz,wr (by omega) (by omega)];by_cases c:bnd b j=m
  ·rw [br_t (by rw [Yf];simp [c]),if_pos c];rfl
  ·rw [br_f (by rw [Yf];simp [c]),if_neg c]
 generalize l:(if bnd b j=m then j+1 else j)=e at B;have A:@Zp wv ⟨was,m,a,(d:Int),b,(e:Int),out,()⟩=some ⟨was,m,decide (d % 2=1)&&!decide (e % 2=1),a,(d:Int),b,(e:Int),out,()⟩:=by
  unfold Zp;dsimp only;rw [k_ins,k_ins];by_cases c:d % 2=1
  ·rw [br_t (by simp [c])];simp [c,w_nt]
  ·rw [br_f (by simp [c])];simp [c]
 generalize f:(decide (d % 2=1)&&!decide (e % 2=1))=now at A;have g:∀ {α:Type} (x:Option α),@W.gd wv α (@W.ft wv 16 (@W.pl wv (@W.ln wv (Int×Int) out) 1)) x=x:=λx=>by rw [w_ln,w_pl];exact Jeb (by omega) (by omega)
 have L:@jc wv ⟨was,m,now,a,(d:Int),b,(e:Int),out,()⟩=some ⟨now,a,(d:Int),b,(e:Int),if now=true/\was=false then out++[(m,0)] else if now=false/\was=true then K8 out (λu=>(u.1,m)) else out,()⟩:=by
  unfold jc;dsimp only;rw [g];have nt1:@W.nt wv true=false:=rfl;have nt0:@W.nt wv false=true:=rfl;cases now with
  | true=>
   cases was with
   | true=>rw [nt1,br_t rfl,br_f rfl,br_f rfl,if_neg (by simp),if_neg (by simp)]
   | false=>rw [nt0,br_t rfl,br_t rfl,if_pos (by simp),w_ap]
  | false=>
   cases was with
   | false=>rw [nt0,br_f rfl,br_t rfl,br_f rfl,if_neg (by simp),if_neg (by simp)]
   | true=>
    have G:=List.length_pos_iff.2 (F rfl);obtain ⟨v,N,O⟩:=Jsx (F rfl) m;rw [nt0,br_f rfl,br_t rfl,br_t rfl,w_ln,Zo,wr (by omega) (by omega),Jcs ⟨by omega,by omega⟩,ge_s (fgz (out.length - 1) (by omega) N),if_neg (by simp),if_pos (by simp),w_st,show ((out.length:Int) - 1).toNat=out.length - 1 by omega,O]
 unfold Qe;rw [jo_s M];dsimp only;rw [Jth w K,Jth r J,jo_s E,jo_s B,jo_s A,jo_s L];unfold Jnv;dsimp only;rw [H,o,l,f]
def SubI(a b:List Run)(p:Int)(was:Bool)(i j:Nat)(out:List Run):Prop:=
 At a p i/\At b p j/\was=(decide (i % 2=1)&&!decide (j % 2=1)) /\
 ((was=false/\Jc6 out/\(∀u∈out,u.2<=p)/\∀x,x<p->(Jt out x↔Jt a x/\¬Jt b x)) \/
  ∃(o:List Run) (s z:Int),out=o++[(s,z)]/\was=true/\s<=p/\Jc6 o/\(∀u∈o,u.2<s)/\(∀x,x<s->(Jt o x↔Jt a x/\¬Jt b x))/\∀x,s<=x->x<=p->Jt a x/\¬Jt b x)
theorem sub_inv{a b:List Run}(R:RunsOK (-1048576) 1048576 a)(Q:RunsOK (-1048576) 1048576 b){p:Int}{was:Bool}{i j:Nat}{out:List Run}(hI:SubI a b p was i j out)(N:¬(i=2 * a.length/\j=2 * b.length)) :
  ∃m,p<m/\∃(was':Bool) (H G:Nat) (out':List Run),Jnv was a i b j out=⟨was',a,(H:Int),b,(G:Int),out',()⟩/\SubI a b m was' H G out'/\i+j<H+G/\out'.length<=out.length+1:=by
 obtain ⟨hA,hB,Z,hO⟩:=hI;have B:min (bnd a i) (bnd b j)<1048577:=by
  have Y:i<2 * a.length->bnd a i<1048577:=λq=>by have d:=Aa (l:=a) (i:=i / 2) (by omega);have:=R.bd _ (Ab d);simp only [bnd,d];split<;>omega
  have F:j<2 * b.length->bnd b j<1048577:=λq=>by have d:=Aa (l:=b) (i:=j / 2) (by omega);have:=Q.bd _ (Ab d);simp only [bnd,d];split<;>omega
  have w:=hA.1;have E:=hB.1;have L:i<2 * a.length\/j<2 * b.length:=by omega
  rcases L with L|L
  ·have:=Y L;omega
  ·have:=F L;omega
 have hp1:p<bnd a i:=by
  rcases hA.2.2 i (As _) with h|h
  ·exact h
  ·have e:a[i / 2]?=none:=Ao (by omega);have:p<1048577:=by
    have q:At b p j:=hB;by_cases F:j<2 * b.length
    ·rcases hB.2.2 j (As _) with h'|h'
     ·have:=Jt2 Q j;omega
     ·omega
    ·exact (N ⟨by have:=hA.1;omega,by have:=hB.1;omega⟩).elim
   simp only [bnd,e];exact this
 have hp2:p<bnd b j:=by
  rcases hB.2.2 j (As _) with h|h
  ·exact h
  ·have e:b[j / 2]?=none:=Ao (by omega);have:p<1048577:=by have:=Jt2 R i;omega
   simp only [bnd,e];exact this
 generalize A:min (bnd a i) (bnd b j)=m at B;have y:p<m:=by omega
 obtain ⟨hA',hAx⟩:=Jxu R hA (m:=m) (by omega) y B;obtain ⟨hB',hBx⟩:=Jxu Q hB (m:=m) (by omega) y B;refine ⟨m,y,_,_,_,_,by unfold Jnv;rw [A],?_,?_,?_⟩
 ·refine ⟨hA',hB',rfl,?_⟩;have hAm:=at_in hA';have hBm:=at_in hB';generalize (if bnd a i=m then i+1 else i)=H at *
  generalize (if bnd b j=m then j+1 else j)=G at *
  have hD:∀x,p<=x->x<m->(Jt a x/\¬Jt b x↔was=true):=λx w E=>by rw [hAx x w E,hBx x w E,Z];simp
  have hDm:Jt a m/\¬Jt b m↔(decide (H % 2=1)&&!decide (G % 2=1))=true:=by rw [hAm,hBm];simp
  generalize (decide (H % 2=1)&&!decide (G % 2=1))=now at *
  rcases hO with ⟨M,K,g,J⟩|⟨o,s,z,rfl,M,hs,K,g,J,X⟩
  ·subst M;cases now with
   | false=>
    left;rw [if_neg (by simp),if_neg (by simp)];refine ⟨rfl,K,λu d=>by have:=g u d;omega,λx hx=>?_⟩;by_cases q:x<p
    ·exact J x q
    ·rw [hD x (by omega) hx];refine ⟨λ⟨u,d,w,E⟩=>by have:=g u d;omega,λh=>by simp at h⟩
   | true=>
    right;rw [if_pos (by simp)];refine ⟨out,m,0,rfl,rfl,Int.le_refl _,K,λu d=>by have:=g u d;omega,λx hx=>?_,λx w E=>?_⟩
    ·by_cases q:x<p
     ·exact J x q
     ·rw [hD x (by omega) hx];refine ⟨λ⟨u,d,w,E⟩=>by have:=g u d;omega,λh=>by simp at h⟩
    ·have:x=m:=by omega
     subst this;exact hDm.2 rfl
  ·subst M;cases now with
   | true=>
    right;rw [if_neg (by simp),if_neg (by simp)];refine ⟨o,s,z,rfl,rfl,by omega,K,g,J,λx w E=>?_⟩;by_cases q:x<=p
    ·exact X x w q
    ·by_cases F:x=m
     ·subst F;exact hDm.2 rfl
     ·exact (hD x (by omega) (by omega)).2 rfl
   | false=>
    left;rw [if_neg (by simp),if_pos (by simp),Q9];refine ⟨rfl,Jdt.2 ⟨K,by dsimp only;omega,g⟩,λu d=>?_,λx hx=>?_⟩
    ·rcases Ae.1 d with h|h
     ·have:=g u h;omega
     ·rw [Ac.1 h];exact Int.le_refl _
    ·rw [Xz];dsimp only;by_cases q:x<s
     ·rw [J x q];exact ⟨λh=>h.resolve_right λh=>by omega,.inl⟩
     ·have P:Jt a x/\¬Jt b x:=by
       by_cases F:x<=p
       ·exact X x (by omega) F
       ·exact (hD x (by omega) hx).2 rfl
      exact ⟨λ_=>P,λ_=>.inr ⟨by omega,hx⟩⟩
 ·by_cases q:bnd a i=m
  ·rw [if_pos q];split<;>omega
  ·have:bnd b j=m:=by omega
   rw [if_pos this];split<;>omega
 ·have O:∀(l:List Run) (f:Run->Run),(K8 l f).length=l.length:=λl f=>by
   rcases l.eq_nil_or_concat with rfl|⟨r,v,rfl⟩
   ·rfl
   ·rw [Ay,Q9];simp
  have key:∀nw ws:Bool,(if nw=true/\ws=false then out++[(m,0)] else if nw=false/\ws=true then K8 out (λu=>(u.1,m)) else out).length<=out.length+1:=λnw ws=>by cases nw<;>cases ws<;>simp [O]
  exact key _ _
theorem sub_loop(a b:List Run)(P:a.length<=100000000)(O:b.length<=100000000)(r:RunsOK (-1048576) 1048576 a)(w:RunsOK (-1048576) 1048576 b) :
  ∃e,Xu (@Qe wv) bigN ⟨false,a,0,b,0,[],()⟩=some e/\Jc6 e.e/\∀x,Jt e.e x↔Jt a x/\¬Jt b x:=by
 refine Jqf (b:=@Qe wv) (λs=>∃(p:Int) (was:Bool) (i j:Nat) (out:List Run),s=⟨was,a,(i:Int),b,(j:Int),out,()⟩/\SubI a b p was i j out/\out.length<=i+j)
  (λe=>Jc6 e.e/\∀x,Jt e.e x↔Jt a x/\¬Jt b x) (λs=>(2 * (a.length:Int)+2 * (b.length:Int) - s.j.j.e - s.j.j.j.j.e).toNat) ?_ ⟨-1048577,false,0,0,[],rfl,⟨⟨by omega,by omega,λk h=>?_⟩,⟨by omega,by omega,λk h=>?_⟩,rfl,.inl ⟨rfl,⟨by simp,.nil⟩,by simp,λx hx=>?_⟩⟩,by simp⟩ (by dsimp only;omega)
 ·rintro s ⟨p,was,i,j,out,rfl,hI,Y⟩;have B:=hI.1.1;have A:=hI.2.1.1;by_cases d:i=2 * a.length/\j=2 * b.length
  ·right;obtain ⟨rfl,rfl⟩:=d;have H:@Q1 wv ⟨was,a,((2 * a.length:Nat):Int),b,((2 * b.length:Nat):Int),out,()⟩=some (.inr ⟨out,()⟩):=by unfold Q1;dsimp only;rw [Jpj (by omega),br_f (by simp [w_nt]),Jpj (by omega),br_f (by simp [w_nt])]
   unfold Qe;rw [jo_s H];refine ⟨_,rfl,?_⟩;obtain ⟨hA,hB,L,hO⟩:=hI;have l:was=false:=by rw [L];simp
   rcases hO with ⟨f,G,F,E⟩|⟨o,s,z,rfl,f,-⟩
   ·refine ⟨G,λx=>?_⟩;by_cases q:x<p
    ·exact E x q
    ·refine ⟨λ⟨u,g,y,Q⟩=>by have:=F u g;omega,λ⟨y,Q⟩=>?_⟩;have:At a x (2 * a.length):=⟨As _,λk h=>by have:=hA.2.1 k h;omega,λk h=>.inr h⟩;have:=(at_in this).1 y;omega
   ·rw [l] at f;cases f
  ·left;obtain ⟨m,M,was',K,J,out',e,hI',N,v⟩:=sub_inv r w hI d;refine ⟨_,sub_step was a b out i j (by omega) (by omega) B A (by omega) (λq=>?_) d,?_,?_⟩
   ·rcases hI.2.2.2 with ⟨f,-⟩|⟨o,s,z,rfl,-⟩
    ·rw [f] at q;cases q
    ·simp
   ·rw [e];exact ⟨m,was',K,J,out',rfl,hI',by omega⟩
   ·rw [e];have X:=hI'.1.1;have R:=hI'.2.1.1;dsimp only;omega
 ·by_cases q:2 * a.length<=k
  ·exact .inr q
  ·left;have:=Jt2 r k;omega
 ·by_cases q:2 * b.length<=k
  ·exact .inr q
  ·left;have:=Jt2 w k;omega
 ·constructor
  ·rintro ⟨u,g,-⟩;cases g
  ·rintro ⟨⟨u,g,B,A⟩,-⟩;have:=r.bd u g;omega
open Classical in
theorem Jsw(a b:List Run)(f:a.length<=100000000)(d:b.length<=100000000)(h:RunsOK (-1048576) 1048576 a)(g:RunsOK (-1048576) 1048576 b) :
  ∃l,@Yo wv (a,b)=some l/\Jc6 l/\∀x,Jt l x↔Jt a x/\¬Jt b x:=by obtain ⟨e,m,r,o⟩:=sub_loop a b f d h g;refine ⟨e.e,?_,r,o⟩;unfold Yo;dsimp only;rw [zj (by omega),br_f (by simp [w_nt,h]),zj (by omega),br_f (by simp [w_nt,g])];exact lo_s m
theorem same_ok(t:Kj)(f:t.2.2.length<=1000000000):@Xc wv (t,t)=some true:=by
 have a:=Kt (b:=@Qj wv) (e:=.inr ()) (λi=>⟨(t.2.2.length:Int),(i:Int),t.1,t.2.1,t.2.2,t.1,t.2.1,t.2.2,()⟩) t.2.2.length (by omega) (λi d=>by
  have hx:=Aa d;unfold Qj;dsimp only;rw [Qz (by omega),ge_s (fg hx),ge_s (fg hx),br_f (by simp [w_nt,w_an,Yf]),Kz,wr (by omega) (by omega)];rfl) (by unfold Qj;dsimp only;rw [Kb (by omega)])
 unfold Xc;dsimp only;rw [br_f (by simp [Jnh]),br_f (by simp [w_nt,w_be]),br_f (by simp [Jnh,w_ln])];exact lo_s a
theorem k_Same{α:Type}{t:Kj}(a:t.2.2.length<=1000000000)(k:Bool->Option α):@W.call wv α Ky (((t.1,(t.2.1,t.2.2)),(t.1,(t.2.1,t.2.2))):(Int×(Bool×List (Int×Int)))×(Int×(Bool×List (Int×Int)))) k=k true:=ca_s (c:=Ky) (same_ok t a)
theorem Jvg(l:List Kj)(hl:l.length<=1000000000)(f:∀t∈l,t.2.2.length<=1000000000):@Qm wv (l,l)=some true:=by
 have a:=Kt (b:=@K0 wv) (e:=.inr ()) (λi=>⟨l,l,(l.length:Int),(i:Int),()⟩) l.length (by omega) (λi d=>by
  have hx:=Aa d;generalize l[i]=t at hx;unfold K0;dsimp only;rw [Qz (by omega),ge_s (fg hx),ge_s (fg hx),k_Same (f t (Ab hx)),br_f (by simp [w_nt]),Kz,wr (by omega) (by omega)];rfl) (by unfold K0;dsimp only;rw [Kb (by omega)])
 unfold Qm;dsimp only;rw [br_f (by simp [Jnh,w_ln])];exact lo_s a
theorem Jyj{α:Type}{l:List Kj}(hl:l.length<=1000000000)(a:∀t∈l,t.2.2.length<=1000000000)(k:Bool->Option α):@W.call wv α J9 ((l,l):List (Int×(Bool×List (Int×Int)))×List (Int×(Bool×List (Int×Int)))) k=k true:=ca_s (c:=J9) (Jvg l hl a)
def grid(c:Cell):Prop:=-4096<=c.1/\c.1<4096/\-4096<=c.2/\c.2<4096
instance (c:Cell):Decidable (grid c):=by unfold grid;exact inferInstance
def nb(a b:Cell):Prop:=(a.1 - b.1) * (a.1 - b.1)+(a.2 - b.2) * (a.2 - b.2)=1
instance (a b:Cell):Decidable (nb a b):=by unfold nb;exact inferInstance
theorem Jy3(c:Cell):@zb wv c=some (decide (grid c)):=by
 simp only [zb,w_br,Je1,Jg6,decide_eq_true_eq]
 (repeat' split)<;>first|exact congrArg some (decide_eq_decide.2 (by unfold grid;omega))|exact congrArg some (decide_eq_false (by unfold grid;omega)).symm
theorem k_onGrid{α:Type}(c:Cell)(k:Bool->Option α):@W.call wv α X3 ((c.1,c.2):Int×Int) k=k (decide (grid c)):=ca_s (c:=X3) (Jy3 c)
theorem sq_bd{d:Int}(g:-100000<=d)(f:d<=100000):0<=d * d/\d * d<=10000000000:=by have e:d * d=((d.natAbs * d.natAbs:Nat):Int):=(Int.natAbs_mul_self (a:=d)).symm;have:d.natAbs * d.natAbs<=100000 * 100000:=Nat.mul_le_mul (by omega) (by omega);omega
theorem Jqx(a b:Cell)(f:grid a)(e:grid b):@Yz wv (a,b)=some (decide (nb a b)):=by
 unfold grid at f e;have h:=sq_bd (d:=a.1 - b.1) (by omega) (by omega);have g:=sq_bd (d:=a.2 - b.2) (by omega) (by omega);unfold Yz;dsimp only;simp only [Kz,Jwe,Zo,Yf];rw [wr (n:=a.1 - b.1) (by omega) (by omega),wr (n:=a.2 - b.2) (by omega) (by omega),wr (n:=(a.1 - b.1) * (a.1 - b.1)) (by omega) (by omega),wr (n:=(a.2 - b.2) * (a.2 - b.2)) (by omega) (by omega),wr (by omega) (by omega)]
 congr 1
theorem Jil{α:Type}{a b:Cell}(e:grid a)(d:grid b)(k:Bool->Option α):@W.call wv α K1 (((a.1,a.2),(b.1,b.2)):(Int×Int)×(Int×Int)) k=k (decide (nb a b)):=ca_s (c:=K1) (Jqx a b e d)
def Jw5(l:List Cell)(i:Nat):Prop:=∀c,l[i]?=some c->grid c/\∀p,0<i->l[i - 1]?=some p->nb p c
def VT(t:Kj):Prop:=(1<=t.1/\t.1<=7)/\(1<=t.2.2.length/\t.2.2.length<=65536)/\(∀i,i<t.2.2.length->Jw5 t.2.2 i)/\(t.2.1=true->t.2.2.length=1\/∀a b,t.2.2[t.2.2.length - 1]?=some a->t.2.2[0]?=some b->nb a b)
open Classical in
theorem Jk7(t:Kj):@zx wv t=some (decide (VT t)):=by
 obtain ⟨role,closed,l⟩:=t;unfold zx;dsimp only;simp only [w_ln];by_cases H:1<=role/\role<=7
 case neg=>
  rw [decide_eq_false λq:VT _=>H q.1];simp only [w_br,Jg6,Jar,decide_eq_true_eq];by_cases A:role<1
  ·rw [if_pos A]
  ·rw [if_neg A,if_pos (by omega)]
 rw [Kb (by omega),br_f (by rw [Jar];exact decide_eq_false (by omega))];by_cases A:1<=l.length/\l.length<=65536
 case neg=>
  rw [decide_eq_false λq:VT _=>A q.2.1];simp only [w_br,Jg6,Jar,decide_eq_true_eq];by_cases m:(l.length:Int)<1
  ·rw [if_pos m]
  ·rw [if_neg m,if_pos (by omega)]
 rw [Kb (by omega),br_f (by rw [Jar];exact decide_eq_false (by omega))];have v:=Je8 (b:=@X1 wv) (bad:=.inl ()) (fin:=.inr ⟨(l.length:Int),role,closed,l,()⟩) (λi=>⟨(l.length:Int),l,(l.length:Int),(i:Int),role,closed,l,()⟩) l.length (by omega) (Jw5 l) (λi N r=>by
  have hx:=Aa N;generalize l[i]=c at hx;have P:@X1 wv ⟨(l.length:Int),l,(l.length:Int),(i:Int),role,closed,l,()⟩=if Jw5 l i then some (.go ⟨(l.length:Int),l,(l.length:Int),((i+1:Nat):Int),role,closed,l,()⟩) else some (.out (.inl ())):=by
   unfold X1;dsimp only;rw [Qz (by omega),ge_s (fg hx),k_onGrid];by_cases B:grid c
   case neg=>rw [br_t (by simp [w_nt,B]),if_neg λq=>B (q c hx).1]
   rw [br_f (by simp [w_nt,B]),Kz,wr (by omega) (by omega)];by_cases L:0<i
   ·have F:=Aa (l:=l) (i:=i - 1) (by omega);generalize l[i - 1]=p at F;have J:grid p:=(r (i - 1) (by omega) p F).1;rw [br_t (by rw [Jar];exact decide_eq_true (by omega)),ge_s (fgz (i - 1) (by rw [Zo,wr (by omega) (by omega)];omega) F),Jil J B];have o:Jw5 l i↔nb p c:=by
     constructor
     ·intro q;exact (q c hx).2 p L F
     ·intro q c' g;rw [hx] at g;injection g with e;subst e;exact ⟨B,λM _ E=>by rw [F] at E;injection E with e;subst e;exact q⟩
    by_cases G:nb p c
    ·rw [br_f (by simp [w_nt,G]),if_pos (o.2 G)];rfl
    ·rw [br_t (by simp [w_nt,G]),if_neg λq=>G (o.1 q)]
   ·rw [br_f (by rw [Jar];exact decide_eq_false (by omega)),if_pos]
    ·rfl
    ·intro c' g;rw [hx] at g;injection g with e;subst e;exact ⟨B,λM h=>(L h).elim⟩
  rw [P];exact ⟨λh=>if_pos h,λh=>if_neg h⟩) (λ_=>by unfold X1;dsimp only;rw [Kb (by omega)])
 refine (lo_s v).trans ?_;by_cases m:∀i,i<l.length->Jw5 l i
 case neg=>rw [if_neg m,decide_eq_false λq:VT _=>m q.2.2.1]
 rw [if_pos m];dsimp only;cases O:closed with
 | false=>rw [br_t (by rfl),decide_eq_true];exact ⟨H,A,m,λq=>by cases q⟩
 | true=>
  rw [br_f (by rfl)];by_cases K:l.length=1
  ·rw [br_t (by rw [Yf,K];rfl),decide_eq_true];exact ⟨H,A,m,λ_=>.inl K⟩
  ·have d:=Aa (l:=l) (i:=l.length - 1) (by omega);have f:=Aa (l:=l) (i:=0) (by omega);generalize l[l.length - 1]=a at d;generalize l[0]=b at f;rw [br_f (by rw [Yf,beq_eq_false_iff_ne];omega),ge_s (fgz (l.length - 1) (by rw [Zo,wr (by omega) (by omega)];omega) d),ge_s (fg0 f),Jil (m _ (by omega) a d).1 (m _ (by omega) b f).1];refine congrArg some (decide_eq_decide.2 ⟨λq=>⟨H,A,m,λ_=>.inr λa' X y w=>?_⟩,λq=>?_⟩)
   ·dsimp only at y w;rw [d] at y;rw [f] at w;injection y with R;injection w with Q;subst R;subst Q;exact q
   ·rcases q.2.2.2 rfl with e|e
    ·exact (K e).elim
    ·exact e a b d f
open Classical in
theorem Joi{α:Type}{t:Kj}(k:Bool->Option α):@W.call wv α Ql ((t.1,(t.2.1,t.2.2)):Int×(Bool×List (Int×Int))) k=k (decide (VT t)):=ca_s (c:=Ql) (Jk7 t)
def leC(x y:Cell):Bool:=!(Go.Proofs.ltOf cmpC) y x
theorem Jok{x y:Cell}:leC x y=true↔x.2<y.2\/(x.2=y.2/\x.1<=y.1):=by simp only [leC,Go.Proofs.ltOf,Am,decide_eq_false_iff_not,Jjb];omega
theorem Jw4(l:List Cell):(Ja0 leC l).Pairwise λa b=>a.2<b.2\/(a.2=b.2/\a.1<=b.1):=by
 refine (Jhz (le:=leC) (λx y z e d=>?_) (λx y=>?_) l).imp λh=>Jok.1 h
 ·rw [Jok] at *;omega
 ·rw [Jok,Jok];omega
theorem k_sortC{α:Type}{l:List Cell}(hl:l.length<=1000000000)(k:List (Int×Int)->Option α):@W.call wv α Jjz l k=k (Ja0 leC l):=by refine ca_s (c:=Jjz) (a:=l) (r:=Ja0 leC l) ?_;show (if List.length (α:=Int×Int) l<4611686018427387904 then some (Ja0 (α:=Int×Int) (λx y=>!(Go.Proofs.ltOf cmpC) y x) l) else none)=_;rw [if_pos (by omega)];rfl
def OfI(out:Reg)(runs:List Run)(done:List Cell):Prop:=
 (out=[]/\runs=[]/\done=[])\/∃(pre:Reg) (y:Int) (z rs:List Run) (a b:Int),out=pre++[(y,z)]/\runs=rs++[(a,b)]/\RegOK (pre++[(y,rs++[(a,b)])]) /\
  (∀c,Xi (pre++[(y,rs++[(a,b)])]) c↔c∈done)
theorem of_new{T:Reg}{c:Cell}(h:RegOK T)(f:(-4096<=c.1/\c.1<4096)/\(-4096<=c.2/\c.2<4096))(a:∀w∈T,w.1<c.2):RegOK (T++[(c.2,[(c.1,c.1+1)])])/\∀d,Xi (T++[(c.2,[(c.1,c.1+1)])]) d↔Xi T d\/d=c:=by
 refine ⟨Jbn.2 ⟨h,f.2,by simp,⟨λx hx=>?_,Ak _ _⟩,a⟩,λd=>?_⟩
 ·rw [Ac.1 hx];dsimp only;omega
 ·rw [Zl];constructor
  ·rintro (h|⟨l,u,e,g⟩)
   ·exact .inl h
   ·rw [Ac.1 e] at g;right;obtain ⟨o,m⟩:=d;obtain ⟨v,r⟩:=c;simp only [Az] at *
    omega
  ·rintro (h|rfl)
   ·exact .inl h
   ·exact .inr ⟨rfl,_,Ac.2 rfl,by dsimp only;omega⟩
open Classical in
theorem Of_loop(l:List Cell)(hl:l.length<=1000000000)(hb:∀c∈l,(-4096<=c.1/\c.1<4096)/\(-4096<=c.2/\c.2<4096))(hs:l.Pairwise λa b=>a.2<b.2\/(a.2=b.2/\a.1<=b.1)) :
  ∃e,Xu (@X4 wv) bigN ⟨(l.length:Int),0,l,[],[],()⟩=some e/\RegOK (K8 e.e λy=>(y.1,e.j.e))/\∀c,Xi (K8 e.e λy=>(y.1,e.j.e)) c↔c∈l:=by
 refine Jm2 (b:=@X4 wv) (λi s=>∃out runs,s=⟨(l.length:Int),(i:Int),l,out,runs,()⟩/\out.length<=i/\runs.length<=i/\OfI out runs (l.take i)) (λe=>RegOK (K8 e.e λy=>(y.1,e.j.e))/\∀c,Xi (K8 e.e λy=>(y.1,e.j.e)) c↔c∈l) l.length (by omega) ⟨[],[],rfl,by simp,by simp,.inl ⟨rfl,rfl,by simp⟩⟩ ?_ ?_
 ·rintro i s Z ⟨out,runs,rfl,M,J,hI⟩;have hx:=Aa Z;generalize l[i]=c at hx;have G:=hb c (Ab hx);have o:=Q6 hx;have E:∀d∈l.take i,d.2<c.2\/(d.2=c.2/\d.1<=c.1):=λd hd=>by have g:(l.take (i+1)).Pairwise λa b=>a.2<b.2\/(a.2=b.2/\a.1<=b.1):=List.Pairwise.sublist (List.take_sublist _ _) hs;rw [o] at g;exact (Ag.1 g).2.2 d hd c (by simp)
  unfold X4;dsimp only;rw [Qz (by omega),Jcs ⟨by omega,by rw [w_ln];omega⟩,ge_s (fg hx)];simp only [w_ln,Kz,w_ap,w_ml,w_pl,Zo];rw [wr (n:=(i:Int)+1) (by omega) (by omega),wr (n:=c.1+1) (by omega) (by omega)];rcases hI with ⟨rfl,rfl,hd⟩|⟨pre,y,z,rs,a,b,rfl,rfl,hV,m⟩
  ·rw [br_t (by rfl),Jxg (by simp) (by simp)];refine ⟨_,rfl,[(c.2,[])],[(c.1,c.1+1)],rfl,by simp,by simp,.inr ⟨[],c.2,[],[],c.1,c.1+1,rfl,rfl,?_⟩⟩;have:=of_new (T:=[]) ⟨(by simp),.nil,(by simp),(by simp)⟩ G (by simp);refine ⟨this.1,λd=>?_⟩;rw [o,hd];have f:=this.2 d;simp only [List.nil_append] at f ⊢;rw [f];simp [Xi]
  ·have r:((pre++[(y,z)]).length:Int)=(pre.length:Int)+1:=by simp
   have F:((rs++[(a,b)]).length:Int)=(rs.length:Int)+1:=by simp
   have Y:(pre.length:Int)+1<=i:=by rw [<-r];omega
   have X:(rs.length:Int)+1<=i:=by rw [<-F];omega
   obtain ⟨v1,v2,v3,v4,v5⟩:=Jbn.1 hV;obtain ⟨P,O,H⟩:=Jez.1 v4;dsimp only at O H v2 v5;have B:(b - 1,y)∈l.take i:=(m _).1 (Zl.2 (.inr ⟨rfl,Xz.2 (.inr ⟨by dsimp only;omega,by dsimp only;omega⟩)⟩));have hc:=E _ B;dsimp only at hc;simp only [r,F];rw [show (pre.length:Int)+1 - 1=(pre.length:Int) by omega,show (rs.length:Int)+1 - 1=(rs.length:Int) by omega,wr (n:=(pre.length:Int)) (by omega) (by omega),wr (n:=(rs.length:Int)) (by omega) (by omega)];simp only [ge_s (fg (Jdk pre (y,z))),ge_s (fg (Jdk rs (a,b)))];rw [br_f (by rw [Yf,beq_eq_false_iff_ne];omega),Jcs (by omega)];by_cases L:y=c.2
   ·subst L;rw [br_f (by rw [Jnh];simp)];simp only [Jcs (show 0<=(pre.length:Int)/\(pre.length:Int)<(pre.length:Int)+1 by omega),Jcs (show 0<=(rs.length:Int)/\(rs.length:Int)<(rs.length:Int)+1 by omega),gd_t (show @W.cm wv .eql ((pre.length:Int)+1) ((pre.length:Int)+1)=true by rw [Yf];simp)];by_cases A:c.1 > b
    ·rw [br_t (by rw [Jar];exact decide_eq_true A),Jeb (by omega) (by omega),w_st,Int.toNat_natCast,Jdw];refine ⟨_,rfl,pre++[(c.2,z)],rs++[(a,b)]++[(c.1,c.1+1)],rfl,by omega,by simp only [Ai,Ar,Au] at J ⊢;omega,.inr ⟨pre,c.2,z,rs++[(a,b)],c.1,c.1+1,rfl,rfl,Jbn.2 ⟨v1,v2,by simp,Jez.2 ⟨v4,by dsimp only;omega,λv R=>?_⟩,v5⟩,λd=>?_⟩⟩
     ·rcases Ae.1 R with q|q
      ·have:=H v q;dsimp only;omega
      ·rw [Ac.1 q];exact A
     ·rw [o,Ae,<-m,Zl,Zl,Xz];simp only [Ac];obtain ⟨N,d2⟩:=d;obtain ⟨c1,c2⟩:=c;simp only [Az];constructor
      ·rintro (h|⟨g,f|f⟩)
       ·exact .inl (.inl h)
       ·exact .inl (.inr ⟨g,f⟩)
       ·exact .inr ⟨by omega,by omega⟩
      ·rintro ((h|⟨g,f⟩)|⟨g,f⟩)
       ·exact .inl h
       ·exact .inr ⟨g,.inl f⟩
       ·exact .inr ⟨by omega,.inr (by omega)⟩
    ·rw [br_f (by rw [Jar];exact decide_eq_false A),w_st,Int.toNat_natCast,Jdw,w_mx];have K:(if c.1+1 > b then c.1+1 else b)=max b (c.1+1):=by omega
     rw [K];refine ⟨_,rfl,pre++[(c.2,z)],rs++[(a,max b (c.1+1))],rfl,by omega,by simp only [Ai,Ar,Au] at J ⊢;omega,.inr ⟨pre,c.2,z,rs,a,max b (c.1+1),rfl,rfl,Jbn.2 ⟨v1,v2,by simp,Jez.2 ⟨P,by dsimp only;omega,H⟩,v5⟩,λd=>?_⟩⟩;rw [o,Ae,<-m,Zl,Zl,Xz,Xz];simp only [Ac];obtain ⟨N,d2⟩:=d;obtain ⟨c1,c2⟩:=c;simp only [Az] at *
     constructor
     ·rintro (h|⟨g,f|f⟩)
      ·exact .inl (.inl h)
      ·exact .inl (.inr ⟨g,.inl f⟩)
      ·by_cases q:N<b
       ·exact .inl (.inr ⟨g,.inr (by omega)⟩)
       ·exact .inr ⟨by omega,by omega⟩
     ·rintro ((h|⟨g,f|f⟩)|⟨g,f⟩)
      ·exact .inl h
      ·exact .inr ⟨g,.inl f⟩
      ·exact .inr ⟨g,.inr (by omega)⟩
      ·exact .inr ⟨by omega,.inr (by omega)⟩
   ·rw [br_t (by rw [Jnh];simp [L]),Jxg (by omega) (by omega),Q9];have:=of_new hV G (λw Q=>by
     rcases Ae.1 Q with q|q
     ·have:=v5 w q;omega
     ·rw [Ac.1 q];dsimp only;omega)
    refine ⟨_,rfl,pre++[(y,rs++[(a,b)])]++[(c.2,[])],[(c.1,c.1+1)],rfl,by simp only [Ai,Ar,Au] at M ⊢;omega,by simp,.inr ⟨pre++[(y,rs++[(a,b)])],c.2,[],[],c.1,c.1+1,rfl,rfl,this.1,λd=>?_⟩⟩;rw [o,Ae,<-m,Ac];exact this.2 d
 ·rintro s ⟨out,runs,rfl,M,J,hI⟩;unfold X4;dsimp only;rw [Kb (by omega)];refine ⟨_,rfl,?_⟩;rw [List.take_length] at hI;dsimp only;rcases hI with ⟨rfl,rfl,rfl⟩|⟨pre,y,z,rs,a,b,rfl,rfl,hV,m⟩
  ·exact ⟨⟨(by simp [K8]),.nil,(by simp [K8]),(by simp [K8])⟩,λc=>by simp [K8,Xi]⟩
  ·rw [Q9];exact ⟨hV,m⟩
theorem Of_check(l:List Cell)(hl:l.length<=1000000000)(e:∀c∈l,(-4096<=c.1/\c.1<4096)/\(-4096<=c.2/\c.2<4096)):Xu (@Zb wv) bigN ⟨l,l,(l.length:Int),0,()⟩=some (.inr ⟨l,()⟩):=
 Kt (b:=@Zb wv) (λi=>⟨l,l,(l.length:Int),(i:Int),()⟩) l.length (by omega) (λi a=>by
  have hx:=Aa a;generalize l[i]=c at hx;have d:=e c (Ab hx);unfold Zb;dsimp only;rw [Qz (by omega),ge_s (fg hx),Jal,Jal,br_f (by simp [w_nt];omega),br_f (by simp [w_nt];omega),Kz,wr (by omega) (by omega)];rfl) (by unfold Zb;dsimp only;rw [Kb (by omega)])
theorem Of_ok(l:List Cell)(hl:l.length<=1000000000)(o:∀c∈l,(-4096<=c.1/\c.1<4096)/\(-4096<=c.2/\c.2<4096)):∃T,@Jak wv l=some (T,0)/\RegOK T/\∀c,Xi T c↔c∈l:=by
 have d:=jq (le:=leC) l;have m:=d.length_eq;obtain ⟨e,a,hV,g⟩:=Of_loop (Ja0 leC l) (by omega) (λc A=>o c (d.mem_iff.1 A)) (Jw4 l);refine ⟨_,?_,hV,λc=>(g c).trans d.mem_iff⟩;unfold Jak;rw [w_ln];refine (lo_s (Of_check l hl o)).trans ?_;dsimp only;have w:∀x,x=some ((K8 e.e λy=>(y.1,e.j.e)),(0:Int))->nlv (l.length:Int) (λv=>if v=true then (@W.loop wv _ _ _ (@zd wv) ⟨0,0,()⟩ λr=>some (([]:Reg),(0:Int))) else x)=some ((K8 e.e λy=>(y.1,e.j.e)),(0:Int)):=by
  rintro x rfl;unfold nlv;split
  ·rename_i E;have f:l=[]:=List.eq_nil_of_length_eq_zero (by omega);subst f;have h:e=⟨[],[],()⟩:=by have:Xu (@X4 wv) bigN ⟨(([]:List Cell).length:Int),0,[],[],[],()⟩=some ⟨[],[],()⟩:=Jdx (n:=18446744073709551615) rfl;have B:Ja0 leC []=[]:=rfl;rw [B] at a;rw [this] at a;injection a with a;exact a.symm
   subst h;have hd:Xu (@zd wv) bigN ⟨0,0,()⟩=some ():=Jdx (n:=18446744073709551615) rfl;exact (if_pos (show (@W.loop wv _ _ _ (@zd wv) ⟨0,0,()⟩ λr=>some (([]:Reg),(0:Int)))=_ from lo_s hd)).trans rfl
  ·rfl
 rw [w_nq,w_ln];refine w _ ?_;rw [w_pl,Jeb (by omega) (by omega),k_sortC hl,w_ln];refine (lo_s a).trans ?_;rw [w_ml]
theorem k_Of{α:Type}{l:List Cell}{T:Reg}(h:@Jak wv l=some (T,0))(k:(List (Int×List (Int×Int)))×Int->Option α):@W.call wv α Ku l k=k (T,0):=ca_s (c:=Ku) h
open Classical in
noncomputable def Jfl(l:List Kj):List Cell:=l.flatMap λt=>if VT t then t.2.2 else []
open Classical in
theorem Jqh(l:List Kj):(Jfl l).length<=(l.flatMap λt=>t.2.2).length:=by
 unfold Jfl
 induction l with
 | nil=>simp
 | cons t l a=>
  simp only [List.flatMap_cons,Ai];split
  ·omega
  ·rw [Au];omega
open Classical in
theorem Jt6(l:List Kj)(hl:l.length<=1000000000)(v:(l.flatMap λt=>t.2.2).length<=1000000000):∃T,@Q5 wv l=some T/\RegOK T/\∀c,Xi T c↔∃t∈l,VT t/\c∈t.2.2:=by
 have a:∀c,c∈Jfl l↔∃t∈l,VT t/\c∈t.2.2:=λc=>by
  unfold Jfl;rw [Aw];constructor
  ·rintro ⟨t,f,h⟩;split at h
   ·exact ⟨t,f,by assumption,h⟩
   ·cases h
  ·rintro ⟨t,f,o,m⟩;exact ⟨t,f,by rw [if_pos o];exact m⟩
 obtain ⟨T,hT,hV,r⟩:=Of_ok (Jfl l) (Nat.le_trans (Jqh l) v) (λc v=>by obtain ⟨t,f,o,m⟩:=(a c).1 v;obtain ⟨i,g⟩:=Af.1 m;have:=(o.2.2.1 i (Ad.1 g).1 c g).1;unfold grid at this;omega)
 refine ⟨T,?_,hV,λc=>(r c).trans (a c)⟩;have d:=Kt (b:=@Zf wv) (e:=⟨Jfl l,()⟩) (λi=>⟨l,(l.length:Int),(i:Int),Jfl (l.take i),()⟩) l.length (by omega) (λi g=>by
  have hx:=Aa g;generalize l[i]=t at hx;have o:=Jqh (l.take i);have m:=Qv (λt:Kj=>t.2.2) hx;have e:Jfl (l.take (i+1))=Jfl (l.take i)++if VT t then t.2.2 else []:=ze hx;unfold Zf;dsimp only;rw [Qz (by omega),ge_s (fg hx),Joi,Kz,wr (by omega) (by omega),e];by_cases hV:VT t
  ·rw [br_t (by simp [hV]),w_ln,w_ln,w_pl,Jeb (by omega) (by omega),w_ap,if_pos hV];rfl
  ·rw [br_f (by simp [hV]),if_neg hV,List.append_nil];rfl) (by unfold Zf;dsimp only;rw [Kb (by omega),List.take_length])
 unfold Q5;refine (lo_s d).trans ?_;dsimp only;rw [k_Of hT]
theorem Jp4{α:Type}{a b:Int}(k:Int->Option α):@W.call wv α Kv ((a,b):Int×Int) k=k (cmpI a b):=ca_s (c:=Kv) (Jgx a b)
theorem half(i j:Nat)(a:i+j<=4000000000):@W.cv wv .i64 (@W.sh wv .shr .u64 (@W.cv wv .u64 (IntKind.wrap .i64 ((i:Int)+(j:Int)))) 1)=(((i+j) / 2:Nat):Int):=by
 rw [wr (by omega) (by omega)];have e:@W.cv wv .u64 ((i:Int)+(j:Int))=((i+j:Nat):Int):=by show IntKind.wrap .u64 _=_;rw [IntKind.wrap_u64,Int.emod_eq_of_lt (by omega) (by omega)];omega
 rw [e];have d:@W.sh wv .shr .u64 ((i+j:Nat):Int) 1=(((i+j) / 2:Nat):Int):=by
  show Int.fdiv ((i+j:Nat):Int) (2 ^ (min (1:Int).toNat (IntKind.bits .u64)))=_;have:(2:Int) ^ (min (1:Int).toNat (IntKind.bits .u64))=2:=by rfl
  rw [this,Int.fdiv_eq_ediv_of_nonneg _ (by omega)];omega
 rw [d];exact wr (by omega) (by omega)
theorem Jyh{a b:Int}:cmpI a b<0↔a<b:=by unfold cmpI;(repeat' split)<;>omega
theorem Jyv{a b:Int}:cmpI a b=0↔a=b:=by unfold cmpI;(repeat' split)<;>omega
theorem Jm3(r:Reg)(y:Int)(hl:LimR r)(h:RegOK r):@Ja1 wv (r,y)=some (Jjn r y):=by
 have hL:=hl.1;have mono:∀(i j:Nat) (a b:Row),i<j->r[i]?=some a->r[j]?=some b->a.1<b.1:=λi j a b E Z Y=>by obtain ⟨P,e1⟩:=Ad.1 Z;obtain ⟨O,L⟩:=Ad.1 Y;have:=Aq.1 h.pw i j P O E;rwa [e1,L] at this
 obtain ⟨e,X,k,rfl,hk,o,A⟩:=Jqf (b:=@Jas wv) (s0:=⟨r,y,(r.length:Int),0,(r.length:Int),r,()⟩)
  (λs=>∃i j:Nat,s=⟨r,y,(r.length:Int),(i:Int),(j:Int),r,()⟩/\i<=j/\j<=r.length/\(∀m w,m<i->r[m]?=some w->w.1<y)/\∀m w,j<=m->r[m]?=some w->y<=w.1)
  (λe=>∃k:Nat,e=⟨r,y,(r.length:Int),(k:Int),r,()⟩/\k<=r.length/\(∀m w,m<k->r[m]?=some w->w.1<y)/\∀m w,k<=m->r[m]?=some w->y<=w.1)
  (λs=>(s.j.j.j.j.e - s.j.j.j.e).toNat) (by
  rintro s ⟨i,j,rfl,E,M,o,A⟩;unfold Jas;dsimp only;by_cases R:i<j
  ·have f:=Aa (l:=r) (i:=(i+j) / 2) (by omega);generalize r[(i+j) / 2]=w at f;rw [Kz,half i j (by omega),Qz (by omega),gd_t (by rfl),ge_s (fg f),Jp4,Kz,wr (by omega) (by omega)];left;by_cases K:w.1<y
   ·rw [Qz (Jyh.2 K)];refine ⟨_,rfl,⟨(i+j) / 2+1,j,by simp only [Int.natCast_add];rfl,by omega,M,λm v d g=>?_,A⟩,by dsimp only;omega⟩;by_cases e:m=(i+j) / 2
    ·subst e;rw [f] at g;injection g with e;subst e;exact K
    ·have:=mono m _ v w (by omega) g f;omega
   ·rw [Kb (λq=>K (Jyh.1 q))];refine ⟨_,rfl,⟨i,(i+j) / 2,rfl,by omega,by omega,o,λm v d g=>?_⟩,by dsimp only;omega⟩;by_cases e:m=(i+j) / 2
    ·subst e;rw [f] at g;injection g with e;subst e;omega
    ·have:=mono _ m w v (by omega) f g;omega
  ·right;have:i=j:=by omega
   subst this;rw [Kb (by omega)];exact ⟨_,rfl,i,rfl,M,o,A⟩) ⟨0,r.length,rfl,by omega,As _,λm w f=>by omega,λm w f G=>by have:=(Ad.1 G).1;omega⟩ (by dsimp only;omega)
 unfold Ja1;refine (lo_s X).trans ?_;dsimp only;have none_of:(∀w∈r,w.1≠y)->Jjn r y=[]:=λQ=>by
  unfold Jjn;have:r.find? (λw=>w.1==y)=none:=Av.2 λw G=>by simpa using Q w G
  rw [this]
 by_cases H:k<r.length
 ·have f:=Aa H;generalize r[k]=w at f;have B:=Ab f;rw [Qz (by omega),ge_s (fg f),Jp4,ge_s (fg f),w_br];by_cases F:w.1=y
  ·rw [if_neg (by rw [w_nt,Yf,Jyv.2 F];simp)];unfold Jjn;cases J:r.find? λv=>v.1==y with
   | none=>have:=Av.1 J w B;simp [F] at this
   | some v=>
    have g:v.1=y:=by have:=List.find?_some J;simpa using this
    rw [h.row_uniq B (Aj J) (by omega)]
  ·rw [if_pos (by rw [w_nt,Yf];simp;exact λq=>F (Jyv.1 q)),none_of];intro v g e;obtain ⟨m,d⟩:=Af.1 g;by_cases q:m<k
   ·have:=o m v q d;omega
   ·have a1:=A m v (by omega) d;have a2:=A k w (As _) f;by_cases N:m=k
    ·subst N;rw [f] at d;injection d with L;subst L;exact F e
    ·have:=mono k m w v (by omega) f d;omega
 ·rw [Kb (by omega),none_of];intro v g e;obtain ⟨m,d⟩:=Af.1 g;have:=o m v (by have:=(Ad.1 d).1;omega) d;omega
theorem Jo4{α:Type}{r:Reg}{y:Int}(hl:LimR r)(h:RegOK r)(k:List (Int×Int)->Option α):@W.call wv α Zk ((r,y):List (Int×List (Int×Int))×Int) k=k (Jjn r y):=ca_s (c:=Zk) (Jm3 r y hl h)
theorem rowAt_ok{r:Reg}(h:RegOK r)(y:Int):RunsOK (-1048576) 1048576 (Jjn r y):=by
 unfold Jjn;cases a:r.find? λw=>w.1==y with
 | none=>exact ⟨by simp,.nil⟩
 | some w=>
  have hV:=h.rs w (Aj a);exact ⟨λx hx=>by have:=hV.bd x hx;omega,hV.pw⟩
end Go.Proofs.YtmfagdfkpjgeiaaGreat
